/- The bridge, part 1: what an argument reads as, by its type. -/
import Derived.Deep.Slices
import Derived.Deep.OwnRows
import Derived.DataReads
import Derived.WideKeyArgs
import Derived.WideShapes
import Derived.ChangeShapes
import Derived.ProofKit
import Derived.OpenShut
import Derived.JoinedOf
import Derived.Handed
import Derived.RowKit
import Derived.Test.YtdleindmpgadcaaRows
import Derived.Test.YtdleindmpgadcaaQ3
set_option linter.unusedSimpArgs false
set_option linter.unusedVariables false
namespace Go.Ab

inductive Ty where
  | int (k : IntKind)
  | bool
  | str
  | sl (s : Nat) (e : Ty)
  | st (f : Ty)
  | nil
  | cons (a r : Ty)

/-- The cells l are of the type. -/
def Ty.wt : Ty → List T → Prop
  | .int k, l => ∃ n, l = [.v (.int k n)] ∧ (Lit.int k n).wf = true
  | .bool, l => ∃ b, l = [.v (.bool b)]
  | .str, l => ∃ s, l = [.v (.string s)] ∧ s.size ≤ maxLen
  | .sl s e, l => ∃ xs : List (List T), l = [.sh s xs.flatten] ∧ xs.length ≤ maxLen ∧ ∀ x ∈ xs, x.length = s ∧ e.wt x
  | .st f, l => f.wt l
  | .nil, l => l = []
  | .cons a r, l => ∃ l1 l2, l = l1 ++ l2 ∧ a.wt l1 ∧ r.wt l2

/-- The tree t is a value of the type. -/
def Ty.wtV : Ty → T → Prop
  | .st f, t => ∃ l, t = .agg l ∧ f.wt l
  | ty, t => ty.wt [t]

mutual
def Ty.fits (P : Program) : Ty → TypeId → Bool
  | .int k, t => (match P.underlying t with | some (.int k') => decide (k' = k) | _ => false)
  | .bool, t => (match P.underlying t with | some .bool => true | _ => false)
  | .str, t => (match P.underlying t with | some .string => true | _ => false)
  | .sl s e, t => (match P.underlying t with | some (.slice et) => decide (P.cellsOf et = s) && decide (0 < s) && e.fits P et | _ => false)
  | .st f, t => (match P.underlying t with | some (.struct fs) => f.fitsF P (P.cellsOf t) 0 fs.toList | _ => false)
  | .nil, _ => false
  | .cons _ _, _ => false
def Ty.fitsF (P : Program) : Ty → Nat → Nat → List Field → Bool
  | .nil, n, o, [] => decide (o = n)
  | .cons a r, n, o, f :: fs => decide (f.offset = o) && a.fits P f.type && r.fitsF P n (o + P.cellsOf f.type) fs
  | _, _, _, _ => false
end

section
variable {H : Type} {enc : TypeId × Value → H} {P : Program} {w : World} {base : Nat} {spare : Nat → Bool} {held : Bool}

theorem cell_block {a : Addr} {v : Value} (h : w.cell? a = some v) : a.spot = none ∧ ∃ cs e fz, w.heap[a.block]? = some (.cells cs e fz) ∧ cs[a.off]? = some v := by
  unfold World.cell? at h
  split at h
  · rename_i c e fz hc
    split at h
    · cases h
    · rename_i hs
      exact ⟨by simpa using hs, c, e, fz, hc, h⟩
  · cases h

theorem add_block (a : Addr) (i : Nat) : (a.add i).block = a.block := by
  unfold Addr.add; split <;> rfl
theorem add_off (a : Addr) (i : Nat) : (a.add i).off = a.off + i := by
  unfold Addr.add; split
  · rename_i h; subst h; rfl
  · rfl

theorem getD_some {vs : List Value} {i : Nat} {v : Value} (h : vs[i]? = some v) : vs.getD i undef = v := by
  rw [List.getD_eq_getElem?_getD, h]; rfl

theorem Ty.read (O : Nat → Prop) (hO : ∀ b, ¬ O b) : ∀ (ty : Ty),
    (∀ (t : TypeId) (fuel : Nat) (cs : List Value) (x : DataW H × List MemPlace), ty.fits P t = true → DataW.trod enc P w base (fun _ => true) held fuel t cs = some x →
      ∃ l, ty.wt l ∧ l.length = cs.length ∧ ∀ i (h : i < l.length), Rd w O l[i] (cs.getD i undef)) ∧
    (∀ (n o : Nat) (fs : List Field) (fuel : Nat) (cs : List Value), ty.fitsF P n o fs = true → cs.length = n →
      (∀ f ∈ fs, ∃ x, DataW.trod enc P w base (fun _ => true) held fuel f.type ((cs.drop f.offset).take (P.cellsOf f.type)) = some x) →
      ∃ l, ty.wt l ∧ l.length = n - o ∧ (∀ i (h : i < l.length), Rd w O l[i] ((cs.drop o).getD i undef))) := by
  have one : ∀ (v : Value), ∀ i (h : i < [T.v v].length), Rd w O [T.v v][i] ([v].getD i undef) := fun v i h => by
    have : i = 0 := by simpa using h
    subst this; exact .v v
  intro ty
  induction ty with
  | int k =>
    refine ⟨fun t fuel cs x hf h => ?_, fun n o fs fuel cs hf => by simp [Ty.fitsF] at hf⟩
    simp only [Ty.fits] at hf
    split at hf
    · rename_i k' ht
      have : k' = k := by simpa using hf
      subst this
      obtain ⟨n, rfl, _, hw⟩ := DataW.trod_int ht h
      exact ⟨_, ⟨n, rfl, hw⟩, rfl, one _⟩
    · cases hf
  | bool =>
    refine ⟨fun t fuel cs x hf h => ?_, fun n o fs fuel cs hf => by simp [Ty.fitsF] at hf⟩
    simp only [Ty.fits] at hf
    split at hf
    · rename_i ht
      obtain ⟨n, rfl, _⟩ := DataW.trod_bool ht h
      exact ⟨_, ⟨n, rfl⟩, rfl, one _⟩
    · cases hf
  | str =>
    refine ⟨fun t fuel cs x hf h => ?_, fun n o fs fuel cs hf => by simp [Ty.fitsF] at hf⟩
    simp only [Ty.fits] at hf
    split at hf
    · rename_i ht
      obtain ⟨n, rfl, _, hw⟩ := DataW.trod_string ht h
      exact ⟨_, ⟨n, rfl, hw⟩, rfl, one _⟩
    · cases hf
  | sl s e ih =>
    refine ⟨fun t fuel cs x hf h => ?_, fun n o fs fuel cs hf => by simp [Ty.fitsF] at hf⟩
    simp only [Ty.fits] at hf
    split at hf
    · rename_i et ht
      simp only [Bool.and_eq_true, decide_eq_true_eq] at hf
      obtain ⟨⟨hs, hs0⟩, hfe⟩ := hf
      have single : ∀ (t : T) (v : Value), Rd w O t v → ∀ i (h : i < [t].length), Rd w O [t][i] ([v].getD i undef) := fun t v hr i h => by
        have : i = 0 := by simpa using h
        subst this; exact hr
      rcases Deep.open_slice ht h with ⟨rfl, _⟩ | ⟨a, len, cap, m, n, D, Pl, rfl, hb, hl, hm, hmm, _, hx⟩
      · exact ⟨_, ⟨[], rfl, Nat.zero_le _, by simp⟩, rfl, single _ _ (.shNil s)⟩
      · simp only [if_true] at hmm
        subst hmm
        have each : ∀ i, i < len → ∃ y : List T × List Value, w.cells? base (a.add (i * s)) s = some y.2 ∧ e.wt y.1 ∧ y.1.length = s ∧ ∀ j (h : j < y.1.length), Rd w O y.1[j] (y.2.getD j undef) := by
          intro i hi
          obtain ⟨cs', h1, h2⟩ := hx i (by omega)
          rw [hs] at h1
          obtain ⟨l, hwt, hlen, hr⟩ := ih.1 _ _ _ _ hfe h2
          exact ⟨(l, cs'), h1, hwt, hlen.trans (World.cells?_some h1).2.1, hr⟩
        obtain ⟨y, hy⟩ := Deep.choose_lt each
        rcases Nat.eq_zero_or_pos len with h0 | h0
        · subst h0
          exact ⟨_, ⟨[], rfl, Nat.zero_le _, by simp⟩, rfl, single _ _ (.shZ s a _)⟩
        · -- the block
          have cell : ∀ i j, i < len → j < s → w.cell? ((a.add (i * s)).add j) = some ((y i).2.getD j undef) := fun i j hi hj => by
            obtain ⟨h1, hwt, hlen, hr⟩ := hy i hi
            obtain ⟨_, h2, h3⟩ := World.cells?_some h1
            rw [h3 j hj, List.getD_eq_getElem?_getD, List.getElem?_eq_getElem (by omega)]; rfl
          have hfirst := cell 0 0 h0 hs0
          rw [Nat.zero_mul] at hfirst
          obtain ⟨hsp, cs, ee, fz, hblk, _⟩ := cell_block hfirst
          rw [add_block, add_block] at hblk
          have at' : ∀ i j, i < len → j < s → cs[a.off + i * s + j]? = some ((y i).2.getD j undef) := fun i j hi hj => by
            obtain ⟨_, cs2, e2, fz2, h1, h2⟩ := cell_block (cell i j hi hj)
            rw [add_block, add_block, hblk] at h1
            simp only [Option.some.injEq, Obj.cells.injEq] at h1
            rw [add_off, add_off, ← h1.1] at h2
            exact h2
          have hsp' : a.spot = none := by
            unfold Addr.add at hsp
            simpa using hsp
          obtain ⟨b, off, sp⟩ := a
          simp only at hsp' hblk at'
          subst hsp'
          have hfl : ∀ i, i ≤ len → (((List.range i).map fun i => (y i).1).flatten).length = i * s := fun i => by
            induction i with
            | zero => intro _; simp
            | succ i ihi =>
              intro hi
              rw [List.range_succ, List.map_append, List.flatten_append, List.length_append, ihi (by omega)]
              simp only [List.map_cons, List.map_nil, List.flatten_cons, List.flatten_nil, List.append_nil, (hy i (by omega)).2.2.1, Nat.succ_mul]
          refine ⟨[.sh s ((List.range len).map fun i => (y i).1).flatten], ⟨_, rfl, by simp; exact Nat.le_trans hl hm, fun x hx => ?_⟩, rfl, single _ _ ?_⟩
          · obtain ⟨i, hi, rfl⟩ := List.mem_map.1 hx
            have := hy i (by simpa using hi)
            exact ⟨this.2.2.1, this.2.1⟩
          · have hlast := at' (len - 1) (s - 1) (by omega) (by omega)
            obtain ⟨hlt, _⟩ := Array.getElem?_eq_some_iff.1 hlast
            have hmul : (len - 1) * s + s = len * s := by rw [← Nat.succ_mul]; congr 1; omega
            refine .sh s _ b off len _ cs ee fz (hO b) hblk (by rw [hfl len (Nat.le_refl _)]; omega) (hfl len (Nat.le_refl _)) hl fun k hk => ?_
            rw [hfl len (Nat.le_refl _)] at hk
            have hi : k / s < len := Nat.div_lt_of_lt_mul (by rw [Nat.mul_comm]; exact hk)
            have hj : k % s < s := Nat.mod_lt _ hs0
            have hk' : k / s * s + k % s = k := by rw [Nat.mul_comm]; exact Nat.div_add_mod k s
            have e1 : (((List.range len).map fun i => (y i).1).flatten)[k]? = (y (k / s)).1[k % s]? := by
              have hsplit : ∃ rest, List.range len = List.range (k / s) ++ (k / s) :: rest := by
                refine ⟨((List.range (len - k / s - 1)).map Nat.succ).map (k / s + ·), ?_⟩
                have h1 : List.range (k / s + (len - k / s)) = List.range (k / s) ++ (List.range (len - k / s)).map (k / s + ·) := List.range_add
                rw [show k / s + (len - k / s) = len by omega] at h1
                have h2 : List.range (len - k / s) = 0 :: (List.range (len - k / s - 1)).map Nat.succ := by
                  rw [← List.range_succ_eq_map]; congr 1; omega
                rw [h1, h2]; rfl
              obtain ⟨rest, hsplit⟩ := hsplit
              rw [hsplit, List.map_append, List.flatten_append, List.getElem?_append_right (by rw [hfl _ (Nat.le_of_lt hi)]; omega), hfl _ (Nat.le_of_lt hi), List.map_cons, List.flatten_cons,
                List.getElem?_append_left (by rw [(hy _ hi).2.2.1]; omega)]
              congr 1; omega
            have hjl : k % s < (y (k / s)).1.length := by rw [(hy _ hi).2.2.1]; exact hj
            have hget : (((List.range len).map fun i => (y i).1).flatten)[k]'(by rw [hfl len (Nat.le_refl _)]; exact hk) = (y (k / s)).1[k % s] := by
              have h1 := List.getElem?_eq_getElem (l := ((List.range len).map fun i => (y i).1).flatten) (i := k) (by rw [hfl len (Nat.le_refl _)]; exact hk)
              rw [e1, List.getElem?_eq_getElem hjl] at h1
              exact (Option.some.inj h1).symm
            rw [hget]
            have hc := at' (k / s) (k % s) hi hj
            rw [Nat.add_assoc, hk'] at hc
            have : cs.getD (off + k) undef = (y (k / s)).2.getD (k % s) undef := by rw [Array.getD_eq_getD_getElem?, hc]; rfl
            rw [this]
            exact (hy _ hi).2.2.2 _ hjl
    · cases hf
  | st f ih =>
    refine ⟨fun t fuel cs x hf h => ?_, fun n o fs fuel cs hf => by simp [Ty.fitsF] at hf⟩
    simp only [Ty.fits] at hf
    split at hf
    · rename_i fs ht
      obtain ⟨xs, n, rfl, _, hlen, hxl, hx⟩ := DataW.trod_struct ht h
      obtain ⟨l, hwt, hl, hr⟩ := ih.2 _ _ _ n cs hf hlen (fun f hf' => by
        obtain ⟨i, hi, rfl⟩ := List.mem_iff_getElem.1 hf'
        have h1 := hx i fs.toList[i] (by simp only [Array.length_toList] at hi; simp [hi])
        have hi' : i < xs.length := by rw [hxl]; simpa using hi
        rw [List.getElem?_eq_getElem hi'] at h1
        exact ⟨_, h1⟩)
      exact ⟨l, hwt, by omega, by simpa using hr⟩
    · cases hf
  | nil =>
    refine ⟨fun t fuel cs x hf h => by simp [Ty.fits] at hf, fun n o fs fuel cs hf hn _ => ?_⟩
    cases fs with
    | cons f fs => simp [Ty.fitsF] at hf
    | nil =>
      have : o = n := by simpa [Ty.fitsF] using hf
      exact ⟨[], rfl, by simp; omega, fun i h => absurd h (by simp)⟩
  | cons a r iha ihr =>
    refine ⟨fun t fuel cs x hf h => by simp [Ty.fits] at hf, fun n o fs fuel cs hf hn hx => ?_⟩
    cases fs with
    | nil => simp [Ty.fitsF] at hf
    | cons f fs =>
      simp only [Ty.fitsF, Bool.and_eq_true, decide_eq_true_eq] at hf
      obtain ⟨⟨rfl, hfa⟩, hfr⟩ := hf
      obtain ⟨x, h1⟩ := hx f (by simp)
      obtain ⟨l1, hw1, hl1, hr1⟩ := iha.1 _ _ _ _ hfa h1
      obtain ⟨l2, hw2, hl2, hr2⟩ := ihr.2 _ _ _ fuel cs hfr hn (fun g hg => hx g (by simp [hg]))
      simp only [List.length_take, List.length_drop] at hl1
      refine ⟨l1 ++ l2, ⟨l1, l2, rfl, hw1, hw2⟩, by rw [List.length_append]; omega, fun i h => ?_⟩
      by_cases hi : i < l1.length
      · rw [List.getElem_append_left hi]
        have := hr1 i hi
        rwa [List.getD_eq_getElem?_getD, List.getElem?_take_of_lt (by omega), ← List.getD_eq_getElem?_getD] at this
      · rw [List.getElem_append_right (by omega)]
        have := hr2 (i - l1.length) (by rw [List.length_append] at h; omega)
        rw [List.getD_eq_getElem?_getD, List.getElem?_drop] at this ⊢
        rw [List.length_append] at h
        rwa [show f.offset + P.cellsOf f.type + (i - l1.length) = f.offset + i by omega] at this
end
end Go.Ab

/- The bridge, part 2: a law that is a contract is a law of the row's form. -/
set_option linter.unusedSimpArgs false
set_option linter.unusedVariables false
namespace Go.Ab
open Go.ChangeShapes Go.WideShapes Go.ChangeAt Go.RowKit

def fitsL (P : Program) : List Ty → List TypeId → Bool
  | [], [] => true
  | ty :: tys, t :: ts => ty.fits P t && decide (t < P.types.size) && P.readableRec t && fitsL P tys ts
  | _, _ => false
def wtL : List Ty → List T → Prop
  | [], [] => True
  | ty :: tys, x :: xs => ty.wtV x ∧ wtL tys xs
  | _, _ => False

section
variable {H : Type} {enc : TypeId × Value → H} {P : Program} {w : World} {base : Nat} {held : Bool}

theorem Ty.readV (O : Nat → Prop) (hO : ∀ b, ¬ O b) {ty : Ty} {t : TypeId} {v : Value} {d : DataW H} {ps : List MemPlace} {w' : World} {r : Reach} {b0 : Nat} (hf : ty.fits P t = true) (hok : Value.okWide P w' r b0 t v)
    (h : DataW.Trod enc P w base (fun _ => true) held t v d ps) : ∃ x, ty.wtV x ∧ Rd w O x v := by
  obtain ⟨fuel, h⟩ := h
  obtain ⟨l, hwt, hl, hr⟩ := (Ty.read (P := P) O hO ty).1 t fuel _ _ hf h
  have single : v.cells = #[v] → ∀ x : T, l = [x] → Rd w O x v := fun hc x hx => by
    subst hx
    have := hr 0 (by simp)
    rw [hc] at this
    exact this
  cases ty with
  | int k =>
    simp only [Ty.fits] at hf
    split at hf
    · rename_i k' ht
      obtain ⟨n, rfl⟩ := okWide_int ht hok
      obtain ⟨m, rfl, hw⟩ := hwt
      exact ⟨_, ⟨m, rfl, hw⟩, single rfl _ rfl⟩
    · cases hf
  | bool =>
    simp only [Ty.fits] at hf
    split at hf
    · rename_i ht
      obtain ⟨n, rfl⟩ := okWide_bool ht hok
      obtain ⟨m, rfl⟩ := hwt
      exact ⟨_, ⟨m, rfl⟩, single rfl _ rfl⟩
    · cases hf
  | str =>
    simp only [Ty.fits] at hf
    split at hf
    · rename_i ht
      obtain ⟨n, rfl⟩ := okWide_string ht hok
      obtain ⟨m, rfl, hw⟩ := hwt
      exact ⟨_, ⟨m, rfl, hw⟩, single rfl _ rfl⟩
    · cases hf
  | sl s e =>
    simp only [Ty.fits] at hf
    split at hf
    · rename_i et ht
      obtain ⟨a, len, cap, rfl⟩ := okWide_slice ht hok
      obtain ⟨m, rfl, hw⟩ := hwt
      exact ⟨_, ⟨m, rfl, hw⟩, single rfl _ rfl⟩
    · cases hf
  | st f =>
    simp only [Ty.fits] at hf
    split at hf
    · rename_i fs ht
      simp only [Value.okWide, ht] at hok
      obtain ⟨cs, rfl, _, _⟩ := hok
      refine ⟨.agg l, ⟨l, rfl, hwt⟩, ?_⟩
      have := Rd.agg (w := w) (O := O) l cs.toList (by rw [hl]; rfl) hr
      simpa using this
    · cases hf
  | nil => simp [Ty.fits] at hf
  | cons a r => simp [Ty.fits] at hf

theorem args_read (O : Nat → Prop) (hO : ∀ b, ¬ O b) {w' : World} {r : Reach} {b0 : Nat} : ∀ {tys : List Ty} {ts : List TypeId} {vs : List Value} {ds : List (DataW H)} {ps : List MemPlace}, fitsL P tys ts = true →
    DataW.TrodAll enc P w base (fun _ => true) held ts vs ds ps → (∀ (j : Nat) (t : TypeId) (v : Value), ts[j]? = some t → vs[j]? = some v → Value.okWide P w' r b0 t v) →
    ∃ xs, wtL tys xs ∧ vs.length = xs.length ∧ ds.length = tys.length ∧ ∀ i (h : i < xs.length), Rd w O xs[i] (vs.getD i undef)
  | [], [], vs, ds, ps, _, h, _ => by
    cases vs <;> cases ds <;> simp only [DataW.TrodAll] at h
    exact ⟨[], trivial, rfl, rfl, fun i h => absurd h (by simp)⟩
  | [], _ :: _, vs, ds, ps, hf, h, _ => by simp [fitsL] at hf
  | _ :: _, [], vs, ds, ps, hf, h, _ => by simp [fitsL] at hf
  | ty :: tys, t :: ts, vs, ds, ps, hf, h, hok => by
    simp only [fitsL, Bool.and_eq_true] at hf
    cases vs with
    | nil => simp [DataW.TrodAll] at h
    | cons v vs =>
      cases ds with
      | nil => simp [DataW.TrodAll] at h
      | cons d ds =>
        obtain ⟨p, q, h1, h2, _⟩ := h
        obtain ⟨x, hx, hr⟩ := Ty.readV O hO hf.1.1.1 (hok 0 t v rfl rfl) h1
        obtain ⟨xs, hxs, hl, hd, hrs⟩ := args_read O hO hf.2 h2 (fun j t v h1 h2 => hok (j + 1) t v (by simpa using h1) (by simpa using h2))
        refine ⟨x :: xs, ⟨hx, hxs⟩, by simp [hl], by simp [hd], fun i hi => ?_⟩
        cases i with
        | zero => exact hr
        | succ i => simpa [List.getD_eq_getElem?_getD] using hrs i (by simpa using hi)

theorem args_stay {w w' : World} {sp : Nat → Bool} (hl : laidOutB P = true) : ∀ {tys : List Ty} {ts : List TypeId} {vs : List Value} {ds : List (DataW H)} {ps : List MemPlace}, fitsL P tys ts = true →
    DataW.TrodAll enc P w base (fun _ => true) true ts vs ds ps → (∀ p ∈ ps, w.sameAt w' p ∧ sp p.block = true) → DataW.TrodAll enc P w' base sp true ts vs ds ps
  | [], [], vs, ds, ps, _, h, _ => by
    cases vs <;> cases ds <;> simp only [DataW.TrodAll] at h ⊢
    exact h
  | [], _ :: _, vs, ds, ps, hf, h, _ => by simp [fitsL] at hf
  | _ :: _, [], vs, ds, ps, hf, h, _ => by simp [fitsL] at hf
  | ty :: tys, t :: ts, vs, ds, ps, hf, h, hs => by
    simp only [fitsL, Bool.and_eq_true, decide_eq_true_eq] at hf
    cases vs with
    | nil => simp [DataW.TrodAll] at h
    | cons v vs =>
      cases ds with
      | nil => simp [DataW.TrodAll] at h
      | cons d ds =>
        obtain ⟨p, q, h1, h2, rfl⟩ := h
        exact ⟨p, q, WideElems.Trod_stays hl hf.1.2 hf.1.1.2 h1 (fun x hx => (hs x (by simp [hx])).1) (fun x hx => (hs x (by simp [hx])).2), args_stay hl hf.2 h2 (fun x hx => hs x (by simp [hx])), rfl⟩

/-- The contract that a row's builder asks for. -/
theorem law_contract {f : FuncId} {fn : Func} {s : ChangeSpec} {tys : List Ty} {tb : TypeId} {apart fresh handsOn : Bool} (hlaid : laidOutB P = true) (hfit : fitsL P tys fn.params.toList = true) (hres : fn.resultTypes = #[tb]) (hbool : P.underlying tb = some .bool)
    (hvars : s.vars = []) (hspec : ∀ (ds : List (DataW H)), ds.length = tys.length → s.fn H ds = { results := [.lit (.bool true)], args := ds }) (hF : ∀ xs, wtL tys xs → Pure P f xs (.b true))
    (W : World) (base : Nat) (args : Array Value) (ds gs : List (DataW H)) (before : List MemPlace) (hval : ∀ (j : Nat) t v, fn.params[j]? = some t → args[j]? = some v → Value.okWide P W .any base t v)
    (hW : DataW.Whole enc P fn.params.toList s.vars apart W args.toList ds gs before) : Calls P f args W fun e W' => ∃ v, e = .returned v ∧ s.post enc P fn apart fresh handsOn false W args v W' := by
  have hW' := hW
  obtain ⟨p, q, hA, hV, rfl, hfz, hnd⟩ := hW
  rw [hvars] at hV
  have hV' := hV
  cases gs with
  | cons _ _ => simp [DataW.TrodVars] at hV
  | nil =>
    simp only [DataW.TrodVars] at hV
    subst hV
    obtain ⟨xs, hwt, hlen, hdl, hr⟩ := args_read (P := P) (fun _ => False) (fun _ h => h) hfit hA (fun j t v h1 h2 => hval j t v (by simpa using h1) (by simpa using h2))
    have hlt : ∀ x ∈ p, x.block < W.heap.size := fun x hx => hW'.lt x (by simp [hx])
    have mem : Mem (fun _ => False) W [] (fun _ => none) (fun _ => []) := ⟨fun i t h => by simp at h, fun _ _ => ⟨rfl, rfl⟩, fun _ _ b h => by simp at h, fun _ => by simp, fun _ b h => by simp at h, fun _ h => h.elim, fun _ _ h => by cases h⟩
    have hO : ∀ b, ¬ Ob (fun _ => False) (fun _ => []) b := fun b h => by
      rcases h with h | ⟨r, h⟩
      · exact h
      · simp at h
    have hc := hF xs hwt _ W args.toList _ _ mem (by simpa using hlen) (fun i h => by
      have hi : i < xs.length := by simpa using h
      rw [List.getElem_map]
      exact .t ((hr i hi).mono (fun _ _ _ _ _ h => h) (fun b _ _ => hO b)))
    simp only [Array.toArray_toList] at hc
    refine hc.mono ?_
    rintro e W' ⟨v, res, rout, fr, fp', rfl, ⟨rfl, rfl⟩, _, out⟩
    have hv : v = .bool true := by
      cases out.res with
      | rd h => cases h; rfl
    subst hv
    have hs : W.Since W.heap.size W' := ⟨out.os, out.tape, out.output, out.size, fun b hb => out.frame b hb (fun j h => by simp at h)⟩
    refine ⟨_, rfl, ds, [], p ++ [], [], p, [], hW', ?_, ?_, ?_, hs.frame _, fun h => by cases h⟩
    · rw [List.append_nil, hspec ds hdl, hres]
      exact trodAll_cons_mk (shut_bool hbool _) trodAll_mk0
    · rw [List.append_nil, hspec ds hdl]
      exact args_stay hlaid hfit hA fun x hx => ⟨hs.sameAt (hlt x hx), by simpa using hlt x hx⟩
    · rw [List.append_nil, hspec ds hdl, hvars]
      exact hV'
end
end Go.Ab

/- The abstract layer, part 21: rows and matrices as data; small facts for the walks. -/
set_option linter.unusedSimpArgs false
set_option linter.unusedVariables false
namespace Go.Ab

/-- A row that is only read, and a matrix. -/
def ints (l : List Int) : T := .sh 1 (l.map T.i)
def rows (m : List (List Int)) : T := .sh 1 (m.map ints)
/-- The same, owned. -/
def intsO (l : List Int) : T := .arr 1 (l.map T.i)
def rowsO (m : List (List Int)) : T := .arr 1 (m.map intsO)

/-- A ratio. -/
def rat (r : Int × Int) : T := .agg [T.i r.1, T.i r.2]

/-- Lists of ratios. -/
def ratC (l : List (Int × Int)) : List T := l.flatMap fun r => [T.i r.1, T.i r.2]
def rats (l : List (Int × Int)) : T := .sh 2 (ratC l)
def ratsO (l : List (Int × Int)) : T := .arr 2 (ratC l)
theorem ratC_nil : ratC [] = [] := rfl
theorem ratC_cons (r : Int × Int) (l : List (Int × Int)) : ratC (r :: l) = T.i r.1 :: T.i r.2 :: ratC l := rfl
theorem ratC_append (l l' : List (Int × Int)) : ratC (l ++ l') = ratC l ++ ratC l' := by simp [ratC]
theorem ratC_length : ∀ l : List (Int × Int), (ratC l).length = l.length * 2
  | [] => rfl
  | r :: l => by rw [ratC_cons]; simp [ratC_length l]; omega
theorem ratC_div (l : List (Int × Int)) : (ratC l).length / 2 = l.length := by rw [ratC_length]; omega
theorem ratC_drop : ∀ (l : List (Int × Int)) (i : Nat), (ratC l).drop (i * 2) = ratC (l.drop i)
  | l, 0 => by simp
  | [], i + 1 => by simp [ratC]
  | r :: l, i + 1 => by rw [ratC_cons, show (i + 1) * 2 = i * 2 + 1 + 1 by omega, List.drop_succ_cons, List.drop_succ_cons, ratC_drop l i]; rfl
theorem ratC_take : ∀ (l : List (Int × Int)) (i : Nat), (ratC l).take (i * 2) = ratC (l.take i)
  | l, 0 => by simp [ratC]
  | [], i + 1 => by simp [ratC]
  | r :: l, i + 1 => by rw [ratC_cons, show (i + 1) * 2 = i * 2 + 1 + 1 by omega, List.take_succ_cons, List.take_succ_cons, ratC_take l i]; rfl
theorem ratC_at {l : List (Int × Int)} {i : Nat} {r : Int × Int} (h : l[i]? = some r) : ((ratC l).drop (i * 2)).take 2 = [T.i r.1, T.i r.2] := by
  obtain ⟨hi, rfl⟩ := List.getElem?_eq_some_iff.1 h
  rw [ratC_drop, List.drop_eq_getElem_cons hi, ratC_cons]; rfl
theorem ratC_get1 {l : List (Int × Int)} {i : Nat} {r : Int × Int} (h : l[i]? = some r) : (ratC l)[i * 2]? = some (T.i r.1) := by
  have := congrArg (·[0]?) (ratC_at h)
  simpa [List.getElem?_take, List.getElem?_drop] using this
theorem ratC_get2 {l : List (Int × Int)} {i : Nat} {r : Int × Int} (h : l[i]? = some r) : (ratC l)[i * 2 + 1]? = some (T.i r.2) := by
  have := congrArg (·[1]?) (ratC_at h)
  simpa [List.getElem?_take, List.getElem?_drop] using this
theorem toShL_ratC : ∀ l : List (Int × Int), T.toShL (ratC l) = ratC l
  | [] => rfl
  | r :: l => by rw [ratC_cons, T.toShL, T.toShL, toShL_ratC l]; rfl
theorem ratC_all_cell (l : List (Int × Int)) : (ratC l).all T.cell = true := by
  rw [List.all_eq_true]; intro t ht; obtain ⟨x, _, h⟩ := List.mem_flatMap.1 ht
  rcases List.mem_cons.1 h with rfl | h
  · rfl
  · rcases List.mem_cons.1 h with rfl | h
    · rfl
    · cases h
theorem ratC_all_flat (l : List (Int × Int)) : (ratC l).all T.flat = true := by
  rw [List.all_eq_true]; intro t ht; obtain ⟨x, _, h⟩ := List.mem_flatMap.1 ht
  rcases List.mem_cons.1 h with rfl | h
  · rfl
  · rcases List.mem_cons.1 h with rfl | h
    · rfl
    · cases h
theorem ratsO_toSh (l : List (Int × Int)) : (ratsO l).toSh = rats l := by simp only [ratsO, rats, T.toSh, toShL_ratC]
theorem ratsO_noSh (l : List (Int × Int)) : (ratsO l).noSh := by
  simp only [ratsO, T.noSh]
  rw [T.noShL_iff]
  intro t ht; obtain ⟨x, _, h⟩ := List.mem_flatMap.1 ht
  rcases List.mem_cons.1 h with rfl | h
  · trivial
  · rcases List.mem_cons.1 h with rfl | h
    · trivial
    · cases h
theorem absT_ratsO (d k : Nat) (m : List (Int × Int)) : absT d k (ratsO m) = (.own (rid d k), [(rid d k, ratsO m)], k + 1) := rfl
theorem rootOf_intsO (l : List Int) : rootOf (intsO l) = .live (intsO l) [] := rfl
theorem rootOf_rowsO (l : List (List Int)) : rootOf (rowsO l) = .live (rowsO l) [] := rfl
theorem rootOf_ratsO (l : List (Int × Int)) : rootOf (ratsO l) = .live (ratsO l) [] := rfl
attribute [go_sem] ratC_div ratC_all_cell ratC_all_flat absT_ratsO rootOf_intsO rootOf_rowsO rootOf_ratsO rootOf_arr rootOf_box rootOf_any

theorem all_cell_ints (l : List Int) : (l.map T.i).all T.cell = true := by
  rw [List.all_eq_true]; intro t ht; obtain ⟨x, _, rfl⟩ := List.mem_map.1 ht; rfl
theorem all_flat_ints (l : List Int) : (l.map T.i).all T.flat = true := by
  rw [List.all_eq_true]; intro t ht; obtain ⟨x, _, rfl⟩ := List.mem_map.1 ht; rfl
theorem all_cell_intsO (m : List (List Int)) : (m.map intsO).all T.cell = true := by
  rw [List.all_eq_true]; intro t ht; obtain ⟨x, _, rfl⟩ := List.mem_map.1 ht; rfl

theorem wrap64 {n : Int} (h : -9223372036854775808 ≤ n) (h' : n < 9223372036854775808) : IntKind.i64.wrap n = n := by
  simp [IntKind.wrap, IntKind.bits, IntKind.signed]
  omega
theorem next64 {i n : Nat} (h : i < n) (hn : n ≤ 1000000000000) : IntKind.i64.wrap ((i : Int) + 1) = ((i + 1 : Nat) : Int) := by
  rw [wrap64 (by omega) (by omega)]; rfl
theorem vt_self (S : St) (bor : List Nat) (x : T) : vt S bor x (.t x) = True := by
  cases x <;> simp [vt, vb, maT]
theorem toNat_cast (i : Nat) : (i : Int).toNat = i := rfl
theorem take_succ_all {α : Type} {p : α → Prop} {l : List α} {i : Nat} {x : α} (hx : l[i]? = some x) (h : ∀ y ∈ l.take i, p y) (hp : p x) : ∀ y ∈ l.take (i + 1), p y := by
  intro y hy
  rw [List.take_add_one, hx] at hy
  simp only [Option.toList_some, List.mem_append, List.mem_singleton] at hy
  rcases hy with hy | rfl
  · exact h y hy
  · exact hp
theorem intsO_noSh (l : List Int) : (intsO l).noSh := by
  simp only [intsO, T.noSh]
  rw [T.noShL_iff]
  intro t ht
  obtain ⟨x, _, rfl⟩ := List.mem_map.1 ht
  simp [T.noSh]

section
variable {P : Program} {n : Nat} {S : St}
/-- A call with a determined result. -/
theorem CallW.res {d : Option Nat} {fo : Operand} {ops : List Operand} {K : St → Prop} {f : FuncId} {cap : List A} {args : List A} {res : T} (hF : Fun P f [] args fun o r => o = [] ∧ r = res) (bor : List Nat) (hfo : fnA (S.ev fo) = some (f, cap)) (hcall : ∀ args w, (callFunc f args).run P w = .ok (.enter f args) w)
    (hargs : vaL S [] bor args (ops.map S.ev ++ cap)) (hns : bor = [] ∨ res.noSh) (hk : afterCall S d [] [] res K) : CallW P n d fo ops K S := by
  refine CallW.use hfo hcall hF [] bor (by simp) trivial (fun q _ => by simp) hargs fun rout res' h => ?_
  obtain ⟨rfl, rfl⟩ := h
  refine ⟨?_, hk⟩
  rcases hns with h | h
  · exact .inl h
  · exact .inr ⟨h, trivial⟩
end

section
variable {P : Program} {n : Nat} {S : St}
/-- A call that works on roots. -/
theorem CallW.ref {d : Option Nat} {fo : Operand} {ops : List Operand} {K : St → Prop} {f : FuncId} {cap : List A} {rin : List T} {args : List A} {rout : List T} {res : T} (hF : Fun P f rin args fun o r => o = rout ∧ r = res) (srcs bor : List Nat) (hfo : fnA (S.ev fo) = some (f, cap)) (hcall : ∀ args w, (callFunc f args).run P w = .ok (.enter f args) w)
    (hsn : srcs.Nodup) (hsrc : srcsOK S srcs rin) (hsb : ∀ q ∈ bor, q ∉ srcs) (hargs : vaL S srcs bor args (ops.map S.ev ++ cap)) (hns : bor = [] ∨ (res.noSh ∧ T.noShL rout)) (hk : afterCall S d srcs rout res K) : CallW P n d fo ops K S := by
  refine CallW.use hfo hcall hF srcs bor hsn hsrc hsb hargs fun rout' res' h => ?_
  obtain ⟨rfl, rfl⟩ := h
  exact ⟨hns, hk⟩
end
theorem toShL_ints (l : List Int) : T.toShL (l.map T.i) = l.map T.i := by
  rw [T.toShL_eq_map, List.map_map]; exact List.map_congr_left fun _ _ => rfl
theorem intsO_toSh (l : List Int) : (intsO l).toSh = ints l := by
  simp only [intsO, ints, T.toSh, toShL_ints]
theorem rowsO_toSh (m : List (List Int)) : (rowsO m).toSh = rows m := by
  simp only [rowsO, rows, T.toSh, T.toShL_eq_map, List.map_map]
  congr 1
  exact List.map_congr_left fun r _ => intsO_toSh r
theorem toShL_intsO (m : List (List Int)) : T.toShL (m.map intsO) = m.map ints := by
  rw [T.toShL_eq_map, List.map_map]; exact List.map_congr_left fun r _ => intsO_toSh r
theorem rowsO_noSh (m : List (List Int)) : (rowsO m).noSh := by
  simp only [rowsO, T.noSh]
  rw [T.noShL_iff]
  intro t ht
  obtain ⟨x, _, rfl⟩ := List.mem_map.1 ht
  exact intsO_noSh x
theorem vt_rows_own (S : St) (bor : List Nat) (m : List (List Int)) (q : Nat) : vt S bor (rows m) (.own q) = (q ∈ bor ∧ ∃ t, S.roots q = .live t [] ∧ rows m = t.toSh) := by simp [rows, vt, vb]
theorem vt_ints_own (S : St) (bor : List Nat) (m : List Int) (q : Nat) : vt S bor (ints m) (.own q) = (q ∈ bor ∧ ∃ t, S.roots q = .live t [] ∧ ints m = t.toSh) := by simp [ints, vt, vb]
theorem absT_rowsO (d k : Nat) (m : List (List Int)) : absT d k (rowsO m) = (.own (rid d k), [(rid d k, rowsO m)], k + 1) := rfl
theorem absT_intsO (d k : Nat) (m : List Int) : absT d k (intsO m) = (.own (rid d k), [(rid d k, intsO m)], k + 1) := rfl


theorem Le.tup2 {a a' b b' : T} (h1 : Le a a') (h2 : Le b b') : Le (.tup [a, b]) (.tup [a', b']) :=
  .tup rfl fun i h h' => match i, h, h' with | 0, _, _ => h1 | 1, _, _ => h2
theorem Le.tup3 {a a' b b' c c' : T} (h1 : Le a a') (h2 : Le b b') (h3 : Le c c') : Le (.tup [a, b, c]) (.tup [a', b', c']) :=
  .tup rfl fun i h h' => match i, h, h' with | 0, _, _ => h1 | 1, _, _ => h2 | 2, _, _ => h3
/-- A result may be read as less is known of it: nil as a list without elements. -/
theorem Fun.le {P : Program} {f : FuncId} {rin : List T} {args : List A} {Q Q' : List T → T → Prop} (h : Fun P f rin args Q) (hq : ∀ o r, Q o r → ∃ r', Le r r' ∧ Q' o r') : Fun P f rin args Q' := by
  intro X w vals hs fp hm hl hi
  refine (h X w vals hs fp hm hl hi).mono ?_
  rintro e w' ⟨v, res, rout, fr, fp', rfl, hQ, hlen, out⟩
  obtain ⟨r', hle, hQ'⟩ := hq _ _ hQ
  obtain ⟨fr', ho, hsub⟩ := hle.ow out.res
  have sub : ∀ b ∈ fr', b ∈ fr := fun b hb => hsub.subset hb
  have hO : ∀ b, ¬ Ob' X fp' fr b → b < w'.heap.size → ¬ Ob' X fp' fr' b := fun b h _ h' => by
    rcases h' with h' | h'
    · exact h (.inl h')
    · exact h (.inr (sub b h'))
  have keep : ∀ p, Keeps p w' w' := fun p _ _ _ _ _ h => h
  exact ⟨v, r', rout, fr', fp', rfl, hQ', hlen, fun i t ht => (let ⟨x, hx, hox, hr⟩ := out.root i t ht; ⟨x, hx, hox.mono (keep _) hO (keep _), hr⟩), out.none, ho.mono (keep _) hO (keep _), out.disj, out.nodup, hsub.nodup out.rnodup,
    fun r b hb hbf => out.rdisj r b hb (sub b hbf), out.old, fun b hb => out.rold b (sub b hb), out.os, out.tape, out.output, out.size, out.frame⟩
theorem Fun.post {P : Program} {f : FuncId} {rin : List T} {args : List A} {Q Q' : List T → T → Prop} (h : Fun P f rin args Q) (hq : ∀ o r, Q o r → Q' o r) : Fun P f rin args Q' := h.le fun o r h1 => ⟨r, .refl r, hq o r h1⟩

theorem spl_one {α : Type} (l : List α) (i : Nat) (x : α) : spl l i [x] = l.set i x := rfl
theorem spl_two {α : Type} (l : List α) (i : Nat) (x y : α) (zs : List α) : spl l i (x :: y :: zs) = l.take i ++ (x :: y :: zs) ++ l.drop (i + (x :: y :: zs).length) := rfl
theorem coC_call (P : Program) (n : Nat) (all : Bool) (m : List Nat) (d : Nat) (f : Operand) (ops : List Operand) (K : St → Prop) (S : St) : coC P n all m (.call (some d) f ops) K S = (all = false ∧ CallC P n d f ops m K S) := rfl
theorem coC_alloc (P : Program) (n : Nat) (all : Bool) (m : List Nat) (d : Nat) (zs : List T) (K : St → Prop) (S : St) : coC P n all m (.alloc d zs) K S = coN (.alloc d zs) K S := rfl
theorem coC_make (P : Program) (n : Nat) (all : Bool) (m : List Nat) (d : Nat) (zs : List T) (eb : Nat) (l c : Operand) (K : St → Prop) (S : St) : coC P n all m (.make d zs eb l c) K S = coN (.make d zs eb l c) K S := rfl
theorem coC_box (P : Program) (n : Nat) (all : Bool) (m : List Nat) (d : Nat) (x : Operand) (K : St → Prop) (S : St) : coC P n all m (.box d x) K S = coN (.box d x) K S := rfl
theorem coC_bslice (P : Program) (n : Nat) (all : Bool) (m : List Nat) (d z len : Nat) (ps : List (Nat × Operand)) (K : St → Prop) (S : St) : coC P n all m (.bslice d z len ps) K S = coN (.bslice d z len ps) K S := rfl
theorem ite_nn {α : Type} (n : Nat) (a b : α) : (if (0 : Int) ≤ (n : Int) then a else b) = a := if_pos (Int.natCast_nonneg _)
theorem ite_nn1 {α : Type} (n : Nat) (a b : α) : (if (0 : Int) ≤ (n : Int) + 1 then a else b) = a := if_pos (by omega)
attribute [go_sem] ite_nn ite_nn1
theorem filter_link (k q : Nat) : List.filter (fun p : Nat × Nat => decide (p.fst < k) || decide (k + 1 ≤ p.fst)) [(k, q)] = [] := by
  rw [List.filter_cons_of_neg (by simp)]; rfl
attribute [go_sem] filter_link List.set_set absT absL List.filter_nil List.all_cons List.all_nil spl_one spl_two List.take_succ_cons List.take_zero List.drop_succ_cons List.drop_zero List.set_cons_zero List.set_cons_succ List.length_set List.cons_append List.append_nil Bool.true_and Bool.and_true Bool.false_and
/-! Guards and conditions at constants: one road only. -/
theorem guardC_tt (s : Nat) (d : Option Nat) (K1 K2 : St → Prop) (S : St) : guardC (.t (.v (.bool true))) s true d K1 K2 S = K1 { S with env := upd S.env s (.t (.v (.bool true))) } := by simp [guardC]
theorem guardC_ff (s : Nat) (d : Option Nat) (K1 K2 : St → Prop) (S : St) : guardC (.t (.v (.bool false))) s false d K1 K2 S = K1 { S with env := upd S.env s (.t (.v (.bool false))) } := by simp [guardC]
theorem guardC_ft (s : Nat) (d : Option Nat) (K1 K2 : St → Prop) (S : St) : guardC (.t (.v (.bool false))) s true d K1 K2 S = K2 (St.put { S with env := upd S.env s (.t (.v (.bool false))) } d skipA) := by simp [guardC]
theorem guardC_tf (s : Nat) (d : Option Nat) (K1 K2 : St → Prop) (S : St) : guardC (.t (.v (.bool true))) s false d K1 K2 S = K2 (St.put { S with env := upd S.env s (.t (.v (.bool true))) } d skipA) := by simp [guardC]
theorem condC_t (K1 K2 : St → Prop) (S : St) : condC (.t (.v (.bool true))) K1 K2 S = K1 S := by simp [condC]
theorem condC_f (K1 K2 : St → Prop) (S : St) : condC (.t (.v (.bool false))) K1 K2 S = K2 S := by simp [condC]
theorem guardC_b (b : Bool) (s : Nat) (want : Bool) (d : Option Nat) (K1 K2 : St → Prop) (S : St) : guardC (.t (.v (.bool b))) s want d K1 K2 S = ((b = want → K1 { S with env := upd S.env s (.t (.v (.bool want))) }) ∧ (b = !want → K2 (St.put { S with env := upd S.env s (.t (.v (.bool !want))) } d skipA))) := rfl
theorem condC_b (b : Bool) (K1 K2 : St → Prop) (S : St) : condC (.t (.v (.bool b))) K1 K2 S = ((b = true → K1 S) ∧ (b = false → K2 S)) := rfl
theorem guardC_u (xs : Array Value) (s : Nat) (want : Bool) (d : Option Nat) (K1 K2 : St → Prop) (S : St) : guardC (.t (.v (.tuple xs))) s want d K1 K2 S = K2 (St.put S d skipA) := rfl
theorem guardC_un (s : Nat) (want : Bool) (d : Option Nat) (K1 K2 : St → Prop) (S : St) : guardC skipA s want d K1 K2 S = K2 (St.put S d skipA) := rfl
attribute [go_sem high] guardC_u guardC_un guardC_tt guardC_ff guardC_ft guardC_tf condC_t condC_f
attribute [go_sem] Value.oneCell' decide_true bne_self_eq_false true_or List.nil_append all_cell_ints all_cell_intsO all_flat_ints Nat.zero_ne_one Nat.add_zero Nat.zero_add cW.eq_1 cW.eq_2 cW.eq_3 cW.eq_4 cW.eq_5 cW.eq_6 cW.eq_7 cW.eq_8 cW.eq_9 cW.eq_10 cW.eq_11 cW.eq_12 drawW.eq_1 drawW.eq_2 itemD.eq_1 itemD.eq_2 valD.eq_1 valD.eq_2 valD.eq_3 valD.eq_4 valD.eq_5 valD.eq_6 CO.dst mergeR_upd mergeR_mask coC_call coC_alloc coC_make coC_box coC_bslice coN.eq_1 coN.eq_2 coN.eq_3 coN.eq_4 giveF.eq_1 giveF.eq_2 maskR_nil maskR_upd maskR_free List.any_cons List.any_nil Option.bind_some Bool.or_false Bool.false_or Bool.or_self decide_false kE kR kN kH coH_store coH_alloc coH_box coH_bslice coH_make coH_app coH_load1 coH_call coV.eq_1 coV.eq_2 coV.eq_3 coV.eq_4 coV.eq_5 coV.eq_6 coV.eq_7 coV.eq_8 coV.eq_9 coV.eq_10 coV.eq_11 coV.eq_12 coV.eq_13 coV.eq_14 coV.eq_15 coV.eq_16 coV.eq_17 coV.eq_18 coV.eq_19 coV.eq_20 coV.eq_21 putD_apply load1V loadNV CO.dst opsW.eq_1 opsW.eq_2 opsW.eq_3 coW.eq_1 coW.eq_2 coW.eq_3 coW.eq_4 coW.eq_5 coW.eq_6 coW.eq_7 coW.eq_8 coW.eq_9 coW.eq_10 coW.eq_11 coW.eq_12 coW.eq_13 coW.eq_14 coW.eq_15 coW.eq_16 coW.eq_17 coW.eq_18 coW.eq_19 coW.eq_20 coW.eq_21 coW.eq_22 coW.eq_23 coW.eq_24 coW.eq_25 coW.eq_26 coW.eq_27 coW.eq_28 coW.eq_29 coW.eq_30 boxLW boxLOK.eq_1 boxLOK.eq_2 boxLOK.eq_3 boxLinks.eq_1 boxLinks.eq_2 boxLinks.eq_3 boxCell CI.toL.eq_1 CI.toL.eq_2 CO.toL putK_apply ev_sl ev_ci ev_cb ev_cv ev_cf guardC_b condC_b thenC_n thenC_r thenC_e blockQ_n blockQ_r blockQ_e loopQ_n loopQ_r loopQ_e pickC beqC beqSC aggI intsT.eq_1 intsT.eq_2 intsA.eq_1 intsA.eq_2 isNilC slcC bndN Option.map_some Option.map_none binW binI unW extractW lenC lenTC idxC fldC load1C loadNC cellsC.eq_1 cellsV.eq_1 readC.eq_1 readA.eq_1 readA.eq_2 readOK.eq_1 readOK.eq_2 noLk.eq_1 noLk.eq_2 List.drop_zero Bool.and_false Option.isSome_some Option.isSome_none Bool.true_or Bool.or_true loadC storeC storeK_apply addrA compsA giveL giveW buildC fillA bsliceC boxW makeC newK_apply baseW srcW appendK1_apply appendK2_apply convC nilCheckW mmW retP.eq_1 retP.eq_2 retL retOne giveT giveTL fnTs routW packT Root.cells Root.with upd_apply St.of mkEnv mkRoots enum St.put T.cell T.flat true_and and_true List.map_cons List.map_nil List.length_cons List.length_nil Option.some.injEq forall_eq' List.lookup_nil Bool.not_true Bool.not_false decide_eq_true_eq decide_eq_false_iff_not ne_eq forall_const Bool.true_eq_false Bool.false_eq_true false_implies ite_true ite_false exists_eq_left' List.getElem?_cons_zero List.getElem?_cons_succ and_self List.getElem?_map Option.map_eq_some_iff forall_exists_index and_imp List.length_map Nat.mul_one Nat.div_one
end Go.Ab

/- The abstract layer, part 33: lists of the walk's rules, each as one rule. -/
set_option linter.unusedSimpArgs false
set_option linter.unusedVariables false
set_option linter.defProp false
namespace Go.Ab

attribute [go_sem] List.reduceReplicate Nat.reduceEqDiff Nat.reduceAdd Nat.reduceLeDiff Nat.reduceMul Nat.reduceSub Nat.reduceDiv Int.reduceToNat Nat.reduceLT Int.reduceLT Int.reduceLE reduceCtorEq
attribute [go_sem ↓] reduceIte
def evR := And.intro @forall_apply_eq_imp_iff₂.{1,1} (@toNat_cast)
def vaR := And.intro @vt_self (And.intro @vaL.eq_1 (And.intro @vaL.eq_2 (And.intro @vaL.eq_3 (And.intro @vtL.eq_1 (And.intro @vtL.eq_2 (And.intro @vtL.eq_3 (And.intro @va.eq_1 (And.intro @va.eq_2 (And.intro @va.eq_3 (And.intro @va.eq_4 (And.intro @va.eq_5 (And.intro @va.eq_6 (And.intro @va.eq_7 (And.intro @va.eq_8 (And.intro @va.eq_9 (And.intro @va.eq_10 (And.intro @va.eq_11 (And.intro @va.eq_12 (And.intro @va.eq_13 (And.intro @vt.eq_1 (And.intro @vt.eq_2 (And.intro @vt.eq_3 (And.intro @vt.eq_4 (And.intro @vt.eq_5 (And.intro @vt.eq_6 (And.intro @vt.eq_7 (And.intro @vt.eq_8 (And.intro @vb.eq_1 (And.intro @vb.eq_2 (And.intro @vb.eq_3 (And.intro @vb.eq_4 (And.intro @vb.eq_5 (And.intro @maT.eq_1 (And.intro @List.cons_append.{0} (And.intro @List.nil_append.{0} (And.intro @List.append_nil.{0} (And.intro @true_or (@or_true))))))))))))))))))))))))))))))))))))))
def rtR := And.intro @List.mem_cons.{0} (And.intro @List.mem_nil_iff.{0} (And.intro @List.not_mem_nil.{0} (And.intro @or_false (And.intro @false_or (And.intro @exists_eq_left.{1} (And.intro @exists_eq_left'.{1} (And.intro @exists_eq_right'.{1} (And.intro @Root.live.injEq (And.intro @eq_self_iff_true.{1} (And.intro @exists_eq.{1} (@and_true)))))))))))
def agR := And.intro @Int.natCast_zero (And.intro @Int.cast_ofNat_Int (And.intro @Int.natCast_one (And.intro @Nat.le_refl (And.intro @Nat.sub_self (And.intro @List.getElem?_cons_zero.{0} (And.intro @List.getElem?_cons_succ.{0} (And.intro @toShL_ratC (And.intro @toShL_ints (And.intro @toShL_intsO (And.intro @T.toSh.eq_1 (And.intro @T.toSh.eq_2 (And.intro @T.toSh.eq_3 (And.intro @T.toSh.eq_4 (@T.toSh.eq_5))))))))))))))
def clR := And.intro @List.append_nil.{0} (And.intro @List.cons_append.{0} (And.intro @afterCall.eq_1 (And.intro @afterCall.eq_2 (And.intro @absT_rowsO (And.intro @absT_intsO (And.intro @absT.eq_1 (And.intro @absT.eq_2 (And.intro @absT.eq_3 (And.intro @absT.eq_4 (And.intro @absT.eq_5 (And.intro @absL.eq_1 (And.intro @absL.eq_2 (And.intro @updL.eq_1 (And.intro @updL.eq_2 (And.intro @updS.eq_1 (And.intro @updS.eq_2 (And.intro @freeAll.eq_1 (And.intro @freeAll.eq_2 (And.intro @rid.eq_1 (And.intro @T.noSh.eq_1 (And.intro @T.noSh.eq_2 (And.intro @T.noSh.eq_3 (And.intro @T.noSh.eq_4 (And.intro @T.noSh.eq_5 (And.intro @T.noSh.eq_6 (And.intro @T.noSh.eq_7 (And.intro @T.noSh.eq_8 (And.intro @T.noShL.eq_1 (And.intro @T.noShL.eq_2 (@Nat.zero_le))))))))))))))))))))))))))))))
def wkR := And.intro @Int.add_zero (And.intro @envOK.eq_1 (And.intro @envOK.eq_2 (And.intro @maA.eq_1 (And.intro @maA.eq_2 (And.intro @maA.eq_3 (And.intro @maA.eq_4 (And.intro @maA.eq_5 (And.intro @maA.eq_6 (And.intro @maA.eq_7 (And.intro @maA.eq_8 (And.intro @maA.eq_9 (And.intro @maA.eq_10 (And.intro @maA.eq_11 (And.intro @maA.eq_12 (And.intro @maA.eq_13 (And.intro @maA.eq_14 (And.intro @maA.eq_15 (And.intro @maT.eq_1 (And.intro @upd_apply (And.intro @and_true (And.intro @true_or (And.intro @or_true (And.intro @List.map_cons.{0,0} (And.intro @List.map_nil.{0,0} (And.intro @Nat.zero_ne_one (And.intro @and_self (And.intro @true_and (And.intro @Int.natCast_zero (And.intro @Int.cast_ofNat_Int (@Int.ofNat_zero))))))))))))))))))))))))))))))
def wrR := And.intro @piOf.eq_1 (And.intro @List.zip_cons_cons.{0,0} (And.intro @List.zip_nil_right.{0,0} (And.intro @List.lookup_cons.{0,0} (And.intro @List.lookup_nil.{0,0} (And.intro @beq_self_eq_true.{0} (And.intro @rootsOK.eq_1 (And.intro @rootsOK.eq_2 (And.intro @rootsOK.eq_3 (And.intro @rootsOK.eq_4 (And.intro @mkRoots.eq_1 (And.intro @mkRoots.eq_2 (And.intro @mkEnv.eq_1 (@mkEnv.eq_2)))))))))))))
def srR := And.intro @rootOf_arr (And.intro @rootOf_box (And.intro @rootOf_any (And.intro @srcsOK.eq_1 (And.intro @srcsOK.eq_2 (And.intro @srcsOK.eq_3 (And.intro @updL.eq_1 (And.intro @updL.eq_2 (And.intro @updS.eq_1 (And.intro @updS.eq_2 (And.intro @upd_apply (And.intro @mkRoots.eq_1 (And.intro @mkRoots.eq_2 (@and_true)))))))))))))
def opR := And.intro @List.lookup_cons.{0,0} (And.intro @beq_self_eq_true.{0} (And.intro @rid.eq_1 (And.intro @openG.eq_1 (@openG.eq_2))))
end Go.Ab

/- The bridge, part 3: the types of the laws' arguments. -/
set_option linter.unusedSimpArgs false
set_option linter.unusedVariables false
namespace Go.Ab

def tyRows : Ty := .sl 1 (.sl 1 (.int .i64))
/-- All numbers fit. -/
def fits64 (l : List Int) : Prop := ∀ x ∈ l, -9223372036854775808 ≤ x ∧ x < 9223372036854775808
theorem wf64 {n : Int} (h : (Lit.int .i64 n).wf = true) : -9223372036854775808 ≤ n ∧ n < 9223372036854775808 := by
  simp [Lit.wf, IntKind.min, IntKind.max, IntKind.signed, IntKind.bits] at h
  omega
theorem flat_ints : ∀ {xs : List (List T)}, (∀ x ∈ xs, x.length = 1 ∧ (Ty.int .i64).wt x) → ∃ l : List Int, xs.flatten = l.map T.i ∧ l.length = xs.length ∧ fits64 l
  | [], _ => ⟨[], rfl, rfl, fun x hx => by simp at hx⟩
  | x :: xs, h => by
    obtain ⟨l, hl, hlen, hf⟩ := flat_ints (xs := xs) fun y hy => h y (by simp [hy])
    obtain ⟨_, n, rfl, hw⟩ := h x (by simp)
    refine ⟨n :: l, by simp [hl], by simp [hlen], fun y hy => ?_⟩
    rcases List.mem_cons.1 hy with rfl | hy
    · exact wf64 hw
    · exact hf y hy
theorem wt_ints {x : T} (h : (Ty.sl 1 (.int .i64)).wt [x]) : ∃ l : List Int, x = ints l ∧ l.length ≤ 9223372036854775807 ∧ fits64 l := by
  obtain ⟨xs, hx, hlen, hall⟩ := h
  obtain ⟨l, hl, hll, hf⟩ := flat_ints hall
  simp only [List.cons.injEq, and_true] at hx
  exact ⟨l, by rw [hx, hl]; rfl, by rw [hll]; exact hlen, hf⟩
theorem flat_rows : ∀ {xs : List (List T)}, (∀ x ∈ xs, x.length = 1 ∧ (Ty.sl 1 (.int .i64)).wt x) → ∃ m : List (List Int), xs.flatten = m.map ints ∧ m.length = xs.length ∧ ∀ r ∈ m, r.length ≤ 9223372036854775807 ∧ fits64 r
  | [], _ => ⟨[], rfl, rfl, by simp⟩
  | x :: xs, h => by
    obtain ⟨m, hm, hlen, hr⟩ := flat_rows (xs := xs) fun y hy => h y (by simp [hy])
    obtain ⟨h1, hw⟩ := h x (by simp)
    match x, h1 with
    | [y], _ =>
      obtain ⟨l, rfl, hl, hf⟩ := wt_ints hw
      refine ⟨l :: m, by simp [hm], by simp [hlen], fun r hr' => ?_⟩
      rcases List.mem_cons.1 hr' with rfl | h'
      · exact ⟨hl, hf⟩
      · exact hr r h'
theorem wt_rows {x : T} (h : tyRows.wt [x]) : ∃ m : List (List Int), x = rows m ∧ m.length ≤ 9223372036854775807 ∧ ∀ r ∈ m, r.length ≤ 9223372036854775807 ∧ fits64 r := by
  obtain ⟨xs, hx, hlen, hall⟩ := h
  obtain ⟨m, hm, hml, hr⟩ := flat_rows hall
  simp only [List.cons.injEq, and_true] at hx
  exact ⟨m, by rw [hx, hm]; rfl, by rw [hml]; exact hlen, hr⟩


def tyRat : Ty := .st (.cons (.int .i64) (.cons (.int .i64) .nil))
def tyRats : Ty := .sl 2 tyRat
theorem wt_rat {l : List T} (h : tyRat.wt l) : ∃ r : Int × Int, l = [T.i r.1, T.i r.2] ∧ fits64 [r.1, r.2] := by
  obtain ⟨l1, l2, rfl, ⟨n, rfl, hn⟩, l3, l4, rfl, ⟨d, rfl, hd⟩, rfl⟩ := h
  refine ⟨(n, d), rfl, fun x hx => ?_⟩
  rcases List.mem_cons.1 hx with rfl | hx
  · exact wf64 hn
  · rcases List.mem_cons.1 hx with rfl | hx
    · exact wf64 hd
    · cases hx
theorem flat_rats : ∀ {xs : List (List T)}, (∀ x ∈ xs, x.length = 2 ∧ tyRat.wt x) → ∃ l : List (Int × Int), xs.flatten = ratC l ∧ l.length = xs.length ∧ ∀ r ∈ l, fits64 [r.1, r.2]
  | [], _ => ⟨[], rfl, rfl, by simp⟩
  | x :: xs, h => by
    obtain ⟨l, hl, hlen, hf⟩ := flat_rats (xs := xs) fun y hy => h y (by simp [hy])
    obtain ⟨r, rfl, hr⟩ := wt_rat (h x (by simp)).2
    refine ⟨r :: l, by rw [List.flatten_cons, hl]; rfl, by simp [hlen], fun y hy => ?_⟩
    rcases List.mem_cons.1 hy with rfl | hy
    · exact hr
    · exact hf y hy
theorem wt_rats {x : T} (h : tyRats.wt [x]) : ∃ l : List (Int × Int), x = rats l ∧ l.length ≤ 9223372036854775807 ∧ ∀ r ∈ l, fits64 [r.1, r.2] := by
  obtain ⟨xs, hx, hlen, hall⟩ := h
  obtain ⟨l, hl, hll, hf⟩ := flat_rats hall
  simp only [List.cons.injEq, and_true] at hx
  exact ⟨l, by rw [hx, hl]; rfl, by rw [hll]; exact hlen, hf⟩
theorem wt_int {x : T} (h : (Ty.int .i64).wt [x]) : ∃ n : Int, x = T.i n ∧ -9223372036854775808 ≤ n ∧ n < 9223372036854775808 := by
  obtain ⟨n, hn, hw⟩ := h
  simp only [List.cons.injEq, and_true] at hn
  exact ⟨n, hn, wf64 hw⟩
end Go.Ab

/- The bridge, part 6: words of the text that names a program's order. -/
set_option linter.unusedSimpArgs false
set_option linter.unusedVariables false
namespace Go.Ab

theorem tl_finals : ( "finals" : String).toList = ([102, 105, 110, 97, 108, 115].map Char.ofNat) := String.toList_ofList
theorem tl_reflectrows : ( "reflectrows" : String).toList = ([114, 101, 102, 108, 101, 99, 116, 114, 111, 119, 115].map Char.ofNat) := String.toList_ofList
theorem tl_leanrows : ( "leanrows" : String).toList = ([108, 101, 97, 110, 114, 111, 119, 115].map Char.ofNat) := String.toList_ofList
theorem tl_onebuild : ( "onebuild" : String).toList = ([111, 110, 101, 98, 117, 105, 108, 100].map Char.ofNat) := String.toList_ofList
theorem tl_publicsums : ( "publicsums" : String).toList = ([112, 117, 98, 108, 105, 99, 115, 117, 109, 115].map Char.ofNat) := String.toList_ofList
theorem tl_eqguard : ( "eqguard" : String).toList = ([101, 113, 103, 117, 97, 114, 100].map Char.ofNat) := String.toList_ofList
theorem tl_ownunsafe : ( "ownunsafe" : String).toList = ([111, 119, 110, 117, 110, 115, 97, 102, 101].map Char.ofNat) := String.toList_ofList
theorem tl_libbeside : ( "libbeside" : String).toList = ([108, 105, 98, 98, 101, 115, 105, 100, 101].map Char.ofNat) := String.toList_ofList
theorem tl_ownbeside : ( "ownbeside" : String).toList = ([111, 119, 110, 98, 101, 115, 105, 100, 101].map Char.ofNat) := String.toList_ofList
theorem tl_reflbeside : ( "reflbeside" : String).toList = ([114, 101, 102, 108, 98, 101, 115, 105, 100, 101].map Char.ofNat) := String.toList_ofList
theorem tl_aliases : ( "aliases" : String).toList = ([97, 108, 105, 97, 115, 101, 115].map Char.ofNat) := String.toList_ofList
theorem tl_afterinit : ( "afterinit" : String).toList = ([97, 102, 116, 101, 114, 105, 110, 105, 116].map Char.ofNat) := String.toList_ofList
theorem tl_crcplain : ( "crcplain" : String).toList = ([99, 114, 99, 112, 108, 97, 105, 110].map Char.ofNat) := String.toList_ofList
theorem tl_roadunsafe : ( "roadunsafe" : String).toList = ([114, 111, 97, 100, 117, 110, 115, 97, 102, 101].map Char.ofNat) := String.toList_ofList
theorem tl_fmthandon : ( "fmthandon" : String).toList = ([102, 109, 116, 104, 97, 110, 100, 111, 110].map Char.ofNat) := String.toList_ofList
theorem tl_cut : ( "cut" : String).toList = ([99, 117, 116].map Char.ofNat) := String.toList_ofList
theorem tl_gc : ( "gc" : String).toList = ([103, 99].map Char.ofNat) := String.toList_ofList
theorem tl_spec : ( "spec" : String).toList = ([115, 112, 101, 99].map Char.ofNat) := String.toList_ofList
theorem tl_carried : ( "carried" : String).toList = ([99, 97, 114, 114, 105, 101, 100].map Char.ofNat) := String.toList_ofList
theorem tl_stop : ( "stop" : String).toList = ([115, 116, 111, 112].map Char.ofNat) := String.toList_ofList
theorem tl_harness : ( "harness" : String).toList = ([104, 97, 114, 110, 101, 115, 115].map Char.ofNat) := String.toList_ofList
theorem tl_ownmain : ( "ownmain" : String).toList = ([111, 119, 110, 109, 97, 105, 110].map Char.ofNat) := String.toList_ofList
def cutL : List Char := ([99, 117, 116].map Char.ofNat)
theorem strip_cut (ws : List (List Char)) : stripLifts liftWords (cutL :: ws) = ([], cutL :: ws) := by
  have no : ∀ (o : String) (os : List String) (l : List Char), o.toList = l → (cutL == l) = false → stripLifts (o :: os) (cutL :: ws) = stripLifts os (cutL :: ws) := fun o os l h1 h2 => by
    show (if cutL == o.toList then _ else _) = _
    rw [h1, h2]; rfl
  unfold liftWords
  rw [no _ _ _ tl_finals (by decide), no _ _ _ tl_reflectrows (by decide), no _ _ _ tl_leanrows (by decide), no _ _ _ tl_onebuild (by decide), no _ _ _ tl_publicsums (by decide), no _ _ _ tl_eqguard (by decide), no _ _ _ tl_ownunsafe (by decide), no _ _ _ tl_libbeside (by decide), no _ _ _ tl_ownbeside (by decide), no _ _ _ tl_reflbeside (by decide), no _ _ _ tl_aliases (by decide), no _ _ _ tl_afterinit (by decide), no _ _ _ tl_crcplain (by decide), no _ _ _ tl_roadunsafe (by decide), no _ _ _ tl_fmthandon (by decide)]
  rfl
theorem words_one {r : List Char} : ∀ {w : List Char}, (∀ c ∈ w, c ≠ Char.ofNat 32) → wordsSigns (w ++ Char.ofNat 32 :: r) = w :: wordsSigns r
  | [], _ => by
    show wordsSigns (Char.ofNat 32 :: r) = _
    rfl
  | c :: w, h => by
    have ih := words_one (r := r) (w := w) fun d hd => h d (by simp [hd])
    show wordsSigns (c :: (w ++ Char.ofNat 32 :: r)) = _
    rw [wordsSigns, ih]
    exact fun he => h c (by simp) he
theorem words_three {s : String} {w1 w2 w3 r : List Char} (hs : s = String.ofList (w1 ++ Char.ofNat 32 :: (w2 ++ Char.ofNat 32 :: (w3 ++ Char.ofNat 32 :: r)))) (h1 : (w1.all fun c => c != Char.ofNat 32) = true) (h2 : (w2.all fun c => c != Char.ofNat 32) = true) (h3 : (w3.all fun c => c != Char.ofNat 32) = true)
    (hh : (w1 == ([104, 97, 114, 110, 101, 115, 115].map Char.ofNat)) = true) (hsum : isSumSigns w2 = true) : behindMainWord (wordsSigns s.toList) = w3 :: wordsSigns r := by
  have g : ∀ w : List Char, (w.all fun c => c != Char.ofNat 32) = true → ∀ c ∈ w, c ≠ Char.ofNat 32 := fun w h c hc => by
    have := List.all_eq_true.1 h c hc
    simpa using this
  rw [hs, String.toList_ofList, words_one (g w1 h1), words_one (g w2 h2), words_one (g w3 h3)]
  show (if (w1 == "harness".toList || w1 == "ownmain".toList) && isSumSigns w2 then w3 :: wordsSigns r else w1 :: w2 :: w3 :: wordsSigns r) = _
  rw [tl_harness, hh, hsum]; rfl
theorem mayEnter_of {P : Program} (hw : ∃ ws, behindMainWord (wordsSigns P.initOrder.toList) = cutL :: ws) (h1 : P.laysLater = false) (h2 : P.bearsReflect = false) (h3 : P.doorFits [] = true) : P.mayEnter = true := by
  obtain ⟨ws, h⟩ := hw
  unfold Program.mayEnter
  rw [h]
  simp only [strip_cut, tl_gc, tl_spec, tl_carried, tl_cut, tl_stop, h1, h2, h3]
  rfl
theorem liftsFinal_of {P : Program} (hw : ∃ ws, behindMainWord (wordsSigns P.initOrder.toList) = cutL :: ws) : P.liftsFinal = false := by
  obtain ⟨ws, h⟩ := hw
  unfold Program.liftsFinal Program.headLifts
  rw [h]
  simp only [strip_cut, tl_gc, tl_carried, tl_cut]
  rfl
theorem make_of {P : Program} (hw : ∃ ws, behindMainWord (wordsSigns P.initOrder.toList) = cutL :: ws) : P.make = some .cut := by
  obtain ⟨ws, h⟩ := hw
  unfold Program.make
  rw [h]
  simp only [tl_gc, tl_spec, tl_finals, tl_carried, tl_cut]
  rfl
end Go.Ab

/- Facts of the seat's program, for the claims' closed facts. -/
set_option linter.unusedSimpArgs false
set_option linter.unusedVariables false
namespace Go.Proofs.Ytdleindmpgadcaa
open Go.ChangeShapes Go.WideShapes Go.ChangeAt Go.RowKit Go.Ab

set_option maxRecDepth 100000 in
theorem Try.initSigns : Try.prog.initOrder = String.ofList (([104, 97, 114, 110, 101, 115, 115].map Char.ofNat) ++ Char.ofNat 32 :: (([49, 51, 49, 54, 97, 98, 99, 57, 56, 48, 51, 99, 100, 51, 50, 57, 56, 53, 53, 51, 56, 56, 49, 54, 98, 48, 97, 54, 56, 99, 53, 50, 97, 50, 57, 99, 54, 55, 50, 48, 100, 97, 98, 98, 48, 98, 48, 100, 51, 49, 102, 56, 49, 57, 55, 101, 57, 51, 48, 57, 101, 57, 52, 51].map Char.ofNat) ++ Char.ofNat 32 :: (([99, 117, 116].map Char.ofNat) ++ Char.ofNat 32 :: ([97, 116, 32, 108, 111, 111, 112, 46, 101, 120, 97, 109, 112, 108, 101, 47, 103, 48, 48, 57, 49, 48, 47, 108, 97, 119, 115, 46, 70, 110, 69, 120, 97, 99, 116, 73, 115, 70, 97, 105, 114, 32, 108, 111, 111, 112, 46, 101, 120, 97, 109, 112, 108, 101, 47, 103, 48, 48, 57, 49, 48, 47, 108, 97, 119, 115, 46, 70, 110, 69, 120, 97, 99, 116, 86, 97, 108, 117, 101, 79, 102, 77, 97, 116, 114, 105, 120, 32, 108, 111, 111, 112, 46, 101, 120, 97, 109, 112, 108, 101, 47, 103, 48, 48, 57, 49, 48, 47, 108, 97, 119, 115, 46, 70, 110, 69, 120, 97, 99, 116, 70, 105, 114, 115, 116, 75, 101, 114, 110, 101, 108, 32, 108, 111, 111, 112, 46, 101, 120, 97, 109, 112, 108, 101, 47, 103, 48, 48, 57, 49, 48, 47, 108, 97, 119, 115, 46, 70, 110, 69, 120, 97, 99, 116, 83, 111, 108, 118, 101, 77, 97, 116, 114, 105, 120, 32, 108, 111, 111, 112, 46, 101, 120, 97, 109, 112, 108, 101, 47, 103, 48, 48, 57, 49, 48, 47, 108, 97, 119, 115, 46, 70, 110, 83, 97, 100, 100, 108, 101, 115, 32, 108, 111, 111, 112, 46, 101, 120, 97, 109, 112, 108, 101, 47, 103, 48, 48, 57, 49, 48, 47, 108, 97, 119, 115, 46, 70, 110, 70, 108, 105, 112, 115, 32, 108, 111, 111, 112, 46, 101, 120, 97, 109, 112, 108, 101, 47, 103, 48, 48, 57, 49, 48, 47, 108, 97, 119, 115, 46, 70, 110, 83, 111, 108, 118, 101, 100, 32, 108, 111, 111, 112, 46, 101, 120, 97, 109, 112, 108, 101, 47, 103, 48, 48, 57, 49, 48, 47, 108, 97, 119, 115, 46, 70, 110, 75, 101, 114, 110, 101, 108, 115].map Char.ofNat)))) := by kernel_rfl
set_option maxRecDepth 100000 in
theorem Try.initWords : ∃ ws, behindMainWord (wordsSigns Try.prog.initOrder.toList) = cutL :: ws := ⟨_, words_three Try.initSigns (by kernel_rfl) (by kernel_rfl) (by kernel_rfl) (by kernel_rfl) (by kernel_rfl)⟩
theorem Try.laysF : Try.prog.laysLater = false := by kernel_rfl
theorem Try.bearsF : Try.prog.bearsReflect = false := by kernel_rfl
theorem Try.doorT : Try.prog.doorFits [] = true := by kernel_rfl
theorem Try.mayEnterT : Try.prog.mayEnter = true := mayEnter_of Try.initWords Try.laysF Try.bearsF Try.doorT
theorem Try.liftsF : Try.prog.liftsFinal = false := liftsFinal_of Try.initWords
theorem Try.makeC : Try.prog.make = some .cut := make_of Try.initWords
theorem Try.heardT : Try.prog.stopsHeard = true := by kernel_rfl
theorem Try.laidOutT : laidOutB Try.prog = true := by kernel_rfl
theorem Try.mapsRowedT : mapsRowed Try.prog = true := by kernel_rfl
end Go.Proofs.Ytdleindmpgadcaa

/- The functions in compact form, printed by a program (CcDump.lean). -/
set_option linter.unusedVariables false
namespace Go.Ab
open Go.Proofs

@[go_sem] theorem cellAgg_30 : tyAgg Try.prog 30 = some true := by kernel_rfl
@[go_sem] theorem cellSize_30 : tySize Try.prog 30 = some 2 := by kernel_rfl
@[go_sem] theorem cellAgg_41 : tyAgg Try.prog 41 = some true := by kernel_rfl
@[go_sem] theorem cellSize_41 : tySize Try.prog 41 = some 4 := by kernel_rfl
@[go_sem] theorem cellAgg_34 : tyAgg Try.prog 34 = some false := by kernel_rfl
@[go_sem] theorem cellSize_34 : tySize Try.prog 34 = some 1 := by kernel_rfl
theorem tyOne : tySize Try.prog 0 = some 1 := by kernel_rfl

def c_laws_FnKernels : CC :=
 (.seq (.reg [.o (.move 2 (cb false))])
 ((.seq (.seq (.reg [.o (.move 21 (sl 0)),
 .o (.call (some 22) (cf 30) [(sl 21)])])
 ((.cond (sl 22) (.seq (.reg [.o (.move 2 (cb true))])
 (.ret))
 .skip)))
 ((.seq (.reg [.o (.move 23 (sl 0)),
 .o (.call (some 24) (cf 51) [(sl 23)]),
 .o (.move 3 (sl 24))])
 ((.seq (.reg [.o (.move 26 (sl 3)),
 .o (.call (some 27) (cf 20) [(sl 26)]),
 .o (.move 25 (sl 27)),
 .o (.extract 28 (sl 25) 0),
 .o (.extract 29 (sl 25) 1),
 .o (.extract 30 (sl 25) 2),
 .o (.move 4 (sl 28)),
 .o (.move 5 (sl 29)),
 .o (.move 6 (sl 30))])
 ((.seq (.reg [.o (.move 32 (sl 3)),
 .o (.call (some 33) (cf 19) [(sl 32)]),
 .o (.move 31 (sl 33)),
 .o (.extract 34 (sl 31) 0),
 .o (.extract 35 (sl 31) 1),
 .o (.extract 36 (sl 31) 2),
 .o (.move 7 (sl 34)),
 .o (.move 8 (sl 35)),
 .o (.move 9 (sl 36))])
 ((.seq (.reg [.o (.move 37 (sl 0)),
 .o (.call (some 38) (cf 52) [(sl 37)]),
 .o (.move 10 (sl 38))])
 ((.seq (.reg [.o (.move 40 (sl 10)),
 .o (.call (some 41) (cf 14) [(sl 40)]),
 .o (.move 39 (sl 41)),
 .o (.extract 42 (sl 39) 0),
 .o (.extract 43 (sl 39) 1),
 .o (.move 11 (sl 42)),
 .o (.move 12 (sl 43))])
 ((.seq (.reg [.o (.move 45 (sl 10)),
 .o (.call (some 46) (cf 12) [(sl 45)]),
 .o (.move 44 (sl 46)),
 .o (.extract 47 (sl 44) 0),
 .o (.extract 48 (sl 44) 1),
 .o (.move 13 (sl 47)),
 .o (.move 14 (sl 48))])
 ((.seq (.seq (.reg [.o (.move 49 (sl 6)),
 .o (.move 50 (sl 9)),
 .o (.bin 51 .neq (sl 49) (sl 50)),
 .o (.move 52 (sl 51)),
 .g 52 false (some 53) (.move 53 (sl 4)),
 .g 52 false (some 54) (.move 54 (sl 7)),
 .g 52 false (some 55) (.call (some 55) (cf 37) [(sl 53), (sl 54)]),
 .g 52 false (some 56) (.un 56 .not (sl 55)),
 .o (.pick 57 (sl 52) (cb true) (sl 56)),
 .o (.move 58 (sl 57)),
 .g 58 false (some 59) (.move 59 (sl 5)),
 .g 58 false (some 60) (.move 60 (sl 8)),
 .g 58 false (some 61) (.call (some 61) (cf 37) [(sl 59), (sl 60)]),
 .g 58 false (some 62) (.un 62 .not (sl 61)),
 .o (.pick 63 (sl 58) (cb true) (sl 62)),
 .o (.move 64 (sl 63)),
 .g 64 false (some 65) (.move 65 (sl 12)),
 .g 64 false (some 66) (.move 66 (sl 14)),
 .g 64 false (some 67) (.bin 67 .neq (sl 65) (sl 66)),
 .o (.pick 68 (sl 64) (cb true) (sl 67)),
 .o (.move 69 (sl 68)),
 .g 69 false (some 70) (.move 70 (sl 11)),
 .g 69 false (some 71) (.move 71 (sl 13)),
 .g 69 false (some 72) (.beq 72 true (sl 70) (sl 71)),
 .o (.pick 73 (sl 69) (cb true) (sl 72))])
 ((.cond (sl 73) (.seq (.reg [.o (.move 2 (cb false))])
 (.ret))
 .skip)))
 ((.seq (.seq (.reg [.o (.move 74 (sl 12)),
 .o (.bin 75 .eql (sl 74) (ci 0))])
 ((.cond (sl 75) (.seq (.reg [.o (.move 77 (sl 10)),
 .o (.call (some 78) (cf 17) [(sl 77)]),
 .o (.move 76 (sl 78)),
 .o (.extract 79 (sl 76) 0),
 .o (.extract 80 (sl 76) 1),
 .o (.alloc 15 [.v (.int .i64 0), .v (.int .i64 0)]),
 .o (.store 2 (sl 15) (sl 79)),
 .o (.move 16 (sl 80))])
 ((.seq (.reg [.o (.move 81 (sl 16)),
 .o (.bin 82 .neq (sl 81) (ci 0)),
 .o (.move 83 (sl 82)),
 .g 83 false (some 84) (.move 84 (sl 11)),
 .g 83 false (some 85) (.fld 85 0 (sl 15)),
 .g 83 false (some 86) (.load1 86 (sl 85)),
 .g 83 false (some 87) (.bin 87 .eql (sl 86) (ci 0)),
 .g 83 false (some 88) (.beq 88 true (sl 84) (sl 87)),
 .o (.pick 89 (sl 83) (cb true) (sl 88))])
 ((.cond (sl 89) (.seq (.reg [.o (.move 2 (cb false))])
 (.ret))
 .skip)))))
 .skip)))
 ((.seq (.seq (.reg [.o (.move 90 (sl 6)),
 .o (.bin 91 .neq (sl 90) (ci 0))])
 ((.cond (sl 91) (.seq (.reg [.o (.move 2 (cb true))])
 (.ret))
 .skip)))
 ((.seq (.reg [.o (.move 93 (sl 3)),
 .o (.call (some 94) (cf 26) [(sl 93)]),
 .o (.move 92 (sl 94)),
 .o (.extract 95 (sl 92) 0),
 .o (.extract 96 (sl 92) 1),
 .o (.alloc 17 [.v (.slice none 0 0), .v (.slice none 0 0), .v (.int .i64 0), .v (.int .i64 0)]),
 .o (.store 4 (sl 17) (sl 95)),
 .o (.move 18 (sl 96))])
 ((.seq (.seq (.reg [.o (.move 97 (sl 18)),
 .o (.bin 98 .neq (sl 97) (ci 0)),
 .o (.move 99 (sl 98)),
 .g 99 false (some 100) (.move 100 (sl 4)),
 .g 99 false (some 101) (.lenS 101 (sl 100)),
 .g 99 false (some 102) (.move 102 (sl 5)),
 .g 99 false (some 103) (.lenS 103 (sl 102)),
 .g 99 false (some 104) (.bin 104 .neq (sl 101) (sl 103)),
 .o (.pick 105 (sl 99) (cb true) (sl 104)),
 .o (.move 106 (sl 105)),
 .g 106 false (some 107) (.move 107 (sl 4)),
 .g 106 false (some 108) (.lenS 108 (sl 107)),
 .g 106 false (some 109) (.bin 109 .eql (sl 108) (ci 0)),
 .o (.pick 110 (sl 106) (cb true) (sl 109))])
 ((.cond (sl 110) (.seq (.reg [.o (.move 2 (cb false))])
 (.ret))
 .skip)))
 ((.seq (.seq (.reg [.o (.move 19 (ci 0))])
 ((.block 0 (.loop (.seq (.seq (.reg [.o (.move 111 (sl 19)),
 .o (.fld 112 0 (sl 17)),
 .o (.load1 113 (sl 112)),
 .o (.lenS 114 (sl 113)),
 .o (.bin 115 .lss (sl 111) (sl 114))])
 ((.cond (sl 115) .skip
 (.exit 0))))
 ((.seq (.block 1 (.seq (.reg [.o (.move 118 (sl 4)),
 .o (.move 119 (sl 19)),
 .o (.call (some 120) (cf 40) [(sl 118), (sl 119)]),
 .o (.un 121 .not (sl 120)),
 .o (.move 122 (sl 121)),
 .g 122 true (some 123) (.fld 123 0 (sl 17)),
 .g 122 true (some 124) (.load1 124 (sl 123)),
 .g 122 true (some 125) (.move 125 (sl 19)),
 .g 122 true (some 126) (.idx 126 2 (sl 124) (sl 125)),
 .g 122 true (some 127) (.fld 127 0 (sl 126)),
 .g 122 true (some 128) (.load1 128 (sl 127)),
 .g 122 true (some 129) (.bin 129 .neq (sl 128) (ci 0)),
 .o (.pick 130 (sl 122) (sl 129) (cb false))])
 ((.cond (sl 130) (.seq (.reg [.o (.move 2 (cb false))])
 (.ret))
 .skip))))
 ((.reg [.o (.move 116 (sl 19)),
 .o (.bin 117 .add (sl 116) (ci 1)),
 .o (.move 19 (sl 117))])))))))))
 ((.seq (.seq (.reg [.o (.move 20 (ci 0))])
 ((.block 2 (.loop (.seq (.seq (.reg [.o (.move 131 (sl 20)),
 .o (.fld 132 1 (sl 17)),
 .o (.load1 133 (sl 132)),
 .o (.lenS 134 (sl 133)),
 .o (.bin 135 .lss (sl 131) (sl 134))])
 ((.cond (sl 135) .skip
 (.exit 2))))
 ((.seq (.block 3 (.seq (.reg [.o (.move 138 (sl 5)),
 .o (.move 139 (sl 20)),
 .o (.call (some 140) (cf 40) [(sl 138), (sl 139)]),
 .o (.un 141 .not (sl 140)),
 .o (.move 142 (sl 141)),
 .g 142 true (some 143) (.fld 143 1 (sl 17)),
 .g 142 true (some 144) (.load1 144 (sl 143)),
 .g 142 true (some 145) (.move 145 (sl 20)),
 .g 142 true (some 146) (.idx 146 2 (sl 144) (sl 145)),
 .g 142 true (some 147) (.fld 147 0 (sl 146)),
 .g 142 true (some 148) (.load1 148 (sl 147)),
 .g 142 true (some 149) (.bin 149 .neq (sl 148) (ci 0)),
 .o (.pick 150 (sl 142) (sl 149) (cb false))])
 ((.cond (sl 150) (.seq (.reg [.o (.move 2 (cb false))])
 (.ret))
 .skip))))
 ((.reg [.o (.move 136 (sl 20)),
 .o (.bin 137 .add (sl 136) (ci 1)),
 .o (.move 20 (sl 137))])))))))))
 ((.seq (.reg [.o (.move 2 (cb true))])
 (.ret))))))))))))))))))))))))))))))))
theorem fun_laws_FnKernels {rin : List T} {args : List A} {Q : List T → T → Prop} (ha : args.length ≤ 151) (h : cW Try.prog 151 c_laws_FnKernels (retP Try.prog [.tmp 2] rin.length Q) (St.of (enum 0 args) (enum 1000000000 rin))) :
    Fun Try.prog 10 rin args Q :=
  Fun.of (H := ⟨[], []⟩) Try.func10 rfl rfl rfl (by kernel_rfl) ha (by decide) h

def c_spec_IsFair : CC :=
 (.seq (.reg [.o (.move 2 (cb false)),
 .o (.move 3 (ci 0))])
 ((.seq (.reg [.o (.move 7 (sl 0)),
 .o (.call (some 8) (cf 16) [(sl 7)]),
 .o (.move 6 (sl 8)),
 .o (.extract 9 (sl 6) 0),
 .o (.extract 10 (sl 6) 1),
 .o (.alloc 4 [.v (.int .i64 0), .v (.int .i64 0)]),
 .o (.store 2 (sl 4) (sl 9)),
 .o (.move 5 (sl 10))])
 ((.seq (.reg [.o (.move 11 (sl 5)),
 .o (.bin 12 .eql (sl 11) (ci 0)),
 .o (.move 13 (sl 12)),
 .g 13 true (some 14) (.fld 14 0 (sl 4)),
 .g 13 true (some 15) (.load1 15 (sl 14)),
 .g 13 true (some 16) (.bin 16 .eql (sl 15) (ci 0)),
 .o (.pick 17 (sl 13) (sl 16) (cb false)),
 .o (.move 18 (sl 5)),
 .o (.move 2 (sl 17)),
 .o (.move 3 (sl 18))])
 (.ret))))))
theorem fun_spec_IsFair {rin : List T} {args : List A} {Q : List T → T → Prop} (ha : args.length ≤ 19) (h : cW Try.prog 19 c_spec_IsFair (retP Try.prog [.tmp 2, .tmp 3] rin.length Q) (St.of (enum 0 args) (enum 1000000000 rin))) :
    Fun Try.prog 12 rin args Q :=
  Fun.of (H := ⟨[], []⟩) Try.func12 rfl rfl rfl (by kernel_rfl) ha (by decide) h

def c_impl_IsFair : CC :=
 (.seq (.reg [.o (.move 2 (cb false)),
 .o (.move 3 (ci 0))])
 ((.seq (.seq (.reg [.o (.move 7 (sl 0)),
 .o (.call (some 8) (cf 38) [(sl 7)]),
 .o (.un 9 .not (sl 8))])
 ((.cond (sl 9) (.seq (.reg [.o (.move 2 (cb false)),
 .o (.move 3 (ci 1))])
 (.ret))
 .skip)))
 ((.seq (.reg [.o (.move 11 (sl 0)),
 .o (.call (some 12) (cf 55) [(sl 11)]),
 .o (.move 10 (sl 12)),
 .o (.extract 13 (sl 10) 0),
 .o (.extract 14 (sl 10) 1),
 .o (.extract 15 (sl 10) 2),
 .o (.alloc 4 [.v (.slice none 0 0), .v (.slice none 0 0), .v (.int .i64 0), .v (.int .i64 0)]),
 .o (.store 4 (sl 4) (sl 13)),
 .o (.move 5 (sl 14)),
 .o (.move 6 (sl 15))])
 ((.seq (.reg [.o (.fld 16 2 (sl 4)),
 .o (.fld 17 0 (sl 16)),
 .o (.load1 18 (sl 17)),
 .o (.bin 19 .eql (sl 18) (ci 0)),
 .o (.move 2 (sl 19)),
 .o (.move 3 (ci 0))])
 (.ret))))))))
theorem fun_impl_IsFair {rin : List T} {args : List A} {Q : List T → T → Prop} (ha : args.length ≤ 20) (h : cW Try.prog 20 c_impl_IsFair (retP Try.prog [.tmp 2, .tmp 3] rin.length Q) (St.of (enum 0 args) (enum 1000000000 rin))) :
    Fun Try.prog 14 rin args Q :=
  Fun.of (H := ⟨[], []⟩) Try.func14 rfl rfl rfl (by kernel_rfl) ha (by decide) h

def c_spec_ValueOfMatrix : CC :=
 (.seq (.reg [.o (.alloc 2 [.v (.int .i64 0), .v (.int .i64 0)]),
 .o (.move 3 (ci 0))])
 ((.seq (.reg [.o (.move 7 (sl 0)),
 .o (.call (some 8) (cf 25) [(sl 7)]),
 .o (.move 6 (sl 8)),
 .o (.extract 9 (sl 6) 0),
 .o (.extract 10 (sl 6) 1),
 .o (.alloc 4 [.v (.slice none 0 0), .v (.slice none 0 0), .v (.int .i64 0), .v (.int .i64 0)]),
 .o (.store 4 (sl 4) (sl 9)),
 .o (.move 5 (sl 10))])
 ((.seq (.reg [.o (.fld 11 2 (sl 4)),
 .o (.loadN 12 2 (sl 11)),
 .o (.move 13 (sl 5)),
 .o (.store 2 (sl 2) (sl 12)),
 .o (.move 3 (sl 13))])
 (.ret))))))
theorem fun_spec_ValueOfMatrix {rin : List T} {args : List A} {Q : List T → T → Prop} (ha : args.length ≤ 14) (h : cW Try.prog 14 c_spec_ValueOfMatrix (retP Try.prog [.cell 2 30, .tmp 3] rin.length Q) (St.of (enum 0 args) (enum 1000000000 rin))) :
    Fun Try.prog 16 rin args Q :=
  Fun.of (H := ⟨[], []⟩) Try.func16 rfl rfl rfl (by kernel_rfl) ha (by decide) h

def c_impl_ValueOfMatrix : CC :=
 (.seq (.reg [.o (.alloc 2 [.v (.int .i64 0), .v (.int .i64 0)]),
 .o (.move 3 (ci 0))])
 ((.seq (.seq (.reg [.o (.move 7 (sl 0)),
 .o (.call (some 8) (cf 38) [(sl 7)]),
 .o (.un 9 .not (sl 8))])
 ((.cond (sl 9) (.seq (.reg [.o (.build 10 [.v (.int .i64 0), .v (.int .i64 0)] [(0, 1), (1, 1)] []),
 .o (.store 2 (sl 2) (sl 10)),
 .o (.move 3 (ci 1))])
 (.ret))
 .skip)))
 ((.seq (.reg [.o (.move 12 (sl 0)),
 .o (.call (some 13) (cf 55) [(sl 12)]),
 .o (.move 11 (sl 13)),
 .o (.extract 14 (sl 11) 0),
 .o (.extract 15 (sl 11) 1),
 .o (.extract 16 (sl 11) 2),
 .o (.alloc 4 [.v (.slice none 0 0), .v (.slice none 0 0), .v (.int .i64 0), .v (.int .i64 0)]),
 .o (.store 4 (sl 4) (sl 14)),
 .o (.move 5 (sl 15)),
 .o (.move 6 (sl 16))])
 ((.seq (.reg [.o (.fld 17 2 (sl 4)),
 .o (.loadN 18 2 (sl 17)),
 .o (.store 2 (sl 2) (sl 18)),
 .o (.move 3 (ci 0))])
 (.ret))))))))
theorem fun_impl_ValueOfMatrix {rin : List T} {args : List A} {Q : List T → T → Prop} (ha : args.length ≤ 19) (h : cW Try.prog 19 c_impl_ValueOfMatrix (retP Try.prog [.cell 2 30, .tmp 3] rin.length Q) (St.of (enum 0 args) (enum 1000000000 rin))) :
    Fun Try.prog 17 rin args Q :=
  Fun.of (H := ⟨[], []⟩) Try.func17 rfl rfl rfl (by kernel_rfl) ha (by decide) h

def c_spec_FirstKernel : CC :=
 (.seq (.reg [.o (.move 2 (cv (.slice none 0 0))),
 .o (.move 3 (cv (.slice none 0 0))),
 .o (.move 4 (ci 0))])
 ((.seq (.seq (.reg [.o (.move 8 (sl 0)),
 .o (.call (some 9) (cf 39) [(sl 8)]),
 .o (.un 10 .not (sl 9))])
 ((.cond (sl 10) (.seq (.reg [.o (.move 2 (cv (.slice none 0 0))),
 .o (.move 3 (cv (.slice none 0 0))),
 .o (.move 4 (ci 1))])
 (.ret))
 .skip)))
 ((.seq (.reg [.o (.move 12 (sl 0)),
 .o (.call (some 13) (cf 56) [(sl 12)]),
 .o (.move 11 (sl 13)),
 .o (.extract 14 (sl 11) 0),
 .o (.extract 15 (sl 11) 1),
 .o (.extract 16 (sl 11) 2),
 .o (.alloc 7 [.v (.slice none 0 0), .v (.slice none 0 0), .v (.int .i64 0), .v (.int .i64 0)]),
 .o (.move 5 (sl 14)),
 .o (.move 6 (sl 15)),
 .o (.store 4 (sl 7) (sl 16))])
 ((.seq (.reg [.o (.move 17 (sl 5)),
 .o (.move 18 (sl 6)),
 .o (.move 2 (sl 17)),
 .o (.move 3 (sl 18)),
 .o (.move 4 (ci 0))])
 (.ret))))))))
theorem fun_spec_FirstKernel {rin : List T} {args : List A} {Q : List T → T → Prop} (ha : args.length ≤ 19) (h : cW Try.prog 19 c_spec_FirstKernel (retP Try.prog [.tmp 2, .tmp 3, .tmp 4] rin.length Q) (St.of (enum 0 args) (enum 1000000000 rin))) :
    Fun Try.prog 19 rin args Q :=
  Fun.of (H := ⟨[], []⟩) Try.func19 rfl rfl rfl (by kernel_rfl) ha (by decide) h

def c_impl_FirstKernel : CC :=
 (.seq (.reg [.o (.move 2 (cv (.slice none 0 0))),
 .o (.move 3 (cv (.slice none 0 0))),
 .o (.move 4 (ci 0))])
 ((.seq (.seq (.reg [.o (.move 8 (sl 0)),
 .o (.call (some 9) (cf 38) [(sl 8)]),
 .o (.un 10 .not (sl 9))])
 ((.cond (sl 10) (.seq (.reg [.o (.move 2 (cv (.slice none 0 0))),
 .o (.move 3 (cv (.slice none 0 0))),
 .o (.move 4 (ci 1))])
 (.ret))
 .skip)))
 ((.seq (.reg [.o (.move 12 (sl 0)),
 .o (.call (some 13) (cf 55) [(sl 12)]),
 .o (.move 11 (sl 13)),
 .o (.extract 14 (sl 11) 0),
 .o (.extract 15 (sl 11) 1),
 .o (.extract 16 (sl 11) 2),
 .o (.alloc 5 [.v (.slice none 0 0), .v (.slice none 0 0), .v (.int .i64 0), .v (.int .i64 0)]),
 .o (.store 4 (sl 5) (sl 14)),
 .o (.move 6 (sl 15)),
 .o (.move 7 (sl 16))])
 ((.seq (.reg [.o (.move 17 (sl 6)),
 .o (.move 18 (sl 7)),
 .o (.move 2 (sl 17)),
 .o (.move 3 (sl 18)),
 .o (.move 4 (ci 0))])
 (.ret))))))))
theorem fun_impl_FirstKernel {rin : List T} {args : List A} {Q : List T → T → Prop} (ha : args.length ≤ 19) (h : cW Try.prog 19 c_impl_FirstKernel (retP Try.prog [.tmp 2, .tmp 3, .tmp 4] rin.length Q) (St.of (enum 0 args) (enum 1000000000 rin))) :
    Fun Try.prog 20 rin args Q :=
  Fun.of (H := ⟨[], []⟩) Try.func20 rfl rfl rfl (by kernel_rfl) ha (by decide) h

def c_spec_SolveMatrix : CC :=
 (.seq (.reg [.o (.alloc 2 [.v (.slice none 0 0), .v (.slice none 0 0), .v (.int .i64 0), .v (.int .i64 0)]),
 .o (.move 3 (ci 0))])
 ((.seq (.seq (.reg [.o (.move 7 (sl 0)),
 .o (.call (some 8) (cf 39) [(sl 7)]),
 .o (.un 9 .not (sl 8))])
 ((.cond (sl 9) (.seq (.reg [.o (.build 10 [.v (.slice none 0 0), .v (.slice none 0 0), .v (.int .i64 0), .v (.int .i64 0)] [(0, 1), (1, 1), (2, 2)] []),
 .o (.store 4 (sl 2) (sl 10)),
 .o (.move 3 (ci 1))])
 (.ret))
 .skip)))
 ((.seq (.reg [.o (.move 12 (sl 0)),
 .o (.call (some 13) (cf 56) [(sl 12)]),
 .o (.move 11 (sl 13)),
 .o (.extract 14 (sl 11) 0),
 .o (.extract 15 (sl 11) 1),
 .o (.extract 16 (sl 11) 2),
 .o (.alloc 6 [.v (.slice none 0 0), .v (.slice none 0 0), .v (.int .i64 0), .v (.int .i64 0)]),
 .o (.move 4 (sl 14)),
 .o (.move 5 (sl 15)),
 .o (.store 4 (sl 6) (sl 16))])
 ((.seq (.reg [.o (.loadN 17 4 (sl 6)),
 .o (.store 4 (sl 2) (sl 17)),
 .o (.move 3 (ci 0))])
 (.ret))))))))
theorem fun_spec_SolveMatrix {rin : List T} {args : List A} {Q : List T → T → Prop} (ha : args.length ≤ 18) (h : cW Try.prog 18 c_spec_SolveMatrix (retP Try.prog [.cell 2 41, .tmp 3] rin.length Q) (St.of (enum 0 args) (enum 1000000000 rin))) :
    Fun Try.prog 25 rin args Q :=
  Fun.of (H := ⟨[], []⟩) Try.func25 rfl rfl rfl (by kernel_rfl) ha (by decide) h

def c_impl_SolveMatrix : CC :=
 (.seq (.reg [.o (.alloc 2 [.v (.slice none 0 0), .v (.slice none 0 0), .v (.int .i64 0), .v (.int .i64 0)]),
 .o (.move 3 (ci 0))])
 ((.seq (.seq (.reg [.o (.move 7 (sl 0)),
 .o (.call (some 8) (cf 38) [(sl 7)]),
 .o (.un 9 .not (sl 8))])
 ((.cond (sl 9) (.seq (.reg [.o (.build 10 [.v (.slice none 0 0), .v (.slice none 0 0), .v (.int .i64 0), .v (.int .i64 0)] [(0, 1), (1, 1), (2, 2)] []),
 .o (.store 4 (sl 2) (sl 10)),
 .o (.move 3 (ci 1))])
 (.ret))
 .skip)))
 ((.seq (.reg [.o (.move 12 (sl 0)),
 .o (.call (some 13) (cf 55) [(sl 12)]),
 .o (.move 11 (sl 13)),
 .o (.extract 14 (sl 11) 0),
 .o (.extract 15 (sl 11) 1),
 .o (.extract 16 (sl 11) 2),
 .o (.alloc 4 [.v (.slice none 0 0), .v (.slice none 0 0), .v (.int .i64 0), .v (.int .i64 0)]),
 .o (.store 4 (sl 4) (sl 14)),
 .o (.move 5 (sl 15)),
 .o (.move 6 (sl 16))])
 ((.seq (.reg [.o (.loadN 17 4 (sl 4)),
 .o (.store 4 (sl 2) (sl 17)),
 .o (.move 3 (ci 0))])
 (.ret))))))))
theorem fun_impl_SolveMatrix {rin : List T} {args : List A} {Q : List T → T → Prop} (ha : args.length ≤ 18) (h : cW Try.prog 18 c_impl_SolveMatrix (retP Try.prog [.cell 2 41, .tmp 3] rin.length Q) (St.of (enum 0 args) (enum 1000000000 rin))) :
    Fun Try.prog 26 rin args Q :=
  Fun.of (H := ⟨[], []⟩) Try.func26 rfl rfl rfl (by kernel_rfl) ha (by decide) h

def c_laws_big : CC :=
 (.seq (.reg [.o (.move 2 (cb false))])
 ((.seq (.reg [.o (.move 3 (sl 0)),
 .o (.lenS 4 (sl 3)),
 .o (.bin 5 .gtr (sl 4) (ci 4096)),
 .o (.move 2 (sl 5))])
 (.ret))))
theorem fun_laws_big {rin : List T} {args : List A} {Q : List T → T → Prop} (ha : args.length ≤ 6) (h : cW Try.prog 6 c_laws_big (retP Try.prog [.tmp 2] rin.length Q) (St.of (enum 0 args) (enum 1000000000 rin))) :
    Fun Try.prog 30 rin args Q :=
  Fun.of (H := ⟨[], []⟩) Try.func30 rfl rfl rfl (by kernel_rfl) ha (by decide) h

def c_laws_likeInts : CC :=
 (.seq (.reg [.o (.move 4 (cb false))])
 ((.seq (.seq (.reg [.o (.move 6 (sl 0)),
 .o (.lenS 7 (sl 6)),
 .o (.move 8 (sl 1)),
 .o (.lenS 9 (sl 8)),
 .o (.bin 10 .neq (sl 7) (sl 9))])
 ((.cond (sl 10) (.seq (.reg [.o (.move 4 (cb false))])
 (.ret))
 .skip)))
 ((.seq (.seq (.reg [.o (.move 5 (ci 0))])
 ((.block 0 (.loop (.seq (.seq (.reg [.o (.move 11 (sl 5)),
 .o (.move 12 (sl 0)),
 .o (.lenS 13 (sl 12)),
 .o (.bin 14 .lss (sl 11) (sl 13))])
 ((.cond (sl 14) .skip
 (.exit 0))))
 ((.seq (.block 1 (.seq (.draw [] [(kR, .o (.move 17 (sl 0))),
 (kR, .o (.move 18 (sl 5))),
 (kR, .o (.idx 19 1 (sl 17) (sl 18))),
 (kR, .o (.load1 20 (sl 19))),
 (kR, .o (.move 21 (sl 1))),
 (kR, .o (.move 22 (sl 5))),
 (kR, .o (.idx 23 1 (sl 21) (sl 22))),
 (kR, .o (.load1 24 (sl 23))),
 (kR, .o (.bin 25 .neq (sl 20) (sl 24)))])
 ((.cond (sl 25) (.seq (.reg [.o (.move 4 (cb false))])
 (.ret))
 .skip))))
 ((.reg [.o (.move 15 (sl 5)),
 .o (.bin 16 .add (sl 15) (ci 1)),
 .o (.move 5 (sl 16))])))))))))
 ((.seq (.reg [.o (.move 4 (cb true))])
 (.ret))))))))
theorem fun_laws_likeInts {rin : List T} {args : List A} {Q : List T → T → Prop} (ha : args.length ≤ 26) (h : cW Try.prog 26 c_laws_likeInts (retP Try.prog [.tmp 4] rin.length Q) (St.of (enum 0 args) (enum 1000000000 rin))) :
    Fun Try.prog 37 rin args Q :=
  Fun.of (H := ⟨[], []⟩) Try.func37 rfl rfl rfl (by kernel_rfl) ha (by decide) h

def c_impl_IsMatrix : CC :=
 (.seq (.reg [.o (.box 1 (sl 0)),
 .o (.move 2 (cb false))])
 ((.seq (.seq (.reg [.o (.load1 3 (sl 1)),
 .o (.lenS 4 (sl 3)),
 .o (.call (some 5) (cf 67) [(sl 4), (ci 1), (ci 4)]),
 .o (.un 6 .not (sl 5)),
 .o (.move 7 (sl 6)),
 .g 7 false (some 8) (.load1 8 (sl 1)),
 .g 7 false (some 9) (.idx 9 1 (sl 8) (ci 0)),
 .g 7 false (some 10) (.load1 10 (sl 9)),
 .g 7 false (some 11) (.lenS 11 (sl 10)),
 .g 7 false (some 12) (.call (some 12) (cf 67) [(sl 11), (ci 1), (ci 4)]),
 .g 7 false (some 13) (.un 13 .not (sl 12)),
 .o (.pick 14 (sl 7) (cb true) (sl 13))])
 ((.cond (sl 14) (.seq (.reg [.o (.move 2 (cb false))])
 (.ret))
 .skip)))
 ((.seq (.reg [.o (.load1 15 (sl 1)),
 .o (.mkf 16 68 [(sl 1)]),
 .o (.call (some 17) (cf 65) [(sl 15), (sl 16)]),
 .o (.un 18 .not (sl 17)),
 .o (.move 2 (sl 18))])
 (.ret))))))
theorem fun_impl_IsMatrix {rin : List T} {args : List A} {Q : List T → T → Prop} (ha : args.length ≤ 19) (h : cW Try.prog 19 c_impl_IsMatrix (retP Try.prog [.tmp 2] rin.length Q) (St.of (enum 0 args) (enum 1000000000 rin))) :
    Fun Try.prog 38 rin args Q :=
  Fun.of (H := ⟨[], []⟩) Try.func38 rfl rfl rfl (by kernel_rfl) ha (by decide) h

def c_spec_IsMatrix : CC :=
 (.seq (.reg [.o (.move 2 (cb false))])
 ((.seq (.seq (.reg [.o (.move 5 (sl 0)),
 .o (.lenS 6 (sl 5)),
 .o (.call (some 7) (cf 70) [(sl 6), (ci 1), (ci 4)]),
 .o (.un 8 .not (sl 7)),
 .o (.move 9 (sl 8)),
 .g 9 false (some 10) (.move 10 (sl 0)),
 .g 9 false (some 11) (.idx 11 1 (sl 10) (ci 0)),
 .g 9 false (some 12) (.load1 12 (sl 11)),
 .g 9 false (some 13) (.lenS 13 (sl 12)),
 .g 9 false (some 14) (.call (some 14) (cf 70) [(sl 13), (ci 1), (ci 4)]),
 .g 9 false (some 15) (.un 15 .not (sl 14)),
 .o (.pick 16 (sl 9) (cb true) (sl 15))])
 ((.cond (sl 16) (.seq (.reg [.o (.move 2 (cb false))])
 (.ret))
 .skip)))
 ((.seq (.seq (.reg [.o (.move 3 (ci 0))])
 ((.block 0 (.loop (.seq (.seq (.reg [.o (.move 17 (sl 3)),
 .o (.move 18 (sl 0)),
 .o (.lenS 19 (sl 18)),
 .o (.bin 20 .lss (sl 17) (sl 19))])
 ((.cond (sl 20) .skip
 (.exit 0))))
 ((.seq (.block 1 (.seq (.seq (.draw [] [(kR, .o (.move 23 (sl 0))),
 (kR, .o (.move 24 (sl 3))),
 (kR, .o (.idx 25 1 (sl 23) (sl 24))),
 (kR, .o (.load1 26 (sl 25))),
 (kR, .o (.lenS 27 (sl 26))),
 (kR, .o (.move 28 (sl 0))),
 (kR, .o (.idx 29 1 (sl 28) (ci 0))),
 (kR, .o (.load1 30 (sl 29))),
 (kR, .o (.lenS 31 (sl 30))),
 (kR, .o (.bin 32 .neq (sl 27) (sl 31)))])
 ((.cond (sl 32) (.seq (.reg [.o (.move 2 (cb false))])
 (.ret))
 .skip)))
 ((.seq (.reg [.o (.move 4 (ci 0))])
 ((.block 2 (.loop (.seq (.seq (.reg [.o (.move 33 (sl 4)),
 .o (.move 34 (sl 0)),
 .o (.move 35 (sl 3)),
 .o (.idx 36 1 (sl 34) (sl 35)),
 .o (.load1 37 (sl 36)),
 .o (.lenS 38 (sl 37)),
 .o (.bin 39 .lss (sl 33) (sl 38))])
 ((.cond (sl 39) .skip
 (.exit 2))))
 ((.seq (.block 3 (.seq (.reg [.o (.move 42 (sl 0)),
 .o (.move 43 (sl 3)),
 .o (.idx 44 1 (sl 42) (sl 43)),
 .o (.load1 45 (sl 44)),
 .o (.move 46 (sl 4)),
 .o (.idx 47 1 (sl 45) (sl 46)),
 .o (.load1 48 (sl 47)),
 .o (.call (some 49) (cf 70) [(sl 48), (ci (-20)), (ci 20)]),
 .o (.un 50 .not (sl 49))])
 ((.cond (sl 50) (.seq (.reg [.o (.move 2 (cb false))])
 (.ret))
 .skip))))
 ((.reg [.o (.move 40 (sl 4)),
 .o (.bin 41 .add (sl 40) (ci 1)),
 .o (.move 4 (sl 41))]))))))))))))
 ((.reg [.o (.move 21 (sl 3)),
 .o (.bin 22 .add (sl 21) (ci 1)),
 .o (.move 3 (sl 22))])))))))))
 ((.seq (.reg [.o (.move 2 (cb true))])
 (.ret))))))))
theorem fun_spec_IsMatrix {rin : List T} {args : List A} {Q : List T → T → Prop} (ha : args.length ≤ 51) (h : cW Try.prog 51 c_spec_IsMatrix (retP Try.prog [.tmp 2] rin.length Q) (St.of (enum 0 args) (enum 1000000000 rin))) :
    Fun Try.prog 39 rin args Q :=
  Fun.of (H := ⟨[], []⟩) Try.func39 rfl rfl rfl (by kernel_rfl) ha (by decide) h

def c_laws_hasInt : CC :=
 (.seq (.reg [.o (.move 4 (cb false))])
 ((.seq (.seq (.reg [.o (.move 5 (ci 0))])
 ((.block 0 (.loop (.seq (.seq (.reg [.o (.move 6 (sl 5)),
 .o (.move 7 (sl 0)),
 .o (.lenS 8 (sl 7)),
 .o (.bin 9 .lss (sl 6) (sl 8))])
 ((.cond (sl 9) .skip
 (.exit 0))))
 ((.seq (.block 1 (.seq (.reg [.o (.move 12 (sl 0)),
 .o (.move 13 (sl 5)),
 .o (.idx 14 1 (sl 12) (sl 13)),
 .o (.load1 15 (sl 14)),
 .o (.move 16 (sl 1)),
 .o (.bin 17 .eql (sl 15) (sl 16))])
 ((.cond (sl 17) (.seq (.reg [.o (.move 4 (cb true))])
 (.ret))
 .skip))))
 ((.reg [.o (.move 10 (sl 5)),
 .o (.bin 11 .add (sl 10) (ci 1)),
 .o (.move 5 (sl 11))])))))))))
 ((.seq (.reg [.o (.move 4 (cb false))])
 (.ret))))))
theorem fun_laws_hasInt {rin : List T} {args : List A} {Q : List T → T → Prop} (ha : args.length ≤ 18) (h : cW Try.prog 18 c_laws_hasInt (retP Try.prog [.tmp 4] rin.length Q) (St.of (enum 0 args) (enum 1000000000 rin))) :
    Fun Try.prog 40 rin args Q :=
  Fun.of (H := ⟨[], []⟩) Try.func40 rfl rfl rfl (by kernel_rfl) ha (by decide) h

def c_spec_DrawFirstKernel : CC :=
 (.seq (.reg [.o (.move 2 (cv (.slice none 0 0)))])
 ((.seq (.reg [.o (.move 3 (sl 0)),
 .o (.call (some 4) (cf 61) [(sl 3)]),
 .o (.call (some 5) (cf 60) [(sl 4)]),
 .o (.move 2 (sl 5))])
 (.ret))))
theorem fun_spec_DrawFirstKernel {rin : List T} {args : List A} {Q : List T → T → Prop} (ha : args.length ≤ 6) (h : cW Try.prog 6 c_spec_DrawFirstKernel (retP Try.prog [.tmp 2] rin.length Q) (St.of (enum 0 args) (enum 1000000000 rin))) :
    Fun Try.prog 51 rin args Q :=
  Fun.of (H := ⟨[], []⟩) Try.func51 rfl rfl rfl (by kernel_rfl) ha (by decide) h

def c_spec_DrawIsFair : CC :=
 (.seq (.reg [.o (.move 2 (cv (.slice none 0 0)))])
 ((.seq (.reg [.o (.move 10 (sl 0)),
 .o (.call (some 11) (cf 61) [(sl 10)]),
 .o (.move 3 (sl 11))])
 ((.seq (.reg [.o (.move 12 (sl 3)),
 .o (.call (some 13) (cf 60) [(sl 12)]),
 .o (.move 4 (sl 13))])
 ((.seq (.seq (.reg [.o (.move 14 (sl 4)),
 .o (.call (some 15) (cf 39) [(sl 14)]),
 .o (.move 16 (sl 15)),
 .g 16 true (some 17) (.move 17 (sl 3)),
 .g 16 true (some 18) (.call (some 18) (cf 71) [(sl 17), (ci 2)]),
 .g 16 true (some 19) (.bin 19 .eql (sl 18) (ci 0)),
 .o (.pick 20 (sl 16) (sl 19) (cb false))])
 ((.cond (sl 20) (.seq (.reg [.o (.bslice 21 1 0 []),
 .o (.move 5 (sl 21))])
 ((.seq (.reg [.o (.move 22 (sl 4)),
 .o (.lenS 23 (sl 22)),
 .o (.move 24 (sl 4)),
 .o (.idx 25 1 (sl 24) (ci 0)),
 .o (.load1 26 (sl 25)),
 .o (.lenS 27 (sl 26)),
 .o (.mm 28 false (sl 23) (sl 27)),
 .o (.move 6 (sl 28))])
 ((.seq (.seq (.reg [.o (.move 7 (ci 0))])
 ((.block 0 (.loop (.seq (.seq (.reg [.o (.move 29 (sl 7)),
 .o (.move 30 (sl 6)),
 .o (.bin 31 .lss (sl 29) (sl 30))])
 ((.cond (sl 31) .skip
 (.exit 0))))
 ((.seq (.block 1 (.seq (.reg [.o (.bslice 34 1 0 []),
 .o (.move 8 (sl 34))])
 ((.seq (.seq (.reg [.o (.move 9 (ci 0))])
 ((.block 2 (.loop (.seq (.seq (.reg [.o (.move 35 (sl 9)),
 .o (.move 36 (sl 6)),
 .o (.bin 37 .lss (sl 35) (sl 36))])
 ((.cond (sl 37) .skip
 (.exit 2))))
 ((.seq (.block 3 (.block 4 (.seq (.reg [.o (.move 44 (sl 7)),
 .o (.move 45 (sl 9)),
 .o (.bin 46 .lss (sl 44) (sl 45)),
 .o (.move 43 (sl 46))])
 ((.cond (sl 43) (.reg [.o (.move 47 (sl 8)),
 .o (.move 48 (sl 4)),
 .o (.move 49 (sl 7)),
 .o (.idx 50 1 (sl 48) (sl 49)),
 .o (.load1 51 (sl 50)),
 .o (.move 52 (sl 9)),
 .o (.idx 53 1 (sl 51) (sl 52)),
 .o (.load1 54 (sl 53)),
 .o (.bslice 55 1 1 [(0, (sl 54))]),
 .o (.app 56 1 8 (sl 47) (sl 55)),
 .o (.move 8 (sl 56))])
 (.seq (.reg [.o (.move 58 (sl 7)),
 .o (.move 59 (sl 9)),
 .o (.bin 60 .gtr (sl 58) (sl 59)),
 .o (.move 57 (sl 60))])
 ((.cond (sl 57) (.reg [.o (.move 61 (sl 8)),
 .o (.move 62 (sl 4)),
 .o (.move 63 (sl 9)),
 .o (.idx 64 1 (sl 62) (sl 63)),
 .o (.load1 65 (sl 64)),
 .o (.move 66 (sl 7)),
 .o (.idx 67 1 (sl 65) (sl 66)),
 .o (.load1 68 (sl 67)),
 .o (.un 69 .neg (sl 68)),
 .o (.bslice 70 1 1 [(0, (sl 69))]),
 .o (.app 71 1 8 (sl 61) (sl 70)),
 .o (.move 8 (sl 71))])
 (.reg [.o (.move 40 (sl 8)),
 .o (.bslice 41 1 1 [(0, (ci 0))]),
 .o (.app 42 1 8 (sl 40) (sl 41)),
 .o (.move 8 (sl 42))])))))))))
 ((.reg [.o (.move 38 (sl 9)),
 .o (.bin 39 .add (sl 38) (ci 1)),
 .o (.move 9 (sl 39))])))))))))
 ((.reg [.o (.move 72 (sl 5)),
 .o (.move 73 (sl 8)),
 .o (.bslice 74 1 1 [(0, (sl 73))]),
 .o (.app 75 1 24 (sl 72) (sl 74)),
 .o (.move 5 (sl 75))]))))))
 ((.reg [.o (.move 32 (sl 7)),
 .o (.bin 33 .add (sl 32) (ci 1)),
 .o (.move 7 (sl 33))])))))))))
 ((.seq (.reg [.o (.move 76 (sl 5)),
 .o (.move 2 (sl 76))])
 (.ret))))))))
 .skip)))
 ((.seq (.reg [.o (.move 77 (sl 4)),
 .o (.move 2 (sl 77))])
 (.ret))))))))))
theorem fun_spec_DrawIsFair {rin : List T} {args : List A} {Q : List T → T → Prop} (ha : args.length ≤ 78) (h : cW Try.prog 78 c_spec_DrawIsFair (retP Try.prog [.tmp 2] rin.length Q) (St.of (enum 0 args) (enum 1000000000 rin))) :
    Fun Try.prog 52 rin args Q :=
  Fun.of (H := ⟨[], []⟩) Try.func52 rfl rfl rfl (by kernel_rfl) ha (by decide) h

def c_spec_l01From : CC :=
 (.seq (.reg [.o (.move 2 (cv (.pointer none)))])
 ((.seq (.reg [.o (.move 5 (sl 0)),
 .o (.build 6 [.v (.slice none 0 0), .v (.int .i64 0), .v (.int .i64 0)] [(0, 1), (1, 1), (2, 1)] [(0, (sl 5)), (2, (ci 45007))]),
 .o (.box 7 (sl 6)),
 .o (.move 3 (sl 7))])
 ((.seq (.seq (.reg [.o (.move 4 (ci 0))])
 ((.block 0 (.loop (.seq (.seq (.reg [.o (.move 8 (sl 4)),
 .o (.move 9 (sl 0)),
 .o (.lenS 10 (sl 9)),
 .o (.bin 11 .lss (sl 8) (sl 10)),
 .o (.move 12 (sl 11)),
 .g 12 true (some 13) (.move 13 (sl 4)),
 .g 12 true (some 14) (.bin 14 .lss (sl 13) (ci 64)),
 .o (.pick 15 (sl 12) (sl 14) (cb false))])
 ((.cond (sl 15) .skip
 (.exit 0))))
 ((.seq (.block 1 (.draw [] [(kR, .o (.move 18 (sl 3))),
 (kR, .o (.move 19 (sl 3))),
 (kR, .o (.nilc 20 (sl 19))),
 (kR, .o (.fld 21 2 (sl 20))),
 (kR, .o (.load1 22 (sl 21))),
 (kR, .o (.bin 23 .mul (sl 22) (ci 61))),
 (kR, .o (.move 24 (sl 0))),
 (kR, .o (.move 25 (sl 4))),
 (kR, .o (.idx 26 1 (sl 24) (sl 25))),
 (kR, .o (.load1 27 (sl 26))),
 (kR, .o (.conv 28 .i64 (sl 27))),
 (kR, .o (.bin 29 .add (sl 23) (sl 28))),
 (kR, .o (.bin 30 .rem (sl 29) (ci 2147483647))),
 (kR, .o (.nilc 31 (sl 18))),
 (kR, .o (.fld 32 2 (sl 31))),
 (kH, .o (.store 1 (sl 32) (sl 30)))]))
 ((.reg [.o (.move 16 (sl 4)),
 .o (.bin 17 .add (sl 16) (ci 1)),
 .o (.move 4 (sl 17))])))))))))
 ((.seq (.reg [.o (.move 33 (sl 3)),
 .o (.move 2 (sl 33))])
 (.ret))))))))
theorem fun_spec_l01From {rin : List T} {args : List A} {Q : List T → T → Prop} (ha : args.length ≤ 34) (h : cW Try.prog 34 c_spec_l01From (retP Try.prog [.tmp 2] rin.length Q) (St.of (enum 0 args) (enum 1000000000 rin))) :
    Fun Try.prog 61 rin args Q :=
  Fun.of (H := ⟨[], []⟩) Try.func61 rfl rfl rfl (by kernel_rfl) ha (by decide) h

def c_impl_turned : CC :=
 (.seq (.reg [.o (.move 2 (cv (.slice none 0 0)))])
 ((.seq (.reg [.o (.move 7 (sl 0)),
 .o (.idx 8 1 (sl 7) (ci 0)),
 .o (.load1 9 (sl 8)),
 .o (.lenS 10 (sl 9)),
 .o (.make 11 [.v (.slice none 0 0)] 24 (sl 10) (sl 10)),
 .o (.move 3 (sl 11))])
 ((.seq (.seq (.reg [.o (.move 12 (sl 3)),
 .o (.lenS 13 (sl 12)),
 .o (.move 14 (ci 0))])
 ((.block 0 (.loop (.seq (.reg [.o (.bin 15 .lss (sl 14) (sl 13))])
 ((.seq (.cond (sl 15) .skip
 (.exit 0))
 ((.seq (.block 1 (.seq (.reg [.o (.move 16 (sl 14)),
 .o (.move 4 (sl 16))])
 ((.seq (.reg [.o (.move 17 (sl 0)),
 .o (.lenS 18 (sl 17)),
 .o (.move 19 (ci 0))])
 ((.block 2 (.loop (.seq (.reg [.o (.bin 20 .lss (sl 19) (sl 18))])
 ((.seq (.cond (sl 20) .skip
 (.exit 2))
 ((.seq (.block 3 (.seq (.reg [.o (.idx 21 1 (sl 17) (sl 19)),
 .o (.load1 22 (sl 21)),
 .o (.move 6 (sl 22))])
 ((.draw [33] [(kE, .o (.move 23 (sl 3))),
 (kE, .o (.move 24 (sl 4))),
 (kR, .o (.move 25 (sl 3))),
 (kR, .o (.move 26 (sl 4))),
 (kR, .o (.idx 27 1 (sl 25) (sl 26))),
 (kH, .o (.load1 28 (sl 27))),
 (kE, .o (.move 29 (sl 6))),
 (kE, .o (.move 30 (sl 4))),
 (kE, .o (.idx 31 1 (sl 29) (sl 30))),
 (kE, .o (.load1 32 (sl 31))),
 (kN, .o (.bslice 33 1 1 [(0, (sl 32))])),
 (kH, .o (.app 34 1 8 (sl 28) (sl 33))),
 (kR, .o (.idx 35 1 (sl 23) (sl 24))),
 (kH, .o (.store 1 (sl 35) (sl 34)))]))))
 ((.reg [.o (.bin 36 .add (sl 19) (ci 1)),
 .o (.move 19 (sl 36))]))))))))))))))
 ((.reg [.o (.bin 37 .add (sl 14) (ci 1)),
 .o (.move 14 (sl 37))])))))))))))
 ((.seq (.reg [.o (.move 38 (sl 3)),
 .o (.move 2 (sl 38))])
 (.ret))))))))
theorem fun_impl_turned {rin : List T} {args : List A} {Q : List T → T → Prop} (ha : args.length ≤ 39) (h : cW Try.prog 39 c_impl_turned (retP Try.prog [.tmp 2] rin.length Q) (St.of (enum 0 args) (enum 1000000000 rin))) :
    Fun Try.prog 62 rin args Q :=
  Fun.of (H := ⟨[], []⟩) Try.func62 rfl rfl rfl (by kernel_rfl) ha (by decide) h

def c_slices_ContainsFunc_____int64___int64_ : CC :=
 (.seq (.reg [.o (.move 4 (cb false))])
 ((.seq (.reg [.o (.move 5 (sl 0)),
 .o (.move 6 (sl 1)),
 .o (.call (some 7) (cf 83) [(sl 5), (sl 6)]),
 .o (.bin 8 .geq (sl 7) (ci 0)),
 .o (.move 4 (sl 8))])
 (.ret))))
theorem fun_slices_ContainsFunc_____int64___int64_ {rin : List T} {args : List A} {Q : List T → T → Prop} (ha : args.length ≤ 9) (h : cW Try.prog 9 c_slices_ContainsFunc_____int64___int64_ (retP Try.prog [.tmp 4] rin.length Q) (St.of (enum 0 args) (enum 1000000000 rin))) :
    Fun Try.prog 65 rin args Q :=
  Fun.of (H := ⟨[], []⟩) Try.func65 rfl rfl rfl (by kernel_rfl) ha (by decide) h

def c_impl_within : CC :=
 (.seq (.reg [.o (.move 6 (cb false))])
 ((.seq (.reg [.o (.move 7 (sl 0)),
 .o (.move 8 (sl 1)),
 .o (.bin 9 .geq (sl 7) (sl 8)),
 .o (.move 10 (sl 9)),
 .g 10 true (some 11) (.move 11 (sl 0)),
 .g 10 true (some 12) (.move 12 (sl 2)),
 .g 10 true (some 13) (.bin 13 .leq (sl 11) (sl 12)),
 .o (.pick 14 (sl 10) (sl 13) (cb false)),
 .o (.move 6 (sl 14))])
 (.ret))))
theorem fun_impl_within {rin : List T} {args : List A} {Q : List T → T → Prop} (ha : args.length ≤ 15) (h : cW Try.prog 15 c_impl_within (retP Try.prog [.tmp 6] rin.length Q) (St.of (enum 0 args) (enum 1000000000 rin))) :
    Fun Try.prog 67 rin args Q :=
  Fun.of (H := ⟨[], []⟩) Try.func67 rfl rfl rfl (by kernel_rfl) ha (by decide) h

def c_impl_IsMatrix_1 : CC :=
 (.seq (.reg [.o (.move 3 (cb false))])
 ((.seq (.reg [.o (.move 4 (sl 0)),
 .o (.lenS 5 (sl 4)),
 .o (.load1 6 (sl 1)),
 .o (.idx 7 1 (sl 6) (ci 0)),
 .o (.load1 8 (sl 7)),
 .o (.lenS 9 (sl 8)),
 .o (.bin 10 .neq (sl 5) (sl 9)),
 .o (.move 11 (sl 10)),
 .g 11 false (some 12) (.move 12 (sl 0)),
 .g 11 false (some 13) (.call (some 13) (cf 69) [(sl 12), (ci (-20)), (ci 20)]),
 .g 11 false (some 14) (.un 14 .not (sl 13)),
 .o (.pick 15 (sl 11) (cb true) (sl 14)),
 .o (.move 3 (sl 15))])
 (.ret))))
theorem fun_impl_IsMatrix_1 {rin : List T} {args : List A} {Q : List T → T → Prop} (ha : args.length ≤ 16) (h : cW Try.prog 16 c_impl_IsMatrix_1 (retP Try.prog [.tmp 3] rin.length Q) (St.of (enum 0 args) (enum 1000000000 rin))) :
    Fun Try.prog 68 rin args Q :=
  Fun.of (H := ⟨[], []⟩) Try.func68 rfl rfl rfl (by kernel_rfl) ha (by decide) h

def c_impl_allWithin : CC :=
 (.seq (.reg [.o (.move 6 (cb false))])
 ((.seq (.seq (.reg [.o (.move 9 (sl 0)),
 .o (.lenS 10 (sl 9)),
 .o (.move 11 (ci 0))])
 ((.block 0 (.loop (.seq (.reg [.o (.bin 12 .lss (sl 11) (sl 10))])
 ((.seq (.cond (sl 12) .skip
 (.exit 0))
 ((.seq (.block 1 (.seq (.reg [.o (.idx 13 1 (sl 9) (sl 11)),
 .o (.load1 14 (sl 13)),
 .o (.move 8 (sl 14))])
 ((.seq (.reg [.o (.move 15 (sl 8)),
 .o (.move 16 (sl 1)),
 .o (.move 17 (sl 2)),
 .o (.call (some 18) (cf 67) [(sl 15), (sl 16), (sl 17)]),
 .o (.un 19 .not (sl 18))])
 ((.cond (sl 19) (.seq (.reg [.o (.move 6 (cb false))])
 (.ret))
 .skip))))))
 ((.reg [.o (.bin 20 .add (sl 11) (ci 1)),
 .o (.move 11 (sl 20))])))))))))))
 ((.seq (.reg [.o (.move 6 (cb true))])
 (.ret))))))
theorem fun_impl_allWithin {rin : List T} {args : List A} {Q : List T → T → Prop} (ha : args.length ≤ 21) (h : cW Try.prog 21 c_impl_allWithin (retP Try.prog [.tmp 6] rin.length Q) (St.of (enum 0 args) (enum 1000000000 rin))) :
    Fun Try.prog 69 rin args Q :=
  Fun.of (H := ⟨[], []⟩) Try.func69 rfl rfl rfl (by kernel_rfl) ha (by decide) h

def c_spec_l01In : CC :=
 (.seq (.reg [.o (.move 6 (cb false))])
 ((.seq (.reg [.o (.move 7 (sl 0)),
 .o (.move 8 (sl 1)),
 .o (.bin 9 .geq (sl 7) (sl 8)),
 .o (.move 10 (sl 9)),
 .g 10 true (some 11) (.move 11 (sl 0)),
 .g 10 true (some 12) (.move 12 (sl 2)),
 .g 10 true (some 13) (.bin 13 .leq (sl 11) (sl 12)),
 .o (.pick 14 (sl 10) (sl 13) (cb false)),
 .o (.move 6 (sl 14))])
 (.ret))))
theorem fun_spec_l01In {rin : List T} {args : List A} {Q : List T → T → Prop} (ha : args.length ≤ 15) (h : cW Try.prog 15 c_spec_l01In (retP Try.prog [.tmp 6] rin.length Q) (St.of (enum 0 args) (enum 1000000000 rin))) :
    Fun Try.prog 70 rin args Q :=
  Fun.of (H := ⟨[], []⟩) Try.func70 rfl rfl rfl (by kernel_rfl) ha (by decide) h

def c_spec_l01Next : CC :=
 (.seq (.reg [.o (.move 4 (ci 0))])
 ((.seq (.seq (.reg [.o (.move 6 (sl 1)),
 .o (.bin 7 .leq (sl 6) (ci 1))])
 ((.cond (sl 7) (.seq (.reg [.o (.move 4 (ci 0))])
 (.ret))
 .skip)))
 ((.seq (.reg [.o (.move 8 (sl 0)),
 .o (.move 9 (sl 0)),
 .o (.nilc 10 (sl 9)),
 .o (.fld 11 2 (sl 10)),
 .o (.load1 12 (sl 11)),
 .o (.bin 13 .mul (sl 12) (ci 48271)),
 .o (.bin 14 .add (sl 13) (ci 29)),
 .o (.bin 15 .rem (sl 14) (ci 2147483647)),
 .o (.nilc 16 (sl 8)),
 .o (.fld 17 2 (sl 16)),
 .o (.store 1 (sl 17) (sl 15))])
 ((.seq (.reg [.o (.move 18 (sl 0)),
 .o (.nilc 19 (sl 18)),
 .o (.fld 20 2 (sl 19)),
 .o (.load1 21 (sl 20)),
 .o (.bin 22 .quo (sl 21) (ci 31)),
 .o (.move 5 (sl 22))])
 ((.seq (.seq (.draw [] [(kR, .o (.move 23 (sl 0))),
 (kR, .o (.nilc 24 (sl 23))),
 (kR, .o (.fld 25 1 (sl 24))),
 (kR, .o (.load1 26 (sl 25))),
 (kR, .o (.move 27 (sl 0))),
 (kR, .o (.nilc 28 (sl 27))),
 (kR, .o (.fld 29 0 (sl 28))),
 (kR, .o (.load1 30 (sl 29))),
 (kR, .o (.lenS 31 (sl 30))),
 (kR, .o (.bin 32 .lss (sl 26) (sl 31)))])
 ((.cond (sl 32) (.seq (.draw [] [(kR, .o (.move 33 (sl 5))),
 (kR, .o (.move 34 (sl 0))),
 (kR, .o (.nilc 35 (sl 34))),
 (kR, .o (.fld 36 0 (sl 35))),
 (kR, .o (.load1 37 (sl 36))),
 (kR, .o (.move 38 (sl 0))),
 (kR, .o (.nilc 39 (sl 38))),
 (kR, .o (.fld 40 1 (sl 39))),
 (kR, .o (.load1 41 (sl 40))),
 (kR, .o (.idx 42 1 (sl 37) (sl 41))),
 (kR, .o (.load1 43 (sl 42))),
 (kR, .o (.conv 44 .i64 (sl 43))),
 (kR, .o (.bin 45 .add (sl 33) (sl 44))),
 (kR, .o (.move 5 (sl 45)))])
 ((.seq (.reg [.o (.move 46 (sl 0)),
 .o (.nilc 47 (sl 46)),
 .o (.fld 48 1 (sl 47)),
 .o (.load1 49 (sl 48)),
 .o (.bin 50 .add (sl 49) (ci 1)),
 .o (.nilc 51 (sl 46)),
 .o (.fld 52 1 (sl 51)),
 .o (.store 1 (sl 52) (sl 50))])
 ((.seq (.reg [.o (.move 53 (sl 1)),
 .o (.bin 54 .leq (sl 53) (ci 256)),
 .o (.move 55 (sl 54)),
 .g 55 true (some 56) (.move 56 (sl 0)),
 .g 55 true (some 57) (.nilc 57 (sl 56)),
 .g 55 true (some 58) (.fld 58 1 (sl 57)),
 .g 55 true (some 59) (.load1 59 (sl 58)),
 .g 55 true (some 60) (.bin 60 .rem (sl 59) (ci 2)),
 .g 55 true (some 61) (.bin 61 .eql (sl 60) (ci 0)),
 .o (.pick 62 (sl 55) (sl 61) (cb false))])
 ((.cond (sl 62) (.draw [] [(kR, .o (.move 63 (sl 0))),
 (kR, .o (.nilc 64 (sl 63))),
 (kR, .o (.fld 65 0 (sl 64))),
 (kR, .o (.load1 66 (sl 65))),
 (kR, .o (.move 67 (sl 0))),
 (kR, .o (.nilc 68 (sl 67))),
 (kR, .o (.fld 69 1 (sl 68))),
 (kR, .o (.load1 70 (sl 69))),
 (kR, .o (.bin 71 .sub (sl 70) (ci 1))),
 (kR, .o (.idx 72 1 (sl 66) (sl 71))),
 (kR, .o (.load1 73 (sl 72))),
 (kR, .o (.conv 74 .i64 (sl 73))),
 (kR, .o (.move 5 (sl 74)))])
 .skip)))))))
 .skip)))
 ((.seq (.reg [.o (.move 75 (sl 5)),
 .o (.move 76 (sl 1)),
 .o (.bin 77 .rem (sl 75) (sl 76)),
 .o (.move 4 (sl 77))])
 (.ret))))))))))))
theorem fun_spec_l01Next {rin : List T} {args : List A} {Q : List T → T → Prop} (ha : args.length ≤ 78) (h : cW Try.prog 78 c_spec_l01Next (retP Try.prog [.tmp 4] rin.length Q) (St.of (enum 0 args) (enum 1000000000 rin))) :
    Fun Try.prog 71 rin args Q :=
  Fun.of (H := ⟨[], []⟩) Try.func71 rfl rfl rfl (by kernel_rfl) ha (by decide) h

def c_spec_l01Pick : CC :=
 (.seq (.reg [.o (.move 4 (ci 0))])
 ((.seq (.reg [.o (.move 5 (sl 1)),
 .o (.move 6 (sl 0)),
 .o (.move 7 (sl 1)),
 .o (.lenS 8 (sl 7)),
 .o (.call (some 9) (cf 71) [(sl 6), (sl 8)]),
 .o (.idx 10 1 (sl 5) (sl 9)),
 .o (.load1 11 (sl 10)),
 .o (.move 4 (sl 11))])
 (.ret))))
theorem fun_spec_l01Pick {rin : List T} {args : List A} {Q : List T → T → Prop} (ha : args.length ≤ 12) (h : cW Try.prog 12 c_spec_l01Pick (retP Try.prog [.tmp 4] rin.length Q) (St.of (enum 0 args) (enum 1000000000 rin))) :
    Fun Try.prog 72 rin args Q :=
  Fun.of (H := ⟨[], []⟩) Try.func72 rfl rfl rfl (by kernel_rfl) ha (by decide) h

def c_impl_isSolution : CC :=
 (.seq (.reg [.o (.box 3 (sl 1)),
 .o (.move 4 (cb false))])
 ((.seq (.seq (.draw [] [(kR, .o (.fld 9 0 (sl 3))),
 (kR, .o (.load1 10 (sl 9))),
 (kR, .o (.move 11 (sl 0))),
 (kR, .o (.lenS 12 (sl 11))),
 (kR, .o (.call (some 13) (cf 87) [(sl 10), (sl 12)])),
 (kR, .o (.un 14 .not (sl 13))),
 (kR, .o (.move 15 (sl 14))),
 (kR, .g 15 false (some 16) (.fld 16 1 (sl 3))),
 (kR, .g 15 false (some 17) (.load1 17 (sl 16))),
 (kR, .g 15 false (some 18) (.move 18 (sl 0))),
 (kR, .g 15 false (some 19) (.idx 19 1 (sl 18) (ci 0))),
 (kR, .g 15 false (some 20) (.load1 20 (sl 19))),
 (kR, .g 15 false (some 21) (.lenS 21 (sl 20))),
 (kR, .g 15 false (some 22) (.call (some 22) (cf 87) [(sl 17), (sl 21)])),
 (kR, .g 15 false (some 23) (.un 23 .not (sl 22))),
 (kR, .o (.pick 24 (sl 15) (cb true) (sl 23))),
 (kR, .o (.move 25 (sl 24))),
 (kR, .g 25 false (some 26) (.fld 26 2 (sl 3))),
 (kR, .g 25 false (some 27) (.loadN 27 2 (sl 26))),
 (kR, .g 25 false (some 28) (.call (some 28) (cf 88) [(sl 27)])),
 (kR, .g 25 false (some 29) (.un 29 .not (sl 28))),
 (kR, .o (.pick 30 (sl 25) (cb true) (sl 29)))])
 ((.cond (sl 30) (.seq (.reg [.o (.move 4 (cb false))])
 (.ret))
 .skip)))
 ((.seq (.reg [.o (.move 32 (sl 0)),
 .o (.fld 33 1 (sl 3)),
 .o (.load1 34 (sl 33)),
 .o (.call (some 35) (cf 89) [(sl 32), (sl 34)]),
 .o (.move 31 (sl 35)),
 .o (.extract 36 (sl 31) 0),
 .o (.extract 37 (sl 31) 1),
 .o (.move 5 (sl 36)),
 .o (.move 6 (sl 37))])
 ((.seq (.draw [40, 43] [(kR, .o (.move 39 (sl 0))),
 (.c false [], .o (.call (some 40) (cf 62) [(sl 39)])),
 (.r false [40], .o (.fld 41 0 (sl 3))),
 (.r false [40], .o (.load1 42 (sl 41))),
 (.c false [], .o (.call (some 43) (cf 89) [(sl 40), (sl 42)])),
 (kR, .o (.move 38 (sl 43))),
 (kR, .o (.extract 44 (sl 38) 0)),
 (kR, .o (.extract 45 (sl 38) 1)),
 (kR, .o (.move 7 (sl 44))),
 (kR, .o (.move 8 (sl 45)))])
 ((.seq (.seq (.reg [.o (.move 46 (sl 6)),
 .o (.bin 47 .neq (sl 46) (ci 0)),
 .o (.move 48 (sl 47)),
 .g 48 false (some 49) (.move 49 (sl 8)),
 .g 48 false (some 50) (.bin 50 .neq (sl 49) (ci 0)),
 .o (.pick 51 (sl 48) (cb true) (sl 50))])
 ((.cond (sl 51) (.seq (.reg [.o (.move 4 (cb false))])
 (.ret))
 .skip)))
 ((.seq (.draw [] [(kR, .o (.move 52 (sl 5))),
 (kR, .o (.call (some 53) (cf 91) [(sl 52), (cf 90)])),
 (kR, .o (.fld 54 2 (sl 3))),
 (kR, .o (.loadN 55 2 (sl 54))),
 (kR, .o (.call (some 56) (cf 90) [(sl 53), (sl 55)])),
 (kR, .o (.bin 57 .leq (sl 56) (ci 0))),
 (kR, .o (.move 58 (sl 57))),
 (kR, .g 58 true (some 59) (.move 59 (sl 7))),
 (kR, .g 58 true (some 60) (.call (some 60) (cf 92) [(sl 59), (cf 90)])),
 (kR, .g 58 true (some 61) (.fld 61 2 (sl 3))),
 (kR, .g 58 true (some 62) (.loadN 62 2 (sl 61))),
 (kR, .g 58 true (some 63) (.call (some 63) (cf 90) [(sl 60), (sl 62)])),
 (kR, .g 58 true (some 64) (.bin 64 .geq (sl 63) (ci 0))),
 (kR, .o (.pick 65 (sl 58) (sl 64) (cb false))),
 (kR, .o (.move 4 (sl 65)))])
 (.ret))))))))))))
theorem fun_impl_isSolution {rin : List T} {args : List A} {Q : List T → T → Prop} (ha : args.length ≤ 66) (h : cW Try.prog 66 c_impl_isSolution (retP Try.prog [.tmp 4] rin.length Q) (St.of (enum 0 args) (enum 1000000000 rin))) :
    Fun Try.prog 74 rin args Q :=
  Fun.of (H := ⟨[], []⟩) Try.func74 rfl rfl rfl (by kernel_rfl) ha (by decide) h

def c_spec_l27Is : CC :=
 (.seq (.reg [.o (.box 3 (sl 1)),
 .o (.move 4 (cb false))])
 ((.seq (.seq (.draw [] [(kR, .o (.fld 10 0 (sl 3))),
 (kR, .o (.load1 11 (sl 10))),
 (kR, .o (.move 12 (sl 0))),
 (kR, .o (.lenS 13 (sl 12))),
 (kR, .o (.call (some 14) (cf 93) [(sl 11), (sl 13)])),
 (kR, .o (.un 15 .not (sl 14))),
 (kR, .o (.move 16 (sl 15))),
 (kR, .g 16 false (some 17) (.fld 17 1 (sl 3))),
 (kR, .g 16 false (some 18) (.load1 18 (sl 17))),
 (kR, .g 16 false (some 19) (.move 19 (sl 0))),
 (kR, .g 16 false (some 20) (.idx 20 1 (sl 19) (ci 0))),
 (kR, .g 16 false (some 21) (.load1 21 (sl 20))),
 (kR, .g 16 false (some 22) (.lenS 22 (sl 21))),
 (kR, .g 16 false (some 23) (.call (some 23) (cf 93) [(sl 18), (sl 22)])),
 (kR, .g 16 false (some 24) (.un 24 .not (sl 23))),
 (kR, .o (.pick 25 (sl 16) (cb true) (sl 24))),
 (kR, .o (.move 26 (sl 25))),
 (kR, .g 26 false (some 27) (.fld 27 2 (sl 3))),
 (kR, .g 26 false (some 28) (.loadN 28 2 (sl 27))),
 (kR, .g 26 false (some 29) (.call (some 29) (cf 94) [(sl 28)])),
 (kR, .g 26 false (some 30) (.un 30 .not (sl 29))),
 (kR, .o (.pick 31 (sl 26) (cb true) (sl 30)))])
 ((.cond (sl 31) (.seq (.reg [.o (.move 4 (cb false))])
 (.ret))
 .skip)))
 ((.seq (.reg [.o (.build 32 [.v (.int .i64 0)] [(0, 1)] []),
 .o (.box 33 (sl 32)),
 .o (.move 5 (sl 33))])
 ((.seq (.draw [] [(kR, .o (.move 34 (sl 5))),
 (kR, .o (.move 35 (sl 0))),
 (kR, .o (.fld 36 1 (sl 3))),
 (kR, .o (.load1 37 (sl 36))),
 (.h (some [33]) [], .o (.call (some 38) (cf 95) [(sl 34), (sl 35), (sl 37)])),
 (kE, .o (.move 39 (sl 5))),
 (kE, .o (.move 40 (sl 0))),
 (.r false [33, 38], .o (.fld 41 0 (sl 3))),
 (.r false [33, 38], .o (.load1 42 (sl 41))),
 (kH, .o (.call (some 43) (cf 96) [(sl 39), (sl 40), (sl 42)])),
 (kR, .o (.move 6 (sl 38))),
 (kR, .o (.move 7 (sl 43)))])
 ((.seq (.seq (.reg [.o (.move 44 (sl 5)),
 .o (.nilc 45 (sl 44)),
 .o (.fld 46 0 (sl 45)),
 .o (.load1 47 (sl 46)),
 .o (.bin 48 .neq (sl 47) (ci 0))])
 ((.cond (sl 48) (.seq (.reg [.o (.move 4 (cb false))])
 (.ret))
 .skip)))
 ((.seq (.seq (.reg [.o (.move 8 (ci 0))])
 ((.block 0 (.loop (.seq (.seq (.reg [.o (.move 49 (sl 8)),
 .o (.move 50 (sl 6)),
 .o (.lenS 51 (sl 50)),
 .o (.bin 52 .lss (sl 49) (sl 51))])
 ((.cond (sl 52) .skip
 (.exit 0))))
 ((.seq (.block 1 (.seq (.draw [] [(kR, .o (.move 55 (sl 6))),
 (kR, .o (.move 56 (sl 8))),
 (kR, .o (.idx 57 2 (sl 55) (sl 56))),
 (kR, .o (.loadN 58 2 (sl 57))),
 (kR, .o (.fld 59 2 (sl 3))),
 (kR, .o (.loadN 60 2 (sl 59))),
 (kR, .o (.call (some 61) (cf 97) [(sl 58), (sl 60)])),
 (kR, .o (.bin 62 .gtr (sl 61) (ci 0)))])
 ((.cond (sl 62) (.seq (.reg [.o (.move 4 (cb false))])
 (.ret))
 .skip))))
 ((.reg [.o (.move 53 (sl 8)),
 .o (.bin 54 .add (sl 53) (ci 1)),
 .o (.move 8 (sl 54))])))))))))
 ((.seq (.seq (.reg [.o (.move 9 (ci 0))])
 ((.block 2 (.loop (.seq (.seq (.reg [.o (.move 63 (sl 9)),
 .o (.move 64 (sl 7)),
 .o (.lenS 65 (sl 64)),
 .o (.bin 66 .lss (sl 63) (sl 65))])
 ((.cond (sl 66) .skip
 (.exit 2))))
 ((.seq (.block 3 (.seq (.draw [] [(kR, .o (.move 69 (sl 7))),
 (kR, .o (.move 70 (sl 9))),
 (kR, .o (.idx 71 2 (sl 69) (sl 70))),
 (kR, .o (.loadN 72 2 (sl 71))),
 (kR, .o (.fld 73 2 (sl 3))),
 (kR, .o (.loadN 74 2 (sl 73))),
 (kR, .o (.call (some 75) (cf 97) [(sl 72), (sl 74)])),
 (kR, .o (.bin 76 .lss (sl 75) (ci 0)))])
 ((.cond (sl 76) (.seq (.reg [.o (.move 4 (cb false))])
 (.ret))
 .skip))))
 ((.reg [.o (.move 67 (sl 9)),
 .o (.bin 68 .add (sl 67) (ci 1)),
 .o (.move 9 (sl 68))])))))))))
 ((.seq (.reg [.o (.move 4 (cb true))])
 (.ret))))))))))))))))
theorem fun_spec_l27Is {rin : List T} {args : List A} {Q : List T → T → Prop} (ha : args.length ≤ 77) (h : cW Try.prog 77 c_spec_l27Is (retP Try.prog [.tmp 4] rin.length Q) (St.of (enum 0 args) (enum 1000000000 rin))) :
    Fun Try.prog 76 rin args Q :=
  Fun.of (H := ⟨[(4, 4, .h (some [33]) []), (4, 7, .r false [33, 38]), (4, 8, .r false [33, 38])], []⟩) Try.func76 rfl rfl rfl (by kernel_rfl) ha (by decide) h

def c_impl_indicesOf : CC :=
 (.seq (.reg [.o (.move 2 (cv (.slice none 0 0)))])
 ((.seq (.reg [.o (.move 6 (sl 0)),
 .o (.lenS 7 (sl 6)),
 .o (.make 8 [.v (.int .i64 0)] 8 (sl 7) (sl 7)),
 .o (.move 3 (sl 8))])
 ((.seq (.seq (.reg [.o (.move 9 (sl 0)),
 .o (.lenS 10 (sl 9)),
 .o (.move 11 (ci 0))])
 ((.block 0 (.loop (.seq (.reg [.o (.bin 12 .lss (sl 11) (sl 10))])
 ((.seq (.cond (sl 12) .skip
 (.exit 0))
 ((.seq (.block 1 (.seq (.reg [.o (.move 13 (sl 11)),
 .o (.idx 14 1 (sl 9) (sl 11)),
 .o (.load1 15 (sl 14)),
 .o (.move 4 (sl 13)),
 .o (.move 5 (sl 15))])
 ((.reg [.o (.move 16 (sl 3)),
 .o (.move 17 (sl 4)),
 .o (.move 18 (sl 5)),
 .o (.idx 19 1 (sl 16) (sl 17)),
 .o (.store 1 (sl 19) (sl 18))]))))
 ((.reg [.o (.bin 20 .add (sl 11) (ci 1)),
 .o (.move 11 (sl 20))])))))))))))
 ((.seq (.reg [.o (.move 21 (sl 3)),
 .o (.move 2 (sl 21))])
 (.ret))))))))
theorem fun_impl_indicesOf {rin : List T} {args : List A} {Q : List T → T → Prop} (ha : args.length ≤ 22) (h : cW Try.prog 22 c_impl_indicesOf (retP Try.prog [.tmp 2] rin.length Q) (St.of (enum 0 args) (enum 1000000000 rin))) :
    Fun Try.prog 79 rin args Q :=
  Fun.of (H := ⟨[], []⟩) Try.func79 rfl rfl rfl (by kernel_rfl) ha (by decide) h

def c_spec_l04Choices : CC :=
 (.seq (.reg [.o (.move 4 (cv (.slice none 0 0)))])
 ((.seq (.seq (.reg [.o (.move 9 (sl 1)),
 .o (.bin 10 .eql (sl 9) (ci 0))])
 ((.cond (sl 10) (.seq (.reg [.o (.bslice 11 1 0 []),
 .o (.bslice 12 1 1 [(0, (sl 11))]),
 .o (.move 4 (sl 12))])
 (.ret))
 .skip)))
 ((.seq (.reg [.o (.bslice 13 1 0 []),
 .o (.move 5 (sl 13))])
 ((.seq (.seq (.reg [.o (.move 6 (ci 0))])
 ((.block 0 (.loop (.seq (.seq (.reg [.o (.move 14 (sl 6)),
 .o (.move 15 (sl 1)),
 .o (.bin 16 .add (sl 14) (sl 15)),
 .o (.move 17 (sl 0)),
 .o (.lenS 18 (sl 17)),
 .o (.bin 19 .leq (sl 16) (sl 18))])
 ((.cond (sl 19) .skip
 (.exit 0))))
 ((.seq (.block 1 (.seq (.reg [.o (.move 22 (sl 0)),
 .o (.move 23 (sl 6)),
 .o (.bin 24 .add (sl 23) (ci 1)),
 .o (.slc 25 1 (sl 22) (some (sl 24)) none),
 .o (.move 26 (sl 1)),
 .o (.bin 27 .sub (sl 26) (ci 1)),
 .o (.call (some 28) (cf 80) [(sl 25), (sl 27)]),
 .o (.move 7 (sl 28))])
 ((.seq (.reg [.o (.move 8 (ci 0))])
 ((.block 2 (.loop (.seq (.seq (.reg [.o (.move 29 (sl 8)),
 .o (.move 30 (sl 7)),
 .o (.lenS 31 (sl 30)),
 .o (.bin 32 .lss (sl 29) (sl 31))])
 ((.cond (sl 32) .skip
 (.exit 2))))
 ((.seq (.block 3 (.draw [40] [(kE, .o (.move 35 (sl 5))),
 (kR, .o (.move 36 (sl 0))),
 (kR, .o (.move 37 (sl 6))),
 (kR, .o (.idx 38 1 (sl 36) (sl 37))),
 (kR, .o (.load1 39 (sl 38))),
 (kN, .o (.bslice 40 1 1 [(0, (sl 39))])),
 (.r false [40], .o (.move 41 (sl 7))),
 (.r false [40], .o (.move 42 (sl 8))),
 (.r false [40], .o (.idx 43 1 (sl 41) (sl 42))),
 (.r false [40], .o (.load1 44 (sl 43))),
 (kH, .o (.app 45 1 8 (sl 40) (sl 44))),
 (kH, .o (.bslice 46 1 1 [(0, (sl 45))])),
 (kH, .o (.app 47 1 24 (sl 35) (sl 46))),
 (kR, .o (.move 5 (sl 47)))]))
 ((.reg [.o (.move 33 (sl 8)),
 .o (.bin 34 .add (sl 33) (ci 1)),
 .o (.move 8 (sl 34))]))))))))))))
 ((.reg [.o (.move 20 (sl 6)),
 .o (.bin 21 .add (sl 20) (ci 1)),
 .o (.move 6 (sl 21))])))))))))
 ((.seq (.reg [.o (.move 48 (sl 5)),
 .o (.move 4 (sl 48))])
 (.ret))))))))))
theorem fun_spec_l04Choices {rin : List T} {args : List A} {Q : List T → T → Prop} (ha : args.length ≤ 49) (h : cW Try.prog 49 c_spec_l04Choices (retP Try.prog [.tmp 4] rin.length Q) (St.of (enum 0 args) (enum 1000000000 rin))) :
    Fun Try.prog 80 rin args Q :=
  Fun.of (H := ⟨[], []⟩) Try.func80 rfl rfl rfl (by kernel_rfl) ha (by decide) h

def c_spec_l27Numbers : CC :=
 (.seq (.reg [.o (.move 2 (cv (.slice none 0 0)))])
 ((.seq (.reg [.o (.bslice 5 1 0 []),
 .o (.move 3 (sl 5))])
 ((.seq (.seq (.reg [.o (.move 4 (ci 0))])
 ((.block 0 (.loop (.seq (.seq (.reg [.o (.move 6 (sl 4)),
 .o (.move 7 (sl 0)),
 .o (.bin 8 .lss (sl 6) (sl 7))])
 ((.cond (sl 8) .skip
 (.exit 0))))
 ((.seq (.block 1 (.reg [.o (.move 11 (sl 3)),
 .o (.move 12 (sl 4)),
 .o (.bslice 13 1 1 [(0, (sl 12))]),
 .o (.app 14 1 8 (sl 11) (sl 13)),
 .o (.move 3 (sl 14))]))
 ((.reg [.o (.move 9 (sl 4)),
 .o (.bin 10 .add (sl 9) (ci 1)),
 .o (.move 4 (sl 10))])))))))))
 ((.seq (.reg [.o (.move 15 (sl 3)),
 .o (.move 2 (sl 15))])
 (.ret))))))))
theorem fun_spec_l27Numbers {rin : List T} {args : List A} {Q : List T → T → Prop} (ha : args.length ≤ 16) (h : cW Try.prog 16 c_spec_l27Numbers (retP Try.prog [.tmp 2] rin.length Q) (St.of (enum 0 args) (enum 1000000000 rin))) :
    Fun Try.prog 81 rin args Q :=
  Fun.of (H := ⟨[], []⟩) Try.func81 rfl rfl rfl (by kernel_rfl) ha (by decide) h

def c_spec_l27Gives : CC :=
 (.seq (.reg [.o (.alloc 6 [.v (.slice none 0 0), .v (.slice none 0 0), .v (.int .i64 0), .v (.int .i64 0)]),
 .o (.move 7 (cb false))])
 ((.seq (.reg [.o (.move 15 (sl 0)),
 .o (.move 16 (sl 1)),
 .o (.move 17 (sl 2)),
 .o (.call (some 18) (cf 104) [(sl 15), (sl 16), (sl 17)]),
 .o (.move 8 (sl 18))])
 ((.seq (.reg [.o (.move 19 (sl 8)),
 .o (.call (some 20) (cf 105) [(sl 19)]),
 .o (.move 9 (sl 20))])
 ((.seq (.reg [.o (.move 10 (ci 0))])
 ((.seq (.reg [.o (.bslice 21 1 0 []),
 .o (.bslice 22 1 0 []),
 .o (.move 11 (sl 21)),
 .o (.move 12 (sl 22))])
 ((.seq (.seq (.reg [.o (.move 13 (ci 0))])
 ((.block 0 (.loop (.seq (.seq (.reg [.o (.move 23 (sl 13)),
 .o (.move 24 (sl 9)),
 .o (.lenS 25 (sl 24)),
 .o (.bin 26 .lss (sl 23) (sl 25))])
 ((.cond (sl 26) .skip
 (.exit 0))))
 ((.seq (.block 1 (.seq (.reg [.o (.move 29 (sl 11)),
 .o (.move 30 (sl 9)),
 .o (.move 31 (sl 13)),
 .o (.idx 32 1 (sl 30) (sl 31)),
 .o (.load1 33 (sl 32)),
 .o (.call (some 34) (cf 84) [(sl 33)]),
 .o (.bslice 35 1 1 [(0, (sl 34))]),
 .o (.app 36 1 8 (sl 29) (sl 35)),
 .o (.move 11 (sl 36))])
 ((.seq (.reg [.o (.move 37 (sl 12)),
 .o (.move 38 (sl 9)),
 .o (.move 39 (sl 13)),
 .o (.call (some 40) (cf 106) [(sl 38), (sl 39)]),
 .o (.call (some 41) (cf 84) [(sl 40)]),
 .o (.bslice 42 1 1 [(0, (sl 41))]),
 .o (.app 43 1 8 (sl 37) (sl 42)),
 .o (.move 12 (sl 43))])
 ((.reg [.o (.move 44 (sl 10)),
 .o (.move 45 (sl 9)),
 .o (.move 46 (sl 13)),
 .o (.idx 47 1 (sl 45) (sl 46)),
 .o (.load1 48 (sl 47)),
 .o (.call (some 49) (cf 84) [(sl 48)]),
 .o (.bin 50 .add (sl 44) (sl 49)),
 .o (.move 10 (sl 50))]))))))
 ((.reg [.o (.move 27 (sl 13)),
 .o (.bin 28 .add (sl 27) (ci 1)),
 .o (.move 13 (sl 28))])))))))))
 ((.seq (.seq (.reg [.o (.move 51 (sl 10)),
 .o (.bin 52 .eql (sl 51) (ci 0))])
 ((.cond (sl 52) (.seq (.reg [.o (.build 53 [.v (.slice none 0 0), .v (.slice none 0 0), .v (.int .i64 0), .v (.int .i64 0)] [(0, 1), (1, 1), (2, 2)] []),
 .o (.store 4 (sl 6) (sl 53)),
 .o (.move 7 (cb false))])
 (.ret))
 .skip)))
 ((.seq (.reg [.o (.bslice 54 1 1 [(0, (ci 0))]),
 .o (.move 55 (sl 8)),
 .o (.call (some 56) (cf 108) [(sl 55)]),
 .o (.bslice 57 1 1 [(0, (sl 56))]),
 .o (.move 58 (sl 10)),
 .o (.call (some 59) (cf 107) [(ci 1), (sl 54), (sl 57), (sl 58)]),
 .o (.idx 60 2 (sl 59) (ci 0)),
 .o (.loadN 61 2 (sl 60)),
 .o (.alloc 14 [.v (.int .i64 0), .v (.int .i64 0)]),
 .o (.store 2 (sl 14) (sl 61))])
 ((.seq (.draw [67, 75] [(kR, .o (.move 62 (sl 0))),
 (kR, .o (.lenS 63 (sl 62))),
 (kR, .o (.move 64 (sl 1))),
 (kR, .o (.move 65 (sl 12))),
 (kR, .o (.move 66 (sl 10))),
 (.c false [], .o (.call (some 67) (cf 107) [(sl 63), (sl 64), (sl 65), (sl 66)])),
 (.r false [67], .o (.move 68 (sl 0))),
 (.r false [67], .o (.idx 69 1 (sl 68) (ci 0))),
 (.r false [67], .o (.load1 70 (sl 69))),
 (.r false [67], .o (.lenS 71 (sl 70))),
 (.r false [67], .o (.move 72 (sl 2))),
 (.r false [67], .o (.move 73 (sl 11))),
 (.r false [67], .o (.move 74 (sl 10))),
 (.c false [], .o (.call (some 75) (cf 107) [(sl 71), (sl 72), (sl 73), (sl 74)])),
 (.r false [67, 75], .o (.loadN 76 2 (sl 14))),
 (kR, .o (.build 77 [.v (.slice none 0 0), .v (.slice none 0 0), .v (.int .i64 0), .v (.int .i64 0)] [(0, 1), (1, 1), (2, 2)] [(0, (sl 67)), (1, (sl 75)), (2, (sl 76))])),
 (kH, .o (.store 4 (sl 6) (sl 77))),
 (kR, .o (.move 7 (cb true)))])
 (.ret))))))))))))))))))
theorem fun_spec_l27Gives {rin : List T} {args : List A} {Q : List T → T → Prop} (ha : args.length ≤ 78) (h : cW Try.prog 78 c_spec_l27Gives (retP Try.prog [.cell 6 41, .tmp 7] rin.length Q) (St.of (enum 0 args) (enum 1000000000 rin))) :
    Fun Try.prog 82 rin args Q :=
  Fun.of (H := ⟨[], []⟩) Try.func82 rfl rfl rfl (by kernel_rfl) ha (by decide) h

def c_slices_IndexFunc_____int64___int64_ : CC :=
 (.seq (.reg [.o (.move 4 (ci 0))])
 ((.seq (.seq (.reg [.o (.move 6 (sl 0)),
 .o (.lenS 7 (sl 6)),
 .o (.move 8 (ci 0))])
 ((.block 0 (.loop (.seq (.reg [.o (.bin 9 .lss (sl 8) (sl 7))])
 ((.seq (.cond (sl 9) .skip
 (.exit 0))
 ((.seq (.block 1 (.seq (.reg [.o (.move 10 (sl 8)),
 .o (.move 5 (sl 10))])
 ((.seq (.reg [.o (.move 11 (sl 1)),
 .o (.move 12 (sl 0)),
 .o (.move 13 (sl 5)),
 .o (.idx 14 1 (sl 12) (sl 13)),
 .o (.load1 15 (sl 14)),
 .o (.call (some 16) (sl 11) [(sl 15)])])
 ((.cond (sl 16) (.seq (.reg [.o (.move 17 (sl 5)),
 .o (.move 4 (sl 17))])
 (.ret))
 .skip))))))
 ((.reg [.o (.bin 18 .add (sl 8) (ci 1)),
 .o (.move 8 (sl 18))])))))))))))
 ((.seq (.reg [.o (.move 4 (ci (-1)))])
 (.ret))))))
theorem fun_slices_IndexFunc_____int64___int64_ {rin : List T} {args : List A} {Q : List T → T → Prop} (ha : args.length ≤ 19) (h : cW Try.prog 19 c_slices_IndexFunc_____int64___int64_ (retP Try.prog [.tmp 4] rin.length Q) (St.of (enum 0 args) (enum 1000000000 rin))) :
    Fun Try.prog 83 rin args Q :=
  Fun.of (H := ⟨[], []⟩) Try.func83 rfl rfl rfl (by kernel_rfl) ha (by decide) h

def c_spec_l01Sum : CC :=
 (.seq (.reg [.o (.move 2 (ci 0))])
 ((.seq (.reg [.o (.move 3 (ci 0))])
 ((.seq (.seq (.reg [.o (.move 4 (ci 0))])
 ((.block 0 (.loop (.seq (.seq (.reg [.o (.move 5 (sl 4)),
 .o (.move 6 (sl 0)),
 .o (.lenS 7 (sl 6)),
 .o (.bin 8 .lss (sl 5) (sl 7))])
 ((.cond (sl 8) .skip
 (.exit 0))))
 ((.seq (.block 1 (.reg [.o (.move 11 (sl 3)),
 .o (.move 12 (sl 0)),
 .o (.move 13 (sl 4)),
 .o (.idx 14 1 (sl 12) (sl 13)),
 .o (.load1 15 (sl 14)),
 .o (.bin 16 .add (sl 11) (sl 15)),
 .o (.move 3 (sl 16))]))
 ((.reg [.o (.move 9 (sl 4)),
 .o (.bin 10 .add (sl 9) (ci 1)),
 .o (.move 4 (sl 10))])))))))))
 ((.seq (.reg [.o (.move 17 (sl 3)),
 .o (.move 2 (sl 17))])
 (.ret))))))))
theorem fun_spec_l01Sum {rin : List T} {args : List A} {Q : List T → T → Prop} (ha : args.length ≤ 18) (h : cW Try.prog 18 c_spec_l01Sum (retP Try.prog [.tmp 2] rin.length Q) (St.of (enum 0 args) (enum 1000000000 rin))) :
    Fun Try.prog 84 rin args Q :=
  Fun.of (H := ⟨[], []⟩) Try.func84 rfl rfl rfl (by kernel_rfl) ha (by decide) h

def c_spec_l01Ratio : CC :=
 (.seq (.reg [.o (.alloc 4 [.v (.int .i64 0), .v (.int .i64 0)]),
 .o (.move 5 (ci 0))])
 ((.seq (.reg [.o (.move 8 (sl 0)),
 .o (.call (some 9) (cf 110) [(sl 8)]),
 .o (.move 10 (sl 1)),
 .o (.call (some 11) (cf 109) [(sl 9), (sl 10)]),
 .o (.move 6 (sl 11))])
 ((.seq (.draw [7] [(kR, .o (.move 12 (sl 0))),
 (kR, .o (.move 13 (sl 6))),
 (kR, .o (.bin 14 .quo (sl 12) (sl 13))),
 (kR, .o (.move 15 (sl 1))),
 (kR, .o (.move 16 (sl 6))),
 (kR, .o (.bin 17 .quo (sl 15) (sl 16))),
 (kR, .o (.build 18 [.v (.int .i64 0), .v (.int .i64 0)] [(0, 1), (1, 1)] [(0, (sl 14)), (1, (sl 17))])),
 (kN, .o (.alloc 7 [.v (.int .i64 0), .v (.int .i64 0)])),
 (kH, .o (.store 2 (sl 7) (sl 18)))])
 ((.seq (.seq (.reg [.o (.loadN 19 2 (sl 7)),
 .o (.call (some 20) (cf 94) [(sl 19)]),
 .o (.un 21 .not (sl 20))])
 ((.cond (sl 21) (.seq (.reg [.o (.build 22 [.v (.int .i64 0), .v (.int .i64 0)] [(0, 1), (1, 1)] []),
 .o (.store 2 (sl 4) (sl 22)),
 .o (.move 5 (ci 3))])
 (.ret))
 .skip)))
 ((.seq (.reg [.o (.loadN 23 2 (sl 7)),
 .o (.store 2 (sl 4) (sl 23)),
 .o (.move 5 (ci 0))])
 (.ret))))))))))
theorem fun_spec_l01Ratio {rin : List T} {args : List A} {Q : List T → T → Prop} (ha : args.length ≤ 24) (h : cW Try.prog 24 c_spec_l01Ratio (retP Try.prog [.cell 4 30, .tmp 5] rin.length Q) (St.of (enum 0 args) (enum 1000000000 rin))) :
    Fun Try.prog 85 rin args Q :=
  Fun.of (H := ⟨[], []⟩) Try.func85 rfl rfl rfl (by kernel_rfl) ha (by decide) h

def c_spec_l19Whole : CC :=
 (.seq (.reg [.o (.alloc 2 [.v (.int .i64 0), .v (.int .i64 0)])])
 ((.seq (.reg [.o (.move 3 (sl 0)),
 .o (.build 4 [.v (.int .i64 0), .v (.int .i64 0)] [(0, 1), (1, 1)] [(0, (sl 3)), (1, (ci 1))]),
 .o (.store 2 (sl 2) (sl 4))])
 (.ret))))
theorem fun_spec_l19Whole {rin : List T} {args : List A} {Q : List T → T → Prop} (ha : args.length ≤ 5) (h : cW Try.prog 5 c_spec_l19Whole (retP Try.prog [.cell 2 30] rin.length Q) (St.of (enum 0 args) (enum 1000000000 rin))) :
    Fun Try.prog 86 rin args Q :=
  Fun.of (H := ⟨[], []⟩) Try.func86 rfl rfl rfl (by kernel_rfl) ha (by decide) h

def c_impl_IsMix : CC :=
 (.seq (.reg [.o (.move 4 (cb false))])
 ((.seq (.seq (.reg [.o (.move 10 (sl 1)),
 .o (.call (some 11) (cf 67) [(sl 10), (ci 1), (ci 4)]),
 .o (.un 12 .not (sl 11)),
 .o (.move 13 (sl 12)),
 .g 13 false (some 14) (.move 14 (sl 0)),
 .g 13 false (some 15) (.lenS 15 (sl 14)),
 .g 13 false (some 16) (.move 16 (sl 1)),
 .g 13 false (some 17) (.bin 17 .neq (sl 15) (sl 16)),
 .o (.pick 18 (sl 13) (cb true) (sl 17))])
 ((.cond (sl 18) (.seq (.reg [.o (.move 4 (cb false))])
 (.ret))
 .skip)))
 ((.seq (.reg [.o (.build 19 [.v (.int .i64 0), .v (.int .i64 0)] [(0, 1), (1, 1)] [(0, (ci 0)), (1, (ci 1))]),
 .o (.alloc 5 [.v (.int .i64 0), .v (.int .i64 0)]),
 .o (.store 2 (sl 5) (sl 19))])
 ((.seq (.seq (.reg [.o (.move 20 (sl 0)),
 .o (.lenS 21 (sl 20)),
 .o (.move 22 (ci 0))])
 ((.block 0 (.loop (.seq (.reg [.o (.bin 23 .lss (sl 22) (sl 21))])
 ((.seq (.cond (sl 23) .skip
 (.exit 0))
 ((.seq (.block 1 (.seq (.reg [.o (.idx 24 2 (sl 20) (sl 22)),
 .o (.loadN 25 2 (sl 24)),
 .o (.alloc 7 [.v (.int .i64 0), .v (.int .i64 0)]),
 .o (.store 2 (sl 7) (sl 25))])
 ((.seq (.seq (.reg [.o (.loadN 26 2 (sl 7)),
 .o (.call (some 27) (cf 88) [(sl 26)]),
 .o (.un 28 .not (sl 27)),
 .o (.move 29 (sl 28)),
 .g 29 false (some 30) (.fld 30 0 (sl 7)),
 .g 29 false (some 31) (.load1 31 (sl 30)),
 .g 29 false (some 32) (.bin 32 .lss (sl 31) (ci 0)),
 .o (.pick 33 (sl 29) (cb true) (sl 32))])
 ((.cond (sl 33) (.seq (.reg [.o (.move 4 (cb false))])
 (.ret))
 .skip)))
 ((.seq (.reg [.o (.loadN 35 2 (sl 5)),
 .o (.loadN 36 2 (sl 7)),
 .o (.call (some 37) (cf 111) [(sl 35), (sl 36)]),
 .o (.move 34 (sl 37)),
 .o (.extract 38 (sl 34) 0),
 .o (.extract 39 (sl 34) 1),
 .o (.alloc 8 [.v (.int .i64 0), .v (.int .i64 0)]),
 .o (.store 2 (sl 8) (sl 38)),
 .o (.move 9 (sl 39))])
 ((.seq (.seq (.reg [.o (.move 40 (sl 9)),
 .o (.bin 41 .neq (sl 40) (ci 0))])
 ((.cond (sl 41) (.seq (.reg [.o (.move 4 (cb false))])
 (.ret))
 .skip)))
 ((.reg [.o (.loadN 42 2 (sl 8)),
 .o (.store 2 (sl 5) (sl 42))]))))))))))
 ((.reg [.o (.bin 43 .add (sl 22) (ci 1)),
 .o (.move 22 (sl 43))])))))))))))
 ((.seq (.reg [.o (.loadN 44 2 (sl 5)),
 .o (.build 45 [.v (.int .i64 0), .v (.int .i64 0)] [(0, 1), (1, 1)] [(0, (ci 1)), (1, (ci 1))]),
 .o (.beqS 46 false 2 (sl 44) (sl 45)),
 .o (.move 4 (sl 46))])
 (.ret))))))))))
theorem fun_impl_IsMix {rin : List T} {args : List A} {Q : List T → T → Prop} (ha : args.length ≤ 47) (h : cW Try.prog 47 c_impl_IsMix (retP Try.prog [.tmp 4] rin.length Q) (St.of (enum 0 args) (enum 1000000000 rin))) :
    Fun Try.prog 87 rin args Q :=
  Fun.of (H := ⟨[], []⟩) Try.func87 rfl rfl rfl (by kernel_rfl) ha (by decide) h

def c_impl_IsRatio : CC :=
 (.seq (.reg [.o (.box 1 (sl 0)),
 .o (.move 2 (cb false))])
 ((.seq (.draw [] [(kR, .o (.fld 3 0 (sl 1))),
 (kR, .o (.load1 4 (sl 3))),
 (kR, .o (.call (some 5) (cf 67) [(sl 4), (ci (-1000000000)), (ci 1000000000)])),
 (kR, .o (.move 6 (sl 5))),
 (kR, .g 6 true (some 7) (.fld 7 1 (sl 1))),
 (kR, .g 6 true (some 8) (.load1 8 (sl 7))),
 (kR, .g 6 true (some 9) (.call (some 9) (cf 67) [(sl 8), (ci 1), (ci 1000000000)])),
 (kR, .o (.pick 10 (sl 6) (sl 9) (cb false))),
 (kR, .o (.move 11 (sl 10))),
 (kR, .g 11 true (some 12) (.fld 12 0 (sl 1))),
 (kR, .g 11 true (some 13) (.load1 13 (sl 12))),
 (kR, .g 11 true (some 14) (.call (some 14) (cf 113) [(sl 13)])),
 (kR, .g 11 true (some 15) (.fld 15 1 (sl 1))),
 (kR, .g 11 true (some 16) (.load1 16 (sl 15))),
 (kR, .g 11 true (some 17) (.call (some 17) (cf 112) [(sl 14), (sl 16)])),
 (kR, .g 11 true (some 18) (.bin 18 .eql (sl 17) (ci 1))),
 (kR, .o (.pick 19 (sl 11) (sl 18) (cb false))),
 (kR, .o (.move 2 (sl 19)))])
 (.ret))))
theorem fun_impl_IsRatio {rin : List T} {args : List A} {Q : List T → T → Prop} (ha : args.length ≤ 20) (h : cW Try.prog 20 c_impl_IsRatio (retP Try.prog [.tmp 2] rin.length Q) (St.of (enum 0 args) (enum 1000000000 rin))) :
    Fun Try.prog 88 rin args Q :=
  Fun.of (H := ⟨[], []⟩) Try.func88 rfl rfl rfl (by kernel_rfl) ha (by decide) h

def c_impl_gainsOf : CC :=
 (.seq (.reg [.o (.move 4 (cv (.slice none 0 0))),
 .o (.move 5 (ci 0))])
 ((.seq (.reg [.o (.move 6 (cv (.slice none 0 0)))])
 ((.seq (.seq (.reg [.o (.move 14 (sl 0)),
 .o (.lenS 15 (sl 14)),
 .o (.move 16 (ci 0))])
 ((.block 0 (.loop (.seq (.reg [.o (.bin 17 .lss (sl 16) (sl 15))])
 ((.seq (.cond (sl 17) .skip
 (.exit 0))
 ((.seq (.block 1 (.seq (.reg [.o (.idx 18 1 (sl 14) (sl 16)),
 .o (.load1 19 (sl 18)),
 .o (.move 8 (sl 19))])
 ((.seq (.reg [.o (.move 20 (sl 8)),
 .o (.lenS 21 (sl 20)),
 .o (.make 22 [.v (.int .i64 0), .v (.int .i64 0)] 16 (sl 21) (sl 21)),
 .o (.move 9 (sl 22))])
 ((.seq (.seq (.reg [.o (.move 23 (sl 8)),
 .o (.lenS 24 (sl 23)),
 .o (.move 25 (ci 0))])
 ((.block 2 (.loop (.seq (.reg [.o (.bin 26 .lss (sl 25) (sl 24))])
 ((.seq (.cond (sl 26) .skip
 (.exit 2))
 ((.seq (.block 3 (.seq (.reg [.o (.move 27 (sl 25)),
 .o (.idx 28 1 (sl 23) (sl 25)),
 .o (.load1 29 (sl 28)),
 .o (.move 10 (sl 27)),
 .o (.move 11 (sl 29))])
 ((.reg [.o (.move 30 (sl 9)),
 .o (.move 31 (sl 10)),
 .o (.move 32 (sl 11)),
 .o (.build 33 [.v (.int .i64 0), .v (.int .i64 0)] [(0, 1), (1, 1)] [(0, (sl 32)), (1, (ci 1))]),
 .o (.idx 34 2 (sl 30) (sl 31)),
 .o (.store 2 (sl 34) (sl 33))]))))
 ((.reg [.o (.bin 35 .add (sl 25) (ci 1)),
 .o (.move 25 (sl 35))])))))))))))
 ((.seq (.reg [.o (.move 37 (sl 1)),
 .o (.move 38 (sl 9)),
 .o (.call (some 39) (cf 114) [(sl 37), (sl 38)]),
 .o (.move 36 (sl 39)),
 .o (.extract 40 (sl 36) 0),
 .o (.extract 41 (sl 36) 1),
 .o (.alloc 12 [.v (.int .i64 0), .v (.int .i64 0)]),
 .o (.store 2 (sl 12) (sl 40)),
 .o (.move 13 (sl 41))])
 ((.seq (.seq (.reg [.o (.move 42 (sl 13)),
 .o (.bin 43 .neq (sl 42) (ci 0))])
 ((.cond (sl 43) (.seq (.reg [.o (.move 44 (sl 13)),
 .o (.move 4 (cv (.slice none 0 0))),
 .o (.move 5 (sl 44))])
 (.ret))
 .skip)))
 ((.reg [.o (.move 45 (sl 6)),
 .o (.loadN 46 2 (sl 12)),
 .o (.bslice 47 2 1 [(0, (sl 46))]),
 .o (.app 48 2 16 (sl 45) (sl 47)),
 .o (.move 6 (sl 48))]))))))))))))
 ((.reg [.o (.bin 49 .add (sl 16) (ci 1)),
 .o (.move 16 (sl 49))])))))))))))
 ((.seq (.reg [.o (.move 50 (sl 6)),
 .o (.move 4 (sl 50)),
 .o (.move 5 (ci 0))])
 (.ret))))))))
theorem fun_impl_gainsOf {rin : List T} {args : List A} {Q : List T → T → Prop} (ha : args.length ≤ 51) (h : cW Try.prog 51 c_impl_gainsOf (retP Try.prog [.tmp 4, .tmp 5] rin.length Q) (St.of (enum 0 args) (enum 1000000000 rin))) :
    Fun Try.prog 89 rin args Q :=
  Fun.of (H := ⟨[], []⟩) Try.func89 rfl rfl rfl (by kernel_rfl) ha (by decide) h

def c_impl_compareRatios : CC :=
 (.seq (.reg [.o (.box 2 (sl 0)),
 .o (.box 3 (sl 1)),
 .o (.move 4 (ci 0))])
 ((.seq (.reg [.o (.fld 5 0 (sl 2)),
 .o (.load1 6 (sl 5)),
 .o (.fld 7 1 (sl 3)),
 .o (.load1 8 (sl 7)),
 .o (.bin 9 .mul (sl 6) (sl 8)),
 .o (.fld 10 0 (sl 3)),
 .o (.load1 11 (sl 10)),
 .o (.fld 12 1 (sl 2)),
 .o (.load1 13 (sl 12)),
 .o (.bin 14 .mul (sl 11) (sl 13)),
 .o (.call (some 15) (cf 115) [(sl 9), (sl 14)]),
 .o (.move 4 (sl 15))])
 (.ret))))
theorem fun_impl_compareRatios {rin : List T} {args : List A} {Q : List T → T → Prop} (ha : args.length ≤ 16) (h : cW Try.prog 16 c_impl_compareRatios (retP Try.prog [.tmp 4] rin.length Q) (St.of (enum 0 args) (enum 1000000000 rin))) :
    Fun Try.prog 90 rin args Q :=
  Fun.of (H := ⟨[], []⟩) Try.func90 rfl rfl rfl (by kernel_rfl) ha (by decide) h

def c_slices_MaxFunc___impl_Ratio_impl_Ratio_ : CC :=
 (.seq (.reg [.o (.alloc 4 [.v (.int .i64 0), .v (.int .i64 0)])])
 ((.seq (.seq (.reg [.o (.move 7 (sl 0)),
 .o (.lenS 8 (sl 7)),
 .o (.bin 9 .lss (sl 8) (ci 1))])
 ((.cond (sl 9) (.reg [.o (.bad (some 10)),
 .o (.bad none)])
 .skip)))
 ((.seq (.reg [.o (.move 11 (sl 0)),
 .o (.idx 12 2 (sl 11) (ci 0)),
 .o (.loadN 13 2 (sl 12)),
 .o (.alloc 5 [.v (.int .i64 0), .v (.int .i64 0)]),
 .o (.store 2 (sl 5) (sl 13))])
 ((.seq (.seq (.reg [.o (.move 6 (ci 1))])
 ((.block 0 (.loop (.seq (.seq (.reg [.o (.move 14 (sl 6)),
 .o (.move 15 (sl 0)),
 .o (.lenS 16 (sl 15)),
 .o (.bin 17 .lss (sl 14) (sl 16))])
 ((.cond (sl 17) .skip
 (.exit 0))))
 ((.seq (.block 1 (.seq (.draw [] [(kR, .o (.move 20 (sl 1))),
 (kR, .o (.move 21 (sl 0))),
 (kR, .o (.move 22 (sl 6))),
 (kR, .o (.idx 23 2 (sl 21) (sl 22))),
 (kR, .o (.loadN 24 2 (sl 23))),
 (kR, .o (.loadN 25 2 (sl 5))),
 (kR, .o (.call (some 26) (sl 20) [(sl 24), (sl 25)])),
 (kR, .o (.bin 27 .gtr (sl 26) (ci 0)))])
 ((.cond (sl 27) (.reg [.o (.move 28 (sl 0)),
 .o (.move 29 (sl 6)),
 .o (.idx 30 2 (sl 28) (sl 29)),
 .o (.loadN 31 2 (sl 30)),
 .o (.store 2 (sl 5) (sl 31))])
 .skip))))
 ((.reg [.o (.move 18 (sl 6)),
 .o (.bin 19 .add (sl 18) (ci 1)),
 .o (.move 6 (sl 19))])))))))))
 ((.seq (.reg [.o (.loadN 32 2 (sl 5)),
 .o (.store 2 (sl 4) (sl 32))])
 (.ret))))))))))
theorem fun_slices_MaxFunc___impl_Ratio_impl_Ratio_ {rin : List T} {args : List A} {Q : List T → T → Prop} (ha : args.length ≤ 33) (h : cW Try.prog 33 c_slices_MaxFunc___impl_Ratio_impl_Ratio_ (retP Try.prog [.cell 4 30] rin.length Q) (St.of (enum 0 args) (enum 1000000000 rin))) :
    Fun Try.prog 91 rin args Q :=
  Fun.of (H := ⟨[], []⟩) Try.func91 rfl rfl rfl (by kernel_rfl) ha (by decide) h

def c_slices_MinFunc___impl_Ratio_impl_Ratio_ : CC :=
 (.seq (.reg [.o (.alloc 4 [.v (.int .i64 0), .v (.int .i64 0)])])
 ((.seq (.seq (.reg [.o (.move 7 (sl 0)),
 .o (.lenS 8 (sl 7)),
 .o (.bin 9 .lss (sl 8) (ci 1))])
 ((.cond (sl 9) (.reg [.o (.bad (some 10)),
 .o (.bad none)])
 .skip)))
 ((.seq (.reg [.o (.move 11 (sl 0)),
 .o (.idx 12 2 (sl 11) (ci 0)),
 .o (.loadN 13 2 (sl 12)),
 .o (.alloc 5 [.v (.int .i64 0), .v (.int .i64 0)]),
 .o (.store 2 (sl 5) (sl 13))])
 ((.seq (.seq (.reg [.o (.move 6 (ci 1))])
 ((.block 0 (.loop (.seq (.seq (.reg [.o (.move 14 (sl 6)),
 .o (.move 15 (sl 0)),
 .o (.lenS 16 (sl 15)),
 .o (.bin 17 .lss (sl 14) (sl 16))])
 ((.cond (sl 17) .skip
 (.exit 0))))
 ((.seq (.block 1 (.seq (.draw [] [(kR, .o (.move 20 (sl 1))),
 (kR, .o (.move 21 (sl 0))),
 (kR, .o (.move 22 (sl 6))),
 (kR, .o (.idx 23 2 (sl 21) (sl 22))),
 (kR, .o (.loadN 24 2 (sl 23))),
 (kR, .o (.loadN 25 2 (sl 5))),
 (kR, .o (.call (some 26) (sl 20) [(sl 24), (sl 25)])),
 (kR, .o (.bin 27 .lss (sl 26) (ci 0)))])
 ((.cond (sl 27) (.reg [.o (.move 28 (sl 0)),
 .o (.move 29 (sl 6)),
 .o (.idx 30 2 (sl 28) (sl 29)),
 .o (.loadN 31 2 (sl 30)),
 .o (.store 2 (sl 5) (sl 31))])
 .skip))))
 ((.reg [.o (.move 18 (sl 6)),
 .o (.bin 19 .add (sl 18) (ci 1)),
 .o (.move 6 (sl 19))])))))))))
 ((.seq (.reg [.o (.loadN 32 2 (sl 5)),
 .o (.store 2 (sl 4) (sl 32))])
 (.ret))))))))))
theorem fun_slices_MinFunc___impl_Ratio_impl_Ratio_ {rin : List T} {args : List A} {Q : List T → T → Prop} (ha : args.length ≤ 33) (h : cW Try.prog 33 c_slices_MinFunc___impl_Ratio_impl_Ratio_ (retP Try.prog [.cell 4 30] rin.length Q) (St.of (enum 0 args) (enum 1000000000 rin))) :
    Fun Try.prog 92 rin args Q :=
  Fun.of (H := ⟨[], []⟩) Try.func92 rfl rfl rfl (by kernel_rfl) ha (by decide) h

def c_spec_IsMix : CC :=
 (.seq (.reg [.o (.move 4 (cb false))])
 ((.seq (.seq (.reg [.o (.move 8 (sl 0)),
 .o (.lenS 9 (sl 8)),
 .o (.move 10 (sl 1)),
 .o (.bin 11 .neq (sl 9) (sl 10)),
 .o (.move 12 (sl 11)),
 .g 12 false (some 13) (.move 13 (sl 1)),
 .g 12 false (some 14) (.call (some 14) (cf 70) [(sl 13), (ci 1), (ci 4)]),
 .g 12 false (some 15) (.un 15 .not (sl 14)),
 .o (.pick 16 (sl 12) (cb true) (sl 15))])
 ((.cond (sl 16) (.seq (.reg [.o (.move 4 (cb false))])
 (.ret))
 .skip)))
 ((.seq (.reg [.o (.build 17 [.v (.int .i64 0)] [(0, 1)] []),
 .o (.box 18 (sl 17)),
 .o (.move 5 (sl 18))])
 ((.seq (.reg [.o (.call (some 19) (cf 86) [(ci 0)]),
 .o (.alloc 6 [.v (.int .i64 0), .v (.int .i64 0)]),
 .o (.store 2 (sl 6) (sl 19))])
 ((.seq (.seq (.reg [.o (.move 7 (ci 0))])
 ((.block 0 (.loop (.seq (.seq (.reg [.o (.move 20 (sl 7)),
 .o (.move 21 (sl 0)),
 .o (.lenS 22 (sl 21)),
 .o (.bin 23 .lss (sl 20) (sl 22))])
 ((.cond (sl 23) .skip
 (.exit 0))))
 ((.seq (.block 1 (.seq (.seq (.reg [.o (.move 26 (sl 0)),
 .o (.move 27 (sl 7)),
 .o (.idx 28 2 (sl 26) (sl 27)),
 .o (.loadN 29 2 (sl 28)),
 .o (.call (some 30) (cf 94) [(sl 29)]),
 .o (.un 31 .not (sl 30)),
 .o (.move 32 (sl 31)),
 .g 32 false (some 33) (.move 33 (sl 0)),
 .g 32 false (some 34) (.move 34 (sl 7)),
 .g 32 false (some 35) (.idx 35 2 (sl 33) (sl 34)),
 .g 32 false (some 36) (.fld 36 0 (sl 35)),
 .g 32 false (some 37) (.load1 37 (sl 36)),
 .g 32 false (some 38) (.bin 38 .lss (sl 37) (ci 0)),
 .o (.pick 39 (sl 32) (cb true) (sl 38))])
 ((.cond (sl 39) (.seq (.reg [.o (.move 4 (cb false))])
 (.ret))
 .skip)))
 ((.draw [] [(kR, .o (.move 40 (sl 5))),
 (kR, .o (.loadN 41 2 (sl 6))),
 (kR, .o (.move 42 (sl 0))),
 (kR, .o (.move 43 (sl 7))),
 (kR, .o (.idx 44 2 (sl 42) (sl 43))),
 (kR, .o (.loadN 45 2 (sl 44))),
 (kH, .o (.call (some 46) (cf 116) [(sl 40), (sl 41), (sl 45)])),
 (kH, .o (.store 2 (sl 6) (sl 46)))]))))
 ((.reg [.o (.move 24 (sl 7)),
 .o (.bin 25 .add (sl 24) (ci 1)),
 .o (.move 7 (sl 25))])))))))))
 ((.seq (.draw [] [(kR, .o (.move 47 (sl 5))),
 (kR, .o (.nilc 48 (sl 47))),
 (kR, .o (.fld 49 0 (sl 48))),
 (kR, .o (.load1 50 (sl 49))),
 (kR, .o (.bin 51 .eql (sl 50) (ci 0))),
 (kR, .o (.move 52 (sl 51))),
 (kR, .g 52 true (some 53) (.loadN 53 2 (sl 6))),
 (kR, .g 52 true (some 54) (.call (some 54) (cf 86) [(ci 1)])),
 (kR, .g 52 true (some 55) (.beqS 55 false 2 (sl 53) (sl 54))),
 (kR, .o (.pick 56 (sl 52) (sl 55) (cb false))),
 (kR, .o (.move 4 (sl 56)))])
 (.ret))))))))))))
theorem fun_spec_IsMix {rin : List T} {args : List A} {Q : List T → T → Prop} (ha : args.length ≤ 57) (h : cW Try.prog 57 c_spec_IsMix (retP Try.prog [.tmp 4] rin.length Q) (St.of (enum 0 args) (enum 1000000000 rin))) :
    Fun Try.prog 93 rin args Q :=
  Fun.of (H := ⟨[], []⟩) Try.func93 rfl rfl rfl (by kernel_rfl) ha (by decide) h

def c_spec_IsRatio : CC :=
 (.seq (.reg [.o (.box 1 (sl 0)),
 .o (.move 2 (cb false))])
 ((.seq (.draw [] [(kR, .o (.fld 3 0 (sl 1))),
 (kR, .o (.load1 4 (sl 3))),
 (kR, .o (.call (some 5) (cf 70) [(sl 4), (ci (-1000000000)), (ci 1000000000)])),
 (kR, .o (.move 6 (sl 5))),
 (kR, .g 6 true (some 7) (.fld 7 1 (sl 1))),
 (kR, .g 6 true (some 8) (.load1 8 (sl 7))),
 (kR, .g 6 true (some 9) (.call (some 9) (cf 70) [(sl 8), (ci 1), (ci 1000000000)])),
 (kR, .o (.pick 10 (sl 6) (sl 9) (cb false))),
 (kR, .o (.move 11 (sl 10))),
 (kR, .g 11 true (some 12) (.fld 12 0 (sl 1))),
 (kR, .g 11 true (some 13) (.load1 13 (sl 12))),
 (kR, .g 11 true (some 14) (.call (some 14) (cf 110) [(sl 13)])),
 (kR, .g 11 true (some 15) (.fld 15 1 (sl 1))),
 (kR, .g 11 true (some 16) (.load1 16 (sl 15))),
 (kR, .g 11 true (some 17) (.call (some 17) (cf 109) [(sl 14), (sl 16)])),
 (kR, .g 11 true (some 18) (.bin 18 .eql (sl 17) (ci 1))),
 (kR, .o (.pick 19 (sl 11) (sl 18) (cb false))),
 (kR, .o (.move 2 (sl 19)))])
 (.ret))))
theorem fun_spec_IsRatio {rin : List T} {args : List A} {Q : List T → T → Prop} (ha : args.length ≤ 20) (h : cW Try.prog 20 c_spec_IsRatio (retP Try.prog [.tmp 2] rin.length Q) (St.of (enum 0 args) (enum 1000000000 rin))) :
    Fun Try.prog 94 rin args Q :=
  Fun.of (H := ⟨[], []⟩) Try.func94 rfl rfl rfl (by kernel_rfl) ha (by decide) h

def c_spec_l26Rows : CC :=
 (.seq (.reg [.o (.move 6 (cv (.slice none 0 0)))])
 ((.seq (.reg [.o (.bslice 9 2 0 []),
 .o (.move 7 (sl 9))])
 ((.seq (.seq (.reg [.o (.move 8 (ci 0))])
 ((.block 0 (.loop (.seq (.seq (.reg [.o (.move 10 (sl 8)),
 .o (.move 11 (sl 1)),
 .o (.lenS 12 (sl 11)),
 .o (.bin 13 .lss (sl 10) (sl 12))])
 ((.cond (sl 13) .skip
 (.exit 0))))
 ((.seq (.block 1 (.reg [.o (.move 16 (sl 7)),
 .o (.move 17 (sl 0)),
 .o (.move 18 (sl 2)),
 .o (.move 19 (sl 1)),
 .o (.move 20 (sl 8)),
 .o (.idx 21 1 (sl 19) (sl 20)),
 .o (.load1 22 (sl 21)),
 .o (.call (some 23) (cf 117) [(sl 17), (sl 18), (sl 22)]),
 .o (.bslice 24 2 1 [(0, (sl 23))]),
 .o (.app 25 2 16 (sl 16) (sl 24)),
 .o (.move 7 (sl 25))]))
 ((.reg [.o (.move 14 (sl 8)),
 .o (.bin 15 .add (sl 14) (ci 1)),
 .o (.move 8 (sl 15))])))))))))
 ((.seq (.reg [.o (.move 26 (sl 7)),
 .o (.move 6 (sl 26))])
 (.ret))))))))
theorem fun_spec_l26Rows {rin : List T} {args : List A} {Q : List T → T → Prop} (ha : args.length ≤ 27) (h : cW Try.prog 27 c_spec_l26Rows (retP Try.prog [.tmp 6] rin.length Q) (St.of (enum 0 args) (enum 1000000000 rin))) :
    Fun Try.prog 95 rin args Q :=
  Fun.of (H := ⟨[], []⟩) Try.func95 rfl rfl rfl (by kernel_rfl) ha (by decide) h

def c_spec_l26Columns : CC :=
 (.seq (.reg [.o (.move 6 (cv (.slice none 0 0)))])
 ((.seq (.reg [.o (.bslice 9 2 0 []),
 .o (.move 7 (sl 9))])
 ((.seq (.seq (.reg [.o (.move 8 (ci 0))])
 ((.block 0 (.loop (.seq (.seq (.reg [.o (.move 10 (sl 8)),
 .o (.move 11 (sl 1)),
 .o (.idx 12 1 (sl 11) (ci 0)),
 .o (.load1 13 (sl 12)),
 .o (.lenS 14 (sl 13)),
 .o (.bin 15 .lss (sl 10) (sl 14))])
 ((.cond (sl 15) .skip
 (.exit 0))))
 ((.seq (.block 1 (.reg [.o (.move 18 (sl 7)),
 .o (.move 19 (sl 0)),
 .o (.move 20 (sl 2)),
 .o (.move 21 (sl 1)),
 .o (.move 22 (sl 8)),
 .o (.call (some 23) (cf 106) [(sl 21), (sl 22)]),
 .o (.call (some 24) (cf 117) [(sl 19), (sl 20), (sl 23)]),
 .o (.bslice 25 2 1 [(0, (sl 24))]),
 .o (.app 26 2 16 (sl 18) (sl 25)),
 .o (.move 7 (sl 26))]))
 ((.reg [.o (.move 16 (sl 8)),
 .o (.bin 17 .add (sl 16) (ci 1)),
 .o (.move 8 (sl 17))])))))))))
 ((.seq (.reg [.o (.move 27 (sl 7)),
 .o (.move 6 (sl 27))])
 (.ret))))))))
theorem fun_spec_l26Columns {rin : List T} {args : List A} {Q : List T → T → Prop} (ha : args.length ≤ 28) (h : cW Try.prog 28 c_spec_l26Columns (retP Try.prog [.tmp 6] rin.length Q) (St.of (enum 0 args) (enum 1000000000 rin))) :
    Fun Try.prog 96 rin args Q :=
  Fun.of (H := ⟨[], []⟩) Try.func96 rfl rfl rfl (by kernel_rfl) ha (by decide) h

def c_spec_l01Compare : CC :=
 (.seq (.reg [.o (.box 2 (sl 0)),
 .o (.box 3 (sl 1)),
 .o (.move 4 (ci 0))])
 ((.seq (.draw [] [(kR, .o (.fld 7 0 (sl 2))),
 (kR, .o (.load1 8 (sl 7))),
 (kR, .o (.fld 9 1 (sl 3))),
 (kR, .o (.load1 10 (sl 9))),
 (kR, .o (.bin 11 .mul (sl 8) (sl 10))),
 (kR, .o (.fld 12 0 (sl 3))),
 (kR, .o (.load1 13 (sl 12))),
 (kR, .o (.fld 14 1 (sl 2))),
 (kR, .o (.load1 15 (sl 14))),
 (kR, .o (.bin 16 .mul (sl 13) (sl 15))),
 (kR, .o (.move 5 (sl 11))),
 (kR, .o (.move 6 (sl 16)))])
 ((.seq (.block 0 (.seq (.reg [.o (.move 18 (sl 5)),
 .o (.move 19 (sl 6)),
 .o (.bin 20 .lss (sl 18) (sl 19)),
 .o (.move 17 (sl 20))])
 ((.cond (sl 17) (.seq (.reg [.o (.move 4 (ci (-1)))])
 (.ret))
 (.seq (.reg [.o (.move 22 (sl 5)),
 .o (.move 23 (sl 6)),
 .o (.bin 24 .gtr (sl 22) (sl 23)),
 .o (.move 21 (sl 24))])
 ((.cond (sl 21) (.seq (.reg [.o (.move 4 (ci 1))])
 (.ret))
 .skip)))))))
 ((.seq (.reg [.o (.move 4 (ci 0))])
 (.ret))))))))
theorem fun_spec_l01Compare {rin : List T} {args : List A} {Q : List T → T → Prop} (ha : args.length ≤ 25) (h : cW Try.prog 25 c_spec_l01Compare (retP Try.prog [.tmp 4] rin.length Q) (St.of (enum 0 args) (enum 1000000000 rin))) :
    Fun Try.prog 97 rin args Q :=
  Fun.of (H := ⟨[], []⟩) Try.func97 rfl rfl rfl (by kernel_rfl) ha (by decide) h

def c_impl_choices_1 : CC :=
 (.seq (.reg [.o (.load1 8 (sl 1)),
 .o (.make 9 [.v (.int .i64 0)] 8 (sl 8) (sl 8)),
 .o (.move 4 (sl 9))])
 ((.seq (.seq (.reg [.o (.move 10 (sl 4)),
 .o (.lenS 11 (sl 10)),
 .o (.move 12 (ci 0))])
 ((.block 0 (.loop (.seq (.reg [.o (.bin 13 .lss (sl 12) (sl 11))])
 ((.seq (.cond (sl 13) .skip
 (.exit 0))
 ((.seq (.block 1 (.seq (.reg [.o (.move 14 (sl 12)),
 .o (.move 5 (sl 14))])
 ((.reg [.o (.move 15 (sl 4)),
 .o (.move 16 (sl 5)),
 .o (.move 17 (sl 5)),
 .o (.idx 18 1 (sl 15) (sl 16)),
 .o (.store 1 (sl 18) (sl 17))]))))
 ((.reg [.o (.bin 19 .add (sl 12) (ci 1)),
 .o (.move 12 (sl 19))])))))))))))
 ((.seq (.seq (.reg [.o (.load1 20 (sl 1)),
 .o (.load1 21 (sl 2)),
 .o (.bin 22 .gtr (sl 20) (sl 21))])
 ((.cond (sl 22) .ret
 .skip)))
 ((.block 2 (.loop (.seq (.seq (.reg [.o (.move 23 (sl 0)),
 .o (.move 24 (sl 4)),
 .o (.call (some 25) (sl 23) [(sl 24)])])
 ((.cond (sl 25) .skip
 (.exit 2))))
 ((.block 3 (.seq (.reg [.o (.load1 26 (sl 1)),
 .o (.bin 27 .sub (sl 26) (ci 1)),
 .o (.move 6 (sl 27))])
 ((.seq (.block 4 (.loop (.seq (.seq (.draw [] [(kR, .o (.move 28 (sl 6))),
 (kR, .o (.bin 29 .geq (sl 28) (ci 0))),
 (kR, .o (.move 30 (sl 29))),
 (kR, .g 30 true (some 31) (.move 31 (sl 4))),
 (kR, .g 30 true (some 32) (.move 32 (sl 6))),
 (kR, .g 30 true (some 33) (.idx 33 1 (sl 31) (sl 32))),
 (kR, .g 30 true (some 34) (.load1 34 (sl 33))),
 (kR, .g 30 true (some 35) (.load1 35 (sl 2))),
 (kR, .g 30 true (some 36) (.load1 36 (sl 1))),
 (kR, .g 30 true (some 37) (.bin 37 .sub (sl 35) (sl 36))),
 (kR, .g 30 true (some 38) (.move 38 (sl 6))),
 (kR, .g 30 true (some 39) (.bin 39 .add (sl 37) (sl 38))),
 (kR, .g 30 true (some 40) (.bin 40 .eql (sl 34) (sl 39))),
 (kR, .o (.pick 41 (sl 30) (sl 40) (cb false)))])
 ((.cond (sl 41) .skip
 (.exit 4))))
 ((.block 5 (.reg [.o (.move 42 (sl 6)),
 .o (.bin 43 .sub (sl 42) (ci 1)),
 .o (.move 6 (sl 43))]))))))
 ((.seq (.seq (.reg [.o (.move 44 (sl 6)),
 .o (.bin 45 .lss (sl 44) (ci 0))])
 ((.cond (sl 45) .ret
 .skip)))
 ((.seq (.reg [.o (.move 46 (sl 4)),
 .o (.move 47 (sl 6)),
 .o (.idx 48 1 (sl 46) (sl 47)),
 .o (.load1 49 (sl 48)),
 .o (.bin 50 .add (sl 49) (ci 1)),
 .o (.idx 51 1 (sl 46) (sl 47)),
 .o (.store 1 (sl 51) (sl 50))])
 ((.seq (.reg [.o (.move 52 (sl 6)),
 .o (.bin 53 .add (sl 52) (ci 1)),
 .o (.move 7 (sl 53))])
 ((.block 6 (.loop (.seq (.seq (.reg [.o (.move 54 (sl 7)),
 .o (.load1 55 (sl 1)),
 .o (.bin 56 .lss (sl 54) (sl 55))])
 ((.cond (sl 56) .skip
 (.exit 6))))
 ((.seq (.block 7 (.reg [.o (.move 59 (sl 4)),
 .o (.move 60 (sl 7)),
 .o (.move 61 (sl 4)),
 .o (.move 62 (sl 7)),
 .o (.bin 63 .sub (sl 62) (ci 1)),
 .o (.idx 64 1 (sl 61) (sl 63)),
 .o (.load1 65 (sl 64)),
 .o (.bin 66 .add (sl 65) (ci 1)),
 .o (.idx 67 1 (sl 59) (sl 60)),
 .o (.store 1 (sl 67) (sl 66))]))
 ((.reg [.o (.move 57 (sl 7)),
 .o (.bin 58 .add (sl 57) (ci 1)),
 .o (.move 7 (sl 58))]))))))))))))))))))))))))))))
theorem fun_impl_choices_1 {rin : List T} {args : List A} {Q : List T → T → Prop} (ha : args.length ≤ 68) (h : cW Try.prog 68 c_impl_choices_1 (retP Try.prog [] rin.length Q) (St.of (enum 0 args) (enum 1000000000 rin))) :
    Fun Try.prog 98 rin args Q :=
  Fun.of (H := ⟨[], []⟩) Try.func98 rfl rfl rfl (by kernel_rfl) ha (by decide) h

def c_impl_chosen : CC :=
 (.seq (.reg [.o (.move 4 (cv (.slice none 0 0)))])
 ((.seq (.reg [.o (.move 8 (sl 1)),
 .o (.lenS 9 (sl 8)),
 .o (.make 10 [.v (.int .i64 0)] 8 (sl 9) (sl 9)),
 .o (.move 5 (sl 10))])
 ((.seq (.seq (.reg [.o (.move 11 (sl 1)),
 .o (.lenS 12 (sl 11)),
 .o (.move 13 (ci 0))])
 ((.block 0 (.loop (.seq (.reg [.o (.bin 14 .lss (sl 13) (sl 12))])
 ((.seq (.cond (sl 14) .skip
 (.exit 0))
 ((.seq (.block 1 (.seq (.reg [.o (.move 15 (sl 13)),
 .o (.idx 16 1 (sl 11) (sl 13)),
 .o (.load1 17 (sl 16)),
 .o (.move 6 (sl 15)),
 .o (.move 7 (sl 17))])
 ((.reg [.o (.move 18 (sl 5)),
 .o (.move 19 (sl 6)),
 .o (.move 20 (sl 0)),
 .o (.move 21 (sl 7)),
 .o (.idx 22 1 (sl 20) (sl 21)),
 .o (.load1 23 (sl 22)),
 .o (.idx 24 1 (sl 18) (sl 19)),
 .o (.store 1 (sl 24) (sl 23))]))))
 ((.reg [.o (.bin 25 .add (sl 13) (ci 1)),
 .o (.move 13 (sl 25))])))))))))))
 ((.seq (.reg [.o (.move 26 (sl 5)),
 .o (.move 4 (sl 26))])
 (.ret))))))))
theorem fun_impl_chosen {rin : List T} {args : List A} {Q : List T → T → Prop} (ha : args.length ≤ 27) (h : cW Try.prog 27 c_impl_chosen (retP Try.prog [.tmp 4] rin.length Q) (St.of (enum 0 args) (enum 1000000000 rin))) :
    Fun Try.prog 99 rin args Q :=
  Fun.of (H := ⟨[], []⟩) Try.func99 rfl rfl rfl (by kernel_rfl) ha (by decide) h

def c_impl_adjugate : CC :=
 (.seq (.reg [.o (.move 2 (cv (.slice none 0 0)))])
 ((.seq (.reg [.o (.move 7 (sl 0)),
 .o (.lenS 8 (sl 7)),
 .o (.make 9 [.v (.slice none 0 0)] 24 (sl 8) (sl 8)),
 .o (.move 3 (sl 9))])
 ((.seq (.seq (.reg [.o (.move 10 (sl 0)),
 .o (.lenS 11 (sl 10)),
 .o (.move 12 (ci 0))])
 ((.block 0 (.loop (.seq (.reg [.o (.bin 13 .lss (sl 12) (sl 11))])
 ((.seq (.cond (sl 13) .skip
 (.exit 0))
 ((.seq (.block 1 (.seq (.reg [.o (.move 14 (sl 12)),
 .o (.move 4 (sl 14))])
 ((.seq (.reg [.o (.move 15 (sl 0)),
 .o (.lenS 16 (sl 15)),
 .o (.move 17 (ci 0))])
 ((.block 2 (.loop (.seq (.reg [.o (.bin 18 .lss (sl 17) (sl 16))])
 ((.seq (.cond (sl 18) .skip
 (.exit 2))
 ((.seq (.block 3 (.seq (.reg [.o (.move 19 (sl 17)),
 .o (.move 5 (sl 19))])
 ((.seq (.reg [.o (.move 20 (sl 0)),
 .o (.move 21 (sl 5)),
 .o (.move 22 (sl 4)),
 .o (.call (some 23) (cf 118) [(sl 20), (sl 21), (sl 22)]),
 .o (.call (some 24) (cf 103) [(sl 23)]),
 .o (.move 6 (sl 24))])
 ((.seq (.seq (.reg [.o (.move 25 (sl 4)),
 .o (.move 26 (sl 5)),
 .o (.bin 27 .add (sl 25) (sl 26)),
 .o (.bin 28 .rem (sl 27) (ci 2)),
 .o (.bin 29 .eql (sl 28) (ci 1))])
 ((.cond (sl 29) (.reg [.o (.move 30 (sl 6)),
 .o (.un 31 .neg (sl 30)),
 .o (.move 6 (sl 31))])
 .skip)))
 ((.reg [.o (.move 32 (sl 3)),
 .o (.move 33 (sl 4)),
 .o (.move 34 (sl 3)),
 .o (.move 35 (sl 4)),
 .o (.idx 36 1 (sl 34) (sl 35)),
 .o (.load1 37 (sl 36)),
 .o (.move 38 (sl 6)),
 .o (.bslice 39 1 1 [(0, (sl 38))]),
 .o (.app 40 1 8 (sl 37) (sl 39)),
 .o (.idx 41 1 (sl 32) (sl 33)),
 .o (.store 1 (sl 41) (sl 40))]))))))))
 ((.reg [.o (.bin 42 .add (sl 17) (ci 1)),
 .o (.move 17 (sl 42))]))))))))))))))
 ((.reg [.o (.bin 43 .add (sl 12) (ci 1)),
 .o (.move 12 (sl 43))])))))))))))
 ((.seq (.reg [.o (.move 44 (sl 3)),
 .o (.move 2 (sl 44))])
 (.ret))))))))
theorem fun_impl_adjugate {rin : List T} {args : List A} {Q : List T → T → Prop} (ha : args.length ≤ 45) (h : cW Try.prog 45 c_impl_adjugate (retP Try.prog [.tmp 2] rin.length Q) (St.of (enum 0 args) (enum 1000000000 rin))) :
    Fun Try.prog 100 rin args Q :=
  Fun.of (H := ⟨[], []⟩) Try.func100 rfl rfl rfl (by kernel_rfl) ha (by decide) h

def c_impl_sumOf : CC :=
 (.seq (.reg [.o (.move 2 (ci 0))])
 ((.seq (.reg [.o (.move 3 (ci 0))])
 ((.seq (.seq (.reg [.o (.move 6 (sl 0)),
 .o (.lenS 7 (sl 6)),
 .o (.move 8 (ci 0))])
 ((.block 0 (.loop (.seq (.reg [.o (.bin 9 .lss (sl 8) (sl 7))])
 ((.seq (.cond (sl 9) .skip
 (.exit 0))
 ((.seq (.block 1 (.seq (.reg [.o (.idx 10 1 (sl 6) (sl 8)),
 .o (.load1 11 (sl 10)),
 .o (.move 5 (sl 11))])
 ((.reg [.o (.move 12 (sl 3)),
 .o (.move 13 (sl 5)),
 .o (.bin 14 .add (sl 12) (sl 13)),
 .o (.move 3 (sl 14))]))))
 ((.reg [.o (.bin 15 .add (sl 8) (ci 1)),
 .o (.move 8 (sl 15))])))))))))))
 ((.seq (.reg [.o (.move 16 (sl 3)),
 .o (.move 2 (sl 16))])
 (.ret))))))))
theorem fun_impl_sumOf {rin : List T} {args : List A} {Q : List T → T → Prop} (ha : args.length ≤ 17) (h : cW Try.prog 17 c_impl_sumOf (retP Try.prog [.tmp 2] rin.length Q) (St.of (enum 0 args) (enum 1000000000 rin))) :
    Fun Try.prog 101 rin args Q :=
  Fun.of (H := ⟨[], []⟩) Try.func101 rfl rfl rfl (by kernel_rfl) ha (by decide) h

def c_impl_signedRatio : CC :=
 (.seq (.reg [.o (.alloc 4 [.v (.int .i64 0), .v (.int .i64 0)]),
 .o (.move 5 (cb false))])
 ((.seq (.seq (.reg [.o (.move 8 (sl 1)),
 .o (.bin 9 .lss (sl 8) (ci 0))])
 ((.cond (sl 9) (.reg [.o (.move 10 (sl 0)),
 .o (.un 11 .neg (sl 10)),
 .o (.move 12 (sl 1)),
 .o (.un 13 .neg (sl 12)),
 .o (.move 0 (sl 11)),
 .o (.move 1 (sl 13))])
 .skip)))
 ((.seq (.reg [.o (.move 15 (sl 0)),
 .o (.move 16 (sl 1)),
 .o (.call (some 17) (cf 119) [(sl 15), (sl 16)]),
 .o (.move 14 (sl 17)),
 .o (.extract 18 (sl 14) 0),
 .o (.extract 19 (sl 14) 1),
 .o (.alloc 6 [.v (.int .i64 0), .v (.int .i64 0)]),
 .o (.store 2 (sl 6) (sl 18)),
 .o (.move 7 (sl 19))])
 ((.seq (.reg [.o (.loadN 20 2 (sl 6)),
 .o (.move 21 (sl 7)),
 .o (.bin 22 .eql (sl 21) (ci 0)),
 .o (.store 2 (sl 4) (sl 20)),
 .o (.move 5 (sl 22))])
 (.ret))))))))
theorem fun_impl_signedRatio {rin : List T} {args : List A} {Q : List T → T → Prop} (ha : args.length ≤ 23) (h : cW Try.prog 23 c_impl_signedRatio (retP Try.prog [.cell 4 30, .tmp 5] rin.length Q) (St.of (enum 0 args) (enum 1000000000 rin))) :
    Fun Try.prog 102 rin args Q :=
  Fun.of (H := ⟨[], []⟩) Try.func102 rfl rfl rfl (by kernel_rfl) ha (by decide) h

def c_impl_determinant : CC :=
 (.seq (.reg [.o (.move 2 (ci 0))])
 ((.seq (.seq (.reg [.o (.move 7 (sl 0)),
 .o (.lenS 8 (sl 7)),
 .o (.bin 9 .eql (sl 8) (ci 0))])
 ((.cond (sl 9) (.seq (.reg [.o (.move 2 (ci 1))])
 (.ret))
 .skip)))
 ((.seq (.reg [.o (.move 3 (ci 0))])
 ((.seq (.seq (.reg [.o (.move 10 (sl 0)),
 .o (.idx 11 1 (sl 10) (ci 0)),
 .o (.load1 12 (sl 11)),
 .o (.lenS 13 (sl 12)),
 .o (.move 14 (ci 0))])
 ((.block 0 (.loop (.seq (.reg [.o (.bin 15 .lss (sl 14) (sl 13))])
 ((.seq (.cond (sl 15) .skip
 (.exit 0))
 ((.seq (.block 1 (.seq (.reg [.o (.move 16 (sl 14)),
 .o (.idx 17 1 (sl 12) (sl 14)),
 .o (.load1 18 (sl 17)),
 .o (.move 4 (sl 16)),
 .o (.move 5 (sl 18))])
 ((.seq (.reg [.o (.move 19 (sl 5)),
 .o (.move 20 (sl 0)),
 .o (.move 21 (sl 4)),
 .o (.call (some 22) (cf 118) [(sl 20), (ci 0), (sl 21)]),
 .o (.call (some 23) (cf 103) [(sl 22)]),
 .o (.bin 24 .mul (sl 19) (sl 23)),
 .o (.move 6 (sl 24))])
 ((.seq (.seq (.reg [.o (.move 25 (sl 4)),
 .o (.bin 26 .rem (sl 25) (ci 2)),
 .o (.bin 27 .eql (sl 26) (ci 1))])
 ((.cond (sl 27) (.reg [.o (.move 28 (sl 6)),
 .o (.un 29 .neg (sl 28)),
 .o (.move 6 (sl 29))])
 .skip)))
 ((.reg [.o (.move 30 (sl 3)),
 .o (.move 31 (sl 6)),
 .o (.bin 32 .add (sl 30) (sl 31)),
 .o (.move 3 (sl 32))]))))))))
 ((.reg [.o (.bin 33 .add (sl 14) (ci 1)),
 .o (.move 14 (sl 33))])))))))))))
 ((.seq (.reg [.o (.move 34 (sl 3)),
 .o (.move 2 (sl 34))])
 (.ret))))))))))
theorem fun_impl_determinant {rin : List T} {args : List A} {Q : List T → T → Prop} (ha : args.length ≤ 35) (h : cW Try.prog 35 c_impl_determinant (retP Try.prog [.tmp 2] rin.length Q) (St.of (enum 0 args) (enum 1000000000 rin))) :
    Fun Try.prog 103 rin args Q :=
  Fun.of (H := ⟨[], []⟩) Try.func103 rfl rfl rfl (by kernel_rfl) ha (by decide) h

def c_spec_l27Part : CC :=
 (.seq (.reg [.o (.move 6 (cv (.slice none 0 0)))])
 ((.seq (.reg [.o (.bslice 11 1 0 []),
 .o (.move 7 (sl 11))])
 ((.seq (.seq (.reg [.o (.move 8 (ci 0))])
 ((.block 0 (.loop (.seq (.seq (.reg [.o (.move 12 (sl 8)),
 .o (.move 13 (sl 1)),
 .o (.lenS 14 (sl 13)),
 .o (.bin 15 .lss (sl 12) (sl 14))])
 ((.cond (sl 15) .skip
 (.exit 0))))
 ((.seq (.block 1 (.seq (.reg [.o (.bslice 18 1 0 []),
 .o (.move 9 (sl 18))])
 ((.seq (.seq (.reg [.o (.move 10 (ci 0))])
 ((.block 2 (.loop (.seq (.seq (.reg [.o (.move 19 (sl 10)),
 .o (.move 20 (sl 2)),
 .o (.lenS 21 (sl 20)),
 .o (.bin 22 .lss (sl 19) (sl 21))])
 ((.cond (sl 22) .skip
 (.exit 2))))
 ((.seq (.block 3 (.draw [39] [(kR, .o (.move 25 (sl 9))),
 (kR, .o (.move 26 (sl 0))),
 (kR, .o (.move 27 (sl 1))),
 (kR, .o (.move 28 (sl 8))),
 (kR, .o (.idx 29 1 (sl 27) (sl 28))),
 (kR, .o (.load1 30 (sl 29))),
 (kR, .o (.idx 31 1 (sl 26) (sl 30))),
 (kR, .o (.load1 32 (sl 31))),
 (kR, .o (.move 33 (sl 2))),
 (kR, .o (.move 34 (sl 10))),
 (kR, .o (.idx 35 1 (sl 33) (sl 34))),
 (kR, .o (.load1 36 (sl 35))),
 (kR, .o (.idx 37 1 (sl 32) (sl 36))),
 (kR, .o (.load1 38 (sl 37))),
 (kN, .o (.bslice 39 1 1 [(0, (sl 38))])),
 (kH, .o (.app 40 1 8 (sl 25) (sl 39))),
 (kR, .o (.move 9 (sl 40)))]))
 ((.reg [.o (.move 23 (sl 10)),
 .o (.bin 24 .add (sl 23) (ci 1)),
 .o (.move 10 (sl 24))])))))))))
 ((.reg [.o (.move 41 (sl 7)),
 .o (.move 42 (sl 9)),
 .o (.bslice 43 1 1 [(0, (sl 42))]),
 .o (.app 44 1 24 (sl 41) (sl 43)),
 .o (.move 7 (sl 44))]))))))
 ((.reg [.o (.move 16 (sl 8)),
 .o (.bin 17 .add (sl 16) (ci 1)),
 .o (.move 8 (sl 17))])))))))))
 ((.seq (.reg [.o (.move 45 (sl 7)),
 .o (.move 6 (sl 45))])
 (.ret))))))))
theorem fun_spec_l27Part {rin : List T} {args : List A} {Q : List T → T → Prop} (ha : args.length ≤ 46) (h : cW Try.prog 46 c_spec_l27Part (retP Try.prog [.tmp 6] rin.length Q) (St.of (enum 0 args) (enum 1000000000 rin))) :
    Fun Try.prog 104 rin args Q :=
  Fun.of (H := ⟨[], []⟩) Try.func104 rfl rfl rfl (by kernel_rfl) ha (by decide) h

def c_spec_l27Adj : CC :=
 (.seq (.reg [.o (.move 2 (cv (.slice none 0 0)))])
 ((.seq (.reg [.o (.bslice 7 1 0 []),
 .o (.move 3 (sl 7))])
 ((.seq (.seq (.reg [.o (.move 4 (ci 0))])
 ((.block 0 (.loop (.seq (.seq (.reg [.o (.move 8 (sl 4)),
 .o (.move 9 (sl 0)),
 .o (.lenS 10 (sl 9)),
 .o (.bin 11 .lss (sl 8) (sl 10))])
 ((.cond (sl 11) .skip
 (.exit 0))))
 ((.seq (.block 1 (.seq (.reg [.o (.bslice 14 1 0 []),
 .o (.move 5 (sl 14))])
 ((.seq (.seq (.reg [.o (.move 6 (ci 0))])
 ((.block 2 (.loop (.seq (.seq (.reg [.o (.move 15 (sl 6)),
 .o (.move 16 (sl 0)),
 .o (.lenS 17 (sl 16)),
 .o (.bin 18 .lss (sl 15) (sl 17))])
 ((.cond (sl 18) .skip
 (.exit 2))))
 ((.seq (.block 3 (.reg [.o (.move 21 (sl 5)),
 .o (.move 22 (sl 4)),
 .o (.move 23 (sl 6)),
 .o (.bin 24 .add (sl 22) (sl 23)),
 .o (.call (some 25) (cf 120) [(sl 24)]),
 .o (.move 26 (sl 0)),
 .o (.move 27 (sl 6)),
 .o (.move 28 (sl 4)),
 .o (.call (some 29) (cf 121) [(sl 26), (sl 27), (sl 28)]),
 .o (.call (some 30) (cf 108) [(sl 29)]),
 .o (.bin 31 .mul (sl 25) (sl 30)),
 .o (.bslice 32 1 1 [(0, (sl 31))]),
 .o (.app 33 1 8 (sl 21) (sl 32)),
 .o (.move 5 (sl 33))]))
 ((.reg [.o (.move 19 (sl 6)),
 .o (.bin 20 .add (sl 19) (ci 1)),
 .o (.move 6 (sl 20))])))))))))
 ((.reg [.o (.move 34 (sl 3)),
 .o (.move 35 (sl 5)),
 .o (.bslice 36 1 1 [(0, (sl 35))]),
 .o (.app 37 1 24 (sl 34) (sl 36)),
 .o (.move 3 (sl 37))]))))))
 ((.reg [.o (.move 12 (sl 4)),
 .o (.bin 13 .add (sl 12) (ci 1)),
 .o (.move 4 (sl 13))])))))))))
 ((.seq (.reg [.o (.move 38 (sl 3)),
 .o (.move 2 (sl 38))])
 (.ret))))))))
theorem fun_spec_l27Adj {rin : List T} {args : List A} {Q : List T → T → Prop} (ha : args.length ≤ 39) (h : cW Try.prog 39 c_spec_l27Adj (retP Try.prog [.tmp 2] rin.length Q) (St.of (enum 0 args) (enum 1000000000 rin))) :
    Fun Try.prog 105 rin args Q :=
  Fun.of (H := ⟨[], []⟩) Try.func105 rfl rfl rfl (by kernel_rfl) ha (by decide) h

def c_spec_l26Column : CC :=
 (.seq (.reg [.o (.move 4 (cv (.slice none 0 0)))])
 ((.seq (.reg [.o (.bslice 7 1 0 []),
 .o (.move 5 (sl 7))])
 ((.seq (.seq (.reg [.o (.move 6 (ci 0))])
 ((.block 0 (.loop (.seq (.seq (.reg [.o (.move 8 (sl 6)),
 .o (.move 9 (sl 0)),
 .o (.lenS 10 (sl 9)),
 .o (.bin 11 .lss (sl 8) (sl 10))])
 ((.cond (sl 11) .skip
 (.exit 0))))
 ((.seq (.block 1 (.reg [.o (.move 14 (sl 5)),
 .o (.move 15 (sl 0)),
 .o (.move 16 (sl 6)),
 .o (.idx 17 1 (sl 15) (sl 16)),
 .o (.load1 18 (sl 17)),
 .o (.move 19 (sl 1)),
 .o (.idx 20 1 (sl 18) (sl 19)),
 .o (.load1 21 (sl 20)),
 .o (.bslice 22 1 1 [(0, (sl 21))]),
 .o (.app 23 1 8 (sl 14) (sl 22)),
 .o (.move 5 (sl 23))]))
 ((.reg [.o (.move 12 (sl 6)),
 .o (.bin 13 .add (sl 12) (ci 1)),
 .o (.move 6 (sl 13))])))))))))
 ((.seq (.reg [.o (.move 24 (sl 5)),
 .o (.move 4 (sl 24))])
 (.ret))))))))
theorem fun_spec_l26Column {rin : List T} {args : List A} {Q : List T → T → Prop} (ha : args.length ≤ 25) (h : cW Try.prog 25 c_spec_l26Column (retP Try.prog [.tmp 4] rin.length Q) (St.of (enum 0 args) (enum 1000000000 rin))) :
    Fun Try.prog 106 rin args Q :=
  Fun.of (H := ⟨[], []⟩) Try.func106 rfl rfl rfl (by kernel_rfl) ha (by decide) h

def c_spec_l27Mix : CC :=
 (.seq (.reg [.o (.move 8 (cv (.slice none 0 0)))])
 ((.seq (.reg [.o (.bslice 12 2 0 []),
 .o (.move 9 (sl 12))])
 ((.seq (.seq (.reg [.o (.move 10 (ci 0))])
 ((.block 0 (.loop (.seq (.seq (.reg [.o (.move 13 (sl 10)),
 .o (.move 14 (sl 0)),
 .o (.bin 15 .lss (sl 13) (sl 14))])
 ((.cond (sl 15) .skip
 (.exit 0))))
 ((.seq (.block 1 (.reg [.o (.move 18 (sl 9)),
 .o (.call (some 19) (cf 86) [(ci 0)]),
 .o (.bslice 20 2 1 [(0, (sl 19))]),
 .o (.app 21 2 16 (sl 18) (sl 20)),
 .o (.move 9 (sl 21))]))
 ((.reg [.o (.move 16 (sl 10)),
 .o (.bin 17 .add (sl 16) (ci 1)),
 .o (.move 10 (sl 17))])))))))))
 ((.seq (.seq (.reg [.o (.move 11 (ci 0))])
 ((.block 2 (.loop (.seq (.seq (.reg [.o (.move 22 (sl 11)),
 .o (.move 23 (sl 1)),
 .o (.lenS 24 (sl 23)),
 .o (.bin 25 .lss (sl 22) (sl 24))])
 ((.cond (sl 25) .skip
 (.exit 2))))
 ((.seq (.block 3 (.seq (.reg [.o (.move 28 (sl 3)),
 .o (.bin 29 .lss (sl 28) (ci 0))])
 ((.cond (sl 29) (.draw [] [(kR, .o (.move 31 (sl 9))),
 (kR, .o (.move 32 (sl 1))),
 (kR, .o (.move 33 (sl 11))),
 (kR, .o (.idx 34 1 (sl 32) (sl 33))),
 (kR, .o (.load1 35 (sl 34))),
 (kR, .o (.move 36 (sl 2))),
 (kR, .o (.move 37 (sl 11))),
 (kR, .o (.idx 38 1 (sl 36) (sl 37))),
 (kR, .o (.load1 39 (sl 38))),
 (kR, .o (.un 40 .neg (sl 39))),
 (kR, .o (.move 41 (sl 3))),
 (kR, .o (.un 42 .neg (sl 41))),
 (kR, .o (.call (some 43) (cf 85) [(sl 40), (sl 42)])),
 (kR, .o (.move 30 (sl 43))),
 (kR, .o (.extract 44 (sl 30) 0)),
 (kE, .o (.extract 45 (sl 30) 1)),
 (kR, .o (.idx 46 2 (sl 31) (sl 35))),
 (kH, .o (.store 2 (sl 46) (sl 44)))])
 (.draw [] [(kR, .o (.move 48 (sl 9))),
 (kR, .o (.move 49 (sl 1))),
 (kR, .o (.move 50 (sl 11))),
 (kR, .o (.idx 51 1 (sl 49) (sl 50))),
 (kR, .o (.load1 52 (sl 51))),
 (kR, .o (.move 53 (sl 2))),
 (kR, .o (.move 54 (sl 11))),
 (kR, .o (.idx 55 1 (sl 53) (sl 54))),
 (kR, .o (.load1 56 (sl 55))),
 (kR, .o (.move 57 (sl 3))),
 (kR, .o (.call (some 58) (cf 85) [(sl 56), (sl 57)])),
 (kR, .o (.move 47 (sl 58))),
 (kR, .o (.extract 59 (sl 47) 0)),
 (kE, .o (.extract 60 (sl 47) 1)),
 (kR, .o (.idx 61 2 (sl 48) (sl 52))),
 (kH, .o (.store 2 (sl 61) (sl 59)))])))))
 ((.reg [.o (.move 26 (sl 11)),
 .o (.bin 27 .add (sl 26) (ci 1)),
 .o (.move 11 (sl 27))])))))))))
 ((.seq (.reg [.o (.move 62 (sl 9)),
 .o (.move 8 (sl 62))])
 (.ret))))))))))
theorem fun_spec_l27Mix {rin : List T} {args : List A} {Q : List T → T → Prop} (ha : args.length ≤ 63) (h : cW Try.prog 63 c_spec_l27Mix (retP Try.prog [.tmp 8] rin.length Q) (St.of (enum 0 args) (enum 1000000000 rin))) :
    Fun Try.prog 107 rin args Q :=
  Fun.of (H := ⟨[], []⟩) Try.func107 rfl rfl rfl (by kernel_rfl) ha (by decide) h

def c_spec_l27Det : CC :=
 (.seq (.reg [.o (.move 2 (ci 0))])
 ((.seq (.seq (.reg [.o (.move 5 (sl 0)),
 .o (.lenS 6 (sl 5)),
 .o (.bin 7 .eql (sl 6) (ci 0))])
 ((.cond (sl 7) (.seq (.reg [.o (.move 2 (ci 1))])
 (.ret))
 .skip)))
 ((.seq (.reg [.o (.move 3 (ci 0))])
 ((.seq (.seq (.reg [.o (.move 4 (ci 0))])
 ((.block 0 (.loop (.seq (.seq (.reg [.o (.move 8 (sl 4)),
 .o (.move 9 (sl 0)),
 .o (.lenS 10 (sl 9)),
 .o (.bin 11 .lss (sl 8) (sl 10))])
 ((.cond (sl 11) .skip
 (.exit 0))))
 ((.seq (.block 1 (.draw [26] [(kR, .o (.move 14 (sl 3))),
 (kR, .o (.move 15 (sl 4))),
 (kR, .o (.call (some 16) (cf 120) [(sl 15)])),
 (kR, .o (.move 17 (sl 0))),
 (kR, .o (.idx 18 1 (sl 17) (ci 0))),
 (kR, .o (.load1 19 (sl 18))),
 (kR, .o (.move 20 (sl 4))),
 (kR, .o (.idx 21 1 (sl 19) (sl 20))),
 (kR, .o (.load1 22 (sl 21))),
 (kR, .o (.bin 23 .mul (sl 16) (sl 22))),
 (kR, .o (.move 24 (sl 0))),
 (kR, .o (.move 25 (sl 4))),
 (.c false [], .o (.call (some 26) (cf 121) [(sl 24), (ci 0), (sl 25)])),
 (kR, .o (.call (some 27) (cf 108) [(sl 26)])),
 (kR, .o (.bin 28 .mul (sl 23) (sl 27))),
 (kR, .o (.bin 29 .add (sl 14) (sl 28))),
 (kR, .o (.move 3 (sl 29)))]))
 ((.reg [.o (.move 12 (sl 4)),
 .o (.bin 13 .add (sl 12) (ci 1)),
 .o (.move 4 (sl 13))])))))))))
 ((.seq (.reg [.o (.move 30 (sl 3)),
 .o (.move 2 (sl 30))])
 (.ret))))))))))
theorem fun_spec_l27Det {rin : List T} {args : List A} {Q : List T → T → Prop} (ha : args.length ≤ 31) (h : cW Try.prog 31 c_spec_l27Det (retP Try.prog [.tmp 2] rin.length Q) (St.of (enum 0 args) (enum 1000000000 rin))) :
    Fun Try.prog 108 rin args Q :=
  Fun.of (H := ⟨[], []⟩) Try.func108 rfl rfl rfl (by kernel_rfl) ha (by decide) h

def c_spec_l01Gcd : CC :=
 (.seq (.reg [.o (.move 4 (ci 0))])
 ((.seq (.seq (.reg [.o (.move 5 (sl 1)),
 .o (.bin 6 .eql (sl 5) (ci 0))])
 ((.cond (sl 6) (.seq (.reg [.o (.move 7 (sl 0)),
 .o (.move 4 (sl 7))])
 (.ret))
 .skip)))
 ((.seq (.reg [.o (.move 8 (sl 1)),
 .o (.move 9 (sl 0)),
 .o (.move 10 (sl 1)),
 .o (.bin 11 .rem (sl 9) (sl 10)),
 .o (.call (some 12) (cf 109) [(sl 8), (sl 11)]),
 .o (.move 4 (sl 12))])
 (.ret))))))
theorem fun_spec_l01Gcd {rin : List T} {args : List A} {Q : List T → T → Prop} (ha : args.length ≤ 13) (h : cW Try.prog 13 c_spec_l01Gcd (retP Try.prog [.tmp 4] rin.length Q) (St.of (enum 0 args) (enum 1000000000 rin))) :
    Fun Try.prog 109 rin args Q :=
  Fun.of (H := ⟨[], []⟩) Try.func109 rfl rfl rfl (by kernel_rfl) ha (by decide) h

def c_spec_l01Abs : CC :=
 (.seq (.reg [.o (.move 2 (ci 0))])
 ((.seq (.reg [.o (.move 3 (sl 0)),
 .o (.move 4 (sl 0)),
 .o (.un 5 .neg (sl 4)),
 .o (.mm 6 true (sl 3) (sl 5)),
 .o (.move 2 (sl 6))])
 (.ret))))
theorem fun_spec_l01Abs {rin : List T} {args : List A} {Q : List T → T → Prop} (ha : args.length ≤ 7) (h : cW Try.prog 7 c_spec_l01Abs (retP Try.prog [.tmp 2] rin.length Q) (St.of (enum 0 args) (enum 1000000000 rin))) :
    Fun Try.prog 110 rin args Q :=
  Fun.of (H := ⟨[], []⟩) Try.func110 rfl rfl rfl (by kernel_rfl) ha (by decide) h

def c_impl_AddRatios : CC :=
 (.seq (.reg [.o (.box 2 (sl 0)),
 .o (.box 3 (sl 1)),
 .o (.alloc 4 [.v (.int .i64 0), .v (.int .i64 0)]),
 .o (.move 5 (ci 0))])
 ((.seq (.seq (.reg [.o (.loadN 6 2 (sl 2)),
 .o (.call (some 7) (cf 88) [(sl 6)]),
 .o (.un 8 .not (sl 7)),
 .o (.move 9 (sl 8)),
 .g 9 false (some 10) (.loadN 10 2 (sl 3)),
 .g 9 false (some 11) (.call (some 11) (cf 88) [(sl 10)]),
 .g 9 false (some 12) (.un 12 .not (sl 11)),
 .o (.pick 13 (sl 9) (cb true) (sl 12))])
 ((.cond (sl 13) (.seq (.reg [.o (.build 14 [.v (.int .i64 0), .v (.int .i64 0)] [(0, 1), (1, 1)] []),
 .o (.store 2 (sl 4) (sl 14)),
 .o (.move 5 (ci 1))])
 (.ret))
 .skip)))
 ((.seq (.reg [.o (.fld 15 0 (sl 2)),
 .o (.load1 16 (sl 15)),
 .o (.fld 17 1 (sl 3)),
 .o (.load1 18 (sl 17)),
 .o (.bin 19 .mul (sl 16) (sl 18)),
 .o (.fld 20 0 (sl 3)),
 .o (.load1 21 (sl 20)),
 .o (.fld 22 1 (sl 2)),
 .o (.load1 23 (sl 22)),
 .o (.bin 24 .mul (sl 21) (sl 23)),
 .o (.bin 25 .add (sl 19) (sl 24)),
 .o (.fld 26 1 (sl 2)),
 .o (.load1 27 (sl 26)),
 .o (.fld 28 1 (sl 3)),
 .o (.load1 29 (sl 28)),
 .o (.bin 30 .mul (sl 27) (sl 29)),
 .o (.call (some 31) (cf 119) [(sl 25), (sl 30)]),
 .o (.extract 32 (sl 31) 0),
 .o (.extract 33 (sl 31) 1),
 .o (.store 2 (sl 4) (sl 32)),
 .o (.move 5 (sl 33))])
 (.ret))))))
theorem fun_impl_AddRatios {rin : List T} {args : List A} {Q : List T → T → Prop} (ha : args.length ≤ 34) (h : cW Try.prog 34 c_impl_AddRatios (retP Try.prog [.cell 4 30, .tmp 5] rin.length Q) (St.of (enum 0 args) (enum 1000000000 rin))) :
    Fun Try.prog 111 rin args Q :=
  Fun.of (H := ⟨[], []⟩) Try.func111 rfl rfl rfl (by kernel_rfl) ha (by decide) h

def c_impl_divisorOf : CC :=
 (.seq (.reg [.o (.move 4 (ci 0))])
 ((.seq (.block 0 (.loop (.seq (.seq (.reg [.o (.move 5 (sl 1)),
 .o (.bin 6 .gtr (sl 5) (ci 0))])
 ((.cond (sl 6) .skip
 (.exit 0))))
 ((.block 1 (.draw [] [(kR, .o (.move 7 (sl 1))),
 (kR, .o (.move 8 (sl 0))),
 (kR, .o (.move 9 (sl 1))),
 (kR, .o (.bin 10 .rem (sl 8) (sl 9))),
 (kR, .o (.move 0 (sl 7))),
 (kR, .o (.move 1 (sl 10)))]))))))
 ((.seq (.reg [.o (.move 11 (sl 0)),
 .o (.move 4 (sl 11))])
 (.ret))))))
theorem fun_impl_divisorOf {rin : List T} {args : List A} {Q : List T → T → Prop} (ha : args.length ≤ 12) (h : cW Try.prog 12 c_impl_divisorOf (retP Try.prog [.tmp 4] rin.length Q) (St.of (enum 0 args) (enum 1000000000 rin))) :
    Fun Try.prog 112 rin args Q :=
  Fun.of (H := ⟨[], []⟩) Try.func112 rfl rfl rfl (by kernel_rfl) ha (by decide) h

def c_impl_absOf : CC :=
 (.seq (.reg [.o (.move 2 (ci 0))])
 ((.seq (.seq (.reg [.o (.move 3 (sl 0)),
 .o (.bin 4 .lss (sl 3) (ci 0))])
 ((.cond (sl 4) (.seq (.reg [.o (.move 5 (sl 0)),
 .o (.un 6 .neg (sl 5)),
 .o (.move 2 (sl 6))])
 (.ret))
 .skip)))
 ((.seq (.reg [.o (.move 7 (sl 0)),
 .o (.move 2 (sl 7))])
 (.ret))))))
theorem fun_impl_absOf {rin : List T} {args : List A} {Q : List T → T → Prop} (ha : args.length ≤ 8) (h : cW Try.prog 8 c_impl_absOf (retP Try.prog [.tmp 2] rin.length Q) (St.of (enum 0 args) (enum 1000000000 rin))) :
    Fun Try.prog 113 rin args Q :=
  Fun.of (H := ⟨[], []⟩) Try.func113 rfl rfl rfl (by kernel_rfl) ha (by decide) h

def c_impl_sumOfProducts : CC :=
 (.seq (.reg [.o (.alloc 4 [.v (.int .i64 0), .v (.int .i64 0)]),
 .o (.move 5 (ci 0))])
 ((.seq (.reg [.o (.build 10 [.v (.int .i64 0), .v (.int .i64 0)] [(0, 1), (1, 1)] [(0, (ci 0)), (1, (ci 1))]),
 .o (.alloc 6 [.v (.int .i64 0), .v (.int .i64 0)]),
 .o (.store 2 (sl 6) (sl 10))])
 ((.seq (.seq (.reg [.o (.move 11 (sl 0)),
 .o (.lenS 12 (sl 11)),
 .o (.move 13 (ci 0))])
 ((.block 0 (.loop (.seq (.reg [.o (.bin 14 .lss (sl 13) (sl 12))])
 ((.seq (.cond (sl 14) .skip
 (.exit 0))
 ((.seq (.block 1 (.seq (.reg [.o (.move 15 (sl 13)),
 .o (.move 7 (sl 15))])
 ((.seq (.draw [8] [(kR, .o (.move 17 (sl 0))),
 (kR, .o (.move 18 (sl 7))),
 (kR, .o (.idx 19 2 (sl 17) (sl 18))),
 (kR, .o (.loadN 20 2 (sl 19))),
 (kR, .o (.move 21 (sl 1))),
 (kR, .o (.move 22 (sl 7))),
 (kR, .o (.idx 23 2 (sl 21) (sl 22))),
 (kR, .o (.loadN 24 2 (sl 23))),
 (kR, .o (.call (some 25) (cf 122) [(sl 20), (sl 24)])),
 (kR, .o (.move 16 (sl 25))),
 (kR, .o (.extract 26 (sl 16) 0)),
 (kE, .o (.extract 27 (sl 16) 1)),
 (kN, .o (.alloc 8 [.v (.int .i64 0), .v (.int .i64 0)])),
 (kH, .o (.store 2 (sl 8) (sl 26))),
 (kR, .o (.move 9 (sl 27)))])
 ((.seq (.seq (.reg [.o (.move 28 (sl 9)),
 .o (.bin 29 .neq (sl 28) (ci 0))])
 ((.cond (sl 29) (.seq (.reg [.o (.build 30 [.v (.int .i64 0), .v (.int .i64 0)] [(0, 1), (1, 1)] []),
 .o (.move 31 (sl 9)),
 .o (.store 2 (sl 4) (sl 30)),
 .o (.move 5 (sl 31))])
 (.ret))
 .skip)))
 ((.seq (.reg [.o (.loadN 33 2 (sl 6)),
 .o (.loadN 34 2 (sl 8)),
 .o (.call (some 35) (cf 111) [(sl 33), (sl 34)]),
 .o (.move 32 (sl 35)),
 .o (.extract 36 (sl 32) 0),
 .o (.extract 37 (sl 32) 1),
 .o (.store 2 (sl 6) (sl 36)),
 .o (.move 9 (sl 37))])
 ((.seq (.reg [.o (.move 38 (sl 9)),
 .o (.bin 39 .neq (sl 38) (ci 0))])
 ((.cond (sl 39) (.seq (.reg [.o (.build 40 [.v (.int .i64 0), .v (.int .i64 0)] [(0, 1), (1, 1)] []),
 .o (.move 41 (sl 9)),
 .o (.store 2 (sl 4) (sl 40)),
 .o (.move 5 (sl 41))])
 (.ret))
 .skip))))))))))))
 ((.reg [.o (.bin 42 .add (sl 13) (ci 1)),
 .o (.move 13 (sl 42))])))))))))))
 ((.seq (.reg [.o (.loadN 43 2 (sl 6)),
 .o (.store 2 (sl 4) (sl 43)),
 .o (.move 5 (ci 0))])
 (.ret))))))))
theorem fun_impl_sumOfProducts {rin : List T} {args : List A} {Q : List T → T → Prop} (ha : args.length ≤ 44) (h : cW Try.prog 44 c_impl_sumOfProducts (retP Try.prog [.cell 4 30, .tmp 5] rin.length Q) (St.of (enum 0 args) (enum 1000000000 rin))) :
    Fun Try.prog 114 rin args Q :=
  Fun.of (H := ⟨[], []⟩) Try.func114 rfl rfl rfl (by kernel_rfl) ha (by decide) h

def c_cmp_Compare_int64_ : CC :=
 (.seq (.reg [.o (.move 4 (ci 0))])
 ((.seq (.reg [.o (.move 7 (sl 0)),
 .o (.call (some 8) (cf 123) [(sl 7)]),
 .o (.move 5 (sl 8))])
 ((.seq (.reg [.o (.move 9 (sl 1)),
 .o (.call (some 10) (cf 123) [(sl 9)]),
 .o (.move 6 (sl 10))])
 ((.seq (.seq (.reg [.o (.move 11 (sl 5))])
 ((.cond (sl 11) (.seq (.seq (.reg [.o (.move 12 (sl 6))])
 ((.cond (sl 12) (.seq (.reg [.o (.move 4 (ci 0))])
 (.ret))
 .skip)))
 ((.seq (.reg [.o (.move 4 (ci (-1)))])
 (.ret))))
 .skip)))
 ((.seq (.seq (.reg [.o (.move 13 (sl 6))])
 ((.cond (sl 13) (.seq (.reg [.o (.move 4 (ci 1))])
 (.ret))
 .skip)))
 ((.seq (.seq (.reg [.o (.move 14 (sl 0)),
 .o (.move 15 (sl 1)),
 .o (.bin 16 .lss (sl 14) (sl 15))])
 ((.cond (sl 16) (.seq (.reg [.o (.move 4 (ci (-1)))])
 (.ret))
 .skip)))
 ((.seq (.seq (.reg [.o (.move 17 (sl 0)),
 .o (.move 18 (sl 1)),
 .o (.bin 19 .gtr (sl 17) (sl 18))])
 ((.cond (sl 19) (.seq (.reg [.o (.move 4 (ci 1))])
 (.ret))
 .skip)))
 ((.seq (.reg [.o (.move 4 (ci 0))])
 (.ret))))))))))))))))
theorem fun_cmp_Compare_int64_ {rin : List T} {args : List A} {Q : List T → T → Prop} (ha : args.length ≤ 20) (h : cW Try.prog 20 c_cmp_Compare_int64_ (retP Try.prog [.tmp 4] rin.length Q) (St.of (enum 0 args) (enum 1000000000 rin))) :
    Fun Try.prog 115 rin args Q :=
  Fun.of (H := ⟨[], []⟩) Try.func115 rfl rfl rfl (by kernel_rfl) ha (by decide) h

def c_spec_l19Add : CC :=
 (.seq (.reg [.o (.box 4 (sl 1)),
 .o (.box 5 (sl 2)),
 .o (.alloc 6 [.v (.int .i64 0), .v (.int .i64 0)])])
 ((.seq (.seq (.reg [.o (.move 9 (sl 0)),
 .o (.nilc 10 (sl 9)),
 .o (.fld 11 0 (sl 10)),
 .o (.load1 12 (sl 11)),
 .o (.bin 13 .neq (sl 12) (ci 0))])
 ((.cond (sl 13) (.seq (.reg [.o (.build 14 [.v (.int .i64 0), .v (.int .i64 0)] [(0, 1), (1, 1)] [(1, (ci 1))]),
 .o (.store 2 (sl 6) (sl 14))])
 (.ret))
 .skip)))
 ((.seq (.reg [.o (.loadN 16 2 (sl 4)),
 .o (.loadN 17 2 (sl 5)),
 .o (.call (some 18) (cf 124) [(sl 16), (sl 17)]),
 .o (.move 15 (sl 18)),
 .o (.extract 19 (sl 15) 0),
 .o (.extract 20 (sl 15) 1),
 .o (.alloc 7 [.v (.int .i64 0), .v (.int .i64 0)]),
 .o (.store 2 (sl 7) (sl 19)),
 .o (.move 8 (sl 20))])
 ((.seq (.reg [.o (.move 21 (sl 0)),
 .o (.move 22 (sl 8)),
 .o (.nilc 23 (sl 21)),
 .o (.fld 24 0 (sl 23)),
 .o (.store 1 (sl 24) (sl 22))])
 ((.seq (.reg [.o (.loadN 25 2 (sl 7)),
 .o (.store 2 (sl 6) (sl 25))])
 (.ret))))))))))
theorem fun_spec_l19Add {rin : List T} {args : List A} {Q : List T → T → Prop} (ha : args.length ≤ 26) (h : cW Try.prog 26 c_spec_l19Add (retP Try.prog [.cell 6 30] rin.length Q) (St.of (enum 0 args) (enum 1000000000 rin))) :
    Fun Try.prog 116 rin args Q :=
  Fun.of (H := ⟨[], []⟩) Try.func116 rfl rfl rfl (by kernel_rfl) ha (by decide) h

def c_spec_l26Gain : CC :=
 (.seq (.reg [.o (.alloc 6 [.v (.int .i64 0), .v (.int .i64 0)])])
 ((.seq (.reg [.o (.call (some 9) (cf 86) [(ci 0)]),
 .o (.alloc 7 [.v (.int .i64 0), .v (.int .i64 0)]),
 .o (.store 2 (sl 7) (sl 9))])
 ((.seq (.seq (.reg [.o (.move 8 (ci 0))])
 ((.block 0 (.loop (.seq (.seq (.reg [.o (.move 10 (sl 8)),
 .o (.move 11 (sl 1)),
 .o (.lenS 12 (sl 11)),
 .o (.bin 13 .lss (sl 10) (sl 12))])
 ((.cond (sl 13) .skip
 (.exit 0))))
 ((.seq (.block 1 (.draw [] [(kE, .o (.move 16 (sl 0))),
 (.r false [1000000000, 28], .o (.loadN 17 2 (sl 7))),
 (kR, .o (.move 18 (sl 0))),
 (kR, .o (.move 19 (sl 1))),
 (kR, .o (.move 20 (sl 8))),
 (kR, .o (.idx 21 2 (sl 19) (sl 20))),
 (kR, .o (.loadN 22 2 (sl 21))),
 (kR, .o (.move 23 (sl 2))),
 (kR, .o (.move 24 (sl 8))),
 (kR, .o (.idx 25 1 (sl 23) (sl 24))),
 (kR, .o (.load1 26 (sl 25))),
 (kR, .o (.call (some 27) (cf 86) [(sl 26)])),
 (.h (some [1000000000]) [], .o (.call (some 28) (cf 125) [(sl 18), (sl 22), (sl 27)])),
 (kH, .o (.call (some 29) (cf 116) [(sl 16), (sl 17), (sl 28)])),
 (kH, .o (.store 2 (sl 7) (sl 29)))]))
 ((.reg [.o (.move 14 (sl 8)),
 .o (.bin 15 .add (sl 14) (ci 1)),
 .o (.move 8 (sl 15))])))))))))
 ((.seq (.reg [.o (.loadN 30 2 (sl 7)),
 .o (.store 2 (sl 6) (sl 30))])
 (.ret))))))))
theorem fun_spec_l26Gain {rin : List T} {args : List A} {Q : List T → T → Prop} (ha : args.length ≤ 31) (h : cW Try.prog 31 c_spec_l26Gain (retP Try.prog [.cell 6 30] rin.length Q) (St.of (enum 0 args) (enum 1000000000 rin))) :
    Fun Try.prog 117 rin args Q :=
  Fun.of (H := ⟨[], []⟩) Try.func117 rfl rfl rfl (by kernel_rfl) ha (by decide) h

def c_impl_without : CC :=
 (.seq (.reg [.o (.move 6 (cv (.slice none 0 0)))])
 ((.seq (.reg [.o (.move 7 (cv (.slice none 0 0)))])
 ((.seq (.seq (.reg [.o (.move 10 (sl 0)),
 .o (.lenS 11 (sl 10)),
 .o (.move 12 (ci 0))])
 ((.block 0 (.loop (.seq (.reg [.o (.bin 13 .lss (sl 12) (sl 11))])
 ((.seq (.cond (sl 13) .skip
 (.exit 0))
 ((.seq (.block 1 (.seq (.reg [.o (.move 14 (sl 12)),
 .o (.idx 15 1 (sl 10) (sl 12)),
 .o (.load1 16 (sl 15)),
 .o (.move 8 (sl 14)),
 .o (.move 9 (sl 16))])
 ((.seq (.reg [.o (.move 17 (sl 8)),
 .o (.move 18 (sl 1)),
 .o (.bin 19 .neq (sl 17) (sl 18))])
 ((.cond (sl 19) (.reg [.o (.move 20 (sl 7)),
 .o (.move 21 (sl 9)),
 .o (.call (some 22) (cf 127) [(sl 21)]),
 .o (.move 23 (sl 2)),
 .o (.move 24 (sl 2)),
 .o (.bin 25 .add (sl 24) (ci 1)),
 .o (.call (some 26) (cf 126) [(sl 22), (sl 23), (sl 25)]),
 .o (.bslice 27 1 1 [(0, (sl 26))]),
 .o (.app 28 1 24 (sl 20) (sl 27)),
 .o (.move 7 (sl 28))])
 .skip))))))
 ((.reg [.o (.bin 29 .add (sl 12) (ci 1)),
 .o (.move 12 (sl 29))])))))))))))
 ((.seq (.reg [.o (.move 30 (sl 7)),
 .o (.move 6 (sl 30))])
 (.ret))))))))
theorem fun_impl_without {rin : List T} {args : List A} {Q : List T → T → Prop} (ha : args.length ≤ 31) (h : cW Try.prog 31 c_impl_without (retP Try.prog [.tmp 6] rin.length Q) (St.of (enum 0 args) (enum 1000000000 rin))) :
    Fun Try.prog 118 rin args Q :=
  Fun.of (H := ⟨[], []⟩) Try.func118 rfl rfl rfl (by kernel_rfl) ha (by decide) h

def c_impl_reduced : CC :=
 (.seq (.reg [.o (.alloc 4 [.v (.int .i64 0), .v (.int .i64 0)]),
 .o (.move 5 (ci 0))])
 ((.seq (.reg [.o (.move 8 (sl 0)),
 .o (.call (some 9) (cf 113) [(sl 8)]),
 .o (.move 10 (sl 1)),
 .o (.call (some 11) (cf 112) [(sl 9), (sl 10)]),
 .o (.move 6 (sl 11))])
 ((.seq (.draw [7] [(kR, .o (.move 12 (sl 0))),
 (kR, .o (.move 13 (sl 6))),
 (kR, .o (.bin 14 .quo (sl 12) (sl 13))),
 (kR, .o (.move 15 (sl 1))),
 (kR, .o (.move 16 (sl 6))),
 (kR, .o (.bin 17 .quo (sl 15) (sl 16))),
 (kR, .o (.build 18 [.v (.int .i64 0), .v (.int .i64 0)] [(0, 1), (1, 1)] [(0, (sl 14)), (1, (sl 17))])),
 (kN, .o (.alloc 7 [.v (.int .i64 0), .v (.int .i64 0)])),
 (kH, .o (.store 2 (sl 7) (sl 18)))])
 ((.seq (.seq (.reg [.o (.loadN 19 2 (sl 7)),
 .o (.call (some 20) (cf 88) [(sl 19)]),
 .o (.un 21 .not (sl 20))])
 ((.cond (sl 21) (.seq (.reg [.o (.build 22 [.v (.int .i64 0), .v (.int .i64 0)] [(0, 1), (1, 1)] []),
 .o (.store 2 (sl 4) (sl 22)),
 .o (.move 5 (ci 3))])
 (.ret))
 .skip)))
 ((.seq (.reg [.o (.loadN 23 2 (sl 7)),
 .o (.store 2 (sl 4) (sl 23)),
 .o (.move 5 (ci 0))])
 (.ret))))))))))
theorem fun_impl_reduced {rin : List T} {args : List A} {Q : List T → T → Prop} (ha : args.length ≤ 24) (h : cW Try.prog 24 c_impl_reduced (retP Try.prog [.cell 4 30, .tmp 5] rin.length Q) (St.of (enum 0 args) (enum 1000000000 rin))) :
    Fun Try.prog 119 rin args Q :=
  Fun.of (H := ⟨[], []⟩) Try.func119 rfl rfl rfl (by kernel_rfl) ha (by decide) h

def c_spec_l27Sign : CC :=
 (.seq (.reg [.o (.move 2 (ci 0))])
 ((.seq (.reg [.o (.move 3 (sl 0)),
 .o (.bin 4 .rem (sl 3) (ci 2)),
 .o (.bin 5 .mul (ci 2) (sl 4)),
 .o (.bin 6 .sub (ci 1) (sl 5)),
 .o (.move 2 (sl 6))])
 (.ret))))
theorem fun_spec_l27Sign {rin : List T} {args : List A} {Q : List T → T → Prop} (ha : args.length ≤ 7) (h : cW Try.prog 7 c_spec_l27Sign (retP Try.prog [.tmp 2] rin.length Q) (St.of (enum 0 args) (enum 1000000000 rin))) :
    Fun Try.prog 120 rin args Q :=
  Fun.of (H := ⟨[], []⟩) Try.func120 rfl rfl rfl (by kernel_rfl) ha (by decide) h

def c_spec_l27Without : CC :=
 (.seq (.reg [.o (.move 6 (cv (.slice none 0 0)))])
 ((.seq (.reg [.o (.bslice 10 1 0 []),
 .o (.move 7 (sl 10))])
 ((.seq (.seq (.reg [.o (.move 8 (ci 0))])
 ((.block 0 (.loop (.seq (.seq (.reg [.o (.move 11 (sl 8)),
 .o (.move 12 (sl 0)),
 .o (.lenS 13 (sl 12)),
 .o (.bin 14 .lss (sl 11) (sl 13))])
 ((.cond (sl 14) .skip
 (.exit 0))))
 ((.seq (.block 1 (.seq (.seq (.reg [.o (.move 17 (sl 8)),
 .o (.move 18 (sl 1)),
 .o (.bin 19 .eql (sl 17) (sl 18))])
 ((.cond (sl 19) (.exit 1)
 .skip)))
 ((.seq (.draw [26] [(kR, .o (.move 20 (sl 0))),
 (kR, .o (.move 21 (sl 8))),
 (kR, .o (.idx 22 1 (sl 20) (sl 21))),
 (kR, .o (.load1 23 (sl 22))),
 (kR, .o (.move 24 (sl 2))),
 (kR, .o (.slc 25 1 (sl 23) none (some (sl 24)))),
 (.c false [], .o (.call (some 26) (cf 128) [(sl 25)])),
 (.r false [26], .o (.move 27 (sl 0))),
 (.r false [26], .o (.move 28 (sl 8))),
 (.r false [26], .o (.idx 29 1 (sl 27) (sl 28))),
 (.r false [26], .o (.load1 30 (sl 29))),
 (.r false [26], .o (.move 31 (sl 2))),
 (.r false [26], .o (.bin 32 .add (sl 31) (ci 1))),
 (.r false [26], .o (.slc 33 1 (sl 30) (some (sl 32)) none)),
 (kH, .o (.app 34 1 8 (sl 26) (sl 33))),
 (kR, .o (.move 9 (sl 34)))])
 ((.reg [.o (.move 35 (sl 7)),
 .o (.move 36 (sl 9)),
 .o (.bslice 37 1 1 [(0, (sl 36))]),
 .o (.app 38 1 24 (sl 35) (sl 37)),
 .o (.move 7 (sl 38))]))))))
 ((.reg [.o (.move 15 (sl 8)),
 .o (.bin 16 .add (sl 15) (ci 1)),
 .o (.move 8 (sl 16))])))))))))
 ((.seq (.reg [.o (.move 39 (sl 7)),
 .o (.move 6 (sl 39))])
 (.ret))))))))
theorem fun_spec_l27Without {rin : List T} {args : List A} {Q : List T → T → Prop} (ha : args.length ≤ 40) (h : cW Try.prog 40 c_spec_l27Without (retP Try.prog [.tmp 6] rin.length Q) (St.of (enum 0 args) (enum 1000000000 rin))) :
    Fun Try.prog 121 rin args Q :=
  Fun.of (H := ⟨[], []⟩) Try.func121 rfl rfl rfl (by kernel_rfl) ha (by decide) h

def c_impl_MultiplyRatios : CC :=
 (.seq (.reg [.o (.box 2 (sl 0)),
 .o (.box 3 (sl 1)),
 .o (.alloc 4 [.v (.int .i64 0), .v (.int .i64 0)]),
 .o (.move 5 (ci 0))])
 ((.seq (.seq (.reg [.o (.loadN 6 2 (sl 2)),
 .o (.call (some 7) (cf 88) [(sl 6)]),
 .o (.un 8 .not (sl 7)),
 .o (.move 9 (sl 8)),
 .g 9 false (some 10) (.loadN 10 2 (sl 3)),
 .g 9 false (some 11) (.call (some 11) (cf 88) [(sl 10)]),
 .g 9 false (some 12) (.un 12 .not (sl 11)),
 .o (.pick 13 (sl 9) (cb true) (sl 12))])
 ((.cond (sl 13) (.seq (.reg [.o (.build 14 [.v (.int .i64 0), .v (.int .i64 0)] [(0, 1), (1, 1)] []),
 .o (.store 2 (sl 4) (sl 14)),
 .o (.move 5 (ci 1))])
 (.ret))
 .skip)))
 ((.seq (.reg [.o (.fld 15 0 (sl 2)),
 .o (.load1 16 (sl 15)),
 .o (.fld 17 0 (sl 3)),
 .o (.load1 18 (sl 17)),
 .o (.bin 19 .mul (sl 16) (sl 18)),
 .o (.fld 20 1 (sl 2)),
 .o (.load1 21 (sl 20)),
 .o (.fld 22 1 (sl 3)),
 .o (.load1 23 (sl 22)),
 .o (.bin 24 .mul (sl 21) (sl 23)),
 .o (.call (some 25) (cf 119) [(sl 19), (sl 24)]),
 .o (.extract 26 (sl 25) 0),
 .o (.extract 27 (sl 25) 1),
 .o (.store 2 (sl 4) (sl 26)),
 .o (.move 5 (sl 27))])
 (.ret))))))
theorem fun_impl_MultiplyRatios {rin : List T} {args : List A} {Q : List T → T → Prop} (ha : args.length ≤ 28) (h : cW Try.prog 28 c_impl_MultiplyRatios (retP Try.prog [.cell 4 30, .tmp 5] rin.length Q) (St.of (enum 0 args) (enum 1000000000 rin))) :
    Fun Try.prog 122 rin args Q :=
  Fun.of (H := ⟨[], []⟩) Try.func122 rfl rfl rfl (by kernel_rfl) ha (by decide) h

def c_cmp_isNaN_int64_ : CC :=
 (.seq (.reg [.o (.move 2 (cb false))])
 ((.seq (.reg [.o (.move 3 (sl 0)),
 .o (.move 4 (sl 0)),
 .o (.bin 5 .neq (sl 3) (sl 4)),
 .o (.move 2 (sl 5))])
 (.ret))))
theorem fun_cmp_isNaN_int64_ {rin : List T} {args : List A} {Q : List T → T → Prop} (ha : args.length ≤ 6) (h : cW Try.prog 6 c_cmp_isNaN_int64_ (retP Try.prog [.tmp 2] rin.length Q) (St.of (enum 0 args) (enum 1000000000 rin))) :
    Fun Try.prog 123 rin args Q :=
  Fun.of (H := ⟨[], []⟩) Try.func123 rfl rfl rfl (by kernel_rfl) ha (by decide) h

def c_spec_AddRatios : CC :=
 (.seq (.reg [.o (.box 2 (sl 0)),
 .o (.box 3 (sl 1)),
 .o (.alloc 4 [.v (.int .i64 0), .v (.int .i64 0)]),
 .o (.move 5 (ci 0))])
 ((.seq (.seq (.reg [.o (.loadN 6 2 (sl 2)),
 .o (.call (some 7) (cf 94) [(sl 6)]),
 .o (.un 8 .not (sl 7)),
 .o (.move 9 (sl 8)),
 .g 9 false (some 10) (.loadN 10 2 (sl 3)),
 .g 9 false (some 11) (.call (some 11) (cf 94) [(sl 10)]),
 .g 9 false (some 12) (.un 12 .not (sl 11)),
 .o (.pick 13 (sl 9) (cb true) (sl 12))])
 ((.cond (sl 13) (.seq (.reg [.o (.build 14 [.v (.int .i64 0), .v (.int .i64 0)] [(0, 1), (1, 1)] []),
 .o (.store 2 (sl 4) (sl 14)),
 .o (.move 5 (ci 1))])
 (.ret))
 .skip)))
 ((.seq (.reg [.o (.fld 15 0 (sl 2)),
 .o (.load1 16 (sl 15)),
 .o (.fld 17 1 (sl 3)),
 .o (.load1 18 (sl 17)),
 .o (.bin 19 .mul (sl 16) (sl 18)),
 .o (.fld 20 0 (sl 3)),
 .o (.load1 21 (sl 20)),
 .o (.fld 22 1 (sl 2)),
 .o (.load1 23 (sl 22)),
 .o (.bin 24 .mul (sl 21) (sl 23)),
 .o (.bin 25 .add (sl 19) (sl 24)),
 .o (.fld 26 1 (sl 2)),
 .o (.load1 27 (sl 26)),
 .o (.fld 28 1 (sl 3)),
 .o (.load1 29 (sl 28)),
 .o (.bin 30 .mul (sl 27) (sl 29)),
 .o (.call (some 31) (cf 85) [(sl 25), (sl 30)]),
 .o (.extract 32 (sl 31) 0),
 .o (.extract 33 (sl 31) 1),
 .o (.store 2 (sl 4) (sl 32)),
 .o (.move 5 (sl 33))])
 (.ret))))))
theorem fun_spec_AddRatios {rin : List T} {args : List A} {Q : List T → T → Prop} (ha : args.length ≤ 34) (h : cW Try.prog 34 c_spec_AddRatios (retP Try.prog [.cell 4 30, .tmp 5] rin.length Q) (St.of (enum 0 args) (enum 1000000000 rin))) :
    Fun Try.prog 124 rin args Q :=
  Fun.of (H := ⟨[], []⟩) Try.func124 rfl rfl rfl (by kernel_rfl) ha (by decide) h

def c_spec_l19Times : CC :=
 (.seq (.reg [.o (.box 4 (sl 1)),
 .o (.box 5 (sl 2)),
 .o (.alloc 6 [.v (.int .i64 0), .v (.int .i64 0)])])
 ((.seq (.seq (.reg [.o (.move 9 (sl 0)),
 .o (.nilc 10 (sl 9)),
 .o (.fld 11 0 (sl 10)),
 .o (.load1 12 (sl 11)),
 .o (.bin 13 .neq (sl 12) (ci 0))])
 ((.cond (sl 13) (.seq (.reg [.o (.build 14 [.v (.int .i64 0), .v (.int .i64 0)] [(0, 1), (1, 1)] [(1, (ci 1))]),
 .o (.store 2 (sl 6) (sl 14))])
 (.ret))
 .skip)))
 ((.seq (.reg [.o (.loadN 16 2 (sl 4)),
 .o (.loadN 17 2 (sl 5)),
 .o (.call (some 18) (cf 129) [(sl 16), (sl 17)]),
 .o (.move 15 (sl 18)),
 .o (.extract 19 (sl 15) 0),
 .o (.extract 20 (sl 15) 1),
 .o (.alloc 7 [.v (.int .i64 0), .v (.int .i64 0)]),
 .o (.store 2 (sl 7) (sl 19)),
 .o (.move 8 (sl 20))])
 ((.seq (.reg [.o (.move 21 (sl 0)),
 .o (.move 22 (sl 8)),
 .o (.nilc 23 (sl 21)),
 .o (.fld 24 0 (sl 23)),
 .o (.store 1 (sl 24) (sl 22))])
 ((.seq (.reg [.o (.loadN 25 2 (sl 7)),
 .o (.store 2 (sl 6) (sl 25))])
 (.ret))))))))))
theorem fun_spec_l19Times {rin : List T} {args : List A} {Q : List T → T → Prop} (ha : args.length ≤ 26) (h : cW Try.prog 26 c_spec_l19Times (retP Try.prog [.cell 6 30] rin.length Q) (St.of (enum 0 args) (enum 1000000000 rin))) :
    Fun Try.prog 125 rin args Q :=
  Fun.of (H := ⟨[], []⟩) Try.func125 rfl rfl rfl (by kernel_rfl) ha (by decide) h

def c_slices_Clone___int64_int64_ : CC :=
 (.seq (.reg [.o (.move 2 (cv (.slice none 0 0)))])
 ((.seq (.seq (.reg [.o (.move 3 (sl 0)),
 .o (.isNil 4 false (sl 3))])
 ((.cond (sl 4) (.seq (.reg [.o (.move 2 (cv (.slice none 0 0)))])
 (.ret))
 .skip)))
 ((.seq (.reg [.o (.bslice 5 1 0 []),
 .o (.move 6 (sl 0)),
 .o (.app 7 1 8 (sl 5) (sl 6)),
 .o (.move 2 (sl 7))])
 (.ret))))))
theorem fun_slices_Clone___int64_int64_ {rin : List T} {args : List A} {Q : List T → T → Prop} (ha : args.length ≤ 8) (h : cW Try.prog 8 c_slices_Clone___int64_int64_ (retP Try.prog [.tmp 2] rin.length Q) (St.of (enum 0 args) (enum 1000000000 rin))) :
    Fun Try.prog 127 rin args Q :=
  Fun.of (H := ⟨[], []⟩) Try.func127 rfl rfl rfl (by kernel_rfl) ha (by decide) h

def c_spec_l01Own : CC :=
 (.seq (.reg [.o (.move 2 (cv (.slice none 0 0)))])
 ((.seq (.reg [.o (.bslice 3 1 0 []),
 .o (.move 4 (sl 0)),
 .o (.app 5 1 8 (sl 3) (sl 4)),
 .o (.move 2 (sl 5))])
 (.ret))))
theorem fun_spec_l01Own {rin : List T} {args : List A} {Q : List T → T → Prop} (ha : args.length ≤ 6) (h : cW Try.prog 6 c_spec_l01Own (retP Try.prog [.tmp 2] rin.length Q) (St.of (enum 0 args) (enum 1000000000 rin))) :
    Fun Try.prog 128 rin args Q :=
  Fun.of (H := ⟨[], []⟩) Try.func128 rfl rfl rfl (by kernel_rfl) ha (by decide) h

def c_spec_MultiplyRatios : CC :=
 (.seq (.reg [.o (.box 2 (sl 0)),
 .o (.box 3 (sl 1)),
 .o (.alloc 4 [.v (.int .i64 0), .v (.int .i64 0)]),
 .o (.move 5 (ci 0))])
 ((.seq (.seq (.reg [.o (.loadN 6 2 (sl 2)),
 .o (.call (some 7) (cf 94) [(sl 6)]),
 .o (.un 8 .not (sl 7)),
 .o (.move 9 (sl 8)),
 .g 9 false (some 10) (.loadN 10 2 (sl 3)),
 .g 9 false (some 11) (.call (some 11) (cf 94) [(sl 10)]),
 .g 9 false (some 12) (.un 12 .not (sl 11)),
 .o (.pick 13 (sl 9) (cb true) (sl 12))])
 ((.cond (sl 13) (.seq (.reg [.o (.build 14 [.v (.int .i64 0), .v (.int .i64 0)] [(0, 1), (1, 1)] []),
 .o (.store 2 (sl 4) (sl 14)),
 .o (.move 5 (ci 1))])
 (.ret))
 .skip)))
 ((.seq (.reg [.o (.fld 15 0 (sl 2)),
 .o (.load1 16 (sl 15)),
 .o (.fld 17 0 (sl 3)),
 .o (.load1 18 (sl 17)),
 .o (.bin 19 .mul (sl 16) (sl 18)),
 .o (.fld 20 1 (sl 2)),
 .o (.load1 21 (sl 20)),
 .o (.fld 22 1 (sl 3)),
 .o (.load1 23 (sl 22)),
 .o (.bin 24 .mul (sl 21) (sl 23)),
 .o (.call (some 25) (cf 85) [(sl 19), (sl 24)]),
 .o (.extract 26 (sl 25) 0),
 .o (.extract 27 (sl 25) 1),
 .o (.store 2 (sl 4) (sl 26)),
 .o (.move 5 (sl 27))])
 (.ret))))))
theorem fun_spec_MultiplyRatios {rin : List T} {args : List A} {Q : List T → T → Prop} (ha : args.length ≤ 28) (h : cW Try.prog 28 c_spec_MultiplyRatios (retP Try.prog [.cell 4 30, .tmp 5] rin.length Q) (St.of (enum 0 args) (enum 1000000000 rin))) :
    Fun Try.prog 129 rin args Q :=
  Fun.of (H := ⟨[], []⟩) Try.func129 rfl rfl rfl (by kernel_rfl) ha (by decide) h

end Go.Ab

/- Functions in compact form, with hints. -/
set_option linter.unusedVariables false
namespace Go.Ab
open Go.Proofs

def c_spec_l26Draw_h : CC :=
 (.seq (.reg [.o (.move 2 (cv (.slice none 0 0)))])
 ((.seq (.reg [.o (.move 10 (sl 0)),
 .o (.call (some 11) (cf 71) [(sl 10), (ci 4)]),
 .o (.bin 12 .add (ci 1) (sl 11)),
 .o (.move 13 (sl 0)),
 .o (.call (some 14) (cf 71) [(sl 13), (ci 4)]),
 .o (.bin 15 .add (ci 1) (sl 14)),
 .o (.move 3 (sl 12)),
 .o (.move 4 (sl 15))])
 ((.seq (.reg [.o (.move 16 (sl 0)),
 .o (.bslice 17 1 3 [(0, (ci 2)), (1, (ci 5)), (2, (ci 20))]),
 .o (.call (some 18) (cf 72) [(sl 16), (sl 17)]),
 .o (.move 5 (sl 18))])
 ((.seq (.reg [.o (.bslice 19 1 0 []),
 .o (.move 6 (sl 19))])
 ((.seq (.seq (.reg [.o (.move 7 (ci 0))])
 ((.block 0 (.loop (.seq (.seq (.reg [.o (.move 20 (sl 7)),
 .o (.move 21 (sl 3)),
 .o (.bin 22 .lss (sl 20) (sl 21))])
 ((.cond (sl 22) .skip
 (.exit 0))))
 ((.seq (.block 1 (.seq (.reg [.o (.bslice 25 1 0 []),
 .o (.move 8 (sl 25))])
 ((.seq (.seq (.reg [.o (.move 9 (ci 0))])
 ((.block 2 (.loop (.seq (.seq (.reg [.o (.move 26 (sl 9)),
 .o (.move 27 (sl 4)),
 .o (.bin 28 .lss (sl 26) (sl 27))])
 ((.cond (sl 28) .skip
 (.exit 2))))
 ((.seq (.block 3 (.reg [.o (.move 31 (sl 8)),
 .o (.move 32 (sl 0)),
 .o (.move 33 (sl 5)),
 .o (.bin 34 .mul (ci 2) (sl 33)),
 .o (.bin 35 .add (sl 34) (ci 1)),
 .o (.call (some 36) (cf 71) [(sl 32), (sl 35)]),
 .o (.move 37 (sl 5)),
 .o (.bin 38 .sub (sl 36) (sl 37)),
 .o (.bslice 39 1 1 [(0, (sl 38))]),
 .o (.app 40 1 8 (sl 31) (sl 39)),
 .o (.move 8 (sl 40))]))
 ((.reg [.o (.move 29 (sl 9)),
 .o (.bin 30 .add (sl 29) (ci 1)),
 .o (.move 9 (sl 30))])))))))))
 ((.reg [.o (.move 41 (sl 6)),
 .o (.move 42 (sl 8)),
 .o (.bslice 43 1 1 [(0, (sl 42))]),
 .o (.app 44 1 24 (sl 41) (sl 43)),
 .o (.move 6 (sl 44))]))))))
 ((.reg [.o (.move 23 (sl 7)),
 .o (.bin 24 .add (sl 23) (ci 1)),
 .o (.move 7 (sl 24))])))))))))
 ((.seq (.seq (.reg [.o (.move 45 (sl 0)),
 .o (.call (some 46) (cf 71) [(sl 45), (ci 24)])])
 ((.block 4 (.seq (.reg [.o (.bin 48 .eql (sl 46) (ci 0)),
 .o (.move 47 (sl 48))])
 ((.cond (sl 47) (.weak (.draw [53] [(kE, .o (.move 49 (sl 6))),
 (.r false [1000000000, 54, 53], .o (.idx 50 1 (sl 49) (ci 0))),
 (.r false [1000000000, 54, 53], .o (.load1 51 (sl 50))),
 (kR, .o (.move 52 (sl 0))),
 (kN, .o (.bslice 53 1 3 [(0, (ci 20)), (1, (ci 21)), (2, (ci (-21)))])),
 (.h (some [1000000000, 53]) [], .o (.call (some 54) (cf 72) [(sl 52), (sl 53)])),
 (kR, .o (.idx 55 1 (sl 51) (ci 0))),
 (kH, .o (.store 1 (sl 55) (sl 54)))]))
 (.seq (.reg [.o (.bin 57 .eql (sl 46) (ci 1)),
 .o (.move 56 (sl 57))])
 ((.cond (sl 56) (.reg [.o (.move 58 (sl 6)),
 .o (.bslice 59 1 5 [(0, (ci 1)), (1, (ci 2)), (2, (ci 3)), (3, (ci 4)), (4, (ci 5))]),
 .o (.bslice 60 1 1 [(0, (sl 59))]),
 .o (.app 61 1 24 (sl 58) (sl 60)),
 .o (.move 6 (sl 61))])
 (.seq (.reg [.o (.bin 63 .eql (sl 46) (ci 2)),
 .o (.move 62 (sl 63))])
 ((.cond (sl 62) (.seq (.reg [.o (.move 2 (cv (.slice none 0 0)))])
 (.ret))
 .skip))))))))))))
 ((.seq (.weak (.reg [.o (.move 64 (sl 6)),
 .o (.move 2 (sl 64))]))
 (.ret))))))))))))))
theorem fun_spec_l26Draw_h {rin : List T} {args : List A} {Q : List T → T → Prop} (ha : args.length ≤ 65) (h : cW Try.prog 65 c_spec_l26Draw_h (retP Try.prog [.tmp 2] rin.length Q) (St.of (enum 0 args) (enum 1000000000 rin))) :
    Fun Try.prog 60 rin args Q :=
  Fun.of (H := ⟨[(15, 1, .r false [1000000000, 54, 53]), (15, 2, .r false [1000000000, 54, 53]), (15, 5, .h (some [1000000000, 53]) [])], [15, 20]⟩) Try.func60 rfl rfl rfl (by kernel_rfl) ha (by decide) h

def c_impl_choices_h : CC :=
 (.seq (.reg [.o (.box 2 (sl 0)),
 .o (.box 3 (sl 1)),
 .o (.move 4 (cv (.nilFunc)))])
 ((.seq (.weak (.reg [.o (.mkf 5 98 [(sl 3), (sl 2)]),
 .o (.move 4 (sl 5))]))
 (.ret))))
theorem fun_impl_choices_h {rin : List T} {args : List A} {Q : List T → T → Prop} (ha : args.length ≤ 6) (h : cW Try.prog 6 c_impl_choices_h (retP Try.prog [.tmp 4] rin.length Q) (St.of (enum 0 args) (enum 1000000000 rin))) :
    Fun Try.prog 77 rin args Q :=
  Fun.of (H := ⟨[], [1]⟩) Try.func77 rfl rfl rfl (by kernel_rfl) ha (by decide) h

end Go.Ab

/- Choices of k of n numbers, in lexicographic order, as data. -/
set_option linter.unusedSimpArgs false
set_option linter.unusedVariables false
namespace Go.Ab

/-- x, x + 1, .. (k numbers). -/
def run (x : Int) : Nat → List Int
  | 0 => []
  | k + 1 => x :: run (x + 1) k
theorem run_length (x : Int) (k : Nat) : (run x k).length = k := by
  induction k generalizing x with
  | zero => rfl
  | succ k ih => rw [run, List.length_cons, ih]
theorem run_get (x : Int) {k i : Nat} (h : i < k) : (run x k)[i]? = some (x + i) := by
  induction k generalizing x i with
  | zero => omega
  | succ k ih =>
    cases i with
    | zero => simp [run]
    | succ i => rw [run, List.getElem?_cons_succ, ih (x + 1) (by omega)]; congr 1; omega
/-- All choices of k of the d numbers from lo on. -/
def comb : Nat → Nat → Int → List (List Int)
  | _, 0, _ => [[]]
  | 0, _ + 1, _ => []
  | d + 1, k + 1, lo => (comb d k (lo + 1)).map (lo :: ·) ++ comb d (k + 1) (lo + 1)
/-- The next choice. n: the numbers are less than n. -/
def nxt (n : Int) : List Int → Option (List Int)
  | [] => none
  | x :: t => match nxt n t with
    | some t' => some (x :: t')
    | none => if x = n - 1 - t.length then none else some (run (x + 1) (t.length + 1))
/-- Each is the next of the one before it; behind the last comes e. -/
def Walks (f : List Int → Option (List Int)) : List (List Int) → Option (List Int) → Prop
  | [], _ => True
  | [c], e => f c = e
  | c :: c' :: l, e => f c = some c' ∧ Walks f (c' :: l) e
theorem Walks.append {f : List Int → Option (List Int)} {c' : List Int} {l' : List (List Int)} {e : Option (List Int)} : ∀ {l : List (List Int)}, Walks f l (some c') → Walks f (c' :: l') e → Walks f (l ++ c' :: l') e
  | [], _, h' => h'
  | [c], h, h' => ⟨h, h'⟩
  | c :: c2 :: l, h, h' => ⟨h.1, Walks.append (l := c2 :: l) h.2 h'⟩
theorem comb_len : ∀ (d k : Nat) (lo : Int), ∀ c ∈ comb d k lo, c.length = k
  | d, 0, lo => by cases d <;> simp [comb]
  | 0, k + 1, lo => by simp [comb]
  | d + 1, k + 1, lo => by
    intro c hc
    rw [comb, List.mem_append, List.mem_map] at hc
    rcases hc with ⟨t, ht, rfl⟩ | hc
    · rw [List.length_cons, comb_len d k (lo + 1) t ht]
    · exact comb_len d (k + 1) (lo + 1) c hc
theorem comb_nil : ∀ {d k : Nat} {lo : Int}, d < k → comb d k lo = []
  | 0, k + 1, lo, _ => rfl
  | d + 1, k + 1, lo, h => by rw [comb, comb_nil (by omega), comb_nil (by omega)]; rfl
theorem comb_head : ∀ {d k : Nat} {lo : Int}, k ≤ d → ∃ l, comb d k lo = run lo k :: l
  | d, 0, lo, _ => by cases d <;> exact ⟨[], rfl⟩
  | d + 1, k + 1, lo, h => by
    obtain ⟨l, hl⟩ := comb_head (d := d) (k := k) (lo := lo + 1) (by omega)
    exact ⟨l.map (lo :: ·) ++ comb d (k + 1) (lo + 1), by rw [comb, hl]; rfl⟩
theorem walks_cons {n x : Int} {k : Nat} : ∀ {l : List (List Int)}, (∀ t ∈ l, t.length = k) → Walks (nxt n) l none → Walks (nxt n) (l.map (x :: ·)) (if x = n - 1 - k then none else some (run (x + 1) (k + 1)))
  | [], _, _ => trivial
  | [t], hl, h => by
    show nxt n (x :: t) = _
    have h : nxt n t = none := h
    rw [nxt, h, hl t (by simp)]
  | t :: t' :: l, hl, h => by
    refine ⟨?_, walks_cons (l := t' :: l) (fun s hs => hl s (by simp only [List.mem_cons] at hs ⊢; exact .inr hs)) h.2⟩
    rw [nxt, h.1]
theorem comb_walks (n : Int) : ∀ (d k : Nat) (lo : Int), lo + d = n → Walks (nxt n) (comb d k lo) none
  | d, 0, lo, _ => by cases d <;> exact (rfl : nxt n [] = none)
  | 0, k + 1, lo, _ => trivial
  | d + 1, k + 1, lo, h => by
    rw [comb]
    have h1 := comb_walks n d k (lo + 1) (by omega)
    have h2 := comb_walks n d (k + 1) (lo + 1) (by omega)
    have h3 := walks_cons (n := n) (x := lo) (k := k) (comb_len d k (lo + 1)) h1
    by_cases hk : k + 1 ≤ d
    · obtain ⟨l, hl⟩ := comb_head (lo := lo + 1) hk
      rw [hl] at h2 ⊢
      rw [if_neg (by omega)] at h3
      exact Walks.append h3 h2
    · rw [comb_nil (d := d) (k := k + 1) (by omega), List.append_nil]
      by_cases hk2 : k ≤ d
      · rw [if_pos (by omega)] at h3; exact h3
      · rw [comb_nil (d := d) (k := k) (by omega)]; trivial
theorem Walks.get {f : List Int → Option (List Int)} {e : Option (List Int)} : ∀ {l : List (List Int)} {i : Nat} {c : List Int}, Walks f l e → l[i]? = some c → f c = if i + 1 = l.length then e else l[i + 1]?
  | [], i, c, _, h => by simp at h
  | [c0], 0, c, h, hc => by simp only [List.getElem?_cons_zero, Option.some.injEq] at hc; subst hc; exact h
  | [c0], i + 1, c, h, hc => by simp at hc
  | c0 :: c1 :: l, 0, c, h, hc => by
    simp only [List.getElem?_cons_zero, Option.some.injEq] at hc; subst hc
    rw [if_neg (by simp), h.1]; rfl
  | c0 :: c1 :: l, i + 1, c, h, hc => by
    rw [List.getElem?_cons_succ] at hc
    rw [Walks.get (l := c1 :: l) h.2 hc]
    simp only [List.length_cons, Nat.add_right_cancel_iff, List.getElem?_cons_succ]
/-- The next choice, as the program finds it. -/
theorem nxt_none {n : Int} : ∀ {c : List Int}, (∀ j, j < c.length → c[j]? = some (n - c.length + j)) → nxt n c = none
  | [], _ => rfl
  | x :: t, h => by
    have h1 : nxt n t = none := nxt_none fun j hj => by
      have := h (j + 1) (by simpa using hj)
      rw [List.getElem?_cons_succ] at this
      rw [this, List.length_cons]; congr 1; omega
    have h0 := h 0 (by simp)
    simp only [List.getElem?_cons_zero, Option.some.injEq, List.length_cons] at h0
    rw [nxt, h1]
    simp only []
    rw [if_pos (by omega)]
theorem nxt_some {n : Int} : ∀ {c : List Int} {i : Nat} {y : Int}, c[i]? = some y → y ≠ n - c.length + i → (∀ j, i < j → j < c.length → c[j]? = some (n - c.length + j)) → nxt n c = some (c.take i ++ run (y + 1) (c.length - i))
  | [], i, y, h, _, _ => by simp at h
  | x :: t, 0, y, h, h1, h2 => by
    simp only [List.getElem?_cons_zero, Option.some.injEq] at h
    subst h
    have h3 : nxt n t = none := nxt_none fun j hj => by
      have := h2 (j + 1) (by omega) (by simpa using hj)
      rw [List.getElem?_cons_succ] at this
      rw [this, List.length_cons]; congr 1; omega
    rw [nxt, h3]
    simp only [List.length_cons] at h1 ⊢
    rw [if_neg (by omega)]; rfl
  | x :: t, i + 1, y, h, h1, h2 => by
    rw [List.getElem?_cons_succ] at h
    simp only [List.length_cons] at h1 h2
    have h3 := nxt_some (n := n) (c := t) h (by omega) fun j hj hj' => by
      have := h2 (j + 1) (by omega) (by omega)
      rw [List.getElem?_cons_succ] at this
      rw [this]; congr 1; omega
    rw [nxt, h3]
    simp only [List.take_succ_cons, List.length_cons, List.cons_append, Nat.add_sub_add_right]
/-- The numbers stay within their bounds. -/
theorem comb_bound : ∀ (d k : Nat) (lo : Int), ∀ c ∈ comb d k lo, ∀ x ∈ c, lo ≤ x ∧ x < lo + d
  | d, 0, lo => by cases d <;> simp [comb]
  | 0, k + 1, lo => by simp [comb]
  | d + 1, k + 1, lo => by
    intro c hc x hx
    rw [comb, List.mem_append, List.mem_map] at hc
    rcases hc with ⟨t, ht, rfl⟩ | hc
    · rcases List.mem_cons.1 hx with rfl | hx
      · omega
      · have := comb_bound d k (lo + 1) t ht x hx; omega
    · have := comb_bound d (k + 1) (lo + 1) c hc x hx; omega
end Go.Ab

/- Contracts: whole numbers, IsMatrix. -/
set_option linter.unusedSimpArgs false
set_option linter.unusedVariables false
namespace Go.Ab
open Go.Proofs

theorem impl_within_ok (n lo hi : Int) : Pure Try.prog 67 [.i n, .i lo, .i hi] (.b (decide (lo ≤ n ∧ n ≤ hi))) := by
  refine fun_impl_within (by simp) ?_
  simp -implicitDefEqProofs only [c_impl_within, go_sem]
  refine ⟨fun h => ?_, fun h => ?_⟩
  · have : lo ≤ n := h
    simp [this]
  · have : ¬ lo ≤ n := h
    simp [this]

theorem impl_allWithin_ok (l : List Int) (lo hi : Int) (hl : l.length ≤ 1000000000000) : Pure Try.prog 69 [ints l, .i lo, .i hi] (.b (l.all fun x => decide (lo ≤ x ∧ x ≤ hi))) := by
  refine fun_impl_allWithin (by simp) ?_
  simp -implicitDefEqProofs only [c_impl_allWithin, ints, go_sem]
  refine SemC.loopR (σ := Nat) (fun i => St.of [(0, .t (ints l)), (1, .t (.i lo)), (2, .t (.i hi)), (6, .t (.b false)), (9, .t (ints l)), (10, .t (.i l.length)), (11, .t (.i i))] []) (fun i => i ≤ l.length ∧ ∀ x ∈ l.take i, lo ≤ x ∧ x ≤ hi) (fun i => l.length - i) 0 (Weak.of _ [] [] (by simp) (by simp) ?_ trivial) ⟨by simp, by simp⟩ fun i hI R hn hr he => ?_
  · simp -implicitDefEqProofs only [ints, wkR, Nat.reduceEqDiff, ↓reduceIte]
  · simp -implicitDefEqProofs only [ints, go_sem]
    refine ⟨fun h => ⟨by omega, by omega, by omega, fun c x hx hc => ?_⟩, fun h => he _ _ ?_⟩
    · subst hc
      rw [toNat_cast] at hx
      refine CallW.pure (impl_within_ok x lo hi) [] rfl Try.call67 ?_ ?_ rfl ?_
      · simp -implicitDefEqProofs only [vaR, go_sem]
      · trivial
      · simp -implicitDefEqProofs only [go_sem]
        refine ⟨fun h1 => hr _ ?_, fun h1 => hn _ (i + 1) (Weak.of _ [] [] (by simp) (by simp) ?_ trivial) ⟨by omega, take_succ_all hx hI.2 (by simpa using h1)⟩ (by omega)⟩
        · simp -implicitDefEqProofs only [go_sem]
          have : l.all (fun x => decide (lo ≤ x ∧ x ≤ hi)) = false := by
            rw [List.all_eq_false]
            exact ⟨x, List.mem_of_getElem? hx, by simp at h1 ⊢; omega⟩
          rw [this]
        · simp -implicitDefEqProofs only [ints, wkR, Nat.reduceEqDiff, ↓reduceIte, next64 (by omega : i < l.length) hl]
    · simp -implicitDefEqProofs only [go_sem]
      have : l.all (fun x => decide (lo ≤ x ∧ x ≤ hi)) = true := by
        rw [List.all_eq_true]
        intro x hx
        have := hI.2 x (by rw [List.take_of_length_le (by omega)]; exact hx)
        simpa using this
      rw [this]
end Go.Ab

/- Contracts: sizes, copies. -/
set_option linter.unusedSimpArgs false
set_option linter.unusedVariables false
namespace Go.Ab
open Go.Proofs

/-- A row that is half written. -/
def filled {α : Type} (l : List α) (f : α → T) (z : T) (i : Nat) : List T := (l.take i).map f ++ List.replicate (l.length - i) z
theorem filled_length {α : Type} (l : List α) (f : α → T) (z : T) (i : Nat) (h : i ≤ l.length) : (filled l f z i).length = l.length := by
  simp [filled]; omega
theorem filled_set {α : Type} {l : List α} {f : α → T} {z : T} {i : Nat} {x : α} (h : l[i]? = some x) : (filled l f z i).set i (f x) = filled l f z (i + 1) := by
  obtain ⟨hi, rfl⟩ := List.getElem?_eq_some_iff.1 h
  refine List.ext_getElem? fun j => ?_
  simp only [filled, List.getElem?_set, List.getElem?_append, List.length_map, List.length_take, List.length_append, List.length_replicate, List.getElem?_map, List.getElem?_take, List.getElem?_replicate, Nat.min_eq_left (Nat.le_of_lt hi), Nat.min_eq_left hi]
  by_cases hj : i = j
  · subst hj
    simp [hi]
    omega
  · by_cases h1 : j < i
    · simp [hj, h1, show j < i + 1 by omega]
    · simp only [hj, h1, show ¬ j < i + 1 by omega, if_false]
      by_cases h2 : j < l.length
      · rw [if_pos (by omega), if_pos (by omega)]
      · rw [if_neg (by omega), if_neg (by omega)]
theorem filled_zero {α : Type} (l : List α) (f : α → T) (z : T) : filled l f z 0 = List.replicate l.length z := by simp [filled]
theorem filled_all {α : Type} (l : List α) (f : α → T) (z : T) : filled l f z l.length = l.map f := by simp [filled]
theorem made_one (z : T) (n : Nat) : made [z] n = List.replicate n z := rfl

end Go.Ab

/- Contracts: the choices of k of n indices, as an iterator hands them over. -/
set_option linter.unusedSimpArgs false
set_option linter.unusedVariables false
namespace Go.Ab
open Go.Proofs

section
attribute [-go_sem] load1C load1V fldC lenC idxC loadNV
set_option maxRecDepth 20000 in
theorem impl_choices_ok (n k : Int) : Fun Try.prog 77 [] [.t (.i n), .t (.i k)] fun o r => o = [] ∧ r = .fn 98 [.pin [.i k] 0, .pin [.i n] 0] := by
  refine fun_impl_choices_h (by simp) ?_
  simp -implicitDefEqProofs only [go_sem, evR, ints, rows, rat, rats, c_impl_choices_h]
  refine ⟨_, Weak.trans (Weak.share 2 rfl) (Weak.trans (Weak.share 3 rfl) (Weak.of [(2, .t (.pin [.i n] 0)), (3, .t (.pin [.i k] 0))] [] [] (by simp) (by simp) ?_ trivial)), ?_⟩
  · simp -implicitDefEqProofs only [ints, rows, Nat.reduceBEq, wkR, Nat.reduceEqDiff, ↓reduceIte, wrR, shareA, T.toSh, T.toShL.eq_1, T.toShL.eq_2]
  · simp -implicitDefEqProofs only [go_sem, evR, ints, rows, rat, rats]
/-- The slice while it is filled. -/
def fillR (k j : Nat) : List Int := run 0 j ++ List.replicate (k - j) 0
theorem fillR_length {k j : Nat} (h : j ≤ k) : (fillR k j).length = k := by simp [fillR, run_length]; omega
theorem run_snoc (x : Int) (j : Nat) : run x (j + 1) = run x j ++ [x + j] := by
  induction j generalizing x with
  | zero => simp [run]
  | succ j ih => rw [run, ih (x + 1), run]; simp; omega
theorem fillR_set {k j : Nat} (h : j < k) : (fillR k j).set j (j : Int) = fillR k (j + 1) := by
  obtain ⟨d, rfl⟩ : ∃ d, k = j + 1 + d := ⟨k - j - 1, by omega⟩
  rw [fillR, fillR, show j + 1 + d - j = d + 1 by omega, show j + 1 + d - (j + 1) = d by omega, List.replicate_succ, List.set_append_right _ _ (by rw [run_length]; exact Nat.le_refl _), run_length, Nat.sub_self, List.set_cons_zero, run_snoc]
  simp
theorem fillR_all (k : Nat) : fillR k k = run 0 k := by simp [fillR]
/-- The slice while its end is counted up anew. -/
def nxtR (c : List Int) (i : Nat) (y : Int) (m : Nat) : List Int := c.take i ++ run (y + 1) (m - i) ++ c.drop m
theorem nxtR_length {c : List Int} {i m : Nat} {y : Int} (hi : i ≤ m) (hm : m ≤ c.length) : (nxtR c i y m).length = c.length := by
  simp [nxtR, run_length]; omega
theorem nxtR_start {c : List Int} {i : Nat} {y : Int} (hi : i < c.length) : c.set i (y + 1) = nxtR c i y (i + 1) := by
  rw [nxtR, show i + 1 - i = 1 by omega, List.set_eq_take_append_cons_drop, if_pos hi]
  simp [run]
theorem nxtR_get {c : List Int} {i m : Nat} {y : Int} (hi : i < m) (hm : m ≤ c.length) : (nxtR c i y m)[m - 1]? = some (y + (m - i : Nat)) := by
  rw [nxtR, List.getElem?_append_left (by simp [run_length]; omega), List.getElem?_append_right (by simp; omega)]
  rw [show m - 1 - (c.take i).length = m - i - 1 by simp; omega, run_get _ (by omega)]
  congr 1; omega
theorem nxtR_set {c : List Int} {i m : Nat} {y : Int} (hi : i < m) (hm : m < c.length) : (nxtR c i y m).set m (y + (m - i : Nat) + 1) = nxtR c i y (m + 1) := by
  rw [nxtR, List.set_append_right _ _ (by simp [run_length]; omega), show m - (c.take i ++ run (y + 1) (m - i)).length = 0 by simp [run_length]; omega, nxtR, show m + 1 - i = (m - i) + 1 by omega, run_snoc, List.drop_eq_getElem_cons hm, List.set_cons_zero]
  simp
  omega
theorem nxtR_end {c : List Int} {i : Nat} {y : Int} : nxtR c i y c.length = c.take i ++ run (y + 1) (c.length - i) := by simp [nxtR]
set_option maxRecDepth 20000 in
theorem choices_iter (n k : Nat) (hn : n ≤ 1000) (hk : k ≤ 1000) (hk1 : 1 ≤ k) : Iter Try.prog 98 [.pin [.i k] 0, .pin [.i n] 0] ((comb n k 0).map ints) := by
  have hlen := comb_len n k 0
  refine Iter.of (n := 68) (m := 2) (H := ⟨[], []⟩) (c1 := _) (c2 := _) (c3 := _) (cB := _) Try.func98 rfl rfl rfl (show trC Try.prog _ _ _ = some c_impl_choices_1 by kernel_rfl) (by kernel_rfl) (by decide) (fun c hc e => by have := hlen c hc; rw [e] at this; simp at this; omega) (show 2 < 4 by decide) (show _ ∧ 2 < 23 ∧ _ by decide) (show _ ∧ 2 < 24 ∧ _ by decide) (show _ ∧ 2 < 25 ∧ _ by decide) rfl (by kernel_rfl) (show 2 < 68 by decide) ?_ ?_
  · intro l
    generalize (Value.func (.yield l) #[] #[]) = yv
    show cW _ _ _ _ (St.of [(0, A.v yv), (1, .t (.pin [.i k] 0)), (2, .t (.pin [.i n] 0))] [])
    simp -implicitDefEqProofs only [go_sem, evR, ints, rows, rat, rats]
    refine ⟨by omega, by omega, ?_⟩
    refine SemC.loopR (σ := Nat) (fun j => St.of [(0, .v yv), (1, .t (.pin [.i k] 0)), (2, .t (.pin [.i n] 0)), (4, .own 9), (11, .t (.i k)), (12, .t (.i j))] [(9, intsO (fillR k j))]) (fun j => j ≤ k) (fun j => k - j) 0 (Weak.of _ _ [some 9] (by simp) (by simp) ?_ ?_) (by omega) fun j hj R hn' hr he => ?_
    · simp -implicitDefEqProofs only [ints, rows, Nat.reduceBEq, wkR, Nat.reduceEqDiff, ↓reduceIte, wrR, made_one, List.length_replicate]
    · refine ⟨⟨_, rfl, ?_⟩, rfl, trivial⟩
      rw [made_one, intsO, fillR, run, List.nil_append, List.map_replicate]; exact .refl _
    · have hfl := fillR_length hj
      rcases Nat.lt_or_ge j k with h9 | h9
      · simp -implicitDefEqProofs only [go_sem, evR, ints, rows, rat, rats, intsO, hfl, decide_eq_true (show (j : Int) < (k : Int) by omega)]
        refine ⟨by omega, by omega, by omega, hn' _ (j + 1) (Weak.of _ _ [some 9] (by simp) (by simp) ?_ ?_) (by omega) (by omega)⟩
        · simp -implicitDefEqProofs only [ints, rows, Nat.reduceBEq, wkR, Nat.reduceEqDiff, ↓reduceIte, wrR, next64 h9 (by omega)]
        · refine ⟨⟨_, rfl, ?_⟩, rfl, trivial⟩
          rw [← fillR_set h9, intsO, List.map_set]; exact .refl _
      · simp -implicitDefEqProofs only [go_sem, evR, ints, rows, rat, rats, intsO, decide_eq_false (show ¬ (j : Int) < (k : Int) by omega)]
        refine he _ _ ?_
        simp -implicitDefEqProofs only [go_sem, evR, ints, rows, rat, rats]
        rw [show j = k by omega, fillR_all]
        refine ⟨fun h => ?_, fun h => ?_⟩
        · have h : (n : Int) < k := by simpa using h
          refine ⟨comb_nil (by omega), 9, run 0 k, fun e => by have := run_length 0 k; rw [e] at this; simp at this; omega, Weak.of [(0, A.v yv), (1, .t (.pin [.i k] 0)), (2, .t (.pin [.i n] 0)), (4, .own 9)] [(9, .arr 1 ((run 0 k).map T.i))] [some 9] (by simp) (by simp) ?_ ?_⟩
          · simp -implicitDefEqProofs only [ints, rows, Nat.reduceBEq, wkR, Nat.reduceEqDiff, ↓reduceIte, wrR]
          · exact ⟨⟨_, rfl, .refl _⟩, rfl, trivial⟩
        · have h : ¬ (n : Int) < k := by simpa using h
          obtain ⟨l', hl'⟩ := comb_head (d := n) (k := k) (lo := 0) (by omega)
          refine ⟨9, run 0 k, l', hl', Weak.of [(0, A.v yv), (1, .t (.pin [.i k] 0)), (2, .t (.pin [.i n] 0)), (4, .own 9)] [(9, .arr 1 ((run 0 k).map T.i))] [some 9] (by simp) (by simp) ?_ ?_⟩
          · simp -implicitDefEqProofs only [ints, rows, Nat.reduceBEq, wkR, Nat.reduceEqDiff, ↓reduceIte, wrR]
          · exact ⟨⟨_, rfl, .refl _⟩, rfl, trivial⟩
  · intro l j c hj
    generalize (Value.func (.yield l) #[] #[]) = yv
    have hcl := hlen c (List.mem_of_getElem? hj)
    have hcb := comb_bound n k 0 c (List.mem_of_getElem? hj)
    have hw := Walks.get (comb_walks n n k 0 (by omega)) hj
    show cW _ _ _ _ (St.of [(0, A.v yv), (1, .t (.pin [.i k] 0)), (2, .t (.pin [.i n] 0)), (4, .own 1000000000)] [(1000000000, .arr 1 (c.map T.i))])
    simp -implicitDefEqProofs only [go_sem, evR, ints, rows, rat, rats]
    rw [wrap64 (n := (k : Int) - 1) (by omega) (by omega)]
    refine SemC.loopR (σ := Nat) (fun t => St.of [(0, .v yv), (1, .t (.pin [.i k] 0)), (2, .t (.pin [.i n] 0)), (4, .own 1000000000), (6, .t (.i ((k : Int) - 1 - t)))] [(1000000000, intsO c)]) (fun t => t ≤ k ∧ ∀ i, k - t ≤ i → i < k → c[i]? = some ((n : Int) - k + i)) (fun t => k - t) 0 (Weak.of _ _ [some 1000000000] (by simp) (by simp) ?_ ?_) ⟨by omega, fun i h1 h2 => by omega⟩ fun t ht R hn' hr he => ?_
    · simp -implicitDefEqProofs only [ints, rows, Nat.reduceBEq, wkR, Nat.reduceEqDiff, ↓reduceIte, wrR, Int.sub_zero]
    · exact ⟨⟨_, rfl, .refl _⟩, rfl, trivial⟩
    · obtain ⟨ht1, ht2⟩ := ht
      rcases Nat.lt_or_ge t k with h9 | h9
      · obtain ⟨i, hi⟩ : ∃ i, i + 1 + t = k := ⟨k - 1 - t, by omega⟩
        have ei : (k : Int) - 1 - t = (i : Int) := by omega
        obtain ⟨y, hy⟩ : ∃ y, c[i]? = some y := ⟨_, List.getElem?_eq_getElem (by omega)⟩
        have hyb := hcb y (List.mem_of_getElem? hy)
        rw [ei]
        simp -implicitDefEqProofs only [go_sem, evR, ints, rows, rat, rats, intsO, hy, hcl, decide_eq_true (show (i : Int) ≥ 0 by omega), wrap64 (n := (n : Int) - k) (by omega) (by omega), wrap64 (n := (n : Int) - k + i) (by omega) (by omega), wrap64 (n := (i : Int) - 1) (by omega) (by omega)]
        refine ⟨by omega, by omega, by omega, fun h => ?_, fun h => ?_⟩
        · have h : y = (n : Int) - k + i := by simpa using h
          refine hn' _ (t + 1) (Weak.of _ _ [some 1000000000] (by simp) (by simp) ?_ ?_) ⟨by omega, fun i' h1 h2 => ?_⟩ (by omega)
          · simp -implicitDefEqProofs only [ints, rows, Nat.reduceBEq, wkR, Nat.reduceEqDiff, ↓reduceIte, wrR, show (k : Int) - 1 - ((t + 1 : Nat) : Int) = (i : Int) - 1 by omega]
          · exact ⟨⟨_, rfl, .refl _⟩, rfl, trivial⟩
          · rcases Nat.lt_or_ge i i' with h3 | h3
            · exact ht2 i' (by omega) h2
            · have : i' = i := by omega
              rw [this, hy, h]
        · have h : y ≠ (n : Int) - k + i := by simpa using h
          have hnx := nxt_some (n := n) hy (by rw [hcl]; exact h) (fun j' h1 h2 => by rw [hcl]; exact ht2 j' (by omega) (by omega))
          rw [hw, hcl] at hnx
          refine he _ _ ?_
          simp -implicitDefEqProofs only [go_sem, evR, ints, rows, rat, rats, intsO, decide_eq_false (show ¬ (i : Int) < 0 by omega), hy, wrap64 (n := y + 1) (by omega) (by omega), wrap64 (n := (i : Int) + 1) (by omega) (by omega)]
          refine ⟨by omega, by omega, by omega, by omega, by omega, by omega, ?_⟩
          refine SemC.loopR (σ := Nat) (fun m => St.of [(0, .v yv), (1, .t (.pin [.i k] 0)), (2, .t (.pin [.i n] 0)), (4, .own 1000000000), (7, .t (.i m))] [(1000000000, intsO (nxtR c i y m))]) (fun m => i + 1 ≤ m ∧ m ≤ k) (fun m => k - m) (i + 1) (Weak.of _ _ [some 1000000000] (by simp) (by simp) ?_ ?_) (by omega) fun m hm R2 hn2 hr2 he2 => ?_
          · simp -implicitDefEqProofs only [ints, rows, Nat.reduceBEq, wkR, Nat.reduceEqDiff, ↓reduceIte, wrR, show ((i + 1 : Nat) : Int) = (i : Int) + 1 by omega]
          · refine ⟨⟨_, rfl, ?_⟩, rfl, trivial⟩
            rw [← nxtR_start (by omega), intsO, List.map_set]; exact .refl _
          · have hml := nxtR_length (c := c) (i := i) (y := y) (m := m) (by omega) (by omega)
            rcases Nat.lt_or_ge m k with h8 | h8
            · obtain ⟨m', rfl⟩ : ∃ m', m = m' + 1 := ⟨m - 1, by omega⟩
              have hg := nxtR_get (c := c) (i := i) (m := m' + 1) (y := y) (by omega) (by omega)
              rw [Nat.add_sub_cancel] at hg
              simp -implicitDefEqProofs only [go_sem, evR, ints, rows, rat, rats, intsO, hg, hml, decide_eq_true (show ((m' + 1 : Nat) : Int) < (k : Int) by omega), show ((m' + 1 : Nat) : Int) - 1 = (m' : Int) by omega, wrap64 (n := (m' : Int)) (by omega) (by omega), wrap64 (n := y + ((m' + 1 - i : Nat) : Int) + 1) (by omega) (by omega)]
              refine ⟨by omega, by omega, by omega, by omega, by omega, by omega, hn2 _ (m' + 1 + 1) (Weak.of _ _ [some 1000000000] (by simp) (by simp) ?_ ?_) ⟨by omega, by omega⟩ (by omega)⟩
              · simp -implicitDefEqProofs only [ints, rows, Nat.reduceBEq, wkR, Nat.reduceEqDiff, ↓reduceIte, wrR, next64 h8 (by omega)]
              · refine ⟨⟨_, rfl, ?_⟩, rfl, trivial⟩
                have hs := nxtR_set (c := c) (i := i) (m := m' + 1) (y := y) (by omega) (by omega)
                rw [← hs, intsO, List.map_set]; exact .refl _
            · simp -implicitDefEqProofs only [go_sem, evR, ints, rows, rat, rats, intsO, decide_eq_false (show ¬ (m : Int) < (k : Int) by omega)]
              refine he2 _ _ ?_
              simp -implicitDefEqProofs only [go_sem, evR, ints, rows, rat, rats]
              have hmk : m = c.length := by omega
              rw [hmk, nxtR_end]
              split at hnx
              · cases hnx
              · have hnx' : (comb n k 0)[j + 1]? = some (c.take i ++ run (y + 1) (c.length - i)) := by rw [hcl]; exact hnx
                refine ⟨_, hnx', Weak.of [(0, A.v yv), (1, .t (.pin [.i k] 0)), (2, .t (.pin [.i n] 0)), (4, .own 1000000000)] [(1000000000, .arr 1 ((c.take i ++ run (y + 1) (c.length - i)).map T.i))] [some 1000000000] (by simp) (by simp) ?_ ?_⟩
                · simp -implicitDefEqProofs only [ints, rows, Nat.reduceBEq, wkR, Nat.reduceEqDiff, ↓reduceIte, wrR]
                · exact ⟨⟨_, rfl, .refl _⟩, rfl, trivial⟩
      · have htk : t = k := by omega
        have hnx := nxt_none (n := n) (c := c) fun j' hj' => by rw [hcl] at hj' ⊢; exact ht2 j' (by omega) hj'
        rw [hw] at hnx
        simp -implicitDefEqProofs only [go_sem, evR, ints, rows, rat, rats, intsO, decide_eq_false (show ¬ (k : Int) - 1 - t ≥ 0 by omega)]
        refine he _ _ ?_
        simp -implicitDefEqProofs only [go_sem, evR, ints, rows, rat, rats, decide_eq_true (show (k : Int) - 1 - t < 0 by omega)]
        show j + 1 = _
        split at hnx
        · assumption
        · rename_i h1
          have h2 := (List.getElem?_eq_some_iff.1 hj).1
          rw [List.getElem?_eq_getElem (by omega)] at hnx
          cases hnx
end
end Go.Ab

/- Contracts: the size of a matrix. -/
set_option linter.unusedSimpArgs false
set_option linter.unusedVariables false
namespace Go.Ab
open Go.Proofs

theorem drop_of_get {α : Type} {l : List α} {i : Nat} {x : α} (h : l[i]? = some x) : l.drop i = x :: l.drop (i + 1) := by
  obtain ⟨hi, rfl⟩ := List.getElem?_eq_some_iff.1 h
  exact List.drop_eq_getElem_cons hi

end Go.Ab

/- Contracts: IsMatrix. -/
set_option linter.unusedSimpArgs false
set_option linter.unusedVariables false
namespace Go.Ab
open Go.Proofs

theorem spec_l01In_ok (n lo hi : Int) : Pure Try.prog 70 [.i n, .i lo, .i hi] (.b (decide (lo ≤ n ∧ n ≤ hi))) := by
  refine fun_spec_l01In (by simp) ?_
  simp -implicitDefEqProofs only [c_spec_l01In, go_sem]
  refine ⟨fun h => ?_, fun h => ?_⟩
  · have : lo ≤ n := h
    simp [this]
  · have : ¬ lo ≤ n := h
    simp [this]

/-- Is m a matrix? -/
def rowOK (n : Nat) (r : List Int) : Bool := decide (r.length = n) && r.all fun x => decide (-20 ≤ x ∧ x ≤ 20)
def isMat (m : List (List Int)) : Bool :=
  decide (1 ≤ m.length ∧ m.length ≤ 4) && decide (1 ≤ (m.headD []).length ∧ (m.headD []).length ≤ 4) && m.all (rowOK (m.headD []).length)

theorem spec_IsMatrix_ok (m : List (List Int)) : Pure Try.prog 39 [rows m] (.b (isMat m)) := by
  refine fun_spec_IsMatrix (by simp) ?_
  simp -implicitDefEqProofs only [c_spec_IsMatrix, rows, go_sem, evR, ints, rows, rat, rats]
  refine CallW.pure (spec_l01In_ok m.length 1 4) [] rfl Try.call70 ?_ trivial rfl ?_
  · simp -implicitDefEqProofs only [vaR, go_sem, ints, rows]
  · simp -implicitDefEqProofs only [go_sem, evR, ints, rows, rat, rats]
    refine ⟨fun h => ⟨by simp at h; omega, by simp at h; omega, fun r0 h0 => ?_⟩, fun h => ?_⟩
    · have hd0 : m.headD [] = r0 := by cases m <;> simp at h0 ⊢; exact h0
      have hlen : 1 ≤ m.length ∧ m.length ≤ 4 := by simp at h; omega
      refine CallW.pure (spec_l01In_ok r0.length 1 4) [] rfl Try.call70 ?_ trivial rfl ?_
      · simp -implicitDefEqProofs only [vaR, go_sem, ints, rows]
      · simp -implicitDefEqProofs only [go_sem, evR, ints, rows, rat, rats]
        refine ⟨fun h1 => ?_, fun h1 => ?_⟩
        · have : isMat m = false := by
            simp only [isMat, hd0, Bool.and_eq_false_iff, decide_eq_false_iff_not]
            simp at h1; omega
          rw [this]
        · have hw : 1 ≤ r0.length ∧ r0.length ≤ 4 := by simp at h1; omega
          refine SemC.loopR (σ := Nat) (fun i => St.of [(0, .t (rows m)), (3, .t (.i i))] []) (fun i => i ≤ m.length ∧ ∀ r ∈ m.take i, rowOK r0.length r = true) (fun i => m.length - i) 0 (Weak.of _ [] [] (by simp) (by simp) ?_ trivial) ⟨by simp, by simp⟩ fun i hI R hn hr he => ?_
          · simp -implicitDefEqProofs only [ints, rows, wkR, Nat.reduceEqDiff, ↓reduceIte]
          · simp -implicitDefEqProofs only [go_sem, evR, ints, rows, rat, rats]
            refine ⟨fun h => ⟨by omega, by omega, by omega, fun r hrow => ⟨by omega, by omega, fun r0' h0' => ⟨fun h2 => hr _ ?_, fun h2 => ?_⟩⟩⟩, fun h => he _ _ ?_⟩
            · simp -implicitDefEqProofs only [go_sem, evR, ints, rows, rat, rats]
              rw [h0] at h0'; cases h0'
              have : isMat m = false := by
                simp only [isMat, hd0, Bool.and_eq_false_iff]
                right
                rw [List.all_eq_false]
                exact ⟨r, List.mem_of_getElem? hrow, by simp [rowOK]; intro h3; simp at h2; omega⟩
              rw [this]
            · rw [h0] at h0'; cases h0'
              have hrl : r.length = r0.length := by simp at h2; omega
              refine SemC.loopR (σ := Nat) (fun k => St.of [(0, .t (rows m)), (3, .t (.i i)), (4, .t (.i k))] []) (fun k => k ≤ r.length ∧ ∀ x ∈ r.take k, -20 ≤ x ∧ x ≤ 20) (fun k => r.length - k) 0 (Weak.of _ [] [] (by simp) (by simp) ?_ trivial) ⟨by simp, by simp⟩ fun k hK R2 hn2 hr2 he2 => ?_
              · simp -implicitDefEqProofs only [ints, rows, wkR, Nat.reduceEqDiff, ↓reduceIte]
              · simp -implicitDefEqProofs only [go_sem, evR, ints, rows, rat, rats]
                refine ⟨by omega, by omega, by omega, fun r' hr' => ?_⟩
                rw [hrow] at hr'; cases hr'
                refine ⟨fun h3 => ⟨by omega, by omega, by omega, fun r' hr' => ?_⟩, fun h3 => he2 _ _ ?_⟩
                · rw [hrow] at hr'; cases hr'
                  refine ⟨by omega, by omega, by omega, fun x hx => ?_⟩
                  refine CallW.pure (spec_l01In_ok x (-20) 20) [] rfl Try.call70 ?_ trivial rfl ?_
                  · simp -implicitDefEqProofs only [vaR, go_sem, ints, rows]
                  · simp -implicitDefEqProofs only [go_sem, evR, ints, rows, rat, rats]
                    refine ⟨fun h4 => hr2 _ ?_, fun h4 => hn2 _ (k + 1) (Weak.of _ [] [] (by simp) (by simp) ?_ trivial) ⟨by omega, take_succ_all hx hK.2 (by simpa using h4)⟩ (by omega)⟩
                    · simp -implicitDefEqProofs only [go_sem, evR, ints, rows, rat, rats]
                      refine hr _ ?_
                      simp -implicitDefEqProofs only [go_sem, evR, ints, rows, rat, rats]
                      have : isMat m = false := by
                        simp only [isMat, hd0, Bool.and_eq_false_iff]
                        right
                        rw [List.all_eq_false]
                        refine ⟨r, List.mem_of_getElem? hrow, ?_⟩
                        simp only [rowOK, Bool.and_eq_true, not_and, List.all_eq_true]
                        intro _ h5
                        have := h5 x (List.mem_of_getElem? hx)
                        rw [this] at h4
                        cases h4
                      rw [this]
                    · simp -implicitDefEqProofs only [ints, rows, wkR, Nat.reduceEqDiff, ↓reduceIte, next64 (by omega : k < r.length) (by omega)]
                · simp -implicitDefEqProofs only [go_sem, evR, ints, rows, rat, rats]
                  refine hn _ (i + 1) (Weak.of _ [] [] (by simp) (by simp) ?_ trivial) ⟨by omega, take_succ_all hrow hI.2 ?_⟩ (by omega)
                  · simp -implicitDefEqProofs only [ints, rows, wkR, Nat.reduceEqDiff, ↓reduceIte, next64 (by omega : i < m.length) (by omega)]
                  · simp only [rowOK, hrl, decide_true, Bool.true_and, List.all_eq_true, decide_eq_true_eq]
                    intro x hx
                    exact hK.2 x (by rw [List.take_of_length_le (by omega)]; exact hx)
            · simp -implicitDefEqProofs only [go_sem, evR, ints, rows, rat, rats]
              have : isMat m = true := by
                simp only [isMat, hd0, Bool.and_eq_true, decide_eq_true_eq, List.all_eq_true]
                refine ⟨⟨hlen, hw⟩, fun r hr' => hI.2 r ?_⟩
                rw [List.take_of_length_le (by omega)]; exact hr'
              rw [this]
    · have : isMat m = false := by
        simp only [isMat, Bool.and_eq_false_iff, decide_eq_false_iff_not]
        simp at h; omega
      simp [this]
end Go.Ab

/- Contracts: impl.IsMatrix. -/
set_option linter.unusedSimpArgs false
set_option linter.unusedVariables false
namespace Go.Ab
open Go.Proofs

theorem impl_IsMatrix_1_ok (m : List (List Int)) (r r0 : List Int) (h0 : m[0]? = some r0) (hr : r.length ≤ 1000000000000) : Pure Try.prog 68 [ints r, .pin [rows m] 0] (.b (!rowOK r0.length r)) := by
  refine fun_impl_IsMatrix_1 (by simp) ?_
  simp -implicitDefEqProofs only [c_impl_IsMatrix_1, go_sem, evR, ints, rows, rat, rats]
  have hlt : 0 < m.length := (List.getElem?_eq_some_iff.1 h0).1
  refine ⟨by omega, by omega, fun a ha => ?_⟩
  rw [h0] at ha; cases ha
  refine ⟨fun h => ?_, fun h => ?_⟩
  · have hl : r.length = r0.length := by simp at h; omega
    refine CallW.pure (impl_allWithin_ok r (-20) 20 hr) [] rfl Try.call69 ?_ trivial rfl ?_
    · simp -implicitDefEqProofs only [vaR, go_sem, ints, rows]
    · simp -implicitDefEqProofs only [go_sem, evR, ints, rows, rat, rats]
      simp [rowOK, hl]
  · have hl : r.length ≠ r0.length := by simp at h; omega
    simp [rowOK, hl]
end Go.Ab

/- Contracts: slices.IndexFunc, slices.ContainsFunc, impl.IsMatrix. -/
set_option linter.unusedSimpArgs false
set_option linter.unusedVariables false
namespace Go.Ab
open Go.Proofs

theorem vaL_self (S : St) (bor : List Nat) : ∀ l : List T, vaL S [] bor (l.map A.t) (l.map A.t) = True
  | [] => by simp [vaL]
  | x :: l => by simp only [List.map_cons, vaL, va, vt_self, vaL_self S bor l, and_self]

theorem slices_IndexFunc_ok (m : List (List Int)) (hm : (m.length : Int) ≤ 1000000000000) (f : Nat) (cap : List T) (p : List Int → Bool) (hcall : ∀ args w, (callFunc f args).run Try.prog w = .ok (.enter f args) w)
    (hf : ∀ r ∈ m, Pure Try.prog f (ints r :: cap) (.b (p r))) : Pure Try.prog 83 [rows m, .fn f cap] (.i (match m.findIdx? p with | some i => (i : Int) | none => -1)) := by
  refine fun_slices_IndexFunc_____int64___int64_ (by simp) ?_
  simp -implicitDefEqProofs only [c_slices_IndexFunc_____int64___int64_, go_sem, evR, ints, rows, rat, rats]
  refine SemC.loopR (σ := Nat) (fun i => St.of [(0, .t (rows m)), (1, .t (.fn f cap)), (6, .t (rows m)), (7, .t (.i m.length)), (8, .t (.i i))] []) (fun i => i ≤ m.length ∧ ∀ r ∈ m.take i, p r = false) (fun i => m.length - i) 0 (Weak.of _ [] [] (by simp) (by simp) ?_ trivial) ⟨by simp, by simp⟩ fun i hI R hn hr he => ?_
  · simp -implicitDefEqProofs only [ints, rows, wkR, Nat.reduceEqDiff, ↓reduceIte]
  · simp -implicitDefEqProofs only [go_sem, evR, ints, rows, rat, rats]
    refine ⟨fun h => ⟨by omega, by omega, by omega, fun r hrow => ?_⟩, fun h => he _ _ ?_⟩
    · refine CallW.pure (hf r (List.mem_of_getElem? hrow)) [] rfl hcall ?_ trivial rfl ?_
      · simp only [List.map_cons, List.map_nil, List.cons_append, List.nil_append, vaL, va, vaL_self, and_true]
        simp -implicitDefEqProofs only [vaR, go_sem, ints, rows]
      · simp -implicitDefEqProofs only [go_sem, evR, ints, rows, rat, rats]
        refine ⟨fun h1 => hr _ ?_, fun h1 => hn _ (i + 1) (Weak.of _ [] [] (by simp) (by simp) ?_ trivial) ⟨by omega, take_succ_all hrow hI.2 h1⟩ (by omega)⟩
        · simp -implicitDefEqProofs only [go_sem, evR, ints, rows, rat, rats]
          have : m.findIdx? p = some i := by
            obtain ⟨hi, rfl⟩ := List.getElem?_eq_some_iff.1 hrow
            rw [List.findIdx?_eq_some_iff_getElem]
            exact ⟨hi, h1, fun j hj => by simpa using hI.2 m[j] (List.mem_take_iff_getElem.2 ⟨j, by omega, rfl⟩)⟩
          rw [this]
        · simp -implicitDefEqProofs only [ints, rows, wkR, Nat.reduceEqDiff, ↓reduceIte, next64 (by omega : i < m.length) (by omega)]
    · simp -implicitDefEqProofs only [go_sem, evR, ints, rows, rat, rats]
      have : m.findIdx? p = none := by
        rw [List.findIdx?_eq_none_iff]
        intro r hr'
        exact hI.2 r (by rw [List.take_of_length_le (by omega)]; exact hr')
      rw [this]

theorem slices_ContainsFunc_ok (m : List (List Int)) (hm : (m.length : Int) ≤ 1000000000000) (f : Nat) (cap : List T) (p : List Int → Bool) (hcall : ∀ args w, (callFunc f args).run Try.prog w = .ok (.enter f args) w)
    (hf : ∀ r ∈ m, Pure Try.prog f (ints r :: cap) (.b (p r))) : Pure Try.prog 65 [rows m, .fn f cap] (.b (m.any p)) := by
  refine fun_slices_ContainsFunc_____int64___int64_ (by simp) ?_
  simp -implicitDefEqProofs only [c_slices_ContainsFunc_____int64___int64_, go_sem, evR, ints, rows, rat, rats]
  refine CallW.pure (slices_IndexFunc_ok m hm f cap p hcall hf) [] rfl Try.call83 ?_ trivial rfl ?_
  · simp -implicitDefEqProofs only [vaR, go_sem, ints, rows]
  · simp -implicitDefEqProofs only [go_sem, evR, ints, rows, rat, rats]
    rw [← List.findIdx?_isSome]
    cases m.findIdx? p <;> simp
end Go.Ab
