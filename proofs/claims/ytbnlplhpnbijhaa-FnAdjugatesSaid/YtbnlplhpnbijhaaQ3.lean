/- The bridge, part 1: what an argument reads as, by its type. -/
import Derived.Deep.Slices
import Derived.Deep.OwnRows
import Derived.DataReads
import Derived.WideKeyArgs
import Derived.WideShapes
import Derived.ChangeShapes
import Derived.ProofKit
import Derived.OpenShut
import Derived.JoinedOf
import Derived.Handed
import Derived.RowKit
import Derived.Test.YtbnlplhpnbijhaaRows
import Derived.Shelf.SlicesE.Delete
import Derived.Test.YtbnlplhpnbijhaaProg
import Derived.Test.YtbnlplhpnbijhaaQ2
set_option linter.unusedSimpArgs false
set_option linter.unusedVariables false
namespace Go.Ab

inductive Ty where
  | int (k : IntKind)
  | bool
  | str
  | sl (s : Nat) (e : Ty)
  | st (f : Ty)
  | nil
  | cons (a r : Ty)

/-- The cells l are of the type. -/
def Ty.wt : Ty → List T → Prop
  | .int k, l => ∃ n, l = [.v (.int k n)] ∧ (Lit.int k n).wf = true
  | .bool, l => ∃ b, l = [.v (.bool b)]
  | .str, l => ∃ s, l = [.v (.string s)] ∧ s.size ≤ maxLen
  | .sl s e, l => ∃ xs : List (List T), l = [.sh s xs.flatten] ∧ xs.length ≤ maxLen ∧ ∀ x ∈ xs, x.length = s ∧ e.wt x
  | .st f, l => f.wt l
  | .nil, l => l = []
  | .cons a r, l => ∃ l1 l2, l = l1 ++ l2 ∧ a.wt l1 ∧ r.wt l2

/-- The tree t is a value of the type. -/
def Ty.wtV : Ty → T → Prop
  | .st f, t => ∃ l, t = .agg l ∧ f.wt l
  | ty, t => ty.wt [t]

mutual
def Ty.fits (P : Program) : Ty → TypeId → Bool
  | .int k, t => (match P.underlying t with | some (.int k') => decide (k' = k) | _ => false)
  | .bool, t => (match P.underlying t with | some .bool => true | _ => false)
  | .str, t => (match P.underlying t with | some .string => true | _ => false)
  | .sl s e, t => (match P.underlying t with | some (.slice et) => decide (P.cellsOf et = s) && decide (0 < s) && e.fits P et | _ => false)
  | .st f, t => (match P.underlying t with | some (.struct fs) => f.fitsF P (P.cellsOf t) 0 fs.toList | _ => false)
  | .nil, _ => false
  | .cons _ _, _ => false
def Ty.fitsF (P : Program) : Ty → Nat → Nat → List Field → Bool
  | .nil, n, o, [] => decide (o = n)
  | .cons a r, n, o, f :: fs => decide (f.offset = o) && a.fits P f.type && r.fitsF P n (o + P.cellsOf f.type) fs
  | _, _, _, _ => false
end

section
variable {H : Type} {enc : TypeId × Value → H} {P : Program} {w : World} {base : Nat} {spare : Nat → Bool} {held : Bool}

theorem cell_block {a : Addr} {v : Value} (h : w.cell? a = some v) : a.spot = none ∧ ∃ cs e fz, w.heap[a.block]? = some (.cells cs e fz) ∧ cs[a.off]? = some v := by
  unfold World.cell? at h
  split at h
  · rename_i c e fz hc
    split at h
    · cases h
    · rename_i hs
      exact ⟨by simpa using hs, c, e, fz, hc, h⟩
  · cases h

theorem add_block (a : Addr) (i : Nat) : (a.add i).block = a.block := by
  unfold Addr.add; split <;> rfl
theorem add_off (a : Addr) (i : Nat) : (a.add i).off = a.off + i := by
  unfold Addr.add; split
  · rename_i h; subst h; rfl
  · rfl

theorem getD_some {vs : List Value} {i : Nat} {v : Value} (h : vs[i]? = some v) : vs.getD i undef = v := by
  rw [List.getD_eq_getElem?_getD, h]; rfl

theorem Ty.read (O : Nat → Prop) (hO : ∀ b, ¬ O b) : ∀ (ty : Ty),
    (∀ (t : TypeId) (fuel : Nat) (cs : List Value) (x : DataW H × List MemPlace), ty.fits P t = true → DataW.trod enc P w base (fun _ => true) held fuel t cs = some x →
      ∃ l, ty.wt l ∧ l.length = cs.length ∧ ∀ i (h : i < l.length), Rd w O l[i] (cs.getD i undef)) ∧
    (∀ (n o : Nat) (fs : List Field) (fuel : Nat) (cs : List Value), ty.fitsF P n o fs = true → cs.length = n →
      (∀ f ∈ fs, ∃ x, DataW.trod enc P w base (fun _ => true) held fuel f.type ((cs.drop f.offset).take (P.cellsOf f.type)) = some x) →
      ∃ l, ty.wt l ∧ l.length = n - o ∧ (∀ i (h : i < l.length), Rd w O l[i] ((cs.drop o).getD i undef))) := by
  have one : ∀ (v : Value), ∀ i (h : i < [T.v v].length), Rd w O [T.v v][i] ([v].getD i undef) := fun v i h => by
    have : i = 0 := by simpa using h
    subst this; exact .v v
  intro ty
  induction ty with
  | int k =>
    refine ⟨fun t fuel cs x hf h => ?_, fun n o fs fuel cs hf => by simp [Ty.fitsF] at hf⟩
    simp only [Ty.fits] at hf
    split at hf
    · rename_i k' ht
      have : k' = k := by simpa using hf
      subst this
      obtain ⟨n, rfl, _, hw⟩ := DataW.trod_int ht h
      exact ⟨_, ⟨n, rfl, hw⟩, rfl, one _⟩
    · cases hf
  | bool =>
    refine ⟨fun t fuel cs x hf h => ?_, fun n o fs fuel cs hf => by simp [Ty.fitsF] at hf⟩
    simp only [Ty.fits] at hf
    split at hf
    · rename_i ht
      obtain ⟨n, rfl, _⟩ := DataW.trod_bool ht h
      exact ⟨_, ⟨n, rfl⟩, rfl, one _⟩
    · cases hf
  | str =>
    refine ⟨fun t fuel cs x hf h => ?_, fun n o fs fuel cs hf => by simp [Ty.fitsF] at hf⟩
    simp only [Ty.fits] at hf
    split at hf
    · rename_i ht
      obtain ⟨n, rfl, _, hw⟩ := DataW.trod_string ht h
      exact ⟨_, ⟨n, rfl, hw⟩, rfl, one _⟩
    · cases hf
  | sl s e ih =>
    refine ⟨fun t fuel cs x hf h => ?_, fun n o fs fuel cs hf => by simp [Ty.fitsF] at hf⟩
    simp only [Ty.fits] at hf
    split at hf
    · rename_i et ht
      simp only [Bool.and_eq_true, decide_eq_true_eq] at hf
      obtain ⟨⟨hs, hs0⟩, hfe⟩ := hf
      have single : ∀ (t : T) (v : Value), Rd w O t v → ∀ i (h : i < [t].length), Rd w O [t][i] ([v].getD i undef) := fun t v hr i h => by
        have : i = 0 := by simpa using h
        subst this; exact hr
      rcases Deep.open_slice ht h with ⟨rfl, _⟩ | ⟨a, len, cap, m, n, D, Pl, rfl, hb, hl, hm, hmm, _, hx⟩
      · exact ⟨_, ⟨[], rfl, Nat.zero_le _, by simp⟩, rfl, single _ _ (.shNil s)⟩
      · simp only [if_true] at hmm
        subst hmm
        have each : ∀ i, i < len → ∃ y : List T × List Value, w.cells? base (a.add (i * s)) s = some y.2 ∧ e.wt y.1 ∧ y.1.length = s ∧ ∀ j (h : j < y.1.length), Rd w O y.1[j] (y.2.getD j undef) := by
          intro i hi
          obtain ⟨cs', h1, h2⟩ := hx i (by omega)
          rw [hs] at h1
          obtain ⟨l, hwt, hlen, hr⟩ := ih.1 _ _ _ _ hfe h2
          exact ⟨(l, cs'), h1, hwt, hlen.trans (World.cells?_some h1).2.1, hr⟩
        obtain ⟨y, hy⟩ := Deep.choose_lt each
        rcases Nat.eq_zero_or_pos len with h0 | h0
        · subst h0
          exact ⟨_, ⟨[], rfl, Nat.zero_le _, by simp⟩, rfl, single _ _ (.shZ s a _)⟩
        · -- the block
          have cell : ∀ i j, i < len → j < s → w.cell? ((a.add (i * s)).add j) = some ((y i).2.getD j undef) := fun i j hi hj => by
            obtain ⟨h1, hwt, hlen, hr⟩ := hy i hi
            obtain ⟨_, h2, h3⟩ := World.cells?_some h1
            rw [h3 j hj, List.getD_eq_getElem?_getD, List.getElem?_eq_getElem (by omega)]; rfl
          have hfirst := cell 0 0 h0 hs0
          rw [Nat.zero_mul] at hfirst
          obtain ⟨hsp, cs, ee, fz, hblk, _⟩ := cell_block hfirst
          rw [add_block, add_block] at hblk
          have at' : ∀ i j, i < len → j < s → cs[a.off + i * s + j]? = some ((y i).2.getD j undef) := fun i j hi hj => by
            obtain ⟨_, cs2, e2, fz2, h1, h2⟩ := cell_block (cell i j hi hj)
            rw [add_block, add_block, hblk] at h1
            simp only [Option.some.injEq, Obj.cells.injEq] at h1
            rw [add_off, add_off, ← h1.1] at h2
            exact h2
          have hsp' : a.spot = none := by
            unfold Addr.add at hsp
            simpa using hsp
          obtain ⟨b, off, sp⟩ := a
          simp only at hsp' hblk at'
          subst hsp'
          have hfl : ∀ i, i ≤ len → (((List.range i).map fun i => (y i).1).flatten).length = i * s := fun i => by
            induction i with
            | zero => intro _; simp
            | succ i ihi =>
              intro hi
              rw [List.range_succ, List.map_append, List.flatten_append, List.length_append, ihi (by omega)]
              simp only [List.map_cons, List.map_nil, List.flatten_cons, List.flatten_nil, List.append_nil, (hy i (by omega)).2.2.1, Nat.succ_mul]
          refine ⟨[.sh s ((List.range len).map fun i => (y i).1).flatten], ⟨_, rfl, by simp; exact Nat.le_trans hl hm, fun x hx => ?_⟩, rfl, single _ _ ?_⟩
          · obtain ⟨i, hi, rfl⟩ := List.mem_map.1 hx
            have := hy i (by simpa using hi)
            exact ⟨this.2.2.1, this.2.1⟩
          · have hlast := at' (len - 1) (s - 1) (by omega) (by omega)
            obtain ⟨hlt, _⟩ := Array.getElem?_eq_some_iff.1 hlast
            have hmul : (len - 1) * s + s = len * s := by rw [← Nat.succ_mul]; congr 1; omega
            refine .sh s _ b off len _ cs ee fz (hO b) hblk (by rw [hfl len (Nat.le_refl _)]; omega) (hfl len (Nat.le_refl _)) hl fun k hk => ?_
            rw [hfl len (Nat.le_refl _)] at hk
            have hi : k / s < len := Nat.div_lt_of_lt_mul (by rw [Nat.mul_comm]; exact hk)
            have hj : k % s < s := Nat.mod_lt _ hs0
            have hk' : k / s * s + k % s = k := by rw [Nat.mul_comm]; exact Nat.div_add_mod k s
            have e1 : (((List.range len).map fun i => (y i).1).flatten)[k]? = (y (k / s)).1[k % s]? := by
              have hsplit : ∃ rest, List.range len = List.range (k / s) ++ (k / s) :: rest := by
                refine ⟨((List.range (len - k / s - 1)).map Nat.succ).map (k / s + ·), ?_⟩
                have h1 : List.range (k / s + (len - k / s)) = List.range (k / s) ++ (List.range (len - k / s)).map (k / s + ·) := List.range_add
                rw [show k / s + (len - k / s) = len by omega] at h1
                have h2 : List.range (len - k / s) = 0 :: (List.range (len - k / s - 1)).map Nat.succ := by
                  rw [← List.range_succ_eq_map]; congr 1; omega
                rw [h1, h2]; rfl
              obtain ⟨rest, hsplit⟩ := hsplit
              rw [hsplit, List.map_append, List.flatten_append, List.getElem?_append_right (by rw [hfl _ (Nat.le_of_lt hi)]; omega), hfl _ (Nat.le_of_lt hi), List.map_cons, List.flatten_cons,
                List.getElem?_append_left (by rw [(hy _ hi).2.2.1]; omega)]
              congr 1; omega
            have hjl : k % s < (y (k / s)).1.length := by rw [(hy _ hi).2.2.1]; exact hj
            have hget : (((List.range len).map fun i => (y i).1).flatten)[k]'(by rw [hfl len (Nat.le_refl _)]; exact hk) = (y (k / s)).1[k % s] := by
              have h1 := List.getElem?_eq_getElem (l := ((List.range len).map fun i => (y i).1).flatten) (i := k) (by rw [hfl len (Nat.le_refl _)]; exact hk)
              rw [e1, List.getElem?_eq_getElem hjl] at h1
              exact (Option.some.inj h1).symm
            rw [hget]
            have hc := at' (k / s) (k % s) hi hj
            rw [Nat.add_assoc, hk'] at hc
            have : cs.getD (off + k) undef = (y (k / s)).2.getD (k % s) undef := by rw [Array.getD_eq_getD_getElem?, hc]; rfl
            rw [this]
            exact (hy _ hi).2.2.2 _ hjl
    · cases hf
  | st f ih =>
    refine ⟨fun t fuel cs x hf h => ?_, fun n o fs fuel cs hf => by simp [Ty.fitsF] at hf⟩
    simp only [Ty.fits] at hf
    split at hf
    · rename_i fs ht
      obtain ⟨xs, n, rfl, _, hlen, hxl, hx⟩ := DataW.trod_struct ht h
      obtain ⟨l, hwt, hl, hr⟩ := ih.2 _ _ _ n cs hf hlen (fun f hf' => by
        obtain ⟨i, hi, rfl⟩ := List.mem_iff_getElem.1 hf'
        have h1 := hx i fs.toList[i] (by simp only [Array.length_toList] at hi; simp [hi])
        have hi' : i < xs.length := by rw [hxl]; simpa using hi
        rw [List.getElem?_eq_getElem hi'] at h1
        exact ⟨_, h1⟩)
      exact ⟨l, hwt, by omega, by simpa using hr⟩
    · cases hf
  | nil =>
    refine ⟨fun t fuel cs x hf h => by simp [Ty.fits] at hf, fun n o fs fuel cs hf hn _ => ?_⟩
    cases fs with
    | cons f fs => simp [Ty.fitsF] at hf
    | nil =>
      have : o = n := by simpa [Ty.fitsF] using hf
      exact ⟨[], rfl, by simp; omega, fun i h => absurd h (by simp)⟩
  | cons a r iha ihr =>
    refine ⟨fun t fuel cs x hf h => by simp [Ty.fits] at hf, fun n o fs fuel cs hf hn hx => ?_⟩
    cases fs with
    | nil => simp [Ty.fitsF] at hf
    | cons f fs =>
      simp only [Ty.fitsF, Bool.and_eq_true, decide_eq_true_eq] at hf
      obtain ⟨⟨rfl, hfa⟩, hfr⟩ := hf
      obtain ⟨x, h1⟩ := hx f (by simp)
      obtain ⟨l1, hw1, hl1, hr1⟩ := iha.1 _ _ _ _ hfa h1
      obtain ⟨l2, hw2, hl2, hr2⟩ := ihr.2 _ _ _ fuel cs hfr hn (fun g hg => hx g (by simp [hg]))
      simp only [List.length_take, List.length_drop] at hl1
      refine ⟨l1 ++ l2, ⟨l1, l2, rfl, hw1, hw2⟩, by rw [List.length_append]; omega, fun i h => ?_⟩
      by_cases hi : i < l1.length
      · rw [List.getElem_append_left hi]
        have := hr1 i hi
        rwa [List.getD_eq_getElem?_getD, List.getElem?_take_of_lt (by omega), ← List.getD_eq_getElem?_getD] at this
      · rw [List.getElem_append_right (by omega)]
        have := hr2 (i - l1.length) (by rw [List.length_append] at h; omega)
        rw [List.getD_eq_getElem?_getD, List.getElem?_drop] at this ⊢
        rw [List.length_append] at h
        rwa [show f.offset + P.cellsOf f.type + (i - l1.length) = f.offset + i by omega] at this
end
end Go.Ab

/- The bridge, part 2: a law that is a contract is a law of the row's form. -/
set_option linter.unusedSimpArgs false
set_option linter.unusedVariables false
namespace Go.Ab
open Go.ChangeShapes Go.WideShapes Go.ChangeAt Go.RowKit

def fitsL (P : Program) : List Ty → List TypeId → Bool
  | [], [] => true
  | ty :: tys, t :: ts => ty.fits P t && decide (t < P.types.size) && P.readableRec t && fitsL P tys ts
  | _, _ => false
def wtL : List Ty → List T → Prop
  | [], [] => True
  | ty :: tys, x :: xs => ty.wtV x ∧ wtL tys xs
  | _, _ => False

section
variable {H : Type} {enc : TypeId × Value → H} {P : Program} {w : World} {base : Nat} {held : Bool}

theorem Ty.readV (O : Nat → Prop) (hO : ∀ b, ¬ O b) {ty : Ty} {t : TypeId} {v : Value} {d : DataW H} {ps : List MemPlace} {w' : World} {r : Reach} {b0 : Nat} (hf : ty.fits P t = true) (hok : Value.okWide P w' r b0 t v)
    (h : DataW.Trod enc P w base (fun _ => true) held t v d ps) : ∃ x, ty.wtV x ∧ Rd w O x v := by
  obtain ⟨fuel, h⟩ := h
  obtain ⟨l, hwt, hl, hr⟩ := (Ty.read (P := P) O hO ty).1 t fuel _ _ hf h
  have single : v.cells = #[v] → ∀ x : T, l = [x] → Rd w O x v := fun hc x hx => by
    subst hx
    have := hr 0 (by simp)
    rw [hc] at this
    exact this
  cases ty with
  | int k =>
    simp only [Ty.fits] at hf
    split at hf
    · rename_i k' ht
      obtain ⟨n, rfl⟩ := okWide_int ht hok
      obtain ⟨m, rfl, hw⟩ := hwt
      exact ⟨_, ⟨m, rfl, hw⟩, single rfl _ rfl⟩
    · cases hf
  | bool =>
    simp only [Ty.fits] at hf
    split at hf
    · rename_i ht
      obtain ⟨n, rfl⟩ := okWide_bool ht hok
      obtain ⟨m, rfl⟩ := hwt
      exact ⟨_, ⟨m, rfl⟩, single rfl _ rfl⟩
    · cases hf
  | str =>
    simp only [Ty.fits] at hf
    split at hf
    · rename_i ht
      obtain ⟨n, rfl⟩ := okWide_string ht hok
      obtain ⟨m, rfl, hw⟩ := hwt
      exact ⟨_, ⟨m, rfl, hw⟩, single rfl _ rfl⟩
    · cases hf
  | sl s e =>
    simp only [Ty.fits] at hf
    split at hf
    · rename_i et ht
      obtain ⟨a, len, cap, rfl⟩ := okWide_slice ht hok
      obtain ⟨m, rfl, hw⟩ := hwt
      exact ⟨_, ⟨m, rfl, hw⟩, single rfl _ rfl⟩
    · cases hf
  | st f =>
    simp only [Ty.fits] at hf
    split at hf
    · rename_i fs ht
      simp only [Value.okWide, ht] at hok
      obtain ⟨cs, rfl, _, _⟩ := hok
      refine ⟨.agg l, ⟨l, rfl, hwt⟩, ?_⟩
      have := Rd.agg (w := w) (O := O) l cs.toList (by rw [hl]; rfl) hr
      simpa using this
    · cases hf
  | nil => simp [Ty.fits] at hf
  | cons a r => simp [Ty.fits] at hf

theorem args_read (O : Nat → Prop) (hO : ∀ b, ¬ O b) {w' : World} {r : Reach} {b0 : Nat} : ∀ {tys : List Ty} {ts : List TypeId} {vs : List Value} {ds : List (DataW H)} {ps : List MemPlace}, fitsL P tys ts = true →
    DataW.TrodAll enc P w base (fun _ => true) held ts vs ds ps → (∀ (j : Nat) (t : TypeId) (v : Value), ts[j]? = some t → vs[j]? = some v → Value.okWide P w' r b0 t v) →
    ∃ xs, wtL tys xs ∧ vs.length = xs.length ∧ ds.length = tys.length ∧ ∀ i (h : i < xs.length), Rd w O xs[i] (vs.getD i undef)
  | [], [], vs, ds, ps, _, h, _ => by
    cases vs <;> cases ds <;> simp only [DataW.TrodAll] at h
    exact ⟨[], trivial, rfl, rfl, fun i h => absurd h (by simp)⟩
  | [], _ :: _, vs, ds, ps, hf, h, _ => by simp [fitsL] at hf
  | _ :: _, [], vs, ds, ps, hf, h, _ => by simp [fitsL] at hf
  | ty :: tys, t :: ts, vs, ds, ps, hf, h, hok => by
    simp only [fitsL, Bool.and_eq_true] at hf
    cases vs with
    | nil => simp [DataW.TrodAll] at h
    | cons v vs =>
      cases ds with
      | nil => simp [DataW.TrodAll] at h
      | cons d ds =>
        obtain ⟨p, q, h1, h2, _⟩ := h
        obtain ⟨x, hx, hr⟩ := Ty.readV O hO hf.1.1.1 (hok 0 t v rfl rfl) h1
        obtain ⟨xs, hxs, hl, hd, hrs⟩ := args_read O hO hf.2 h2 (fun j t v h1 h2 => hok (j + 1) t v (by simpa using h1) (by simpa using h2))
        refine ⟨x :: xs, ⟨hx, hxs⟩, by simp [hl], by simp [hd], fun i hi => ?_⟩
        cases i with
        | zero => exact hr
        | succ i => simpa [List.getD_eq_getElem?_getD] using hrs i (by simpa using hi)

theorem args_stay {w w' : World} {sp : Nat → Bool} (hl : laidOutB P = true) : ∀ {tys : List Ty} {ts : List TypeId} {vs : List Value} {ds : List (DataW H)} {ps : List MemPlace}, fitsL P tys ts = true →
    DataW.TrodAll enc P w base (fun _ => true) true ts vs ds ps → (∀ p ∈ ps, w.sameAt w' p ∧ sp p.block = true) → DataW.TrodAll enc P w' base sp true ts vs ds ps
  | [], [], vs, ds, ps, _, h, _ => by
    cases vs <;> cases ds <;> simp only [DataW.TrodAll] at h ⊢
    exact h
  | [], _ :: _, vs, ds, ps, hf, h, _ => by simp [fitsL] at hf
  | _ :: _, [], vs, ds, ps, hf, h, _ => by simp [fitsL] at hf
  | ty :: tys, t :: ts, vs, ds, ps, hf, h, hs => by
    simp only [fitsL, Bool.and_eq_true, decide_eq_true_eq] at hf
    cases vs with
    | nil => simp [DataW.TrodAll] at h
    | cons v vs =>
      cases ds with
      | nil => simp [DataW.TrodAll] at h
      | cons d ds =>
        obtain ⟨p, q, h1, h2, rfl⟩ := h
        exact ⟨p, q, WideElems.Trod_stays hl hf.1.2 hf.1.1.2 h1 (fun x hx => (hs x (by simp [hx])).1) (fun x hx => (hs x (by simp [hx])).2), args_stay hl hf.2 h2 (fun x hx => hs x (by simp [hx])), rfl⟩

/-- The contract that a row's builder asks for. -/
theorem law_contract {f : FuncId} {fn : Func} {s : ChangeSpec} {tys : List Ty} {tb : TypeId} {apart fresh handsOn : Bool} (hlaid : laidOutB P = true) (hfit : fitsL P tys fn.params.toList = true) (hres : fn.resultTypes = #[tb]) (hbool : P.underlying tb = some .bool)
    (hvars : s.vars = []) (hspec : ∀ (ds : List (DataW H)), ds.length = tys.length → s.fn H ds = { results := [.lit (.bool true)], args := ds }) (hF : ∀ xs, wtL tys xs → Pure P f xs (.b true))
    (W : World) (base : Nat) (args : Array Value) (ds gs : List (DataW H)) (before : List MemPlace) (hval : ∀ (j : Nat) t v, fn.params[j]? = some t → args[j]? = some v → Value.okWide P W .any base t v)
    (hW : DataW.Whole enc P fn.params.toList s.vars apart W args.toList ds gs before) : Calls P f args W fun e W' => ∃ v, e = .returned v ∧ s.post enc P fn apart fresh handsOn false W args v W' := by
  have hW' := hW
  obtain ⟨p, q, hA, hV, rfl, hfz, hnd⟩ := hW
  rw [hvars] at hV
  have hV' := hV
  cases gs with
  | cons _ _ => simp [DataW.TrodVars] at hV
  | nil =>
    simp only [DataW.TrodVars] at hV
    subst hV
    obtain ⟨xs, hwt, hlen, hdl, hr⟩ := args_read (P := P) (fun _ => False) (fun _ h => h) hfit hA (fun j t v h1 h2 => hval j t v (by simpa using h1) (by simpa using h2))
    have hlt : ∀ x ∈ p, x.block < W.heap.size := fun x hx => hW'.lt x (by simp [hx])
    have mem : Mem (fun _ => False) W [] (fun _ => none) (fun _ => []) := ⟨fun i t h => by simp at h, fun _ _ => ⟨rfl, rfl⟩, fun _ _ b h => by simp at h, fun _ => by simp, fun _ b h => by simp at h, fun _ h => h.elim, fun _ _ h => by cases h⟩
    have hO : ∀ b, ¬ Ob (fun _ => False) (fun _ => []) b := fun b h => by
      rcases h with h | ⟨r, h⟩
      · exact h
      · simp at h
    have hc := hF xs hwt _ W args.toList _ _ mem (by simpa using hlen) (fun i h => by
      have hi : i < xs.length := by simpa using h
      rw [List.getElem_map]
      exact .t ((hr i hi).mono (fun _ _ _ _ _ h => h) (fun b _ _ => hO b)))
    simp only [Array.toArray_toList] at hc
    refine hc.mono ?_
    rintro e W' ⟨v, res, rout, fr, fp', rfl, ⟨rfl, rfl⟩, _, out⟩
    have hv : v = .bool true := by
      cases out.res with
      | rd h => cases h; rfl
    subst hv
    have hs : W.Since W.heap.size W' := ⟨out.os, out.tape, out.output, out.size, fun b hb => out.frame b hb (fun j h => by simp at h)⟩
    refine ⟨_, rfl, ds, [], p ++ [], [], p, [], hW', ?_, ?_, ?_, hs.frame _, fun h => by cases h⟩
    · rw [List.append_nil, hspec ds hdl, hres]
      exact trodAll_cons_mk (shut_bool hbool _) trodAll_mk0
    · rw [List.append_nil, hspec ds hdl]
      exact args_stay hlaid hfit hA fun x hx => ⟨hs.sameAt (hlt x hx), by simpa using hlt x hx⟩
    · rw [List.append_nil, hspec ds hdl, hvars]
      exact hV'
end
end Go.Ab

/- The abstract layer, part 21: rows and matrices as data; small facts for the walks. -/
set_option linter.unusedSimpArgs false
set_option linter.unusedVariables false
namespace Go.Ab

/-- A row that is only read, and a matrix. -/
def ints (l : List Int) : T := .sh 1 (l.map T.i)
def rows (m : List (List Int)) : T := .sh 1 (m.map ints)
/-- The same, owned. -/
def intsO (l : List Int) : T := .arr 1 (l.map T.i)
def rowsO (m : List (List Int)) : T := .arr 1 (m.map intsO)

/-- A ratio. -/
def rat (r : Int × Int) : T := .agg [T.i r.1, T.i r.2]

/-- Lists of ratios. -/
def ratC (l : List (Int × Int)) : List T := l.flatMap fun r => [T.i r.1, T.i r.2]
def rats (l : List (Int × Int)) : T := .sh 2 (ratC l)
def ratsO (l : List (Int × Int)) : T := .arr 2 (ratC l)
theorem ratC_nil : ratC [] = [] := rfl
theorem ratC_cons (r : Int × Int) (l : List (Int × Int)) : ratC (r :: l) = T.i r.1 :: T.i r.2 :: ratC l := rfl
theorem ratC_append (l l' : List (Int × Int)) : ratC (l ++ l') = ratC l ++ ratC l' := by simp [ratC]
theorem ratC_length : ∀ l : List (Int × Int), (ratC l).length = l.length * 2
  | [] => rfl
  | r :: l => by rw [ratC_cons]; simp [ratC_length l]; omega
theorem ratC_div (l : List (Int × Int)) : (ratC l).length / 2 = l.length := by rw [ratC_length]; omega
theorem ratC_drop : ∀ (l : List (Int × Int)) (i : Nat), (ratC l).drop (i * 2) = ratC (l.drop i)
  | l, 0 => by simp
  | [], i + 1 => by simp [ratC]
  | r :: l, i + 1 => by rw [ratC_cons, show (i + 1) * 2 = i * 2 + 1 + 1 by omega, List.drop_succ_cons, List.drop_succ_cons, ratC_drop l i]; rfl
theorem ratC_take : ∀ (l : List (Int × Int)) (i : Nat), (ratC l).take (i * 2) = ratC (l.take i)
  | l, 0 => by simp [ratC]
  | [], i + 1 => by simp [ratC]
  | r :: l, i + 1 => by rw [ratC_cons, show (i + 1) * 2 = i * 2 + 1 + 1 by omega, List.take_succ_cons, List.take_succ_cons, ratC_take l i]; rfl
theorem ratC_at {l : List (Int × Int)} {i : Nat} {r : Int × Int} (h : l[i]? = some r) : ((ratC l).drop (i * 2)).take 2 = [T.i r.1, T.i r.2] := by
  obtain ⟨hi, rfl⟩ := List.getElem?_eq_some_iff.1 h
  rw [ratC_drop, List.drop_eq_getElem_cons hi, ratC_cons]; rfl
theorem ratC_get1 {l : List (Int × Int)} {i : Nat} {r : Int × Int} (h : l[i]? = some r) : (ratC l)[i * 2]? = some (T.i r.1) := by
  have := congrArg (·[0]?) (ratC_at h)
  simpa [List.getElem?_take, List.getElem?_drop] using this
theorem ratC_get2 {l : List (Int × Int)} {i : Nat} {r : Int × Int} (h : l[i]? = some r) : (ratC l)[i * 2 + 1]? = some (T.i r.2) := by
  have := congrArg (·[1]?) (ratC_at h)
  simpa [List.getElem?_take, List.getElem?_drop] using this
theorem toShL_ratC : ∀ l : List (Int × Int), T.toShL (ratC l) = ratC l
  | [] => rfl
  | r :: l => by rw [ratC_cons, T.toShL, T.toShL, toShL_ratC l]; rfl
theorem ratC_all_cell (l : List (Int × Int)) : (ratC l).all T.cell = true := by
  rw [List.all_eq_true]; intro t ht; obtain ⟨x, _, h⟩ := List.mem_flatMap.1 ht
  rcases List.mem_cons.1 h with rfl | h
  · rfl
  · rcases List.mem_cons.1 h with rfl | h
    · rfl
    · cases h
theorem ratC_all_flat (l : List (Int × Int)) : (ratC l).all T.flat = true := by
  rw [List.all_eq_true]; intro t ht; obtain ⟨x, _, h⟩ := List.mem_flatMap.1 ht
  rcases List.mem_cons.1 h with rfl | h
  · rfl
  · rcases List.mem_cons.1 h with rfl | h
    · rfl
    · cases h
theorem ratsO_toSh (l : List (Int × Int)) : (ratsO l).toSh = rats l := by simp only [ratsO, rats, T.toSh, toShL_ratC]
theorem ratsO_noSh (l : List (Int × Int)) : (ratsO l).noSh := by
  simp only [ratsO, T.noSh]
  rw [T.noShL_iff]
  intro t ht; obtain ⟨x, _, h⟩ := List.mem_flatMap.1 ht
  rcases List.mem_cons.1 h with rfl | h
  · trivial
  · rcases List.mem_cons.1 h with rfl | h
    · trivial
    · cases h
theorem absT_ratsO (d k : Nat) (m : List (Int × Int)) : absT d k (ratsO m) = (.own (rid d k), [(rid d k, ratsO m)], k + 1) := rfl
theorem rootOf_intsO (l : List Int) : rootOf (intsO l) = .live (intsO l) [] := rfl
theorem rootOf_rowsO (l : List (List Int)) : rootOf (rowsO l) = .live (rowsO l) [] := rfl
theorem rootOf_ratsO (l : List (Int × Int)) : rootOf (ratsO l) = .live (ratsO l) [] := rfl
attribute [go_sem] ratC_div ratC_all_cell ratC_all_flat absT_ratsO rootOf_intsO rootOf_rowsO rootOf_ratsO rootOf_arr rootOf_box rootOf_any

theorem all_cell_ints (l : List Int) : (l.map T.i).all T.cell = true := by
  rw [List.all_eq_true]; intro t ht; obtain ⟨x, _, rfl⟩ := List.mem_map.1 ht; rfl
theorem all_flat_ints (l : List Int) : (l.map T.i).all T.flat = true := by
  rw [List.all_eq_true]; intro t ht; obtain ⟨x, _, rfl⟩ := List.mem_map.1 ht; rfl
theorem all_cell_intsO (m : List (List Int)) : (m.map intsO).all T.cell = true := by
  rw [List.all_eq_true]; intro t ht; obtain ⟨x, _, rfl⟩ := List.mem_map.1 ht; rfl

theorem wrap64 {n : Int} (h : -9223372036854775808 ≤ n) (h' : n < 9223372036854775808) : IntKind.i64.wrap n = n := by
  simp [IntKind.wrap, IntKind.bits, IntKind.signed]
  omega
theorem next64 {i n : Nat} (h : i < n) (hn : n ≤ 1000000000000) : IntKind.i64.wrap ((i : Int) + 1) = ((i + 1 : Nat) : Int) := by
  rw [wrap64 (by omega) (by omega)]; rfl
theorem vt_self (S : St) (bor : List Nat) (x : T) : vt S bor x (.t x) = True := by
  cases x <;> simp [vt, vb, maT]
theorem toNat_cast (i : Nat) : (i : Int).toNat = i := rfl
theorem take_succ_all {α : Type} {p : α → Prop} {l : List α} {i : Nat} {x : α} (hx : l[i]? = some x) (h : ∀ y ∈ l.take i, p y) (hp : p x) : ∀ y ∈ l.take (i + 1), p y := by
  intro y hy
  rw [List.take_add_one, hx] at hy
  simp only [Option.toList_some, List.mem_append, List.mem_singleton] at hy
  rcases hy with hy | rfl
  · exact h y hy
  · exact hp
theorem intsO_noSh (l : List Int) : (intsO l).noSh := by
  simp only [intsO, T.noSh]
  rw [T.noShL_iff]
  intro t ht
  obtain ⟨x, _, rfl⟩ := List.mem_map.1 ht
  simp [T.noSh]

section
variable {P : Program} {n : Nat} {S : St}
/-- A call with a determined result. -/
theorem CallW.res {d : Option Nat} {fo : Operand} {ops : List Operand} {K : St → Prop} {f : FuncId} {cap : List A} {args : List A} {res : T} (hF : Fun P f [] args fun o r => o = [] ∧ r = res) (bor : List Nat) (hfo : fnA (S.ev fo) = some (f, cap)) (hcall : ∀ args w, (callFunc f args).run P w = .ok (.enter f args) w)
    (hargs : vaL S [] bor args (ops.map S.ev ++ cap)) (hns : bor = [] ∨ res.noSh) (hk : afterCall S d [] [] res K) : CallW P n d fo ops K S := by
  refine CallW.use hfo hcall hF [] bor (by simp) trivial (fun q _ => by simp) hargs fun rout res' h => ?_
  obtain ⟨rfl, rfl⟩ := h
  refine ⟨?_, hk⟩
  rcases hns with h | h
  · exact .inl h
  · exact .inr ⟨h, trivial⟩
end

section
variable {P : Program} {n : Nat} {S : St}
/-- A call that works on roots. -/
theorem CallW.ref {d : Option Nat} {fo : Operand} {ops : List Operand} {K : St → Prop} {f : FuncId} {cap : List A} {rin : List T} {args : List A} {rout : List T} {res : T} (hF : Fun P f rin args fun o r => o = rout ∧ r = res) (srcs bor : List Nat) (hfo : fnA (S.ev fo) = some (f, cap)) (hcall : ∀ args w, (callFunc f args).run P w = .ok (.enter f args) w)
    (hsn : srcs.Nodup) (hsrc : srcsOK S srcs rin) (hsb : ∀ q ∈ bor, q ∉ srcs) (hargs : vaL S srcs bor args (ops.map S.ev ++ cap)) (hns : bor = [] ∨ (res.noSh ∧ T.noShL rout)) (hk : afterCall S d srcs rout res K) : CallW P n d fo ops K S := by
  refine CallW.use hfo hcall hF srcs bor hsn hsrc hsb hargs fun rout' res' h => ?_
  obtain ⟨rfl, rfl⟩ := h
  exact ⟨hns, hk⟩
end
theorem toShL_ints (l : List Int) : T.toShL (l.map T.i) = l.map T.i := by
  rw [T.toShL_eq_map, List.map_map]; exact List.map_congr_left fun _ _ => rfl
theorem intsO_toSh (l : List Int) : (intsO l).toSh = ints l := by
  simp only [intsO, ints, T.toSh, toShL_ints]
theorem rowsO_toSh (m : List (List Int)) : (rowsO m).toSh = rows m := by
  simp only [rowsO, rows, T.toSh, T.toShL_eq_map, List.map_map]
  congr 1
  exact List.map_congr_left fun r _ => intsO_toSh r
theorem toShL_intsO (m : List (List Int)) : T.toShL (m.map intsO) = m.map ints := by
  rw [T.toShL_eq_map, List.map_map]; exact List.map_congr_left fun r _ => intsO_toSh r
theorem rowsO_noSh (m : List (List Int)) : (rowsO m).noSh := by
  simp only [rowsO, T.noSh]
  rw [T.noShL_iff]
  intro t ht
  obtain ⟨x, _, rfl⟩ := List.mem_map.1 ht
  exact intsO_noSh x
theorem vt_rows_own (S : St) (bor : List Nat) (m : List (List Int)) (q : Nat) : vt S bor (rows m) (.own q) = (q ∈ bor ∧ ∃ t, S.roots q = .live t [] ∧ rows m = t.toSh) := by simp [rows, vt, vb]
theorem vt_ints_own (S : St) (bor : List Nat) (m : List Int) (q : Nat) : vt S bor (ints m) (.own q) = (q ∈ bor ∧ ∃ t, S.roots q = .live t [] ∧ ints m = t.toSh) := by simp [ints, vt, vb]
theorem absT_rowsO (d k : Nat) (m : List (List Int)) : absT d k (rowsO m) = (.own (rid d k), [(rid d k, rowsO m)], k + 1) := rfl
theorem absT_intsO (d k : Nat) (m : List Int) : absT d k (intsO m) = (.own (rid d k), [(rid d k, intsO m)], k + 1) := rfl


theorem Le.tup2 {a a' b b' : T} (h1 : Le a a') (h2 : Le b b') : Le (.tup [a, b]) (.tup [a', b']) :=
  .tup rfl fun i h h' => match i, h, h' with | 0, _, _ => h1 | 1, _, _ => h2
theorem Le.tup3 {a a' b b' c c' : T} (h1 : Le a a') (h2 : Le b b') (h3 : Le c c') : Le (.tup [a, b, c]) (.tup [a', b', c']) :=
  .tup rfl fun i h h' => match i, h, h' with | 0, _, _ => h1 | 1, _, _ => h2 | 2, _, _ => h3
/-- A result may be read as less is known of it: nil as a list without elements. -/
theorem Fun.le {P : Program} {f : FuncId} {rin : List T} {args : List A} {Q Q' : List T → T → Prop} (h : Fun P f rin args Q) (hq : ∀ o r, Q o r → ∃ r', Le r r' ∧ Q' o r') : Fun P f rin args Q' := by
  intro X w vals hs fp hm hl hi
  refine (h X w vals hs fp hm hl hi).mono ?_
  rintro e w' ⟨v, res, rout, fr, fp', rfl, hQ, hlen, out⟩
  obtain ⟨r', hle, hQ'⟩ := hq _ _ hQ
  obtain ⟨fr', ho, hsub⟩ := hle.ow out.res
  have sub : ∀ b ∈ fr', b ∈ fr := fun b hb => hsub.subset hb
  have hO : ∀ b, ¬ Ob' X fp' fr b → b < w'.heap.size → ¬ Ob' X fp' fr' b := fun b h _ h' => by
    rcases h' with h' | h'
    · exact h (.inl h')
    · exact h (.inr (sub b h'))
  have keep : ∀ p, Keeps p w' w' := fun p _ _ _ _ _ h => h
  exact ⟨v, r', rout, fr', fp', rfl, hQ', hlen, fun i t ht => (let ⟨x, hx, hox, hr⟩ := out.root i t ht; ⟨x, hx, hox.mono (keep _) hO (keep _), hr⟩), out.none, ho.mono (keep _) hO (keep _), out.disj, out.nodup, hsub.nodup out.rnodup,
    fun r b hb hbf => out.rdisj r b hb (sub b hbf), out.old, fun b hb => out.rold b (sub b hb), out.os, out.tape, out.output, out.size, out.frame⟩
theorem Fun.post {P : Program} {f : FuncId} {rin : List T} {args : List A} {Q Q' : List T → T → Prop} (h : Fun P f rin args Q) (hq : ∀ o r, Q o r → Q' o r) : Fun P f rin args Q' := h.le fun o r h1 => ⟨r, .refl r, hq o r h1⟩

theorem spl_one {α : Type} (l : List α) (i : Nat) (x : α) : spl l i [x] = l.set i x := rfl
theorem spl_two {α : Type} (l : List α) (i : Nat) (x y : α) (zs : List α) : spl l i (x :: y :: zs) = l.take i ++ (x :: y :: zs) ++ l.drop (i + (x :: y :: zs).length) := rfl
theorem coC_call (P : Program) (n : Nat) (all : Bool) (m : List Nat) (d : Nat) (f : Operand) (ops : List Operand) (K : St → Prop) (S : St) : coC P n all m (.call (some d) f ops) K S = (all = false ∧ CallC P n d f ops m K S) := rfl
theorem coC_alloc (P : Program) (n : Nat) (all : Bool) (m : List Nat) (d : Nat) (zs : List T) (K : St → Prop) (S : St) : coC P n all m (.alloc d zs) K S = coN (.alloc d zs) K S := rfl
theorem coC_make (P : Program) (n : Nat) (all : Bool) (m : List Nat) (d : Nat) (zs : List T) (eb : Nat) (l c : Operand) (K : St → Prop) (S : St) : coC P n all m (.make d zs eb l c) K S = coN (.make d zs eb l c) K S := rfl
theorem coC_box (P : Program) (n : Nat) (all : Bool) (m : List Nat) (d : Nat) (x : Operand) (K : St → Prop) (S : St) : coC P n all m (.box d x) K S = coN (.box d x) K S := rfl
theorem coC_bslice (P : Program) (n : Nat) (all : Bool) (m : List Nat) (d z len : Nat) (ps : List (Nat × Operand)) (K : St → Prop) (S : St) : coC P n all m (.bslice d z len ps) K S = coN (.bslice d z len ps) K S := rfl
theorem ite_nn {α : Type} (n : Nat) (a b : α) : (if (0 : Int) ≤ (n : Int) then a else b) = a := if_pos (Int.natCast_nonneg _)
theorem ite_nn1 {α : Type} (n : Nat) (a b : α) : (if (0 : Int) ≤ (n : Int) + 1 then a else b) = a := if_pos (by omega)
attribute [go_sem] ite_nn ite_nn1
theorem filter_link (k q : Nat) : List.filter (fun p : Nat × Nat => decide (p.fst < k) || decide (k + 1 ≤ p.fst)) [(k, q)] = [] := by
  rw [List.filter_cons_of_neg (by simp)]; rfl
attribute [go_sem] filter_link List.set_set absT absL List.filter_nil List.all_cons List.all_nil spl_one spl_two List.take_succ_cons List.take_zero List.drop_succ_cons List.drop_zero List.set_cons_zero List.set_cons_succ List.length_set List.cons_append List.append_nil Bool.true_and Bool.and_true Bool.false_and
/-! Guards and conditions at constants: one road only. -/
theorem guardC_tt (s : Nat) (d : Option Nat) (K1 K2 : St → Prop) (S : St) : guardC (.t (.v (.bool true))) s true d K1 K2 S = K1 { S with env := upd S.env s (.t (.v (.bool true))) } := by simp [guardC]
theorem guardC_ff (s : Nat) (d : Option Nat) (K1 K2 : St → Prop) (S : St) : guardC (.t (.v (.bool false))) s false d K1 K2 S = K1 { S with env := upd S.env s (.t (.v (.bool false))) } := by simp [guardC]
theorem guardC_ft (s : Nat) (d : Option Nat) (K1 K2 : St → Prop) (S : St) : guardC (.t (.v (.bool false))) s true d K1 K2 S = K2 (St.put { S with env := upd S.env s (.t (.v (.bool false))) } d skipA) := by simp [guardC]
theorem guardC_tf (s : Nat) (d : Option Nat) (K1 K2 : St → Prop) (S : St) : guardC (.t (.v (.bool true))) s false d K1 K2 S = K2 (St.put { S with env := upd S.env s (.t (.v (.bool true))) } d skipA) := by simp [guardC]
theorem condC_t (K1 K2 : St → Prop) (S : St) : condC (.t (.v (.bool true))) K1 K2 S = K1 S := by simp [condC]
theorem condC_f (K1 K2 : St → Prop) (S : St) : condC (.t (.v (.bool false))) K1 K2 S = K2 S := by simp [condC]
theorem guardC_b (b : Bool) (s : Nat) (want : Bool) (d : Option Nat) (K1 K2 : St → Prop) (S : St) : guardC (.t (.v (.bool b))) s want d K1 K2 S = ((b = want → K1 { S with env := upd S.env s (.t (.v (.bool want))) }) ∧ (b = !want → K2 (St.put { S with env := upd S.env s (.t (.v (.bool !want))) } d skipA))) := rfl
theorem condC_b (b : Bool) (K1 K2 : St → Prop) (S : St) : condC (.t (.v (.bool b))) K1 K2 S = ((b = true → K1 S) ∧ (b = false → K2 S)) := rfl
theorem guardC_u (xs : Array Value) (s : Nat) (want : Bool) (d : Option Nat) (K1 K2 : St → Prop) (S : St) : guardC (.t (.v (.tuple xs))) s want d K1 K2 S = K2 (St.put S d skipA) := rfl
theorem guardC_un (s : Nat) (want : Bool) (d : Option Nat) (K1 K2 : St → Prop) (S : St) : guardC skipA s want d K1 K2 S = K2 (St.put S d skipA) := rfl
attribute [go_sem high] guardC_u guardC_un guardC_tt guardC_ff guardC_ft guardC_tf condC_t condC_f
attribute [go_sem] Value.oneCell' decide_true bne_self_eq_false true_or List.nil_append all_cell_ints all_cell_intsO all_flat_ints Nat.zero_ne_one Nat.add_zero Nat.zero_add cW.eq_1 cW.eq_2 cW.eq_3 cW.eq_4 cW.eq_5 cW.eq_6 cW.eq_7 cW.eq_8 cW.eq_9 cW.eq_10 drawW.eq_1 drawW.eq_2 itemD.eq_1 itemD.eq_2 valD.eq_1 valD.eq_2 valD.eq_3 valD.eq_4 valD.eq_5 valD.eq_6 CO.dst mergeR_upd mergeR_mask coC_call coC_alloc coC_make coC_box coC_bslice coN.eq_1 coN.eq_2 coN.eq_3 coN.eq_4 giveF.eq_1 giveF.eq_2 maskR_nil maskR_upd maskR_free List.any_cons List.any_nil Option.bind_some Bool.or_false Bool.false_or Bool.or_self decide_false kE kR kN kH coH_store coH_alloc coH_box coH_bslice coH_make coH_app coH_load1 coH_call coV.eq_1 coV.eq_2 coV.eq_3 coV.eq_4 coV.eq_5 coV.eq_6 coV.eq_7 coV.eq_8 coV.eq_9 coV.eq_10 coV.eq_11 coV.eq_12 coV.eq_13 coV.eq_14 coV.eq_15 coV.eq_16 coV.eq_17 coV.eq_18 coV.eq_19 coV.eq_20 putD_apply load1V loadNV CO.dst opsW.eq_1 opsW.eq_2 opsW.eq_3 coW.eq_1 coW.eq_2 coW.eq_3 coW.eq_4 coW.eq_5 coW.eq_6 coW.eq_7 coW.eq_8 coW.eq_9 coW.eq_10 coW.eq_11 coW.eq_12 coW.eq_13 coW.eq_14 coW.eq_15 coW.eq_16 coW.eq_17 coW.eq_18 coW.eq_19 coW.eq_20 coW.eq_21 coW.eq_22 coW.eq_23 coW.eq_24 coW.eq_25 coW.eq_26 coW.eq_27 coW.eq_28 putK_apply ev_sl ev_ci ev_cb ev_cv ev_cf guardC_b condC_b thenC_n thenC_r thenC_e blockQ_n blockQ_r blockQ_e loopQ_n loopQ_r loopQ_e pickC beqC beqSC aggI intsT.eq_1 intsT.eq_2 intsA.eq_1 intsA.eq_2 isNilC slcC bndN Option.map_some Option.map_none binW binI unW extractW lenC lenTC idxC fldC load1C loadNC cellsC.eq_1 cellsV.eq_1 readC.eq_1 readA.eq_1 readA.eq_2 readOK.eq_1 readOK.eq_2 noLk.eq_1 noLk.eq_2 openG.eq_1 openG.eq_2 List.drop_zero Bool.and_false Option.isSome_some Option.isSome_none Bool.true_or Bool.or_true loadC storeC storeK_apply addrA compsA giveL giveW buildC fillA bsliceC boxW makeC newK_apply baseW srcW appendK1_apply appendK2_apply convC nilCheckW mmW retP.eq_1 retP.eq_2 retL retOne giveT giveTL routW packT Root.cells Root.with upd_apply St.of mkEnv mkRoots enum St.put T.cell T.flat true_and and_true List.map_cons List.map_nil List.length_cons List.length_nil Option.some.injEq forall_eq' List.lookup_nil Bool.not_true Bool.not_false decide_eq_true_eq decide_eq_false_iff_not ne_eq forall_const Bool.true_eq_false Bool.false_eq_true false_implies ite_true ite_false exists_eq_left' List.getElem?_cons_zero List.getElem?_cons_succ and_self List.getElem?_map Option.map_eq_some_iff forall_exists_index and_imp List.length_map Nat.mul_one Nat.div_one
end Go.Ab

/- The bridge, part 3: the types of the laws' arguments. -/
set_option linter.unusedSimpArgs false
set_option linter.unusedVariables false
namespace Go.Ab

def tyRows : Ty := .sl 1 (.sl 1 (.int .i64))
/-- All numbers fit. -/
def fits64 (l : List Int) : Prop := ∀ x ∈ l, -9223372036854775808 ≤ x ∧ x < 9223372036854775808
theorem wf64 {n : Int} (h : (Lit.int .i64 n).wf = true) : -9223372036854775808 ≤ n ∧ n < 9223372036854775808 := by
  simp [Lit.wf, IntKind.min, IntKind.max, IntKind.signed, IntKind.bits] at h
  omega
theorem flat_ints : ∀ {xs : List (List T)}, (∀ x ∈ xs, x.length = 1 ∧ (Ty.int .i64).wt x) → ∃ l : List Int, xs.flatten = l.map T.i ∧ l.length = xs.length ∧ fits64 l
  | [], _ => ⟨[], rfl, rfl, fun x hx => by simp at hx⟩
  | x :: xs, h => by
    obtain ⟨l, hl, hlen, hf⟩ := flat_ints (xs := xs) fun y hy => h y (by simp [hy])
    obtain ⟨_, n, rfl, hw⟩ := h x (by simp)
    refine ⟨n :: l, by simp [hl], by simp [hlen], fun y hy => ?_⟩
    rcases List.mem_cons.1 hy with rfl | hy
    · exact wf64 hw
    · exact hf y hy
theorem wt_ints {x : T} (h : (Ty.sl 1 (.int .i64)).wt [x]) : ∃ l : List Int, x = ints l ∧ l.length ≤ 9223372036854775807 ∧ fits64 l := by
  obtain ⟨xs, hx, hlen, hall⟩ := h
  obtain ⟨l, hl, hll, hf⟩ := flat_ints hall
  simp only [List.cons.injEq, and_true] at hx
  exact ⟨l, by rw [hx, hl]; rfl, by rw [hll]; exact hlen, hf⟩
theorem flat_rows : ∀ {xs : List (List T)}, (∀ x ∈ xs, x.length = 1 ∧ (Ty.sl 1 (.int .i64)).wt x) → ∃ m : List (List Int), xs.flatten = m.map ints ∧ m.length = xs.length ∧ ∀ r ∈ m, r.length ≤ 9223372036854775807 ∧ fits64 r
  | [], _ => ⟨[], rfl, rfl, by simp⟩
  | x :: xs, h => by
    obtain ⟨m, hm, hlen, hr⟩ := flat_rows (xs := xs) fun y hy => h y (by simp [hy])
    obtain ⟨h1, hw⟩ := h x (by simp)
    match x, h1 with
    | [y], _ =>
      obtain ⟨l, rfl, hl, hf⟩ := wt_ints hw
      refine ⟨l :: m, by simp [hm], by simp [hlen], fun r hr' => ?_⟩
      rcases List.mem_cons.1 hr' with rfl | h'
      · exact ⟨hl, hf⟩
      · exact hr r h'
theorem wt_rows {x : T} (h : tyRows.wt [x]) : ∃ m : List (List Int), x = rows m ∧ m.length ≤ 9223372036854775807 ∧ ∀ r ∈ m, r.length ≤ 9223372036854775807 ∧ fits64 r := by
  obtain ⟨xs, hx, hlen, hall⟩ := h
  obtain ⟨m, hm, hml, hr⟩ := flat_rows hall
  simp only [List.cons.injEq, and_true] at hx
  exact ⟨m, by rw [hx, hm]; rfl, by rw [hml]; exact hlen, hr⟩


def tyRat : Ty := .st (.cons (.int .i64) (.cons (.int .i64) .nil))
def tyRats : Ty := .sl 2 tyRat
theorem wt_rat {l : List T} (h : tyRat.wt l) : ∃ r : Int × Int, l = [T.i r.1, T.i r.2] ∧ fits64 [r.1, r.2] := by
  obtain ⟨l1, l2, rfl, ⟨n, rfl, hn⟩, l3, l4, rfl, ⟨d, rfl, hd⟩, rfl⟩ := h
  refine ⟨(n, d), rfl, fun x hx => ?_⟩
  rcases List.mem_cons.1 hx with rfl | hx
  · exact wf64 hn
  · rcases List.mem_cons.1 hx with rfl | hx
    · exact wf64 hd
    · cases hx
theorem flat_rats : ∀ {xs : List (List T)}, (∀ x ∈ xs, x.length = 2 ∧ tyRat.wt x) → ∃ l : List (Int × Int), xs.flatten = ratC l ∧ l.length = xs.length ∧ ∀ r ∈ l, fits64 [r.1, r.2]
  | [], _ => ⟨[], rfl, rfl, by simp⟩
  | x :: xs, h => by
    obtain ⟨l, hl, hlen, hf⟩ := flat_rats (xs := xs) fun y hy => h y (by simp [hy])
    obtain ⟨r, rfl, hr⟩ := wt_rat (h x (by simp)).2
    refine ⟨r :: l, by rw [List.flatten_cons, hl]; rfl, by simp [hlen], fun y hy => ?_⟩
    rcases List.mem_cons.1 hy with rfl | hy
    · exact hr
    · exact hf y hy
theorem wt_rats {x : T} (h : tyRats.wt [x]) : ∃ l : List (Int × Int), x = rats l ∧ l.length ≤ 9223372036854775807 ∧ ∀ r ∈ l, fits64 [r.1, r.2] := by
  obtain ⟨xs, hx, hlen, hall⟩ := h
  obtain ⟨l, hl, hll, hf⟩ := flat_rats hall
  simp only [List.cons.injEq, and_true] at hx
  exact ⟨l, by rw [hx, hl]; rfl, by rw [hll]; exact hlen, hf⟩
theorem wt_int {x : T} (h : (Ty.int .i64).wt [x]) : ∃ n : Int, x = T.i n ∧ -9223372036854775808 ≤ n ∧ n < 9223372036854775808 := by
  obtain ⟨n, hn, hw⟩ := h
  simp only [List.cons.injEq, and_true] at hn
  exact ⟨n, hn, wf64 hw⟩
end Go.Ab

/- The functions in compact form, printed by a program (CcDump.lean). -/
set_option linter.unusedVariables false
namespace Go.Ab
open Go.Proofs

@[go_sem] theorem cellAgg_49 : tyAgg Try.prog 49 = some true := by kernel_rfl
@[go_sem] theorem cellSize_49 : tySize Try.prog 49 = some 4 := by kernel_rfl
@[go_sem] theorem cellAgg_47 : tyAgg Try.prog 47 = some true := by kernel_rfl
@[go_sem] theorem cellSize_47 : tySize Try.prog 47 = some 2 := by kernel_rfl
@[go_sem] theorem cellAgg_24 : tyAgg Try.prog 24 = some false := by kernel_rfl
@[go_sem] theorem cellSize_24 : tySize Try.prog 24 = some 1 := by kernel_rfl
theorem tyOne : tySize Try.prog 0 = some 1 := by kernel_rfl

def c_laws_FnAdjugates : CC :=
  (.seq (.reg [.o (.move 2 (cb false))])
  ((.seq (.seq (.reg [.o (.move 19 (sl 0)),
      .o (.call (some 20) (cf 16) [(sl 19)])])
   ((.cond (sl 20) (.seq (.reg [.o (.move 2 (cb true))])
    (.ret))
    .skip)))
  ((.seq (.reg [.o (.move 21 (sl 0)),
     .o (.call (some 22) (cf 25) [(sl 21)]),
     .o (.move 3 (sl 22))])
  ((.seq (.reg [.o (.move 24 (sl 3)),
     .o (.call (some 25) (cf 26) [(sl 24)]),
     .o (.move 23 (sl 25)),
     .o (.extract 26 (sl 23) 0),
     .o (.extract 27 (sl 23) 1),
     .o (.move 4 (sl 26)),
     .o (.move 5 (sl 27))])
  ((.seq (.reg [.o (.move 29 (sl 3)),
     .o (.call (some 30) (cf 27) [(sl 29)]),
     .o (.move 28 (sl 30)),
     .o (.extract 31 (sl 28) 0),
     .o (.extract 32 (sl 28) 1),
     .o (.move 6 (sl 31)),
     .o (.move 7 (sl 32))])
  ((.seq (.reg [.o (.move 33 (sl 0)),
     .o (.call (some 34) (cf 28) [(sl 33)]),
     .o (.move 8 (sl 34))])
  ((.seq (.reg [.o (.move 36 (sl 8)),
     .o (.call (some 37) (cf 29) [(sl 36)]),
     .o (.move 35 (sl 37)),
     .o (.extract 38 (sl 35) 0),
     .o (.extract 39 (sl 35) 1),
     .o (.move 9 (sl 38)),
     .o (.move 10 (sl 39))])
  ((.seq (.reg [.o (.move 41 (sl 8)),
     .o (.call (some 42) (cf 30) [(sl 41)]),
     .o (.move 40 (sl 42)),
     .o (.extract 43 (sl 40) 0),
     .o (.extract 44 (sl 40) 1),
     .o (.move 11 (sl 43)),
     .o (.move 12 (sl 44))])
  ((.seq (.seq (.reg [.o (.move 45 (sl 5)),
      .o (.move 46 (sl 7)),
      .o (.bin 47 .neq (sl 45) (sl 46)),
      .o (.move 48 (sl 47)),
      .g 48 false (some 49) (.move 49 (sl 4)),
      .g 48 false (some 50) (.move 50 (sl 6)),
      .g 48 false (some 51) (.call (some 51) (cf 31) [(sl 49), (sl 50)]),
      .g 48 false (some 52) (.un 52 .not (sl 51)),
      .o (.pick 53 (sl 48) (cb true) (sl 52)),
      .o (.move 54 (sl 53)),
      .g 54 false (some 55) (.move 55 (sl 10)),
      .g 54 false (some 56) (.move 56 (sl 12)),
      .g 54 false (some 57) (.bin 57 .neq (sl 55) (sl 56)),
      .o (.pick 58 (sl 54) (cb true) (sl 57)),
      .o (.move 59 (sl 58)),
      .g 59 false (some 60) (.move 60 (sl 9)),
      .g 59 false (some 61) (.move 61 (sl 11)),
      .g 59 false (some 62) (.bin 62 .neq (sl 60) (sl 61)),
      .o (.pick 63 (sl 59) (cb true) (sl 62))])
   ((.cond (sl 63) (.seq (.reg [.o (.move 2 (cb false))])
    (.ret))
    .skip)))
  ((.seq (.seq (.reg [.o (.move 64 (sl 5)),
      .o (.bin 65 .neq (sl 64) (ci 0))])
   ((.cond (sl 65) (.seq (.reg [.o (.move 2 (cb true))])
    (.ret))
    .skip)))
  ((.seq (.reg [.o (.move 67 (sl 3)),
     .o (.call (some 68) (cf 29) [(sl 67)]),
     .o (.move 66 (sl 68)),
     .o (.extract 69 (sl 66) 0),
     .o (.extract 70 (sl 66) 1),
     .o (.move 13 (sl 69)),
     .o (.move 14 (sl 70))])
  ((.seq (.seq (.reg [.o (.move 71 (sl 14)),
      .o (.bin 72 .neq (sl 71) (ci 0))])
   ((.cond (sl 72) (.seq (.reg [.o (.move 2 (cb false))])
    (.ret))
    .skip)))
  ((.seq (.seq (.reg [.o (.move 15 (ci 0))])
   ((.block 0 (.loop (.seq (.seq (.reg [.o (.move 73 (sl 15)),
         .o (.move 74 (sl 3)),
         .o (.lenS 75 (sl 74)),
         .o (.bin 76 .lss (sl 73) (sl 75))])
      ((.cond (sl 76) .skip
       (.exit 0))))
     ((.seq (.block 1 (.seq (.reg [.o (.move 16 (ci 0))])
       ((.block 2 (.loop (.seq (.seq (.reg [.o (.move 79 (sl 16)),
             .o (.move 80 (sl 3)),
             .o (.lenS 81 (sl 80)),
             .o (.bin 82 .lss (sl 79) (sl 81))])
          ((.cond (sl 82) .skip
           (.exit 2))))
         ((.seq (.block 3 (.seq (.reg [.o (.move 17 (ci 0))])
           ((.seq (.seq (.reg [.o (.move 18 (ci 0))])
            ((.block 4 (.loop (.seq (.seq (.reg [.o (.move 85 (sl 18)),
                  .o (.move 86 (sl 3)),
                  .o (.lenS 87 (sl 86)),
                  .o (.bin 88 .lss (sl 85) (sl 87))])
               ((.cond (sl 88) .skip
                (.exit 4))))
              ((.seq (.block 5 (.draw [] [(kR, .o (.move 91 (sl 17))),
                  (kR, .o (.move 92 (sl 3))),
                  (kR, .o (.move 93 (sl 15))),
                  (kR, .o (.idx 94 1 (sl 92) (sl 93))),
                  (kR, .o (.load1 95 (sl 94))),
                  (kR, .o (.move 96 (sl 18))),
                  (kR, .o (.idx 97 1 (sl 95) (sl 96))),
                  (kR, .o (.load1 98 (sl 97))),
                  (kR, .o (.move 99 (sl 4))),
                  (kR, .o (.move 100 (sl 18))),
                  (kR, .o (.idx 101 1 (sl 99) (sl 100))),
                  (kR, .o (.load1 102 (sl 101))),
                  (kR, .o (.move 103 (sl 16))),
                  (kR, .o (.idx 104 1 (sl 102) (sl 103))),
                  (kR, .o (.load1 105 (sl 104))),
                  (kR, .o (.bin 106 .mul (sl 98) (sl 105))),
                  (kR, .o (.bin 107 .add (sl 91) (sl 106))),
                  (kR, .o (.move 17 (sl 107)))]))
              ((.reg [.o (.move 89 (sl 18)),
                .o (.bin 90 .add (sl 89) (ci 1)),
                .o (.move 18 (sl 90))])))))))))
           ((.seq (.reg [.o (.move 108 (sl 15)),
              .o (.move 109 (sl 16)),
              .o (.bin 110 .eql (sl 108) (sl 109)),
              .o (.move 111 (sl 110)),
              .g 111 true (some 112) (.move 112 (sl 17)),
              .g 111 true (some 113) (.move 113 (sl 13)),
              .g 111 true (some 114) (.bin 114 .neq (sl 112) (sl 113)),
              .o (.pick 115 (sl 111) (sl 114) (cb false)),
              .o (.move 116 (sl 115)),
              .g 116 false (some 117) (.move 117 (sl 15)),
              .g 116 false (some 118) (.move 118 (sl 16)),
              .g 116 false (some 119) (.bin 119 .neq (sl 117) (sl 118)),
              .g 116 false (some 120) (.move 120 (sl 119)),
              .g 120 true (some 121) (.move 121 (sl 17)),
              .g 120 true (some 122) (.bin 122 .neq (sl 121) (ci 0)),
              .g 116 false (some 123) (.pick 123 (sl 120) (sl 122) (cb false)),
              .o (.pick 124 (sl 116) (cb true) (sl 123))])
           ((.cond (sl 124) (.seq (.reg [.o (.move 2 (cb false))])
            (.ret))
            .skip))))))))
         ((.reg [.o (.move 83 (sl 16)),
           .o (.bin 84 .add (sl 83) (ci 1)),
           .o (.move 16 (sl 84))]))))))))))
     ((.reg [.o (.move 77 (sl 15)),
       .o (.bin 78 .add (sl 77) (ci 1)),
       .o (.move 15 (sl 78))])))))))))
  ((.seq (.reg [.o (.move 2 (cb true))])
  (.ret))))))))))))))))))))))))))))
theorem fun_laws_FnAdjugates {rin : List T} {args : List A} {Q : List T → T → Prop} (ha : args.length ≤ 125) (h : cW Try.prog 125 c_laws_FnAdjugates (retP Try.prog [.tmp 2] rin.length Q) (St.of (enum 0 args) (enum 1000000000 rin))) :
    Fun Try.prog 4 rin args Q :=
  Fun.of (H := ⟨[], []⟩) Try.func4 rfl rfl rfl (by kernel_rfl) ha (by decide) h

def c_laws_big : CC :=
  (.seq (.reg [.o (.move 2 (cb false))])
  ((.seq (.reg [.o (.move 3 (sl 0)),
     .o (.lenS 4 (sl 3)),
     .o (.bin 5 .gtr (sl 4) (ci 4096)),
     .o (.move 2 (sl 5))])
  (.ret))))
theorem fun_laws_big {rin : List T} {args : List A} {Q : List T → T → Prop} (ha : args.length ≤ 6) (h : cW Try.prog 6 c_laws_big (retP Try.prog [.tmp 2] rin.length Q) (St.of (enum 0 args) (enum 1000000000 rin))) :
    Fun Try.prog 16 rin args Q :=
  Fun.of (H := ⟨[], []⟩) Try.func16 rfl rfl rfl (by kernel_rfl) ha (by decide) h

def c_laws_likeInts : CC :=
  (.seq (.reg [.o (.move 4 (cb false))])
  ((.seq (.seq (.reg [.o (.move 6 (sl 0)),
      .o (.lenS 7 (sl 6)),
      .o (.move 8 (sl 1)),
      .o (.lenS 9 (sl 8)),
      .o (.bin 10 .neq (sl 7) (sl 9))])
   ((.cond (sl 10) (.seq (.reg [.o (.move 4 (cb false))])
    (.ret))
    .skip)))
  ((.seq (.seq (.reg [.o (.move 5 (ci 0))])
   ((.block 0 (.loop (.seq (.seq (.reg [.o (.move 11 (sl 5)),
         .o (.move 12 (sl 0)),
         .o (.lenS 13 (sl 12)),
         .o (.bin 14 .lss (sl 11) (sl 13))])
      ((.cond (sl 14) .skip
       (.exit 0))))
     ((.seq (.block 1 (.seq (.draw [] [(kR, .o (.move 17 (sl 0))),
          (kR, .o (.move 18 (sl 5))),
          (kR, .o (.idx 19 1 (sl 17) (sl 18))),
          (kR, .o (.load1 20 (sl 19))),
          (kR, .o (.move 21 (sl 1))),
          (kR, .o (.move 22 (sl 5))),
          (kR, .o (.idx 23 1 (sl 21) (sl 22))),
          (kR, .o (.load1 24 (sl 23))),
          (kR, .o (.bin 25 .neq (sl 20) (sl 24)))])
       ((.cond (sl 25) (.seq (.reg [.o (.move 4 (cb false))])
        (.ret))
        .skip))))
     ((.reg [.o (.move 15 (sl 5)),
       .o (.bin 16 .add (sl 15) (ci 1)),
       .o (.move 5 (sl 16))])))))))))
  ((.seq (.reg [.o (.move 4 (cb true))])
  (.ret))))))))
theorem fun_laws_likeInts {rin : List T} {args : List A} {Q : List T → T → Prop} (ha : args.length ≤ 26) (h : cW Try.prog 26 c_laws_likeInts (retP Try.prog [.tmp 4] rin.length Q) (St.of (enum 0 args) (enum 1000000000 rin))) :
    Fun Try.prog 23 rin args Q :=
  Fun.of (H := ⟨[], []⟩) Try.func23 rfl rfl rfl (by kernel_rfl) ha (by decide) h

def c_spec_DrawAdjugate : CC :=
  (.seq (.reg [.o (.move 2 (cv (.slice none 0 0)))])
  ((.seq (.reg [.o (.move 3 (sl 0)),
     .o (.call (some 4) (cf 94) [(sl 3)]),
     .o (.call (some 5) (cf 105) [(sl 4)]),
     .o (.move 2 (sl 5))])
  (.ret))))
theorem fun_spec_DrawAdjugate {rin : List T} {args : List A} {Q : List T → T → Prop} (ha : args.length ≤ 6) (h : cW Try.prog 6 c_spec_DrawAdjugate (retP Try.prog [.tmp 2] rin.length Q) (St.of (enum 0 args) (enum 1000000000 rin))) :
    Fun Try.prog 25 rin args Q :=
  Fun.of (H := ⟨[], []⟩) Try.func25 rfl rfl rfl (by kernel_rfl) ha (by decide) h

def c_impl_Adjugate : CC :=
  (.seq (.reg [.o (.move 2 (cv (.slice none 0 0))),
     .o (.move 3 (ci 0))])
  ((.seq (.seq (.reg [.o (.move 4 (sl 0)),
      .o (.call (some 5) (cf 67) [(sl 4)]),
      .o (.un 6 .not (sl 5))])
   ((.cond (sl 6) (.seq (.reg [.o (.move 2 (cv (.slice none 0 0))),
       .o (.move 3 (ci 1))])
    (.ret))
    .skip)))
  ((.seq (.seq (.reg [.o (.move 7 (sl 0)),
      .o (.lenS 8 (sl 7)),
      .o (.move 9 (sl 0)),
      .o (.idx 10 1 (sl 9) (ci 0)),
      .o (.load1 11 (sl 10)),
      .o (.lenS 12 (sl 11)),
      .o (.bin 13 .neq (sl 8) (sl 12))])
   ((.cond (sl 13) (.seq (.reg [.o (.move 2 (cv (.slice none 0 0))),
       .o (.move 3 (ci 5))])
    (.ret))
    .skip)))
  ((.seq (.reg [.o (.move 14 (sl 0)),
     .o (.call (some 15) (cf 106) [(sl 14)]),
     .o (.move 2 (sl 15)),
     .o (.move 3 (ci 0))])
  (.ret))))))))
theorem fun_impl_Adjugate {rin : List T} {args : List A} {Q : List T → T → Prop} (ha : args.length ≤ 16) (h : cW Try.prog 16 c_impl_Adjugate (retP Try.prog [.tmp 2, .tmp 3] rin.length Q) (St.of (enum 0 args) (enum 1000000000 rin))) :
    Fun Try.prog 26 rin args Q :=
  Fun.of (H := ⟨[], []⟩) Try.func26 rfl rfl rfl (by kernel_rfl) ha (by decide) h

def c_spec_Adjugate : CC :=
  (.seq (.reg [.o (.move 2 (cv (.slice none 0 0))),
     .o (.move 3 (ci 0))])
  ((.seq (.reg [.o (.move 5 (sl 0)),
     .o (.call (some 6) (cf 107) [(sl 5)]),
     .o (.move 4 (sl 6))])
  ((.seq (.seq (.reg [.o (.move 7 (sl 4)),
      .o (.bin 8 .neq (sl 7) (ci 0))])
   ((.cond (sl 8) (.seq (.reg [.o (.move 9 (sl 4)),
       .o (.move 2 (cv (.slice none 0 0))),
       .o (.move 3 (sl 9))])
    (.ret))
    .skip)))
  ((.seq (.reg [.o (.move 10 (sl 0)),
     .o (.call (some 11) (cf 108) [(sl 10)]),
     .o (.move 2 (sl 11)),
     .o (.move 3 (ci 0))])
  (.ret))))))))
theorem fun_spec_Adjugate {rin : List T} {args : List A} {Q : List T → T → Prop} (ha : args.length ≤ 12) (h : cW Try.prog 12 c_spec_Adjugate (retP Try.prog [.tmp 2, .tmp 3] rin.length Q) (St.of (enum 0 args) (enum 1000000000 rin))) :
    Fun Try.prog 27 rin args Q :=
  Fun.of (H := ⟨[], []⟩) Try.func27 rfl rfl rfl (by kernel_rfl) ha (by decide) h

def c_spec_DrawDeterminant : CC :=
  (.seq (.reg [.o (.move 2 (cv (.slice none 0 0)))])
  ((.seq (.reg [.o (.move 3 (sl 0)),
     .o (.call (some 4) (cf 94) [(sl 3)]),
     .o (.call (some 5) (cf 105) [(sl 4)]),
     .o (.move 2 (sl 5))])
  (.ret))))
theorem fun_spec_DrawDeterminant {rin : List T} {args : List A} {Q : List T → T → Prop} (ha : args.length ≤ 6) (h : cW Try.prog 6 c_spec_DrawDeterminant (retP Try.prog [.tmp 2] rin.length Q) (St.of (enum 0 args) (enum 1000000000 rin))) :
    Fun Try.prog 28 rin args Q :=
  Fun.of (H := ⟨[], []⟩) Try.func28 rfl rfl rfl (by kernel_rfl) ha (by decide) h

def c_impl_Determinant : CC :=
  (.seq (.reg [.o (.move 2 (ci 0)),
     .o (.move 3 (ci 0))])
  ((.seq (.seq (.reg [.o (.move 4 (sl 0)),
      .o (.call (some 5) (cf 67) [(sl 4)]),
      .o (.un 6 .not (sl 5))])
   ((.cond (sl 6) (.seq (.reg [.o (.move 2 (ci 0)),
       .o (.move 3 (ci 1))])
    (.ret))
    .skip)))
  ((.seq (.seq (.reg [.o (.move 7 (sl 0)),
      .o (.lenS 8 (sl 7)),
      .o (.move 9 (sl 0)),
      .o (.idx 10 1 (sl 9) (ci 0)),
      .o (.load1 11 (sl 10)),
      .o (.lenS 12 (sl 11)),
      .o (.bin 13 .neq (sl 8) (sl 12))])
   ((.cond (sl 13) (.seq (.reg [.o (.move 2 (ci 0)),
       .o (.move 3 (ci 5))])
    (.ret))
    .skip)))
  ((.seq (.reg [.o (.move 14 (sl 0)),
     .o (.call (some 15) (cf 109) [(sl 14)]),
     .o (.move 2 (sl 15)),
     .o (.move 3 (ci 0))])
  (.ret))))))))
theorem fun_impl_Determinant {rin : List T} {args : List A} {Q : List T → T → Prop} (ha : args.length ≤ 16) (h : cW Try.prog 16 c_impl_Determinant (retP Try.prog [.tmp 2, .tmp 3] rin.length Q) (St.of (enum 0 args) (enum 1000000000 rin))) :
    Fun Try.prog 29 rin args Q :=
  Fun.of (H := ⟨[], []⟩) Try.func29 rfl rfl rfl (by kernel_rfl) ha (by decide) h

def c_spec_Determinant : CC :=
  (.seq (.reg [.o (.move 2 (ci 0)),
     .o (.move 3 (ci 0))])
  ((.seq (.reg [.o (.move 5 (sl 0)),
     .o (.call (some 6) (cf 107) [(sl 5)]),
     .o (.move 4 (sl 6))])
  ((.seq (.seq (.reg [.o (.move 7 (sl 4)),
      .o (.bin 8 .neq (sl 7) (ci 0))])
   ((.cond (sl 8) (.seq (.reg [.o (.move 9 (sl 4)),
       .o (.move 2 (ci 0)),
       .o (.move 3 (sl 9))])
    (.ret))
    .skip)))
  ((.seq (.reg [.o (.move 10 (sl 0)),
     .o (.call (some 11) (cf 110) [(sl 10)]),
     .o (.move 2 (sl 11)),
     .o (.move 3 (ci 0))])
  (.ret))))))))
theorem fun_spec_Determinant {rin : List T} {args : List A} {Q : List T → T → Prop} (ha : args.length ≤ 12) (h : cW Try.prog 12 c_spec_Determinant (retP Try.prog [.tmp 2, .tmp 3] rin.length Q) (St.of (enum 0 args) (enum 1000000000 rin))) :
    Fun Try.prog 30 rin args Q :=
  Fun.of (H := ⟨[], []⟩) Try.func30 rfl rfl rfl (by kernel_rfl) ha (by decide) h

def c_laws_likeLists : CC :=
  (.seq (.reg [.o (.move 4 (cb false))])
  ((.seq (.seq (.reg [.o (.move 6 (sl 0)),
      .o (.lenS 7 (sl 6)),
      .o (.move 8 (sl 1)),
      .o (.lenS 9 (sl 8)),
      .o (.bin 10 .neq (sl 7) (sl 9))])
   ((.cond (sl 10) (.seq (.reg [.o (.move 4 (cb false))])
    (.ret))
    .skip)))
  ((.seq (.seq (.reg [.o (.move 5 (ci 0))])
   ((.block 0 (.loop (.seq (.seq (.reg [.o (.move 11 (sl 5)),
         .o (.move 12 (sl 0)),
         .o (.lenS 13 (sl 12)),
         .o (.bin 14 .lss (sl 11) (sl 13))])
      ((.cond (sl 14) .skip
       (.exit 0))))
     ((.seq (.block 1 (.seq (.draw [] [(kR, .o (.move 17 (sl 0))),
          (kR, .o (.move 18 (sl 5))),
          (kR, .o (.idx 19 1 (sl 17) (sl 18))),
          (kR, .o (.load1 20 (sl 19))),
          (kR, .o (.move 21 (sl 1))),
          (kR, .o (.move 22 (sl 5))),
          (kR, .o (.idx 23 1 (sl 21) (sl 22))),
          (kR, .o (.load1 24 (sl 23))),
          (kR, .o (.call (some 25) (cf 23) [(sl 20), (sl 24)])),
          (kR, .o (.un 26 .not (sl 25)))])
       ((.cond (sl 26) (.seq (.reg [.o (.move 4 (cb false))])
        (.ret))
        .skip))))
     ((.reg [.o (.move 15 (sl 5)),
       .o (.bin 16 .add (sl 15) (ci 1)),
       .o (.move 5 (sl 16))])))))))))
  ((.seq (.reg [.o (.move 4 (cb true))])
  (.ret))))))))
theorem fun_laws_likeLists {rin : List T} {args : List A} {Q : List T → T → Prop} (ha : args.length ≤ 27) (h : cW Try.prog 27 c_laws_likeLists (retP Try.prog [.tmp 4] rin.length Q) (St.of (enum 0 args) (enum 1000000000 rin))) :
    Fun Try.prog 31 rin args Q :=
  Fun.of (H := ⟨[], []⟩) Try.func31 rfl rfl rfl (by kernel_rfl) ha (by decide) h

def c_impl_IsMatrix : CC :=
  (.seq (.reg [.o (.box 1 (sl 0)),
     .o (.move 2 (cb false))])
  ((.seq (.seq (.reg [.o (.load1 3 (sl 1)),
      .o (.lenS 4 (sl 3)),
      .o (.call (some 5) (cf 97) [(sl 4), (ci 1), (ci 4)]),
      .o (.un 6 .not (sl 5)),
      .o (.move 7 (sl 6)),
      .g 7 false (some 8) (.load1 8 (sl 1)),
      .g 7 false (some 9) (.idx 9 1 (sl 8) (ci 0)),
      .g 7 false (some 10) (.load1 10 (sl 9)),
      .g 7 false (some 11) (.lenS 11 (sl 10)),
      .g 7 false (some 12) (.call (some 12) (cf 97) [(sl 11), (ci 1), (ci 4)]),
      .g 7 false (some 13) (.un 13 .not (sl 12)),
      .o (.pick 14 (sl 7) (cb true) (sl 13))])
   ((.cond (sl 14) (.seq (.reg [.o (.move 2 (cb false))])
    (.ret))
    .skip)))
  ((.seq (.reg [.o (.load1 15 (sl 1)),
     .o (.mkf 16 142 [(sl 1)]),
     .o (.call (some 17) (cf 140) [(sl 15), (sl 16)]),
     .o (.un 18 .not (sl 17)),
     .o (.move 2 (sl 18))])
  (.ret))))))
theorem fun_impl_IsMatrix {rin : List T} {args : List A} {Q : List T → T → Prop} (ha : args.length ≤ 19) (h : cW Try.prog 19 c_impl_IsMatrix (retP Try.prog [.tmp 2] rin.length Q) (St.of (enum 0 args) (enum 1000000000 rin))) :
    Fun Try.prog 67 rin args Q :=
  Fun.of (H := ⟨[], []⟩) Try.func67 rfl rfl rfl (by kernel_rfl) ha (by decide) h

def c_spec_IsMatrix : CC :=
  (.seq (.reg [.o (.move 2 (cb false))])
  ((.seq (.seq (.reg [.o (.move 5 (sl 0)),
      .o (.lenS 6 (sl 5)),
      .o (.call (some 7) (cf 100) [(sl 6), (ci 1), (ci 4)]),
      .o (.un 8 .not (sl 7)),
      .o (.move 9 (sl 8)),
      .g 9 false (some 10) (.move 10 (sl 0)),
      .g 9 false (some 11) (.idx 11 1 (sl 10) (ci 0)),
      .g 9 false (some 12) (.load1 12 (sl 11)),
      .g 9 false (some 13) (.lenS 13 (sl 12)),
      .g 9 false (some 14) (.call (some 14) (cf 100) [(sl 13), (ci 1), (ci 4)]),
      .g 9 false (some 15) (.un 15 .not (sl 14)),
      .o (.pick 16 (sl 9) (cb true) (sl 15))])
   ((.cond (sl 16) (.seq (.reg [.o (.move 2 (cb false))])
    (.ret))
    .skip)))
  ((.seq (.seq (.reg [.o (.move 3 (ci 0))])
   ((.block 0 (.loop (.seq (.seq (.reg [.o (.move 17 (sl 3)),
         .o (.move 18 (sl 0)),
         .o (.lenS 19 (sl 18)),
         .o (.bin 20 .lss (sl 17) (sl 19))])
      ((.cond (sl 20) .skip
       (.exit 0))))
     ((.seq (.block 1 (.seq (.seq (.draw [] [(kR, .o (.move 23 (sl 0))),
           (kR, .o (.move 24 (sl 3))),
           (kR, .o (.idx 25 1 (sl 23) (sl 24))),
           (kR, .o (.load1 26 (sl 25))),
           (kR, .o (.lenS 27 (sl 26))),
           (kR, .o (.move 28 (sl 0))),
           (kR, .o (.idx 29 1 (sl 28) (ci 0))),
           (kR, .o (.load1 30 (sl 29))),
           (kR, .o (.lenS 31 (sl 30))),
           (kR, .o (.bin 32 .neq (sl 27) (sl 31)))])
        ((.cond (sl 32) (.seq (.reg [.o (.move 2 (cb false))])
         (.ret))
         .skip)))
       ((.seq (.reg [.o (.move 4 (ci 0))])
       ((.block 2 (.loop (.seq (.seq (.reg [.o (.move 33 (sl 4)),
             .o (.move 34 (sl 0)),
             .o (.move 35 (sl 3)),
             .o (.idx 36 1 (sl 34) (sl 35)),
             .o (.load1 37 (sl 36)),
             .o (.lenS 38 (sl 37)),
             .o (.bin 39 .lss (sl 33) (sl 38))])
          ((.cond (sl 39) .skip
           (.exit 2))))
         ((.seq (.block 3 (.seq (.reg [.o (.move 42 (sl 0)),
              .o (.move 43 (sl 3)),
              .o (.idx 44 1 (sl 42) (sl 43)),
              .o (.load1 45 (sl 44)),
              .o (.move 46 (sl 4)),
              .o (.idx 47 1 (sl 45) (sl 46)),
              .o (.load1 48 (sl 47)),
              .o (.call (some 49) (cf 100) [(sl 48), (ci (-20)), (ci 20)]),
              .o (.un 50 .not (sl 49))])
           ((.cond (sl 50) (.seq (.reg [.o (.move 2 (cb false))])
            (.ret))
            .skip))))
         ((.reg [.o (.move 40 (sl 4)),
           .o (.bin 41 .add (sl 40) (ci 1)),
           .o (.move 4 (sl 41))]))))))))))))
     ((.reg [.o (.move 21 (sl 3)),
       .o (.bin 22 .add (sl 21) (ci 1)),
       .o (.move 3 (sl 22))])))))))))
  ((.seq (.reg [.o (.move 2 (cb true))])
  (.ret))))))))
theorem fun_spec_IsMatrix {rin : List T} {args : List A} {Q : List T → T → Prop} (ha : args.length ≤ 51) (h : cW Try.prog 51 c_spec_IsMatrix (retP Try.prog [.tmp 2] rin.length Q) (St.of (enum 0 args) (enum 1000000000 rin))) :
    Fun Try.prog 68 rin args Q :=
  Fun.of (H := ⟨[], []⟩) Try.func68 rfl rfl rfl (by kernel_rfl) ha (by decide) h

def c_spec_l01From : CC :=
  (.seq (.reg [.o (.move 2 (cv (.pointer none)))])
  ((.seq (.reg [.o (.move 5 (sl 0)),
     .o (.build 6 [.v (.slice none 0 0), .v (.int .i64 0), .v (.int .i64 0)] [(0, 1), (1, 1), (2, 1)] [(0, (sl 5)), (2, (ci 45007))]),
     .o (.box 7 (sl 6)),
     .o (.move 3 (sl 7))])
  ((.seq (.seq (.reg [.o (.move 4 (ci 0))])
   ((.block 0 (.loop (.seq (.seq (.reg [.o (.move 8 (sl 4)),
         .o (.move 9 (sl 0)),
         .o (.lenS 10 (sl 9)),
         .o (.bin 11 .lss (sl 8) (sl 10)),
         .o (.move 12 (sl 11)),
         .g 12 true (some 13) (.move 13 (sl 4)),
         .g 12 true (some 14) (.bin 14 .lss (sl 13) (ci 64)),
         .o (.pick 15 (sl 12) (sl 14) (cb false))])
      ((.cond (sl 15) .skip
       (.exit 0))))
     ((.seq (.block 1 (.draw [] [(kR, .o (.move 18 (sl 3))),
         (kR, .o (.move 19 (sl 3))),
         (kR, .o (.nilc 20 (sl 19))),
         (kR, .o (.fld 21 2 (sl 20))),
         (kR, .o (.load1 22 (sl 21))),
         (kR, .o (.bin 23 .mul (sl 22) (ci 61))),
         (kR, .o (.move 24 (sl 0))),
         (kR, .o (.move 25 (sl 4))),
         (kR, .o (.idx 26 1 (sl 24) (sl 25))),
         (kR, .o (.load1 27 (sl 26))),
         (kR, .o (.conv 28 .i64 (sl 27))),
         (kR, .o (.bin 29 .add (sl 23) (sl 28))),
         (kR, .o (.bin 30 .rem (sl 29) (ci 2147483647))),
         (kR, .o (.nilc 31 (sl 18))),
         (kR, .o (.fld 32 2 (sl 31))),
         (kH, .o (.store 1 (sl 32) (sl 30)))]))
     ((.reg [.o (.move 16 (sl 4)),
       .o (.bin 17 .add (sl 16) (ci 1)),
       .o (.move 4 (sl 17))])))))))))
  ((.seq (.reg [.o (.move 33 (sl 3)),
     .o (.move 2 (sl 33))])
  (.ret))))))))
theorem fun_spec_l01From {rin : List T} {args : List A} {Q : List T → T → Prop} (ha : args.length ≤ 34) (h : cW Try.prog 34 c_spec_l01From (retP Try.prog [.tmp 2] rin.length Q) (St.of (enum 0 args) (enum 1000000000 rin))) :
    Fun Try.prog 94 rin args Q :=
  Fun.of (H := ⟨[], []⟩) Try.func94 rfl rfl rfl (by kernel_rfl) ha (by decide) h

def c_spec_l01Next : CC :=
  (.seq (.reg [.o (.move 4 (ci 0))])
  ((.seq (.seq (.reg [.o (.move 6 (sl 1)),
      .o (.bin 7 .leq (sl 6) (ci 1))])
   ((.cond (sl 7) (.seq (.reg [.o (.move 4 (ci 0))])
    (.ret))
    .skip)))
  ((.seq (.reg [.o (.move 8 (sl 0)),
     .o (.move 9 (sl 0)),
     .o (.nilc 10 (sl 9)),
     .o (.fld 11 2 (sl 10)),
     .o (.load1 12 (sl 11)),
     .o (.bin 13 .mul (sl 12) (ci 48271)),
     .o (.bin 14 .add (sl 13) (ci 29)),
     .o (.bin 15 .rem (sl 14) (ci 2147483647)),
     .o (.nilc 16 (sl 8)),
     .o (.fld 17 2 (sl 16)),
     .o (.store 1 (sl 17) (sl 15))])
  ((.seq (.reg [.o (.move 18 (sl 0)),
     .o (.nilc 19 (sl 18)),
     .o (.fld 20 2 (sl 19)),
     .o (.load1 21 (sl 20)),
     .o (.bin 22 .quo (sl 21) (ci 31)),
     .o (.move 5 (sl 22))])
  ((.seq (.seq (.draw [] [(kR, .o (.move 23 (sl 0))),
      (kR, .o (.nilc 24 (sl 23))),
      (kR, .o (.fld 25 1 (sl 24))),
      (kR, .o (.load1 26 (sl 25))),
      (kR, .o (.move 27 (sl 0))),
      (kR, .o (.nilc 28 (sl 27))),
      (kR, .o (.fld 29 0 (sl 28))),
      (kR, .o (.load1 30 (sl 29))),
      (kR, .o (.lenS 31 (sl 30))),
      (kR, .o (.bin 32 .lss (sl 26) (sl 31)))])
   ((.cond (sl 32) (.seq (.draw [] [(kR, .o (.move 33 (sl 5))),
       (kR, .o (.move 34 (sl 0))),
       (kR, .o (.nilc 35 (sl 34))),
       (kR, .o (.fld 36 0 (sl 35))),
       (kR, .o (.load1 37 (sl 36))),
       (kR, .o (.move 38 (sl 0))),
       (kR, .o (.nilc 39 (sl 38))),
       (kR, .o (.fld 40 1 (sl 39))),
       (kR, .o (.load1 41 (sl 40))),
       (kR, .o (.idx 42 1 (sl 37) (sl 41))),
       (kR, .o (.load1 43 (sl 42))),
       (kR, .o (.conv 44 .i64 (sl 43))),
       (kR, .o (.bin 45 .add (sl 33) (sl 44))),
       (kR, .o (.move 5 (sl 45)))])
    ((.seq (.reg [.o (.move 46 (sl 0)),
       .o (.nilc 47 (sl 46)),
       .o (.fld 48 1 (sl 47)),
       .o (.load1 49 (sl 48)),
       .o (.bin 50 .add (sl 49) (ci 1)),
       .o (.nilc 51 (sl 46)),
       .o (.fld 52 1 (sl 51)),
       .o (.store 1 (sl 52) (sl 50))])
    ((.seq (.reg [.o (.move 53 (sl 1)),
       .o (.bin 54 .leq (sl 53) (ci 256)),
       .o (.move 55 (sl 54)),
       .g 55 true (some 56) (.move 56 (sl 0)),
       .g 55 true (some 57) (.nilc 57 (sl 56)),
       .g 55 true (some 58) (.fld 58 1 (sl 57)),
       .g 55 true (some 59) (.load1 59 (sl 58)),
       .g 55 true (some 60) (.bin 60 .rem (sl 59) (ci 2)),
       .g 55 true (some 61) (.bin 61 .eql (sl 60) (ci 0)),
       .o (.pick 62 (sl 55) (sl 61) (cb false))])
    ((.cond (sl 62) (.draw [] [(kR, .o (.move 63 (sl 0))),
       (kR, .o (.nilc 64 (sl 63))),
       (kR, .o (.fld 65 0 (sl 64))),
       (kR, .o (.load1 66 (sl 65))),
       (kR, .o (.move 67 (sl 0))),
       (kR, .o (.nilc 68 (sl 67))),
       (kR, .o (.fld 69 1 (sl 68))),
       (kR, .o (.load1 70 (sl 69))),
       (kR, .o (.bin 71 .sub (sl 70) (ci 1))),
       (kR, .o (.idx 72 1 (sl 66) (sl 71))),
       (kR, .o (.load1 73 (sl 72))),
       (kR, .o (.conv 74 .i64 (sl 73))),
       (kR, .o (.move 5 (sl 74)))])
     .skip)))))))
    .skip)))
  ((.seq (.reg [.o (.move 75 (sl 5)),
     .o (.move 76 (sl 1)),
     .o (.bin 77 .rem (sl 75) (sl 76)),
     .o (.move 4 (sl 77))])
  (.ret))))))))))))
theorem fun_spec_l01Next {rin : List T} {args : List A} {Q : List T → T → Prop} (ha : args.length ≤ 78) (h : cW Try.prog 78 c_spec_l01Next (retP Try.prog [.tmp 4] rin.length Q) (St.of (enum 0 args) (enum 1000000000 rin))) :
    Fun Try.prog 95 rin args Q :=
  Fun.of (H := ⟨[], []⟩) Try.func95 rfl rfl rfl (by kernel_rfl) ha (by decide) h

def c_spec_l01Pick : CC :=
  (.seq (.reg [.o (.move 4 (ci 0))])
  ((.seq (.reg [.o (.move 5 (sl 1)),
     .o (.move 6 (sl 0)),
     .o (.move 7 (sl 1)),
     .o (.lenS 8 (sl 7)),
     .o (.call (some 9) (cf 95) [(sl 6), (sl 8)]),
     .o (.idx 10 1 (sl 5) (sl 9)),
     .o (.load1 11 (sl 10)),
     .o (.move 4 (sl 11))])
  (.ret))))
theorem fun_spec_l01Pick {rin : List T} {args : List A} {Q : List T → T → Prop} (ha : args.length ≤ 12) (h : cW Try.prog 12 c_spec_l01Pick (retP Try.prog [.tmp 4] rin.length Q) (St.of (enum 0 args) (enum 1000000000 rin))) :
    Fun Try.prog 96 rin args Q :=
  Fun.of (H := ⟨[], []⟩) Try.func96 rfl rfl rfl (by kernel_rfl) ha (by decide) h

def c_impl_within : CC :=
  (.seq (.reg [.o (.move 6 (cb false))])
  ((.seq (.reg [.o (.move 7 (sl 0)),
     .o (.move 8 (sl 1)),
     .o (.bin 9 .geq (sl 7) (sl 8)),
     .o (.move 10 (sl 9)),
     .g 10 true (some 11) (.move 11 (sl 0)),
     .g 10 true (some 12) (.move 12 (sl 2)),
     .g 10 true (some 13) (.bin 13 .leq (sl 11) (sl 12)),
     .o (.pick 14 (sl 10) (sl 13) (cb false)),
     .o (.move 6 (sl 14))])
  (.ret))))
theorem fun_impl_within {rin : List T} {args : List A} {Q : List T → T → Prop} (ha : args.length ≤ 15) (h : cW Try.prog 15 c_impl_within (retP Try.prog [.tmp 6] rin.length Q) (St.of (enum 0 args) (enum 1000000000 rin))) :
    Fun Try.prog 97 rin args Q :=
  Fun.of (H := ⟨[], []⟩) Try.func97 rfl rfl rfl (by kernel_rfl) ha (by decide) h

def c_impl_allWithin : CC :=
  (.seq (.reg [.o (.move 6 (cb false))])
  ((.seq (.seq (.reg [.o (.move 9 (sl 0)),
      .o (.lenS 10 (sl 9)),
      .o (.move 11 (ci 0))])
   ((.block 0 (.loop (.seq (.reg [.o (.bin 12 .lss (sl 11) (sl 10))])
     ((.seq (.cond (sl 12) .skip
       (.exit 0))
     ((.seq (.block 1 (.seq (.reg [.o (.idx 13 1 (sl 9) (sl 11)),
          .o (.load1 14 (sl 13)),
          .o (.move 8 (sl 14))])
       ((.seq (.reg [.o (.move 15 (sl 8)),
          .o (.move 16 (sl 1)),
          .o (.move 17 (sl 2)),
          .o (.call (some 18) (cf 97) [(sl 15), (sl 16), (sl 17)]),
          .o (.un 19 .not (sl 18))])
       ((.cond (sl 19) (.seq (.reg [.o (.move 6 (cb false))])
        (.ret))
        .skip))))))
     ((.reg [.o (.bin 20 .add (sl 11) (ci 1)),
       .o (.move 11 (sl 20))])))))))))))
  ((.seq (.reg [.o (.move 6 (cb true))])
  (.ret))))))
theorem fun_impl_allWithin {rin : List T} {args : List A} {Q : List T → T → Prop} (ha : args.length ≤ 21) (h : cW Try.prog 21 c_impl_allWithin (retP Try.prog [.tmp 6] rin.length Q) (St.of (enum 0 args) (enum 1000000000 rin))) :
    Fun Try.prog 98 rin args Q :=
  Fun.of (H := ⟨[], []⟩) Try.func98 rfl rfl rfl (by kernel_rfl) ha (by decide) h

def c_spec_l01In : CC :=
  (.seq (.reg [.o (.move 6 (cb false))])
  ((.seq (.reg [.o (.move 7 (sl 0)),
     .o (.move 8 (sl 1)),
     .o (.bin 9 .geq (sl 7) (sl 8)),
     .o (.move 10 (sl 9)),
     .g 10 true (some 11) (.move 11 (sl 0)),
     .g 10 true (some 12) (.move 12 (sl 2)),
     .g 10 true (some 13) (.bin 13 .leq (sl 11) (sl 12)),
     .o (.pick 14 (sl 10) (sl 13) (cb false)),
     .o (.move 6 (sl 14))])
  (.ret))))
theorem fun_spec_l01In {rin : List T} {args : List A} {Q : List T → T → Prop} (ha : args.length ≤ 15) (h : cW Try.prog 15 c_spec_l01In (retP Try.prog [.tmp 6] rin.length Q) (St.of (enum 0 args) (enum 1000000000 rin))) :
    Fun Try.prog 100 rin args Q :=
  Fun.of (H := ⟨[], []⟩) Try.func100 rfl rfl rfl (by kernel_rfl) ha (by decide) h

def c_impl_adjugate : CC :=
  (.seq (.reg [.o (.move 2 (cv (.slice none 0 0)))])
  ((.seq (.reg [.o (.move 7 (sl 0)),
     .o (.lenS 8 (sl 7)),
     .o (.make 9 [.v (.slice none 0 0)] 24 (sl 8) (sl 8)),
     .o (.move 3 (sl 9))])
  ((.seq (.seq (.reg [.o (.move 10 (sl 0)),
      .o (.lenS 11 (sl 10)),
      .o (.move 12 (ci 0))])
   ((.block 0 (.loop (.seq (.reg [.o (.bin 13 .lss (sl 12) (sl 11))])
     ((.seq (.cond (sl 13) .skip
       (.exit 0))
     ((.seq (.block 1 (.seq (.reg [.o (.move 14 (sl 12)),
          .o (.move 4 (sl 14))])
       ((.seq (.reg [.o (.move 15 (sl 0)),
          .o (.lenS 16 (sl 15)),
          .o (.move 17 (ci 0))])
       ((.block 2 (.loop (.seq (.reg [.o (.bin 18 .lss (sl 17) (sl 16))])
         ((.seq (.cond (sl 18) .skip
           (.exit 2))
         ((.seq (.block 3 (.seq (.reg [.o (.move 19 (sl 17)),
              .o (.move 5 (sl 19))])
           ((.seq (.reg [.o (.move 20 (sl 0)),
              .o (.move 21 (sl 5)),
              .o (.move 22 (sl 4)),
              .o (.call (some 23) (cf 154) [(sl 20), (sl 21), (sl 22)]),
              .o (.call (some 24) (cf 109) [(sl 23)]),
              .o (.move 6 (sl 24))])
           ((.seq (.seq (.reg [.o (.move 25 (sl 4)),
               .o (.move 26 (sl 5)),
               .o (.bin 27 .add (sl 25) (sl 26)),
               .o (.bin 28 .rem (sl 27) (ci 2)),
               .o (.bin 29 .eql (sl 28) (ci 1))])
            ((.cond (sl 29) (.reg [.o (.move 30 (sl 6)),
               .o (.un 31 .neg (sl 30)),
               .o (.move 6 (sl 31))])
             .skip)))
           ((.reg [.o (.move 32 (sl 3)),
             .o (.move 33 (sl 4)),
             .o (.move 34 (sl 3)),
             .o (.move 35 (sl 4)),
             .o (.idx 36 1 (sl 34) (sl 35)),
             .o (.load1 37 (sl 36)),
             .o (.move 38 (sl 6)),
             .o (.bslice 39 1 1 [(0, (sl 38))]),
             .o (.app 40 1 8 (sl 37) (sl 39)),
             .o (.idx 41 1 (sl 32) (sl 33)),
             .o (.store 1 (sl 41) (sl 40))]))))))))
         ((.reg [.o (.bin 42 .add (sl 17) (ci 1)),
           .o (.move 17 (sl 42))]))))))))))))))
     ((.reg [.o (.bin 43 .add (sl 12) (ci 1)),
       .o (.move 12 (sl 43))])))))))))))
  ((.seq (.reg [.o (.move 44 (sl 3)),
     .o (.move 2 (sl 44))])
  (.ret))))))))
theorem fun_impl_adjugate {rin : List T} {args : List A} {Q : List T → T → Prop} (ha : args.length ≤ 45) (h : cW Try.prog 45 c_impl_adjugate (retP Try.prog [.tmp 2] rin.length Q) (St.of (enum 0 args) (enum 1000000000 rin))) :
    Fun Try.prog 106 rin args Q :=
  Fun.of (H := ⟨[], []⟩) Try.func106 rfl rfl rfl (by kernel_rfl) ha (by decide) h

def c_spec_l27Square : CC :=
  (.seq (.reg [.o (.move 2 (ci 0))])
  ((.seq (.seq (.reg [.o (.move 3 (sl 0)),
      .o (.call (some 4) (cf 68) [(sl 3)]),
      .o (.un 5 .not (sl 4))])
   ((.cond (sl 5) (.seq (.reg [.o (.move 2 (ci 1))])
    (.ret))
    .skip)))
  ((.seq (.seq (.reg [.o (.move 6 (sl 0)),
      .o (.lenS 7 (sl 6)),
      .o (.move 8 (sl 0)),
      .o (.idx 9 1 (sl 8) (ci 0)),
      .o (.load1 10 (sl 9)),
      .o (.lenS 11 (sl 10)),
      .o (.bin 12 .neq (sl 7) (sl 11))])
   ((.cond (sl 12) (.seq (.reg [.o (.move 2 (ci 5))])
    (.ret))
    .skip)))
  ((.seq (.reg [.o (.move 2 (ci 0))])
  (.ret))))))))
theorem fun_spec_l27Square {rin : List T} {args : List A} {Q : List T → T → Prop} (ha : args.length ≤ 13) (h : cW Try.prog 13 c_spec_l27Square (retP Try.prog [.tmp 2] rin.length Q) (St.of (enum 0 args) (enum 1000000000 rin))) :
    Fun Try.prog 107 rin args Q :=
  Fun.of (H := ⟨[], []⟩) Try.func107 rfl rfl rfl (by kernel_rfl) ha (by decide) h

def c_spec_l27Adj : CC :=
  (.seq (.reg [.o (.move 2 (cv (.slice none 0 0)))])
  ((.seq (.reg [.o (.bslice 7 1 0 []),
     .o (.move 3 (sl 7))])
  ((.seq (.seq (.reg [.o (.move 4 (ci 0))])
   ((.block 0 (.loop (.seq (.seq (.reg [.o (.move 8 (sl 4)),
         .o (.move 9 (sl 0)),
         .o (.lenS 10 (sl 9)),
         .o (.bin 11 .lss (sl 8) (sl 10))])
      ((.cond (sl 11) .skip
       (.exit 0))))
     ((.seq (.block 1 (.seq (.reg [.o (.bslice 14 1 0 []),
          .o (.move 5 (sl 14))])
       ((.seq (.seq (.reg [.o (.move 6 (ci 0))])
        ((.block 2 (.loop (.seq (.seq (.reg [.o (.move 15 (sl 6)),
              .o (.move 16 (sl 0)),
              .o (.lenS 17 (sl 16)),
              .o (.bin 18 .lss (sl 15) (sl 17))])
           ((.cond (sl 18) .skip
            (.exit 2))))
          ((.seq (.block 3 (.reg [.o (.move 21 (sl 5)),
              .o (.move 22 (sl 4)),
              .o (.move 23 (sl 6)),
              .o (.bin 24 .add (sl 22) (sl 23)),
              .o (.call (some 25) (cf 155) [(sl 24)]),
              .o (.move 26 (sl 0)),
              .o (.move 27 (sl 6)),
              .o (.move 28 (sl 4)),
              .o (.call (some 29) (cf 156) [(sl 26), (sl 27), (sl 28)]),
              .o (.call (some 30) (cf 110) [(sl 29)]),
              .o (.bin 31 .mul (sl 25) (sl 30)),
              .o (.bslice 32 1 1 [(0, (sl 31))]),
              .o (.app 33 1 8 (sl 21) (sl 32)),
              .o (.move 5 (sl 33))]))
          ((.reg [.o (.move 19 (sl 6)),
            .o (.bin 20 .add (sl 19) (ci 1)),
            .o (.move 6 (sl 20))])))))))))
       ((.reg [.o (.move 34 (sl 3)),
         .o (.move 35 (sl 5)),
         .o (.bslice 36 1 1 [(0, (sl 35))]),
         .o (.app 37 1 24 (sl 34) (sl 36)),
         .o (.move 3 (sl 37))]))))))
     ((.reg [.o (.move 12 (sl 4)),
       .o (.bin 13 .add (sl 12) (ci 1)),
       .o (.move 4 (sl 13))])))))))))
  ((.seq (.reg [.o (.move 38 (sl 3)),
     .o (.move 2 (sl 38))])
  (.ret))))))))
theorem fun_spec_l27Adj {rin : List T} {args : List A} {Q : List T → T → Prop} (ha : args.length ≤ 39) (h : cW Try.prog 39 c_spec_l27Adj (retP Try.prog [.tmp 2] rin.length Q) (St.of (enum 0 args) (enum 1000000000 rin))) :
    Fun Try.prog 108 rin args Q :=
  Fun.of (H := ⟨[], []⟩) Try.func108 rfl rfl rfl (by kernel_rfl) ha (by decide) h

def c_impl_determinant : CC :=
  (.seq (.reg [.o (.move 2 (ci 0))])
  ((.seq (.seq (.reg [.o (.move 7 (sl 0)),
      .o (.lenS 8 (sl 7)),
      .o (.bin 9 .eql (sl 8) (ci 0))])
   ((.cond (sl 9) (.seq (.reg [.o (.move 2 (ci 1))])
    (.ret))
    .skip)))
  ((.seq (.reg [.o (.move 3 (ci 0))])
  ((.seq (.seq (.reg [.o (.move 10 (sl 0)),
      .o (.idx 11 1 (sl 10) (ci 0)),
      .o (.load1 12 (sl 11)),
      .o (.lenS 13 (sl 12)),
      .o (.move 14 (ci 0))])
   ((.block 0 (.loop (.seq (.reg [.o (.bin 15 .lss (sl 14) (sl 13))])
     ((.seq (.cond (sl 15) .skip
       (.exit 0))
     ((.seq (.block 1 (.seq (.reg [.o (.move 16 (sl 14)),
          .o (.idx 17 1 (sl 12) (sl 14)),
          .o (.load1 18 (sl 17)),
          .o (.move 4 (sl 16)),
          .o (.move 5 (sl 18))])
       ((.seq (.reg [.o (.move 19 (sl 5)),
          .o (.move 20 (sl 0)),
          .o (.move 21 (sl 4)),
          .o (.call (some 22) (cf 154) [(sl 20), (ci 0), (sl 21)]),
          .o (.call (some 23) (cf 109) [(sl 22)]),
          .o (.bin 24 .mul (sl 19) (sl 23)),
          .o (.move 6 (sl 24))])
       ((.seq (.seq (.reg [.o (.move 25 (sl 4)),
           .o (.bin 26 .rem (sl 25) (ci 2)),
           .o (.bin 27 .eql (sl 26) (ci 1))])
        ((.cond (sl 27) (.reg [.o (.move 28 (sl 6)),
           .o (.un 29 .neg (sl 28)),
           .o (.move 6 (sl 29))])
         .skip)))
       ((.reg [.o (.move 30 (sl 3)),
         .o (.move 31 (sl 6)),
         .o (.bin 32 .add (sl 30) (sl 31)),
         .o (.move 3 (sl 32))]))))))))
     ((.reg [.o (.bin 33 .add (sl 14) (ci 1)),
       .o (.move 14 (sl 33))])))))))))))
  ((.seq (.reg [.o (.move 34 (sl 3)),
     .o (.move 2 (sl 34))])
  (.ret))))))))))
theorem fun_impl_determinant {rin : List T} {args : List A} {Q : List T → T → Prop} (ha : args.length ≤ 35) (h : cW Try.prog 35 c_impl_determinant (retP Try.prog [.tmp 2] rin.length Q) (St.of (enum 0 args) (enum 1000000000 rin))) :
    Fun Try.prog 109 rin args Q :=
  Fun.of (H := ⟨[], []⟩) Try.func109 rfl rfl rfl (by kernel_rfl) ha (by decide) h

def c_spec_l27Det : CC :=
  (.seq (.reg [.o (.move 2 (ci 0))])
  ((.seq (.seq (.reg [.o (.move 5 (sl 0)),
      .o (.lenS 6 (sl 5)),
      .o (.bin 7 .eql (sl 6) (ci 0))])
   ((.cond (sl 7) (.seq (.reg [.o (.move 2 (ci 1))])
    (.ret))
    .skip)))
  ((.seq (.reg [.o (.move 3 (ci 0))])
  ((.seq (.seq (.reg [.o (.move 4 (ci 0))])
   ((.block 0 (.loop (.seq (.seq (.reg [.o (.move 8 (sl 4)),
         .o (.move 9 (sl 0)),
         .o (.lenS 10 (sl 9)),
         .o (.bin 11 .lss (sl 8) (sl 10))])
      ((.cond (sl 11) .skip
       (.exit 0))))
     ((.seq (.block 1 (.draw [26] [(kR, .o (.move 14 (sl 3))),
         (kR, .o (.move 15 (sl 4))),
         (kR, .o (.call (some 16) (cf 155) [(sl 15)])),
         (kR, .o (.move 17 (sl 0))),
         (kR, .o (.idx 18 1 (sl 17) (ci 0))),
         (kR, .o (.load1 19 (sl 18))),
         (kR, .o (.move 20 (sl 4))),
         (kR, .o (.idx 21 1 (sl 19) (sl 20))),
         (kR, .o (.load1 22 (sl 21))),
         (kR, .o (.bin 23 .mul (sl 16) (sl 22))),
         (kR, .o (.move 24 (sl 0))),
         (kR, .o (.move 25 (sl 4))),
         (.c false [], .o (.call (some 26) (cf 156) [(sl 24), (ci 0), (sl 25)])),
         (kR, .o (.call (some 27) (cf 110) [(sl 26)])),
         (kR, .o (.bin 28 .mul (sl 23) (sl 27))),
         (kR, .o (.bin 29 .add (sl 14) (sl 28))),
         (kR, .o (.move 3 (sl 29)))]))
     ((.reg [.o (.move 12 (sl 4)),
       .o (.bin 13 .add (sl 12) (ci 1)),
       .o (.move 4 (sl 13))])))))))))
  ((.seq (.reg [.o (.move 30 (sl 3)),
     .o (.move 2 (sl 30))])
  (.ret))))))))))
theorem fun_spec_l27Det {rin : List T} {args : List A} {Q : List T → T → Prop} (ha : args.length ≤ 31) (h : cW Try.prog 31 c_spec_l27Det (retP Try.prog [.tmp 2] rin.length Q) (St.of (enum 0 args) (enum 1000000000 rin))) :
    Fun Try.prog 110 rin args Q :=
  Fun.of (H := ⟨[], []⟩) Try.func110 rfl rfl rfl (by kernel_rfl) ha (by decide) h

def c_slices_ContainsFunc_____int64___int64_ : CC :=
  (.seq (.reg [.o (.move 4 (cb false))])
  ((.seq (.reg [.o (.move 5 (sl 0)),
     .o (.move 6 (sl 1)),
     .o (.call (some 7) (cf 169) [(sl 5), (sl 6)]),
     .o (.bin 8 .geq (sl 7) (ci 0)),
     .o (.move 4 (sl 8))])
  (.ret))))
theorem fun_slices_ContainsFunc_____int64___int64_ {rin : List T} {args : List A} {Q : List T → T → Prop} (ha : args.length ≤ 9) (h : cW Try.prog 9 c_slices_ContainsFunc_____int64___int64_ (retP Try.prog [.tmp 4] rin.length Q) (St.of (enum 0 args) (enum 1000000000 rin))) :
    Fun Try.prog 140 rin args Q :=
  Fun.of (H := ⟨[], []⟩) Try.func140 rfl rfl rfl (by kernel_rfl) ha (by decide) h

def c_impl_IsMatrix_1 : CC :=
  (.seq (.reg [.o (.move 3 (cb false))])
  ((.seq (.reg [.o (.move 4 (sl 0)),
     .o (.lenS 5 (sl 4)),
     .o (.load1 6 (sl 1)),
     .o (.idx 7 1 (sl 6) (ci 0)),
     .o (.load1 8 (sl 7)),
     .o (.lenS 9 (sl 8)),
     .o (.bin 10 .neq (sl 5) (sl 9)),
     .o (.move 11 (sl 10)),
     .g 11 false (some 12) (.move 12 (sl 0)),
     .g 11 false (some 13) (.call (some 13) (cf 98) [(sl 12), (ci (-20)), (ci 20)]),
     .g 11 false (some 14) (.un 14 .not (sl 13)),
     .o (.pick 15 (sl 11) (cb true) (sl 14)),
     .o (.move 3 (sl 15))])
  (.ret))))
theorem fun_impl_IsMatrix_1 {rin : List T} {args : List A} {Q : List T → T → Prop} (ha : args.length ≤ 16) (h : cW Try.prog 16 c_impl_IsMatrix_1 (retP Try.prog [.tmp 3] rin.length Q) (St.of (enum 0 args) (enum 1000000000 rin))) :
    Fun Try.prog 142 rin args Q :=
  Fun.of (H := ⟨[], []⟩) Try.func142 rfl rfl rfl (by kernel_rfl) ha (by decide) h

def c_slices_Clone___int64_int64_ : CC :=
  (.seq (.reg [.o (.move 2 (cv (.slice none 0 0)))])
  ((.seq (.seq (.reg [.o (.move 3 (sl 0)),
      .o (.isNil 4 false (sl 3))])
   ((.cond (sl 4) (.seq (.reg [.o (.move 2 (cv (.slice none 0 0)))])
    (.ret))
    .skip)))
  ((.seq (.reg [.o (.bslice 5 1 0 []),
     .o (.move 6 (sl 0)),
     .o (.app 7 1 8 (sl 5) (sl 6)),
     .o (.move 2 (sl 7))])
  (.ret))))))
theorem fun_slices_Clone___int64_int64_ {rin : List T} {args : List A} {Q : List T → T → Prop} (ha : args.length ≤ 8) (h : cW Try.prog 8 c_slices_Clone___int64_int64_ (retP Try.prog [.tmp 2] rin.length Q) (St.of (enum 0 args) (enum 1000000000 rin))) :
    Fun Try.prog 150 rin args Q :=
  Fun.of (H := ⟨[], []⟩) Try.func150 rfl rfl rfl (by kernel_rfl) ha (by decide) h

def c_spec_l01Own : CC :=
  (.seq (.reg [.o (.move 2 (cv (.slice none 0 0)))])
  ((.seq (.reg [.o (.bslice 3 1 0 []),
     .o (.move 4 (sl 0)),
     .o (.app 5 1 8 (sl 3) (sl 4)),
     .o (.move 2 (sl 5))])
  (.ret))))
theorem fun_spec_l01Own {rin : List T} {args : List A} {Q : List T → T → Prop} (ha : args.length ≤ 6) (h : cW Try.prog 6 c_spec_l01Own (retP Try.prog [.tmp 2] rin.length Q) (St.of (enum 0 args) (enum 1000000000 rin))) :
    Fun Try.prog 151 rin args Q :=
  Fun.of (H := ⟨[], []⟩) Try.func151 rfl rfl rfl (by kernel_rfl) ha (by decide) h

def c_spec_l27Part : CC :=
  (.seq (.reg [.o (.move 6 (cv (.slice none 0 0)))])
  ((.seq (.reg [.o (.bslice 11 1 0 []),
     .o (.move 7 (sl 11))])
  ((.seq (.seq (.reg [.o (.move 8 (ci 0))])
   ((.block 0 (.loop (.seq (.seq (.reg [.o (.move 12 (sl 8)),
         .o (.move 13 (sl 1)),
         .o (.lenS 14 (sl 13)),
         .o (.bin 15 .lss (sl 12) (sl 14))])
      ((.cond (sl 15) .skip
       (.exit 0))))
     ((.seq (.block 1 (.seq (.reg [.o (.bslice 18 1 0 []),
          .o (.move 9 (sl 18))])
       ((.seq (.seq (.reg [.o (.move 10 (ci 0))])
        ((.block 2 (.loop (.seq (.seq (.reg [.o (.move 19 (sl 10)),
              .o (.move 20 (sl 2)),
              .o (.lenS 21 (sl 20)),
              .o (.bin 22 .lss (sl 19) (sl 21))])
           ((.cond (sl 22) .skip
            (.exit 2))))
          ((.seq (.block 3 (.draw [39] [(kR, .o (.move 25 (sl 9))),
              (kR, .o (.move 26 (sl 0))),
              (kR, .o (.move 27 (sl 1))),
              (kR, .o (.move 28 (sl 8))),
              (kR, .o (.idx 29 1 (sl 27) (sl 28))),
              (kR, .o (.load1 30 (sl 29))),
              (kR, .o (.idx 31 1 (sl 26) (sl 30))),
              (kR, .o (.load1 32 (sl 31))),
              (kR, .o (.move 33 (sl 2))),
              (kR, .o (.move 34 (sl 10))),
              (kR, .o (.idx 35 1 (sl 33) (sl 34))),
              (kR, .o (.load1 36 (sl 35))),
              (kR, .o (.idx 37 1 (sl 32) (sl 36))),
              (kR, .o (.load1 38 (sl 37))),
              (kN, .o (.bslice 39 1 1 [(0, (sl 38))])),
              (kH, .o (.app 40 1 8 (sl 25) (sl 39))),
              (kR, .o (.move 9 (sl 40)))]))
          ((.reg [.o (.move 23 (sl 10)),
            .o (.bin 24 .add (sl 23) (ci 1)),
            .o (.move 10 (sl 24))])))))))))
       ((.reg [.o (.move 41 (sl 7)),
         .o (.move 42 (sl 9)),
         .o (.bslice 43 1 1 [(0, (sl 42))]),
         .o (.app 44 1 24 (sl 41) (sl 43)),
         .o (.move 7 (sl 44))]))))))
     ((.reg [.o (.move 16 (sl 8)),
       .o (.bin 17 .add (sl 16) (ci 1)),
       .o (.move 8 (sl 17))])))))))))
  ((.seq (.reg [.o (.move 45 (sl 7)),
     .o (.move 6 (sl 45))])
  (.ret))))))))
theorem fun_spec_l27Part {rin : List T} {args : List A} {Q : List T → T → Prop} (ha : args.length ≤ 46) (h : cW Try.prog 46 c_spec_l27Part (retP Try.prog [.tmp 6] rin.length Q) (St.of (enum 0 args) (enum 1000000000 rin))) :
    Fun Try.prog 152 rin args Q :=
  Fun.of (H := ⟨[], []⟩) Try.func152 rfl rfl rfl (by kernel_rfl) ha (by decide) h

def c_spec_l27Numbers : CC :=
  (.seq (.reg [.o (.move 2 (cv (.slice none 0 0)))])
  ((.seq (.reg [.o (.bslice 5 1 0 []),
     .o (.move 3 (sl 5))])
  ((.seq (.seq (.reg [.o (.move 4 (ci 0))])
   ((.block 0 (.loop (.seq (.seq (.reg [.o (.move 6 (sl 4)),
         .o (.move 7 (sl 0)),
         .o (.bin 8 .lss (sl 6) (sl 7))])
      ((.cond (sl 8) .skip
       (.exit 0))))
     ((.seq (.block 1 (.reg [.o (.move 11 (sl 3)),
         .o (.move 12 (sl 4)),
         .o (.bslice 13 1 1 [(0, (sl 12))]),
         .o (.app 14 1 8 (sl 11) (sl 13)),
         .o (.move 3 (sl 14))]))
     ((.reg [.o (.move 9 (sl 4)),
       .o (.bin 10 .add (sl 9) (ci 1)),
       .o (.move 4 (sl 10))])))))))))
  ((.seq (.reg [.o (.move 15 (sl 3)),
     .o (.move 2 (sl 15))])
  (.ret))))))))
theorem fun_spec_l27Numbers {rin : List T} {args : List A} {Q : List T → T → Prop} (ha : args.length ≤ 16) (h : cW Try.prog 16 c_spec_l27Numbers (retP Try.prog [.tmp 2] rin.length Q) (St.of (enum 0 args) (enum 1000000000 rin))) :
    Fun Try.prog 153 rin args Q :=
  Fun.of (H := ⟨[], []⟩) Try.func153 rfl rfl rfl (by kernel_rfl) ha (by decide) h

def c_impl_without : CC :=
  (.seq (.reg [.o (.move 6 (cv (.slice none 0 0)))])
  ((.seq (.reg [.o (.move 7 (cv (.slice none 0 0)))])
  ((.seq (.seq (.reg [.o (.move 10 (sl 0)),
      .o (.lenS 11 (sl 10)),
      .o (.move 12 (ci 0))])
   ((.block 0 (.loop (.seq (.reg [.o (.bin 13 .lss (sl 12) (sl 11))])
     ((.seq (.cond (sl 13) .skip
       (.exit 0))
     ((.seq (.block 1 (.seq (.reg [.o (.move 14 (sl 12)),
          .o (.idx 15 1 (sl 10) (sl 12)),
          .o (.load1 16 (sl 15)),
          .o (.move 8 (sl 14)),
          .o (.move 9 (sl 16))])
       ((.seq (.reg [.o (.move 17 (sl 8)),
          .o (.move 18 (sl 1)),
          .o (.bin 19 .neq (sl 17) (sl 18))])
       ((.cond (sl 19) (.reg [.o (.move 20 (sl 7)),
          .o (.move 21 (sl 9)),
          .o (.call (some 22) (cf 150) [(sl 21)]),
          .o (.move 23 (sl 2)),
          .o (.move 24 (sl 2)),
          .o (.bin 25 .add (sl 24) (ci 1)),
          .o (.call (some 26) (cf 175) [(sl 22), (sl 23), (sl 25)]),
          .o (.bslice 27 1 1 [(0, (sl 26))]),
          .o (.app 28 1 24 (sl 20) (sl 27)),
          .o (.move 7 (sl 28))])
        .skip))))))
     ((.reg [.o (.bin 29 .add (sl 12) (ci 1)),
       .o (.move 12 (sl 29))])))))))))))
  ((.seq (.reg [.o (.move 30 (sl 7)),
     .o (.move 6 (sl 30))])
  (.ret))))))))
theorem fun_impl_without {rin : List T} {args : List A} {Q : List T → T → Prop} (ha : args.length ≤ 31) (h : cW Try.prog 31 c_impl_without (retP Try.prog [.tmp 6] rin.length Q) (St.of (enum 0 args) (enum 1000000000 rin))) :
    Fun Try.prog 154 rin args Q :=
  Fun.of (H := ⟨[], []⟩) Try.func154 rfl rfl rfl (by kernel_rfl) ha (by decide) h

def c_spec_l27Sign : CC :=
  (.seq (.reg [.o (.move 2 (ci 0))])
  ((.seq (.reg [.o (.move 3 (sl 0)),
     .o (.bin 4 .rem (sl 3) (ci 2)),
     .o (.bin 5 .mul (ci 2) (sl 4)),
     .o (.bin 6 .sub (ci 1) (sl 5)),
     .o (.move 2 (sl 6))])
  (.ret))))
theorem fun_spec_l27Sign {rin : List T} {args : List A} {Q : List T → T → Prop} (ha : args.length ≤ 7) (h : cW Try.prog 7 c_spec_l27Sign (retP Try.prog [.tmp 2] rin.length Q) (St.of (enum 0 args) (enum 1000000000 rin))) :
    Fun Try.prog 155 rin args Q :=
  Fun.of (H := ⟨[], []⟩) Try.func155 rfl rfl rfl (by kernel_rfl) ha (by decide) h

def c_spec_l27Without : CC :=
  (.seq (.reg [.o (.move 6 (cv (.slice none 0 0)))])
  ((.seq (.reg [.o (.bslice 10 1 0 []),
     .o (.move 7 (sl 10))])
  ((.seq (.seq (.reg [.o (.move 8 (ci 0))])
   ((.block 0 (.loop (.seq (.seq (.reg [.o (.move 11 (sl 8)),
         .o (.move 12 (sl 0)),
         .o (.lenS 13 (sl 12)),
         .o (.bin 14 .lss (sl 11) (sl 13))])
      ((.cond (sl 14) .skip
       (.exit 0))))
     ((.seq (.block 1 (.seq (.seq (.reg [.o (.move 17 (sl 8)),
           .o (.move 18 (sl 1)),
           .o (.bin 19 .eql (sl 17) (sl 18))])
        ((.cond (sl 19) (.exit 1)
         .skip)))
       ((.seq (.draw [26] [(kR, .o (.move 20 (sl 0))),
          (kR, .o (.move 21 (sl 8))),
          (kR, .o (.idx 22 1 (sl 20) (sl 21))),
          (kR, .o (.load1 23 (sl 22))),
          (kR, .o (.move 24 (sl 2))),
          (kR, .o (.slc 25 1 (sl 23) none (some (sl 24)))),
          (.c false [], .o (.call (some 26) (cf 151) [(sl 25)])),
          (.r false [26], .o (.move 27 (sl 0))),
          (.r false [26], .o (.move 28 (sl 8))),
          (.r false [26], .o (.idx 29 1 (sl 27) (sl 28))),
          (.r false [26], .o (.load1 30 (sl 29))),
          (.r false [26], .o (.move 31 (sl 2))),
          (.r false [26], .o (.bin 32 .add (sl 31) (ci 1))),
          (.r false [26], .o (.slc 33 1 (sl 30) (some (sl 32)) none)),
          (kH, .o (.app 34 1 8 (sl 26) (sl 33))),
          (kR, .o (.move 9 (sl 34)))])
       ((.reg [.o (.move 35 (sl 7)),
         .o (.move 36 (sl 9)),
         .o (.bslice 37 1 1 [(0, (sl 36))]),
         .o (.app 38 1 24 (sl 35) (sl 37)),
         .o (.move 7 (sl 38))]))))))
     ((.reg [.o (.move 15 (sl 8)),
       .o (.bin 16 .add (sl 15) (ci 1)),
       .o (.move 8 (sl 16))])))))))))
  ((.seq (.reg [.o (.move 39 (sl 7)),
     .o (.move 6 (sl 39))])
  (.ret))))))))
theorem fun_spec_l27Without {rin : List T} {args : List A} {Q : List T → T → Prop} (ha : args.length ≤ 40) (h : cW Try.prog 40 c_spec_l27Without (retP Try.prog [.tmp 6] rin.length Q) (St.of (enum 0 args) (enum 1000000000 rin))) :
    Fun Try.prog 156 rin args Q :=
  Fun.of (H := ⟨[], []⟩) Try.func156 rfl rfl rfl (by kernel_rfl) ha (by decide) h

def c_slices_IndexFunc_____int64___int64_ : CC :=
  (.seq (.reg [.o (.move 4 (ci 0))])
  ((.seq (.seq (.reg [.o (.move 6 (sl 0)),
      .o (.lenS 7 (sl 6)),
      .o (.move 8 (ci 0))])
   ((.block 0 (.loop (.seq (.reg [.o (.bin 9 .lss (sl 8) (sl 7))])
     ((.seq (.cond (sl 9) .skip
       (.exit 0))
     ((.seq (.block 1 (.seq (.reg [.o (.move 10 (sl 8)),
          .o (.move 5 (sl 10))])
       ((.seq (.reg [.o (.move 11 (sl 1)),
          .o (.move 12 (sl 0)),
          .o (.move 13 (sl 5)),
          .o (.idx 14 1 (sl 12) (sl 13)),
          .o (.load1 15 (sl 14)),
          .o (.call (some 16) (sl 11) [(sl 15)])])
       ((.cond (sl 16) (.seq (.reg [.o (.move 17 (sl 5)),
           .o (.move 4 (sl 17))])
        (.ret))
        .skip))))))
     ((.reg [.o (.bin 18 .add (sl 8) (ci 1)),
       .o (.move 8 (sl 18))])))))))))))
  ((.seq (.reg [.o (.move 4 (ci (-1)))])
  (.ret))))))
theorem fun_slices_IndexFunc_____int64___int64_ {rin : List T} {args : List A} {Q : List T → T → Prop} (ha : args.length ≤ 19) (h : cW Try.prog 19 c_slices_IndexFunc_____int64___int64_ (retP Try.prog [.tmp 4] rin.length Q) (St.of (enum 0 args) (enum 1000000000 rin))) :
    Fun Try.prog 169 rin args Q :=
  Fun.of (H := ⟨[], []⟩) Try.func169 rfl rfl rfl (by kernel_rfl) ha (by decide) h

end Go.Ab

/- Contracts: whole numbers, IsMatrix. -/
set_option linter.unusedSimpArgs false
set_option linter.unusedVariables false
namespace Go.Ab
open Go.Proofs

theorem impl_within_ok (n lo hi : Int) : Pure Try.prog 97 [.i n, .i lo, .i hi] (.b (decide (lo ≤ n ∧ n ≤ hi))) := by
  refine fun_impl_within (by simp) ?_
  simp -implicitDefEqProofs only [c_impl_within, go_sem, List.reduceReplicate, Nat.reduceEqDiff, Nat.reduceAdd, Nat.reduceLeDiff, Nat.reduceMul, Nat.reduceSub, Nat.reduceDiv, Int.reduceToNat, Nat.reduceLT, Int.reduceLT, Int.reduceLE, ↓reduceIte, reduceCtorEq]
  refine ⟨fun h => ?_, fun h => ?_⟩
  · have : lo ≤ n := h
    simp [this]
  · have : ¬ lo ≤ n := h
    simp [this]

theorem impl_allWithin_ok (l : List Int) (lo hi : Int) (hl : l.length ≤ 1000000000000) : Pure Try.prog 98 [ints l, .i lo, .i hi] (.b (l.all fun x => decide (lo ≤ x ∧ x ≤ hi))) := by
  refine fun_impl_allWithin (by simp) ?_
  simp -implicitDefEqProofs only [c_impl_allWithin, ints, go_sem, List.reduceReplicate, Nat.reduceEqDiff, Nat.reduceAdd, Nat.reduceLeDiff, Nat.reduceMul, Nat.reduceSub, Nat.reduceDiv, Int.reduceToNat, Nat.reduceLT, Int.reduceLT, Int.reduceLE, ↓reduceIte, reduceCtorEq]
  refine SemC.loopR (σ := Nat) (fun i => St.of [(0, .t (ints l)), (1, .t (.i lo)), (2, .t (.i hi)), (6, .t (.b false)), (9, .t (ints l)), (10, .t (.i l.length)), (11, .t (.i i))] []) (fun i => i ≤ l.length ∧ ∀ x ∈ l.take i, lo ≤ x ∧ x ≤ hi) (fun i => l.length - i) 0 (Weak.of _ [] [] (by simp) (by simp) ?_ trivial) ⟨by simp, by simp⟩ fun i hI R hn hr he => ?_
  · simp -implicitDefEqProofs only [ints, Int.add_zero, envOK, maA, maT, upd_apply, Nat.reduceEqDiff, ↓reduceIte, and_true, true_or, or_true, List.map_cons, List.map_nil, Nat.zero_ne_one, and_self, true_and, Int.natCast_zero, Int.cast_ofNat_Int, Int.ofNat_zero]
  · simp -implicitDefEqProofs only [ints, go_sem, List.reduceReplicate, Nat.reduceEqDiff, Nat.reduceAdd, Nat.reduceLeDiff, Nat.reduceMul, Nat.reduceSub, Nat.reduceDiv, Int.reduceToNat, Nat.reduceLT, Int.reduceLT, Int.reduceLE, ↓reduceIte, reduceCtorEq]
    refine ⟨fun h => ⟨by omega, by omega, by omega, fun c x hx hc => ?_⟩, fun h => he _ _ ?_⟩
    · subst hc
      rw [toNat_cast] at hx
      refine CallW.pure (impl_within_ok x lo hi) [] rfl Try.call97 ?_ ?_ rfl ?_
      · simp -implicitDefEqProofs only [vt_self, vaL, vtL, va, vt, vb, maT, List.cons_append, List.nil_append, List.append_nil, true_or, or_true, go_sem, List.reduceReplicate, Nat.reduceEqDiff, Nat.reduceAdd, Nat.reduceLeDiff, Nat.reduceMul, Nat.reduceSub, Nat.reduceDiv, Int.reduceToNat, Nat.reduceLT, Int.reduceLT, Int.reduceLE, ↓reduceIte, reduceCtorEq]
      · trivial
      · simp -implicitDefEqProofs only [go_sem, List.reduceReplicate, Nat.reduceEqDiff, Nat.reduceAdd, Nat.reduceLeDiff, Nat.reduceMul, Nat.reduceSub, Nat.reduceDiv, Int.reduceToNat, Nat.reduceLT, Int.reduceLT, Int.reduceLE, ↓reduceIte, reduceCtorEq]
        refine ⟨fun h1 => hr _ ?_, fun h1 => hn _ (i + 1) (Weak.of _ [] [] (by simp) (by simp) ?_ trivial) ⟨by omega, take_succ_all hx hI.2 (by simpa using h1)⟩ (by omega)⟩
        · simp -implicitDefEqProofs only [go_sem, List.reduceReplicate, Nat.reduceEqDiff, Nat.reduceAdd, Nat.reduceLeDiff, Nat.reduceMul, Nat.reduceSub, Nat.reduceDiv, Int.reduceToNat, Nat.reduceLT, Int.reduceLT, Int.reduceLE, ↓reduceIte, reduceCtorEq]
          have : l.all (fun x => decide (lo ≤ x ∧ x ≤ hi)) = false := by
            rw [List.all_eq_false]
            exact ⟨x, List.mem_of_getElem? hx, by simp at h1 ⊢; omega⟩
          rw [this]
        · simp -implicitDefEqProofs only [ints, Int.add_zero, envOK, maA, maT, upd_apply, Nat.reduceEqDiff, ↓reduceIte, and_true, true_or, or_true, List.map_cons, List.map_nil, Nat.zero_ne_one, and_self, true_and, Int.natCast_zero, Int.cast_ofNat_Int, Int.ofNat_zero, next64 (by omega : i < l.length) hl]
    · simp -implicitDefEqProofs only [go_sem, List.reduceReplicate, Nat.reduceEqDiff, Nat.reduceAdd, Nat.reduceLeDiff, Nat.reduceMul, Nat.reduceSub, Nat.reduceDiv, Int.reduceToNat, Nat.reduceLT, Int.reduceLT, Int.reduceLE, ↓reduceIte, reduceCtorEq]
      have : l.all (fun x => decide (lo ≤ x ∧ x ≤ hi)) = true := by
        rw [List.all_eq_true]
        intro x hx
        have := hI.2 x (by rw [List.take_of_length_le (by omega)]; exact hx)
        simpa using this
      rw [this]
end Go.Ab

/- Contracts: sizes, copies. -/
set_option linter.unusedSimpArgs false
set_option linter.unusedVariables false
namespace Go.Ab
open Go.Proofs

/-- A row that is half written. -/
def filled {α : Type} (l : List α) (f : α → T) (z : T) (i : Nat) : List T := (l.take i).map f ++ List.replicate (l.length - i) z
theorem made_one (z : T) (n : Nat) : made [z] n = List.replicate n z := rfl

end Go.Ab

/- Contracts: IsMatrix. -/
set_option linter.unusedSimpArgs false
set_option linter.unusedVariables false
namespace Go.Ab
open Go.Proofs

theorem spec_l01In_ok (n lo hi : Int) : Pure Try.prog 100 [.i n, .i lo, .i hi] (.b (decide (lo ≤ n ∧ n ≤ hi))) := by
  refine fun_spec_l01In (by simp) ?_
  simp -implicitDefEqProofs only [c_spec_l01In, go_sem, List.reduceReplicate, Nat.reduceEqDiff, Nat.reduceAdd, Nat.reduceLeDiff, Nat.reduceMul, Nat.reduceSub, Nat.reduceDiv, Int.reduceToNat, Nat.reduceLT, Int.reduceLT, Int.reduceLE, ↓reduceIte, reduceCtorEq]
  refine ⟨fun h => ?_, fun h => ?_⟩
  · have : lo ≤ n := h
    simp [this]
  · have : ¬ lo ≤ n := h
    simp [this]

/-- Is m a matrix? -/
def rowOK (n : Nat) (r : List Int) : Bool := decide (r.length = n) && r.all fun x => decide (-20 ≤ x ∧ x ≤ 20)
def isMat (m : List (List Int)) : Bool :=
  decide (1 ≤ m.length ∧ m.length ≤ 4) && decide (1 ≤ (m.headD []).length ∧ (m.headD []).length ≤ 4) && m.all (rowOK (m.headD []).length)

theorem spec_IsMatrix_ok (m : List (List Int)) : Pure Try.prog 68 [rows m] (.b (isMat m)) := by
  refine fun_spec_IsMatrix (by simp) ?_
  simp -implicitDefEqProofs only [c_spec_IsMatrix, rows, go_sem, List.reduceReplicate, Nat.reduceEqDiff, Nat.reduceAdd, Nat.reduceLeDiff, Nat.reduceMul, Nat.reduceSub, Nat.reduceDiv, Int.reduceToNat, Nat.reduceLT, Int.reduceLT, Int.reduceLE, ↓reduceIte, reduceCtorEq, forall_apply_eq_imp_iff₂, ints, rows, rat, rats, toNat_cast]
  refine CallW.pure (spec_l01In_ok m.length 1 4) [] rfl Try.call100 ?_ trivial rfl ?_
  · simp -implicitDefEqProofs only [vt_self, vaL, vtL, va, vt, vb, maT, List.cons_append, List.nil_append, List.append_nil, true_or, or_true, go_sem, List.reduceReplicate, Nat.reduceEqDiff, Nat.reduceAdd, Nat.reduceLeDiff, Nat.reduceMul, Nat.reduceSub, Nat.reduceDiv, Int.reduceToNat, Nat.reduceLT, Int.reduceLT, Int.reduceLE, ↓reduceIte, reduceCtorEq, ints, rows]
  · simp -implicitDefEqProofs only [go_sem, List.reduceReplicate, Nat.reduceEqDiff, Nat.reduceAdd, Nat.reduceLeDiff, Nat.reduceMul, Nat.reduceSub, Nat.reduceDiv, Int.reduceToNat, Nat.reduceLT, Int.reduceLT, Int.reduceLE, ↓reduceIte, reduceCtorEq, forall_apply_eq_imp_iff₂, ints, rows, rat, rats, toNat_cast]
    refine ⟨fun h => ⟨by simp at h; omega, by simp at h; omega, fun r0 h0 => ?_⟩, fun h => ?_⟩
    · have hd0 : m.headD [] = r0 := by cases m <;> simp at h0 ⊢; exact h0
      have hlen : 1 ≤ m.length ∧ m.length ≤ 4 := by simp at h; omega
      refine CallW.pure (spec_l01In_ok r0.length 1 4) [] rfl Try.call100 ?_ trivial rfl ?_
      · simp -implicitDefEqProofs only [vt_self, vaL, vtL, va, vt, vb, maT, List.cons_append, List.nil_append, List.append_nil, true_or, or_true, go_sem, List.reduceReplicate, Nat.reduceEqDiff, Nat.reduceAdd, Nat.reduceLeDiff, Nat.reduceMul, Nat.reduceSub, Nat.reduceDiv, Int.reduceToNat, Nat.reduceLT, Int.reduceLT, Int.reduceLE, ↓reduceIte, reduceCtorEq, ints, rows]
      · simp -implicitDefEqProofs only [go_sem, List.reduceReplicate, Nat.reduceEqDiff, Nat.reduceAdd, Nat.reduceLeDiff, Nat.reduceMul, Nat.reduceSub, Nat.reduceDiv, Int.reduceToNat, Nat.reduceLT, Int.reduceLT, Int.reduceLE, ↓reduceIte, reduceCtorEq, forall_apply_eq_imp_iff₂, ints, rows, rat, rats, toNat_cast]
        refine ⟨fun h1 => ?_, fun h1 => ?_⟩
        · have : isMat m = false := by
            simp only [isMat, hd0, Bool.and_eq_false_iff, decide_eq_false_iff_not]
            simp at h1; omega
          rw [this]
        · have hw : 1 ≤ r0.length ∧ r0.length ≤ 4 := by simp at h1; omega
          refine SemC.loopR (σ := Nat) (fun i => St.of [(0, .t (rows m)), (3, .t (.i i))] []) (fun i => i ≤ m.length ∧ ∀ r ∈ m.take i, rowOK r0.length r = true) (fun i => m.length - i) 0 (Weak.of _ [] [] (by simp) (by simp) ?_ trivial) ⟨by simp, by simp⟩ fun i hI R hn hr he => ?_
          · simp -implicitDefEqProofs only [ints, rows, Int.add_zero, envOK, maA, maT, upd_apply, Nat.reduceEqDiff, ↓reduceIte, and_true, true_or, or_true, List.map_cons, List.map_nil, Nat.zero_ne_one, and_self, true_and, Int.natCast_zero, Int.cast_ofNat_Int, Int.ofNat_zero]
          · simp -implicitDefEqProofs only [go_sem, List.reduceReplicate, Nat.reduceEqDiff, Nat.reduceAdd, Nat.reduceLeDiff, Nat.reduceMul, Nat.reduceSub, Nat.reduceDiv, Int.reduceToNat, Nat.reduceLT, Int.reduceLT, Int.reduceLE, ↓reduceIte, reduceCtorEq, forall_apply_eq_imp_iff₂, ints, rows, rat, rats, toNat_cast]
            refine ⟨fun h => ⟨by omega, by omega, by omega, fun r hrow => ⟨by omega, by omega, fun r0' h0' => ⟨fun h2 => hr _ ?_, fun h2 => ?_⟩⟩⟩, fun h => he _ _ ?_⟩
            · simp -implicitDefEqProofs only [go_sem, List.reduceReplicate, Nat.reduceEqDiff, Nat.reduceAdd, Nat.reduceLeDiff, Nat.reduceMul, Nat.reduceSub, Nat.reduceDiv, Int.reduceToNat, Nat.reduceLT, Int.reduceLT, Int.reduceLE, ↓reduceIte, reduceCtorEq, forall_apply_eq_imp_iff₂, ints, rows, rat, rats, toNat_cast]
              rw [h0] at h0'; cases h0'
              have : isMat m = false := by
                simp only [isMat, hd0, Bool.and_eq_false_iff]
                right
                rw [List.all_eq_false]
                exact ⟨r, List.mem_of_getElem? hrow, by simp [rowOK]; intro h3; simp at h2; omega⟩
              rw [this]
            · rw [h0] at h0'; cases h0'
              have hrl : r.length = r0.length := by simp at h2; omega
              refine SemC.loopR (σ := Nat) (fun k => St.of [(0, .t (rows m)), (3, .t (.i i)), (4, .t (.i k))] []) (fun k => k ≤ r.length ∧ ∀ x ∈ r.take k, -20 ≤ x ∧ x ≤ 20) (fun k => r.length - k) 0 (Weak.of _ [] [] (by simp) (by simp) ?_ trivial) ⟨by simp, by simp⟩ fun k hK R2 hn2 hr2 he2 => ?_
              · simp -implicitDefEqProofs only [ints, rows, Int.add_zero, envOK, maA, maT, upd_apply, Nat.reduceEqDiff, ↓reduceIte, and_true, true_or, or_true, List.map_cons, List.map_nil, Nat.zero_ne_one, and_self, true_and, Int.natCast_zero, Int.cast_ofNat_Int, Int.ofNat_zero]
              · simp -implicitDefEqProofs only [go_sem, List.reduceReplicate, Nat.reduceEqDiff, Nat.reduceAdd, Nat.reduceLeDiff, Nat.reduceMul, Nat.reduceSub, Nat.reduceDiv, Int.reduceToNat, Nat.reduceLT, Int.reduceLT, Int.reduceLE, ↓reduceIte, reduceCtorEq, forall_apply_eq_imp_iff₂, ints, rows, rat, rats, toNat_cast]
                refine ⟨by omega, by omega, by omega, fun r' hr' => ?_⟩
                rw [hrow] at hr'; cases hr'
                refine ⟨fun h3 => ⟨by omega, by omega, by omega, fun r' hr' => ?_⟩, fun h3 => he2 _ _ ?_⟩
                · rw [hrow] at hr'; cases hr'
                  refine ⟨by omega, by omega, by omega, fun x hx => ?_⟩
                  refine CallW.pure (spec_l01In_ok x (-20) 20) [] rfl Try.call100 ?_ trivial rfl ?_
                  · simp -implicitDefEqProofs only [vt_self, vaL, vtL, va, vt, vb, maT, List.cons_append, List.nil_append, List.append_nil, true_or, or_true, go_sem, List.reduceReplicate, Nat.reduceEqDiff, Nat.reduceAdd, Nat.reduceLeDiff, Nat.reduceMul, Nat.reduceSub, Nat.reduceDiv, Int.reduceToNat, Nat.reduceLT, Int.reduceLT, Int.reduceLE, ↓reduceIte, reduceCtorEq, ints, rows]
                  · simp -implicitDefEqProofs only [go_sem, List.reduceReplicate, Nat.reduceEqDiff, Nat.reduceAdd, Nat.reduceLeDiff, Nat.reduceMul, Nat.reduceSub, Nat.reduceDiv, Int.reduceToNat, Nat.reduceLT, Int.reduceLT, Int.reduceLE, ↓reduceIte, reduceCtorEq, forall_apply_eq_imp_iff₂, ints, rows, rat, rats, toNat_cast]
                    refine ⟨fun h4 => hr2 _ ?_, fun h4 => hn2 _ (k + 1) (Weak.of _ [] [] (by simp) (by simp) ?_ trivial) ⟨by omega, take_succ_all hx hK.2 (by simpa using h4)⟩ (by omega)⟩
                    · simp -implicitDefEqProofs only [go_sem, List.reduceReplicate, Nat.reduceEqDiff, Nat.reduceAdd, Nat.reduceLeDiff, Nat.reduceMul, Nat.reduceSub, Nat.reduceDiv, Int.reduceToNat, Nat.reduceLT, Int.reduceLT, Int.reduceLE, ↓reduceIte, reduceCtorEq, forall_apply_eq_imp_iff₂, ints, rows, rat, rats, toNat_cast]
                      refine hr _ ?_
                      simp -implicitDefEqProofs only [go_sem, List.reduceReplicate, Nat.reduceEqDiff, Nat.reduceAdd, Nat.reduceLeDiff, Nat.reduceMul, Nat.reduceSub, Nat.reduceDiv, Int.reduceToNat, Nat.reduceLT, Int.reduceLT, Int.reduceLE, ↓reduceIte, reduceCtorEq, forall_apply_eq_imp_iff₂, ints, rows, rat, rats, toNat_cast]
                      have : isMat m = false := by
                        simp only [isMat, hd0, Bool.and_eq_false_iff]
                        right
                        rw [List.all_eq_false]
                        refine ⟨r, List.mem_of_getElem? hrow, ?_⟩
                        simp only [rowOK, Bool.and_eq_true, not_and, List.all_eq_true]
                        intro _ h5
                        have := h5 x (List.mem_of_getElem? hx)
                        rw [this] at h4
                        cases h4
                      rw [this]
                    · simp -implicitDefEqProofs only [ints, rows, Int.add_zero, envOK, maA, maT, upd_apply, Nat.reduceEqDiff, ↓reduceIte, and_true, true_or, or_true, List.map_cons, List.map_nil, Nat.zero_ne_one, and_self, true_and, Int.natCast_zero, Int.cast_ofNat_Int, Int.ofNat_zero, next64 (by omega : k < r.length) (by omega)]
                · simp -implicitDefEqProofs only [go_sem, List.reduceReplicate, Nat.reduceEqDiff, Nat.reduceAdd, Nat.reduceLeDiff, Nat.reduceMul, Nat.reduceSub, Nat.reduceDiv, Int.reduceToNat, Nat.reduceLT, Int.reduceLT, Int.reduceLE, ↓reduceIte, reduceCtorEq, forall_apply_eq_imp_iff₂, ints, rows, rat, rats, toNat_cast]
                  refine hn _ (i + 1) (Weak.of _ [] [] (by simp) (by simp) ?_ trivial) ⟨by omega, take_succ_all hrow hI.2 ?_⟩ (by omega)
                  · simp -implicitDefEqProofs only [ints, rows, Int.add_zero, envOK, maA, maT, upd_apply, Nat.reduceEqDiff, ↓reduceIte, and_true, true_or, or_true, List.map_cons, List.map_nil, Nat.zero_ne_one, and_self, true_and, Int.natCast_zero, Int.cast_ofNat_Int, Int.ofNat_zero, next64 (by omega : i < m.length) (by omega)]
                  · simp only [rowOK, hrl, decide_true, Bool.true_and, List.all_eq_true, decide_eq_true_eq]
                    intro x hx
                    exact hK.2 x (by rw [List.take_of_length_le (by omega)]; exact hx)
            · simp -implicitDefEqProofs only [go_sem, List.reduceReplicate, Nat.reduceEqDiff, Nat.reduceAdd, Nat.reduceLeDiff, Nat.reduceMul, Nat.reduceSub, Nat.reduceDiv, Int.reduceToNat, Nat.reduceLT, Int.reduceLT, Int.reduceLE, ↓reduceIte, reduceCtorEq, forall_apply_eq_imp_iff₂, ints, rows, rat, rats, toNat_cast]
              have : isMat m = true := by
                simp only [isMat, hd0, Bool.and_eq_true, decide_eq_true_eq, List.all_eq_true]
                refine ⟨⟨hlen, hw⟩, fun r hr' => hI.2 r ?_⟩
                rw [List.take_of_length_le (by omega)]; exact hr'
              rw [this]
    · have : isMat m = false := by
        simp only [isMat, Bool.and_eq_false_iff, decide_eq_false_iff_not]
        simp at h; omega
      simp [this]
end Go.Ab

/- Contracts: impl.IsMatrix. -/
set_option linter.unusedSimpArgs false
set_option linter.unusedVariables false
namespace Go.Ab
open Go.Proofs

theorem impl_IsMatrix_1_ok (m : List (List Int)) (r r0 : List Int) (h0 : m[0]? = some r0) (hr : r.length ≤ 1000000000000) : Pure Try.prog 142 [ints r, .pin [rows m] 0] (.b (!rowOK r0.length r)) := by
  refine fun_impl_IsMatrix_1 (by simp) ?_
  simp -implicitDefEqProofs only [c_impl_IsMatrix_1, go_sem, List.reduceReplicate, Nat.reduceEqDiff, Nat.reduceAdd, Nat.reduceLeDiff, Nat.reduceMul, Nat.reduceSub, Nat.reduceDiv, Int.reduceToNat, Nat.reduceLT, Int.reduceLT, Int.reduceLE, ↓reduceIte, reduceCtorEq, forall_apply_eq_imp_iff₂, ints, rows, rat, rats, toNat_cast]
  have hlt : 0 < m.length := (List.getElem?_eq_some_iff.1 h0).1
  refine ⟨by omega, by omega, fun a ha => ?_⟩
  rw [h0] at ha; cases ha
  refine ⟨fun h => ?_, fun h => ?_⟩
  · have hl : r.length = r0.length := by simp at h; omega
    refine CallW.pure (impl_allWithin_ok r (-20) 20 hr) [] rfl Try.call98 ?_ trivial rfl ?_
    · simp -implicitDefEqProofs only [vt_self, vaL, vtL, va, vt, vb, maT, List.cons_append, List.nil_append, List.append_nil, true_or, or_true, go_sem, List.reduceReplicate, Nat.reduceEqDiff, Nat.reduceAdd, Nat.reduceLeDiff, Nat.reduceMul, Nat.reduceSub, Nat.reduceDiv, Int.reduceToNat, Nat.reduceLT, Int.reduceLT, Int.reduceLE, ↓reduceIte, reduceCtorEq, ints, rows]
    · simp -implicitDefEqProofs only [go_sem, List.reduceReplicate, Nat.reduceEqDiff, Nat.reduceAdd, Nat.reduceLeDiff, Nat.reduceMul, Nat.reduceSub, Nat.reduceDiv, Int.reduceToNat, Nat.reduceLT, Int.reduceLT, Int.reduceLE, ↓reduceIte, reduceCtorEq, forall_apply_eq_imp_iff₂, ints, rows, rat, rats, toNat_cast]
      simp [rowOK, hl]
  · have hl : r.length ≠ r0.length := by simp at h; omega
    simp [rowOK, hl]
end Go.Ab

/- Contracts: slices.IndexFunc, slices.ContainsFunc, impl.IsMatrix. -/
set_option linter.unusedSimpArgs false
set_option linter.unusedVariables false
namespace Go.Ab
open Go.Proofs

theorem vaL_self (S : St) (bor : List Nat) : ∀ l : List T, vaL S [] bor (l.map A.t) (l.map A.t) = True
  | [] => by simp [vaL]
  | x :: l => by simp only [List.map_cons, vaL, va, vt_self, vaL_self S bor l, and_self]

theorem slices_IndexFunc_ok (m : List (List Int)) (hm : (m.length : Int) ≤ 1000000000000) (f : Nat) (cap : List T) (p : List Int → Bool) (hcall : ∀ args w, (callFunc f args).run Try.prog w = .ok (.enter f args) w)
    (hf : ∀ r ∈ m, Pure Try.prog f (ints r :: cap) (.b (p r))) : Pure Try.prog 169 [rows m, .fn f cap] (.i (match m.findIdx? p with | some i => (i : Int) | none => -1)) := by
  refine fun_slices_IndexFunc_____int64___int64_ (by simp) ?_
  simp -implicitDefEqProofs only [c_slices_IndexFunc_____int64___int64_, go_sem, List.reduceReplicate, Nat.reduceEqDiff, Nat.reduceAdd, Nat.reduceLeDiff, Nat.reduceMul, Nat.reduceSub, Nat.reduceDiv, Int.reduceToNat, Nat.reduceLT, Int.reduceLT, Int.reduceLE, ↓reduceIte, reduceCtorEq, forall_apply_eq_imp_iff₂, ints, rows, rat, rats, toNat_cast]
  refine SemC.loopR (σ := Nat) (fun i => St.of [(0, .t (rows m)), (1, .t (.fn f cap)), (6, .t (rows m)), (7, .t (.i m.length)), (8, .t (.i i))] []) (fun i => i ≤ m.length ∧ ∀ r ∈ m.take i, p r = false) (fun i => m.length - i) 0 (Weak.of _ [] [] (by simp) (by simp) ?_ trivial) ⟨by simp, by simp⟩ fun i hI R hn hr he => ?_
  · simp -implicitDefEqProofs only [ints, rows, Int.add_zero, envOK, maA, maT, upd_apply, Nat.reduceEqDiff, ↓reduceIte, and_true, true_or, or_true, List.map_cons, List.map_nil, Nat.zero_ne_one, and_self, true_and, Int.natCast_zero, Int.cast_ofNat_Int, Int.ofNat_zero]
  · simp -implicitDefEqProofs only [go_sem, List.reduceReplicate, Nat.reduceEqDiff, Nat.reduceAdd, Nat.reduceLeDiff, Nat.reduceMul, Nat.reduceSub, Nat.reduceDiv, Int.reduceToNat, Nat.reduceLT, Int.reduceLT, Int.reduceLE, ↓reduceIte, reduceCtorEq, forall_apply_eq_imp_iff₂, ints, rows, rat, rats, toNat_cast]
    refine ⟨fun h => ⟨by omega, by omega, by omega, fun r hrow => ?_⟩, fun h => he _ _ ?_⟩
    · refine CallW.pure (hf r (List.mem_of_getElem? hrow)) [] rfl hcall ?_ trivial rfl ?_
      · simp only [List.map_cons, List.map_nil, List.cons_append, List.nil_append, vaL, va, vaL_self, and_true]
        simp -implicitDefEqProofs only [vt_self, vaL, vtL, va, vt, vb, maT, List.cons_append, List.nil_append, List.append_nil, true_or, or_true, go_sem, List.reduceReplicate, Nat.reduceEqDiff, Nat.reduceAdd, Nat.reduceLeDiff, Nat.reduceMul, Nat.reduceSub, Nat.reduceDiv, Int.reduceToNat, Nat.reduceLT, Int.reduceLT, Int.reduceLE, ↓reduceIte, reduceCtorEq, ints, rows]
      · simp -implicitDefEqProofs only [go_sem, List.reduceReplicate, Nat.reduceEqDiff, Nat.reduceAdd, Nat.reduceLeDiff, Nat.reduceMul, Nat.reduceSub, Nat.reduceDiv, Int.reduceToNat, Nat.reduceLT, Int.reduceLT, Int.reduceLE, ↓reduceIte, reduceCtorEq, forall_apply_eq_imp_iff₂, ints, rows, rat, rats, toNat_cast]
        refine ⟨fun h1 => hr _ ?_, fun h1 => hn _ (i + 1) (Weak.of _ [] [] (by simp) (by simp) ?_ trivial) ⟨by omega, take_succ_all hrow hI.2 h1⟩ (by omega)⟩
        · simp -implicitDefEqProofs only [go_sem, List.reduceReplicate, Nat.reduceEqDiff, Nat.reduceAdd, Nat.reduceLeDiff, Nat.reduceMul, Nat.reduceSub, Nat.reduceDiv, Int.reduceToNat, Nat.reduceLT, Int.reduceLT, Int.reduceLE, ↓reduceIte, reduceCtorEq, forall_apply_eq_imp_iff₂, ints, rows, rat, rats, toNat_cast]
          have : m.findIdx? p = some i := by
            obtain ⟨hi, rfl⟩ := List.getElem?_eq_some_iff.1 hrow
            rw [List.findIdx?_eq_some_iff_getElem]
            exact ⟨hi, h1, fun j hj => by simpa using hI.2 m[j] (List.mem_take_iff_getElem.2 ⟨j, by omega, rfl⟩)⟩
          rw [this]
        · simp -implicitDefEqProofs only [ints, rows, Int.add_zero, envOK, maA, maT, upd_apply, Nat.reduceEqDiff, ↓reduceIte, and_true, true_or, or_true, List.map_cons, List.map_nil, Nat.zero_ne_one, and_self, true_and, Int.natCast_zero, Int.cast_ofNat_Int, Int.ofNat_zero, next64 (by omega : i < m.length) (by omega)]
    · simp -implicitDefEqProofs only [go_sem, List.reduceReplicate, Nat.reduceEqDiff, Nat.reduceAdd, Nat.reduceLeDiff, Nat.reduceMul, Nat.reduceSub, Nat.reduceDiv, Int.reduceToNat, Nat.reduceLT, Int.reduceLT, Int.reduceLE, ↓reduceIte, reduceCtorEq, forall_apply_eq_imp_iff₂, ints, rows, rat, rats, toNat_cast]
      have : m.findIdx? p = none := by
        rw [List.findIdx?_eq_none_iff]
        intro r hr'
        exact hI.2 r (by rw [List.take_of_length_le (by omega)]; exact hr')
      rw [this]

theorem slices_ContainsFunc_ok (m : List (List Int)) (hm : (m.length : Int) ≤ 1000000000000) (f : Nat) (cap : List T) (p : List Int → Bool) (hcall : ∀ args w, (callFunc f args).run Try.prog w = .ok (.enter f args) w)
    (hf : ∀ r ∈ m, Pure Try.prog f (ints r :: cap) (.b (p r))) : Pure Try.prog 140 [rows m, .fn f cap] (.b (m.any p)) := by
  refine fun_slices_ContainsFunc_____int64___int64_ (by simp) ?_
  simp -implicitDefEqProofs only [c_slices_ContainsFunc_____int64___int64_, go_sem, List.reduceReplicate, Nat.reduceEqDiff, Nat.reduceAdd, Nat.reduceLeDiff, Nat.reduceMul, Nat.reduceSub, Nat.reduceDiv, Int.reduceToNat, Nat.reduceLT, Int.reduceLT, Int.reduceLE, ↓reduceIte, reduceCtorEq, forall_apply_eq_imp_iff₂, ints, rows, rat, rats, toNat_cast]
  refine CallW.pure (slices_IndexFunc_ok m hm f cap p hcall hf) [] rfl Try.call169 ?_ trivial rfl ?_
  · simp -implicitDefEqProofs only [vt_self, vaL, vtL, va, vt, vb, maT, List.cons_append, List.nil_append, List.append_nil, true_or, or_true, go_sem, List.reduceReplicate, Nat.reduceEqDiff, Nat.reduceAdd, Nat.reduceLeDiff, Nat.reduceMul, Nat.reduceSub, Nat.reduceDiv, Int.reduceToNat, Nat.reduceLT, Int.reduceLT, Int.reduceLE, ↓reduceIte, reduceCtorEq, ints, rows]
  · simp -implicitDefEqProofs only [go_sem, List.reduceReplicate, Nat.reduceEqDiff, Nat.reduceAdd, Nat.reduceLeDiff, Nat.reduceMul, Nat.reduceSub, Nat.reduceDiv, Int.reduceToNat, Nat.reduceLT, Int.reduceLT, Int.reduceLE, ↓reduceIte, reduceCtorEq, forall_apply_eq_imp_iff₂, ints, rows, rat, rats, toNat_cast]
    rw [← List.findIdx?_isSome]
    cases m.findIdx? p <;> simp
end Go.Ab

/- Contracts: impl.IsMatrix. -/
set_option linter.unusedSimpArgs false
set_option linter.unusedVariables false
namespace Go.Ab
open Go.Proofs

theorem impl_IsMatrix_ok (m : List (List Int)) (hm : (m.length : Int) ≤ 1000000000000) (hr : ∀ r ∈ m, r.length ≤ 1000000000000) : Pure Try.prog 67 [rows m] (.b (isMat m)) := by
  refine fun_impl_IsMatrix (by simp) ?_
  simp -implicitDefEqProofs only [c_impl_IsMatrix, go_sem, List.reduceReplicate, Nat.reduceEqDiff, Nat.reduceAdd, Nat.reduceLeDiff, Nat.reduceMul, Nat.reduceSub, Nat.reduceDiv, Int.reduceToNat, Nat.reduceLT, Int.reduceLT, Int.reduceLE, ↓reduceIte, reduceCtorEq, forall_apply_eq_imp_iff₂, ints, rows, rat, rats, toNat_cast]
  refine CallW.pure (impl_within_ok m.length 1 4) [] rfl Try.call97 ?_ trivial rfl ?_
  · simp -implicitDefEqProofs only [vt_self, vaL, vtL, va, vt, vb, maT, List.cons_append, List.nil_append, List.append_nil, true_or, or_true, go_sem, List.reduceReplicate, Nat.reduceEqDiff, Nat.reduceAdd, Nat.reduceLeDiff, Nat.reduceMul, Nat.reduceSub, Nat.reduceDiv, Int.reduceToNat, Nat.reduceLT, Int.reduceLT, Int.reduceLE, ↓reduceIte, reduceCtorEq, ints, rows]
  · simp -implicitDefEqProofs only [go_sem, List.reduceReplicate, Nat.reduceEqDiff, Nat.reduceAdd, Nat.reduceLeDiff, Nat.reduceMul, Nat.reduceSub, Nat.reduceDiv, Int.reduceToNat, Nat.reduceLT, Int.reduceLT, Int.reduceLE, ↓reduceIte, reduceCtorEq, forall_apply_eq_imp_iff₂, ints, rows, rat, rats, toNat_cast]
    refine ⟨fun h => ?_, fun h => ?_⟩
    · have hlen : 1 ≤ m.length ∧ m.length ≤ 4 := by simp at h; omega
      refine ⟨by omega, by omega, fun r0 h0 => ?_⟩
      have hd0 : m.headD [] = r0 := by cases m <;> simp at h0 ⊢; exact h0
      refine CallW.pure (impl_within_ok r0.length 1 4) [] rfl Try.call97 ?_ trivial rfl ?_
      · simp -implicitDefEqProofs only [vt_self, vaL, vtL, va, vt, vb, maT, List.cons_append, List.nil_append, List.append_nil, true_or, or_true, go_sem, List.reduceReplicate, Nat.reduceEqDiff, Nat.reduceAdd, Nat.reduceLeDiff, Nat.reduceMul, Nat.reduceSub, Nat.reduceDiv, Int.reduceToNat, Nat.reduceLT, Int.reduceLT, Int.reduceLE, ↓reduceIte, reduceCtorEq, ints, rows]
      · simp -implicitDefEqProofs only [go_sem, List.reduceReplicate, Nat.reduceEqDiff, Nat.reduceAdd, Nat.reduceLeDiff, Nat.reduceMul, Nat.reduceSub, Nat.reduceDiv, Int.reduceToNat, Nat.reduceLT, Int.reduceLT, Int.reduceLE, ↓reduceIte, reduceCtorEq, forall_apply_eq_imp_iff₂, ints, rows, rat, rats, toNat_cast]
        refine ⟨fun h1 => ?_, fun h1 => ?_⟩
        · have : isMat m = false := by
            simp only [isMat, hd0, Bool.and_eq_false_iff, decide_eq_false_iff_not]
            simp at h1; omega
          rw [this]
        · have hw : 1 ≤ r0.length ∧ r0.length ≤ 4 := by simp at h1; omega
          refine CallW.pure (slices_ContainsFunc_ok m hm 142 [.pin [rows m] 0] (fun r => !rowOK r0.length r) Try.call142 (fun r hr' => impl_IsMatrix_1_ok m r r0 h0 (hr r hr'))) [1] rfl Try.call140 ?_ trivial rfl ?_
          · simp -implicitDefEqProofs only [vt_self, vaL, vtL, va, vt, vb, maT, List.cons_append, List.nil_append, List.append_nil, true_or, or_true, go_sem, List.reduceReplicate, Nat.reduceEqDiff, Nat.reduceAdd, Nat.reduceLeDiff, Nat.reduceMul, Nat.reduceSub, Nat.reduceDiv, Int.reduceToNat, Nat.reduceLT, Int.reduceLT, Int.reduceLE, ↓reduceIte, reduceCtorEq, ints, rows]
            refine ⟨by simp, _, rfl, ?_⟩
            have : T.toShL (m.map ints) = m.map ints := by
              rw [T.toShL_eq_map, List.map_map]
              refine List.map_congr_left fun r _ => ?_
              simp only [Function.comp, ints, T.toSh]
            simp only [T.toSh, T.toShL]
          · simp -implicitDefEqProofs only [go_sem, List.reduceReplicate, Nat.reduceEqDiff, Nat.reduceAdd, Nat.reduceLeDiff, Nat.reduceMul, Nat.reduceSub, Nat.reduceDiv, Int.reduceToNat, Nat.reduceLT, Int.reduceLT, Int.reduceLE, ↓reduceIte, reduceCtorEq, forall_apply_eq_imp_iff₂, ints, rows, rat, rats, toNat_cast]
            have : isMat m = m.all (rowOK r0.length) := by rw [isMat, hd0]; simp [hlen, hw]
            rw [this, List.not_any_eq_all_not]; simp
    · have : isMat m = false := by
        simp only [isMat, Bool.and_eq_false_iff, decide_eq_false_iff_not]
        simp at h; omega
      simp [this]
end Go.Ab

/- Contracts: copies of rows, least and greatest numbers, marks. -/
set_option linter.unusedSimpArgs false
set_option linter.unusedVariables false
namespace Go.Ab
open Go.Proofs

theorem spec_l01Own_ok (l : List Int) (hl : l.length ≤ 1000000000000) : Fun Try.prog 151 [] [.t (ints l)] fun o r => o = [] ∧ r = intsO l := by
  refine fun_spec_l01Own (by simp) ?_
  simp -implicitDefEqProofs only [c_spec_l01Own, ints, go_sem, List.reduceReplicate, Nat.reduceEqDiff, Nat.reduceAdd, Nat.reduceLeDiff, Nat.reduceMul, Nat.reduceSub, Nat.reduceDiv, Int.reduceToNat, Nat.reduceLT, Int.reduceLT, Int.reduceLE, ↓reduceIte, reduceCtorEq]
  exact ⟨by omega, rfl⟩

theorem slices_Clone_ok (l : List Int) (hl : l.length ≤ 1000000000000) : Fun Try.prog 150 [] [.t (ints l)] fun o r => o = [] ∧ r = intsO l := by
  refine Fun.le (Q := fun o r => o = [] ∧ (r = intsO l ∨ (l = [] ∧ r = .v (.slice none 0 0)))) ?_ ?_
  · refine fun_slices_Clone___int64_int64_ (by simp) ?_
    simp -implicitDefEqProofs only [c_slices_Clone___int64_int64_, ints, go_sem, List.reduceReplicate, Nat.reduceEqDiff, Nat.reduceAdd, Nat.reduceLeDiff, Nat.reduceMul, Nat.reduceSub, Nat.reduceDiv, Int.reduceToNat, Nat.reduceLT, Int.reduceLT, Int.reduceLE, ↓reduceIte, reduceCtorEq]
    intro b hb
    exact ⟨fun h => .inr (by simpa using hb h), fun _ => ⟨by omega, .inl rfl⟩⟩
  · rintro o r ⟨rfl, rfl | ⟨rfl, rfl⟩⟩
    · exact ⟨_, .refl _, rfl, rfl⟩
    · exact ⟨_, .nilArr 1, rfl, rfl⟩

theorem take_snoc {α : Type} {l : List α} {i : Nat} {x : α} (h : l[i]? = some x) : l.take (i + 1) = l.take i ++ [x] := by
  rw [List.take_add_one, h]; rfl

/-- The marks k, k + 1 .. -/
def marks : Nat → Int → List Int
  | 0, _ => []
  | n + 1, k => k :: marks n (k + 1)
/-- Are the marks there? -/
def held : List Int → Int → Int
  | [], k => k
  | x :: l, k => if x = k then held l (k + 1) else -1
end Go.Ab

/- Contracts: HalvedWeights. -/
set_option linter.unusedSimpArgs false
set_option linter.unusedVariables false
namespace Go.Ab
open Go.Proofs

/-- The greatest number, at least 0. -/
def mx0 (l : List Int) : Int := l.foldl max 0
def half (l : List Int) : List Int := l.map fun x => x / 2
/-- Halved as often as a number is too great. -/
def hvd : Nat → List Int → List Int
  | 0, l => l
  | f + 1, l => if mx0 l ≤ 1000000000 then l else hvd f (half l)

/-- Half way through a halving. -/
def hpart (l : List Int) (i : Nat) : List Int := half (l.take i) ++ l.drop i
def W (f : Nat) : Int := ((2 ^ (29 + f) : Nat) : Int)
/-- What HalvedWeights returns. -/
def hw (l : List Int) : List Int × Int := if 1 ≤ l.length ∧ l.length ≤ 4 ∧ ∀ x ∈ l, 0 ≤ x then (hvd 34 l, 0) else ([], 2)
end Go.Ab


/- Contracts: the turned matrix. -/
set_option linter.unusedSimpArgs false
set_option linter.unusedVariables false
namespace Go.Ab
open Go.Proofs

/-- All rows have c numbers. -/
def rect (m : List (List Int)) (c : Nat) : Prop := ∀ r ∈ m, r.length = c
theorem le_nils (n : Nat) : Le (.arr 1 (List.replicate n (.v (.slice none 0 0)))) (.arr 1 ((List.replicate n ([] : List Int)).map intsO)) :=
  .arr 1 (by simp) fun i h h' => by simp [intsO]; exact .nilArr 1

end Go.Ab

/- Contracts: saddle points. -/
set_option linter.unusedSimpArgs false
set_option linter.unusedVariables false
namespace Go.Ab
open Go.Proofs

theorem isMat_spec {m : List (List Int)} (h : isMat m = true) : 1 ≤ m.length ∧ m.length ≤ 4 ∧ 1 ≤ (m.headD []).length ∧ (m.headD []).length ≤ 4 ∧ rect m (m.headD []).length ∧ ∀ r ∈ m, ∀ x ∈ r, -20 ≤ x ∧ x ≤ 20 := by
  simp only [isMat, Bool.and_eq_true, decide_eq_true_eq, List.all_eq_true, rowOK] at h
  exact ⟨h.1.1.1, h.1.1.2, h.1.2.1, h.1.2.2, fun r hr => (h.2 r hr).1, fun r hr x hx => (h.2 r hr).2 x hx⟩
end Go.Ab

/- The law FnExactSaddlePoint, as a contract. -/
set_option linter.unusedSimpArgs false
set_option linter.unusedVariables false
namespace Go.Ab
open Go.Proofs

end Go.Ab

/- Contracts: the flipped matrix, the reference. -/
set_option linter.unusedSimpArgs false
set_option linter.unusedVariables false
namespace Go.Ab
open Go.Proofs

def neg (l : List Int) : List Int := l.map fun x => -x
end Go.Ab

/- slices.Delete: its contract, out of the kit's shelf. -/
set_option linter.unusedSimpArgs false
set_option linter.unusedVariables false
namespace Go.Ab
open Go.Proofs Go.Shelf Go.Sort

def delRen : Go.Shelf.Ren := ⟨fun | 45 => 175 | n => n, fun | 0 => 0 | 3 => 3 | 4 => 4 | 22 => 24 | 23 => 2 | n => n, fun n => n⟩
theorem delL : SlLaysE.n45 Try.prog delRen := {
  mixed := by kernel_rfl
  f45 := ⟨Try.f175.name, by decide, Try.func175.trans (congrArg some (by kernel_rfl))⟩
  t0 := Try.underlying0
  a0 := Try.isAgg0
  z0 := Try.sizeOf0
  v0 := Try.zeroValue0
  t3 := Try.underlying3
  a3 := Try.isAgg3
  z3 := Try.sizeOf3
  v3 := Try.zeroValue3
  t4 := Try.underlying4
  a4 := Try.isAgg4
  z4 := Try.sizeOf4
  v4 := Try.zeroValue4
  t22 := Try.underlying24
  a22 := Try.isAgg24
  z22 := Try.sizeOf24
  v22 := Try.zeroValue24
  a23 := Try.isAgg2
  z23 := Try.sizeOf2 }

theorem getD_mapIdx_lt {f : Nat → Value → Value} {cs : Array Value} {k : Nat} (h : k < cs.size) : (cs.mapIdx f).getD k undef = f k (cs.getD k undef) := by
  simp [Array.getD_eq_getD_getElem?, h]

theorem slices_Delete_ok (l : List Int) (i j : Nat) (hij : i < j) (hj : j ≤ l.length) : Fun Try.prog 175 [intsO l] [.own 1000000000, .t (.i i), .t (.i j)] fun o r => o = [.any] ∧ r = intsO (l.take i ++ l.drop j) := by
  intro X w vals hs fp hm hlen hi
  obtain ⟨x, hx, ho, _⟩ := hm.root 0 _ rfl
  simp only [Nat.add_zero] at hx ho
  have h0 := (hi 0 (by simp)).own_inv
  rw [hx, Option.some.injEq] at h0
  have h1 := (hi 1 (by simp)).v_inv
  have h2 := (hi 2 (by simp)).v_inv
  have hv : vals.toArray = #[x, .int .i64 i, .int .i64 j] := by
    match vals, hlen with
    | [a, b, c], _ =>
      simp only [List.getD_cons_zero, List.getD_cons_succ] at h0 h1 h2
      subst h0 h1 h2; rfl
  rw [hv]
  generalize hfp : fp 1000000000 = f at ho
  unfold intsO at ho
  generalize hL : l.map T.i = L at ho
  have hLl : L.length = l.length := by rw [← hL, List.length_map]
  cases ho with
  | rd h => cases h
  | arrNil => simp at hLl; omega
  | arr _ _ b len cap cs e fps hb hl hc hmx hsz hf hr =>
    rw [hLl] at hl hf
    simp only [Nat.mul_one] at hl hsz
    have hcell : ∀ k (h : k < l.length), cs.getD k undef = .int .i64 l[k] ∧ fps.getD k [] = [] := fun k h => by
      have := hr k (by omega)
      have e : L[k]'(by omega) = T.i l[k] := by
        have : L[k]'(by omega) = (l.map T.i)[k]'(by simpa using h) := by congr 1; exact hL.symm
        rw [this, List.getElem_map]
      rw [e] at this
      generalize cs.getD k undef = y at this
      generalize fps.getD k [] = g at this
      cases this with
      | rd hh => cases hh; exact ⟨rfl, rfl⟩
    have hflat : fps.flatten = [] := by
      rw [List.flatten_eq_nil_iff]
      intro g hg
      obtain ⟨k, hk, rfl⟩ := List.mem_iff_getElem.1 hg
      have := (hcell k (by omega)).2
      rwa [List.getD_eq_getElem?_getD, List.getElem?_eq_getElem hk] at this
    have hH : Holds (Value.int .i64) w b 0 l.toArray := fun k hk => by
      have hk : k < l.length := by simpa using hk
      refine ⟨?_, ?_⟩
      · rw [Nat.zero_add, cells_at hb (by omega), (hcell k hk).1, getElem!_pos _ k (by simpa using hk)]; simp
      · simp [World.frozen?, hb]
    have hcall := AnyE.slices_Delete delL (Value.int .i64) (fun _ => rfl) 0 Try.zeroValue2 ((Try.prog.info? 2).get (by kernel_rfl)) (by kernel_rfl) (by kernel_rfl) b 0 cap i j l.toArray w hH (by simp; omega) (by have := hmx; unfold maxLen at this; omega) (by omega) (by simpa using hj)
    have hlen' : l.toArray.size = len := by simp [hl]
    rw [hlen'] at hcall
    refine Calls.mono hcall ?_
    rintro ee w' ⟨rfl, q, rfl⟩
    generalize hnew : (l.toArray.toList.take i ++ l.toArray.toList.drop j ++ List.replicate (j - i) (0 : Int)).toArray = d
    have hds : d.size = len := by rw [← hnew]; simp; omega
    have hdl : d.toList = l.take i ++ l.drop j ++ List.replicate (j - i) 0 := by rw [← hnew]
    have hw' : ∀ b' : Nat, (putRow (Value.int .i64) (Go.Sort.ahead w q) b 0 d).heap[b']? = if b = b' then some (.cells (putCells (Value.int .i64) 0 d cs) e (0, 0)) else w.heap[b']? := fun b' => by
      show (w.heap.modify b (onCells (putCells (Value.int .i64) 0 d)))[b']? = _
      rw [Array.getElem?_modify]
      by_cases hbb : b = b'
      · subst hbb; simp only [if_true, hb, Option.map_some, onCells]
      · simp only [hbb, if_false]
    refine ⟨_, intsO (l.take i ++ l.drop j), [.any], [b], fun _ => [], rfl, ⟨rfl, rfl⟩, rfl, ?_⟩
    have hnl : (l.take i ++ l.drop j).length = len - (j - i) := by simp; omega
    refine ⟨fun k t hk => ?_, fun _ _ => rfl, ?_, fun r r' b' h => by simp at h, fun _ => by simp, by simp, fun r b' h => by simp at h, fun r b' h => by simp at h, fun b' h => .inl ⟨1000000000, ?_⟩, rfl, rfl, rfl, ?_, fun b' hb' hn => ?_⟩
    · have : k = 0 ∧ t = .any := by
        cases k with
        | zero => simpa using hk.symm
        | succ k => simp at hk
      obtain ⟨rfl, rfl⟩ := this
      exact ⟨_, hx, .rd (.any _), .inr rfl⟩
    · have := Ow.arr (w := putRow (Value.int .i64) (Go.Sort.ahead w q) b 0 d) (O := Ob' X (fun _ => []) [b]) 1 ((l.take i ++ l.drop j).map T.i) b (len - (j - i)) cap (putCells (Value.int .i64) 0 d cs) e (List.replicate (len - (j - i)) []) (by rw [hw', if_pos rfl]) (by rw [List.length_map, hnl]; omega) (by omega) hmx (by simp [putCells, hsz]) (by rw [List.length_map, hnl]; simp) (fun k hk => ?_)
      · have e1 : b :: (List.replicate (len - (j - i)) ([] : List Nat)).flatten = [b] := by simp
        rw [e1] at this
        exact this
      · rw [List.length_map] at hk
        have hkl : k < len - (j - i) := by omega
        have e2 : (List.replicate (len - (j - i)) ([] : List Nat)).getD k [] = [] := by
          rw [List.getD_eq_getElem?_getD, List.getElem?_replicate]; split <;> rfl
        rw [e2, List.getElem_map, putCells, getD_mapIdx_lt (by omega), if_pos (by omega)]
        have e3 : d[k - 0]! = (l.take i ++ l.drop j)[k] := by
          rw [Nat.sub_zero, getElem!_pos d k (by omega), ← Array.getElem_toList]
          have := List.getElem_append_left («as» := l.take i ++ l.drop j) (bs := List.replicate (j - i) (0 : Int)) (i := k) (h' := by rw [← hdl, Array.length_toList]; omega) hk
          rw [← this]
          simp only [hdl]
        rw [e3]
        exact .rd (.v _)
    · rw [hfp]; simp at h; rw [h]; simp
    · simp
    · rw [hw', if_neg]
      rintro rfl
      exact hn 1000000000 (by rw [hfp]; simp)
end Go.Ab

/- Contracts: a matrix without a row and a column. -/
set_option linter.unusedSimpArgs false
set_option linter.unusedVariables false
namespace Go.Ab
open Go.Proofs

def without (m : List (List Int)) (r c : Nat) : List (List Int) := (m.eraseIdx r).map fun l => l.eraseIdx c
/-- The same of the first i rows. -/
def withoutI (m : List (List Int)) (r c i : Nat) : List (List Int) := without (m.take i) r c
theorem withoutI_same {m : List (List Int)} {r c i : Nat} {x : List Int} (hx : m[i]? = some x) (h : i = r) : withoutI m r c (i + 1) = withoutI m r c i := by
  obtain ⟨hi, rfl⟩ := List.getElem?_eq_some_iff.1 hx
  have hl : (m.take i).length = i := by simp; omega
  subst h
  rw [withoutI, withoutI, without, without, take_snoc hx, List.eraseIdx_append_of_length_le (by omega), hl, Nat.sub_self]
  rw [List.eraseIdx_of_length_le (l := m.take i) (by omega)]; simp
theorem withoutI_next {m : List (List Int)} {r c i : Nat} {x : List Int} (hx : m[i]? = some x) (h : i ≠ r) : withoutI m r c (i + 1) = withoutI m r c i ++ [x.eraseIdx c] := by
  obtain ⟨hi, rfl⟩ := List.getElem?_eq_some_iff.1 hx
  have hl : (m.take i).length = i := by simp; omega
  rw [withoutI, withoutI, without, without, take_snoc hx]
  rcases Nat.lt_or_ge r i with h1 | h1
  · rw [List.eraseIdx_append_of_lt_length (by omega), List.map_append]; rfl
  · rw [List.eraseIdx_append_of_length_le (by omega), hl, List.eraseIdx_of_length_le (l := m.take i) (by omega), List.eraseIdx_of_length_le (l := [m[i]]) (by simp; omega), List.map_append]; rfl
theorem withoutI_all (m : List (List Int)) (r c : Nat) : withoutI m r c m.length = without m r c := by rw [withoutI, List.take_length]
theorem withoutI_zero (m : List (List Int)) (r c : Nat) : withoutI m r c 0 = [] := by simp [withoutI, without]
theorem withoutI_length (m : List (List Int)) (r c i : Nat) : (withoutI m r c i).length ≤ i := by
  have := List.length_eraseIdx_le (m.take i) r
  simp [withoutI, without] at this ⊢; omega
theorem eraseIdx_cut (l : List Int) (c : Nat) : l.eraseIdx c = l.take c ++ l.drop (c + 1) := List.eraseIdx_eq_take_drop_succ l c

theorem impl_without_ok (m : List (List Int)) (r c : Nat) (hm : m.length ≤ 1000000) (hrow : ∀ x ∈ m, c < x.length ∧ x.length ≤ 1000000) (hr : r ≤ 1000000) : Fun Try.prog 154 [] [.t (rows m), .t (.i r), .t (.i c)] fun o res => o = [] ∧ res = rowsO (without m r c) := by
  refine fun_impl_without (by simp) ?_
  simp -implicitDefEqProofs only [go_sem, List.reduceReplicate, Nat.reduceEqDiff, Nat.reduceAdd, Nat.reduceLeDiff, Nat.reduceMul, Nat.reduceSub, Nat.reduceDiv, Int.reduceToNat, Nat.reduceLT, Int.reduceLT, Int.reduceLE, ↓reduceIte, reduceCtorEq, forall_apply_eq_imp_iff₂, ints, rows, rat, rats, toNat_cast, c_impl_without]
  refine SemC.loopR (σ := Nat) (fun i => St.of [(0, .t (rows m)), (1, .t (.i r)), (2, .t (.i c)), (7, .own 77), (10, .t (rows m)), (11, .t (.i m.length)), (12, .t (.i i))] [(77, .arr 1 ((withoutI m r c i).map intsO))]) (fun i => i ≤ m.length) (fun i => m.length - i) 0 (Weak.of _ _ [none] (by simp) (by simp) ?_ ?_) (by simp) fun i hi R hn hr' he => ?_
  · simp -implicitDefEqProofs only [ints, rows, Nat.reduceBEq, Int.add_zero, envOK, maA, maT, upd_apply, Nat.reduceEqDiff, ↓reduceIte, and_true, true_or, or_true, List.map_cons, List.map_nil, Nat.zero_ne_one, and_self, true_and, Int.natCast_zero, Int.cast_ofNat_Int, Int.ofNat_zero, piOf, List.zip_cons_cons, List.zip_nil_right, List.lookup_cons, List.lookup_nil, beq_self_eq_true, rootsOK, mkRoots, mkEnv]
  · exact ⟨⟨1, by rw [withoutI_zero]; rfl⟩, trivial⟩
  · simp -implicitDefEqProofs only [go_sem, List.reduceReplicate, Nat.reduceEqDiff, Nat.reduceAdd, Nat.reduceLeDiff, Nat.reduceMul, Nat.reduceSub, Nat.reduceDiv, Int.reduceToNat, Nat.reduceLT, Int.reduceLT, Int.reduceLE, ↓reduceIte, reduceCtorEq, forall_apply_eq_imp_iff₂, ints, rows, rat, rats, toNat_cast]
    refine ⟨fun h => ⟨by omega, by omega, by omega, fun x hx => ⟨fun h1 => ?_, fun h1 => ?_⟩⟩, fun h => he _ _ ?_⟩
    · have hne : i ≠ r := by simp at h1; omega
      have hxl := hrow x (List.mem_of_getElem? hx)
      refine CallW.res (slices_Clone_ok x (by omega)) [] rfl Try.call150 ?_ (.inl rfl) ?_
      · simp -implicitDefEqProofs only [Int.natCast_zero, Int.cast_ofNat_Int, Int.natCast_one, Nat.le_refl, Nat.reduceLeDiff, Nat.sub_self, Nat.reduceSub, List.getElem?_cons_zero, List.getElem?_cons_succ, vt_self, vaL, vtL, va, vt, vb, maT, List.cons_append, List.nil_append, List.append_nil, true_or, or_true, go_sem, List.reduceReplicate, Nat.reduceEqDiff, Nat.reduceAdd, Nat.reduceLeDiff, Nat.reduceMul, Nat.reduceSub, Nat.reduceDiv, Int.reduceToNat, Nat.reduceLT, Int.reduceLT, Int.reduceLE, ↓reduceIte, reduceCtorEq, ints, rows, rat, rats, ratsO, toShL_ratC, List.mem_cons, List.mem_nil_iff, List.not_mem_nil, or_false, false_or, exists_eq_left, exists_eq_left', exists_eq_right', Root.live.injEq, eq_self_iff_true, exists_eq, and_true, T.toSh, toShL_ints, toShL_intsO, intsO, rowsO]
      simp -implicitDefEqProofs only [List.append_nil, List.cons_append, Nat.reduceLeDiff, afterCall, absT_rowsO, absT_intsO, absT, absL, updL, updS, freeAll, rid, T.noSh, T.noShL, Nat.zero_le, go_sem, List.reduceReplicate, Nat.reduceEqDiff, Nat.reduceAdd, Nat.reduceLeDiff, Nat.reduceMul, Nat.reduceSub, Nat.reduceDiv, Int.reduceToNat, Nat.reduceLT, Int.reduceLT, Int.reduceLE, ↓reduceIte, reduceCtorEq, rat, forall_apply_eq_imp_iff₂, toNat_cast]
      rw [wrap64 (n := (c : Int) + 1) (by omega) (by omega), show ((c : Int) + 1) = ((c + 1 : Nat) : Int) from rfl]
      refine CallW.ref (slices_Delete_ok x c (c + 1) (by omega) (by omega)) [22] [] rfl Try.call175 (by simp) ?_ (by simp) ?_ (.inl rfl) ?_
      · simp -implicitDefEqProofs only [rootOf_arr, rootOf_box, rootOf_any, srcsOK, updL, updS, upd_apply, Nat.reduceEqDiff, ↓reduceIte, mkRoots, and_true, ints, rows, intsO, rowsO]
      · simp -implicitDefEqProofs only [Int.natCast_zero, Int.cast_ofNat_Int, Int.natCast_one, Nat.le_refl, Nat.reduceLeDiff, Nat.sub_self, Nat.reduceSub, List.getElem?_cons_zero, List.getElem?_cons_succ, vt_self, vaL, vtL, va, vt, vb, maT, List.cons_append, List.nil_append, List.append_nil, true_or, or_true, go_sem, List.reduceReplicate, Nat.reduceEqDiff, Nat.reduceAdd, Nat.reduceLeDiff, Nat.reduceMul, Nat.reduceSub, Nat.reduceDiv, Int.reduceToNat, Nat.reduceLT, Int.reduceLT, Int.reduceLE, ↓reduceIte, reduceCtorEq, ints, rows, rat, rats, ratsO, toShL_ratC, List.mem_cons, List.mem_nil_iff, List.not_mem_nil, or_false, false_or, exists_eq_left, exists_eq_left', exists_eq_right', Root.live.injEq, eq_self_iff_true, exists_eq, and_true, T.toSh, toShL_ints, toShL_intsO, intsO, rowsO]
      simp -implicitDefEqProofs only [List.append_nil, List.cons_append, Nat.reduceLeDiff, afterCall, absT_rowsO, absT_intsO, absT, absL, updL, updS, freeAll, rid, T.noSh, T.noShL, Nat.zero_le, go_sem, List.reduceReplicate, Nat.reduceEqDiff, Nat.reduceAdd, Nat.reduceLeDiff, Nat.reduceMul, Nat.reduceSub, Nat.reduceDiv, Int.reduceToNat, Nat.reduceLT, Int.reduceLT, Int.reduceLE, ↓reduceIte, reduceCtorEq, rat, forall_apply_eq_imp_iff₂, toNat_cast, intsO]
      have hlen := withoutI_length m r c i
      refine ⟨by omega, hn _ (i + 1) (Weak.of _ _ [some 28] (by simp) (by simp) ?_ ?_) (by omega) (by omega)⟩
      · simp -implicitDefEqProofs only [ints, rows, Nat.reduceBEq, Int.add_zero, envOK, maA, maT, upd_apply, Nat.reduceEqDiff, ↓reduceIte, and_true, true_or, or_true, List.map_cons, List.map_nil, Nat.zero_ne_one, and_self, true_and, Int.natCast_zero, Int.cast_ofNat_Int, Int.ofNat_zero, piOf, List.zip_cons_cons, List.zip_nil_right, List.lookup_cons, List.lookup_nil, beq_self_eq_true, rootsOK, mkRoots, mkEnv, next64 (by omega : i < m.length) (by omega)]
      · refine ⟨⟨_, rfl, ?_⟩, rfl, trivial⟩
        rw [withoutI_next hx hne, eraseIdx_cut]
        simp only [List.map_append, List.map_cons, List.map_nil, intsO]
        exact .refl _
    · have heq : i = r := by simp at h1; omega
      refine hn _ (i + 1) (Weak.of _ _ [some 77] (by simp) (by simp) ?_ ?_) (by omega) (by omega)
      · simp -implicitDefEqProofs only [ints, rows, Nat.reduceBEq, Int.add_zero, envOK, maA, maT, upd_apply, Nat.reduceEqDiff, ↓reduceIte, and_true, true_or, or_true, List.map_cons, List.map_nil, Nat.zero_ne_one, and_self, true_and, Int.natCast_zero, Int.cast_ofNat_Int, Int.ofNat_zero, piOf, List.zip_cons_cons, List.zip_nil_right, List.lookup_cons, List.lookup_nil, beq_self_eq_true, rootsOK, mkRoots, mkEnv, next64 (by omega : i < m.length) (by omega)]
      · exact ⟨⟨_, rfl, by rw [withoutI_same hx heq]; exact .refl _⟩, rfl, trivial⟩
    · simp -implicitDefEqProofs only [go_sem, List.reduceReplicate, Nat.reduceEqDiff, Nat.reduceAdd, Nat.reduceLeDiff, Nat.reduceMul, Nat.reduceSub, Nat.reduceDiv, Int.reduceToNat, Nat.reduceLT, Int.reduceLT, Int.reduceLE, ↓reduceIte, reduceCtorEq, forall_apply_eq_imp_iff₂, ints, rows, rat, rats, toNat_cast]
      have : i = m.length := by omega
      rw [this, withoutI_all]; rfl

theorem spec_l27Without_ok (m : List (List Int)) (r c : Nat) (hm : m.length ≤ 1000000) (hrow : ∀ x ∈ m, c < x.length ∧ x.length ≤ 1000000) (hr : r ≤ 1000000) : Fun Try.prog 156 [] [.t (rows m), .t (.i r), .t (.i c)] fun o res => o = [] ∧ res = rowsO (without m r c) := by
  refine fun_spec_l27Without (by simp) ?_
  simp -implicitDefEqProofs only [go_sem, List.reduceReplicate, Nat.reduceEqDiff, Nat.reduceAdd, Nat.reduceLeDiff, Nat.reduceMul, Nat.reduceSub, Nat.reduceDiv, Int.reduceToNat, Nat.reduceLT, Int.reduceLT, Int.reduceLE, ↓reduceIte, reduceCtorEq, forall_apply_eq_imp_iff₂, ints, rows, rat, rats, toNat_cast, c_spec_l27Without]
  refine SemC.loopR (σ := Nat) (fun i => St.of [(0, .t (rows m)), (1, .t (.i r)), (2, .t (.i c)), (7, .own 77), (8, .t (.i i))] [(77, .arr 1 ((withoutI m r c i).map intsO))]) (fun i => i ≤ m.length) (fun i => m.length - i) 0 (Weak.of _ _ [some 10] (by simp) (by simp) ?_ ?_) (by simp) fun i hi R hn hr' he => ?_
  · simp -implicitDefEqProofs only [ints, rows, Nat.reduceBEq, Int.add_zero, envOK, maA, maT, upd_apply, Nat.reduceEqDiff, ↓reduceIte, and_true, true_or, or_true, List.map_cons, List.map_nil, Nat.zero_ne_one, and_self, true_and, Int.natCast_zero, Int.cast_ofNat_Int, Int.ofNat_zero, piOf, List.zip_cons_cons, List.zip_nil_right, List.lookup_cons, List.lookup_nil, beq_self_eq_true, rootsOK, mkRoots, mkEnv]
  · exact ⟨⟨_, rfl, by rw [withoutI_zero]; exact .refl _⟩, rfl, trivial⟩
  · simp -implicitDefEqProofs only [go_sem, List.reduceReplicate, Nat.reduceEqDiff, Nat.reduceAdd, Nat.reduceLeDiff, Nat.reduceMul, Nat.reduceSub, Nat.reduceDiv, Int.reduceToNat, Nat.reduceLT, Int.reduceLT, Int.reduceLE, ↓reduceIte, reduceCtorEq, forall_apply_eq_imp_iff₂, ints, rows, rat, rats, toNat_cast]
    refine ⟨fun h => ⟨fun h1 => ?_, fun h1 => ?_⟩, fun h => he _ _ ?_⟩
    · obtain ⟨x, hx⟩ : ∃ x, m[i]? = some x := ⟨_, List.getElem?_eq_getElem (by omega)⟩
      have heq : i = r := by simp at h1; omega
      refine hn _ (i + 1) (Weak.of _ _ [some 77] (by simp) (by simp) ?_ ?_) (by omega) (by omega)
      · simp -implicitDefEqProofs only [ints, rows, Nat.reduceBEq, Int.add_zero, envOK, maA, maT, upd_apply, Nat.reduceEqDiff, ↓reduceIte, and_true, true_or, or_true, List.map_cons, List.map_nil, Nat.zero_ne_one, and_self, true_and, Int.natCast_zero, Int.cast_ofNat_Int, Int.ofNat_zero, piOf, List.zip_cons_cons, List.zip_nil_right, List.lookup_cons, List.lookup_nil, beq_self_eq_true, rootsOK, mkRoots, mkEnv, next64 (by omega : i < m.length) (by omega)]
      · exact ⟨⟨_, rfl, by rw [withoutI_same hx heq]; exact .refl _⟩, rfl, trivial⟩
    · obtain ⟨x, hx⟩ : ∃ x, m[i]? = some x := ⟨_, List.getElem?_eq_getElem (by omega)⟩
      have hne : i ≠ r := by simp at h1; omega
      have hxl := hrow x (List.mem_of_getElem? hx)
      refine ⟨by omega, by omega, by omega, fun y hy => ?_⟩
      rw [hx] at hy; cases hy
      have hw : IntKind.i64.wrap ((c : Int) + 1) = ((c + 1 : Nat) : Int) := by rw [wrap64 (by omega) (by omega)]; rfl
      simp -implicitDefEqProofs only [go_sem, List.reduceReplicate, Nat.reduceEqDiff, Nat.reduceAdd, Nat.reduceLeDiff, Nat.reduceMul, Nat.reduceSub, Nat.reduceDiv, Int.reduceToNat, Nat.reduceLT, Int.reduceLT, Int.reduceLE, ↓reduceIte, reduceCtorEq, forall_apply_eq_imp_iff₂, ints, rows, rat, rats, toNat_cast, ite_nn, Nat.sub_zero, ← List.map_take]
      refine ⟨by omega, by omega, ?_⟩
      refine CallC.res (spec_l01Own_ok (x.take c) (by simp; omega)) [] rfl Try.call151 (fun e R' hR => ?_) (.inl rfl) ?_
      · simp -implicitDefEqProofs only [Int.natCast_zero, Int.cast_ofNat_Int, Int.natCast_one, Nat.le_refl, Nat.reduceLeDiff, Nat.sub_self, Nat.reduceSub, List.getElem?_cons_zero, List.getElem?_cons_succ, vt_self, vaL, vtL, va, vt, vb, maT, List.cons_append, List.nil_append, List.append_nil, true_or, or_true, go_sem, List.reduceReplicate, Nat.reduceEqDiff, Nat.reduceAdd, Nat.reduceLeDiff, Nat.reduceMul, Nat.reduceSub, Nat.reduceDiv, Int.reduceToNat, Nat.reduceLT, Int.reduceLT, Int.reduceLE, ↓reduceIte, reduceCtorEq, ints, rows, rat, rats, ratsO, toShL_ratC, List.mem_cons, List.mem_nil_iff, List.not_mem_nil, or_false, false_or, exists_eq_left, exists_eq_left', exists_eq_right', Root.live.injEq, eq_self_iff_true, exists_eq, and_true, T.toSh, toShL_ints, toShL_intsO, intsO, rowsO]
      simp -implicitDefEqProofs only [List.append_nil, List.cons_append, Nat.reduceLeDiff, afterCall, absT_rowsO, absT_intsO, absT, absL, updL, updS, freeAll, rid, T.noSh, T.noShL, Nat.zero_le, go_sem, List.reduceReplicate, Nat.reduceEqDiff, Nat.reduceAdd, Nat.reduceLeDiff, Nat.reduceMul, Nat.reduceSub, Nat.reduceDiv, Int.reduceToNat, Nat.reduceLT, Int.reduceLT, Int.reduceLE, ↓reduceIte, reduceCtorEq, rat, forall_apply_eq_imp_iff₂, toNat_cast, ints, intsO, hw, ite_nn, toNat_cast, Nat.sub_zero, ← List.map_drop, hx, Option.some.injEq, forall_eq']
      have hlen := withoutI_length m r c i
      have hl1 : (x.drop (c + 1)).length = x.length - (c + 1) := List.length_drop
      have htk : List.take (x.length - (c + 1)) (List.map T.i (List.drop (c + 1) x)) = List.map T.i (List.drop (c + 1) x) := List.take_of_length_le (by rw [List.length_map]; omega)
      rw [htk]
      refine ⟨by omega, by omega, by omega, by omega, by omega, all_cell_ints _, by rw [List.length_map, List.length_take]; omega, by omega, hn _ (i + 1) (Weak.of _ _ [some 38] (by simp) (by simp) ?_ ?_) (by omega) (by omega)⟩
      · simp -implicitDefEqProofs only [ints, rows, Nat.reduceBEq, Int.add_zero, envOK, maA, maT, upd_apply, Nat.reduceEqDiff, ↓reduceIte, and_true, true_or, or_true, List.map_cons, List.map_nil, Nat.zero_ne_one, and_self, true_and, Int.natCast_zero, Int.cast_ofNat_Int, Int.ofNat_zero, piOf, List.zip_cons_cons, List.zip_nil_right, List.lookup_cons, List.lookup_nil, beq_self_eq_true, rootsOK, mkRoots, mkEnv, next64 (by omega : i < m.length) (by omega)]
      · refine ⟨⟨_, rfl, ?_⟩, rfl, trivial⟩
        rw [withoutI_next hx hne, eraseIdx_cut]
        simp only [List.map_append, List.map_cons, List.map_nil, intsO]
        exact .refl _
    · simp -implicitDefEqProofs only [go_sem, List.reduceReplicate, Nat.reduceEqDiff, Nat.reduceAdd, Nat.reduceLeDiff, Nat.reduceMul, Nat.reduceSub, Nat.reduceDiv, Int.reduceToNat, Nat.reduceLT, Int.reduceLT, Int.reduceLE, ↓reduceIte, reduceCtorEq, forall_apply_eq_imp_iff₂, ints, rows, rat, rats, toNat_cast]
      have : i = m.length := by omega
      rw [this, withoutI_all]; rfl
end Go.Ab

/- Contracts: determinants. -/
set_option linter.unusedSimpArgs false
set_option linter.unusedVariables false
namespace Go.Ab
open Go.Proofs

def sumTo (f : Nat → Int) : Nat → Int
  | 0 => 0
  | k + 1 => sumTo f k + f k
def sg (k : Nat) : Int := 1 - 2 * ((k % 2 : Nat) : Int)
def detN : Nat → List (List Int) → Int
  | 0, _ => 1
  | n + 1, m => sumTo (fun k => sg k * (m.headD []).getD k 0 * detN n (without m 0 k)) (n + 1)
/-- A square matrix with small entries. -/
def sq (n : Nat) (m : List (List Int)) : Prop := m.length = n ∧ ∀ r ∈ m, r.length = n ∧ ∀ x ∈ r, -20 ≤ x ∧ x ≤ 20
theorem mem_eraseIdx {α : Type} {l : List α} {i : Nat} {x : α} (h : x ∈ l.eraseIdx i) : x ∈ l := (List.eraseIdx_sublist l i).subset h
theorem sq_without {n : Nat} {m : List (List Int)} (h : sq (n + 1) m) {r c : Nat} (hr : r < n + 1) (hc : c < n + 1) : sq n (without m r c) := by
  refine ⟨?_, fun x hx => ?_⟩
  · rw [without, List.length_map, List.length_eraseIdx_of_lt (by rw [h.1]; exact hr), h.1]; rfl
  · obtain ⟨y, hy, rfl⟩ := List.mem_map.1 hx
    obtain ⟨h1, h2⟩ := h.2 y (mem_eraseIdx hy)
    exact ⟨by rw [List.length_eraseIdx_of_lt (by rw [h1]; exact hc), h1]; rfl, fun z hz => h2 z (mem_eraseIdx hz)⟩
def detB : Nat → Nat
  | 0 => 1
  | n + 1 => (n + 1) * (20 * detB n)
theorem sg_abs (k : Nat) : sg k = 1 ∨ sg k = -1 := by
  rcases Nat.mod_two_eq_zero_or_one k with h | h <;> simp [sg, h]
theorem sumTo_abs {f : Nat → Int} {b : Nat} : ∀ {k : Nat}, (∀ j, j < k → (f j).natAbs ≤ b) → (sumTo f k).natAbs ≤ k * b
  | 0, _ => by simp [sumTo]
  | k + 1, h => by
    have h1 := sumTo_abs (k := k) fun j hj => h j (by omega)
    have h2 := h k (by omega)
    have := Int.natAbs_add_le (sumTo f k) (f k)
    rw [sumTo, Nat.add_mul]; omega
theorem head_small {n : Nat} {m : List (List Int)} (h : sq (n + 1) m) (k : Nat) (hk : k < n + 1) : ∃ r, m[0]? = some r ∧ m.headD [] = r ∧ r.length = n + 1 ∧ ∃ x, r[k]? = some x ∧ r.getD k 0 = x ∧ -20 ≤ x ∧ x ≤ 20 := by
  obtain ⟨h1, h2⟩ := h
  match m, h1 with
  | r :: m, _ =>
    obtain ⟨h3, h4⟩ := h2 r (by simp)
    refine ⟨r, rfl, rfl, h3, r[k]'(by omega), List.getElem?_eq_getElem (by omega), ?_, h4 _ (List.getElem_mem _)⟩
    rw [List.getD_eq_getElem?_getD, List.getElem?_eq_getElem (by omega)]; rfl
theorem detN_abs : ∀ {n : Nat} {m : List (List Int)}, sq n m → (detN n m).natAbs ≤ detB n
  | 0, m, _ => by simp [detN, detB]
  | n + 1, m, h => by
    rw [detN, detB]
    refine sumTo_abs fun k hk => ?_
    obtain ⟨r, _, h1, _, x, _, h2, h3, h4⟩ := head_small h k hk
    have h5 := detN_abs (sq_without h (r := 0) (c := k) (by omega) hk)
    rw [h1, h2, Int.natAbs_mul, Int.natAbs_mul]
    have h6 : (sg k).natAbs = 1 := by rcases sg_abs k with h | h <;> rw [h] <;> rfl
    rw [h6, Nat.one_mul]
    exact Nat.mul_le_mul (by omega) h5
theorem detB_le {n : Nat} (h : n ≤ 4) : detB n ≤ 3840000 := by
  match n, h with
  | 0, _ => decide
  | 1, _ => decide
  | 2, _ => decide
  | 3, _ => decide
  | 4, _ => decide
/-- The summand of a determinant, and its bound. -/
theorem term_abs {n : Nat} {m : List (List Int)} (h : sq (n + 1) m) (hn : n < 4) {k : Nat} (hk : k < n + 1) {x : Int} (hx : -20 ≤ x ∧ x ≤ 20) : -76800000 ≤ x * detN n (without m 0 k) ∧ x * detN n (without m 0 k) ≤ 76800000 := by
  have h5 := detN_abs (sq_without h (r := 0) (c := k) (by omega) hk)
  have h6 := detB_le (n := n) (by omega)
  have h7 : (x * detN n (without m 0 k)).natAbs ≤ 20 * 3840000 := by
    rw [Int.natAbs_mul]; exact Nat.mul_le_mul (by omega) (by omega)
  omega
theorem part_abs {n : Nat} {m : List (List Int)} (h : sq (n + 1) m) (hn : n < 4) {k : Nat} (hk : k ≤ n + 1) : -400000000 ≤ sumTo (fun k => sg k * (m.headD []).getD k 0 * detN n (without m 0 k)) k ∧ sumTo (fun k => sg k * (m.headD []).getD k 0 * detN n (without m 0 k)) k ≤ 400000000 := by
  have h1 := sumTo_abs (f := fun k => sg k * (m.headD []).getD k 0 * detN n (without m 0 k)) (b := 76800000) (k := k) fun j hj => by
    obtain ⟨r, _, e1, _, x, _, e2, h3⟩ := head_small h j (by omega)
    have := term_abs h hn (show j < n + 1 by omega) h3
    rw [e1, e2, Int.mul_assoc, Int.natAbs_mul]
    have h6 : (sg j).natAbs = 1 := by rcases sg_abs j with h | h <;> rw [h] <;> rfl
    rw [h6, Nat.one_mul]; omega
  have h2 : k * 76800000 ≤ 4 * 76800000 := Nat.mul_le_mul_right _ (by omega)
  omega
theorem tmod2 (k : Nat) : (k : Int).tmod 2 = ((k % 2 : Nat) : Int) := by
  rw [Int.tmod_eq_emod_of_nonneg (by omega)]; rfl

theorem impl_determinant_ok : ∀ (n : Nat), n ≤ 4 → ∀ m, sq n m → Pure Try.prog 109 [rows m] (.i (detN n m)) := by
  intro n
  induction n with
  | zero =>
    intro _ m hm
    refine fun_impl_determinant (by simp) ?_
    simp -implicitDefEqProofs only [go_sem, List.reduceReplicate, Nat.reduceEqDiff, Nat.reduceAdd, Nat.reduceLeDiff, Nat.reduceMul, Nat.reduceSub, Nat.reduceDiv, Int.reduceToNat, Nat.reduceLT, Int.reduceLT, Int.reduceLE, ↓reduceIte, reduceCtorEq, forall_apply_eq_imp_iff₂, ints, rows, rat, rats, toNat_cast, c_impl_determinant]
    refine ⟨fun h => rfl, fun h => absurd hm.1 (by simpa using h)⟩
  | succ n ih =>
    intro hn m hm
    refine fun_impl_determinant (by simp) ?_
    simp -implicitDefEqProofs only [go_sem, List.reduceReplicate, Nat.reduceEqDiff, Nat.reduceAdd, Nat.reduceLeDiff, Nat.reduceMul, Nat.reduceSub, Nat.reduceDiv, Int.reduceToNat, Nat.reduceLT, Int.reduceLT, Int.reduceLE, ↓reduceIte, reduceCtorEq, forall_apply_eq_imp_iff₂, ints, rows, rat, rats, toNat_cast, c_impl_determinant]
    have hml : m.length = n + 1 := hm.1
    refine ⟨fun h => absurd h (by simp [hml]; omega), fun h => ⟨by omega, by omega, fun r0 h0 => ?_⟩⟩
    obtain ⟨r, e1, e2, e3, _⟩ := head_small hm 0 (by omega)
    rw [h0] at e1; cases e1
    rw [e3]
    have hpart := fun k (hk : k ≤ n + 1) => part_abs hm (by omega) hk
    have hterm := fun k (hk : k < n + 1) x (hx : -20 ≤ x ∧ x ≤ 20) => term_abs hm (by omega) hk hx
    have hfin : detN (n + 1) m = sumTo (fun k => sg k * (m.headD []).getD k 0 * detN n (without m 0 k)) (n + 1) := rfl
    rw [hfin]
    rw [e2] at hpart ⊢
    generalize hS : (fun k => sg k * r0.getD k 0 * detN n (without m 0 k)) = f at hpart ⊢
    refine SemC.loopR (σ := Nat) (fun k => St.of [(0, .t (rows m)), (3, .t (.i (sumTo f k))), (12, .t (ints r0)), (13, .t (.i (n + 1 : Nat))), (14, .t (.i k))] []) (fun k => k ≤ n + 1) (fun k => n + 1 - k) 0 (Weak.of _ [] [] (by simp) (by simp) ?_ trivial) (by omega) fun k hk R hn' hr he => ?_
    · simp -implicitDefEqProofs only [ints, rows, Int.add_zero, envOK, maA, maT, upd_apply, Nat.reduceEqDiff, ↓reduceIte, and_true, true_or, or_true, List.map_cons, List.map_nil, Nat.zero_ne_one, and_self, true_and, Int.natCast_zero, Int.cast_ofNat_Int, Int.ofNat_zero, sumTo]
    · simp -implicitDefEqProofs only [go_sem, List.reduceReplicate, Nat.reduceEqDiff, Nat.reduceAdd, Nat.reduceLeDiff, Nat.reduceMul, Nat.reduceSub, Nat.reduceDiv, Int.reduceToNat, Nat.reduceLT, Int.reduceLT, Int.reduceLE, ↓reduceIte, reduceCtorEq, forall_apply_eq_imp_iff₂, ints, rows, rat, rats, toNat_cast]
      refine ⟨fun h => ⟨by omega, by omega, by omega, fun x hx => ?_⟩, fun h => he _ _ ?_⟩
      · have hk1 : k < n + 1 := by omega
        have hsx := (hm.2 r0 (List.mem_of_getElem? h0)).2 x (List.mem_of_getElem? hx)
        have hxd : r0.getD k 0 = x := by rw [List.getD_eq_getElem?_getD, hx]; rfl
        have ht := hterm k hk1 x hsx
        have hp1 := hpart k hk
        have hp2 := hpart (k + 1) hk1
        have hf : f k = sg k * x * detN n (without m 0 k) := by rw [← hS]; simp only [hxd]
        rw [sumTo, hf] at hp2
        refine CallW.res (impl_without_ok m 0 k (by omega) (fun y hy => by have := (hm.2 y hy).1; omega) (by omega)) [] rfl Try.call154 ?_ (.inl rfl) ?_
        · simp -implicitDefEqProofs only [Int.natCast_zero, Int.cast_ofNat_Int, Int.natCast_one, Nat.le_refl, Nat.reduceLeDiff, Nat.sub_self, Nat.reduceSub, List.getElem?_cons_zero, List.getElem?_cons_succ, vt_self, vaL, vtL, va, vt, vb, maT, List.cons_append, List.nil_append, List.append_nil, true_or, or_true, go_sem, List.reduceReplicate, Nat.reduceEqDiff, Nat.reduceAdd, Nat.reduceLeDiff, Nat.reduceMul, Nat.reduceSub, Nat.reduceDiv, Int.reduceToNat, Nat.reduceLT, Int.reduceLT, Int.reduceLE, ↓reduceIte, reduceCtorEq, ints, rows, rat, rats, ratsO, toShL_ratC, List.mem_cons, List.mem_nil_iff, List.not_mem_nil, or_false, false_or, exists_eq_left, exists_eq_left', exists_eq_right', Root.live.injEq, eq_self_iff_true, exists_eq, and_true, T.toSh, toShL_ints, toShL_intsO, intsO, rowsO]
        simp -implicitDefEqProofs only [List.append_nil, List.cons_append, Nat.reduceLeDiff, afterCall, absT_rowsO, absT_intsO, absT, absL, updL, updS, freeAll, rid, T.noSh, T.noShL, Nat.zero_le, go_sem, List.reduceReplicate, Nat.reduceEqDiff, Nat.reduceAdd, Nat.reduceLeDiff, Nat.reduceMul, Nat.reduceSub, Nat.reduceDiv, Int.reduceToNat, Nat.reduceLT, Int.reduceLT, Int.reduceLE, ↓reduceIte, reduceCtorEq, rat, forall_apply_eq_imp_iff₂, toNat_cast]
        refine CallW.pure (ih (by omega) (without m 0 k) (sq_without hm (by omega) hk1)) [22] rfl Try.call109 ?_ (by first | trivial | simp [T.noSh, T.noShL, rat]) rfl ?_
        · simp -implicitDefEqProofs only [Int.natCast_zero, Int.cast_ofNat_Int, Int.natCast_one, Nat.le_refl, Nat.reduceLeDiff, Nat.sub_self, Nat.reduceSub, List.getElem?_cons_zero, List.getElem?_cons_succ, vt_self, vaL, vtL, va, vt, vb, maT, List.cons_append, List.nil_append, List.append_nil, true_or, or_true, go_sem, List.reduceReplicate, Nat.reduceEqDiff, Nat.reduceAdd, Nat.reduceLeDiff, Nat.reduceMul, Nat.reduceSub, Nat.reduceDiv, Int.reduceToNat, Nat.reduceLT, Int.reduceLT, Int.reduceLE, ↓reduceIte, reduceCtorEq, ints, rows, rat, rats, ratsO, toShL_ratC, List.mem_cons, List.mem_nil_iff, List.not_mem_nil, or_false, false_or, exists_eq_left, exists_eq_left', exists_eq_right', Root.live.injEq, eq_self_iff_true, exists_eq, and_true, T.toSh, toShL_ints, toShL_intsO, intsO, rowsO]
        simp -implicitDefEqProofs only [go_sem, List.reduceReplicate, Nat.reduceEqDiff, Nat.reduceAdd, Nat.reduceLeDiff, Nat.reduceMul, Nat.reduceSub, Nat.reduceDiv, Int.reduceToNat, Nat.reduceLT, Int.reduceLT, Int.reduceLE, ↓reduceIte, reduceCtorEq, forall_apply_eq_imp_iff₂, ints, rows, rat, rats, toNat_cast]
        rw [wrap64 (n := x * detN n (without m 0 k)) (by omega) (by omega)]
        refine ⟨?_, fun h1 => ?_, fun h1 => ?_⟩
        · decide
        · have hodd : k % 2 = 1 := by rw [tmod2] at h1; simp at h1; omega
          have hs : sg k = -1 := by simp [sg, hodd]
          have e1 : sg k * x * detN n (without m 0 k) = -(x * detN n (without m 0 k)) := by rw [hs, Int.neg_one_mul, Int.neg_mul]
          rw [e1] at hp2 hf
          refine hn' _ (k + 1) (Weak.of _ [] [] (by simp) (by simp) ?_ trivial) (by omega) (by omega)
          have w1 : IntKind.i64.wrap (0 - x * detN n (without m 0 k)) = -(x * detN n (without m 0 k)) := by rw [wrap64 (by omega) (by omega)]; omega
          have w2 : IntKind.i64.wrap (sumTo f k + -(x * detN n (without m 0 k))) = sumTo f (k + 1) := by rw [wrap64 (by omega) (by omega), sumTo, hf]
          simp -implicitDefEqProofs only [ints, rows, Int.add_zero, envOK, maA, maT, upd_apply, Nat.reduceEqDiff, ↓reduceIte, and_true, true_or, or_true, List.map_cons, List.map_nil, Nat.zero_ne_one, and_self, true_and, Int.natCast_zero, Int.cast_ofNat_Int, Int.ofNat_zero, w1, w2, next64 (by omega : k < n + 1) (by omega)]
        · have hev : k % 2 = 0 := by rw [tmod2] at h1; simp at h1; omega
          have hs : sg k = 1 := by simp [sg, hev]
          have e1 : sg k * x * detN n (without m 0 k) = x * detN n (without m 0 k) := by rw [hs, Int.one_mul]
          rw [e1] at hp2 hf
          refine hn' _ (k + 1) (Weak.of _ [] [] (by simp) (by simp) ?_ trivial) (by omega) (by omega)
          have w2 : IntKind.i64.wrap (sumTo f k + x * detN n (without m 0 k)) = sumTo f (k + 1) := by rw [wrap64 (by omega) (by omega), sumTo, hf]
          simp -implicitDefEqProofs only [ints, rows, Int.add_zero, envOK, maA, maT, upd_apply, Nat.reduceEqDiff, ↓reduceIte, and_true, true_or, or_true, List.map_cons, List.map_nil, Nat.zero_ne_one, and_self, true_and, Int.natCast_zero, Int.cast_ofNat_Int, Int.ofNat_zero, w2, next64 (by omega : k < n + 1) (by omega)]
      · simp -implicitDefEqProofs only [go_sem, List.reduceReplicate, Nat.reduceEqDiff, Nat.reduceAdd, Nat.reduceLeDiff, Nat.reduceMul, Nat.reduceSub, Nat.reduceDiv, Int.reduceToNat, Nat.reduceLT, Int.reduceLT, Int.reduceLE, ↓reduceIte, reduceCtorEq, forall_apply_eq_imp_iff₂, ints, rows, rat, rats, toNat_cast]
        have : k = n + 1 := by omega
        rw [this]

theorem spec_l27Sign_ok (k : Nat) (hk : k ≤ 1000000000) : Pure Try.prog 155 [.i k] (.i (sg k)) := by
  refine fun_spec_l27Sign (by simp) ?_
  simp -implicitDefEqProofs only [go_sem, List.reduceReplicate, Nat.reduceEqDiff, Nat.reduceAdd, Nat.reduceLeDiff, Nat.reduceMul, Nat.reduceSub, Nat.reduceDiv, Int.reduceToNat, Nat.reduceLT, Int.reduceLT, Int.reduceLE, ↓reduceIte, reduceCtorEq, forall_apply_eq_imp_iff₂, ints, rows, rat, rats, toNat_cast, c_spec_l27Sign]
  have := Nat.mod_two_eq_zero_or_one k
  rw [tmod2, wrap64 (n := 2 * ((k % 2 : Nat) : Int)) (by omega) (by omega), wrap64 (by omega) (by omega)]
  exact ⟨by decide, rfl⟩

theorem spec_l27Det_ok : ∀ (n : Nat), n ≤ 4 → ∀ m, sq n m → Pure Try.prog 110 [rows m] (.i (detN n m)) := by
  intro n
  induction n with
  | zero =>
    intro _ m hm
    refine fun_spec_l27Det (by simp) ?_
    simp -implicitDefEqProofs only [go_sem, List.reduceReplicate, Nat.reduceEqDiff, Nat.reduceAdd, Nat.reduceLeDiff, Nat.reduceMul, Nat.reduceSub, Nat.reduceDiv, Int.reduceToNat, Nat.reduceLT, Int.reduceLT, Int.reduceLE, ↓reduceIte, reduceCtorEq, forall_apply_eq_imp_iff₂, ints, rows, rat, rats, toNat_cast, c_spec_l27Det]
    refine ⟨fun h => rfl, fun h => absurd hm.1 (by simpa using h)⟩
  | succ n ih =>
    intro hn m hm
    refine fun_spec_l27Det (by simp) ?_
    simp -implicitDefEqProofs only [go_sem, List.reduceReplicate, Nat.reduceEqDiff, Nat.reduceAdd, Nat.reduceLeDiff, Nat.reduceMul, Nat.reduceSub, Nat.reduceDiv, Int.reduceToNat, Nat.reduceLT, Int.reduceLT, Int.reduceLE, ↓reduceIte, reduceCtorEq, forall_apply_eq_imp_iff₂, ints, rows, rat, rats, toNat_cast, c_spec_l27Det]
    have hml : m.length = n + 1 := hm.1
    refine ⟨fun h => absurd h (by simp [hml]; omega), fun h => ?_⟩
    obtain ⟨r0, h0, e2, e3, _⟩ := head_small hm 0 (by omega)
    have hpart := fun k (hk : k ≤ n + 1) => part_abs hm (by omega) hk
    have hterm := fun k (hk : k < n + 1) x (hx : -20 ≤ x ∧ x ≤ 20) => term_abs hm (by omega) hk hx
    have hfin : detN (n + 1) m = sumTo (fun k => sg k * (m.headD []).getD k 0 * detN n (without m 0 k)) (n + 1) := rfl
    rw [hfin]
    rw [e2] at hpart ⊢
    generalize hS : (fun k => sg k * r0.getD k 0 * detN n (without m 0 k)) = f at hpart ⊢
    refine SemC.loopR (σ := Nat) (fun k => St.of [(0, .t (rows m)), (3, .t (.i (sumTo f k))), (4, .t (.i k))] []) (fun k => k ≤ n + 1) (fun k => n + 1 - k) 0 (Weak.of _ [] [] (by simp) (by simp) ?_ trivial) (by omega) fun k hk R hn' hr he => ?_
    · simp -implicitDefEqProofs only [ints, rows, Int.add_zero, envOK, maA, maT, upd_apply, Nat.reduceEqDiff, ↓reduceIte, and_true, true_or, or_true, List.map_cons, List.map_nil, Nat.zero_ne_one, and_self, true_and, Int.natCast_zero, Int.cast_ofNat_Int, Int.ofNat_zero, sumTo]
    · simp -implicitDefEqProofs only [go_sem, List.reduceReplicate, Nat.reduceEqDiff, Nat.reduceAdd, Nat.reduceLeDiff, Nat.reduceMul, Nat.reduceSub, Nat.reduceDiv, Int.reduceToNat, Nat.reduceLT, Int.reduceLT, Int.reduceLE, ↓reduceIte, reduceCtorEq, forall_apply_eq_imp_iff₂, ints, rows, rat, rats, toNat_cast]
      refine ⟨fun h => ?_, fun h => he _ _ ?_⟩
      · have hk1 : k < n + 1 := by omega
        obtain ⟨x, hx⟩ : ∃ x, r0[k]? = some x := ⟨_, List.getElem?_eq_getElem (by omega)⟩
        have hsx := (hm.2 r0 (List.mem_of_getElem? h0)).2 x (List.mem_of_getElem? hx)
        have hxd : r0.getD k 0 = x := by rw [List.getD_eq_getElem?_getD, hx]; rfl
        have ht := hterm k hk1 x hsx
        have hp1 := hpart k hk
        have hp2 := hpart (k + 1) hk1
        have hf : f k = sg k * x * detN n (without m 0 k) := by rw [← hS]; simp only [hxd]
        rw [sumTo, hf] at hp2
        have hs := sg_abs k
        refine CallV.pure (spec_l27Sign_ok k (by omega)) [] rfl Try.call155 (fun e R' hR => ?_) (by first | trivial | simp [T.noSh, T.noShL, rat]) (fun _ => rfl) ?_
        · simp -implicitDefEqProofs only [Int.natCast_zero, Int.cast_ofNat_Int, Int.natCast_one, Nat.le_refl, Nat.reduceLeDiff, Nat.sub_self, Nat.reduceSub, List.getElem?_cons_zero, List.getElem?_cons_succ, vt_self, vaL, vtL, va, vt, vb, maT, List.cons_append, List.nil_append, List.append_nil, true_or, or_true, go_sem, List.reduceReplicate, Nat.reduceEqDiff, Nat.reduceAdd, Nat.reduceLeDiff, Nat.reduceMul, Nat.reduceSub, Nat.reduceDiv, Int.reduceToNat, Nat.reduceLT, Int.reduceLT, Int.reduceLE, ↓reduceIte, reduceCtorEq, ints, rows, rat, rats, ratsO, toShL_ratC, List.mem_cons, List.mem_nil_iff, List.not_mem_nil, or_false, false_or, exists_eq_left, exists_eq_left', exists_eq_right', Root.live.injEq, eq_self_iff_true, exists_eq, and_true, T.toSh, toShL_ints, toShL_intsO, intsO, rowsO]
        simp -implicitDefEqProofs only [go_sem, List.reduceReplicate, Nat.reduceEqDiff, Nat.reduceAdd, Nat.reduceLeDiff, Nat.reduceMul, Nat.reduceSub, Nat.reduceDiv, Int.reduceToNat, Nat.reduceLT, Int.reduceLT, Int.reduceLE, ↓reduceIte, reduceCtorEq, forall_apply_eq_imp_iff₂, ints, rows, rat, rats, toNat_cast]
        refine ⟨by omega, by omega, fun r1 h1 => ?_⟩
        rw [h0] at h1; cases h1
        refine ⟨by omega, by omega, by omega, fun y hy => ?_⟩
        rw [hx] at hy; cases hy
        rw [wrap64 (n := sg k * x) (by rcases hs with h | h <;> rw [h] <;> omega) (by rcases hs with h | h <;> rw [h] <;> omega)]
        refine CallC.res (spec_l27Without_ok m 0 k (by omega) (fun y hy => by have := (hm.2 y hy).1; omega) (by omega)) [] rfl Try.call156 (fun e R' hR => ?_) (.inl rfl) ?_
        · simp -implicitDefEqProofs only [Int.natCast_zero, Int.cast_ofNat_Int, Int.natCast_one, Nat.le_refl, Nat.reduceLeDiff, Nat.sub_self, Nat.reduceSub, List.getElem?_cons_zero, List.getElem?_cons_succ, vt_self, vaL, vtL, va, vt, vb, maT, List.cons_append, List.nil_append, List.append_nil, true_or, or_true, go_sem, List.reduceReplicate, Nat.reduceEqDiff, Nat.reduceAdd, Nat.reduceLeDiff, Nat.reduceMul, Nat.reduceSub, Nat.reduceDiv, Int.reduceToNat, Nat.reduceLT, Int.reduceLT, Int.reduceLE, ↓reduceIte, reduceCtorEq, ints, rows, rat, rats, ratsO, toShL_ratC, List.mem_cons, List.mem_nil_iff, List.not_mem_nil, or_false, false_or, exists_eq_left, exists_eq_left', exists_eq_right', Root.live.injEq, eq_self_iff_true, exists_eq, and_true, T.toSh, toShL_ints, toShL_intsO, intsO, rowsO]
        simp -implicitDefEqProofs only [List.append_nil, List.cons_append, Nat.reduceLeDiff, afterCall, absT_rowsO, absT_intsO, absT, absL, updL, updS, freeAll, rid, T.noSh, T.noShL, Nat.zero_le, go_sem, List.reduceReplicate, Nat.reduceEqDiff, Nat.reduceAdd, Nat.reduceLeDiff, Nat.reduceMul, Nat.reduceSub, Nat.reduceDiv, Int.reduceToNat, Nat.reduceLT, Int.reduceLT, Int.reduceLE, ↓reduceIte, reduceCtorEq, rat, forall_apply_eq_imp_iff₂, toNat_cast]
        refine CallV.pure (ih (by omega) (without m 0 k) (sq_without hm (by omega) hk1)) [26] rfl Try.call110 (fun e R' hR => ?_) (by first | trivial | simp [T.noSh, T.noShL, rat]) (fun _ => rfl) ?_
        · have hq26 := (hR 26).resolve_left (by simp -implicitDefEqProofs only [go_sem, List.reduceReplicate, Nat.reduceEqDiff, Nat.reduceAdd, Nat.reduceLeDiff, Nat.reduceMul, Nat.reduceSub, Nat.reduceDiv, Int.reduceToNat, Nat.reduceLT, Int.reduceLT, Int.reduceLE, ↓reduceIte, reduceCtorEq, forall_apply_eq_imp_iff₂, ints, rows, rat, rats, toNat_cast, not_false_eq_true])
          simp -implicitDefEqProofs only [go_sem, List.reduceReplicate, Nat.reduceEqDiff, Nat.reduceAdd, Nat.reduceLeDiff, Nat.reduceMul, Nat.reduceSub, Nat.reduceDiv, Int.reduceToNat, Nat.reduceLT, Int.reduceLT, Int.reduceLE, ↓reduceIte, reduceCtorEq, forall_apply_eq_imp_iff₂, ints, rows, rat, rats, toNat_cast] at hq26
          simp -implicitDefEqProofs only [Int.natCast_zero, Int.cast_ofNat_Int, Int.natCast_one, Nat.le_refl, Nat.reduceLeDiff, Nat.sub_self, Nat.reduceSub, List.getElem?_cons_zero, List.getElem?_cons_succ, vt_self, vaL, vtL, va, vt, vb, maT, List.cons_append, List.nil_append, List.append_nil, true_or, or_true, go_sem, List.reduceReplicate, Nat.reduceEqDiff, Nat.reduceAdd, Nat.reduceLeDiff, Nat.reduceMul, Nat.reduceSub, Nat.reduceDiv, Int.reduceToNat, Nat.reduceLT, Int.reduceLT, Int.reduceLE, ↓reduceIte, reduceCtorEq, ints, rows, rat, rats, ratsO, toShL_ratC, List.mem_cons, List.mem_nil_iff, List.not_mem_nil, or_false, false_or, exists_eq_left, exists_eq_left', exists_eq_right', Root.live.injEq, eq_self_iff_true, exists_eq, and_true, T.toSh, toShL_ints, toShL_intsO, intsO, rowsO, hq26]
        simp -implicitDefEqProofs only [go_sem, List.reduceReplicate, Nat.reduceEqDiff, Nat.reduceAdd, Nat.reduceLeDiff, Nat.reduceMul, Nat.reduceSub, Nat.reduceDiv, Int.reduceToNat, Nat.reduceLT, Int.reduceLT, Int.reduceLE, ↓reduceIte, reduceCtorEq, forall_apply_eq_imp_iff₂, ints, rows, rat, rats, toNat_cast]
        have e1 : -76800000 ≤ sg k * x * detN n (without m 0 k) ∧ sg k * x * detN n (without m 0 k) ≤ 76800000 := by
          rcases hs with h | h <;> rw [h]
          · rw [Int.one_mul]; exact ht
          · rw [Int.neg_one_mul, Int.neg_mul]; omega
        rw [wrap64 (n := sg k * x * detN n (without m 0 k)) (by omega) (by omega)]
        refine hn' _ (k + 1) (Weak.of _ [] [] (by simp) (by simp) ?_ trivial) (by omega) (by omega)
        have w2 : IntKind.i64.wrap (sumTo f k + sg k * x * detN n (without m 0 k)) = sumTo f (k + 1) := by rw [wrap64 (by omega) (by omega), sumTo, hf]
        simp -implicitDefEqProofs only [ints, rows, Int.add_zero, envOK, maA, maT, upd_apply, Nat.reduceEqDiff, ↓reduceIte, and_true, true_or, or_true, List.map_cons, List.map_nil, Nat.zero_ne_one, and_self, true_and, Int.natCast_zero, Int.cast_ofNat_Int, Int.ofNat_zero, w2, next64 (by omega : k < n + 1) (by omega)]
      · simp -implicitDefEqProofs only [go_sem, List.reduceReplicate, Nat.reduceEqDiff, Nat.reduceAdd, Nat.reduceLeDiff, Nat.reduceMul, Nat.reduceSub, Nat.reduceDiv, Int.reduceToNat, Nat.reduceLT, Int.reduceLT, Int.reduceLE, ↓reduceIte, reduceCtorEq, forall_apply_eq_imp_iff₂, ints, rows, rat, rats, toNat_cast]
        have : k = n + 1 := by omega
        rw [this]
end Go.Ab

/- Contracts: adjugates. -/
set_option linter.unusedSimpArgs false
set_option linter.unusedVariables false
namespace Go.Ab
open Go.Proofs

/-- Rows that are filled one after the other: the first i are full, the next one holds cur. -/
def parts (full : Nat → List Int) (cur : List Int) (n i : Nat) : List (List Int) := (List.range n).map fun j => if j < i then full j else if j = i then cur else []
theorem parts_length (full : Nat → List Int) (cur : List Int) (n i : Nat) : (parts full cur n i).length = n := by simp [parts]
theorem parts_get {full : Nat → List Int} {cur : List Int} {n i : Nat} (h : i < n) : (parts full cur n i)[i]? = some cur := by simp [parts, h]
theorem parts_set {full : Nat → List Int} {cur : List Int} {n i : Nat} (cur' : List Int) (h : i < n) : (parts full cur n i).set i cur' = parts full cur' n i := by
  refine List.ext_getElem? fun j => ?_
  rw [List.getElem?_set]
  by_cases hj : i = j
  · subst hj
    rw [if_pos rfl, if_pos (by rw [parts_length]; exact h), parts_get h]
  · rw [if_neg hj]
    simp only [parts, List.getElem?_map]
    by_cases hjn : j < n
    · rw [List.getElem?_range hjn]; simp only [Option.map_some, if_neg (Ne.symm hj)]
    · rw [List.getElem?_eq_none (by simpa using hjn)]; rfl
theorem parts_zero (full : Nat → List Int) (n : Nat) : parts full [] n 0 = List.replicate n [] := by
  refine List.ext_getElem? fun j => ?_
  simp only [parts, List.getElem?_map, List.getElem?_replicate]
  by_cases hjn : j < n
  · rw [List.getElem?_range hjn, if_pos hjn]; simp
  · rw [List.getElem?_eq_none (by simpa using hjn), if_neg hjn]; rfl
theorem parts_next {full : Nat → List Int} {cur : List Int} {n i : Nat} (h : full i = cur) : parts full cur n i = parts full [] n (i + 1) := by
  refine List.map_congr_left fun j _ => ?_
  by_cases h1 : j < i
  · rw [if_pos h1, if_pos (by omega)]
  · by_cases h2 : j = i
    · subst h2; rw [if_neg h1, if_pos rfl, if_pos (by omega), h]
    · rw [if_neg h1, if_neg h2, if_neg (by omega)]
      split <;> rfl
theorem parts_all (full : Nat → List Int) (cur : List Int) (n : Nat) : parts full cur n n = (List.range n).map full := by
  refine List.map_congr_left fun j hj => ?_
  rw [if_pos (by simpa using hj)]

def adjRow (n : Nat) (m : List (List Int)) (i k : Nat) : List Int := (List.range k).map fun j => sg (i + j) * detN (n - 1) (without m j i)
def adjM (n : Nat) (m : List (List Int)) : List (List Int) := (List.range n).map fun i => adjRow n m i n
theorem adjRow_succ (n : Nat) (m : List (List Int)) (i k : Nat) : adjRow n m i (k + 1) = adjRow n m i k ++ [sg (i + k) * detN (n - 1) (without m k i)] := by
  simp only [adjRow, List.range_succ, List.map_append, List.map_cons, List.map_nil]
theorem adjRow_zero (n : Nat) (m : List (List Int)) (i : Nat) : adjRow n m i 0 = [] := rfl
theorem adjRow_length (n : Nat) (m : List (List Int)) (i k : Nat) : (adjRow n m i k).length = k := by simp [adjRow]
theorem minor_abs {n : Nat} {m : List (List Int)} (h : sq n m) (hn : n ≤ 4) {i k : Nat} (hi : i < n) (hk : k < n) : sq (n - 1) (without m k i) ∧ -3840000 ≤ detN (n - 1) (without m k i) ∧ detN (n - 1) (without m k i) ≤ 3840000 := by
  obtain ⟨p, rfl⟩ : ∃ p, n = p + 1 := ⟨n - 1, by omega⟩
  have h1 := sq_without h hk hi
  have h2 := detN_abs h1
  have h3 := detB_le (n := p) (by omega)
  exact ⟨h1, by simp only [Nat.add_sub_cancel]; omega, by simp only [Nat.add_sub_cancel]; omega⟩

theorem impl_adjugate_ok (n : Nat) (hn : n ≤ 4) (m : List (List Int)) (hm : sq n m) : Fun Try.prog 106 [] [.t (rows m)] fun o r => o = [] ∧ r = rowsO (adjM n m) := by
  refine fun_impl_adjugate (by simp) ?_
  simp -implicitDefEqProofs only [go_sem, List.reduceReplicate, Nat.reduceEqDiff, Nat.reduceAdd, Nat.reduceLeDiff, Nat.reduceMul, Nat.reduceSub, Nat.reduceDiv, Int.reduceToNat, Nat.reduceLT, Int.reduceLT, Int.reduceLE, ↓reduceIte, reduceCtorEq, forall_apply_eq_imp_iff₂, ints, rows, rat, rats, toNat_cast, c_impl_adjugate]
  have hml : m.length = n := hm.1
  rw [hml]
  refine ⟨by omega, by omega, ?_⟩
  have hfull : ∀ i, (fun i => adjRow n m i n) i = adjRow n m i n := fun _ => rfl
  refine SemC.loopR (σ := Nat) (fun i => St.of [(0, .t (rows m)), (3, .own 9), (11, .t (.i n)), (12, .t (.i i))] [(9, .arr 1 ((parts (fun i => adjRow n m i n) [] n i).map intsO))]) (fun i => i ≤ n) (fun i => n - i) 0 (Weak.of _ _ [some 9] (by simp) (by simp) ?_ ?_) (by simp) fun i hi R hn' hr' he => ?_
  · simp -implicitDefEqProofs only [ints, rows, Nat.reduceBEq, Int.add_zero, envOK, maA, maT, upd_apply, Nat.reduceEqDiff, ↓reduceIte, and_true, true_or, or_true, List.map_cons, List.map_nil, Nat.zero_ne_one, and_self, true_and, Int.natCast_zero, Int.cast_ofNat_Int, Int.ofNat_zero, piOf, List.zip_cons_cons, List.zip_nil_right, List.lookup_cons, List.lookup_nil, beq_self_eq_true, rootsOK, mkRoots, mkEnv]
  · exact ⟨⟨_, rfl, by rw [made_one, parts_zero]; exact le_nils _⟩, rfl, trivial⟩
  · simp -implicitDefEqProofs only [go_sem, List.reduceReplicate, Nat.reduceEqDiff, Nat.reduceAdd, Nat.reduceLeDiff, Nat.reduceMul, Nat.reduceSub, Nat.reduceDiv, Int.reduceToNat, Nat.reduceLT, Int.reduceLT, Int.reduceLE, ↓reduceIte, reduceCtorEq, forall_apply_eq_imp_iff₂, ints, rows, rat, rats, toNat_cast]
    refine ⟨fun h => ?_, fun h => he _ _ ?_⟩
    · rw [hml]
      refine SemC.loopR (σ := Nat) (fun k => St.of [(0, .t (rows m)), (3, .own 9), (4, .t (.i i)), (11, .t (.i n)), (12, .t (.i i)), (16, .t (.i n)), (17, .t (.i k))] [(9, .arr 1 ((parts (fun i => adjRow n m i n) (adjRow n m i k) n i).map intsO))]) (fun k => k ≤ n) (fun k => n - k) 0 (Weak.of _ _ [some 9] (by simp) (by simp) ?_ ?_) (by simp) fun k hk R2 hn2 hr2 he2 => ?_
      · simp -implicitDefEqProofs only [ints, rows, Nat.reduceBEq, Int.add_zero, envOK, maA, maT, upd_apply, Nat.reduceEqDiff, ↓reduceIte, and_true, true_or, or_true, List.map_cons, List.map_nil, Nat.zero_ne_one, and_self, true_and, Int.natCast_zero, Int.cast_ofNat_Int, Int.ofNat_zero, piOf, List.zip_cons_cons, List.zip_nil_right, List.lookup_cons, List.lookup_nil, beq_self_eq_true, rootsOK, mkRoots, mkEnv]
      · exact ⟨⟨_, rfl, by rw [adjRow_zero]; exact .refl _⟩, rfl, trivial⟩
      · have hin : i < n := by omega
        have hlen := parts_length (fun i => adjRow n m i n) (adjRow n m i k) n i
        simp -implicitDefEqProofs only [go_sem, List.reduceReplicate, Nat.reduceEqDiff, Nat.reduceAdd, Nat.reduceLeDiff, Nat.reduceMul, Nat.reduceSub, Nat.reduceDiv, Int.reduceToNat, Nat.reduceLT, Int.reduceLT, Int.reduceLE, ↓reduceIte, reduceCtorEq, forall_apply_eq_imp_iff₂, ints, rows, rat, rats, toNat_cast, hlen, intsO]
        refine ⟨fun h1 => ?_, fun h1 => he2 _ _ ?_⟩
        · have hkn : k < n := by omega
          obtain ⟨q1, q2, q3⟩ := minor_abs hm hn hin hkn
          refine CallW.res (impl_without_ok m k i (by omega) (fun y hy => by have := (hm.2 y hy).1; omega) (by omega)) [] rfl Try.call154 ?_ (.inl rfl) ?_
          · simp -implicitDefEqProofs only [Int.natCast_zero, Int.cast_ofNat_Int, Int.natCast_one, Nat.le_refl, Nat.reduceLeDiff, Nat.sub_self, Nat.reduceSub, List.getElem?_cons_zero, List.getElem?_cons_succ, vt_self, vaL, vtL, va, vt, vb, maT, List.cons_append, List.nil_append, List.append_nil, true_or, or_true, go_sem, List.reduceReplicate, Nat.reduceEqDiff, Nat.reduceAdd, Nat.reduceLeDiff, Nat.reduceMul, Nat.reduceSub, Nat.reduceDiv, Int.reduceToNat, Nat.reduceLT, Int.reduceLT, Int.reduceLE, ↓reduceIte, reduceCtorEq, ints, rows, rat, rats, ratsO, toShL_ratC, List.mem_cons, List.mem_nil_iff, List.not_mem_nil, or_false, false_or, exists_eq_left, exists_eq_left', exists_eq_right', Root.live.injEq, eq_self_iff_true, exists_eq, and_true, T.toSh, toShL_ints, toShL_intsO, intsO, rowsO]
          simp -implicitDefEqProofs only [List.append_nil, List.cons_append, Nat.reduceLeDiff, afterCall, absT_rowsO, absT_intsO, absT, absL, updL, updS, freeAll, rid, T.noSh, T.noShL, Nat.zero_le, go_sem, List.reduceReplicate, Nat.reduceEqDiff, Nat.reduceAdd, Nat.reduceLeDiff, Nat.reduceMul, Nat.reduceSub, Nat.reduceDiv, Int.reduceToNat, Nat.reduceLT, Int.reduceLT, Int.reduceLE, ↓reduceIte, reduceCtorEq, rat, forall_apply_eq_imp_iff₂, toNat_cast]
          refine CallW.pure (impl_determinant_ok (n - 1) (by omega) (without m k i) q1) [23] rfl Try.call109 ?_ (by first | trivial | simp [T.noSh, T.noShL, rat]) rfl ?_
          · simp -implicitDefEqProofs only [Int.natCast_zero, Int.cast_ofNat_Int, Int.natCast_one, Nat.le_refl, Nat.reduceLeDiff, Nat.sub_self, Nat.reduceSub, List.getElem?_cons_zero, List.getElem?_cons_succ, vt_self, vaL, vtL, va, vt, vb, maT, List.cons_append, List.nil_append, List.append_nil, true_or, or_true, go_sem, List.reduceReplicate, Nat.reduceEqDiff, Nat.reduceAdd, Nat.reduceLeDiff, Nat.reduceMul, Nat.reduceSub, Nat.reduceDiv, Int.reduceToNat, Nat.reduceLT, Int.reduceLT, Int.reduceLE, ↓reduceIte, reduceCtorEq, ints, rows, rat, rats, ratsO, toShL_ratC, List.mem_cons, List.mem_nil_iff, List.not_mem_nil, or_false, false_or, exists_eq_left, exists_eq_left', exists_eq_right', Root.live.injEq, eq_self_iff_true, exists_eq, and_true, T.toSh, toShL_ints, toShL_intsO, intsO, rowsO]
          simp -implicitDefEqProofs only [go_sem, List.reduceReplicate, Nat.reduceEqDiff, Nat.reduceAdd, Nat.reduceLeDiff, Nat.reduceMul, Nat.reduceSub, Nat.reduceDiv, Int.reduceToNat, Nat.reduceLT, Int.reduceLT, Int.reduceLE, ↓reduceIte, reduceCtorEq, forall_apply_eq_imp_iff₂, ints, rows, rat, rats, toNat_cast, intsO, hlen]
          have hw : IntKind.i64.wrap ((i : Int) + (k : Int)) = ((i + k : Nat) : Int) := by rw [wrap64 (by omega) (by omega)]; rfl
          rw [hw, tmod2]
          have hs1 : (i + k) % 2 = 1 → sg (i + k) = -1 := fun h => by simp [sg, h]
          have hs0 : (i + k) % 2 = 0 → sg (i + k) = 1 := fun h => by simp [sg, h]
          refine ⟨by decide, fun h2 => ⟨by omega, by omega, by omega, fun q hq => ?_⟩, fun h2 => ⟨by omega, by omega, by omega, fun q hq => ?_⟩⟩
          · have hodd : (i + k) % 2 = 1 := by simp at h2; omega
            rw [parts_get hin] at hq; cases hq
            have hw1 : IntKind.i64.wrap (0 - detN (n - 1) (without m k i)) = sg (i + k) * detN (n - 1) (without m k i) := by rw [wrap64 (by omega) (by omega), hs1 hodd, Int.neg_one_mul]; omega
            refine ⟨by simp only [List.length_map, adjRow_length]; omega, by omega, by omega, by omega, hn2 _ (k + 1) (Weak.of _ _ [some 9] (by simp) (by simp) ?_ ?_) (by omega) (by omega)⟩
            · simp -implicitDefEqProofs only [ints, rows, Nat.reduceBEq, Int.add_zero, envOK, maA, maT, upd_apply, Nat.reduceEqDiff, ↓reduceIte, and_true, true_or, or_true, List.map_cons, List.map_nil, Nat.zero_ne_one, and_self, true_and, Int.natCast_zero, Int.cast_ofNat_Int, Int.ofNat_zero, piOf, List.zip_cons_cons, List.zip_nil_right, List.lookup_cons, List.lookup_nil, beq_self_eq_true, rootsOK, mkRoots, mkEnv, next64 (by omega : k < n) (by omega)]
            · refine ⟨⟨_, rfl, ?_⟩, rfl, trivial⟩
              rw [← parts_set (adjRow n m i (k + 1)) hin, adjRow_succ, hw1]
              simp only [List.map_append, List.map_cons, List.map_nil, intsO, List.map_set]
              exact .refl _
          · have hev : (i + k) % 2 = 0 := by simp at h2; omega
            rw [parts_get hin] at hq; cases hq
            have hw1 : detN (n - 1) (without m k i) = sg (i + k) * detN (n - 1) (without m k i) := by rw [hs0 hev, Int.one_mul]
            refine ⟨by simp only [List.length_map, adjRow_length]; omega, by omega, by omega, by omega, hn2 _ (k + 1) (Weak.of _ _ [some 9] (by simp) (by simp) ?_ ?_) (by omega) (by omega)⟩
            · simp -implicitDefEqProofs only [ints, rows, Nat.reduceBEq, Int.add_zero, envOK, maA, maT, upd_apply, Nat.reduceEqDiff, ↓reduceIte, and_true, true_or, or_true, List.map_cons, List.map_nil, Nat.zero_ne_one, and_self, true_and, Int.natCast_zero, Int.cast_ofNat_Int, Int.ofNat_zero, piOf, List.zip_cons_cons, List.zip_nil_right, List.lookup_cons, List.lookup_nil, beq_self_eq_true, rootsOK, mkRoots, mkEnv, next64 (by omega : k < n) (by omega)]
            · refine ⟨⟨_, rfl, ?_⟩, rfl, trivial⟩
              rw [← parts_set (adjRow n m i (k + 1)) hin, adjRow_succ, ← hw1]
              simp only [List.map_append, List.map_cons, List.map_nil, intsO, List.map_set]
              exact .refl _
        · simp -implicitDefEqProofs only [go_sem, List.reduceReplicate, Nat.reduceEqDiff, Nat.reduceAdd, Nat.reduceLeDiff, Nat.reduceMul, Nat.reduceSub, Nat.reduceDiv, Int.reduceToNat, Nat.reduceLT, Int.reduceLT, Int.reduceLE, ↓reduceIte, reduceCtorEq, forall_apply_eq_imp_iff₂, ints, rows, rat, rats, toNat_cast]
          have : k = n := by omega
          refine hn' _ (i + 1) (Weak.of _ _ [some 9] (by simp) (by simp) ?_ ?_) (by omega) (by omega)
          · simp -implicitDefEqProofs only [ints, rows, Nat.reduceBEq, Int.add_zero, envOK, maA, maT, upd_apply, Nat.reduceEqDiff, ↓reduceIte, and_true, true_or, or_true, List.map_cons, List.map_nil, Nat.zero_ne_one, and_self, true_and, Int.natCast_zero, Int.cast_ofNat_Int, Int.ofNat_zero, piOf, List.zip_cons_cons, List.zip_nil_right, List.lookup_cons, List.lookup_nil, beq_self_eq_true, rootsOK, mkRoots, mkEnv, next64 (by omega : i < n) (by omega)]
          · exact ⟨⟨_, rfl, by rw [parts_next (by rw [this])]; exact .refl _⟩, rfl, trivial⟩
    · simp -implicitDefEqProofs only [go_sem, List.reduceReplicate, Nat.reduceEqDiff, Nat.reduceAdd, Nat.reduceLeDiff, Nat.reduceMul, Nat.reduceSub, Nat.reduceDiv, Int.reduceToNat, Nat.reduceLT, Int.reduceLT, Int.reduceLE, ↓reduceIte, reduceCtorEq, forall_apply_eq_imp_iff₂, ints, rows, rat, rats, toNat_cast]
      have : i = n := by omega
      rw [this, parts_all]; rfl

theorem adjM_succ (n : Nat) (m : List (List Int)) (k : Nat) : (List.range (k + 1)).map (fun i => adjRow n m i n) = (List.range k).map (fun i => adjRow n m i n) ++ [adjRow n m k n] := by
  rw [List.range_succ, List.map_append]; rfl
theorem spec_l27Adj_ok (n : Nat) (hn : n ≤ 4) (m : List (List Int)) (hm : sq n m) : Fun Try.prog 108 [] [.t (rows m)] fun o r => o = [] ∧ r = rowsO (adjM n m) := by
  refine fun_spec_l27Adj (by simp) ?_
  simp -implicitDefEqProofs only [go_sem, List.reduceReplicate, Nat.reduceEqDiff, Nat.reduceAdd, Nat.reduceLeDiff, Nat.reduceMul, Nat.reduceSub, Nat.reduceDiv, Int.reduceToNat, Nat.reduceLT, Int.reduceLT, Int.reduceLE, ↓reduceIte, reduceCtorEq, forall_apply_eq_imp_iff₂, ints, rows, rat, rats, toNat_cast, c_spec_l27Adj]
  have hml : m.length = n := hm.1
  refine SemC.loopR (σ := Nat) (fun i => St.of [(0, .t (rows m)), (3, .own 77), (4, .t (.i i))] [(77, .arr 1 (((List.range i).map fun i => adjRow n m i n).map intsO))]) (fun i => i ≤ n) (fun i => n - i) 0 (Weak.of _ _ [some 7] (by simp) (by simp) ?_ ?_) (by simp) fun i hi R hn' hr' he => ?_
  · simp -implicitDefEqProofs only [ints, rows, Nat.reduceBEq, Int.add_zero, envOK, maA, maT, upd_apply, Nat.reduceEqDiff, ↓reduceIte, and_true, true_or, or_true, List.map_cons, List.map_nil, Nat.zero_ne_one, and_self, true_and, Int.natCast_zero, Int.cast_ofNat_Int, Int.ofNat_zero, piOf, List.zip_cons_cons, List.zip_nil_right, List.lookup_cons, List.lookup_nil, beq_self_eq_true, rootsOK, mkRoots, mkEnv]
  · exact ⟨⟨_, rfl, .refl _⟩, rfl, trivial⟩
  · simp -implicitDefEqProofs only [go_sem, List.reduceReplicate, Nat.reduceEqDiff, Nat.reduceAdd, Nat.reduceLeDiff, Nat.reduceMul, Nat.reduceSub, Nat.reduceDiv, Int.reduceToNat, Nat.reduceLT, Int.reduceLT, Int.reduceLE, ↓reduceIte, reduceCtorEq, forall_apply_eq_imp_iff₂, ints, rows, rat, rats, toNat_cast, hml]
    refine ⟨fun h => ?_, fun h => he _ _ ?_⟩
    · have hin : i < n := by omega
      refine SemC.loopR (σ := Nat) (fun k => St.of [(0, .t (rows m)), (3, .own 77), (4, .t (.i i)), (5, .own 78), (6, .t (.i k))] [(77, .arr 1 (((List.range i).map fun i => adjRow n m i n).map intsO)), (78, .arr 1 ((adjRow n m i k).map T.i))]) (fun k => k ≤ n) (fun k => n - k) 0 (Weak.of _ _ [some 77, some 14] (by simp) (by simp) ?_ ?_) (by simp) fun k hk R2 hn2 hr2 he2 => ?_
      · simp -implicitDefEqProofs only [ints, rows, Nat.reduceBEq, Int.add_zero, envOK, maA, maT, upd_apply, Nat.reduceEqDiff, ↓reduceIte, and_true, true_or, or_true, List.map_cons, List.map_nil, Nat.zero_ne_one, and_self, true_and, Int.natCast_zero, Int.cast_ofNat_Int, Int.ofNat_zero, piOf, List.zip_cons_cons, List.zip_nil_right, List.lookup_cons, List.lookup_nil, beq_self_eq_true, rootsOK, mkRoots, mkEnv]
      · exact ⟨⟨_, rfl, .refl _⟩, rfl, ⟨_, rfl, .refl _⟩, rfl, trivial⟩
      · simp -implicitDefEqProofs only [go_sem, List.reduceReplicate, Nat.reduceEqDiff, Nat.reduceAdd, Nat.reduceLeDiff, Nat.reduceMul, Nat.reduceSub, Nat.reduceDiv, Int.reduceToNat, Nat.reduceLT, Int.reduceLT, Int.reduceLE, ↓reduceIte, reduceCtorEq, forall_apply_eq_imp_iff₂, ints, rows, rat, rats, toNat_cast, hml]
        refine ⟨fun h1 => ?_, fun h1 => he2 _ _ ?_⟩
        · have hkn : k < n := by omega
          obtain ⟨q1, q2, q3⟩ := minor_abs hm hn hin hkn
          have hw : IntKind.i64.wrap ((i : Int) + (k : Int)) = ((i + k : Nat) : Int) := by rw [wrap64 (by omega) (by omega)]; rfl
          rw [hw]
          refine CallW.pure (spec_l27Sign_ok (i + k) (by omega)) [] rfl Try.call155 ?_ (by first | trivial | simp [T.noSh, T.noShL, rat]) rfl ?_
          · simp -implicitDefEqProofs only [Int.natCast_zero, Int.cast_ofNat_Int, Int.natCast_one, Nat.le_refl, Nat.reduceLeDiff, Nat.sub_self, Nat.reduceSub, List.getElem?_cons_zero, List.getElem?_cons_succ, vt_self, vaL, vtL, va, vt, vb, maT, List.cons_append, List.nil_append, List.append_nil, true_or, or_true, go_sem, List.reduceReplicate, Nat.reduceEqDiff, Nat.reduceAdd, Nat.reduceLeDiff, Nat.reduceMul, Nat.reduceSub, Nat.reduceDiv, Int.reduceToNat, Nat.reduceLT, Int.reduceLT, Int.reduceLE, ↓reduceIte, reduceCtorEq, ints, rows, rat, rats, ratsO, toShL_ratC, List.mem_cons, List.mem_nil_iff, List.not_mem_nil, or_false, false_or, exists_eq_left, exists_eq_left', exists_eq_right', Root.live.injEq, eq_self_iff_true, exists_eq, and_true, T.toSh, toShL_ints, toShL_intsO, intsO, rowsO]
          simp -implicitDefEqProofs only [go_sem, List.reduceReplicate, Nat.reduceEqDiff, Nat.reduceAdd, Nat.reduceLeDiff, Nat.reduceMul, Nat.reduceSub, Nat.reduceDiv, Int.reduceToNat, Nat.reduceLT, Int.reduceLT, Int.reduceLE, ↓reduceIte, reduceCtorEq, forall_apply_eq_imp_iff₂, ints, rows, rat, rats, toNat_cast]
          refine CallW.res (spec_l27Without_ok m k i (by omega) (fun y hy => by have := (hm.2 y hy).1; omega) (by omega)) [] rfl Try.call156 ?_ (.inl rfl) ?_
          · simp -implicitDefEqProofs only [Int.natCast_zero, Int.cast_ofNat_Int, Int.natCast_one, Nat.le_refl, Nat.reduceLeDiff, Nat.sub_self, Nat.reduceSub, List.getElem?_cons_zero, List.getElem?_cons_succ, vt_self, vaL, vtL, va, vt, vb, maT, List.cons_append, List.nil_append, List.append_nil, true_or, or_true, go_sem, List.reduceReplicate, Nat.reduceEqDiff, Nat.reduceAdd, Nat.reduceLeDiff, Nat.reduceMul, Nat.reduceSub, Nat.reduceDiv, Int.reduceToNat, Nat.reduceLT, Int.reduceLT, Int.reduceLE, ↓reduceIte, reduceCtorEq, ints, rows, rat, rats, ratsO, toShL_ratC, List.mem_cons, List.mem_nil_iff, List.not_mem_nil, or_false, false_or, exists_eq_left, exists_eq_left', exists_eq_right', Root.live.injEq, eq_self_iff_true, exists_eq, and_true, T.toSh, toShL_ints, toShL_intsO, intsO, rowsO]
          simp -implicitDefEqProofs only [List.append_nil, List.cons_append, Nat.reduceLeDiff, afterCall, absT_rowsO, absT_intsO, absT, absL, updL, updS, freeAll, rid, T.noSh, T.noShL, Nat.zero_le, go_sem, List.reduceReplicate, Nat.reduceEqDiff, Nat.reduceAdd, Nat.reduceLeDiff, Nat.reduceMul, Nat.reduceSub, Nat.reduceDiv, Int.reduceToNat, Nat.reduceLT, Int.reduceLT, Int.reduceLE, ↓reduceIte, reduceCtorEq, rat, forall_apply_eq_imp_iff₂, toNat_cast]
          refine CallW.pure (spec_l27Det_ok (n - 1) (by omega) (without m k i) q1) [29] rfl Try.call110 ?_ (by first | trivial | simp [T.noSh, T.noShL, rat]) rfl ?_
          · simp -implicitDefEqProofs only [Int.natCast_zero, Int.cast_ofNat_Int, Int.natCast_one, Nat.le_refl, Nat.reduceLeDiff, Nat.sub_self, Nat.reduceSub, List.getElem?_cons_zero, List.getElem?_cons_succ, vt_self, vaL, vtL, va, vt, vb, maT, List.cons_append, List.nil_append, List.append_nil, true_or, or_true, go_sem, List.reduceReplicate, Nat.reduceEqDiff, Nat.reduceAdd, Nat.reduceLeDiff, Nat.reduceMul, Nat.reduceSub, Nat.reduceDiv, Int.reduceToNat, Nat.reduceLT, Int.reduceLT, Int.reduceLE, ↓reduceIte, reduceCtorEq, ints, rows, rat, rats, ratsO, toShL_ratC, List.mem_cons, List.mem_nil_iff, List.not_mem_nil, or_false, false_or, exists_eq_left, exists_eq_left', exists_eq_right', Root.live.injEq, eq_self_iff_true, exists_eq, and_true, T.toSh, toShL_ints, toShL_intsO, intsO, rowsO]
          simp -implicitDefEqProofs only [go_sem, List.reduceReplicate, Nat.reduceEqDiff, Nat.reduceAdd, Nat.reduceLeDiff, Nat.reduceMul, Nat.reduceSub, Nat.reduceDiv, Int.reduceToNat, Nat.reduceLT, Int.reduceLT, Int.reduceLE, ↓reduceIte, reduceCtorEq, forall_apply_eq_imp_iff₂, ints, rows, rat, rats, toNat_cast]
          have hs := sg_abs (i + k)
          have hw1 : IntKind.i64.wrap (sg (i + k) * detN (n - 1) (without m k i)) = sg (i + k) * detN (n - 1) (without m k i) := wrap64 (by rcases hs with h | h <;> rw [h] <;> omega) (by rcases hs with h | h <;> rw [h] <;> omega)
          have hal := adjRow_length n m i k
          refine ⟨by omega, hn2 _ (k + 1) (Weak.of _ _ [some 77, some 33] (by simp) (by simp) ?_ ?_) (by omega) (by omega)⟩
          · simp -implicitDefEqProofs only [ints, rows, Nat.reduceBEq, Int.add_zero, envOK, maA, maT, upd_apply, Nat.reduceEqDiff, ↓reduceIte, and_true, true_or, or_true, List.map_cons, List.map_nil, Nat.zero_ne_one, and_self, true_and, Int.natCast_zero, Int.cast_ofNat_Int, Int.ofNat_zero, piOf, List.zip_cons_cons, List.zip_nil_right, List.lookup_cons, List.lookup_nil, beq_self_eq_true, rootsOK, mkRoots, mkEnv, next64 (by omega : k < n) (by omega)]
          · refine ⟨⟨_, rfl, .refl _⟩, rfl, ⟨_, rfl, ?_⟩, rfl, trivial⟩
            rw [adjRow_succ, hw1]
            simp only [List.map_append, List.map_cons, List.map_nil]
            exact .refl _
        · simp -implicitDefEqProofs only [go_sem, List.reduceReplicate, Nat.reduceEqDiff, Nat.reduceAdd, Nat.reduceLeDiff, Nat.reduceMul, Nat.reduceSub, Nat.reduceDiv, Int.reduceToNat, Nat.reduceLT, Int.reduceLT, Int.reduceLE, ↓reduceIte, reduceCtorEq, forall_apply_eq_imp_iff₂, ints, rows, rat, rats, toNat_cast]
          have hkn : k = n := by omega
          have hal : ((List.range i).map fun i => adjRow n m i n).length = i := by simp
          refine ⟨by simp only [List.length_map, List.length_range]; omega, hn' _ (i + 1) (Weak.of _ _ [some 37] (by simp) (by simp) ?_ ?_) (by omega) (by omega)⟩
          · simp -implicitDefEqProofs only [ints, rows, Nat.reduceBEq, Int.add_zero, envOK, maA, maT, upd_apply, Nat.reduceEqDiff, ↓reduceIte, and_true, true_or, or_true, List.map_cons, List.map_nil, Nat.zero_ne_one, and_self, true_and, Int.natCast_zero, Int.cast_ofNat_Int, Int.ofNat_zero, piOf, List.zip_cons_cons, List.zip_nil_right, List.lookup_cons, List.lookup_nil, beq_self_eq_true, rootsOK, mkRoots, mkEnv, next64 (by omega : i < n) (by omega)]
          · refine ⟨⟨_, rfl, ?_⟩, rfl, trivial⟩
            rw [adjM_succ, hkn]
            simp only [List.map_append, List.map_cons, List.map_nil]
            exact .refl _
    · simp -implicitDefEqProofs only [go_sem, List.reduceReplicate, Nat.reduceEqDiff, Nat.reduceAdd, Nat.reduceLeDiff, Nat.reduceMul, Nat.reduceSub, Nat.reduceDiv, Int.reduceToNat, Nat.reduceLT, Int.reduceLT, Int.reduceLE, ↓reduceIte, reduceCtorEq, forall_apply_eq_imp_iff₂, ints, rows, rat, rats, toNat_cast]
      have : i = n := by omega
      rw [this]; rfl
end Go.Ab

/- Contracts: Determinant and Adjugate; the law FnExactDeterminant. -/
set_option linter.unusedSimpArgs false
set_option linter.unusedVariables false
namespace Go.Ab
open Go.Proofs

theorem sq_of_isMat {m : List (List Int)} (h : isMat m = true) (h' : m.length = (m.headD []).length) : m.length ≤ 4 ∧ sq m.length m := by
  obtain ⟨h1, h2, h3, h4, h5, h6⟩ := isMat_spec h
  exact ⟨h2, rfl, fun r hr => ⟨by rw [h', h5 r hr], h6 r hr⟩⟩
theorem headD_get {m : List (List Int)} {r : List Int} (h : m[0]? = some r) : m.headD [] = r := by
  cases m with
  | nil => simp at h
  | cons a m => simpa using h
/-- The code of a matrix that has to be square. -/
def sqCode (m : List (List Int)) : Int := if isMat m then (if m.length = (m.headD []).length then 0 else 5) else 1
theorem sqCode_zero {m : List (List Int)} (h : sqCode m = 0) : m.length ≤ 4 ∧ sq m.length m := by
  unfold sqCode at h
  split at h
  · rename_i h1
    split at h
    · rename_i h2; exact sq_of_isMat h1 h2
    · omega
  · omega
theorem spec_l27Square_ok (m : List (List Int)) : Pure Try.prog 107 [rows m] (.i (sqCode m)) := by
  refine fun_spec_l27Square (by simp) ?_
  simp -implicitDefEqProofs only [go_sem, List.reduceReplicate, Nat.reduceEqDiff, Nat.reduceAdd, Nat.reduceLeDiff, Nat.reduceMul, Nat.reduceSub, Nat.reduceDiv, Int.reduceToNat, Nat.reduceLT, Int.reduceLT, Int.reduceLE, ↓reduceIte, reduceCtorEq, forall_apply_eq_imp_iff₂, ints, rows, rat, rats, toNat_cast, c_spec_l27Square]
  refine CallW.pure (spec_IsMatrix_ok m) [] rfl Try.call68 ?_ (by first | trivial | simp [T.noSh, T.noShL, rat]) rfl ?_
  · simp -implicitDefEqProofs only [Int.natCast_zero, Int.cast_ofNat_Int, Int.natCast_one, Nat.le_refl, Nat.reduceLeDiff, Nat.sub_self, Nat.reduceSub, List.getElem?_cons_zero, List.getElem?_cons_succ, vt_self, vaL, vtL, va, vt, vb, maT, List.cons_append, List.nil_append, List.append_nil, true_or, or_true, go_sem, List.reduceReplicate, Nat.reduceEqDiff, Nat.reduceAdd, Nat.reduceLeDiff, Nat.reduceMul, Nat.reduceSub, Nat.reduceDiv, Int.reduceToNat, Nat.reduceLT, Int.reduceLT, Int.reduceLE, ↓reduceIte, reduceCtorEq, ints, rows, rat, rats, ratsO, toShL_ratC, List.mem_cons, List.mem_nil_iff, List.not_mem_nil, or_false, false_or, exists_eq_left, exists_eq_left', exists_eq_right', Root.live.injEq, eq_self_iff_true, exists_eq, and_true, T.toSh, toShL_ints, toShL_intsO, intsO, rowsO]
  simp -implicitDefEqProofs only [go_sem, List.reduceReplicate, Nat.reduceEqDiff, Nat.reduceAdd, Nat.reduceLeDiff, Nat.reduceMul, Nat.reduceSub, Nat.reduceDiv, Int.reduceToNat, Nat.reduceLT, Int.reduceLT, Int.reduceLE, ↓reduceIte, reduceCtorEq, forall_apply_eq_imp_iff₂, ints, rows, rat, rats, toNat_cast]
  refine ⟨fun h => ?_, fun h => ?_⟩
  · have h' : isMat m = false := by simpa using h
    rw [sqCode, h']; rfl
  · have hmat : isMat m = true := by simpa using h
    obtain ⟨h1, _⟩ := isMat_spec hmat
    refine ⟨by omega, by omega, fun r0 h0 => ?_⟩
    rw [sqCode, if_pos hmat, headD_get h0]
    refine ⟨fun h => ?_, fun h => ?_⟩
    · rw [if_neg (by simp at h; omega)]
    · rw [if_pos (by simp at h; omega)]
def detRes (m : List (List Int)) : Int × Int := if sqCode m = 0 then (detN m.length m, 0) else (0, sqCode m)
def detT (m : List (List Int)) : T := .tup [.i (detRes m).1, .i (detRes m).2]
def adjRes (m : List (List Int)) : List (List Int) × Int := if sqCode m = 0 then (adjM m.length m, 0) else ([], sqCode m)
def adjT (m : List (List Int)) : T := .tup [rowsO (adjRes m).1, .i (adjRes m).2]
theorem detT_noSh (m : List (List Int)) : (detT m).noSh := ⟨trivial, trivial, trivial⟩
theorem adjT_noSh (m : List (List Int)) : (adjT m).noSh := ⟨rowsO_noSh _, trivial, trivial⟩

theorem spec_Determinant_ok (m : List (List Int)) : Fun Try.prog 30 [] [.t (rows m)] fun o r => o = [] ∧ r = detT m := by
  refine fun_spec_Determinant (by simp) ?_
  simp -implicitDefEqProofs only [go_sem, List.reduceReplicate, Nat.reduceEqDiff, Nat.reduceAdd, Nat.reduceLeDiff, Nat.reduceMul, Nat.reduceSub, Nat.reduceDiv, Int.reduceToNat, Nat.reduceLT, Int.reduceLT, Int.reduceLE, ↓reduceIte, reduceCtorEq, forall_apply_eq_imp_iff₂, ints, rows, rat, rats, toNat_cast, c_spec_Determinant]
  refine CallW.pure (spec_l27Square_ok m) [] rfl Try.call107 ?_ (by first | trivial | simp [T.noSh, T.noShL, rat]) rfl ?_
  · simp -implicitDefEqProofs only [Int.natCast_zero, Int.cast_ofNat_Int, Int.natCast_one, Nat.le_refl, Nat.reduceLeDiff, Nat.sub_self, Nat.reduceSub, List.getElem?_cons_zero, List.getElem?_cons_succ, vt_self, vaL, vtL, va, vt, vb, maT, List.cons_append, List.nil_append, List.append_nil, true_or, or_true, go_sem, List.reduceReplicate, Nat.reduceEqDiff, Nat.reduceAdd, Nat.reduceLeDiff, Nat.reduceMul, Nat.reduceSub, Nat.reduceDiv, Int.reduceToNat, Nat.reduceLT, Int.reduceLT, Int.reduceLE, ↓reduceIte, reduceCtorEq, ints, rows, rat, rats, ratsO, toShL_ratC, List.mem_cons, List.mem_nil_iff, List.not_mem_nil, or_false, false_or, exists_eq_left, exists_eq_left', exists_eq_right', Root.live.injEq, eq_self_iff_true, exists_eq, and_true, T.toSh, toShL_ints, toShL_intsO, intsO, rowsO]
  simp -implicitDefEqProofs only [go_sem, List.reduceReplicate, Nat.reduceEqDiff, Nat.reduceAdd, Nat.reduceLeDiff, Nat.reduceMul, Nat.reduceSub, Nat.reduceDiv, Int.reduceToNat, Nat.reduceLT, Int.reduceLT, Int.reduceLE, ↓reduceIte, reduceCtorEq, forall_apply_eq_imp_iff₂, ints, rows, rat, rats, toNat_cast]
  refine ⟨fun h => ?_, fun h => ?_⟩
  · rw [detT, detRes, if_neg (by simpa using h)]
  · have h0 : sqCode m = 0 := by simpa using h
    obtain ⟨h1, h2⟩ := sqCode_zero h0
    refine CallW.pure (spec_l27Det_ok m.length h1 m h2) [] rfl Try.call110 ?_ (by first | trivial | simp [T.noSh, T.noShL, rat]) rfl ?_
    · simp -implicitDefEqProofs only [Int.natCast_zero, Int.cast_ofNat_Int, Int.natCast_one, Nat.le_refl, Nat.reduceLeDiff, Nat.sub_self, Nat.reduceSub, List.getElem?_cons_zero, List.getElem?_cons_succ, vt_self, vaL, vtL, va, vt, vb, maT, List.cons_append, List.nil_append, List.append_nil, true_or, or_true, go_sem, List.reduceReplicate, Nat.reduceEqDiff, Nat.reduceAdd, Nat.reduceLeDiff, Nat.reduceMul, Nat.reduceSub, Nat.reduceDiv, Int.reduceToNat, Nat.reduceLT, Int.reduceLT, Int.reduceLE, ↓reduceIte, reduceCtorEq, ints, rows, rat, rats, ratsO, toShL_ratC, List.mem_cons, List.mem_nil_iff, List.not_mem_nil, or_false, false_or, exists_eq_left, exists_eq_left', exists_eq_right', Root.live.injEq, eq_self_iff_true, exists_eq, and_true, T.toSh, toShL_ints, toShL_intsO, intsO, rowsO]
    simp -implicitDefEqProofs only [go_sem, List.reduceReplicate, Nat.reduceEqDiff, Nat.reduceAdd, Nat.reduceLeDiff, Nat.reduceMul, Nat.reduceSub, Nat.reduceDiv, Int.reduceToNat, Nat.reduceLT, Int.reduceLT, Int.reduceLE, ↓reduceIte, reduceCtorEq, forall_apply_eq_imp_iff₂, ints, rows, rat, rats, toNat_cast]
    rw [detT, detRes, if_pos h0]
theorem impl_Determinant_ok (m : List (List Int)) (hml : m.length ≤ 1000000000000) (hmr : ∀ r ∈ m, r.length ≤ 1000000000000) : Fun Try.prog 29 [] [.t (rows m)] fun o r => o = [] ∧ r = detT m := by
  refine fun_impl_Determinant (by simp) ?_
  simp -implicitDefEqProofs only [go_sem, List.reduceReplicate, Nat.reduceEqDiff, Nat.reduceAdd, Nat.reduceLeDiff, Nat.reduceMul, Nat.reduceSub, Nat.reduceDiv, Int.reduceToNat, Nat.reduceLT, Int.reduceLT, Int.reduceLE, ↓reduceIte, reduceCtorEq, forall_apply_eq_imp_iff₂, ints, rows, rat, rats, toNat_cast, c_impl_Determinant]
  refine CallW.pure (impl_IsMatrix_ok m (by omega) hmr) [] rfl Try.call67 ?_ (by first | trivial | simp [T.noSh, T.noShL, rat]) rfl ?_
  · simp -implicitDefEqProofs only [Int.natCast_zero, Int.cast_ofNat_Int, Int.natCast_one, Nat.le_refl, Nat.reduceLeDiff, Nat.sub_self, Nat.reduceSub, List.getElem?_cons_zero, List.getElem?_cons_succ, vt_self, vaL, vtL, va, vt, vb, maT, List.cons_append, List.nil_append, List.append_nil, true_or, or_true, go_sem, List.reduceReplicate, Nat.reduceEqDiff, Nat.reduceAdd, Nat.reduceLeDiff, Nat.reduceMul, Nat.reduceSub, Nat.reduceDiv, Int.reduceToNat, Nat.reduceLT, Int.reduceLT, Int.reduceLE, ↓reduceIte, reduceCtorEq, ints, rows, rat, rats, ratsO, toShL_ratC, List.mem_cons, List.mem_nil_iff, List.not_mem_nil, or_false, false_or, exists_eq_left, exists_eq_left', exists_eq_right', Root.live.injEq, eq_self_iff_true, exists_eq, and_true, T.toSh, toShL_ints, toShL_intsO, intsO, rowsO]
  simp -implicitDefEqProofs only [go_sem, List.reduceReplicate, Nat.reduceEqDiff, Nat.reduceAdd, Nat.reduceLeDiff, Nat.reduceMul, Nat.reduceSub, Nat.reduceDiv, Int.reduceToNat, Nat.reduceLT, Int.reduceLT, Int.reduceLE, ↓reduceIte, reduceCtorEq, forall_apply_eq_imp_iff₂, ints, rows, rat, rats, toNat_cast]
  refine ⟨fun h => ?_, fun h => ?_⟩
  · have h' : isMat m = false := by simpa using h
    rw [detT, detRes, sqCode, h']; rfl
  · have hmat : isMat m = true := by simpa using h
    obtain ⟨h1, _⟩ := isMat_spec hmat
    refine ⟨by omega, by omega, fun r0 h0 => ?_⟩
    refine ⟨fun h => ?_, fun h => ?_⟩
    · rw [detT, detRes, sqCode, if_pos hmat, headD_get h0, if_neg (c := m.length = r0.length) (by simp at h; omega)]; rfl
    · have hc : sqCode m = 0 := by rw [sqCode, if_pos hmat, headD_get h0, if_pos (by simp at h; omega)]
      obtain ⟨h1, h2⟩ := sqCode_zero hc
      refine CallW.pure (impl_determinant_ok m.length h1 m h2) [] rfl Try.call109 ?_ (by first | trivial | simp [T.noSh, T.noShL, rat]) rfl ?_
      · simp -implicitDefEqProofs only [Int.natCast_zero, Int.cast_ofNat_Int, Int.natCast_one, Nat.le_refl, Nat.reduceLeDiff, Nat.sub_self, Nat.reduceSub, List.getElem?_cons_zero, List.getElem?_cons_succ, vt_self, vaL, vtL, va, vt, vb, maT, List.cons_append, List.nil_append, List.append_nil, true_or, or_true, go_sem, List.reduceReplicate, Nat.reduceEqDiff, Nat.reduceAdd, Nat.reduceLeDiff, Nat.reduceMul, Nat.reduceSub, Nat.reduceDiv, Int.reduceToNat, Nat.reduceLT, Int.reduceLT, Int.reduceLE, ↓reduceIte, reduceCtorEq, ints, rows, rat, rats, ratsO, toShL_ratC, List.mem_cons, List.mem_nil_iff, List.not_mem_nil, or_false, false_or, exists_eq_left, exists_eq_left', exists_eq_right', Root.live.injEq, eq_self_iff_true, exists_eq, and_true, T.toSh, toShL_ints, toShL_intsO, intsO, rowsO]
      simp -implicitDefEqProofs only [go_sem, List.reduceReplicate, Nat.reduceEqDiff, Nat.reduceAdd, Nat.reduceLeDiff, Nat.reduceMul, Nat.reduceSub, Nat.reduceDiv, Int.reduceToNat, Nat.reduceLT, Int.reduceLT, Int.reduceLE, ↓reduceIte, reduceCtorEq, forall_apply_eq_imp_iff₂, ints, rows, rat, rats, toNat_cast]
      rw [detT, detRes, if_pos hc]
theorem spec_Adjugate_ok (m : List (List Int)) : Fun Try.prog 27 [] [.t (rows m)] fun o r => o = [] ∧ r = adjT m := by
  refine Fun.le (Q := fun o r => o = [] ∧ (r = adjT m ∨ (sqCode m ≠ 0 ∧ r = .tup [.v (.slice none 0 0), .i (sqCode m)]))) ?_ ?_
  case refine_2 =>
    rintro o r ⟨rfl, rfl | ⟨h, rfl⟩⟩
    · exact ⟨_, .refl _, rfl, rfl⟩
    · refine ⟨_, ?_, rfl, rfl⟩
      rw [adjT, adjRes, if_neg h]
      exact .tup2 (.nilArr 1) (.refl _)
  refine fun_spec_Adjugate (by simp) ?_
  simp -implicitDefEqProofs only [go_sem, List.reduceReplicate, Nat.reduceEqDiff, Nat.reduceAdd, Nat.reduceLeDiff, Nat.reduceMul, Nat.reduceSub, Nat.reduceDiv, Int.reduceToNat, Nat.reduceLT, Int.reduceLT, Int.reduceLE, ↓reduceIte, reduceCtorEq, forall_apply_eq_imp_iff₂, ints, rows, rat, rats, toNat_cast, c_spec_Adjugate]
  refine CallW.pure (spec_l27Square_ok m) [] rfl Try.call107 ?_ (by first | trivial | simp [T.noSh, T.noShL, rat]) rfl ?_
  · simp -implicitDefEqProofs only [Int.natCast_zero, Int.cast_ofNat_Int, Int.natCast_one, Nat.le_refl, Nat.reduceLeDiff, Nat.sub_self, Nat.reduceSub, List.getElem?_cons_zero, List.getElem?_cons_succ, vt_self, vaL, vtL, va, vt, vb, maT, List.cons_append, List.nil_append, List.append_nil, true_or, or_true, go_sem, List.reduceReplicate, Nat.reduceEqDiff, Nat.reduceAdd, Nat.reduceLeDiff, Nat.reduceMul, Nat.reduceSub, Nat.reduceDiv, Int.reduceToNat, Nat.reduceLT, Int.reduceLT, Int.reduceLE, ↓reduceIte, reduceCtorEq, ints, rows, rat, rats, ratsO, toShL_ratC, List.mem_cons, List.mem_nil_iff, List.not_mem_nil, or_false, false_or, exists_eq_left, exists_eq_left', exists_eq_right', Root.live.injEq, eq_self_iff_true, exists_eq, and_true, T.toSh, toShL_ints, toShL_intsO, intsO, rowsO]
  simp -implicitDefEqProofs only [go_sem, List.reduceReplicate, Nat.reduceEqDiff, Nat.reduceAdd, Nat.reduceLeDiff, Nat.reduceMul, Nat.reduceSub, Nat.reduceDiv, Int.reduceToNat, Nat.reduceLT, Int.reduceLT, Int.reduceLE, ↓reduceIte, reduceCtorEq, forall_apply_eq_imp_iff₂, ints, rows, rat, rats, toNat_cast]
  refine ⟨fun h => ?_, fun h => ?_⟩
  · have h : sqCode m ≠ 0 := by simpa using h
    exact .inr h
  · have h0 : sqCode m = 0 := by simpa using h
    obtain ⟨h1, h2⟩ := sqCode_zero h0
    refine CallW.res (spec_l27Adj_ok m.length h1 m h2) [] rfl Try.call108 ?_ (.inl rfl) ?_
    · simp -implicitDefEqProofs only [Int.natCast_zero, Int.cast_ofNat_Int, Int.natCast_one, Nat.le_refl, Nat.reduceLeDiff, Nat.sub_self, Nat.reduceSub, List.getElem?_cons_zero, List.getElem?_cons_succ, vt_self, vaL, vtL, va, vt, vb, maT, List.cons_append, List.nil_append, List.append_nil, true_or, or_true, go_sem, List.reduceReplicate, Nat.reduceEqDiff, Nat.reduceAdd, Nat.reduceLeDiff, Nat.reduceMul, Nat.reduceSub, Nat.reduceDiv, Int.reduceToNat, Nat.reduceLT, Int.reduceLT, Int.reduceLE, ↓reduceIte, reduceCtorEq, ints, rows, rat, rats, ratsO, toShL_ratC, List.mem_cons, List.mem_nil_iff, List.not_mem_nil, or_false, false_or, exists_eq_left, exists_eq_left', exists_eq_right', Root.live.injEq, eq_self_iff_true, exists_eq, and_true, T.toSh, toShL_ints, toShL_intsO, intsO, rowsO]
    simp -implicitDefEqProofs only [List.append_nil, List.cons_append, Nat.reduceLeDiff, afterCall, absT_rowsO, absT_intsO, absT, absL, updL, updS, freeAll, rid, T.noSh, T.noShL, Nat.zero_le, go_sem, List.reduceReplicate, Nat.reduceEqDiff, Nat.reduceAdd, Nat.reduceLeDiff, Nat.reduceMul, Nat.reduceSub, Nat.reduceDiv, Int.reduceToNat, Nat.reduceLT, Int.reduceLT, Int.reduceLE, ↓reduceIte, reduceCtorEq, rat, forall_apply_eq_imp_iff₂, toNat_cast, rowsO]
    rw [adjT, adjRes, if_pos h0]; exact .inl rfl
theorem impl_Adjugate_ok (m : List (List Int)) (hml : m.length ≤ 1000000000000) (hmr : ∀ r ∈ m, r.length ≤ 1000000000000) : Fun Try.prog 26 [] [.t (rows m)] fun o r => o = [] ∧ r = adjT m := by
  refine Fun.le (Q := fun o r => o = [] ∧ (r = adjT m ∨ (sqCode m ≠ 0 ∧ r = .tup [.v (.slice none 0 0), .i (sqCode m)]))) ?_ ?_
  case refine_2 =>
    rintro o r ⟨rfl, rfl | ⟨h, rfl⟩⟩
    · exact ⟨_, .refl _, rfl, rfl⟩
    · refine ⟨_, ?_, rfl, rfl⟩
      rw [adjT, adjRes, if_neg h]
      exact .tup2 (.nilArr 1) (.refl _)
  refine fun_impl_Adjugate (by simp) ?_
  simp -implicitDefEqProofs only [go_sem, List.reduceReplicate, Nat.reduceEqDiff, Nat.reduceAdd, Nat.reduceLeDiff, Nat.reduceMul, Nat.reduceSub, Nat.reduceDiv, Int.reduceToNat, Nat.reduceLT, Int.reduceLT, Int.reduceLE, ↓reduceIte, reduceCtorEq, forall_apply_eq_imp_iff₂, ints, rows, rat, rats, toNat_cast, c_impl_Adjugate]
  refine CallW.pure (impl_IsMatrix_ok m (by omega) hmr) [] rfl Try.call67 ?_ (by first | trivial | simp [T.noSh, T.noShL, rat]) rfl ?_
  · simp -implicitDefEqProofs only [Int.natCast_zero, Int.cast_ofNat_Int, Int.natCast_one, Nat.le_refl, Nat.reduceLeDiff, Nat.sub_self, Nat.reduceSub, List.getElem?_cons_zero, List.getElem?_cons_succ, vt_self, vaL, vtL, va, vt, vb, maT, List.cons_append, List.nil_append, List.append_nil, true_or, or_true, go_sem, List.reduceReplicate, Nat.reduceEqDiff, Nat.reduceAdd, Nat.reduceLeDiff, Nat.reduceMul, Nat.reduceSub, Nat.reduceDiv, Int.reduceToNat, Nat.reduceLT, Int.reduceLT, Int.reduceLE, ↓reduceIte, reduceCtorEq, ints, rows, rat, rats, ratsO, toShL_ratC, List.mem_cons, List.mem_nil_iff, List.not_mem_nil, or_false, false_or, exists_eq_left, exists_eq_left', exists_eq_right', Root.live.injEq, eq_self_iff_true, exists_eq, and_true, T.toSh, toShL_ints, toShL_intsO, intsO, rowsO]
  simp -implicitDefEqProofs only [go_sem, List.reduceReplicate, Nat.reduceEqDiff, Nat.reduceAdd, Nat.reduceLeDiff, Nat.reduceMul, Nat.reduceSub, Nat.reduceDiv, Int.reduceToNat, Nat.reduceLT, Int.reduceLT, Int.reduceLE, ↓reduceIte, reduceCtorEq, forall_apply_eq_imp_iff₂, ints, rows, rat, rats, toNat_cast]
  refine ⟨fun h => ?_, fun h => ?_⟩
  · have h' : isMat m = false := by simpa using h
    have hc : sqCode m = 1 := by rw [sqCode, h']; rfl
    exact .inr ⟨by omega, by rw [hc]⟩
  · have hmat : isMat m = true := by simpa using h
    obtain ⟨h1, _⟩ := isMat_spec hmat
    refine ⟨by omega, by omega, fun r0 h0 => ?_⟩
    refine ⟨fun h => ?_, fun h => ?_⟩
    · have hc : sqCode m = 5 := by rw [sqCode, if_pos hmat, headD_get h0, if_neg (by simp at h; omega)]
      exact .inr ⟨by omega, by rw [hc]⟩
    · have hc : sqCode m = 0 := by rw [sqCode, if_pos hmat, headD_get h0, if_pos (by simp at h; omega)]
      obtain ⟨h1, h2⟩ := sqCode_zero hc
      refine CallW.res (impl_adjugate_ok m.length h1 m h2) [] rfl Try.call106 ?_ (.inl rfl) ?_
      · simp -implicitDefEqProofs only [Int.natCast_zero, Int.cast_ofNat_Int, Int.natCast_one, Nat.le_refl, Nat.reduceLeDiff, Nat.sub_self, Nat.reduceSub, List.getElem?_cons_zero, List.getElem?_cons_succ, vt_self, vaL, vtL, va, vt, vb, maT, List.cons_append, List.nil_append, List.append_nil, true_or, or_true, go_sem, List.reduceReplicate, Nat.reduceEqDiff, Nat.reduceAdd, Nat.reduceLeDiff, Nat.reduceMul, Nat.reduceSub, Nat.reduceDiv, Int.reduceToNat, Nat.reduceLT, Int.reduceLT, Int.reduceLE, ↓reduceIte, reduceCtorEq, ints, rows, rat, rats, ratsO, toShL_ratC, List.mem_cons, List.mem_nil_iff, List.not_mem_nil, or_false, false_or, exists_eq_left, exists_eq_left', exists_eq_right', Root.live.injEq, eq_self_iff_true, exists_eq, and_true, T.toSh, toShL_ints, toShL_intsO, intsO, rowsO]
      simp -implicitDefEqProofs only [List.append_nil, List.cons_append, Nat.reduceLeDiff, afterCall, absT_rowsO, absT_intsO, absT, absL, updL, updS, freeAll, rid, T.noSh, T.noShL, Nat.zero_le, go_sem, List.reduceReplicate, Nat.reduceEqDiff, Nat.reduceAdd, Nat.reduceLeDiff, Nat.reduceMul, Nat.reduceSub, Nat.reduceDiv, Int.reduceToNat, Nat.reduceLT, Int.reduceLT, Int.reduceLE, ↓reduceIte, reduceCtorEq, rat, forall_apply_eq_imp_iff₂, toNat_cast, rowsO]
      rw [adjT, adjRes, if_pos hc]; exact .inl rfl

end Go.Ab

/- The law FnExactAdjugate, as a contract. -/
set_option linter.unusedSimpArgs false
set_option linter.unusedVariables false
namespace Go.Ab
open Go.Proofs

theorem adjM_small {n : Nat} (m : List (List Int)) (hn : n ≤ 4) : (adjM n m).length ≤ 4 ∧ ∀ r ∈ adjM n m, r.length ≤ 4 := by
  refine ⟨by simp [adjM]; exact hn, fun r hr => ?_⟩
  obtain ⟨k, _, rfl⟩ := List.mem_map.1 hr
  rw [adjRow_length]; exact hn
theorem adjRes_small (m : List (List Int)) : (adjRes m).1.length ≤ 4 ∧ ∀ r ∈ (adjRes m).1, r.length ≤ 4 := by
  rw [adjRes]; split
  · rename_i h; exact adjM_small m (sqCode_zero h).1
  · simp
end Go.Ab

/- A matrix times its adjugate. -/
set_option linter.unusedSimpArgs false
set_option linter.unusedVariables false
namespace Go.Ab

theorem list_len {α : Type} {l : List α} : (l.length = 0 → l = []) ∧ (l.length = 1 → ∃ a, l = [a]) ∧ (l.length = 2 → ∃ a b, l = [a, b]) ∧ (l.length = 3 → ∃ a b c, l = [a, b, c]) ∧ (l.length = 4 → ∃ a b c d, l = [a, b, c, d]) := by
  refine ⟨fun h => List.length_eq_zero_iff.1 h, fun h => ?_, fun h => ?_, fun h => ?_, fun h => ?_⟩
  · match l, h with
    | [a], _ => exact ⟨a, rfl⟩
  · match l, h with
    | [a, b], _ => exact ⟨a, b, rfl⟩
  · match l, h with
    | [a, b, c], _ => exact ⟨a, b, c, rfl⟩
  · match l, h with
    | [a, b, c, d], _ => exact ⟨a, b, c, d, rfl⟩

def dotA (n : Nat) (m : List (List Int)) (i k : Nat) : Int := sumTo (fun j => (m.getD i []).getD j 0 * (sg (j + k) * detN (n - 1) (without m k j))) n
theorem adj_mul : ∀ {n : Nat}, n ≤ 4 → ∀ {m : List (List Int)}, sq n m → ∀ {i k : Nat}, i < n → k < n → dotA n m i k = if i = k then detN n m else 0
  | 0, _, m, hm, i, k, hi, _ => absurd hi (by omega)
  | 1, _, m, hm, i, k, hi, hk => by
    obtain ⟨a, rfl⟩ := list_len.2.1 hm.1
    obtain ⟨a1, rfl⟩ := list_len.2.1 (hm.2 a (by simp)).1
    obtain rfl : i = 0 := by omega
    obtain rfl : k = 0 := by omega
    simp [dotA, sumTo, sg, detN, without]
  | 2, _, m, hm, i, k, hi, hk => by
    obtain ⟨a, b, rfl⟩ := list_len.2.2.1 hm.1
    obtain ⟨a1, a2, rfl⟩ := list_len.2.2.1 (hm.2 a (by simp)).1
    obtain ⟨b1, b2, rfl⟩ := list_len.2.2.1 (hm.2 b (by simp)).1
    have hi' : i = 0 ∨ i = 1 := by omega
    have hk' : k = 0 ∨ k = 1 := by omega
    rcases hi' with rfl | rfl <;> rcases hk' with rfl | rfl <;> simp [dotA, sumTo, sg, detN, without] <;> grind
  | 3, _, m, hm, i, k, hi, hk => by
    obtain ⟨a, b, c, rfl⟩ := list_len.2.2.2.1 hm.1
    obtain ⟨a1, a2, a3, rfl⟩ := list_len.2.2.2.1 (hm.2 a (by simp)).1
    obtain ⟨b1, b2, b3, rfl⟩ := list_len.2.2.2.1 (hm.2 b (by simp)).1
    obtain ⟨c1, c2, c3, rfl⟩ := list_len.2.2.2.1 (hm.2 c (by simp)).1
    have hi' : i = 0 ∨ i = 1 ∨ i = 2 := by omega
    have hk' : k = 0 ∨ k = 1 ∨ k = 2 := by omega
    clear hi hk hm
    rcases hi' with rfl | rfl | rfl <;> rcases hk' with rfl | rfl | rfl <;> simp [dotA, sumTo, sg, detN, without] <;> grind
  | 4, _, m, hm, i, k, hi, hk => by
    obtain ⟨a, b, c, d, rfl⟩ := list_len.2.2.2.2 hm.1
    obtain ⟨a1, a2, a3, a4, rfl⟩ := list_len.2.2.2.2 (hm.2 a (by simp)).1
    obtain ⟨b1, b2, b3, b4, rfl⟩ := list_len.2.2.2.2 (hm.2 b (by simp)).1
    obtain ⟨c1, c2, c3, c4, rfl⟩ := list_len.2.2.2.2 (hm.2 c (by simp)).1
    obtain ⟨d1, d2, d3, d4, rfl⟩ := list_len.2.2.2.2 (hm.2 d (by simp)).1
    have hi' : i = 0 ∨ i = 1 ∨ i = 2 ∨ i = 3 := by omega
    have hk' : k = 0 ∨ k = 1 ∨ k = 2 ∨ k = 3 := by omega
    clear hi hk hm
    rcases hi' with rfl | rfl | rfl | rfl <;> rcases hk' with rfl | rfl | rfl | rfl <;> simp [dotA, sumTo, sg, detN, without] <;> grind
  | n + 5, h, m, hm, i, k, hi, hk => absurd h (by omega)
end Go.Ab

/- Parts out of weights, plainly: the greatest remainders first. -/
set_option linter.unusedSimpArgs false
set_option linter.unusedVariables false
namespace Go.Ab
open Go.Proofs

/-- The index of the first greatest among the first k. -/
def maxI (r : List Int) : Nat → Nat
  | 0 => 0
  | k + 1 => if r.getD (maxI r k) 0 < r.getD k 0 then k else maxI r k
theorem maxI_lt (r : List Int) : ∀ k, k ≤ r.length → 0 < r.length → maxI r k < r.length
  | 0, _, h => h
  | k + 1, hk, h => by
    have := maxI_lt r k (by omega) h
    rw [maxI]; split <;> omega
theorem maxI_max (r : List Int) : ∀ k i, i < k → r.getD i 0 ≤ r.getD (maxI r k) 0
  | k + 1, i, h => by
    have ih := maxI_max r k
    rw [maxI]
    split
    · rename_i h1
      by_cases hi : i = k
      · rw [hi]; exact Int.le_refl _
      · have := ih i (by omega); omega
    · rename_i h1
      by_cases hi : i = k
      · rw [hi]; omega
      · exact ih i (by omega)
theorem sum_set {p : List Int} {b : Nat} (h : b < p.length) (x : Int) : (p.set b x).sum = p.sum - p.getD b 0 + x := by
  induction p generalizing b with
  | nil => simp at h
  | cons a p ih =>
    cases b with
    | zero => simp; omega
    | succ b =>
      have := ih (b := b) (by simpa using h)
      simp only [List.set_cons_succ, List.sum_cons, List.getD_cons_succ]
      omega
/-- Where every part is great enough, so is the sum. -/
theorem sum_le_of {t : Int} : ∀ (w p : List Int), w.length = p.length → (∀ i, i < w.length → 60 * w.getD i 0 ≤ t * p.getD i 0) → 60 * w.sum ≤ t * p.sum
  | [], [], _, _ => by simp
  | a :: w, b :: p, hl, h => by
    have ih := sum_le_of w p (by simpa using hl) fun i hi => by simpa using h (i + 1) (by simpa using hi)
    have h0 := h 0 (by simp)
    simp only [List.getD_cons_zero] at h0
    simp only [List.sum_cons, Int.mul_add]
    omega
/-- What holds while parts are given out. -/
structure HamI (w : List Int) (t : Int) (m : Nat) (p r : List Int) : Prop where
  lp : p.length = w.length
  lr : r.length = w.length
  each : ∀ i, i < w.length → (r.getD i 0 = 60 * w.getD i 0 - t * p.getD i 0 ∧ 0 ≤ r.getD i 0 ∧ r.getD i 0 < t) ∨ (r.getD i 0 = -1 ∧ 60 * w.getD i 0 < t * p.getD i 0 ∧ t * p.getD i 0 < 60 * w.getD i 0 + t)
  sum : p.sum + m = 60
theorem HamI.best {w : List Int} {m : Nat} {p r : List Int} (h : HamI w w.sum (m + 1) p r) (ht : 0 < w.sum) : maxI r r.length < w.length ∧ 0 < r.getD (maxI r r.length) 0 := by
  have ⟨i, hi, hpos⟩ : ∃ i, i < w.length ∧ ¬ 60 * w.getD i 0 ≤ w.sum * p.getD i 0 := by
    by_cases hc : ∃ i, i < w.length ∧ ¬ 60 * w.getD i 0 ≤ w.sum * p.getD i 0
    · exact hc
    · have := sum_le_of (t := w.sum) w p h.lp.symm fun i hi => by
        by_cases h1 : 60 * w.getD i 0 ≤ w.sum * p.getD i 0
        · exact h1
        · exact absurd ⟨i, hi, h1⟩ hc
      have hs := h.sum
      have e : w.sum * p.sum = w.sum * (60 - (m + 1 : Nat)) := by rw [show p.sum = 60 - ((m + 1 : Nat) : Int) by omega]
      rw [e, Int.mul_sub] at this
      have h2 : 0 < w.sum * ((m + 1 : Nat) : Int) := Int.mul_pos ht (by omega)
      omega
  have hri : 0 < r.getD i 0 := by
    rcases h.each i hi with h1 | h1 <;> omega
  have hlr := h.lr
  have h1 := maxI_lt r r.length (Nat.le_refl _) (by omega)
  have h2 := maxI_max r r.length i (by omega)
  exact ⟨by omega, by omega⟩
theorem getD_set_self {l : List Int} {b : Nat} (h : b < l.length) (x : Int) : (l.set b x).getD b 0 = x := by
  rw [List.getD_eq_getElem?_getD, List.getElem?_set_self h]; rfl
theorem getD_set_other {l : List Int} {b i : Nat} (h : i ≠ b) (x : Int) : (l.set b x).getD i 0 = l.getD i 0 := by
  rw [List.getD_eq_getElem?_getD, List.getElem?_set_ne (Ne.symm h), List.getD_eq_getElem?_getD]
theorem HamI.step {w : List Int} {m : Nat} {p r : List Int} (h : HamI w w.sum (m + 1) p r) (ht : 0 < w.sum) : HamI w w.sum m (p.set (maxI r r.length) (p.getD (maxI r r.length) 0 + 1)) (r.set (maxI r r.length) (-1)) := by
  obtain ⟨hb, hr⟩ := h.best ht
  have hlp := h.lp
  have hlr := h.lr
  generalize maxI r r.length = b at hb hr
  refine ⟨by simp [hlp], by simp [hlr], fun i hi => ?_, ?_⟩
  · by_cases hib : i = b
    · subst hib
      right
      rw [getD_set_self (by omega), getD_set_self (by omega)]
      rcases h.each i hi with h1 | h1
      · rw [Int.mul_add]; omega
      · omega
    · rw [getD_set_other hib, getD_set_other hib]
      exact h.each i hi
  · have := h.sum
    rw [sum_set (by omega)]
    omega
end Go.Ab

/- Contracts: parts, the reference's. -/
set_option linter.unusedSimpArgs false
set_option linter.unusedVariables false
namespace Go.Ab
open Go.Proofs

/-- Weights that PartsOf takes. -/
def weightsOK (w : List Int) : Prop := 1 ≤ w.length ∧ w.length ≤ 4 ∧ ∀ x ∈ w, 0 ≤ x ∧ x ≤ 1000000000
theorem HamI.small {w : List Int} {t : Int} {m : Nat} {p r : List Int} (h : HamI w t m p r) (ht : 0 < t) {i : Nat} (hi : i < w.length) (hw : 0 ≤ w.getD i 0 ∧ w.getD i 0 ≤ 1000000000) : 0 ≤ p.getD i 0 ∧ p.getD i 0 ≤ 100000000000 := by
  have key : -t < t * p.getD i 0 ∧ t * p.getD i 0 < 60 * w.getD i 0 + t := by
    rcases h.each i hi with h1 | h1 <;> omega
  refine ⟨?_, ?_⟩
  · have h1 : t * (-1) < t * p.getD i 0 := by omega
    have := Int.lt_of_mul_lt_mul_left h1 (by omega)
    omega
  · have h1 := Int.mul_le_mul_of_nonneg_right (show (1 : Int) ≤ t by omega) (show 0 ≤ 60 * w.getD i 0 by omega)
    have h2 : t * p.getD i 0 < t * (60 * w.getD i 0 + 1) := by rw [Int.mul_add, Int.mul_one]; omega
    have := Int.lt_of_mul_lt_mul_left h2 (by omega)
    omega
end Go.Ab

/- The bridge, part 5: bytes. -/
set_option linter.unusedSimpArgs false
set_option linter.unusedVariables false
namespace Go.Ab

/-- Bytes, as the program holds them. -/
def bytes (cs : List Int) : T := .sh 1 (cs.map fun x => .v (.int .u8 x))
def bytesOK (cs : List Int) : Prop := ∀ c ∈ cs, 0 ≤ c ∧ c ≤ 255
def tyU8s : Ty := .sl 1 (.int .u8)
theorem wf8 {n : Int} (h : (Lit.int .u8 n).wf = true) : 0 ≤ n ∧ n ≤ 255 := by
  simp [Lit.wf, IntKind.min, IntKind.max, IntKind.signed, IntKind.bits] at h
  omega
theorem flat_bytes : ∀ {xs : List (List T)}, (∀ x ∈ xs, x.length = 1 ∧ (Ty.int .u8).wt x) → ∃ l : List Int, xs.flatten = (l.map fun x => T.v (.int .u8 x)) ∧ l.length = xs.length ∧ bytesOK l
  | [], _ => ⟨[], rfl, rfl, fun x hx => by simp at hx⟩
  | x :: xs, h => by
    obtain ⟨l, hl, hlen, hf⟩ := flat_bytes (xs := xs) fun y hy => h y (by simp [hy])
    obtain ⟨_, n, rfl, hw⟩ := h x (by simp)
    refine ⟨n :: l, by simp [hl], by simp [hlen], fun y hy => ?_⟩
    rcases List.mem_cons.1 hy with rfl | hy
    · exact wf8 hw
    · exact hf y hy
theorem wt_bytes {x : T} (h : tyU8s.wt [x]) : ∃ l : List Int, x = bytes l ∧ l.length ≤ 9223372036854775807 ∧ bytesOK l := by
  obtain ⟨xs, hx, hlen, hall⟩ := h
  obtain ⟨l, hl, hll, hf⟩ := flat_bytes hall
  simp only [List.cons.injEq, and_true] at hx
  exact ⟨l, by rw [hx, hl]; rfl, by rw [hll]; exact hlen, hf⟩
end Go.Ab

/- Contracts: the source of drawn numbers. -/
set_option linter.unusedSimpArgs false
set_option linter.unusedVariables false
namespace Go.Ab
open Go.Proofs

/-- A source: its code, how much of it is used up, its seed. -/
def srcT (cs : List Int) (a : Nat × Int) : T := .box [bytes cs, .i a.1, .i a.2]
def seedOK (a : Nat × Int) : Prop := 0 ≤ a.2 ∧ a.2 < 2147483647 ∧ a.1 ≤ 1000000000000
def fromS (l : List Int) : Int := l.foldl (fun s c => (s * 61 + c) % 2147483647) 45007
theorem fromS_snoc (l : List Int) (c : Int) : fromS (l ++ [c]) = (fromS l * 61 + c) % 2147483647 := by simp [fromS, List.foldl_append]
theorem fromS_bound (l : List Int) : 0 ≤ fromS l ∧ fromS l < 2147483647 := by
  rcases List.eq_nil_or_concat l with rfl | ⟨l, c, rfl⟩
  · decide
  · rw [List.concat_eq_append, fromS_snoc]
    omega
/-- One number below n, and the source behind it. -/
def nextS (cs : List Int) (a : Nat × Int) (n : Int) : Int × (Nat × Int) :=
  if n ≤ 1 then (0, a) else
  let s := (a.2 * 48271 + 29) % 2147483647
  if a.1 < cs.length then ((if n ≤ 256 ∧ (a.1 + 1) % 2 = 0 then cs.getD a.1 0 else s / 31 + cs.getD a.1 0) % n, (a.1 + 1, s)) else ((s / 31) % n, (a.1, s))
theorem nextS_bound {cs : List Int} {a : Nat × Int} {n : Int} (hn : 1 ≤ n) : 0 ≤ (nextS cs a n).1 ∧ (nextS cs a n).1 < n := by
  unfold nextS
  split
  · omega
  · split
    · exact ⟨Int.emod_nonneg _ (by omega), Int.emod_lt_of_pos _ (by omega)⟩
    · exact ⟨Int.emod_nonneg _ (by omega), Int.emod_lt_of_pos _ (by omega)⟩

theorem spec_l01From_ok (cs : List Int) (hc : bytesOK cs) (hl : cs.length ≤ 1000000000000) : Fun Try.prog 94 [] [.t (bytes cs)] fun o r => o = [] ∧ r = srcT cs (0, fromS (cs.take 64)) := by
  refine fun_spec_l01From (by simp) ?_
  simp -implicitDefEqProofs only [go_sem, List.reduceReplicate, Nat.reduceEqDiff, Nat.reduceAdd, Nat.reduceLeDiff, Nat.reduceMul, Nat.reduceSub, Nat.reduceDiv, Int.reduceToNat, Nat.reduceLT, Int.reduceLT, Int.reduceLE, ↓reduceIte, reduceCtorEq, forall_apply_eq_imp_iff₂, ints, rows, rat, rats, toNat_cast, c_spec_l01From, bytes]
  refine SemC.loopR (σ := Nat) (fun i => St.of [(0, .t (bytes cs)), (3, .own 7), (4, .t (.i i))] [(7, .box [bytes cs, .i 0, .i (fromS (cs.take i))])]) (fun i => i ≤ 64 ∧ i ≤ cs.length) (fun i => 64 - i) 0 (Weak.of _ _ [some 7] (by simp) (by simp) ?_ ?_) ⟨by omega, by omega⟩ fun i hi R hn hr he => ?_
  · simp -implicitDefEqProofs only [ints, rows, Nat.reduceBEq, Int.add_zero, envOK, maA, maT, upd_apply, Nat.reduceEqDiff, ↓reduceIte, and_true, true_or, or_true, List.map_cons, List.map_nil, Nat.zero_ne_one, and_self, true_and, Int.natCast_zero, Int.cast_ofNat_Int, Int.ofNat_zero, piOf, List.zip_cons_cons, List.zip_nil_right, List.lookup_cons, List.lookup_nil, beq_self_eq_true, rootsOK, mkRoots, mkEnv, bytes]
  · exact ⟨⟨_, rfl, .refl _⟩, rfl, trivial⟩
  · simp -implicitDefEqProofs only [go_sem, List.reduceReplicate, Nat.reduceEqDiff, Nat.reduceAdd, Nat.reduceLeDiff, Nat.reduceMul, Nat.reduceSub, Nat.reduceDiv, Int.reduceToNat, Nat.reduceLT, Int.reduceLT, Int.reduceLE, ↓reduceIte, reduceCtorEq, forall_apply_eq_imp_iff₂, ints, rows, rat, rats, toNat_cast, bytes]
    refine ⟨fun h1 => ⟨fun h2 => ⟨by omega, by omega, by omega, fun c hcc => ⟨by decide, ?_⟩⟩, fun h2 => he _ _ ?_⟩, fun h1 => he _ _ ?_⟩
    · have hb := hc c (List.mem_of_getElem? hcc)
      have hf := fromS_bound (cs.take i)
      have e := fromS_snoc (cs.take i) c
      rw [← take_snoc hcc] at e
      have hw : (IntKind.i64.wrap (IntKind.i64.wrap (fromS (cs.take i) * 61) + IntKind.i64.wrap c)).tmod 2147483647 = fromS (cs.take (i + 1)) := by
        rw [wrap64 (n := c) (by omega) (by omega), wrap64 (n := fromS (cs.take i) * 61) (by omega) (by omega), wrap64 (n := fromS (cs.take i) * 61 + c) (by omega) (by omega), Int.tmod_eq_emod_of_nonneg (by omega), e]
      rw [hw]
      refine hn _ (i + 1) (Weak.of _ _ [some 7] (by simp) (by simp) ?_ ?_) ⟨by omega, by omega⟩ (by omega)
      · simp -implicitDefEqProofs only [ints, rows, Nat.reduceBEq, Int.add_zero, envOK, maA, maT, upd_apply, Nat.reduceEqDiff, ↓reduceIte, and_true, true_or, or_true, List.map_cons, List.map_nil, Nat.zero_ne_one, and_self, true_and, Int.natCast_zero, Int.cast_ofNat_Int, Int.ofNat_zero, piOf, List.zip_cons_cons, List.zip_nil_right, List.lookup_cons, List.lookup_nil, beq_self_eq_true, rootsOK, mkRoots, mkEnv, bytes, next64 (by omega : i < cs.length) (by omega)]
      · exact ⟨⟨_, rfl, .refl _⟩, rfl, trivial⟩
    · simp -implicitDefEqProofs only [go_sem, List.reduceReplicate, Nat.reduceEqDiff, Nat.reduceAdd, Nat.reduceLeDiff, Nat.reduceMul, Nat.reduceSub, Nat.reduceDiv, Int.reduceToNat, Nat.reduceLT, Int.reduceLT, Int.reduceLE, ↓reduceIte, reduceCtorEq, forall_apply_eq_imp_iff₂, ints, rows, rat, rats, toNat_cast, srcT, bytes]
      rw [show i = 64 by omega]; rfl
    · simp -implicitDefEqProofs only [go_sem, List.reduceReplicate, Nat.reduceEqDiff, Nat.reduceAdd, Nat.reduceLeDiff, Nat.reduceMul, Nat.reduceSub, Nat.reduceDiv, Int.reduceToNat, Nat.reduceLT, Int.reduceLT, Int.reduceLE, ↓reduceIte, reduceCtorEq, forall_apply_eq_imp_iff₂, ints, rows, rat, rats, toNat_cast, srcT, bytes]
      have e : cs.take i = cs.take 64 := by rw [List.take_of_length_le (by omega), List.take_of_length_le (by omega)]
      rw [e]; rfl
set_option maxRecDepth 10000 in
theorem spec_l01Next_ok (cs : List Int) (hc : bytesOK cs) (hl : cs.length ≤ 100000000000) (a : Nat × Int) (ha : seedOK a) (n : Int) (hn : n ≤ 1000000000000) : Fun Try.prog 95 [srcT cs a] [.own 1000000000, .t (.i n)] fun o r => o = [srcT cs (nextS cs a n).2] ∧ r = .i (nextS cs a n).1 := by
  refine fun_spec_l01Next (by simp) ?_
  simp -implicitDefEqProofs only [go_sem, List.reduceReplicate, Nat.reduceEqDiff, Nat.reduceAdd, Nat.reduceLeDiff, Nat.reduceMul, Nat.reduceSub, Nat.reduceDiv, Int.reduceToNat, Nat.reduceLT, Int.reduceLT, Int.reduceLE, ↓reduceIte, reduceCtorEq, forall_apply_eq_imp_iff₂, ints, rows, rat, rats, toNat_cast, c_spec_l01Next, srcT, bytes]
  obtain ⟨a1, a2⟩ := a
  obtain ⟨h1, h2, h3⟩ := ha
  simp only [] at h1 h2 h3
  have hs : (IntKind.i64.wrap (IntKind.i64.wrap (a2 * 48271) + 29)).tmod 2147483647 = (a2 * 48271 + 29) % 2147483647 := by
    rw [wrap64 (n := a2 * 48271) (by omega) (by omega), wrap64 (n := a2 * 48271 + 29) (by omega) (by omega), Int.tmod_eq_emod_of_nonneg (by omega)]
  have hs1 := Int.emod_nonneg (a2 * 48271 + 29) (show (2147483647 : Int) ≠ 0 by decide)
  have hs2 := Int.emod_lt_of_pos (a2 * 48271 + 29) (show (0 : Int) < 2147483647 by decide)
  have hw1 : IntKind.i64.wrap ((a1 : Int) + 1) = ((a1 + 1 : Nat) : Int) := by rw [wrap64 (by omega) (by omega)]; omega
  have hw2 : IntKind.i64.wrap (((a1 + 1 : Nat) : Int) - 1) = (a1 : Int) := by rw [wrap64 (by omega) (by omega)]; omega
  simp only [hs, hw1, hw2, Int.toNat_natCast]
  have hnx : nextS cs (a1, a2) n = if n ≤ 1 then (0, (a1, a2)) else if a1 < cs.length then ((if n ≤ 256 ∧ (a1 + 1) % 2 = 0 then cs.getD a1 0 else (a2 * 48271 + 29) % 2147483647 / 31 + cs.getD a1 0) % n, (a1 + 1, (a2 * 48271 + 29) % 2147483647)) else (((a2 * 48271 + 29) % 2147483647 / 31) % n, (a1, (a2 * 48271 + 29) % 2147483647)) := rfl
  generalize (a2 * 48271 + 29) % 2147483647 = s at hs1 hs2 hnx ⊢
  have hq : IntKind.i64.wrap (s.tdiv 31) = s / 31 := by rw [Int.tdiv_eq_ediv_of_nonneg hs1, wrap64 (by omega) (by omega)]
  have hq' : s.tdiv 31 = s / 31 := Int.tdiv_eq_ediv_of_nonneg hs1
  have hqs : IntKind.i64.wrap (s / 31) = s / 31 := wrap64 (by omega) (by omega)
  rw [hnx]
  by_cases hn1 : n ≤ 1
  · simp only [if_pos hn1]
    exact ⟨fun _ => by simp, fun h => absurd hn1 h⟩
  · simp only [if_neg hn1]
    refine ⟨fun h => absurd h hn1, fun _ => ⟨by decide, by decide, fun hl1 => ?_, fun hl1 => ?_⟩⟩
    · have hl2 : a1 < cs.length := by omega
      obtain ⟨c, hcc⟩ : ∃ c, cs[a1]? = some c := ⟨_, List.getElem?_eq_getElem hl2⟩
      have hcb := hc c (List.mem_of_getElem? hcc)
      have hg : cs.getD a1 0 = c := by rw [List.getD_eq_getElem?_getD, hcc]; rfl
      have hwc : IntKind.i64.wrap c = c := wrap64 (by omega) (by omega)
      simp only [if_pos hl2, hcc, hg, Option.some.injEq, forall_eq', hwc]
      have hws : IntKind.i64.wrap (s / 31 + c) = s / 31 + c := wrap64 (by omega) (by omega)
      simp only [hq', hqs, hws]
      refine ⟨by omega, by omega, by omega, fun h256 => ⟨by decide, fun he => ⟨by omega, by omega, by omega, by omega, by first | trivial | rfl, ?_⟩, fun he => ⟨by omega, by first | trivial | rfl, ?_⟩⟩, fun h256 => ⟨by omega, by first | trivial | rfl, ?_⟩⟩
      · rw [beq_iff_eq, Int.tmod_eq_emod_of_nonneg (by omega)] at he
        rw [if_pos ⟨h256, by omega⟩, Int.tmod_eq_emod_of_nonneg (by omega)]
      · rw [beq_eq_false_iff_ne, Int.tmod_eq_emod_of_nonneg (by omega)] at he
        rw [if_neg (by omega), Int.tmod_eq_emod_of_nonneg (by omega)]
      · rw [if_neg (by omega), Int.tmod_eq_emod_of_nonneg (by omega)]
    · have hl2 : ¬ a1 < cs.length := by omega
      simp only [if_neg hl2, hq', hqs]
      refine ⟨by omega, by first | trivial | rfl, ?_⟩
      rw [Int.tmod_eq_emod_of_nonneg (by omega)]
end Go.Ab
