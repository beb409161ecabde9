/- The bridge, part 1: what an argument reads as, by its type. -/
import Derived.Deep.Slices
import Derived.Deep.OwnRows
import Derived.DataReads
import Derived.WideKeyArgs
import Derived.WideShapes
import Derived.ChangeShapes
import Derived.ProofKit
import Derived.OpenShut
import Derived.JoinedOf
import Derived.Handed
import Derived.RowKit
import Derived.Test.YtbnlplhpnbijhaaRows
import Derived.Test.YtbnlplhpnbijhaaQ2
set_option linter.unusedSimpArgs false
set_option linter.unusedVariables false
namespace Go.Ab

inductive Ty where
  | int (k : IntKind)
  | bool
  | str
  | sl (s : Nat) (e : Ty)
  | st (f : Ty)
  | nil
  | cons (a r : Ty)

/-- The cells l are of the type. -/
def Ty.wt : Ty → List T → Prop
  | .int k, l => ∃ n, l = [.v (.int k n)] ∧ (Lit.int k n).wf = true
  | .bool, l => ∃ b, l = [.v (.bool b)]
  | .str, l => ∃ s, l = [.v (.string s)] ∧ s.size ≤ maxLen
  | .sl s e, l => ∃ xs : List (List T), l = [.sh s xs.flatten] ∧ xs.length ≤ maxLen ∧ ∀ x ∈ xs, x.length = s ∧ e.wt x
  | .st f, l => f.wt l
  | .nil, l => l = []
  | .cons a r, l => ∃ l1 l2, l = l1 ++ l2 ∧ a.wt l1 ∧ r.wt l2

/-- The tree t is a value of the type. -/
def Ty.wtV : Ty → T → Prop
  | .st f, t => ∃ l, t = .agg l ∧ f.wt l
  | ty, t => ty.wt [t]

mutual
def Ty.fits (P : Program) : Ty → TypeId → Bool
  | .int k, t => (match P.underlying t with | some (.int k') => decide (k' = k) | _ => false)
  | .bool, t => (match P.underlying t with | some .bool => true | _ => false)
  | .str, t => (match P.underlying t with | some .string => true | _ => false)
  | .sl s e, t => (match P.underlying t with | some (.slice et) => decide (P.cellsOf et = s) && decide (0 < s) && e.fits P et | _ => false)
  | .st f, t => (match P.underlying t with | some (.struct fs) => f.fitsF P (P.cellsOf t) 0 fs.toList | _ => false)
  | .nil, _ => false
  | .cons _ _, _ => false
def Ty.fitsF (P : Program) : Ty → Nat → Nat → List Field → Bool
  | .nil, n, o, [] => decide (o = n)
  | .cons a r, n, o, f :: fs => decide (f.offset = o) && a.fits P f.type && r.fitsF P n (o + P.cellsOf f.type) fs
  | _, _, _, _ => false
end

section
variable {H : Type} {enc : TypeId × Value → H} {P : Program} {w : World} {base : Nat} {spare : Nat → Bool} {held : Bool}

theorem cell_block {a : Addr} {v : Value} (h : w.cell? a = some v) : a.spot = none ∧ ∃ cs e fz, w.heap[a.block]? = some (.cells cs e fz) ∧ cs[a.off]? = some v := by
  unfold World.cell? at h
  split at h
  · rename_i c e fz hc
    split at h
    · cases h
    · rename_i hs
      exact ⟨by simpa using hs, c, e, fz, hc, h⟩
  · cases h

theorem add_block (a : Addr) (i : Nat) : (a.add i).block = a.block := by
  unfold Addr.add; split <;> rfl
theorem add_off (a : Addr) (i : Nat) : (a.add i).off = a.off + i := by
  unfold Addr.add; split
  · rename_i h; subst h; rfl
  · rfl

theorem getD_some {vs : List Value} {i : Nat} {v : Value} (h : vs[i]? = some v) : vs.getD i undef = v := by
  rw [List.getD_eq_getElem?_getD, h]; rfl

theorem Ty.read (O : Nat → Prop) (hO : ∀ b, ¬ O b) : ∀ (ty : Ty),
    (∀ (t : TypeId) (fuel : Nat) (cs : List Value) (x : DataW H × List MemPlace), ty.fits P t = true → DataW.trod enc P w base (fun _ => true) held fuel t cs = some x →
      ∃ l, ty.wt l ∧ l.length = cs.length ∧ ∀ i (h : i < l.length), Rd w O l[i] (cs.getD i undef)) ∧
    (∀ (n o : Nat) (fs : List Field) (fuel : Nat) (cs : List Value), ty.fitsF P n o fs = true → cs.length = n →
      (∀ f ∈ fs, ∃ x, DataW.trod enc P w base (fun _ => true) held fuel f.type ((cs.drop f.offset).take (P.cellsOf f.type)) = some x) →
      ∃ l, ty.wt l ∧ l.length = n - o ∧ (∀ i (h : i < l.length), Rd w O l[i] ((cs.drop o).getD i undef))) := by
  have one : ∀ (v : Value), ∀ i (h : i < [T.v v].length), Rd w O [T.v v][i] ([v].getD i undef) := fun v i h => by
    have : i = 0 := by simpa using h
    subst this; exact .v v
  intro ty
  induction ty with
  | int k =>
    refine ⟨fun t fuel cs x hf h => ?_, fun n o fs fuel cs hf => by simp [Ty.fitsF] at hf⟩
    simp only [Ty.fits] at hf
    split at hf
    · rename_i k' ht
      have : k' = k := by simpa using hf
      subst this
      obtain ⟨n, rfl, _, hw⟩ := DataW.trod_int ht h
      exact ⟨_, ⟨n, rfl, hw⟩, rfl, one _⟩
    · cases hf
  | bool =>
    refine ⟨fun t fuel cs x hf h => ?_, fun n o fs fuel cs hf => by simp [Ty.fitsF] at hf⟩
    simp only [Ty.fits] at hf
    split at hf
    · rename_i ht
      obtain ⟨n, rfl, _⟩ := DataW.trod_bool ht h
      exact ⟨_, ⟨n, rfl⟩, rfl, one _⟩
    · cases hf
  | str =>
    refine ⟨fun t fuel cs x hf h => ?_, fun n o fs fuel cs hf => by simp [Ty.fitsF] at hf⟩
    simp only [Ty.fits] at hf
    split at hf
    · rename_i ht
      obtain ⟨n, rfl, _, hw⟩ := DataW.trod_string ht h
      exact ⟨_, ⟨n, rfl, hw⟩, rfl, one _⟩
    · cases hf
  | sl s e ih =>
    refine ⟨fun t fuel cs x hf h => ?_, fun n o fs fuel cs hf => by simp [Ty.fitsF] at hf⟩
    simp only [Ty.fits] at hf
    split at hf
    · rename_i et ht
      simp only [Bool.and_eq_true, decide_eq_true_eq] at hf
      obtain ⟨⟨hs, hs0⟩, hfe⟩ := hf
      have single : ∀ (t : T) (v : Value), Rd w O t v → ∀ i (h : i < [t].length), Rd w O [t][i] ([v].getD i undef) := fun t v hr i h => by
        have : i = 0 := by simpa using h
        subst this; exact hr
      rcases Deep.open_slice ht h with ⟨rfl, _⟩ | ⟨a, len, cap, m, n, D, Pl, rfl, hb, hl, hm, hmm, _, hx⟩
      · exact ⟨_, ⟨[], rfl, Nat.zero_le _, by simp⟩, rfl, single _ _ (.shNil s)⟩
      · simp only [if_true] at hmm
        subst hmm
        have each : ∀ i, i < len → ∃ y : List T × List Value, w.cells? base (a.add (i * s)) s = some y.2 ∧ e.wt y.1 ∧ y.1.length = s ∧ ∀ j (h : j < y.1.length), Rd w O y.1[j] (y.2.getD j undef) := by
          intro i hi
          obtain ⟨cs', h1, h2⟩ := hx i (by omega)
          rw [hs] at h1
          obtain ⟨l, hwt, hlen, hr⟩ := ih.1 _ _ _ _ hfe h2
          exact ⟨(l, cs'), h1, hwt, hlen.trans (World.cells?_some h1).2.1, hr⟩
        obtain ⟨y, hy⟩ := Deep.choose_lt each
        rcases Nat.eq_zero_or_pos len with h0 | h0
        · subst h0
          exact ⟨_, ⟨[], rfl, Nat.zero_le _, by simp⟩, rfl, single _ _ (.shZ s a _)⟩
        · -- the block
          have cell : ∀ i j, i < len → j < s → w.cell? ((a.add (i * s)).add j) = some ((y i).2.getD j undef) := fun i j hi hj => by
            obtain ⟨h1, hwt, hlen, hr⟩ := hy i hi
            obtain ⟨_, h2, h3⟩ := World.cells?_some h1
            rw [h3 j hj, List.getD_eq_getElem?_getD, List.getElem?_eq_getElem (by omega)]; rfl
          have hfirst := cell 0 0 h0 hs0
          rw [Nat.zero_mul] at hfirst
          obtain ⟨hsp, cs, ee, fz, hblk, _⟩ := cell_block hfirst
          rw [add_block, add_block] at hblk
          have at' : ∀ i j, i < len → j < s → cs[a.off + i * s + j]? = some ((y i).2.getD j undef) := fun i j hi hj => by
            obtain ⟨_, cs2, e2, fz2, h1, h2⟩ := cell_block (cell i j hi hj)
            rw [add_block, add_block, hblk] at h1
            simp only [Option.some.injEq, Obj.cells.injEq] at h1
            rw [add_off, add_off, ← h1.1] at h2
            exact h2
          have hsp' : a.spot = none := by
            unfold Addr.add at hsp
            simpa using hsp
          obtain ⟨b, off, sp⟩ := a
          simp only at hsp' hblk at'
          subst hsp'
          have hfl : ∀ i, i ≤ len → (((List.range i).map fun i => (y i).1).flatten).length = i * s := fun i => by
            induction i with
            | zero => intro _; simp
            | succ i ihi =>
              intro hi
              rw [List.range_succ, List.map_append, List.flatten_append, List.length_append, ihi (by omega)]
              simp only [List.map_cons, List.map_nil, List.flatten_cons, List.flatten_nil, List.append_nil, (hy i (by omega)).2.2.1, Nat.succ_mul]
          refine ⟨[.sh s ((List.range len).map fun i => (y i).1).flatten], ⟨_, rfl, by simp; exact Nat.le_trans hl hm, fun x hx => ?_⟩, rfl, single _ _ ?_⟩
          · obtain ⟨i, hi, rfl⟩ := List.mem_map.1 hx
            have := hy i (by simpa using hi)
            exact ⟨this.2.2.1, this.2.1⟩
          · have hlast := at' (len - 1) (s - 1) (by omega) (by omega)
            obtain ⟨hlt, _⟩ := Array.getElem?_eq_some_iff.1 hlast
            have hmul : (len - 1) * s + s = len * s := by rw [← Nat.succ_mul]; congr 1; omega
            refine .sh s _ b off len _ cs ee fz (hO b) hblk (by rw [hfl len (Nat.le_refl _)]; omega) (hfl len (Nat.le_refl _)) hl fun k hk => ?_
            rw [hfl len (Nat.le_refl _)] at hk
            have hi : k / s < len := Nat.div_lt_of_lt_mul (by rw [Nat.mul_comm]; exact hk)
            have hj : k % s < s := Nat.mod_lt _ hs0
            have hk' : k / s * s + k % s = k := by rw [Nat.mul_comm]; exact Nat.div_add_mod k s
            have e1 : (((List.range len).map fun i => (y i).1).flatten)[k]? = (y (k / s)).1[k % s]? := by
              have hsplit : ∃ rest, List.range len = List.range (k / s) ++ (k / s) :: rest := by
                refine ⟨((List.range (len - k / s - 1)).map Nat.succ).map (k / s + ·), ?_⟩
                have h1 : List.range (k / s + (len - k / s)) = List.range (k / s) ++ (List.range (len - k / s)).map (k / s + ·) := List.range_add
                rw [show k / s + (len - k / s) = len by omega] at h1
                have h2 : List.range (len - k / s) = 0 :: (List.range (len - k / s - 1)).map Nat.succ := by
                  rw [← List.range_succ_eq_map]; congr 1; omega
                rw [h1, h2]; rfl
              obtain ⟨rest, hsplit⟩ := hsplit
              rw [hsplit, List.map_append, List.flatten_append, List.getElem?_append_right (by rw [hfl _ (Nat.le_of_lt hi)]; omega), hfl _ (Nat.le_of_lt hi), List.map_cons, List.flatten_cons,
                List.getElem?_append_left (by rw [(hy _ hi).2.2.1]; omega)]
              congr 1; omega
            have hjl : k % s < (y (k / s)).1.length := by rw [(hy _ hi).2.2.1]; exact hj
            have hget : (((List.range len).map fun i => (y i).1).flatten)[k]'(by rw [hfl len (Nat.le_refl _)]; exact hk) = (y (k / s)).1[k % s] := by
              have h1 := List.getElem?_eq_getElem (l := ((List.range len).map fun i => (y i).1).flatten) (i := k) (by rw [hfl len (Nat.le_refl _)]; exact hk)
              rw [e1, List.getElem?_eq_getElem hjl] at h1
              exact (Option.some.inj h1).symm
            rw [hget]
            have hc := at' (k / s) (k % s) hi hj
            rw [Nat.add_assoc, hk'] at hc
            have : cs.getD (off + k) undef = (y (k / s)).2.getD (k % s) undef := by rw [Array.getD_eq_getD_getElem?, hc]; rfl
            rw [this]
            exact (hy _ hi).2.2.2 _ hjl
    · cases hf
  | st f ih =>
    refine ⟨fun t fuel cs x hf h => ?_, fun n o fs fuel cs hf => by simp [Ty.fitsF] at hf⟩
    simp only [Ty.fits] at hf
    split at hf
    · rename_i fs ht
      obtain ⟨xs, n, rfl, _, hlen, hxl, hx⟩ := DataW.trod_struct ht h
      obtain ⟨l, hwt, hl, hr⟩ := ih.2 _ _ _ n cs hf hlen (fun f hf' => by
        obtain ⟨i, hi, rfl⟩ := List.mem_iff_getElem.1 hf'
        have h1 := hx i fs.toList[i] (by simp only [Array.length_toList] at hi; simp [hi])
        have hi' : i < xs.length := by rw [hxl]; simpa using hi
        rw [List.getElem?_eq_getElem hi'] at h1
        exact ⟨_, h1⟩)
      exact ⟨l, hwt, by omega, by simpa using hr⟩
    · cases hf
  | nil =>
    refine ⟨fun t fuel cs x hf h => by simp [Ty.fits] at hf, fun n o fs fuel cs hf hn _ => ?_⟩
    cases fs with
    | cons f fs => simp [Ty.fitsF] at hf
    | nil =>
      have : o = n := by simpa [Ty.fitsF] using hf
      exact ⟨[], rfl, by simp; omega, fun i h => absurd h (by simp)⟩
  | cons a r iha ihr =>
    refine ⟨fun t fuel cs x hf h => by simp [Ty.fits] at hf, fun n o fs fuel cs hf hn hx => ?_⟩
    cases fs with
    | nil => simp [Ty.fitsF] at hf
    | cons f fs =>
      simp only [Ty.fitsF, Bool.and_eq_true, decide_eq_true_eq] at hf
      obtain ⟨⟨rfl, hfa⟩, hfr⟩ := hf
      obtain ⟨x, h1⟩ := hx f (by simp)
      obtain ⟨l1, hw1, hl1, hr1⟩ := iha.1 _ _ _ _ hfa h1
      obtain ⟨l2, hw2, hl2, hr2⟩ := ihr.2 _ _ _ fuel cs hfr hn (fun g hg => hx g (by simp [hg]))
      simp only [List.length_take, List.length_drop] at hl1
      refine ⟨l1 ++ l2, ⟨l1, l2, rfl, hw1, hw2⟩, by rw [List.length_append]; omega, fun i h => ?_⟩
      by_cases hi : i < l1.length
      · rw [List.getElem_append_left hi]
        have := hr1 i hi
        rwa [List.getD_eq_getElem?_getD, List.getElem?_take_of_lt (by omega), ← List.getD_eq_getElem?_getD] at this
      · rw [List.getElem_append_right (by omega)]
        have := hr2 (i - l1.length) (by rw [List.length_append] at h; omega)
        rw [List.getD_eq_getElem?_getD, List.getElem?_drop] at this ⊢
        rw [List.length_append] at h
        rwa [show f.offset + P.cellsOf f.type + (i - l1.length) = f.offset + i by omega] at this
end
end Go.Ab

/- The bridge, part 2: a law that is a contract is a law of the row's form. -/
set_option linter.unusedSimpArgs false
set_option linter.unusedVariables false
namespace Go.Ab
open Go.ChangeShapes Go.WideShapes Go.ChangeAt Go.RowKit

def fitsL (P : Program) : List Ty → List TypeId → Bool
  | [], [] => true
  | ty :: tys, t :: ts => ty.fits P t && decide (t < P.types.size) && P.readableRec t && fitsL P tys ts
  | _, _ => false
def wtL : List Ty → List T → Prop
  | [], [] => True
  | ty :: tys, x :: xs => ty.wtV x ∧ wtL tys xs
  | _, _ => False

section
variable {H : Type} {enc : TypeId × Value → H} {P : Program} {w : World} {base : Nat} {held : Bool}

theorem Ty.readV (O : Nat → Prop) (hO : ∀ b, ¬ O b) {ty : Ty} {t : TypeId} {v : Value} {d : DataW H} {ps : List MemPlace} {w' : World} {r : Reach} {b0 : Nat} (hf : ty.fits P t = true) (hok : Value.okWide P w' r b0 t v)
    (h : DataW.Trod enc P w base (fun _ => true) held t v d ps) : ∃ x, ty.wtV x ∧ Rd w O x v := by
  obtain ⟨fuel, h⟩ := h
  obtain ⟨l, hwt, hl, hr⟩ := (Ty.read (P := P) O hO ty).1 t fuel _ _ hf h
  have single : v.cells = #[v] → ∀ x : T, l = [x] → Rd w O x v := fun hc x hx => by
    subst hx
    have := hr 0 (by simp)
    rw [hc] at this
    exact this
  cases ty with
  | int k =>
    simp only [Ty.fits] at hf
    split at hf
    · rename_i k' ht
      obtain ⟨n, rfl⟩ := okWide_int ht hok
      obtain ⟨m, rfl, hw⟩ := hwt
      exact ⟨_, ⟨m, rfl, hw⟩, single rfl _ rfl⟩
    · cases hf
  | bool =>
    simp only [Ty.fits] at hf
    split at hf
    · rename_i ht
      obtain ⟨n, rfl⟩ := okWide_bool ht hok
      obtain ⟨m, rfl⟩ := hwt
      exact ⟨_, ⟨m, rfl⟩, single rfl _ rfl⟩
    · cases hf
  | str =>
    simp only [Ty.fits] at hf
    split at hf
    · rename_i ht
      obtain ⟨n, rfl⟩ := okWide_string ht hok
      obtain ⟨m, rfl, hw⟩ := hwt
      exact ⟨_, ⟨m, rfl, hw⟩, single rfl _ rfl⟩
    · cases hf
  | sl s e =>
    simp only [Ty.fits] at hf
    split at hf
    · rename_i et ht
      obtain ⟨a, len, cap, rfl⟩ := okWide_slice ht hok
      obtain ⟨m, rfl, hw⟩ := hwt
      exact ⟨_, ⟨m, rfl, hw⟩, single rfl _ rfl⟩
    · cases hf
  | st f =>
    simp only [Ty.fits] at hf
    split at hf
    · rename_i fs ht
      simp only [Value.okWide, ht] at hok
      obtain ⟨cs, rfl, _, _⟩ := hok
      refine ⟨.agg l, ⟨l, rfl, hwt⟩, ?_⟩
      have := Rd.agg (w := w) (O := O) l cs.toList (by rw [hl]; rfl) hr
      simpa using this
    · cases hf
  | nil => simp [Ty.fits] at hf
  | cons a r => simp [Ty.fits] at hf

theorem args_read (O : Nat → Prop) (hO : ∀ b, ¬ O b) {w' : World} {r : Reach} {b0 : Nat} : ∀ {tys : List Ty} {ts : List TypeId} {vs : List Value} {ds : List (DataW H)} {ps : List MemPlace}, fitsL P tys ts = true →
    DataW.TrodAll enc P w base (fun _ => true) held ts vs ds ps → (∀ (j : Nat) (t : TypeId) (v : Value), ts[j]? = some t → vs[j]? = some v → Value.okWide P w' r b0 t v) →
    ∃ xs, wtL tys xs ∧ vs.length = xs.length ∧ ds.length = tys.length ∧ ∀ i (h : i < xs.length), Rd w O xs[i] (vs.getD i undef)
  | [], [], vs, ds, ps, _, h, _ => by
    cases vs <;> cases ds <;> simp only [DataW.TrodAll] at h
    exact ⟨[], trivial, rfl, rfl, fun i h => absurd h (by simp)⟩
  | [], _ :: _, vs, ds, ps, hf, h, _ => by simp [fitsL] at hf
  | _ :: _, [], vs, ds, ps, hf, h, _ => by simp [fitsL] at hf
  | ty :: tys, t :: ts, vs, ds, ps, hf, h, hok => by
    simp only [fitsL, Bool.and_eq_true] at hf
    cases vs with
    | nil => simp [DataW.TrodAll] at h
    | cons v vs =>
      cases ds with
      | nil => simp [DataW.TrodAll] at h
      | cons d ds =>
        obtain ⟨p, q, h1, h2, _⟩ := h
        obtain ⟨x, hx, hr⟩ := Ty.readV O hO hf.1.1.1 (hok 0 t v rfl rfl) h1
        obtain ⟨xs, hxs, hl, hd, hrs⟩ := args_read O hO hf.2 h2 (fun j t v h1 h2 => hok (j + 1) t v (by simpa using h1) (by simpa using h2))
        refine ⟨x :: xs, ⟨hx, hxs⟩, by simp [hl], by simp [hd], fun i hi => ?_⟩
        cases i with
        | zero => exact hr
        | succ i => simpa [List.getD_eq_getElem?_getD] using hrs i (by simpa using hi)

theorem args_stay {w w' : World} {sp : Nat → Bool} (hl : laidOutB P = true) : ∀ {tys : List Ty} {ts : List TypeId} {vs : List Value} {ds : List (DataW H)} {ps : List MemPlace}, fitsL P tys ts = true →
    DataW.TrodAll enc P w base (fun _ => true) true ts vs ds ps → (∀ p ∈ ps, w.sameAt w' p ∧ sp p.block = true) → DataW.TrodAll enc P w' base sp true ts vs ds ps
  | [], [], vs, ds, ps, _, h, _ => by
    cases vs <;> cases ds <;> simp only [DataW.TrodAll] at h ⊢
    exact h
  | [], _ :: _, vs, ds, ps, hf, h, _ => by simp [fitsL] at hf
  | _ :: _, [], vs, ds, ps, hf, h, _ => by simp [fitsL] at hf
  | ty :: tys, t :: ts, vs, ds, ps, hf, h, hs => by
    simp only [fitsL, Bool.and_eq_true, decide_eq_true_eq] at hf
    cases vs with
    | nil => simp [DataW.TrodAll] at h
    | cons v vs =>
      cases ds with
      | nil => simp [DataW.TrodAll] at h
      | cons d ds =>
        obtain ⟨p, q, h1, h2, rfl⟩ := h
        exact ⟨p, q, WideElems.Trod_stays hl hf.1.2 hf.1.1.2 h1 (fun x hx => (hs x (by simp [hx])).1) (fun x hx => (hs x (by simp [hx])).2), args_stay hl hf.2 h2 (fun x hx => hs x (by simp [hx])), rfl⟩

/-- The contract that a row's builder asks for. -/
theorem law_contract {f : FuncId} {fn : Func} {s : ChangeSpec} {tys : List Ty} {tb : TypeId} {apart fresh handsOn : Bool} (hlaid : laidOutB P = true) (hfit : fitsL P tys fn.params.toList = true) (hres : fn.resultTypes = #[tb]) (hbool : P.underlying tb = some .bool)
    (hvars : s.vars = []) (hspec : ∀ (ds : List (DataW H)), ds.length = tys.length → s.fn H ds = { results := [.lit (.bool true)], args := ds }) (hF : ∀ xs, wtL tys xs → Pure P f xs (.b true))
    (W : World) (base : Nat) (args : Array Value) (ds gs : List (DataW H)) (before : List MemPlace) (hval : ∀ (j : Nat) t v, fn.params[j]? = some t → args[j]? = some v → Value.okWide P W .any base t v)
    (hW : DataW.Whole enc P fn.params.toList s.vars apart W args.toList ds gs before) : Calls P f args W fun e W' => ∃ v, e = .returned v ∧ s.post enc P fn apart fresh handsOn false W args v W' := by
  have hW' := hW
  obtain ⟨p, q, hA, hV, rfl, hfz, hnd⟩ := hW
  rw [hvars] at hV
  have hV' := hV
  cases gs with
  | cons _ _ => simp [DataW.TrodVars] at hV
  | nil =>
    simp only [DataW.TrodVars] at hV
    subst hV
    obtain ⟨xs, hwt, hlen, hdl, hr⟩ := args_read (P := P) (fun _ => False) (fun _ h => h) hfit hA (fun j t v h1 h2 => hval j t v (by simpa using h1) (by simpa using h2))
    have hlt : ∀ x ∈ p, x.block < W.heap.size := fun x hx => hW'.lt x (by simp [hx])
    have mem : Mem (fun _ => False) W [] (fun _ => none) (fun _ => []) := ⟨fun i t h => by simp at h, fun _ _ => ⟨rfl, rfl⟩, fun _ _ b h => by simp at h, fun _ => by simp, fun _ b h => by simp at h, fun _ h => h.elim, fun _ _ h => by cases h⟩
    have hO : ∀ b, ¬ Ob (fun _ => False) (fun _ => []) b := fun b h => by
      rcases h with h | ⟨r, h⟩
      · exact h
      · simp at h
    have hc := hF xs hwt _ W args.toList _ _ mem (by simpa using hlen) (fun i h => by
      have hi : i < xs.length := by simpa using h
      rw [List.getElem_map]
      exact .t ((hr i hi).mono (fun _ _ _ _ _ h => h) (fun b _ _ => hO b)))
    simp only [Array.toArray_toList] at hc
    refine hc.mono ?_
    rintro e W' ⟨v, res, rout, fr, fp', rfl, ⟨rfl, rfl⟩, _, out⟩
    have hv : v = .bool true := by
      cases out.res with
      | rd h => cases h; rfl
    subst hv
    have hs : W.Since W.heap.size W' := ⟨out.os, out.tape, out.output, out.size, fun b hb => out.frame b hb (fun j h => by simp at h)⟩
    refine ⟨_, rfl, ds, [], p ++ [], [], p, [], hW', ?_, ?_, ?_, hs.frame _, fun h => by cases h⟩
    · rw [List.append_nil, hspec ds hdl, hres]
      exact trodAll_cons_mk (shut_bool hbool _) trodAll_mk0
    · rw [List.append_nil, hspec ds hdl]
      exact args_stay hlaid hfit hA fun x hx => ⟨hs.sameAt (hlt x hx), by simpa using hlt x hx⟩
    · rw [List.append_nil, hspec ds hdl, hvars]
      exact hV'
end
end Go.Ab

/- The abstract layer, part 21: rows and matrices as data; small facts for the walks. -/
set_option linter.unusedSimpArgs false
set_option linter.unusedVariables false
namespace Go.Ab

/-- A row that is only read, and a matrix. -/
def ints (l : List Int) : T := .sh 1 (l.map T.i)
def rows (m : List (List Int)) : T := .sh 1 (m.map ints)
/-- The same, owned. -/
def intsO (l : List Int) : T := .arr 1 (l.map T.i)
def rowsO (m : List (List Int)) : T := .arr 1 (m.map intsO)

/-- A ratio. -/
def rat (r : Int × Int) : T := .agg [T.i r.1, T.i r.2]

/-- Lists of ratios. -/
def ratC (l : List (Int × Int)) : List T := l.flatMap fun r => [T.i r.1, T.i r.2]
def rats (l : List (Int × Int)) : T := .sh 2 (ratC l)
def ratsO (l : List (Int × Int)) : T := .arr 2 (ratC l)
theorem ratC_nil : ratC [] = [] := rfl
theorem ratC_cons (r : Int × Int) (l : List (Int × Int)) : ratC (r :: l) = T.i r.1 :: T.i r.2 :: ratC l := rfl
theorem ratC_append (l l' : List (Int × Int)) : ratC (l ++ l') = ratC l ++ ratC l' := by simp [ratC]
theorem ratC_length : ∀ l : List (Int × Int), (ratC l).length = l.length * 2
  | [] => rfl
  | r :: l => by rw [ratC_cons]; simp [ratC_length l]; omega
theorem ratC_div (l : List (Int × Int)) : (ratC l).length / 2 = l.length := by rw [ratC_length]; omega
theorem ratC_drop : ∀ (l : List (Int × Int)) (i : Nat), (ratC l).drop (i * 2) = ratC (l.drop i)
  | l, 0 => by simp
  | [], i + 1 => by simp [ratC]
  | r :: l, i + 1 => by rw [ratC_cons, show (i + 1) * 2 = i * 2 + 1 + 1 by omega, List.drop_succ_cons, List.drop_succ_cons, ratC_drop l i]; rfl
theorem ratC_take : ∀ (l : List (Int × Int)) (i : Nat), (ratC l).take (i * 2) = ratC (l.take i)
  | l, 0 => by simp [ratC]
  | [], i + 1 => by simp [ratC]
  | r :: l, i + 1 => by rw [ratC_cons, show (i + 1) * 2 = i * 2 + 1 + 1 by omega, List.take_succ_cons, List.take_succ_cons, ratC_take l i]; rfl
theorem ratC_at {l : List (Int × Int)} {i : Nat} {r : Int × Int} (h : l[i]? = some r) : ((ratC l).drop (i * 2)).take 2 = [T.i r.1, T.i r.2] := by
  obtain ⟨hi, rfl⟩ := List.getElem?_eq_some_iff.1 h
  rw [ratC_drop, List.drop_eq_getElem_cons hi, ratC_cons]; rfl
theorem ratC_get1 {l : List (Int × Int)} {i : Nat} {r : Int × Int} (h : l[i]? = some r) : (ratC l)[i * 2]? = some (T.i r.1) := by
  have := congrArg (·[0]?) (ratC_at h)
  simpa [List.getElem?_take, List.getElem?_drop] using this
theorem ratC_get2 {l : List (Int × Int)} {i : Nat} {r : Int × Int} (h : l[i]? = some r) : (ratC l)[i * 2 + 1]? = some (T.i r.2) := by
  have := congrArg (·[1]?) (ratC_at h)
  simpa [List.getElem?_take, List.getElem?_drop] using this
theorem toShL_ratC : ∀ l : List (Int × Int), T.toShL (ratC l) = ratC l
  | [] => rfl
  | r :: l => by rw [ratC_cons, T.toShL, T.toShL, toShL_ratC l]; rfl
theorem ratC_all_cell (l : List (Int × Int)) : (ratC l).all T.cell = true := by
  rw [List.all_eq_true]; intro t ht; obtain ⟨x, _, h⟩ := List.mem_flatMap.1 ht
  rcases List.mem_cons.1 h with rfl | h
  · rfl
  · rcases List.mem_cons.1 h with rfl | h
    · rfl
    · cases h
theorem ratC_all_flat (l : List (Int × Int)) : (ratC l).all T.flat = true := by
  rw [List.all_eq_true]; intro t ht; obtain ⟨x, _, h⟩ := List.mem_flatMap.1 ht
  rcases List.mem_cons.1 h with rfl | h
  · rfl
  · rcases List.mem_cons.1 h with rfl | h
    · rfl
    · cases h
theorem ratsO_toSh (l : List (Int × Int)) : (ratsO l).toSh = rats l := by simp only [ratsO, rats, T.toSh, toShL_ratC]
theorem ratsO_noSh (l : List (Int × Int)) : (ratsO l).noSh := by
  simp only [ratsO, T.noSh]
  rw [T.noShL_iff]
  intro t ht; obtain ⟨x, _, h⟩ := List.mem_flatMap.1 ht
  rcases List.mem_cons.1 h with rfl | h
  · trivial
  · rcases List.mem_cons.1 h with rfl | h
    · trivial
    · cases h
theorem absT_ratsO (d k : Nat) (m : List (Int × Int)) : absT d k (ratsO m) = (.own (rid d k), [(rid d k, ratsO m)], k + 1) := rfl
theorem rootOf_intsO (l : List Int) : rootOf (intsO l) = .live (intsO l) [] := rfl
theorem rootOf_rowsO (l : List (List Int)) : rootOf (rowsO l) = .live (rowsO l) [] := rfl
theorem rootOf_ratsO (l : List (Int × Int)) : rootOf (ratsO l) = .live (ratsO l) [] := rfl
attribute [go_sem] ratC_div ratC_all_cell ratC_all_flat absT_ratsO rootOf_intsO rootOf_rowsO rootOf_ratsO rootOf_arr rootOf_box rootOf_any

theorem all_cell_ints (l : List Int) : (l.map T.i).all T.cell = true := by
  rw [List.all_eq_true]; intro t ht; obtain ⟨x, _, rfl⟩ := List.mem_map.1 ht; rfl
theorem all_flat_ints (l : List Int) : (l.map T.i).all T.flat = true := by
  rw [List.all_eq_true]; intro t ht; obtain ⟨x, _, rfl⟩ := List.mem_map.1 ht; rfl
theorem all_cell_intsO (m : List (List Int)) : (m.map intsO).all T.cell = true := by
  rw [List.all_eq_true]; intro t ht; obtain ⟨x, _, rfl⟩ := List.mem_map.1 ht; rfl

theorem wrap64 {n : Int} (h : -9223372036854775808 ≤ n) (h' : n < 9223372036854775808) : IntKind.i64.wrap n = n := by
  simp [IntKind.wrap, IntKind.bits, IntKind.signed]
  omega
theorem next64 {i n : Nat} (h : i < n) (hn : n ≤ 1000000000000) : IntKind.i64.wrap ((i : Int) + 1) = ((i + 1 : Nat) : Int) := by
  rw [wrap64 (by omega) (by omega)]; rfl
theorem vt_self (S : St) (bor : List Nat) (x : T) : vt S bor x (.t x) = True := by
  cases x <;> simp [vt, vb, maT]
theorem toNat_cast (i : Nat) : (i : Int).toNat = i := rfl
theorem take_succ_all {α : Type} {p : α → Prop} {l : List α} {i : Nat} {x : α} (hx : l[i]? = some x) (h : ∀ y ∈ l.take i, p y) (hp : p x) : ∀ y ∈ l.take (i + 1), p y := by
  intro y hy
  rw [List.take_add_one, hx] at hy
  simp only [Option.toList_some, List.mem_append, List.mem_singleton] at hy
  rcases hy with hy | rfl
  · exact h y hy
  · exact hp
theorem intsO_noSh (l : List Int) : (intsO l).noSh := by
  simp only [intsO, T.noSh]
  rw [T.noShL_iff]
  intro t ht
  obtain ⟨x, _, rfl⟩ := List.mem_map.1 ht
  simp [T.noSh]

section
variable {P : Program} {n : Nat} {S : St}
/-- A call with a determined result. -/
theorem CallW.res {d : Option Nat} {fo : Operand} {ops : List Operand} {K : St → Prop} {f : FuncId} {cap : List A} {args : List A} {res : T} (hF : Fun P f [] args fun o r => o = [] ∧ r = res) (bor : List Nat) (hfo : fnA (S.ev fo) = some (f, cap)) (hcall : ∀ args w, (callFunc f args).run P w = .ok (.enter f args) w)
    (hargs : vaL S [] bor args (ops.map S.ev ++ cap)) (hns : bor = [] ∨ res.noSh) (hk : afterCall S d [] [] res K) : CallW P n d fo ops K S := by
  refine CallW.use hfo hcall hF [] bor (by simp) trivial (fun q _ => by simp) hargs fun rout res' h => ?_
  obtain ⟨rfl, rfl⟩ := h
  refine ⟨?_, hk⟩
  rcases hns with h | h
  · exact .inl h
  · exact .inr ⟨h, trivial⟩
end

section
variable {P : Program} {n : Nat} {S : St}
/-- A call that works on roots. -/
theorem CallW.ref {d : Option Nat} {fo : Operand} {ops : List Operand} {K : St → Prop} {f : FuncId} {cap : List A} {rin : List T} {args : List A} {rout : List T} {res : T} (hF : Fun P f rin args fun o r => o = rout ∧ r = res) (srcs bor : List Nat) (hfo : fnA (S.ev fo) = some (f, cap)) (hcall : ∀ args w, (callFunc f args).run P w = .ok (.enter f args) w)
    (hsn : srcs.Nodup) (hsrc : srcsOK S srcs rin) (hsb : ∀ q ∈ bor, q ∉ srcs) (hargs : vaL S srcs bor args (ops.map S.ev ++ cap)) (hns : bor = [] ∨ (res.noSh ∧ T.noShL rout)) (hk : afterCall S d srcs rout res K) : CallW P n d fo ops K S := by
  refine CallW.use hfo hcall hF srcs bor hsn hsrc hsb hargs fun rout' res' h => ?_
  obtain ⟨rfl, rfl⟩ := h
  exact ⟨hns, hk⟩
end
theorem toShL_ints (l : List Int) : T.toShL (l.map T.i) = l.map T.i := by
  rw [T.toShL_eq_map, List.map_map]; exact List.map_congr_left fun _ _ => rfl
theorem intsO_toSh (l : List Int) : (intsO l).toSh = ints l := by
  simp only [intsO, ints, T.toSh, toShL_ints]
theorem rowsO_toSh (m : List (List Int)) : (rowsO m).toSh = rows m := by
  simp only [rowsO, rows, T.toSh, T.toShL_eq_map, List.map_map]
  congr 1
  exact List.map_congr_left fun r _ => intsO_toSh r
theorem toShL_intsO (m : List (List Int)) : T.toShL (m.map intsO) = m.map ints := by
  rw [T.toShL_eq_map, List.map_map]; exact List.map_congr_left fun r _ => intsO_toSh r
theorem rowsO_noSh (m : List (List Int)) : (rowsO m).noSh := by
  simp only [rowsO, T.noSh]
  rw [T.noShL_iff]
  intro t ht
  obtain ⟨x, _, rfl⟩ := List.mem_map.1 ht
  exact intsO_noSh x
theorem vt_rows_own (S : St) (bor : List Nat) (m : List (List Int)) (q : Nat) : vt S bor (rows m) (.own q) = (q ∈ bor ∧ ∃ t, S.roots q = .live t [] ∧ rows m = t.toSh) := by simp [rows, vt, vb]
theorem vt_ints_own (S : St) (bor : List Nat) (m : List Int) (q : Nat) : vt S bor (ints m) (.own q) = (q ∈ bor ∧ ∃ t, S.roots q = .live t [] ∧ ints m = t.toSh) := by simp [ints, vt, vb]
theorem absT_rowsO (d k : Nat) (m : List (List Int)) : absT d k (rowsO m) = (.own (rid d k), [(rid d k, rowsO m)], k + 1) := rfl
theorem absT_intsO (d k : Nat) (m : List Int) : absT d k (intsO m) = (.own (rid d k), [(rid d k, intsO m)], k + 1) := rfl


theorem Le.tup2 {a a' b b' : T} (h1 : Le a a') (h2 : Le b b') : Le (.tup [a, b]) (.tup [a', b']) :=
  .tup rfl fun i h h' => match i, h, h' with | 0, _, _ => h1 | 1, _, _ => h2
theorem Le.tup3 {a a' b b' c c' : T} (h1 : Le a a') (h2 : Le b b') (h3 : Le c c') : Le (.tup [a, b, c]) (.tup [a', b', c']) :=
  .tup rfl fun i h h' => match i, h, h' with | 0, _, _ => h1 | 1, _, _ => h2 | 2, _, _ => h3
/-- A result may be read as less is known of it: nil as a list without elements. -/
theorem Fun.le {P : Program} {f : FuncId} {rin : List T} {args : List A} {Q Q' : List T → T → Prop} (h : Fun P f rin args Q) (hq : ∀ o r, Q o r → ∃ r', Le r r' ∧ Q' o r') : Fun P f rin args Q' := by
  intro X w vals hs fp hm hl hi
  refine (h X w vals hs fp hm hl hi).mono ?_
  rintro e w' ⟨v, res, rout, fr, fp', rfl, hQ, hlen, out⟩
  obtain ⟨r', hle, hQ'⟩ := hq _ _ hQ
  obtain ⟨fr', ho, hsub⟩ := hle.ow out.res
  have sub : ∀ b ∈ fr', b ∈ fr := fun b hb => hsub.subset hb
  have hO : ∀ b, ¬ Ob' X fp' fr b → b < w'.heap.size → ¬ Ob' X fp' fr' b := fun b h _ h' => by
    rcases h' with h' | h'
    · exact h (.inl h')
    · exact h (.inr (sub b h'))
  have keep : ∀ p, Keeps p w' w' := fun p _ _ _ _ _ h => h
  exact ⟨v, r', rout, fr', fp', rfl, hQ', hlen, fun i t ht => (let ⟨x, hx, hox, hr⟩ := out.root i t ht; ⟨x, hx, hox.mono (keep _) hO (keep _), hr⟩), out.none, ho.mono (keep _) hO (keep _), out.disj, out.nodup, hsub.nodup out.rnodup,
    fun r b hb hbf => out.rdisj r b hb (sub b hbf), out.old, fun b hb => out.rold b (sub b hb), out.os, out.tape, out.output, out.size, out.frame⟩
theorem Fun.post {P : Program} {f : FuncId} {rin : List T} {args : List A} {Q Q' : List T → T → Prop} (h : Fun P f rin args Q) (hq : ∀ o r, Q o r → Q' o r) : Fun P f rin args Q' := h.le fun o r h1 => ⟨r, .refl r, hq o r h1⟩

theorem spl_one {α : Type} (l : List α) (i : Nat) (x : α) : spl l i [x] = l.set i x := rfl
theorem spl_two {α : Type} (l : List α) (i : Nat) (x y : α) (zs : List α) : spl l i (x :: y :: zs) = l.take i ++ (x :: y :: zs) ++ l.drop (i + (x :: y :: zs).length) := rfl
theorem coC_call (P : Program) (n : Nat) (all : Bool) (m : List Nat) (d : Nat) (f : Operand) (ops : List Operand) (K : St → Prop) (S : St) : coC P n all m (.call (some d) f ops) K S = (all = false ∧ CallC P n d f ops m K S) := rfl
theorem coC_alloc (P : Program) (n : Nat) (all : Bool) (m : List Nat) (d : Nat) (zs : List T) (K : St → Prop) (S : St) : coC P n all m (.alloc d zs) K S = coN (.alloc d zs) K S := rfl
theorem coC_make (P : Program) (n : Nat) (all : Bool) (m : List Nat) (d : Nat) (zs : List T) (eb : Nat) (l c : Operand) (K : St → Prop) (S : St) : coC P n all m (.make d zs eb l c) K S = coN (.make d zs eb l c) K S := rfl
theorem coC_box (P : Program) (n : Nat) (all : Bool) (m : List Nat) (d : Nat) (x : Operand) (K : St → Prop) (S : St) : coC P n all m (.box d x) K S = coN (.box d x) K S := rfl
theorem coC_bslice (P : Program) (n : Nat) (all : Bool) (m : List Nat) (d z len : Nat) (ps : List (Nat × Operand)) (K : St → Prop) (S : St) : coC P n all m (.bslice d z len ps) K S = coN (.bslice d z len ps) K S := rfl
theorem ite_nn {α : Type} (n : Nat) (a b : α) : (if (0 : Int) ≤ (n : Int) then a else b) = a := if_pos (Int.natCast_nonneg _)
theorem ite_nn1 {α : Type} (n : Nat) (a b : α) : (if (0 : Int) ≤ (n : Int) + 1 then a else b) = a := if_pos (by omega)
attribute [go_sem] ite_nn ite_nn1
theorem filter_link (k q : Nat) : List.filter (fun p : Nat × Nat => decide (p.fst < k) || decide (k + 1 ≤ p.fst)) [(k, q)] = [] := by
  rw [List.filter_cons_of_neg (by simp)]; rfl
attribute [go_sem] filter_link List.set_set absT absL List.filter_nil List.all_cons List.all_nil spl_one spl_two List.take_succ_cons List.take_zero List.drop_succ_cons List.drop_zero List.set_cons_zero List.set_cons_succ List.length_set List.cons_append List.append_nil Bool.true_and Bool.and_true Bool.false_and
/-! Guards and conditions at constants: one road only. -/
theorem guardC_tt (s : Nat) (d : Option Nat) (K1 K2 : St → Prop) (S : St) : guardC (.t (.v (.bool true))) s true d K1 K2 S = K1 { S with env := upd S.env s (.t (.v (.bool true))) } := by simp [guardC]
theorem guardC_ff (s : Nat) (d : Option Nat) (K1 K2 : St → Prop) (S : St) : guardC (.t (.v (.bool false))) s false d K1 K2 S = K1 { S with env := upd S.env s (.t (.v (.bool false))) } := by simp [guardC]
theorem guardC_ft (s : Nat) (d : Option Nat) (K1 K2 : St → Prop) (S : St) : guardC (.t (.v (.bool false))) s true d K1 K2 S = K2 (St.put { S with env := upd S.env s (.t (.v (.bool false))) } d skipA) := by simp [guardC]
theorem guardC_tf (s : Nat) (d : Option Nat) (K1 K2 : St → Prop) (S : St) : guardC (.t (.v (.bool true))) s false d K1 K2 S = K2 (St.put { S with env := upd S.env s (.t (.v (.bool true))) } d skipA) := by simp [guardC]
theorem condC_t (K1 K2 : St → Prop) (S : St) : condC (.t (.v (.bool true))) K1 K2 S = K1 S := by simp [condC]
theorem condC_f (K1 K2 : St → Prop) (S : St) : condC (.t (.v (.bool false))) K1 K2 S = K2 S := by simp [condC]
theorem guardC_b (b : Bool) (s : Nat) (want : Bool) (d : Option Nat) (K1 K2 : St → Prop) (S : St) : guardC (.t (.v (.bool b))) s want d K1 K2 S = ((b = want → K1 { S with env := upd S.env s (.t (.v (.bool want))) }) ∧ (b = !want → K2 (St.put { S with env := upd S.env s (.t (.v (.bool !want))) } d skipA))) := rfl
theorem condC_b (b : Bool) (K1 K2 : St → Prop) (S : St) : condC (.t (.v (.bool b))) K1 K2 S = ((b = true → K1 S) ∧ (b = false → K2 S)) := rfl
theorem guardC_u (xs : Array Value) (s : Nat) (want : Bool) (d : Option Nat) (K1 K2 : St → Prop) (S : St) : guardC (.t (.v (.tuple xs))) s want d K1 K2 S = K2 (St.put S d skipA) := rfl
theorem guardC_un (s : Nat) (want : Bool) (d : Option Nat) (K1 K2 : St → Prop) (S : St) : guardC skipA s want d K1 K2 S = K2 (St.put S d skipA) := rfl
attribute [go_sem high] guardC_u guardC_un guardC_tt guardC_ff guardC_ft guardC_tf condC_t condC_f
attribute [go_sem] Value.oneCell' decide_true bne_self_eq_false true_or List.nil_append all_cell_ints all_cell_intsO all_flat_ints Nat.zero_ne_one Nat.add_zero Nat.zero_add cW.eq_1 cW.eq_2 cW.eq_3 cW.eq_4 cW.eq_5 cW.eq_6 cW.eq_7 cW.eq_8 cW.eq_9 cW.eq_10 drawW.eq_1 drawW.eq_2 itemD.eq_1 itemD.eq_2 valD.eq_1 valD.eq_2 valD.eq_3 valD.eq_4 valD.eq_5 valD.eq_6 CO.dst mergeR_upd mergeR_mask coC_call coC_alloc coC_make coC_box coC_bslice coN.eq_1 coN.eq_2 coN.eq_3 coN.eq_4 giveF.eq_1 giveF.eq_2 maskR_nil maskR_upd maskR_free List.any_cons List.any_nil Option.bind_some Bool.or_false Bool.false_or Bool.or_self decide_false kE kR kN kH coH_store coH_alloc coH_box coH_bslice coH_make coH_app coH_load1 coH_call coV.eq_1 coV.eq_2 coV.eq_3 coV.eq_4 coV.eq_5 coV.eq_6 coV.eq_7 coV.eq_8 coV.eq_9 coV.eq_10 coV.eq_11 coV.eq_12 coV.eq_13 coV.eq_14 coV.eq_15 coV.eq_16 coV.eq_17 coV.eq_18 coV.eq_19 coV.eq_20 putD_apply load1V loadNV CO.dst opsW.eq_1 opsW.eq_2 opsW.eq_3 coW.eq_1 coW.eq_2 coW.eq_3 coW.eq_4 coW.eq_5 coW.eq_6 coW.eq_7 coW.eq_8 coW.eq_9 coW.eq_10 coW.eq_11 coW.eq_12 coW.eq_13 coW.eq_14 coW.eq_15 coW.eq_16 coW.eq_17 coW.eq_18 coW.eq_19 coW.eq_20 coW.eq_21 coW.eq_22 coW.eq_23 coW.eq_24 coW.eq_25 coW.eq_26 coW.eq_27 coW.eq_28 putK_apply ev_sl ev_ci ev_cb ev_cv ev_cf guardC_b condC_b thenC_n thenC_r thenC_e blockQ_n blockQ_r blockQ_e loopQ_n loopQ_r loopQ_e pickC beqC beqSC aggI intsT.eq_1 intsT.eq_2 intsA.eq_1 intsA.eq_2 isNilC slcC bndN Option.map_some Option.map_none binW binI unW extractW lenC lenTC idxC fldC load1C loadNC cellsC.eq_1 cellsV.eq_1 readC.eq_1 readA.eq_1 readA.eq_2 readOK.eq_1 readOK.eq_2 noLk.eq_1 noLk.eq_2 openG.eq_1 openG.eq_2 List.drop_zero Bool.and_false Option.isSome_some Option.isSome_none Bool.true_or Bool.or_true loadC storeC storeK_apply addrA compsA giveL giveW buildC fillA bsliceC boxW makeC newK_apply baseW srcW appendK1_apply appendK2_apply convC nilCheckW mmW retP.eq_1 retP.eq_2 retL retOne giveT giveTL routW packT Root.cells Root.with upd_apply St.of mkEnv mkRoots enum St.put T.cell T.flat true_and and_true List.map_cons List.map_nil List.length_cons List.length_nil Option.some.injEq forall_eq' List.lookup_nil Bool.not_true Bool.not_false decide_eq_true_eq decide_eq_false_iff_not ne_eq forall_const Bool.true_eq_false Bool.false_eq_true false_implies ite_true ite_false exists_eq_left' List.getElem?_cons_zero List.getElem?_cons_succ and_self List.getElem?_map Option.map_eq_some_iff forall_exists_index and_imp List.length_map Nat.mul_one Nat.div_one
end Go.Ab

/- The bridge, part 3: the types of the laws' arguments. -/
set_option linter.unusedSimpArgs false
set_option linter.unusedVariables false
namespace Go.Ab

def tyRows : Ty := .sl 1 (.sl 1 (.int .i64))
/-- All numbers fit. -/
def fits64 (l : List Int) : Prop := ∀ x ∈ l, -9223372036854775808 ≤ x ∧ x < 9223372036854775808
theorem wf64 {n : Int} (h : (Lit.int .i64 n).wf = true) : -9223372036854775808 ≤ n ∧ n < 9223372036854775808 := by
  simp [Lit.wf, IntKind.min, IntKind.max, IntKind.signed, IntKind.bits] at h
  omega
theorem flat_ints : ∀ {xs : List (List T)}, (∀ x ∈ xs, x.length = 1 ∧ (Ty.int .i64).wt x) → ∃ l : List Int, xs.flatten = l.map T.i ∧ l.length = xs.length ∧ fits64 l
  | [], _ => ⟨[], rfl, rfl, fun x hx => by simp at hx⟩
  | x :: xs, h => by
    obtain ⟨l, hl, hlen, hf⟩ := flat_ints (xs := xs) fun y hy => h y (by simp [hy])
    obtain ⟨_, n, rfl, hw⟩ := h x (by simp)
    refine ⟨n :: l, by simp [hl], by simp [hlen], fun y hy => ?_⟩
    rcases List.mem_cons.1 hy with rfl | hy
    · exact wf64 hw
    · exact hf y hy
theorem wt_ints {x : T} (h : (Ty.sl 1 (.int .i64)).wt [x]) : ∃ l : List Int, x = ints l ∧ l.length ≤ 9223372036854775807 ∧ fits64 l := by
  obtain ⟨xs, hx, hlen, hall⟩ := h
  obtain ⟨l, hl, hll, hf⟩ := flat_ints hall
  simp only [List.cons.injEq, and_true] at hx
  exact ⟨l, by rw [hx, hl]; rfl, by rw [hll]; exact hlen, hf⟩
theorem flat_rows : ∀ {xs : List (List T)}, (∀ x ∈ xs, x.length = 1 ∧ (Ty.sl 1 (.int .i64)).wt x) → ∃ m : List (List Int), xs.flatten = m.map ints ∧ m.length = xs.length ∧ ∀ r ∈ m, r.length ≤ 9223372036854775807 ∧ fits64 r
  | [], _ => ⟨[], rfl, rfl, by simp⟩
  | x :: xs, h => by
    obtain ⟨m, hm, hlen, hr⟩ := flat_rows (xs := xs) fun y hy => h y (by simp [hy])
    obtain ⟨h1, hw⟩ := h x (by simp)
    match x, h1 with
    | [y], _ =>
      obtain ⟨l, rfl, hl, hf⟩ := wt_ints hw
      refine ⟨l :: m, by simp [hm], by simp [hlen], fun r hr' => ?_⟩
      rcases List.mem_cons.1 hr' with rfl | h'
      · exact ⟨hl, hf⟩
      · exact hr r h'
theorem wt_rows {x : T} (h : tyRows.wt [x]) : ∃ m : List (List Int), x = rows m ∧ m.length ≤ 9223372036854775807 ∧ ∀ r ∈ m, r.length ≤ 9223372036854775807 ∧ fits64 r := by
  obtain ⟨xs, hx, hlen, hall⟩ := h
  obtain ⟨m, hm, hml, hr⟩ := flat_rows hall
  simp only [List.cons.injEq, and_true] at hx
  exact ⟨m, by rw [hx, hm]; rfl, by rw [hml]; exact hlen, hr⟩


def tyRat : Ty := .st (.cons (.int .i64) (.cons (.int .i64) .nil))
def tyRats : Ty := .sl 2 tyRat
theorem wt_rat {l : List T} (h : tyRat.wt l) : ∃ r : Int × Int, l = [T.i r.1, T.i r.2] ∧ fits64 [r.1, r.2] := by
  obtain ⟨l1, l2, rfl, ⟨n, rfl, hn⟩, l3, l4, rfl, ⟨d, rfl, hd⟩, rfl⟩ := h
  refine ⟨(n, d), rfl, fun x hx => ?_⟩
  rcases List.mem_cons.1 hx with rfl | hx
  · exact wf64 hn
  · rcases List.mem_cons.1 hx with rfl | hx
    · exact wf64 hd
    · cases hx
theorem flat_rats : ∀ {xs : List (List T)}, (∀ x ∈ xs, x.length = 2 ∧ tyRat.wt x) → ∃ l : List (Int × Int), xs.flatten = ratC l ∧ l.length = xs.length ∧ ∀ r ∈ l, fits64 [r.1, r.2]
  | [], _ => ⟨[], rfl, rfl, by simp⟩
  | x :: xs, h => by
    obtain ⟨l, hl, hlen, hf⟩ := flat_rats (xs := xs) fun y hy => h y (by simp [hy])
    obtain ⟨r, rfl, hr⟩ := wt_rat (h x (by simp)).2
    refine ⟨r :: l, by rw [List.flatten_cons, hl]; rfl, by simp [hlen], fun y hy => ?_⟩
    rcases List.mem_cons.1 hy with rfl | hy
    · exact hr
    · exact hf y hy
theorem wt_rats {x : T} (h : tyRats.wt [x]) : ∃ l : List (Int × Int), x = rats l ∧ l.length ≤ 9223372036854775807 ∧ ∀ r ∈ l, fits64 [r.1, r.2] := by
  obtain ⟨xs, hx, hlen, hall⟩ := h
  obtain ⟨l, hl, hll, hf⟩ := flat_rats hall
  simp only [List.cons.injEq, and_true] at hx
  exact ⟨l, by rw [hx, hl]; rfl, by rw [hll]; exact hlen, hf⟩
theorem wt_int {x : T} (h : (Ty.int .i64).wt [x]) : ∃ n : Int, x = T.i n ∧ -9223372036854775808 ≤ n ∧ n < 9223372036854775808 := by
  obtain ⟨n, hn, hw⟩ := h
  simp only [List.cons.injEq, and_true] at hn
  exact ⟨n, hn, wf64 hw⟩
end Go.Ab

/- The functions in compact form, printed by a program (CcDump.lean). -/
set_option linter.unusedVariables false
namespace Go.Ab
open Go.Proofs

@[go_sem] theorem cellAgg_49 : tyAgg Try.prog 49 = some true := by kernel_rfl
@[go_sem] theorem cellSize_49 : tySize Try.prog 49 = some 4 := by kernel_rfl
@[go_sem] theorem cellAgg_47 : tyAgg Try.prog 47 = some true := by kernel_rfl
@[go_sem] theorem cellSize_47 : tySize Try.prog 47 = some 2 := by kernel_rfl
@[go_sem] theorem cellAgg_24 : tyAgg Try.prog 24 = some false := by kernel_rfl
@[go_sem] theorem cellSize_24 : tySize Try.prog 24 = some 1 := by kernel_rfl
theorem tyOne : tySize Try.prog 0 = some 1 := by kernel_rfl

def c_laws_FnPartLists : CC :=
  (.seq (.reg [.o (.move 2 (cb false))])
  ((.seq (.seq (.reg [.o (.move 16 (sl 0)),
      .o (.call (some 17) (cf 16) [(sl 16)])])
   ((.cond (sl 17) (.seq (.reg [.o (.move 2 (cb true))])
    (.ret))
    .skip)))
  ((.seq (.reg [.o (.move 18 (sl 0)),
     .o (.call (some 19) (cf 17) [(sl 18)]),
     .o (.move 3 (sl 19))])
  ((.seq (.reg [.o (.move 21 (sl 3)),
     .o (.call (some 22) (cf 18) [(sl 21)]),
     .o (.move 20 (sl 22)),
     .o (.extract 23 (sl 20) 0),
     .o (.extract 24 (sl 20) 1),
     .o (.move 4 (sl 23)),
     .o (.move 5 (sl 24))])
  ((.seq (.reg [.o (.move 26 (sl 3)),
     .o (.call (some 27) (cf 19) [(sl 26)]),
     .o (.move 25 (sl 27)),
     .o (.extract 28 (sl 25) 0),
     .o (.extract 29 (sl 25) 1),
     .o (.move 6 (sl 28)),
     .o (.move 7 (sl 29))])
  ((.seq (.reg [.o (.move 30 (sl 0)),
     .o (.call (some 31) (cf 20) [(sl 30)]),
     .o (.move 8 (sl 31))])
  ((.seq (.reg [.o (.move 33 (sl 8)),
     .o (.call (some 34) (cf 21) [(sl 33)]),
     .o (.move 32 (sl 34)),
     .o (.extract 35 (sl 32) 0),
     .o (.extract 36 (sl 32) 1),
     .o (.move 9 (sl 35)),
     .o (.move 10 (sl 36))])
  ((.seq (.reg [.o (.move 38 (sl 8)),
     .o (.call (some 39) (cf 22) [(sl 38)]),
     .o (.move 37 (sl 39)),
     .o (.extract 40 (sl 37) 0),
     .o (.extract 41 (sl 37) 1),
     .o (.move 11 (sl 40)),
     .o (.move 12 (sl 41))])
  ((.seq (.seq (.reg [.o (.move 42 (sl 5)),
      .o (.move 43 (sl 7)),
      .o (.bin 44 .neq (sl 42) (sl 43)),
      .o (.move 45 (sl 44)),
      .g 45 false (some 46) (.move 46 (sl 4)),
      .g 45 false (some 47) (.move 47 (sl 6)),
      .g 45 false (some 48) (.call (some 48) (cf 23) [(sl 46), (sl 47)]),
      .g 45 false (some 49) (.un 49 .not (sl 48)),
      .o (.pick 50 (sl 45) (cb true) (sl 49)),
      .o (.move 51 (sl 50)),
      .g 51 false (some 52) (.move 52 (sl 10)),
      .g 51 false (some 53) (.move 53 (sl 12)),
      .g 51 false (some 54) (.bin 54 .neq (sl 52) (sl 53)),
      .o (.pick 55 (sl 51) (cb true) (sl 54)),
      .o (.move 56 (sl 55)),
      .g 56 false (some 57) (.move 57 (sl 9)),
      .g 56 false (some 58) (.move 58 (sl 11)),
      .g 56 false (some 59) (.call (some 59) (cf 23) [(sl 57), (sl 58)]),
      .g 56 false (some 60) (.un 60 .not (sl 59)),
      .o (.pick 61 (sl 56) (cb true) (sl 60))])
   ((.cond (sl 61) (.seq (.reg [.o (.move 2 (cb false))])
    (.ret))
    .skip)))
  ((.seq (.seq (.reg [.o (.move 62 (sl 10)),
      .o (.bin 63 .eql (sl 62) (ci 0))])
   ((.cond (sl 63) (.seq (.reg [.o (.move 13 (ci 0))])
    ((.block 0 (.loop (.seq (.seq (.reg [.o (.move 64 (sl 13)),
          .o (.move 65 (sl 9)),
          .o (.lenS 66 (sl 65)),
          .o (.bin 67 .lss (sl 64) (sl 66))])
       ((.cond (sl 67) .skip
        (.exit 0))))
      ((.seq (.block 1 (.seq (.draw [] [(kR, .o (.move 70 (sl 9))),
           (kR, .o (.move 71 (sl 13))),
           (kR, .o (.idx 72 1 (sl 70) (sl 71))),
           (kR, .o (.load1 73 (sl 72))),
           (kR, .o (.bin 74 .lss (sl 73) (ci 0))),
           (kR, .o (.move 75 (sl 74))),
           (kR, .g 75 false (some 76) (.move 76 (sl 9))),
           (kR, .g 75 false (some 77) (.move 77 (sl 13))),
           (kR, .g 75 false (some 78) (.idx 78 1 (sl 76) (sl 77))),
           (kR, .g 75 false (some 79) (.load1 79 (sl 78))),
           (kR, .g 75 false (some 80) (.bin 80 .gtr (sl 79) (ci 1000000000))),
           (kR, .o (.pick 81 (sl 75) (cb true) (sl 80))),
           (kR, .o (.move 82 (sl 81))),
           (kR, .g 82 false (some 83) (.move 83 (sl 9))),
           (kR, .g 82 false (some 84) (.move 84 (sl 13))),
           (kR, .g 82 false (some 85) (.idx 85 1 (sl 83) (sl 84))),
           (kR, .g 82 false (some 86) (.load1 86 (sl 85))),
           (kR, .g 82 false (some 87) (.move 87 (sl 8))),
           (kR, .g 82 false (some 88) (.move 88 (sl 13))),
           (kR, .g 82 false (some 89) (.idx 89 1 (sl 87) (sl 88))),
           (kR, .g 82 false (some 90) (.load1 90 (sl 89))),
           (kR, .g 82 false (some 91) (.bin 91 .gtr (sl 86) (sl 90))),
           (kR, .o (.pick 92 (sl 82) (cb true) (sl 91)))])
        ((.cond (sl 92) (.seq (.reg [.o (.move 2 (cb false))])
         (.ret))
         .skip))))
      ((.reg [.o (.move 68 (sl 13)),
        .o (.bin 69 .add (sl 68) (ci 1)),
        .o (.move 13 (sl 69))])))))))))
    .skip)))
  ((.seq (.seq (.reg [.o (.move 93 (sl 5)),
      .o (.bin 94 .neq (sl 93) (ci 0))])
   ((.cond (sl 94) (.seq (.reg [.o (.move 2 (cb true))])
    (.ret))
    .skip)))
  ((.seq (.reg [.o (.move 95 (sl 3)),
     .o (.call (some 96) (cf 24) [(sl 95)]),
     .o (.move 14 (sl 96))])
  ((.seq (.seq (.reg [.o (.move 15 (ci 0))])
   ((.block 2 (.loop (.seq (.seq (.reg [.o (.move 97 (sl 15)),
         .o (.move 98 (sl 4)),
         .o (.lenS 99 (sl 98)),
         .o (.bin 100 .lss (sl 97) (sl 99))])
      ((.cond (sl 100) .skip
       (.exit 2))))
     ((.seq (.block 3 (.seq (.draw [] [(kR, .o (.move 103 (sl 14))),
          (kR, .o (.bin 104 .gtr (sl 103) (ci 0))),
          (kR, .o (.move 105 (sl 104))),
          (kR, .g 105 true (some 106) (.move 106 (sl 4))),
          (kR, .g 105 true (some 107) (.move 107 (sl 15))),
          (kR, .g 105 true (some 108) (.idx 108 1 (sl 106) (sl 107))),
          (kR, .g 105 true (some 109) (.load1 109 (sl 108))),
          (kR, .g 105 true (some 110) (.move 110 (sl 14))),
          (kR, .g 105 true (some 111) (.bin 111 .mul (sl 109) (sl 110))),
          (kR, .g 105 true (some 112) (.move 112 (sl 3))),
          (kR, .g 105 true (some 113) (.move 113 (sl 15))),
          (kR, .g 105 true (some 114) (.idx 114 1 (sl 112) (sl 113))),
          (kR, .g 105 true (some 115) (.load1 115 (sl 114))),
          (kR, .g 105 true (some 116) (.bin 116 .mul (ci 60) (sl 115))),
          (kR, .g 105 true (some 117) (.move 117 (sl 14))),
          (kR, .g 105 true (some 118) (.bin 118 .sub (sl 116) (sl 117))),
          (kR, .g 105 true (some 119) (.bin 119 .leq (sl 111) (sl 118))),
          (kR, .g 105 true (some 120) (.move 120 (sl 119))),
          (kR, .g 120 false (some 121) (.move 121 (sl 4))),
          (kR, .g 120 false (some 122) (.move 122 (sl 15))),
          (kR, .g 120 false (some 123) (.idx 123 1 (sl 121) (sl 122))),
          (kR, .g 120 false (some 124) (.load1 124 (sl 123))),
          (kR, .g 120 false (some 125) (.move 125 (sl 14))),
          (kR, .g 120 false (some 126) (.bin 126 .mul (sl 124) (sl 125))),
          (kR, .g 120 false (some 127) (.move 127 (sl 3))),
          (kR, .g 120 false (some 128) (.move 128 (sl 15))),
          (kR, .g 120 false (some 129) (.idx 129 1 (sl 127) (sl 128))),
          (kR, .g 120 false (some 130) (.load1 130 (sl 129))),
          (kR, .g 120 false (some 131) (.bin 131 .mul (ci 60) (sl 130))),
          (kR, .g 120 false (some 132) (.move 132 (sl 14))),
          (kR, .g 120 false (some 133) (.bin 133 .add (sl 131) (sl 132))),
          (kR, .g 120 false (some 134) (.bin 134 .geq (sl 126) (sl 133))),
          (kR, .g 105 true (some 135) (.pick 135 (sl 120) (cb true) (sl 134))),
          (kR, .o (.pick 136 (sl 105) (sl 135) (cb false)))])
       ((.cond (sl 136) (.seq (.reg [.o (.move 2 (cb false))])
        (.ret))
        .skip))))
     ((.reg [.o (.move 101 (sl 15)),
       .o (.bin 102 .add (sl 101) (ci 1)),
       .o (.move 15 (sl 102))])))))))))
  ((.seq (.reg [.o (.move 137 (sl 4)),
     .o (.call (some 138) (cf 24) [(sl 137)]),
     .o (.bin 139 .eql (sl 138) (ci 60)),
     .o (.move 2 (sl 139))])
  (.ret))))))))))))))))))))))))))))
theorem fun_laws_FnPartLists {rin : List T} {args : List A} {Q : List T → T → Prop} (ha : args.length ≤ 140) (h : cW Try.prog 140 c_laws_FnPartLists (retP Try.prog [.tmp 2] rin.length Q) (St.of (enum 0 args) (enum 1000000000 rin))) :
    Fun Try.prog 3 rin args Q :=
  Fun.of Try.func3 rfl rfl rfl (by kernel_rfl) ha (by decide) h

def c_laws_big : CC :=
  (.seq (.reg [.o (.move 2 (cb false))])
  ((.seq (.reg [.o (.move 3 (sl 0)),
     .o (.lenS 4 (sl 3)),
     .o (.bin 5 .gtr (sl 4) (ci 4096)),
     .o (.move 2 (sl 5))])
  (.ret))))
theorem fun_laws_big {rin : List T} {args : List A} {Q : List T → T → Prop} (ha : args.length ≤ 6) (h : cW Try.prog 6 c_laws_big (retP Try.prog [.tmp 2] rin.length Q) (St.of (enum 0 args) (enum 1000000000 rin))) :
    Fun Try.prog 16 rin args Q :=
  Fun.of Try.func16 rfl rfl rfl (by kernel_rfl) ha (by decide) h

def c_spec_DrawPartsOf : CC :=
  (.seq (.reg [.o (.move 2 (cv (.slice none 0 0)))])
  ((.seq (.reg [.o (.move 6 (sl 0)),
     .o (.call (some 7) (cf 94) [(sl 6)]),
     .o (.move 3 (sl 7))])
  ((.seq (.reg [.o (.bslice 8 1 0 []),
     .o (.move 4 (sl 8))])
  ((.seq (.seq (.reg [.o (.move 9 (sl 3)),
      .o (.call (some 10) (cf 95) [(sl 9), (ci 4)]),
      .o (.bin 11 .add (ci 1) (sl 10)),
      .o (.move 5 (sl 11))])
   ((.block 0 (.loop (.seq (.seq (.reg [.o (.move 12 (sl 5)),
         .o (.bin 13 .gtr (sl 12) (ci 0))])
      ((.cond (sl 13) .skip
       (.exit 0))))
     ((.seq (.block 1 (.reg [.o (.move 16 (sl 4)),
         .o (.move 17 (sl 3)),
         .o (.move 18 (sl 3)),
         .o (.call (some 19) (cf 95) [(sl 18), (ci 100)]),
         .o (.bslice 20 1 5 [(0, (ci 0)), (1, (ci 1)), (2, (ci 1)), (3, (sl 19)), (4, (ci 1000000000))]),
         .o (.call (some 21) (cf 96) [(sl 17), (sl 20)]),
         .o (.bslice 22 1 1 [(0, (sl 21))]),
         .o (.app 23 1 8 (sl 16) (sl 22)),
         .o (.move 4 (sl 23))]))
     ((.reg [.o (.move 14 (sl 5)),
       .o (.bin 15 .sub (sl 14) (ci 1)),
       .o (.move 5 (sl 15))])))))))))
  ((.seq (.seq (.reg [.o (.move 24 (sl 3)),
      .o (.call (some 25) (cf 95) [(sl 24), (ci 16)])])
   ((.block 2 (.seq (.reg [.o (.bin 27 .eql (sl 25) (ci 0)),
       .o (.move 26 (sl 27))])
    ((.cond (sl 26) (.reg [.o (.move 28 (sl 4)),
       .o (.move 29 (sl 3)),
       .o (.bslice 30 1 2 [(0, (ci (-1))), (1, (ci 1000000001))]),
       .o (.call (some 31) (cf 96) [(sl 29), (sl 30)]),
       .o (.idx 32 1 (sl 28) (ci 0)),
       .o (.store 1 (sl 32) (sl 31))])
     (.seq (.reg [.o (.bin 34 .eql (sl 25) (ci 1)),
        .o (.move 33 (sl 34))])
     ((.cond (sl 33) (.seq (.reg [.o (.move 35 (sl 4)),
         .o (.bslice 36 1 4 [(0, (ci 1)), (1, (ci 1)), (2, (ci 1)), (3, (ci 1))]),
         .o (.app 37 1 8 (sl 35) (sl 36)),
         .o (.move 2 (sl 37))])
      (.ret))
      (.seq (.reg [.o (.bin 39 .eql (sl 25) (ci 2)),
         .o (.move 38 (sl 39))])
      ((.cond (sl 38) (.seq (.reg [.o (.move 2 (cv (.slice none 0 0)))])
       (.ret))
       .skip))))))))))))
  ((.seq (.reg [.o (.move 40 (sl 4)),
     .o (.move 2 (sl 40))])
  (.ret))))))))))))
theorem fun_spec_DrawPartsOf {rin : List T} {args : List A} {Q : List T → T → Prop} (ha : args.length ≤ 41) (h : cW Try.prog 41 c_spec_DrawPartsOf (retP Try.prog [.tmp 2] rin.length Q) (St.of (enum 0 args) (enum 1000000000 rin))) :
    Fun Try.prog 17 rin args Q :=
  Fun.of Try.func17 rfl rfl rfl (by kernel_rfl) ha (by decide) h

def c_impl_PartsOf : CC :=
  (.seq (.reg [.o (.move 2 (cv (.slice none 0 0))),
     .o (.move 3 (ci 0))])
  ((.seq (.seq (.reg [.o (.move 4 (sl 0)),
      .o (.lenS 5 (sl 4)),
      .o (.call (some 6) (cf 97) [(sl 5), (ci 1), (ci 4)]),
      .o (.un 7 .not (sl 6)),
      .o (.move 8 (sl 7)),
      .g 8 false (some 9) (.move 9 (sl 0)),
      .g 8 false (some 10) (.call (some 10) (cf 98) [(sl 9), (ci 0), (ci 1000000000)]),
      .g 8 false (some 11) (.un 11 .not (sl 10)),
      .o (.pick 12 (sl 8) (cb true) (sl 11))])
   ((.cond (sl 12) (.seq (.reg [.o (.move 2 (cv (.slice none 0 0))),
       .o (.move 3 (ci 2))])
    (.ret))
    .skip)))
  ((.seq (.reg [.o (.move 13 (sl 0)),
     .o (.call (some 14) (cf 99) [(sl 13)]),
     .o (.move 2 (sl 14)),
     .o (.move 3 (ci 0))])
  (.ret))))))
theorem fun_impl_PartsOf {rin : List T} {args : List A} {Q : List T → T → Prop} (ha : args.length ≤ 15) (h : cW Try.prog 15 c_impl_PartsOf (retP Try.prog [.tmp 2, .tmp 3] rin.length Q) (St.of (enum 0 args) (enum 1000000000 rin))) :
    Fun Try.prog 18 rin args Q :=
  Fun.of Try.func18 rfl rfl rfl (by kernel_rfl) ha (by decide) h

def c_spec_PartsOf : CC :=
  (.seq (.reg [.o (.move 2 (cv (.slice none 0 0))),
     .o (.move 3 (ci 0))])
  ((.seq (.seq (.reg [.o (.move 4 (ci 0))])
   ((.block 0 (.loop (.seq (.seq (.reg [.o (.move 5 (sl 4)),
         .o (.move 6 (sl 0)),
         .o (.lenS 7 (sl 6)),
         .o (.bin 8 .lss (sl 5) (sl 7))])
      ((.cond (sl 8) .skip
       (.exit 0))))
     ((.seq (.block 1 (.seq (.reg [.o (.move 11 (sl 0)),
          .o (.move 12 (sl 4)),
          .o (.idx 13 1 (sl 11) (sl 12)),
          .o (.load1 14 (sl 13)),
          .o (.call (some 15) (cf 100) [(sl 14), (ci 0), (ci 1000000000)]),
          .o (.un 16 .not (sl 15))])
       ((.cond (sl 16) (.seq (.reg [.o (.move 2 (cv (.slice none 0 0))),
           .o (.move 3 (ci 2))])
        (.ret))
        .skip))))
     ((.reg [.o (.move 9 (sl 4)),
       .o (.bin 10 .add (sl 9) (ci 1)),
       .o (.move 4 (sl 10))])))))))))
  ((.seq (.seq (.reg [.o (.move 17 (sl 0)),
      .o (.lenS 18 (sl 17)),
      .o (.call (some 19) (cf 100) [(sl 18), (ci 1), (ci 4)]),
      .o (.un 20 .not (sl 19))])
   ((.cond (sl 20) (.seq (.reg [.o (.move 2 (cv (.slice none 0 0))),
       .o (.move 3 (ci 2))])
    (.ret))
    .skip)))
  ((.seq (.reg [.o (.move 21 (sl 0)),
     .o (.call (some 22) (cf 101) [(sl 21)]),
     .o (.move 2 (sl 22)),
     .o (.move 3 (ci 0))])
  (.ret))))))))
theorem fun_spec_PartsOf {rin : List T} {args : List A} {Q : List T → T → Prop} (ha : args.length ≤ 23) (h : cW Try.prog 23 c_spec_PartsOf (retP Try.prog [.tmp 2, .tmp 3] rin.length Q) (St.of (enum 0 args) (enum 1000000000 rin))) :
    Fun Try.prog 19 rin args Q :=
  Fun.of Try.func19 rfl rfl rfl (by kernel_rfl) ha (by decide) h

def c_spec_DrawHalvedWeights : CC :=
  (.seq (.reg [.o (.move 2 (cv (.slice none 0 0)))])
  ((.seq (.reg [.o (.move 6 (sl 0)),
     .o (.call (some 7) (cf 94) [(sl 6)]),
     .o (.move 3 (sl 7))])
  ((.seq (.reg [.o (.bslice 8 1 0 []),
     .o (.move 4 (sl 8))])
  ((.seq (.seq (.reg [.o (.move 9 (sl 3)),
      .o (.call (some 10) (cf 95) [(sl 9), (ci 4)]),
      .o (.bin 11 .add (ci 1) (sl 10)),
      .o (.move 5 (sl 11))])
   ((.block 0 (.loop (.seq (.seq (.reg [.o (.move 12 (sl 5)),
         .o (.bin 13 .gtr (sl 12) (ci 0))])
      ((.cond (sl 13) .skip
       (.exit 0))))
     ((.seq (.block 1 (.reg [.o (.move 16 (sl 4)),
         .o (.move 17 (sl 3)),
         .o (.move 18 (sl 3)),
         .o (.call (some 19) (cf 95) [(sl 18), (ci 1000)]),
         .o (.bin 20 .mul (ci 5000000000) (sl 19)),
         .o (.move 21 (sl 3)),
         .o (.call (some 22) (cf 95) [(sl 21), (ci 100)]),
         .o (.bslice 23 1 7 [(0, (ci 0)), (1, (ci 1)), (2, (ci 1000000000)), (3, (ci 1000000001)), (4, (sl 20)), (5, (sl 22)), (6, (ci 9223372036854775807))]),
         .o (.call (some 24) (cf 96) [(sl 17), (sl 23)]),
         .o (.bslice 25 1 1 [(0, (sl 24))]),
         .o (.app 26 1 8 (sl 16) (sl 25)),
         .o (.move 4 (sl 26))]))
     ((.reg [.o (.move 14 (sl 5)),
       .o (.bin 15 .sub (sl 14) (ci 1)),
       .o (.move 5 (sl 15))])))))))))
  ((.seq (.seq (.reg [.o (.move 27 (sl 3)),
      .o (.call (some 28) (cf 95) [(sl 27), (ci 16)])])
   ((.block 2 (.seq (.reg [.o (.bin 30 .eql (sl 28) (ci 0)),
       .o (.move 29 (sl 30))])
    ((.cond (sl 29) (.reg [.o (.move 31 (sl 4)),
       .o (.idx 32 1 (sl 31) (ci 0)),
       .o (.store 1 (sl 32) (ci (-1)))])
     (.seq (.reg [.o (.bin 34 .eql (sl 28) (ci 1)),
        .o (.move 33 (sl 34))])
     ((.cond (sl 33) (.seq (.reg [.o (.move 35 (sl 4)),
         .o (.bslice 36 1 4 [(0, (ci 1)), (1, (ci 1)), (2, (ci 1)), (3, (ci 1))]),
         .o (.app 37 1 8 (sl 35) (sl 36)),
         .o (.move 2 (sl 37))])
      (.ret))
      (.seq (.reg [.o (.bin 39 .eql (sl 28) (ci 2)),
         .o (.move 38 (sl 39))])
      ((.cond (sl 38) (.seq (.reg [.o (.move 2 (cv (.slice none 0 0)))])
       (.ret))
       .skip))))))))))))
  ((.seq (.reg [.o (.move 40 (sl 4)),
     .o (.move 2 (sl 40))])
  (.ret))))))))))))
theorem fun_spec_DrawHalvedWeights {rin : List T} {args : List A} {Q : List T → T → Prop} (ha : args.length ≤ 41) (h : cW Try.prog 41 c_spec_DrawHalvedWeights (retP Try.prog [.tmp 2] rin.length Q) (St.of (enum 0 args) (enum 1000000000 rin))) :
    Fun Try.prog 20 rin args Q :=
  Fun.of Try.func20 rfl rfl rfl (by kernel_rfl) ha (by decide) h

def c_impl_HalvedWeights : CC :=
  (.seq (.reg [.o (.move 2 (cv (.slice none 0 0))),
     .o (.move 3 (ci 0))])
  ((.seq (.seq (.reg [.o (.move 4 (sl 0)),
      .o (.lenS 5 (sl 4)),
      .o (.call (some 6) (cf 97) [(sl 5), (ci 1), (ci 4)]),
      .o (.un 7 .not (sl 6)),
      .o (.move 8 (sl 7)),
      .g 8 false (some 9) (.move 9 (sl 0)),
      .g 8 false (some 10) (.call (some 10) (cf 102) [(sl 9)]),
      .g 8 false (some 11) (.bin 11 .lss (sl 10) (ci 0)),
      .o (.pick 12 (sl 8) (cb true) (sl 11))])
   ((.cond (sl 12) (.seq (.reg [.o (.move 2 (cv (.slice none 0 0))),
       .o (.move 3 (ci 2))])
    (.ret))
    .skip)))
  ((.seq (.reg [.o (.move 13 (sl 0)),
     .o (.call (some 14) (cf 103) [(sl 13)]),
     .o (.move 2 (sl 14)),
     .o (.move 3 (ci 0))])
  (.ret))))))
theorem fun_impl_HalvedWeights {rin : List T} {args : List A} {Q : List T → T → Prop} (ha : args.length ≤ 15) (h : cW Try.prog 15 c_impl_HalvedWeights (retP Try.prog [.tmp 2, .tmp 3] rin.length Q) (St.of (enum 0 args) (enum 1000000000 rin))) :
    Fun Try.prog 21 rin args Q :=
  Fun.of Try.func21 rfl rfl rfl (by kernel_rfl) ha (by decide) h

def c_spec_HalvedWeights : CC :=
  (.seq (.reg [.o (.move 2 (cv (.slice none 0 0))),
     .o (.move 3 (ci 0))])
  ((.seq (.seq (.reg [.o (.move 4 (ci 0))])
   ((.block 0 (.loop (.seq (.seq (.reg [.o (.move 5 (sl 4)),
         .o (.move 6 (sl 0)),
         .o (.lenS 7 (sl 6)),
         .o (.bin 8 .lss (sl 5) (sl 7))])
      ((.cond (sl 8) .skip
       (.exit 0))))
     ((.seq (.block 1 (.seq (.reg [.o (.move 11 (sl 0)),
          .o (.move 12 (sl 4)),
          .o (.idx 13 1 (sl 11) (sl 12)),
          .o (.load1 14 (sl 13)),
          .o (.bin 15 .lss (sl 14) (ci 0))])
       ((.cond (sl 15) (.seq (.reg [.o (.move 2 (cv (.slice none 0 0))),
           .o (.move 3 (ci 2))])
        (.ret))
        .skip))))
     ((.reg [.o (.move 9 (sl 4)),
       .o (.bin 10 .add (sl 9) (ci 1)),
       .o (.move 4 (sl 10))])))))))))
  ((.seq (.seq (.reg [.o (.move 16 (sl 0)),
      .o (.lenS 17 (sl 16)),
      .o (.call (some 18) (cf 100) [(sl 17), (ci 1), (ci 4)]),
      .o (.un 19 .not (sl 18))])
   ((.cond (sl 19) (.seq (.reg [.o (.move 2 (cv (.slice none 0 0))),
       .o (.move 3 (ci 2))])
    (.ret))
    .skip)))
  ((.seq (.reg [.o (.move 20 (sl 0)),
     .o (.call (some 21) (cf 104) [(sl 20)]),
     .o (.move 2 (sl 21)),
     .o (.move 3 (ci 0))])
  (.ret))))))))
theorem fun_spec_HalvedWeights {rin : List T} {args : List A} {Q : List T → T → Prop} (ha : args.length ≤ 22) (h : cW Try.prog 22 c_spec_HalvedWeights (retP Try.prog [.tmp 2, .tmp 3] rin.length Q) (St.of (enum 0 args) (enum 1000000000 rin))) :
    Fun Try.prog 22 rin args Q :=
  Fun.of Try.func22 rfl rfl rfl (by kernel_rfl) ha (by decide) h

def c_laws_likeInts : CC :=
  (.seq (.reg [.o (.move 4 (cb false))])
  ((.seq (.seq (.reg [.o (.move 6 (sl 0)),
      .o (.lenS 7 (sl 6)),
      .o (.move 8 (sl 1)),
      .o (.lenS 9 (sl 8)),
      .o (.bin 10 .neq (sl 7) (sl 9))])
   ((.cond (sl 10) (.seq (.reg [.o (.move 4 (cb false))])
    (.ret))
    .skip)))
  ((.seq (.seq (.reg [.o (.move 5 (ci 0))])
   ((.block 0 (.loop (.seq (.seq (.reg [.o (.move 11 (sl 5)),
         .o (.move 12 (sl 0)),
         .o (.lenS 13 (sl 12)),
         .o (.bin 14 .lss (sl 11) (sl 13))])
      ((.cond (sl 14) .skip
       (.exit 0))))
     ((.seq (.block 1 (.seq (.draw [] [(kR, .o (.move 17 (sl 0))),
          (kR, .o (.move 18 (sl 5))),
          (kR, .o (.idx 19 1 (sl 17) (sl 18))),
          (kR, .o (.load1 20 (sl 19))),
          (kR, .o (.move 21 (sl 1))),
          (kR, .o (.move 22 (sl 5))),
          (kR, .o (.idx 23 1 (sl 21) (sl 22))),
          (kR, .o (.load1 24 (sl 23))),
          (kR, .o (.bin 25 .neq (sl 20) (sl 24)))])
       ((.cond (sl 25) (.seq (.reg [.o (.move 4 (cb false))])
        (.ret))
        .skip))))
     ((.reg [.o (.move 15 (sl 5)),
       .o (.bin 16 .add (sl 15) (ci 1)),
       .o (.move 5 (sl 16))])))))))))
  ((.seq (.reg [.o (.move 4 (cb true))])
  (.ret))))))))
theorem fun_laws_likeInts {rin : List T} {args : List A} {Q : List T → T → Prop} (ha : args.length ≤ 26) (h : cW Try.prog 26 c_laws_likeInts (retP Try.prog [.tmp 4] rin.length Q) (St.of (enum 0 args) (enum 1000000000 rin))) :
    Fun Try.prog 23 rin args Q :=
  Fun.of Try.func23 rfl rfl rfl (by kernel_rfl) ha (by decide) h

def c_laws_sum : CC :=
  (.seq (.reg [.o (.move 2 (ci 0))])
  ((.seq (.reg [.o (.move 3 (ci 0))])
  ((.seq (.seq (.reg [.o (.move 4 (ci 0))])
   ((.block 0 (.loop (.seq (.seq (.reg [.o (.move 5 (sl 4)),
         .o (.move 6 (sl 0)),
         .o (.lenS 7 (sl 6)),
         .o (.bin 8 .lss (sl 5) (sl 7))])
      ((.cond (sl 8) .skip
       (.exit 0))))
     ((.seq (.block 1 (.reg [.o (.move 11 (sl 3)),
         .o (.move 12 (sl 0)),
         .o (.move 13 (sl 4)),
         .o (.idx 14 1 (sl 12) (sl 13)),
         .o (.load1 15 (sl 14)),
         .o (.bin 16 .add (sl 11) (sl 15)),
         .o (.move 3 (sl 16))]))
     ((.reg [.o (.move 9 (sl 4)),
       .o (.bin 10 .add (sl 9) (ci 1)),
       .o (.move 4 (sl 10))])))))))))
  ((.seq (.reg [.o (.move 17 (sl 3)),
     .o (.move 2 (sl 17))])
  (.ret))))))))
theorem fun_laws_sum {rin : List T} {args : List A} {Q : List T → T → Prop} (ha : args.length ≤ 18) (h : cW Try.prog 18 c_laws_sum (retP Try.prog [.tmp 2] rin.length Q) (St.of (enum 0 args) (enum 1000000000 rin))) :
    Fun Try.prog 24 rin args Q :=
  Fun.of Try.func24 rfl rfl rfl (by kernel_rfl) ha (by decide) h

def c_spec_l01From : CC :=
  (.seq (.reg [.o (.move 2 (cv (.pointer none)))])
  ((.seq (.reg [.o (.move 5 (sl 0)),
     .o (.build 6 [.v (.slice none 0 0), .v (.int .i64 0), .v (.int .i64 0)] [(0, 1), (1, 1), (2, 1)] [(0, (sl 5)), (2, (ci 45007))]),
     .o (.box 7 (sl 6)),
     .o (.move 3 (sl 7))])
  ((.seq (.seq (.reg [.o (.move 4 (ci 0))])
   ((.block 0 (.loop (.seq (.seq (.reg [.o (.move 8 (sl 4)),
         .o (.move 9 (sl 0)),
         .o (.lenS 10 (sl 9)),
         .o (.bin 11 .lss (sl 8) (sl 10)),
         .o (.move 12 (sl 11)),
         .g 12 true (some 13) (.move 13 (sl 4)),
         .g 12 true (some 14) (.bin 14 .lss (sl 13) (ci 64)),
         .o (.pick 15 (sl 12) (sl 14) (cb false))])
      ((.cond (sl 15) .skip
       (.exit 0))))
     ((.seq (.block 1 (.draw [] [(kR, .o (.move 18 (sl 3))),
         (kR, .o (.move 19 (sl 3))),
         (kR, .o (.nilc 20 (sl 19))),
         (kR, .o (.fld 21 2 (sl 20))),
         (kR, .o (.load1 22 (sl 21))),
         (kR, .o (.bin 23 .mul (sl 22) (ci 61))),
         (kR, .o (.move 24 (sl 0))),
         (kR, .o (.move 25 (sl 4))),
         (kR, .o (.idx 26 1 (sl 24) (sl 25))),
         (kR, .o (.load1 27 (sl 26))),
         (kR, .o (.conv 28 .i64 (sl 27))),
         (kR, .o (.bin 29 .add (sl 23) (sl 28))),
         (kR, .o (.bin 30 .rem (sl 29) (ci 2147483647))),
         (kR, .o (.nilc 31 (sl 18))),
         (kR, .o (.fld 32 2 (sl 31))),
         (kH, .o (.store 1 (sl 32) (sl 30)))]))
     ((.reg [.o (.move 16 (sl 4)),
       .o (.bin 17 .add (sl 16) (ci 1)),
       .o (.move 4 (sl 17))])))))))))
  ((.seq (.reg [.o (.move 33 (sl 3)),
     .o (.move 2 (sl 33))])
  (.ret))))))))
theorem fun_spec_l01From {rin : List T} {args : List A} {Q : List T → T → Prop} (ha : args.length ≤ 34) (h : cW Try.prog 34 c_spec_l01From (retP Try.prog [.tmp 2] rin.length Q) (St.of (enum 0 args) (enum 1000000000 rin))) :
    Fun Try.prog 94 rin args Q :=
  Fun.of Try.func94 rfl rfl rfl (by kernel_rfl) ha (by decide) h

def c_spec_l01Next : CC :=
  (.seq (.reg [.o (.move 4 (ci 0))])
  ((.seq (.seq (.reg [.o (.move 6 (sl 1)),
      .o (.bin 7 .leq (sl 6) (ci 1))])
   ((.cond (sl 7) (.seq (.reg [.o (.move 4 (ci 0))])
    (.ret))
    .skip)))
  ((.seq (.reg [.o (.move 8 (sl 0)),
     .o (.move 9 (sl 0)),
     .o (.nilc 10 (sl 9)),
     .o (.fld 11 2 (sl 10)),
     .o (.load1 12 (sl 11)),
     .o (.bin 13 .mul (sl 12) (ci 48271)),
     .o (.bin 14 .add (sl 13) (ci 29)),
     .o (.bin 15 .rem (sl 14) (ci 2147483647)),
     .o (.nilc 16 (sl 8)),
     .o (.fld 17 2 (sl 16)),
     .o (.store 1 (sl 17) (sl 15))])
  ((.seq (.reg [.o (.move 18 (sl 0)),
     .o (.nilc 19 (sl 18)),
     .o (.fld 20 2 (sl 19)),
     .o (.load1 21 (sl 20)),
     .o (.bin 22 .quo (sl 21) (ci 31)),
     .o (.move 5 (sl 22))])
  ((.seq (.seq (.draw [] [(kR, .o (.move 23 (sl 0))),
      (kR, .o (.nilc 24 (sl 23))),
      (kR, .o (.fld 25 1 (sl 24))),
      (kR, .o (.load1 26 (sl 25))),
      (kR, .o (.move 27 (sl 0))),
      (kR, .o (.nilc 28 (sl 27))),
      (kR, .o (.fld 29 0 (sl 28))),
      (kR, .o (.load1 30 (sl 29))),
      (kR, .o (.lenS 31 (sl 30))),
      (kR, .o (.bin 32 .lss (sl 26) (sl 31)))])
   ((.cond (sl 32) (.seq (.draw [] [(kR, .o (.move 33 (sl 5))),
       (kR, .o (.move 34 (sl 0))),
       (kR, .o (.nilc 35 (sl 34))),
       (kR, .o (.fld 36 0 (sl 35))),
       (kR, .o (.load1 37 (sl 36))),
       (kR, .o (.move 38 (sl 0))),
       (kR, .o (.nilc 39 (sl 38))),
       (kR, .o (.fld 40 1 (sl 39))),
       (kR, .o (.load1 41 (sl 40))),
       (kR, .o (.idx 42 1 (sl 37) (sl 41))),
       (kR, .o (.load1 43 (sl 42))),
       (kR, .o (.conv 44 .i64 (sl 43))),
       (kR, .o (.bin 45 .add (sl 33) (sl 44))),
       (kR, .o (.move 5 (sl 45)))])
    ((.seq (.reg [.o (.move 46 (sl 0)),
       .o (.nilc 47 (sl 46)),
       .o (.fld 48 1 (sl 47)),
       .o (.load1 49 (sl 48)),
       .o (.bin 50 .add (sl 49) (ci 1)),
       .o (.nilc 51 (sl 46)),
       .o (.fld 52 1 (sl 51)),
       .o (.store 1 (sl 52) (sl 50))])
    ((.seq (.reg [.o (.move 53 (sl 1)),
       .o (.bin 54 .leq (sl 53) (ci 256)),
       .o (.move 55 (sl 54)),
       .g 55 true (some 56) (.move 56 (sl 0)),
       .g 55 true (some 57) (.nilc 57 (sl 56)),
       .g 55 true (some 58) (.fld 58 1 (sl 57)),
       .g 55 true (some 59) (.load1 59 (sl 58)),
       .g 55 true (some 60) (.bin 60 .rem (sl 59) (ci 2)),
       .g 55 true (some 61) (.bin 61 .eql (sl 60) (ci 0)),
       .o (.pick 62 (sl 55) (sl 61) (cb false))])
    ((.cond (sl 62) (.draw [] [(kR, .o (.move 63 (sl 0))),
       (kR, .o (.nilc 64 (sl 63))),
       (kR, .o (.fld 65 0 (sl 64))),
       (kR, .o (.load1 66 (sl 65))),
       (kR, .o (.move 67 (sl 0))),
       (kR, .o (.nilc 68 (sl 67))),
       (kR, .o (.fld 69 1 (sl 68))),
       (kR, .o (.load1 70 (sl 69))),
       (kR, .o (.bin 71 .sub (sl 70) (ci 1))),
       (kR, .o (.idx 72 1 (sl 66) (sl 71))),
       (kR, .o (.load1 73 (sl 72))),
       (kR, .o (.conv 74 .i64 (sl 73))),
       (kR, .o (.move 5 (sl 74)))])
     .skip)))))))
    .skip)))
  ((.seq (.reg [.o (.move 75 (sl 5)),
     .o (.move 76 (sl 1)),
     .o (.bin 77 .rem (sl 75) (sl 76)),
     .o (.move 4 (sl 77))])
  (.ret))))))))))))
theorem fun_spec_l01Next {rin : List T} {args : List A} {Q : List T → T → Prop} (ha : args.length ≤ 78) (h : cW Try.prog 78 c_spec_l01Next (retP Try.prog [.tmp 4] rin.length Q) (St.of (enum 0 args) (enum 1000000000 rin))) :
    Fun Try.prog 95 rin args Q :=
  Fun.of Try.func95 rfl rfl rfl (by kernel_rfl) ha (by decide) h

def c_spec_l01Pick : CC :=
  (.seq (.reg [.o (.move 4 (ci 0))])
  ((.seq (.reg [.o (.move 5 (sl 1)),
     .o (.move 6 (sl 0)),
     .o (.move 7 (sl 1)),
     .o (.lenS 8 (sl 7)),
     .o (.call (some 9) (cf 95) [(sl 6), (sl 8)]),
     .o (.idx 10 1 (sl 5) (sl 9)),
     .o (.load1 11 (sl 10)),
     .o (.move 4 (sl 11))])
  (.ret))))
theorem fun_spec_l01Pick {rin : List T} {args : List A} {Q : List T → T → Prop} (ha : args.length ≤ 12) (h : cW Try.prog 12 c_spec_l01Pick (retP Try.prog [.tmp 4] rin.length Q) (St.of (enum 0 args) (enum 1000000000 rin))) :
    Fun Try.prog 96 rin args Q :=
  Fun.of Try.func96 rfl rfl rfl (by kernel_rfl) ha (by decide) h

def c_impl_within : CC :=
  (.seq (.reg [.o (.move 6 (cb false))])
  ((.seq (.reg [.o (.move 7 (sl 0)),
     .o (.move 8 (sl 1)),
     .o (.bin 9 .geq (sl 7) (sl 8)),
     .o (.move 10 (sl 9)),
     .g 10 true (some 11) (.move 11 (sl 0)),
     .g 10 true (some 12) (.move 12 (sl 2)),
     .g 10 true (some 13) (.bin 13 .leq (sl 11) (sl 12)),
     .o (.pick 14 (sl 10) (sl 13) (cb false)),
     .o (.move 6 (sl 14))])
  (.ret))))
theorem fun_impl_within {rin : List T} {args : List A} {Q : List T → T → Prop} (ha : args.length ≤ 15) (h : cW Try.prog 15 c_impl_within (retP Try.prog [.tmp 6] rin.length Q) (St.of (enum 0 args) (enum 1000000000 rin))) :
    Fun Try.prog 97 rin args Q :=
  Fun.of Try.func97 rfl rfl rfl (by kernel_rfl) ha (by decide) h

def c_impl_allWithin : CC :=
  (.seq (.reg [.o (.move 6 (cb false))])
  ((.seq (.seq (.reg [.o (.move 9 (sl 0)),
      .o (.lenS 10 (sl 9)),
      .o (.move 11 (ci 0))])
   ((.block 0 (.loop (.seq (.reg [.o (.bin 12 .lss (sl 11) (sl 10))])
     ((.seq (.cond (sl 12) .skip
       (.exit 0))
     ((.seq (.block 1 (.seq (.reg [.o (.idx 13 1 (sl 9) (sl 11)),
          .o (.load1 14 (sl 13)),
          .o (.move 8 (sl 14))])
       ((.seq (.reg [.o (.move 15 (sl 8)),
          .o (.move 16 (sl 1)),
          .o (.move 17 (sl 2)),
          .o (.call (some 18) (cf 97) [(sl 15), (sl 16), (sl 17)]),
          .o (.un 19 .not (sl 18))])
       ((.cond (sl 19) (.seq (.reg [.o (.move 6 (cb false))])
        (.ret))
        .skip))))))
     ((.reg [.o (.bin 20 .add (sl 11) (ci 1)),
       .o (.move 11 (sl 20))])))))))))))
  ((.seq (.reg [.o (.move 6 (cb true))])
  (.ret))))))
theorem fun_impl_allWithin {rin : List T} {args : List A} {Q : List T → T → Prop} (ha : args.length ≤ 21) (h : cW Try.prog 21 c_impl_allWithin (retP Try.prog [.tmp 6] rin.length Q) (St.of (enum 0 args) (enum 1000000000 rin))) :
    Fun Try.prog 98 rin args Q :=
  Fun.of Try.func98 rfl rfl rfl (by kernel_rfl) ha (by decide) h

def c_impl_partsOf : CC :=
  (.seq (.reg [.o (.move 2 (cv (.slice none 0 0)))])
  ((.seq (.reg [.o (.move 10 (sl 0)),
     .o (.call (some 11) (cf 147) [(sl 10)]),
     .o (.move 3 (sl 11))])
  ((.seq (.draw [14, 17] [(kR, .o (.move 12 (sl 0))),
     (kR, .o (.lenS 13 (sl 12))),
     (kN, .o (.make 14 [.v (.int .i64 0)] 8 (sl 13) (sl 13))),
     (.r false [14], .o (.move 15 (sl 0))),
     (.r false [14], .o (.lenS 16 (sl 15))),
     (kN, .o (.make 17 [.v (.int .i64 0)] 8 (sl 16) (sl 16))),
     (.r false [17], .o (.move 4 (sl 14))),
     (kR, .o (.move 5 (sl 17)))])
  ((.seq (.reg [.o (.move 6 (ci 60))])
  ((.seq (.seq (.reg [.o (.move 18 (sl 0)),
      .o (.lenS 19 (sl 18)),
      .o (.move 20 (ci 0))])
   ((.block 0 (.loop (.seq (.reg [.o (.bin 21 .lss (sl 20) (sl 19))])
     ((.seq (.cond (sl 21) .skip
       (.exit 0))
     ((.seq (.block 1 (.seq (.reg [.o (.move 22 (sl 20)),
          .o (.idx 23 1 (sl 18) (sl 20)),
          .o (.load1 24 (sl 23)),
          .o (.move 7 (sl 22)),
          .o (.move 8 (sl 24))])
       ((.seq (.seq (.reg [.o (.move 25 (sl 3)),
           .o (.bin 26 .eql (sl 25) (ci 0))])
        ((.cond (sl 26) (.draw [] [(kR, .o (.move 27 (sl 4))),
           (kR, .o (.move 28 (sl 7))),
           (kE, .o (.move 29 (sl 5))),
           (kE, .o (.move 30 (sl 7))),
           (kR, .o (.move 31 (sl 0))),
           (kR, .o (.lenS 32 (sl 31))),
           (kR, .o (.bin 33 .quo (ci 60) (sl 32))),
           (kE, .o (.move 34 (sl 0))),
           (kE, .o (.lenS 35 (sl 34))),
           (kE, .o (.bin 36 .rem (ci 60) (sl 35))),
           (kR, .o (.idx 37 1 (sl 27) (sl 28))),
           (kH, .o (.store 1 (sl 37) (sl 33))),
           (kR, .o (.idx 38 1 (sl 29) (sl 30))),
           (kH, .o (.store 1 (sl 38) (sl 36)))])
         (.draw [] [(kR, .o (.move 39 (sl 4))),
           (kR, .o (.move 40 (sl 7))),
           (kE, .o (.move 41 (sl 5))),
           (kE, .o (.move 42 (sl 7))),
           (kR, .o (.move 43 (sl 8))),
           (kR, .o (.bin 44 .mul (ci 60) (sl 43))),
           (kR, .o (.move 45 (sl 3))),
           (kR, .o (.bin 46 .quo (sl 44) (sl 45))),
           (kE, .o (.move 47 (sl 8))),
           (kE, .o (.bin 48 .mul (ci 60) (sl 47))),
           (kE, .o (.move 49 (sl 3))),
           (kE, .o (.bin 50 .rem (sl 48) (sl 49))),
           (kR, .o (.idx 51 1 (sl 39) (sl 40))),
           (kH, .o (.store 1 (sl 51) (sl 46))),
           (kR, .o (.idx 52 1 (sl 41) (sl 42))),
           (kH, .o (.store 1 (sl 52) (sl 50)))]))))
       ((.reg [.o (.move 53 (sl 6)),
         .o (.move 54 (sl 4)),
         .o (.move 55 (sl 7)),
         .o (.idx 56 1 (sl 54) (sl 55)),
         .o (.load1 57 (sl 56)),
         .o (.bin 58 .sub (sl 53) (sl 57)),
         .o (.move 6 (sl 58))]))))))
     ((.reg [.o (.bin 59 .add (sl 20) (ci 1)),
       .o (.move 20 (sl 59))])))))))))))
  ((.seq (.block 2 (.loop (.seq (.seq (.reg [.o (.move 60 (sl 6)),
         .o (.bin 61 .gtr (sl 60) (ci 0))])
      ((.cond (sl 61) .skip
       (.exit 2))))
     ((.seq (.block 3 (.seq (.reg [.o (.move 64 (sl 5)),
          .o (.move 65 (sl 5)),
          .o (.call (some 66) (cf 139) [(sl 65)]),
          .o (.call (some 67) (cf 148) [(sl 64), (sl 66)]),
          .o (.move 9 (sl 67))])
       ((.seq (.reg [.o (.move 68 (sl 4)),
          .o (.move 69 (sl 9)),
          .o (.idx 70 1 (sl 68) (sl 69)),
          .o (.load1 71 (sl 70)),
          .o (.bin 72 .add (sl 71) (ci 1)),
          .o (.idx 73 1 (sl 68) (sl 69)),
          .o (.store 1 (sl 73) (sl 72))])
       ((.reg [.o (.move 74 (sl 5)),
         .o (.move 75 (sl 9)),
         .o (.idx 76 1 (sl 74) (sl 75)),
         .o (.store 1 (sl 76) (ci (-1)))]))))))
     ((.reg [.o (.move 62 (sl 6)),
       .o (.bin 63 .sub (sl 62) (ci 1)),
       .o (.move 6 (sl 63))])))))))
  ((.seq (.reg [.o (.move 77 (sl 4)),
     .o (.move 2 (sl 77))])
  (.ret))))))))))))))
theorem fun_impl_partsOf {rin : List T} {args : List A} {Q : List T → T → Prop} (ha : args.length ≤ 78) (h : cW Try.prog 78 c_impl_partsOf (retP Try.prog [.tmp 2] rin.length Q) (St.of (enum 0 args) (enum 1000000000 rin))) :
    Fun Try.prog 99 rin args Q :=
  Fun.of Try.func99 rfl rfl rfl (by kernel_rfl) ha (by decide) h

def c_spec_l01In : CC :=
  (.seq (.reg [.o (.move 6 (cb false))])
  ((.seq (.reg [.o (.move 7 (sl 0)),
     .o (.move 8 (sl 1)),
     .o (.bin 9 .geq (sl 7) (sl 8)),
     .o (.move 10 (sl 9)),
     .g 10 true (some 11) (.move 11 (sl 0)),
     .g 10 true (some 12) (.move 12 (sl 2)),
     .g 10 true (some 13) (.bin 13 .leq (sl 11) (sl 12)),
     .o (.pick 14 (sl 10) (sl 13) (cb false)),
     .o (.move 6 (sl 14))])
  (.ret))))
theorem fun_spec_l01In {rin : List T} {args : List A} {Q : List T → T → Prop} (ha : args.length ≤ 15) (h : cW Try.prog 15 c_spec_l01In (retP Try.prog [.tmp 6] rin.length Q) (St.of (enum 0 args) (enum 1000000000 rin))) :
    Fun Try.prog 100 rin args Q :=
  Fun.of Try.func100 rfl rfl rfl (by kernel_rfl) ha (by decide) h

def c_spec_l22Parts : CC :=
  (.seq (.reg [.o (.move 2 (cv (.slice none 0 0)))])
  ((.seq (.reg [.o (.move 12 (sl 0)),
     .o (.call (some 13) (cf 149) [(sl 12)]),
     .o (.move 3 (sl 13))])
  ((.seq (.seq (.reg [.o (.move 14 (sl 3)),
      .o (.bin 15 .eql (sl 14) (ci 0))])
   ((.cond (sl 15) (.seq (.reg [.o (.bslice 16 1 0 []),
       .o (.move 4 (sl 16))])
    ((.seq (.seq (.reg [.o (.move 5 (ci 0))])
     ((.block 0 (.loop (.seq (.seq (.reg [.o (.move 17 (sl 5)),
           .o (.move 18 (sl 0)),
           .o (.lenS 19 (sl 18)),
           .o (.bin 20 .lss (sl 17) (sl 19))])
        ((.cond (sl 20) .skip
         (.exit 0))))
       ((.seq (.block 1 (.reg [.o (.move 23 (sl 4)),
           .o (.bslice 24 1 1 [(0, (ci 1))]),
           .o (.app 25 1 8 (sl 23) (sl 24)),
           .o (.move 4 (sl 25))]))
       ((.reg [.o (.move 21 (sl 5)),
         .o (.bin 22 .add (sl 21) (ci 1)),
         .o (.move 5 (sl 22))])))))))))
    ((.seq (.reg [.o (.move 26 (sl 4)),
       .o (.call (some 27) (cf 101) [(sl 26)]),
       .o (.move 2 (sl 27))])
    (.ret))))))
    .skip)))
  ((.seq (.reg [.o (.bslice 28 1 0 []),
     .o (.bslice 29 1 0 []),
     .o (.move 6 (sl 28)),
     .o (.move 7 (sl 29))])
  ((.seq (.seq (.reg [.o (.move 8 (ci 0))])
   ((.block 2 (.loop (.seq (.seq (.reg [.o (.move 30 (sl 8)),
         .o (.move 31 (sl 0)),
         .o (.lenS 32 (sl 31)),
         .o (.bin 33 .lss (sl 30) (sl 32))])
      ((.cond (sl 33) .skip
       (.exit 2))))
     ((.seq (.block 3 (.seq (.reg [.o (.move 36 (sl 6)),
          .o (.move 37 (sl 0)),
          .o (.move 38 (sl 8)),
          .o (.idx 39 1 (sl 37) (sl 38)),
          .o (.load1 40 (sl 39)),
          .o (.bin 41 .mul (ci 60) (sl 40)),
          .o (.move 42 (sl 3)),
          .o (.bin 43 .quo (sl 41) (sl 42)),
          .o (.bslice 44 1 1 [(0, (sl 43))]),
          .o (.app 45 1 8 (sl 36) (sl 44)),
          .o (.move 6 (sl 45))])
       ((.reg [.o (.move 46 (sl 7)),
         .o (.move 47 (sl 0)),
         .o (.move 48 (sl 8)),
         .o (.idx 49 1 (sl 47) (sl 48)),
         .o (.load1 50 (sl 49)),
         .o (.bin 51 .mul (ci 60) (sl 50)),
         .o (.move 52 (sl 3)),
         .o (.bin 53 .rem (sl 51) (sl 52)),
         .o (.bslice 54 1 1 [(0, (sl 53))]),
         .o (.app 55 1 8 (sl 46) (sl 54)),
         .o (.move 7 (sl 55))]))))
     ((.reg [.o (.move 34 (sl 8)),
       .o (.bin 35 .add (sl 34) (ci 1)),
       .o (.move 8 (sl 35))])))))))))
  ((.seq (.seq (.reg [.o (.move 56 (sl 6)),
      .o (.call (some 57) (cf 149) [(sl 56)]),
      .o (.bin 58 .sub (ci 60) (sl 57)),
      .o (.move 9 (sl 58))])
   ((.block 4 (.loop (.seq (.seq (.reg [.o (.move 59 (sl 9)),
         .o (.bin 60 .gtr (sl 59) (ci 0))])
      ((.cond (sl 60) .skip
       (.exit 4))))
     ((.seq (.block 5 (.seq (.reg [.o (.move 10 (ci 0))])
       ((.seq (.seq (.reg [.o (.move 11 (ci 1))])
        ((.block 6 (.loop (.seq (.seq (.reg [.o (.move 63 (sl 11)),
              .o (.move 64 (sl 7)),
              .o (.lenS 65 (sl 64)),
              .o (.bin 66 .lss (sl 63) (sl 65))])
           ((.cond (sl 66) .skip
            (.exit 6))))
          ((.seq (.block 7 (.seq (.draw [] [(kR, .o (.move 69 (sl 7))),
               (kR, .o (.move 70 (sl 11))),
               (kR, .o (.idx 71 1 (sl 69) (sl 70))),
               (kR, .o (.load1 72 (sl 71))),
               (kR, .o (.move 73 (sl 7))),
               (kR, .o (.move 74 (sl 10))),
               (kR, .o (.idx 75 1 (sl 73) (sl 74))),
               (kR, .o (.load1 76 (sl 75))),
               (kR, .o (.bin 77 .gtr (sl 72) (sl 76)))])
            ((.cond (sl 77) (.reg [.o (.move 78 (sl 11)),
               .o (.move 10 (sl 78))])
             .skip))))
          ((.reg [.o (.move 67 (sl 11)),
            .o (.bin 68 .add (sl 67) (ci 1)),
            .o (.move 11 (sl 68))])))))))))
       ((.seq (.reg [.o (.move 79 (sl 6)),
          .o (.move 80 (sl 10)),
          .o (.idx 81 1 (sl 79) (sl 80)),
          .o (.load1 82 (sl 81)),
          .o (.bin 83 .add (sl 82) (ci 1)),
          .o (.idx 84 1 (sl 79) (sl 80)),
          .o (.store 1 (sl 84) (sl 83))])
       ((.reg [.o (.move 85 (sl 7)),
         .o (.move 86 (sl 10)),
         .o (.idx 87 1 (sl 85) (sl 86)),
         .o (.store 1 (sl 87) (ci (-1)))]))))))))
     ((.reg [.o (.move 61 (sl 9)),
       .o (.bin 62 .sub (sl 61) (ci 1)),
       .o (.move 9 (sl 62))])))))))))
  ((.seq (.reg [.o (.move 88 (sl 6)),
     .o (.move 2 (sl 88))])
  (.ret))))))))))))))
theorem fun_spec_l22Parts {rin : List T} {args : List A} {Q : List T → T → Prop} (ha : args.length ≤ 89) (h : cW Try.prog 89 c_spec_l22Parts (retP Try.prog [.tmp 2] rin.length Q) (St.of (enum 0 args) (enum 1000000000 rin))) :
    Fun Try.prog 101 rin args Q :=
  Fun.of Try.func101 rfl rfl rfl (by kernel_rfl) ha (by decide) h

def c_slices_Min___int64_int64_ : CC :=
  (.seq (.reg [.o (.move 2 (ci 0))])
  ((.seq (.seq (.reg [.o (.move 5 (sl 0)),
      .o (.lenS 6 (sl 5)),
      .o (.bin 7 .lss (sl 6) (ci 1))])
   ((.cond (sl 7) (.reg [.o (.bad (some 8)),
      .o (.bad none)])
    .skip)))
  ((.seq (.reg [.o (.move 9 (sl 0)),
     .o (.idx 10 1 (sl 9) (ci 0)),
     .o (.load1 11 (sl 10)),
     .o (.move 3 (sl 11))])
  ((.seq (.seq (.reg [.o (.move 4 (ci 1))])
   ((.block 0 (.loop (.seq (.seq (.reg [.o (.move 12 (sl 4)),
         .o (.move 13 (sl 0)),
         .o (.lenS 14 (sl 13)),
         .o (.bin 15 .lss (sl 12) (sl 14))])
      ((.cond (sl 15) .skip
       (.exit 0))))
     ((.seq (.block 1 (.reg [.o (.move 18 (sl 3)),
         .o (.move 19 (sl 0)),
         .o (.move 20 (sl 4)),
         .o (.idx 21 1 (sl 19) (sl 20)),
         .o (.load1 22 (sl 21)),
         .o (.mm 23 false (sl 18) (sl 22)),
         .o (.move 3 (sl 23))]))
     ((.reg [.o (.move 16 (sl 4)),
       .o (.bin 17 .add (sl 16) (ci 1)),
       .o (.move 4 (sl 17))])))))))))
  ((.seq (.reg [.o (.move 24 (sl 3)),
     .o (.move 2 (sl 24))])
  (.ret))))))))))
theorem fun_slices_Min___int64_int64_ {rin : List T} {args : List A} {Q : List T → T → Prop} (ha : args.length ≤ 25) (h : cW Try.prog 25 c_slices_Min___int64_int64_ (retP Try.prog [.tmp 2] rin.length Q) (St.of (enum 0 args) (enum 1000000000 rin))) :
    Fun Try.prog 102 rin args Q :=
  Fun.of Try.func102 rfl rfl rfl (by kernel_rfl) ha (by decide) h

def c_impl_halved : CC :=
  (.seq (.reg [.o (.move 2 (cv (.slice none 0 0)))])
  ((.seq (.reg [.o (.move 5 (sl 0)),
     .o (.call (some 6) (cf 150) [(sl 5)]),
     .o (.move 3 (sl 6))])
  ((.seq (.block 0 (.loop (.seq (.seq (.reg [.o (.move 7 (sl 3)),
         .o (.call (some 8) (cf 139) [(sl 7)]),
         .o (.bin 9 .gtr (sl 8) (ci 1000000000))])
      ((.cond (sl 9) .skip
       (.exit 0))))
     ((.block 1 (.seq (.reg [.o (.move 10 (sl 3)),
         .o (.lenS 11 (sl 10)),
         .o (.move 12 (ci 0))])
      ((.block 2 (.loop (.seq (.reg [.o (.bin 13 .lss (sl 12) (sl 11))])
        ((.seq (.cond (sl 13) .skip
          (.exit 2))
        ((.seq (.block 3 (.seq (.reg [.o (.move 14 (sl 12)),
             .o (.move 4 (sl 14))])
          ((.reg [.o (.move 15 (sl 3)),
            .o (.move 16 (sl 4)),
            .o (.idx 17 1 (sl 15) (sl 16)),
            .o (.load1 18 (sl 17)),
            .o (.bin 19 .quo (sl 18) (ci 2)),
            .o (.idx 20 1 (sl 15) (sl 16)),
            .o (.store 1 (sl 20) (sl 19))]))))
        ((.reg [.o (.bin 21 .add (sl 12) (ci 1)),
          .o (.move 12 (sl 21))]))))))))))))))))
  ((.seq (.reg [.o (.move 22 (sl 3)),
     .o (.move 2 (sl 22))])
  (.ret))))))))
theorem fun_impl_halved {rin : List T} {args : List A} {Q : List T → T → Prop} (ha : args.length ≤ 23) (h : cW Try.prog 23 c_impl_halved (retP Try.prog [.tmp 2] rin.length Q) (St.of (enum 0 args) (enum 1000000000 rin))) :
    Fun Try.prog 103 rin args Q :=
  Fun.of Try.func103 rfl rfl rfl (by kernel_rfl) ha (by decide) h

def c_spec_l25Halved : CC :=
  (.seq (.reg [.o (.move 2 (cv (.slice none 0 0)))])
  ((.seq (.reg [.o (.move 7 (sl 0)),
     .o (.call (some 8) (cf 151) [(sl 7)]),
     .o (.move 3 (sl 8))])
  ((.block 0 (.loop (.block 1 (.seq (.reg [.o (.move 4 (ci 0))])
     ((.seq (.seq (.reg [.o (.move 5 (ci 0))])
      ((.block 2 (.loop (.seq (.seq (.reg [.o (.move 9 (sl 5)),
            .o (.move 10 (sl 3)),
            .o (.lenS 11 (sl 10)),
            .o (.bin 12 .lss (sl 9) (sl 11))])
         ((.cond (sl 12) .skip
          (.exit 2))))
        ((.seq (.block 3 (.reg [.o (.move 15 (sl 4)),
            .o (.move 16 (sl 3)),
            .o (.move 17 (sl 5)),
            .o (.idx 18 1 (sl 16) (sl 17)),
            .o (.load1 19 (sl 18)),
            .o (.mm 20 true (sl 15) (sl 19)),
            .o (.move 4 (sl 20))]))
        ((.reg [.o (.move 13 (sl 5)),
          .o (.bin 14 .add (sl 13) (ci 1)),
          .o (.move 5 (sl 14))])))))))))
     ((.seq (.seq (.reg [.o (.move 21 (sl 4)),
         .o (.bin 22 .leq (sl 21) (ci 1000000000))])
      ((.cond (sl 22) (.seq (.reg [.o (.move 23 (sl 3)),
          .o (.move 2 (sl 23))])
       (.ret))
       .skip)))
     ((.seq (.reg [.o (.move 6 (ci 0))])
     ((.block 4 (.loop (.seq (.seq (.reg [.o (.move 24 (sl 6)),
           .o (.move 25 (sl 3)),
           .o (.lenS 26 (sl 25)),
           .o (.bin 27 .lss (sl 24) (sl 26))])
        ((.cond (sl 27) .skip
         (.exit 4))))
       ((.seq (.block 5 (.reg [.o (.move 30 (sl 3)),
           .o (.move 31 (sl 6)),
           .o (.move 32 (sl 3)),
           .o (.move 33 (sl 6)),
           .o (.idx 34 1 (sl 32) (sl 33)),
           .o (.load1 35 (sl 34)),
           .o (.bin 36 .quo (sl 35) (ci 2)),
           .o (.idx 37 1 (sl 30) (sl 31)),
           .o (.store 1 (sl 37) (sl 36))]))
       ((.reg [.o (.move 28 (sl 6)),
         .o (.bin 29 .add (sl 28) (ci 1)),
         .o (.move 6 (sl 29))]))))))))))))))))))))))
theorem fun_spec_l25Halved {rin : List T} {args : List A} {Q : List T → T → Prop} (ha : args.length ≤ 38) (h : cW Try.prog 38 c_spec_l25Halved (retP Try.prog [.tmp 2] rin.length Q) (St.of (enum 0 args) (enum 1000000000 rin))) :
    Fun Try.prog 104 rin args Q :=
  Fun.of Try.func104 rfl rfl rfl (by kernel_rfl) ha (by decide) h

def c_slices_Max___int64_int64_ : CC :=
  (.seq (.reg [.o (.move 2 (ci 0))])
  ((.seq (.seq (.reg [.o (.move 5 (sl 0)),
      .o (.lenS 6 (sl 5)),
      .o (.bin 7 .lss (sl 6) (ci 1))])
   ((.cond (sl 7) (.reg [.o (.bad (some 8)),
      .o (.bad none)])
    .skip)))
  ((.seq (.reg [.o (.move 9 (sl 0)),
     .o (.idx 10 1 (sl 9) (ci 0)),
     .o (.load1 11 (sl 10)),
     .o (.move 3 (sl 11))])
  ((.seq (.seq (.reg [.o (.move 4 (ci 1))])
   ((.block 0 (.loop (.seq (.seq (.reg [.o (.move 12 (sl 4)),
         .o (.move 13 (sl 0)),
         .o (.lenS 14 (sl 13)),
         .o (.bin 15 .lss (sl 12) (sl 14))])
      ((.cond (sl 15) .skip
       (.exit 0))))
     ((.seq (.block 1 (.reg [.o (.move 18 (sl 3)),
         .o (.move 19 (sl 0)),
         .o (.move 20 (sl 4)),
         .o (.idx 21 1 (sl 19) (sl 20)),
         .o (.load1 22 (sl 21)),
         .o (.mm 23 true (sl 18) (sl 22)),
         .o (.move 3 (sl 23))]))
     ((.reg [.o (.move 16 (sl 4)),
       .o (.bin 17 .add (sl 16) (ci 1)),
       .o (.move 4 (sl 17))])))))))))
  ((.seq (.reg [.o (.move 24 (sl 3)),
     .o (.move 2 (sl 24))])
  (.ret))))))))))
theorem fun_slices_Max___int64_int64_ {rin : List T} {args : List A} {Q : List T → T → Prop} (ha : args.length ≤ 25) (h : cW Try.prog 25 c_slices_Max___int64_int64_ (retP Try.prog [.tmp 2] rin.length Q) (St.of (enum 0 args) (enum 1000000000 rin))) :
    Fun Try.prog 139 rin args Q :=
  Fun.of Try.func139 rfl rfl rfl (by kernel_rfl) ha (by decide) h

def c_impl_sumOf : CC :=
  (.seq (.reg [.o (.move 2 (ci 0))])
  ((.seq (.reg [.o (.move 3 (ci 0))])
  ((.seq (.seq (.reg [.o (.move 6 (sl 0)),
      .o (.lenS 7 (sl 6)),
      .o (.move 8 (ci 0))])
   ((.block 0 (.loop (.seq (.reg [.o (.bin 9 .lss (sl 8) (sl 7))])
     ((.seq (.cond (sl 9) .skip
       (.exit 0))
     ((.seq (.block 1 (.seq (.reg [.o (.idx 10 1 (sl 6) (sl 8)),
          .o (.load1 11 (sl 10)),
          .o (.move 5 (sl 11))])
       ((.reg [.o (.move 12 (sl 3)),
         .o (.move 13 (sl 5)),
         .o (.bin 14 .add (sl 12) (sl 13)),
         .o (.move 3 (sl 14))]))))
     ((.reg [.o (.bin 15 .add (sl 8) (ci 1)),
       .o (.move 8 (sl 15))])))))))))))
  ((.seq (.reg [.o (.move 16 (sl 3)),
     .o (.move 2 (sl 16))])
  (.ret))))))))
theorem fun_impl_sumOf {rin : List T} {args : List A} {Q : List T → T → Prop} (ha : args.length ≤ 17) (h : cW Try.prog 17 c_impl_sumOf (retP Try.prog [.tmp 2] rin.length Q) (St.of (enum 0 args) (enum 1000000000 rin))) :
    Fun Try.prog 147 rin args Q :=
  Fun.of Try.func147 rfl rfl rfl (by kernel_rfl) ha (by decide) h

def c_slices_Index___int64_int64_ : CC :=
  (.seq (.reg [.o (.move 4 (ci 0))])
  ((.seq (.seq (.reg [.o (.move 6 (sl 0)),
      .o (.lenS 7 (sl 6)),
      .o (.move 8 (ci 0))])
   ((.block 0 (.loop (.seq (.reg [.o (.bin 9 .lss (sl 8) (sl 7))])
     ((.seq (.cond (sl 9) .skip
       (.exit 0))
     ((.seq (.block 1 (.seq (.reg [.o (.move 10 (sl 8)),
          .o (.move 5 (sl 10))])
       ((.seq (.reg [.o (.move 11 (sl 1)),
          .o (.move 12 (sl 0)),
          .o (.move 13 (sl 5)),
          .o (.idx 14 1 (sl 12) (sl 13)),
          .o (.load1 15 (sl 14)),
          .o (.bin 16 .eql (sl 11) (sl 15))])
       ((.cond (sl 16) (.seq (.reg [.o (.move 17 (sl 5)),
           .o (.move 4 (sl 17))])
        (.ret))
        .skip))))))
     ((.reg [.o (.bin 18 .add (sl 8) (ci 1)),
       .o (.move 8 (sl 18))])))))))))))
  ((.seq (.reg [.o (.move 4 (ci (-1)))])
  (.ret))))))
theorem fun_slices_Index___int64_int64_ {rin : List T} {args : List A} {Q : List T → T → Prop} (ha : args.length ≤ 19) (h : cW Try.prog 19 c_slices_Index___int64_int64_ (retP Try.prog [.tmp 4] rin.length Q) (St.of (enum 0 args) (enum 1000000000 rin))) :
    Fun Try.prog 148 rin args Q :=
  Fun.of Try.func148 rfl rfl rfl (by kernel_rfl) ha (by decide) h

def c_spec_l01Sum : CC :=
  (.seq (.reg [.o (.move 2 (ci 0))])
  ((.seq (.reg [.o (.move 3 (ci 0))])
  ((.seq (.seq (.reg [.o (.move 4 (ci 0))])
   ((.block 0 (.loop (.seq (.seq (.reg [.o (.move 5 (sl 4)),
         .o (.move 6 (sl 0)),
         .o (.lenS 7 (sl 6)),
         .o (.bin 8 .lss (sl 5) (sl 7))])
      ((.cond (sl 8) .skip
       (.exit 0))))
     ((.seq (.block 1 (.reg [.o (.move 11 (sl 3)),
         .o (.move 12 (sl 0)),
         .o (.move 13 (sl 4)),
         .o (.idx 14 1 (sl 12) (sl 13)),
         .o (.load1 15 (sl 14)),
         .o (.bin 16 .add (sl 11) (sl 15)),
         .o (.move 3 (sl 16))]))
     ((.reg [.o (.move 9 (sl 4)),
       .o (.bin 10 .add (sl 9) (ci 1)),
       .o (.move 4 (sl 10))])))))))))
  ((.seq (.reg [.o (.move 17 (sl 3)),
     .o (.move 2 (sl 17))])
  (.ret))))))))
theorem fun_spec_l01Sum {rin : List T} {args : List A} {Q : List T → T → Prop} (ha : args.length ≤ 18) (h : cW Try.prog 18 c_spec_l01Sum (retP Try.prog [.tmp 2] rin.length Q) (St.of (enum 0 args) (enum 1000000000 rin))) :
    Fun Try.prog 149 rin args Q :=
  Fun.of Try.func149 rfl rfl rfl (by kernel_rfl) ha (by decide) h

def c_slices_Clone___int64_int64_ : CC :=
  (.seq (.reg [.o (.move 2 (cv (.slice none 0 0)))])
  ((.seq (.seq (.reg [.o (.move 3 (sl 0)),
      .o (.isNil 4 false (sl 3))])
   ((.cond (sl 4) (.seq (.reg [.o (.move 2 (cv (.slice none 0 0)))])
    (.ret))
    .skip)))
  ((.seq (.reg [.o (.bslice 5 1 0 []),
     .o (.move 6 (sl 0)),
     .o (.app 7 1 8 (sl 5) (sl 6)),
     .o (.move 2 (sl 7))])
  (.ret))))))
theorem fun_slices_Clone___int64_int64_ {rin : List T} {args : List A} {Q : List T → T → Prop} (ha : args.length ≤ 8) (h : cW Try.prog 8 c_slices_Clone___int64_int64_ (retP Try.prog [.tmp 2] rin.length Q) (St.of (enum 0 args) (enum 1000000000 rin))) :
    Fun Try.prog 150 rin args Q :=
  Fun.of Try.func150 rfl rfl rfl (by kernel_rfl) ha (by decide) h

def c_spec_l01Own : CC :=
  (.seq (.reg [.o (.move 2 (cv (.slice none 0 0)))])
  ((.seq (.reg [.o (.bslice 3 1 0 []),
     .o (.move 4 (sl 0)),
     .o (.app 5 1 8 (sl 3) (sl 4)),
     .o (.move 2 (sl 5))])
  (.ret))))
theorem fun_spec_l01Own {rin : List T} {args : List A} {Q : List T → T → Prop} (ha : args.length ≤ 6) (h : cW Try.prog 6 c_spec_l01Own (retP Try.prog [.tmp 2] rin.length Q) (St.of (enum 0 args) (enum 1000000000 rin))) :
    Fun Try.prog 151 rin args Q :=
  Fun.of Try.func151 rfl rfl rfl (by kernel_rfl) ha (by decide) h

end Go.Ab

/- Contracts: whole numbers, IsMatrix. -/
set_option linter.unusedSimpArgs false
set_option linter.unusedVariables false
namespace Go.Ab
open Go.Proofs

theorem impl_within_ok (n lo hi : Int) : Pure Try.prog 97 [.i n, .i lo, .i hi] (.b (decide (lo ≤ n ∧ n ≤ hi))) := by
  refine fun_impl_within (by simp) ?_
  simp -implicitDefEqProofs only [c_impl_within, go_sem, List.reduceReplicate, Nat.reduceEqDiff, Nat.reduceAdd, Nat.reduceLeDiff, Nat.reduceMul, Nat.reduceSub, Nat.reduceDiv, Int.reduceToNat, Nat.reduceLT, Int.reduceLT, Int.reduceLE, ↓reduceIte, reduceCtorEq]
  refine ⟨fun h => ?_, fun h => ?_⟩
  · have : lo ≤ n := h
    simp [this]
  · have : ¬ lo ≤ n := h
    simp [this]

theorem impl_allWithin_ok (l : List Int) (lo hi : Int) (hl : l.length ≤ 1000000000000) : Pure Try.prog 98 [ints l, .i lo, .i hi] (.b (l.all fun x => decide (lo ≤ x ∧ x ≤ hi))) := by
  refine fun_impl_allWithin (by simp) ?_
  simp -implicitDefEqProofs only [c_impl_allWithin, ints, go_sem, List.reduceReplicate, Nat.reduceEqDiff, Nat.reduceAdd, Nat.reduceLeDiff, Nat.reduceMul, Nat.reduceSub, Nat.reduceDiv, Int.reduceToNat, Nat.reduceLT, Int.reduceLT, Int.reduceLE, ↓reduceIte, reduceCtorEq]
  refine SemC.loopR (σ := Nat) (fun i => St.of [(0, .t (ints l)), (1, .t (.i lo)), (2, .t (.i hi)), (6, .t (.b false)), (9, .t (ints l)), (10, .t (.i l.length)), (11, .t (.i i))] []) (fun i => i ≤ l.length ∧ ∀ x ∈ l.take i, lo ≤ x ∧ x ≤ hi) (fun i => l.length - i) 0 (Weak.of _ [] [] (by simp) (by simp) ?_ trivial) ⟨by simp, by simp⟩ fun i hI R hn hr he => ?_
  · simp -implicitDefEqProofs only [ints, Int.add_zero, envOK, maA, maT, upd_apply, Nat.reduceEqDiff, ↓reduceIte, and_true, true_or, or_true, List.map_cons, List.map_nil, Nat.zero_ne_one, and_self, true_and, Int.natCast_zero, Int.cast_ofNat_Int, Int.ofNat_zero]
  · simp -implicitDefEqProofs only [ints, go_sem, List.reduceReplicate, Nat.reduceEqDiff, Nat.reduceAdd, Nat.reduceLeDiff, Nat.reduceMul, Nat.reduceSub, Nat.reduceDiv, Int.reduceToNat, Nat.reduceLT, Int.reduceLT, Int.reduceLE, ↓reduceIte, reduceCtorEq]
    refine ⟨fun h => ⟨by omega, by omega, by omega, fun c x hx hc => ?_⟩, fun h => he _ _ ?_⟩
    · subst hc
      rw [toNat_cast] at hx
      refine CallW.pure (impl_within_ok x lo hi) [] rfl Try.call97 ?_ ?_ rfl ?_
      · simp -implicitDefEqProofs only [vt_self, vaL, vtL, va, vt, vb, maT, List.cons_append, List.nil_append, List.append_nil, true_or, or_true, go_sem, List.reduceReplicate, Nat.reduceEqDiff, Nat.reduceAdd, Nat.reduceLeDiff, Nat.reduceMul, Nat.reduceSub, Nat.reduceDiv, Int.reduceToNat, Nat.reduceLT, Int.reduceLT, Int.reduceLE, ↓reduceIte, reduceCtorEq]
      · trivial
      · simp -implicitDefEqProofs only [go_sem, List.reduceReplicate, Nat.reduceEqDiff, Nat.reduceAdd, Nat.reduceLeDiff, Nat.reduceMul, Nat.reduceSub, Nat.reduceDiv, Int.reduceToNat, Nat.reduceLT, Int.reduceLT, Int.reduceLE, ↓reduceIte, reduceCtorEq]
        refine ⟨fun h1 => hr _ ?_, fun h1 => hn _ (i + 1) (Weak.of _ [] [] (by simp) (by simp) ?_ trivial) ⟨by omega, take_succ_all hx hI.2 (by simpa using h1)⟩ (by omega)⟩
        · simp -implicitDefEqProofs only [go_sem, List.reduceReplicate, Nat.reduceEqDiff, Nat.reduceAdd, Nat.reduceLeDiff, Nat.reduceMul, Nat.reduceSub, Nat.reduceDiv, Int.reduceToNat, Nat.reduceLT, Int.reduceLT, Int.reduceLE, ↓reduceIte, reduceCtorEq]
          have : l.all (fun x => decide (lo ≤ x ∧ x ≤ hi)) = false := by
            rw [List.all_eq_false]
            exact ⟨x, List.mem_of_getElem? hx, by simp at h1 ⊢; omega⟩
          rw [this]
        · simp -implicitDefEqProofs only [ints, Int.add_zero, envOK, maA, maT, upd_apply, Nat.reduceEqDiff, ↓reduceIte, and_true, true_or, or_true, List.map_cons, List.map_nil, Nat.zero_ne_one, and_self, true_and, Int.natCast_zero, Int.cast_ofNat_Int, Int.ofNat_zero, next64 (by omega : i < l.length) hl]
    · simp -implicitDefEqProofs only [go_sem, List.reduceReplicate, Nat.reduceEqDiff, Nat.reduceAdd, Nat.reduceLeDiff, Nat.reduceMul, Nat.reduceSub, Nat.reduceDiv, Int.reduceToNat, Nat.reduceLT, Int.reduceLT, Int.reduceLE, ↓reduceIte, reduceCtorEq]
      have : l.all (fun x => decide (lo ≤ x ∧ x ≤ hi)) = true := by
        rw [List.all_eq_true]
        intro x hx
        have := hI.2 x (by rw [List.take_of_length_le (by omega)]; exact hx)
        simpa using this
      rw [this]
end Go.Ab

/- Contracts: sizes, copies. -/
set_option linter.unusedSimpArgs false
set_option linter.unusedVariables false
namespace Go.Ab
open Go.Proofs

/-- A row that is half written. -/
def filled {α : Type} (l : List α) (f : α → T) (z : T) (i : Nat) : List T := (l.take i).map f ++ List.replicate (l.length - i) z
theorem filled_length {α : Type} (l : List α) (f : α → T) (z : T) (i : Nat) (h : i ≤ l.length) : (filled l f z i).length = l.length := by
  simp [filled]; omega
theorem filled_set {α : Type} {l : List α} {f : α → T} {z : T} {i : Nat} {x : α} (h : l[i]? = some x) : (filled l f z i).set i (f x) = filled l f z (i + 1) := by
  obtain ⟨hi, rfl⟩ := List.getElem?_eq_some_iff.1 h
  refine List.ext_getElem? fun j => ?_
  simp only [filled, List.getElem?_set, List.getElem?_append, List.length_map, List.length_take, List.length_append, List.length_replicate, List.getElem?_map, List.getElem?_take, List.getElem?_replicate, Nat.min_eq_left (Nat.le_of_lt hi), Nat.min_eq_left hi]
  by_cases hj : i = j
  · subst hj
    simp [hi]
    omega
  · by_cases h1 : j < i
    · simp [hj, h1, show j < i + 1 by omega]
    · simp only [hj, h1, show ¬ j < i + 1 by omega, if_false]
      by_cases h2 : j < l.length
      · rw [if_pos (by omega), if_pos (by omega)]
      · rw [if_neg (by omega), if_neg (by omega)]
theorem filled_zero {α : Type} (l : List α) (f : α → T) (z : T) : filled l f z 0 = List.replicate l.length z := by simp [filled]
theorem filled_all {α : Type} (l : List α) (f : α → T) (z : T) : filled l f z l.length = l.map f := by simp [filled]
theorem made_one (z : T) (n : Nat) : made [z] n = List.replicate n z := rfl

end Go.Ab

/- Contracts: IsMatrix. -/
set_option linter.unusedSimpArgs false
set_option linter.unusedVariables false
namespace Go.Ab
open Go.Proofs

theorem spec_l01In_ok (n lo hi : Int) : Pure Try.prog 100 [.i n, .i lo, .i hi] (.b (decide (lo ≤ n ∧ n ≤ hi))) := by
  refine fun_spec_l01In (by simp) ?_
  simp -implicitDefEqProofs only [c_spec_l01In, go_sem, List.reduceReplicate, Nat.reduceEqDiff, Nat.reduceAdd, Nat.reduceLeDiff, Nat.reduceMul, Nat.reduceSub, Nat.reduceDiv, Int.reduceToNat, Nat.reduceLT, Int.reduceLT, Int.reduceLE, ↓reduceIte, reduceCtorEq]
  refine ⟨fun h => ?_, fun h => ?_⟩
  · have : lo ≤ n := h
    simp [this]
  · have : ¬ lo ≤ n := h
    simp [this]

end Go.Ab

/- Contracts: copies of rows, least and greatest numbers, marks. -/
set_option linter.unusedSimpArgs false
set_option linter.unusedVariables false
namespace Go.Ab
open Go.Proofs

theorem spec_l01Own_ok (l : List Int) (hl : l.length ≤ 1000000000000) : Fun Try.prog 151 [] [.t (ints l)] fun o r => o = [] ∧ r = intsO l := by
  refine fun_spec_l01Own (by simp) ?_
  simp -implicitDefEqProofs only [c_spec_l01Own, ints, go_sem, List.reduceReplicate, Nat.reduceEqDiff, Nat.reduceAdd, Nat.reduceLeDiff, Nat.reduceMul, Nat.reduceSub, Nat.reduceDiv, Int.reduceToNat, Nat.reduceLT, Int.reduceLT, Int.reduceLE, ↓reduceIte, reduceCtorEq]
  exact ⟨by omega, rfl⟩

theorem slices_Clone_ok (l : List Int) (hl : l.length ≤ 1000000000000) : Fun Try.prog 150 [] [.t (ints l)] fun o r => o = [] ∧ r = intsO l := by
  refine Fun.le (Q := fun o r => o = [] ∧ (r = intsO l ∨ (l = [] ∧ r = .v (.slice none 0 0)))) ?_ ?_
  · refine fun_slices_Clone___int64_int64_ (by simp) ?_
    simp -implicitDefEqProofs only [c_slices_Clone___int64_int64_, ints, go_sem, List.reduceReplicate, Nat.reduceEqDiff, Nat.reduceAdd, Nat.reduceLeDiff, Nat.reduceMul, Nat.reduceSub, Nat.reduceDiv, Int.reduceToNat, Nat.reduceLT, Int.reduceLT, Int.reduceLE, ↓reduceIte, reduceCtorEq]
    intro b hb
    exact ⟨fun h => .inr (by simpa using hb h), fun _ => ⟨by omega, .inl rfl⟩⟩
  · rintro o r ⟨rfl, rfl | ⟨rfl, rfl⟩⟩
    · exact ⟨_, .refl _, rfl, rfl⟩
    · exact ⟨_, .nilArr 1, rfl, rfl⟩

/-- The least and the greatest number of a row. -/
def minL (l : List Int) : Int := l.tail.foldl min (l.headD 0)
def maxL (l : List Int) : Int := l.tail.foldl max (l.headD 0)
theorem minL_snoc {l : List Int} (h : l ≠ []) (x : Int) : minL (l ++ [x]) = min (minL l) x := by
  cases l with
  | nil => exact absurd rfl h
  | cons a l => simp [minL, List.foldl_append]
theorem maxL_snoc {l : List Int} (h : l ≠ []) (x : Int) : maxL (l ++ [x]) = max (maxL l) x := by
  cases l with
  | nil => exact absurd rfl h
  | cons a l => simp [maxL, List.foldl_append]
theorem take_snoc {α : Type} {l : List α} {i : Nat} {x : α} (h : l[i]? = some x) : l.take (i + 1) = l.take i ++ [x] := by
  rw [List.take_add_one, h]; rfl

theorem slices_Min_ok (l : List Int) (h0 : l ≠ []) (hl : l.length ≤ 1000000000000) : Pure Try.prog 102 [ints l] (.i (minL l)) := by
  have hpos : 0 < l.length := List.length_pos_iff.2 h0
  refine fun_slices_Min___int64_int64_ (by simp) ?_
  simp -implicitDefEqProofs only [c_slices_Min___int64_int64_, go_sem, List.reduceReplicate, Nat.reduceEqDiff, Nat.reduceAdd, Nat.reduceLeDiff, Nat.reduceMul, Nat.reduceSub, Nat.reduceDiv, Int.reduceToNat, Nat.reduceLT, Int.reduceLT, Int.reduceLE, ↓reduceIte, reduceCtorEq, forall_apply_eq_imp_iff₂, ints, rows, rat, rats, toNat_cast]
  refine ⟨fun h => absurd h (by omega), fun _ => ⟨by omega, by omega, fun x hx => ?_⟩⟩
  refine SemC.loopR (σ := Nat) (fun i => St.of [(0, .t (ints l)), (3, .t (.i (minL (l.take i)))), (4, .t (.i i))] []) (fun i => 1 ≤ i ∧ i ≤ l.length) (fun i => l.length - i) 1 (Weak.of _ [] [] (by simp) (by simp) ?_ trivial) ⟨by simp, hpos⟩ fun i hI R hn hr he => ?_
  · simp -implicitDefEqProofs only [ints, Int.add_zero, envOK, maA, maT, upd_apply, Nat.reduceEqDiff, ↓reduceIte, and_true, true_or, or_true, List.map_cons, List.map_nil, Nat.zero_ne_one, and_self, true_and, Int.natCast_zero, Int.cast_ofNat_Int, Int.ofNat_zero]
    cases l with
    | nil => simp at hx
    | cons a l => simp at hx; simp [minL, hx]
  · simp -implicitDefEqProofs only [go_sem, List.reduceReplicate, Nat.reduceEqDiff, Nat.reduceAdd, Nat.reduceLeDiff, Nat.reduceMul, Nat.reduceSub, Nat.reduceDiv, Int.reduceToNat, Nat.reduceLT, Int.reduceLT, Int.reduceLE, ↓reduceIte, reduceCtorEq, forall_apply_eq_imp_iff₂, ints, rows, rat, rats, toNat_cast]
    refine ⟨fun h => ⟨by omega, by omega, by omega, fun x hx => hn _ (i + 1) (Weak.of _ [] [] (by simp) (by simp) ?_ trivial) (by omega) (by omega)⟩, fun h => he _ _ ?_⟩
    · have hne : l.take i ≠ [] := by intro h'; have := congrArg List.length h'; rw [List.length_take, List.length_nil] at this; omega
      simp -implicitDefEqProofs only [ints, Int.add_zero, envOK, maA, maT, upd_apply, Nat.reduceEqDiff, ↓reduceIte, and_true, true_or, or_true, List.map_cons, List.map_nil, Nat.zero_ne_one, and_self, true_and, Int.natCast_zero, Int.cast_ofNat_Int, Int.ofNat_zero, next64 (by omega : i < l.length) hl, take_snoc hx, minL_snoc hne]
    · simp -implicitDefEqProofs only [go_sem, List.reduceReplicate, Nat.reduceEqDiff, Nat.reduceAdd, Nat.reduceLeDiff, Nat.reduceMul, Nat.reduceSub, Nat.reduceDiv, Int.reduceToNat, Nat.reduceLT, Int.reduceLT, Int.reduceLE, ↓reduceIte, reduceCtorEq]
      rw [List.take_of_length_le (by omega)]

theorem slices_Max_ok (l : List Int) (h0 : l ≠ []) (hl : l.length ≤ 1000000000000) : Pure Try.prog 139 [ints l] (.i (maxL l)) := by
  have hpos : 0 < l.length := List.length_pos_iff.2 h0
  refine fun_slices_Max___int64_int64_ (by simp) ?_
  simp -implicitDefEqProofs only [c_slices_Max___int64_int64_, go_sem, List.reduceReplicate, Nat.reduceEqDiff, Nat.reduceAdd, Nat.reduceLeDiff, Nat.reduceMul, Nat.reduceSub, Nat.reduceDiv, Int.reduceToNat, Nat.reduceLT, Int.reduceLT, Int.reduceLE, ↓reduceIte, reduceCtorEq, forall_apply_eq_imp_iff₂, ints, rows, rat, rats, toNat_cast]
  refine ⟨fun h => absurd h (by omega), fun _ => ⟨by omega, by omega, fun x hx => ?_⟩⟩
  refine SemC.loopR (σ := Nat) (fun i => St.of [(0, .t (ints l)), (3, .t (.i (maxL (l.take i)))), (4, .t (.i i))] []) (fun i => 1 ≤ i ∧ i ≤ l.length) (fun i => l.length - i) 1 (Weak.of _ [] [] (by simp) (by simp) ?_ trivial) ⟨by simp, hpos⟩ fun i hI R hn hr he => ?_
  · simp -implicitDefEqProofs only [ints, Int.add_zero, envOK, maA, maT, upd_apply, Nat.reduceEqDiff, ↓reduceIte, and_true, true_or, or_true, List.map_cons, List.map_nil, Nat.zero_ne_one, and_self, true_and, Int.natCast_zero, Int.cast_ofNat_Int, Int.ofNat_zero]
    cases l with
    | nil => simp at hx
    | cons a l => simp at hx; simp [maxL, hx]
  · simp -implicitDefEqProofs only [go_sem, List.reduceReplicate, Nat.reduceEqDiff, Nat.reduceAdd, Nat.reduceLeDiff, Nat.reduceMul, Nat.reduceSub, Nat.reduceDiv, Int.reduceToNat, Nat.reduceLT, Int.reduceLT, Int.reduceLE, ↓reduceIte, reduceCtorEq, forall_apply_eq_imp_iff₂, ints, rows, rat, rats, toNat_cast]
    refine ⟨fun h => ⟨by omega, by omega, by omega, fun x hx => hn _ (i + 1) (Weak.of _ [] [] (by simp) (by simp) ?_ trivial) (by omega) (by omega)⟩, fun h => he _ _ ?_⟩
    · have hne : l.take i ≠ [] := by intro h'; have := congrArg List.length h'; rw [List.length_take, List.length_nil] at this; omega
      simp -implicitDefEqProofs only [ints, Int.add_zero, envOK, maA, maT, upd_apply, Nat.reduceEqDiff, ↓reduceIte, and_true, true_or, or_true, List.map_cons, List.map_nil, Nat.zero_ne_one, and_self, true_and, Int.natCast_zero, Int.cast_ofNat_Int, Int.ofNat_zero, next64 (by omega : i < l.length) hl, take_snoc hx, maxL_snoc hne]
    · simp -implicitDefEqProofs only [go_sem, List.reduceReplicate, Nat.reduceEqDiff, Nat.reduceAdd, Nat.reduceLeDiff, Nat.reduceMul, Nat.reduceSub, Nat.reduceDiv, Int.reduceToNat, Nat.reduceLT, Int.reduceLT, Int.reduceLE, ↓reduceIte, reduceCtorEq]
      rw [List.take_of_length_le (by omega)]


/-- The marks k, k + 1 .. -/
def marks : Nat → Int → List Int
  | 0, _ => []
  | n + 1, k => k :: marks n (k + 1)
/-- Are the marks there? -/
def held : List Int → Int → Int
  | [], k => k
  | x :: l, k => if x = k then held l (k + 1) else -1
end Go.Ab

/- Parts out of weights, plainly: the greatest remainders first. -/
set_option linter.unusedSimpArgs false
set_option linter.unusedVariables false
namespace Go.Ab
open Go.Proofs

/-- The index of the first greatest among the first k. -/
def maxI (r : List Int) : Nat → Nat
  | 0 => 0
  | k + 1 => if r.getD (maxI r k) 0 < r.getD k 0 then k else maxI r k
theorem maxI_lt (r : List Int) : ∀ k, k ≤ r.length → 0 < r.length → maxI r k < r.length
  | 0, _, h => h
  | k + 1, hk, h => by
    have := maxI_lt r k (by omega) h
    rw [maxI]; split <;> omega
theorem maxI_one (r : List Int) : maxI r 1 = 0 := by
  rw [maxI, show maxI r 0 = 0 from rfl, if_neg (Int.lt_irrefl _)]
theorem maxI_max (r : List Int) : ∀ k i, i < k → r.getD i 0 ≤ r.getD (maxI r k) 0
  | k + 1, i, h => by
    have ih := maxI_max r k
    rw [maxI]
    split
    · rename_i h1
      by_cases hi : i = k
      · rw [hi]; exact Int.le_refl _
      · have := ih i (by omega); omega
    · rename_i h1
      by_cases hi : i = k
      · rw [hi]; omega
      · exact ih i (by omega)
/-- It is the first one. -/
theorem maxI_first (r : List Int) : ∀ k i, i < maxI r k → r.getD i 0 < r.getD (maxI r k) 0
  | 0, i, h => by simp [maxI] at h
  | k + 1, i, h => by
    have ih := maxI_first r k
    have hm := maxI_max r k
    rw [maxI] at h ⊢
    split at h
    · rename_i h1
      rw [if_pos h1]
      have := hm i h; omega
    · rename_i h1
      rw [if_neg h1]
      exact ih i h

def hamGo : Nat → List Int → List Int → List Int
  | 0, p, _ => p
  | n + 1, p, r => hamGo n (p.set (maxI r r.length) (p.getD (maxI r r.length) 0 + 1)) (r.set (maxI r r.length) (-1))
def quoL (t : Int) (w : List Int) : List Int := w.map fun x => 60 * x / t
def remL (t : Int) (w : List Int) : List Int := w.map fun x => 60 * x % t
def onesL (w : List Int) : List Int := w.map fun _ => 1
/-- The parts of weights whose sum is not 0. -/
def ham1 (w : List Int) : List Int := hamGo (60 - (quoL w.sum w).sum).toNat (quoL w.sum w) (remL w.sum w)
def ham (w : List Int) : List Int := if w.sum = 0 then ham1 (onesL w) else ham1 w

theorem sum_set {p : List Int} {b : Nat} (h : b < p.length) (x : Int) : (p.set b x).sum = p.sum - p.getD b 0 + x := by
  induction p generalizing b with
  | nil => simp at h
  | cons a p ih =>
    cases b with
    | zero => simp; omega
    | succ b =>
      have := ih (b := b) (by simpa using h)
      simp only [List.set_cons_succ, List.sum_cons, List.getD_cons_succ]
      omega
theorem sum_nonneg' {w : List Int} (h : ∀ x ∈ w, 0 ≤ x) : 0 ≤ w.sum := by
  induction w with
  | nil => simp
  | cons a w ih =>
    have := ih fun x hx => h x (List.mem_cons_of_mem _ hx)
    have := h a (by simp)
    simp only [List.sum_cons]; omega
/-- Where every part is great enough, so is the sum. -/
theorem sum_le_of {t : Int} : ∀ (w p : List Int), w.length = p.length → (∀ i, i < w.length → 60 * w.getD i 0 ≤ t * p.getD i 0) → 60 * w.sum ≤ t * p.sum
  | [], [], _, _ => by simp
  | a :: w, b :: p, hl, h => by
    have ih := sum_le_of w p (by simpa using hl) fun i hi => by simpa using h (i + 1) (by simpa using hi)
    have h0 := h 0 (by simp)
    simp only [List.getD_cons_zero] at h0
    simp only [List.sum_cons, Int.mul_add]
    omega
/-- What holds while parts are given out. -/
structure HamI (w : List Int) (t : Int) (m : Nat) (p r : List Int) : Prop where
  lp : p.length = w.length
  lr : r.length = w.length
  each : ∀ i, i < w.length → (r.getD i 0 = 60 * w.getD i 0 - t * p.getD i 0 ∧ 0 ≤ r.getD i 0 ∧ r.getD i 0 < t) ∨ (r.getD i 0 = -1 ∧ 60 * w.getD i 0 < t * p.getD i 0 ∧ t * p.getD i 0 < 60 * w.getD i 0 + t)
  sum : p.sum + m = 60
theorem HamI.best {w : List Int} {m : Nat} {p r : List Int} (h : HamI w w.sum (m + 1) p r) (ht : 0 < w.sum) : maxI r r.length < w.length ∧ 0 < r.getD (maxI r r.length) 0 := by
  have ⟨i, hi, hpos⟩ : ∃ i, i < w.length ∧ ¬ 60 * w.getD i 0 ≤ w.sum * p.getD i 0 := by
    by_cases hc : ∃ i, i < w.length ∧ ¬ 60 * w.getD i 0 ≤ w.sum * p.getD i 0
    · exact hc
    · have := sum_le_of (t := w.sum) w p h.lp.symm fun i hi => by
        by_cases h1 : 60 * w.getD i 0 ≤ w.sum * p.getD i 0
        · exact h1
        · exact absurd ⟨i, hi, h1⟩ hc
      have hs := h.sum
      have e : w.sum * p.sum = w.sum * (60 - (m + 1 : Nat)) := by rw [show p.sum = 60 - ((m + 1 : Nat) : Int) by omega]
      rw [e, Int.mul_sub] at this
      have h2 : 0 < w.sum * ((m + 1 : Nat) : Int) := Int.mul_pos ht (by omega)
      omega
  have hri : 0 < r.getD i 0 := by
    rcases h.each i hi with h1 | h1 <;> omega
  have hlr := h.lr
  have h1 := maxI_lt r r.length (Nat.le_refl _) (by omega)
  have h2 := maxI_max r r.length i (by omega)
  exact ⟨by omega, by omega⟩
theorem getD_set_self {l : List Int} {b : Nat} (h : b < l.length) (x : Int) : (l.set b x).getD b 0 = x := by
  rw [List.getD_eq_getElem?_getD, List.getElem?_set_self h]; rfl
theorem getD_set_other {l : List Int} {b i : Nat} (h : i ≠ b) (x : Int) : (l.set b x).getD i 0 = l.getD i 0 := by
  rw [List.getD_eq_getElem?_getD, List.getElem?_set_ne (Ne.symm h), List.getD_eq_getElem?_getD]
theorem HamI.step {w : List Int} {m : Nat} {p r : List Int} (h : HamI w w.sum (m + 1) p r) (ht : 0 < w.sum) : HamI w w.sum m (p.set (maxI r r.length) (p.getD (maxI r r.length) 0 + 1)) (r.set (maxI r r.length) (-1)) := by
  obtain ⟨hb, hr⟩ := h.best ht
  have hlp := h.lp
  have hlr := h.lr
  generalize maxI r r.length = b at hb hr
  refine ⟨by simp [hlp], by simp [hlr], fun i hi => ?_, ?_⟩
  · by_cases hib : i = b
    · subst hib
      right
      rw [getD_set_self (by omega), getD_set_self (by omega)]
      rcases h.each i hi with h1 | h1
      · rw [Int.mul_add]; omega
      · omega
    · rw [getD_set_other hib, getD_set_other hib]
      exact h.each i hi
  · have := h.sum
    rw [sum_set (by omega)]
    omega
theorem hamGo_spec {w : List Int} (ht : 0 < w.sum) : ∀ (m : Nat) (p r : List Int), HamI w w.sum m p r →
    (hamGo m p r).length = w.length ∧ (hamGo m p r).sum = 60 ∧ ∀ i, i < w.length → 60 * w.getD i 0 - w.sum < w.sum * (hamGo m p r).getD i 0 ∧ w.sum * (hamGo m p r).getD i 0 < 60 * w.getD i 0 + w.sum
  | 0, p, r, h => ⟨h.lp, by have := h.sum; simpa [hamGo] using this, fun i hi => by
      rw [hamGo]
      rcases h.each i hi with h1 | h1 <;> omega⟩
  | m + 1, p, r, h => hamGo_spec ht m _ _ (h.step ht)
theorem getD_map' {w : List Int} {f : Int → Int} {i : Nat} (h : i < w.length) : (w.map f).getD i 0 = f (w.getD i 0) := by
  rw [List.getD_eq_getElem?_getD, List.getD_eq_getElem?_getD, List.getElem?_map, List.getElem?_eq_getElem h]; rfl
theorem quo_sum {t : Int} (ht : 0 < t) : ∀ w : List Int, t * (quoL t w).sum ≤ 60 * w.sum
  | [] => by simp [quoL]
  | a :: w => by
    have ih := quo_sum ht w
    have h1 := Int.mul_ediv_self_le (x := 60 * a) (k := t) (by omega)
    simp only [quoL, List.map_cons, List.sum_cons, Int.mul_add] at ih ⊢
    omega
theorem ham_start {w : List Int} (hw : ∀ x ∈ w, 0 ≤ x) (ht : 0 < w.sum) : HamI w w.sum (60 - (quoL w.sum w).sum).toNat (quoL w.sum w) (remL w.sum w) := by
  refine ⟨by simp [quoL], by simp [remL], fun i hi => .inl ?_, ?_⟩
  · rw [quoL, remL, getD_map' hi, getD_map' hi]
    have h1 := Int.mul_ediv_add_emod (60 * w.getD i 0) w.sum
    have h2 := Int.emod_nonneg (60 * w.getD i 0) (show w.sum ≠ 0 by omega)
    have h3 := Int.emod_lt_of_pos (60 * w.getD i 0) ht
    omega
  · have h1 := quo_sum ht w
    have h2 : (quoL w.sum w).sum ≤ 60 := by
      rw [Int.mul_comm 60] at h1
      exact Int.le_of_mul_le_mul_left h1 ht
    omega
theorem ham1_spec {w : List Int} (hw : ∀ x ∈ w, 0 ≤ x) (ht : 0 < w.sum) : (ham1 w).length = w.length ∧ (ham1 w).sum = 60 ∧ ∀ i, i < w.length → 60 * w.getD i 0 - w.sum < w.sum * (ham1 w).getD i 0 ∧ w.sum * (ham1 w).getD i 0 < 60 * w.getD i 0 + w.sum :=
  hamGo_spec ht _ _ _ (ham_start hw ht)
theorem ones_sum (w : List Int) : (onesL w).sum = w.length := by
  induction w with
  | nil => rfl
  | cons a w ih =>
    simp only [onesL, List.map_cons, List.sum_cons] at ih ⊢
    simp only [List.length_cons]; omega
theorem ham_spec {w : List Int} (hw : ∀ x ∈ w, 0 ≤ x) (hl : 1 ≤ w.length) : (ham w).length = w.length ∧ (ham w).sum = 60 ∧ (0 < w.sum → ∀ i, i < w.length → 60 * w.getD i 0 - w.sum < w.sum * (ham w).getD i 0 ∧ w.sum * (ham w).getD i 0 < 60 * w.getD i 0 + w.sum) := by
  have h0 := sum_nonneg' hw
  unfold ham
  split
  · rename_i h
    have h1 := ham1_spec (w := onesL w) (fun x hx => by simp [onesL] at hx; omega) (by rw [ones_sum]; omega)
    refine ⟨by rw [h1.1]; simp [onesL], h1.2.1, fun h' => by omega⟩
  · rename_i h
    obtain ⟨h1, h2, h3⟩ := ham1_spec hw (by omega)
    exact ⟨h1, h2, fun _ => h3⟩
end Go.Ab

/- Contracts: sums. -/
set_option linter.unusedSimpArgs false
set_option linter.unusedVariables false
namespace Go.Ab
open Go.Proofs

/-- Small numbers, few of them. -/
def smallL (l : List Int) : Prop := l.length ≤ 1000 ∧ ∀ x ∈ l, -1000000000000 ≤ x ∧ x ≤ 1000000000000
theorem smallL_sum {l : List Int} (h : smallL l) (k : Nat) : -1000000000000000 ≤ (l.take k).sum ∧ (l.take k).sum ≤ 1000000000000000 := by
  obtain ⟨h1, h2⟩ := h
  have key : ∀ (l : List Int), (∀ x ∈ l, -1000000000000 ≤ x ∧ x ≤ 1000000000000) → -(1000000000000 * (l.length : Int)) ≤ l.sum ∧ l.sum ≤ 1000000000000 * (l.length : Int) := by
    intro l
    induction l with
    | nil => intro _; simp
    | cons a l ih =>
      intro h
      have := ih fun x hx => h x (List.mem_cons_of_mem _ hx)
      have := h a (by simp)
      simp only [List.sum_cons, List.length_cons]
      omega
  have := key (l.take k) fun x hx => h2 x (List.mem_of_mem_take hx)
  have hl : (l.take k).length ≤ 1000 := by rw [List.length_take]; omega
  omega
theorem sum_snoc (l : List Int) (x : Int) : (l ++ [x]).sum = l.sum + x := by simp
theorem impl_sumOf_ok (l : List Int) (h : smallL l) : Pure Try.prog 147 [ints l] (.i l.sum) := by
  have hl := h.1
  refine fun_impl_sumOf (by simp) ?_
  simp -implicitDefEqProofs only [go_sem, List.reduceReplicate, Nat.reduceEqDiff, Nat.reduceAdd, Nat.reduceLeDiff, Nat.reduceMul, Nat.reduceSub, Nat.reduceDiv, Int.reduceToNat, Nat.reduceLT, Int.reduceLT, Int.reduceLE, ↓reduceIte, reduceCtorEq, forall_apply_eq_imp_iff₂, ints, rows, rat, rats, toNat_cast, c_impl_sumOf]
  refine SemC.loopR (σ := Nat) (fun i => St.of [(3, .t (.i (l.take i).sum)), (6, .t (ints l)), (7, .t (.i l.length)), (8, .t (.i i))] []) (fun i => i ≤ l.length) (fun i => l.length - i) 0 (Weak.of _ [] [] (by simp) (by simp) ?_ trivial) (by omega) fun i hi R hn hr he => ?_
  · simp -implicitDefEqProofs only [ints, rows, Nat.reduceBEq, Int.add_zero, envOK, maA, maT, upd_apply, Nat.reduceEqDiff, ↓reduceIte, and_true, true_or, or_true, List.map_cons, List.map_nil, Nat.zero_ne_one, and_self, true_and, Int.natCast_zero, Int.cast_ofNat_Int, Int.ofNat_zero, piOf, List.zip_cons_cons, List.zip_nil_right, List.lookup_cons, List.lookup_nil, beq_self_eq_true, rootsOK, mkRoots, mkEnv, List.take_zero, List.sum_nil]
  · simp -implicitDefEqProofs only [go_sem, List.reduceReplicate, Nat.reduceEqDiff, Nat.reduceAdd, Nat.reduceLeDiff, Nat.reduceMul, Nat.reduceSub, Nat.reduceDiv, Int.reduceToNat, Nat.reduceLT, Int.reduceLT, Int.reduceLE, ↓reduceIte, reduceCtorEq, forall_apply_eq_imp_iff₂, ints, rows, rat, rats, toNat_cast]
    refine ⟨fun h1 => ⟨by omega, by omega, by omega, fun x hx => ?_⟩, fun h1 => he _ _ ?_⟩
    · have e := sum_snoc (l.take i) x
      rw [← take_snoc hx] at e
      have hb := smallL_sum h (i + 1)
      refine hn _ (i + 1) (Weak.of _ [] [] (by simp) (by simp) ?_ trivial) (by omega) (by omega)
      simp -implicitDefEqProofs only [ints, rows, Nat.reduceBEq, Int.add_zero, envOK, maA, maT, upd_apply, Nat.reduceEqDiff, ↓reduceIte, and_true, true_or, or_true, List.map_cons, List.map_nil, Nat.zero_ne_one, and_self, true_and, Int.natCast_zero, Int.cast_ofNat_Int, Int.ofNat_zero, piOf, List.zip_cons_cons, List.zip_nil_right, List.lookup_cons, List.lookup_nil, beq_self_eq_true, rootsOK, mkRoots, mkEnv, next64 (by omega : i < l.length) (by omega), ← e, wrap64 (n := (l.take (i + 1)).sum) (by omega) (by omega)]
    · simp -implicitDefEqProofs only [go_sem, List.reduceReplicate, Nat.reduceEqDiff, Nat.reduceAdd, Nat.reduceLeDiff, Nat.reduceMul, Nat.reduceSub, Nat.reduceDiv, Int.reduceToNat, Nat.reduceLT, Int.reduceLT, Int.reduceLE, ↓reduceIte, reduceCtorEq, forall_apply_eq_imp_iff₂, ints, rows, rat, rats, toNat_cast]
      rw [List.take_of_length_le (by omega)]
theorem spec_l01Sum_ok (l : List Int) (h : smallL l) : Pure Try.prog 149 [ints l] (.i l.sum) := by
  have hl := h.1
  refine fun_spec_l01Sum (by simp) ?_
  simp -implicitDefEqProofs only [go_sem, List.reduceReplicate, Nat.reduceEqDiff, Nat.reduceAdd, Nat.reduceLeDiff, Nat.reduceMul, Nat.reduceSub, Nat.reduceDiv, Int.reduceToNat, Nat.reduceLT, Int.reduceLT, Int.reduceLE, ↓reduceIte, reduceCtorEq, forall_apply_eq_imp_iff₂, ints, rows, rat, rats, toNat_cast, c_spec_l01Sum]
  refine SemC.loopR (σ := Nat) (fun i => St.of [(0, .t (ints l)), (3, .t (.i (l.take i).sum)), (4, .t (.i i))] []) (fun i => i ≤ l.length) (fun i => l.length - i) 0 (Weak.of _ [] [] (by simp) (by simp) ?_ trivial) (by omega) fun i hi R hn hr he => ?_
  · simp -implicitDefEqProofs only [ints, rows, Nat.reduceBEq, Int.add_zero, envOK, maA, maT, upd_apply, Nat.reduceEqDiff, ↓reduceIte, and_true, true_or, or_true, List.map_cons, List.map_nil, Nat.zero_ne_one, and_self, true_and, Int.natCast_zero, Int.cast_ofNat_Int, Int.ofNat_zero, piOf, List.zip_cons_cons, List.zip_nil_right, List.lookup_cons, List.lookup_nil, beq_self_eq_true, rootsOK, mkRoots, mkEnv, List.take_zero, List.sum_nil]
  · simp -implicitDefEqProofs only [go_sem, List.reduceReplicate, Nat.reduceEqDiff, Nat.reduceAdd, Nat.reduceLeDiff, Nat.reduceMul, Nat.reduceSub, Nat.reduceDiv, Int.reduceToNat, Nat.reduceLT, Int.reduceLT, Int.reduceLE, ↓reduceIte, reduceCtorEq, forall_apply_eq_imp_iff₂, ints, rows, rat, rats, toNat_cast]
    refine ⟨fun h1 => ⟨by omega, by omega, by omega, fun x hx => ?_⟩, fun h1 => he _ _ ?_⟩
    · have e := sum_snoc (l.take i) x
      rw [← take_snoc hx] at e
      have hb := smallL_sum h (i + 1)
      refine hn _ (i + 1) (Weak.of _ [] [] (by simp) (by simp) ?_ trivial) (by omega) (by omega)
      simp -implicitDefEqProofs only [ints, rows, Nat.reduceBEq, Int.add_zero, envOK, maA, maT, upd_apply, Nat.reduceEqDiff, ↓reduceIte, and_true, true_or, or_true, List.map_cons, List.map_nil, Nat.zero_ne_one, and_self, true_and, Int.natCast_zero, Int.cast_ofNat_Int, Int.ofNat_zero, piOf, List.zip_cons_cons, List.zip_nil_right, List.lookup_cons, List.lookup_nil, beq_self_eq_true, rootsOK, mkRoots, mkEnv, next64 (by omega : i < l.length) (by omega), ← e, wrap64 (n := (l.take (i + 1)).sum) (by omega) (by omega)]
    · simp -implicitDefEqProofs only [go_sem, List.reduceReplicate, Nat.reduceEqDiff, Nat.reduceAdd, Nat.reduceLeDiff, Nat.reduceMul, Nat.reduceSub, Nat.reduceDiv, Int.reduceToNat, Nat.reduceLT, Int.reduceLT, Int.reduceLE, ↓reduceIte, reduceCtorEq, forall_apply_eq_imp_iff₂, ints, rows, rat, rats, toNat_cast]
      rw [List.take_of_length_le (by omega)]
end Go.Ab

/- Contracts: parts, the reference's. -/
set_option linter.unusedSimpArgs false
set_option linter.unusedVariables false
namespace Go.Ab
open Go.Proofs

theorem quoL_snoc {t : Int} {w : List Int} {i : Nat} {x : Int} (h : w[i]? = some x) : quoL t (w.take (i + 1)) = quoL t (w.take i) ++ [60 * x / t] := by rw [take_snoc h]; simp [quoL]
theorem remL_snoc {t : Int} {w : List Int} {i : Nat} {x : Int} (h : w[i]? = some x) : remL t (w.take (i + 1)) = remL t (w.take i) ++ [60 * x % t] := by rw [take_snoc h]; simp [remL]
/-- Weights that PartsOf takes. -/
def weightsOK (w : List Int) : Prop := 1 ≤ w.length ∧ w.length ≤ 4 ∧ ∀ x ∈ w, 0 ≤ x ∧ x ≤ 1000000000
theorem weights_small {w : List Int} (h : weightsOK w) : smallL w := ⟨by have := h.2.1; omega, fun x hx => by have := h.2.2 x hx; omega⟩
theorem quo_small {w : List Int} (h : weightsOK w) (ht : 0 < w.sum) : smallL (quoL w.sum w) := by
  refine ⟨by have := h.2.1; simp [quoL]; omega, fun y hy => ?_⟩
  obtain ⟨x, hx, rfl⟩ := List.mem_map.1 hy
  have hb := h.2.2 x hx
  have h1 := Int.ediv_nonneg (a := 60 * x) (b := w.sum) (by omega) (by omega)
  have h2 : 60 * x / w.sum ≤ 60 * x := Int.ediv_le_self _ (by omega)
  omega
theorem HamI.small {w : List Int} {t : Int} {m : Nat} {p r : List Int} (h : HamI w t m p r) (ht : 0 < t) {i : Nat} (hi : i < w.length) (hw : 0 ≤ w.getD i 0 ∧ w.getD i 0 ≤ 1000000000) : 0 ≤ p.getD i 0 ∧ p.getD i 0 ≤ 100000000000 := by
  have key : -t < t * p.getD i 0 ∧ t * p.getD i 0 < 60 * w.getD i 0 + t := by
    rcases h.each i hi with h1 | h1 <;> omega
  refine ⟨?_, ?_⟩
  · have h1 : t * (-1) < t * p.getD i 0 := by omega
    have := Int.lt_of_mul_lt_mul_left h1 (by omega)
    omega
  · have h1 := Int.mul_le_mul_of_nonneg_right (show (1 : Int) ≤ t by omega) (show 0 ≤ 60 * w.getD i 0 by omega)
    have h2 : t * p.getD i 0 < t * (60 * w.getD i 0 + 1) := by rw [Int.mul_add, Int.mul_one]; omega
    have := Int.lt_of_mul_lt_mul_left h2 (by omega)
    omega
theorem spec_l22Parts1_ok (w : List Int) (hw : weightsOK w) (ht : 0 < w.sum) : Fun Try.prog 101 [] [.t (ints w)] fun o r => o = [] ∧ r = intsO (ham1 w) := by
  have hs := weights_small hw
  have hsum : w.sum ≤ 1000000000000000 := by have := smallL_sum hs w.length; rw [List.take_length] at this; omega
  obtain ⟨hw1, hw2, hw3⟩ := hw
  refine fun_spec_l22Parts (by simp) ?_
  simp -implicitDefEqProofs only [go_sem, List.reduceReplicate, Nat.reduceEqDiff, Nat.reduceAdd, Nat.reduceLeDiff, Nat.reduceMul, Nat.reduceSub, Nat.reduceDiv, Int.reduceToNat, Nat.reduceLT, Int.reduceLT, Int.reduceLE, ↓reduceIte, reduceCtorEq, forall_apply_eq_imp_iff₂, ints, rows, rat, rats, toNat_cast, c_spec_l22Parts]
  refine CallW.pure (spec_l01Sum_ok w hs) [] rfl Try.call149 ?_ (by first | trivial | simp [T.noSh, T.noShL, rat]) rfl ?_
  · simp -implicitDefEqProofs only [Int.natCast_zero, Int.cast_ofNat_Int, Int.natCast_one, Nat.le_refl, Nat.reduceLeDiff, Nat.sub_self, Nat.reduceSub, List.getElem?_cons_zero, List.getElem?_cons_succ, vt_self, vaL, vtL, va, vt, vb, maT, List.cons_append, List.nil_append, List.append_nil, true_or, or_true, go_sem, List.reduceReplicate, Nat.reduceEqDiff, Nat.reduceAdd, Nat.reduceLeDiff, Nat.reduceMul, Nat.reduceSub, Nat.reduceDiv, Int.reduceToNat, Nat.reduceLT, Int.reduceLT, Int.reduceLE, ↓reduceIte, reduceCtorEq, ints, rows, rat, rats, ratsO, toShL_ratC, List.mem_cons, List.mem_nil_iff, List.not_mem_nil, or_false, false_or, exists_eq_left, exists_eq_left', exists_eq_right', Root.live.injEq, eq_self_iff_true, exists_eq, and_true, T.toSh, toShL_ints, toShL_intsO, intsO, rowsO]
  simp -implicitDefEqProofs only [go_sem, List.reduceReplicate, Nat.reduceEqDiff, Nat.reduceAdd, Nat.reduceLeDiff, Nat.reduceMul, Nat.reduceSub, Nat.reduceDiv, Int.reduceToNat, Nat.reduceLT, Int.reduceLT, Int.reduceLE, ↓reduceIte, reduceCtorEq, forall_apply_eq_imp_iff₂, ints, rows, rat, rats, toNat_cast]
  refine ⟨fun h => absurd h (by simp; omega), fun _ => ?_⟩
  refine SemC.loopR (σ := Nat) (fun i => St.of [(0, .t (ints w)), (3, .t (.i w.sum)), (6, .own 95), (7, .own 96), (8, .t (.i i))] [(95, .arr 1 ((quoL w.sum (w.take i)).map T.i)), (96, .arr 1 ((remL w.sum (w.take i)).map T.i))]) (fun i => i ≤ w.length) (fun i => w.length - i) 0 (Weak.of _ _ [some 28, some 29] (by simp) (by simp) ?_ ?_) (by omega) fun i hi R hn hr he => ?_
  · simp -implicitDefEqProofs only [ints, rows, Nat.reduceBEq, Int.add_zero, envOK, maA, maT, upd_apply, Nat.reduceEqDiff, ↓reduceIte, and_true, true_or, or_true, List.map_cons, List.map_nil, Nat.zero_ne_one, and_self, true_and, Int.natCast_zero, Int.cast_ofNat_Int, Int.ofNat_zero, piOf, List.zip_cons_cons, List.zip_nil_right, List.lookup_cons, List.lookup_nil, beq_self_eq_true, rootsOK, mkRoots, mkEnv]
  · exact ⟨⟨_, rfl, .refl _⟩, rfl, ⟨_, rfl, .refl _⟩, rfl, trivial⟩
  · simp -implicitDefEqProofs only [go_sem, List.reduceReplicate, Nat.reduceEqDiff, Nat.reduceAdd, Nat.reduceLeDiff, Nat.reduceMul, Nat.reduceSub, Nat.reduceDiv, Int.reduceToNat, Nat.reduceLT, Int.reduceLT, Int.reduceLE, ↓reduceIte, reduceCtorEq, forall_apply_eq_imp_iff₂, ints, rows, rat, rats, toNat_cast]
    refine ⟨fun h => ⟨by omega, by omega, by omega, fun x hx => ?_⟩, fun h => he _ _ ?_⟩
    · have hxb := hw3 x (List.mem_of_getElem? hx)
      have hq1 := Int.ediv_nonneg (a := 60 * x) (b := w.sum) (by omega) (by omega)
      have hq2 : 60 * x / w.sum ≤ 60 * x := Int.ediv_le_self _ (by omega)
      have hr1 := Int.emod_nonneg (60 * x) (show w.sum ≠ 0 by omega)
      have hr2 := Int.emod_lt_of_pos (60 * x) ht
      have e1 : IntKind.i64.wrap ((IntKind.i64.wrap (60 * x)).tdiv w.sum) = 60 * x / w.sum := by
        rw [wrap64 (n := 60 * x) (by omega) (by omega), Int.tdiv_eq_ediv_of_nonneg (by omega), wrap64 (by omega) (by omega)]
      have e2 : (IntKind.i64.wrap (60 * x)).tmod w.sum = 60 * x % w.sum := by
        rw [wrap64 (n := 60 * x) (by omega) (by omega), Int.tmod_eq_emod_of_nonneg (by omega)]
      simp only [e1]
      refine ⟨by omega, by rw [quoL, List.length_map, List.length_take]; omega, by omega, by omega, by omega, fun x' hx' => ?_⟩
      rw [hx] at hx'; cases hx'
      simp only [e2]
      refine ⟨by omega, by rw [remL, List.length_map, List.length_take]; omega, ?_⟩
      refine hn _ (i + 1) (Weak.of _ _ [some 45, some 55] (by simp) (by simp) ?_ ?_) (by omega) (by omega)
      · simp -implicitDefEqProofs only [ints, rows, Nat.reduceBEq, Int.add_zero, envOK, maA, maT, upd_apply, Nat.reduceEqDiff, ↓reduceIte, and_true, true_or, or_true, List.map_cons, List.map_nil, Nat.zero_ne_one, and_self, true_and, Int.natCast_zero, Int.cast_ofNat_Int, Int.ofNat_zero, piOf, List.zip_cons_cons, List.zip_nil_right, List.lookup_cons, List.lookup_nil, beq_self_eq_true, rootsOK, mkRoots, mkEnv, next64 (by omega : i < w.length) (by omega)]
      · refine ⟨⟨_, rfl, ?_⟩, rfl, ⟨_, rfl, ?_⟩, rfl, trivial⟩
        · rw [quoL_snoc hx, List.map_append]; exact .refl _
        · rw [remL_snoc hx, List.map_append]; exact .refl _
    · simp -implicitDefEqProofs only [go_sem, List.reduceReplicate, Nat.reduceEqDiff, Nat.reduceAdd, Nat.reduceLeDiff, Nat.reduceMul, Nat.reduceSub, Nat.reduceDiv, Int.reduceToNat, Nat.reduceLT, Int.reduceLT, Int.reduceLE, ↓reduceIte, reduceCtorEq, forall_apply_eq_imp_iff₂, ints, rows, rat, rats, toNat_cast]
      rw [show i = w.length by omega, List.take_length]
      have hst := ham_start (fun x hx => (hw3 x hx).1) ht
      have hqs := quo_small ⟨hw1, hw2, hw3⟩ ht
      refine CallW.pure (spec_l01Sum_ok (quoL w.sum w) hqs) [95] rfl Try.call149 ?_ (by first | trivial | simp [T.noSh, T.noShL, rat]) rfl ?_
      · simp -implicitDefEqProofs only [Int.natCast_zero, Int.cast_ofNat_Int, Int.natCast_one, Nat.le_refl, Nat.reduceLeDiff, Nat.sub_self, Nat.reduceSub, List.getElem?_cons_zero, List.getElem?_cons_succ, vt_self, vaL, vtL, va, vt, vb, maT, List.cons_append, List.nil_append, List.append_nil, true_or, or_true, go_sem, List.reduceReplicate, Nat.reduceEqDiff, Nat.reduceAdd, Nat.reduceLeDiff, Nat.reduceMul, Nat.reduceSub, Nat.reduceDiv, Int.reduceToNat, Nat.reduceLT, Int.reduceLT, Int.reduceLE, ↓reduceIte, reduceCtorEq, ints, rows, rat, rats, ratsO, toShL_ratC, List.mem_cons, List.mem_nil_iff, List.not_mem_nil, or_false, false_or, exists_eq_left, exists_eq_left', exists_eq_right', Root.live.injEq, eq_self_iff_true, exists_eq, and_true, T.toSh, toShL_ints, toShL_intsO, intsO, rowsO]
      simp -implicitDefEqProofs only [go_sem, List.reduceReplicate, Nat.reduceEqDiff, Nat.reduceAdd, Nat.reduceLeDiff, Nat.reduceMul, Nat.reduceSub, Nat.reduceDiv, Int.reduceToNat, Nat.reduceLT, Int.reduceLT, Int.reduceLE, ↓reduceIte, reduceCtorEq, forall_apply_eq_imp_iff₂, ints, rows, rat, rats, toNat_cast]
      have hsm := hst.sum
      have e60 : IntKind.i64.wrap (60 - (quoL w.sum w).sum) = (((60 - (quoL w.sum w).sum).toNat : Nat) : Int) := by
        have := smallL_sum hqs (quoL w.sum w).length
        rw [List.take_length] at this
        rw [wrap64 (by omega) (by omega)]; omega
      rw [e60]
      refine SemC.loopR (σ := Nat × List Int × List Int) (fun s => St.of [(6, .own 95), (7, .own 96), (9, .t (.i s.1))] [(95, .arr 1 (s.2.1.map T.i)), (96, .arr 1 (s.2.2.map T.i))]) (fun s => HamI w w.sum s.1 s.2.1 s.2.2 ∧ hamGo s.1 s.2.1 s.2.2 = ham1 w ∧ s.1 ≤ 60) (fun s => s.1) ((60 - (quoL w.sum w).sum).toNat, quoL w.sum w, remL w.sum w) (Weak.of _ _ [some 95, some 96] (by simp) (by simp) ?_ ?_) ⟨hst, rfl, by
        have := sum_nonneg' (w := quoL w.sum w) fun y hy => by
          obtain ⟨x, hx, rfl⟩ := List.mem_map.1 hy
          exact Int.ediv_nonneg (by have := hw3 x hx; omega) (by omega)
        simp only []; omega⟩ fun s hI R hn hr he => ?_
      · simp -implicitDefEqProofs only [ints, rows, Nat.reduceBEq, Int.add_zero, envOK, maA, maT, upd_apply, Nat.reduceEqDiff, ↓reduceIte, and_true, true_or, or_true, List.map_cons, List.map_nil, Nat.zero_ne_one, and_self, true_and, Int.natCast_zero, Int.cast_ofNat_Int, Int.ofNat_zero, piOf, List.zip_cons_cons, List.zip_nil_right, List.lookup_cons, List.lookup_nil, beq_self_eq_true, rootsOK, mkRoots, mkEnv]
      · exact ⟨⟨_, rfl, .refl _⟩, rfl, ⟨_, rfl, .refl _⟩, rfl, trivial⟩
      · obtain ⟨m, p, r⟩ := s
        obtain ⟨hH, hgo, hm60⟩ := hI
        (try simp only [] at hH hgo hm60)
        simp -implicitDefEqProofs only [go_sem, List.reduceReplicate, Nat.reduceEqDiff, Nat.reduceAdd, Nat.reduceLeDiff, Nat.reduceMul, Nat.reduceSub, Nat.reduceDiv, Int.reduceToNat, Nat.reduceLT, Int.reduceLT, Int.reduceLE, ↓reduceIte, reduceCtorEq, forall_apply_eq_imp_iff₂, ints, rows, rat, rats, toNat_cast]
        have hlp := hH.lp
        have hlr := hH.lr
        refine ⟨fun h => ?_, fun h => he _ _ ?_⟩
        · obtain ⟨m', rfl⟩ : ∃ m', m = m' + 1 := ⟨m - 1, by omega⟩
          obtain ⟨hb1, hb2⟩ := hH.best ht
          have hnext := hH.step ht
          refine SemC.loopR (σ := Nat) (fun k => St.of [(6, .own 95), (7, .own 96), (9, .t (.i (m' + 1 : Nat))), (10, .t (.i (maxI r k : Nat))), (11, .t (.i k))] [(95, .arr 1 (p.map T.i)), (96, .arr 1 (r.map T.i))]) (fun k => 1 ≤ k ∧ k ≤ r.length) (fun k => r.length - k) 1 (Weak.of _ _ [some 95, some 96] (by simp) (by simp) ?_ ?_) ⟨by omega, by omega⟩ fun k hk R2 hn2 hr2 he2 => ?_
          · simp -implicitDefEqProofs only [ints, rows, Nat.reduceBEq, Int.add_zero, envOK, maA, maT, upd_apply, Nat.reduceEqDiff, ↓reduceIte, and_true, true_or, or_true, List.map_cons, List.map_nil, Nat.zero_ne_one, and_self, true_and, Int.natCast_zero, Int.cast_ofNat_Int, Int.ofNat_zero, piOf, List.zip_cons_cons, List.zip_nil_right, List.lookup_cons, List.lookup_nil, beq_self_eq_true, rootsOK, mkRoots, mkEnv, maxI_one]
          · exact ⟨⟨_, rfl, .refl _⟩, rfl, ⟨_, rfl, .refl _⟩, rfl, trivial⟩
          · simp -implicitDefEqProofs only [go_sem, List.reduceReplicate, Nat.reduceEqDiff, Nat.reduceAdd, Nat.reduceLeDiff, Nat.reduceMul, Nat.reduceSub, Nat.reduceDiv, Int.reduceToNat, Nat.reduceLT, Int.reduceLT, Int.reduceLE, ↓reduceIte, reduceCtorEq, forall_apply_eq_imp_iff₂, ints, rows, rat, rats, toNat_cast]
            refine ⟨fun h => ?_, fun h => he2 _ _ ?_⟩
            · have hkl : k < r.length := by omega
              obtain ⟨x, hx⟩ : ∃ x, r[k]? = some x := ⟨_, List.getElem?_eq_getElem hkl⟩
              have hml := maxI_lt r k (by omega) (by omega)
              obtain ⟨y, hy⟩ : ∃ y, r[maxI r k]? = some y := ⟨_, List.getElem?_eq_getElem hml⟩
              have hms : maxI r (k + 1) = if y < x then k else maxI r k := by
                rw [maxI, List.getD_eq_getElem?_getD, List.getD_eq_getElem?_getD, hx, hy]; rfl
              refine ⟨by omega, by omega, by omega, fun x' hx' => ⟨by omega, by omega, by omega, fun y' hy' => ?_⟩⟩
              rw [hx] at hx'; cases hx'
              rw [hy] at hy'; cases hy'
              refine ⟨fun hc => ?_, fun hc => ?_⟩
              · rw [if_pos (by omega)] at hms
                refine hn2 _ (k + 1) (Weak.of _ _ [some 95, some 96] (by simp) (by simp) ?_ ?_) ⟨by omega, by omega⟩ (by omega)
                · simp -implicitDefEqProofs only [ints, rows, Nat.reduceBEq, Int.add_zero, envOK, maA, maT, upd_apply, Nat.reduceEqDiff, ↓reduceIte, and_true, true_or, or_true, List.map_cons, List.map_nil, Nat.zero_ne_one, and_self, true_and, Int.natCast_zero, Int.cast_ofNat_Int, Int.ofNat_zero, piOf, List.zip_cons_cons, List.zip_nil_right, List.lookup_cons, List.lookup_nil, beq_self_eq_true, rootsOK, mkRoots, mkEnv, next64 hkl (by omega), hms]
                · exact ⟨⟨_, rfl, .refl _⟩, rfl, ⟨_, rfl, .refl _⟩, rfl, trivial⟩
              · rw [if_neg (by omega)] at hms
                refine hn2 _ (k + 1) (Weak.of _ _ [some 95, some 96] (by simp) (by simp) ?_ ?_) ⟨by omega, by omega⟩ (by omega)
                · simp -implicitDefEqProofs only [ints, rows, Nat.reduceBEq, Int.add_zero, envOK, maA, maT, upd_apply, Nat.reduceEqDiff, ↓reduceIte, and_true, true_or, or_true, List.map_cons, List.map_nil, Nat.zero_ne_one, and_self, true_and, Int.natCast_zero, Int.cast_ofNat_Int, Int.ofNat_zero, piOf, List.zip_cons_cons, List.zip_nil_right, List.lookup_cons, List.lookup_nil, beq_self_eq_true, rootsOK, mkRoots, mkEnv, next64 hkl (by omega), hms]
                · exact ⟨⟨_, rfl, .refl _⟩, rfl, ⟨_, rfl, .refl _⟩, rfl, trivial⟩
            · simp -implicitDefEqProofs only [go_sem, List.reduceReplicate, Nat.reduceEqDiff, Nat.reduceAdd, Nat.reduceLeDiff, Nat.reduceMul, Nat.reduceSub, Nat.reduceDiv, Int.reduceToNat, Nat.reduceLT, Int.reduceLT, Int.reduceLE, ↓reduceIte, reduceCtorEq, forall_apply_eq_imp_iff₂, ints, rows, rat, rats, toNat_cast]
              have hk' : k = r.length := by omega
              subst hk'
              have hsm := hH.small ht hb1 (hw3 _ (by rw [List.getD_eq_getElem?_getD, List.getElem?_eq_getElem hb1]; exact List.getElem_mem _))
              refine ⟨by omega, by omega, by omega, fun a ha => ?_⟩
              have hg : p.getD (maxI r r.length) 0 = a := by rw [List.getD_eq_getElem?_getD, ha]; rfl
              rw [hg] at hsm hnext
              rw [wrap64 (n := a + 1) (by omega) (by omega)]
              refine ⟨by omega, by omega, by omega, by omega, by omega, by omega, ?_⟩
              refine hn _ (m', p.set (maxI r r.length) (a + 1), r.set (maxI r r.length) (-1)) (Weak.of _ _ [some 95, some 96] (by simp) (by simp) ?_ ?_) ⟨hnext, by rw [← hgo, hamGo, hg], by simp only []; omega⟩ (by simp only []; omega)
              · have e : IntKind.i64.wrap (((m' + 1 : Nat) : Int) - 1) = (m' : Int) := by rw [wrap64 (by omega) (by omega)]; omega
                simp -implicitDefEqProofs only [ints, rows, Nat.reduceBEq, Int.add_zero, envOK, maA, maT, upd_apply, Nat.reduceEqDiff, ↓reduceIte, and_true, true_or, or_true, List.map_cons, List.map_nil, Nat.zero_ne_one, and_self, true_and, Int.natCast_zero, Int.cast_ofNat_Int, Int.ofNat_zero, piOf, List.zip_cons_cons, List.zip_nil_right, List.lookup_cons, List.lookup_nil, beq_self_eq_true, rootsOK, mkRoots, mkEnv, e]
              · refine ⟨⟨_, rfl, ?_⟩, rfl, ⟨_, rfl, ?_⟩, rfl, trivial⟩
                · rw [List.map_set]; exact .refl _
                · rw [List.map_set]; exact .refl _
        · simp -implicitDefEqProofs only [go_sem, List.reduceReplicate, Nat.reduceEqDiff, Nat.reduceAdd, Nat.reduceLeDiff, Nat.reduceMul, Nat.reduceSub, Nat.reduceDiv, Int.reduceToNat, Nat.reduceLT, Int.reduceLT, Int.reduceLE, ↓reduceIte, reduceCtorEq, forall_apply_eq_imp_iff₂, ints, rows, rat, rats, toNat_cast]
          have hm0 : m = 0 := by omega
          subst hm0
          rw [← hgo, hamGo]; rfl
end Go.Ab

/- Contracts: parts of weights that are all 0; slices.Index. -/
set_option linter.unusedSimpArgs false
set_option linter.unusedVariables false
namespace Go.Ab
open Go.Proofs

theorem ones_ok {w : List Int} (h : weightsOK w) : weightsOK (onesL w) := ⟨by have := h.1; simpa [onesL] using this, by have := h.2.1; simpa [onesL] using this, fun x hx => by simp [onesL] at hx; omega⟩
theorem ones_snoc {w : List Int} {i : Nat} {x : Int} (h : w[i]? = some x) : onesL (w.take (i + 1)) = onesL (w.take i) ++ [1] := by rw [take_snoc h]; simp [onesL]
theorem spec_l22Parts_ok (w : List Int) (hw : weightsOK w) : Fun Try.prog 101 [] [.t (ints w)] fun o r => o = [] ∧ r = intsO (ham w) := by
  have hs := weights_small hw
  have hs0 := sum_nonneg' (w := w) fun x hx => (hw.2.2 x hx).1
  by_cases h0 : w.sum = 0
  · rw [ham, if_pos h0]
    have ho := spec_l22Parts1_ok (onesL w) (ones_ok hw) (by rw [ones_sum]; have := hw.1; omega)
    obtain ⟨hw1, hw2, hw3⟩ := hw
    refine fun_spec_l22Parts (by simp) ?_
    simp -implicitDefEqProofs only [go_sem, List.reduceReplicate, Nat.reduceEqDiff, Nat.reduceAdd, Nat.reduceLeDiff, Nat.reduceMul, Nat.reduceSub, Nat.reduceDiv, Int.reduceToNat, Nat.reduceLT, Int.reduceLT, Int.reduceLE, ↓reduceIte, reduceCtorEq, forall_apply_eq_imp_iff₂, ints, rows, rat, rats, toNat_cast, c_spec_l22Parts]
    refine CallW.pure (spec_l01Sum_ok w hs) [] rfl Try.call149 ?_ (by first | trivial | simp [T.noSh, T.noShL, rat]) rfl ?_
    · simp -implicitDefEqProofs only [Int.natCast_zero, Int.cast_ofNat_Int, Int.natCast_one, Nat.le_refl, Nat.reduceLeDiff, Nat.sub_self, Nat.reduceSub, List.getElem?_cons_zero, List.getElem?_cons_succ, vt_self, vaL, vtL, va, vt, vb, maT, List.cons_append, List.nil_append, List.append_nil, true_or, or_true, go_sem, List.reduceReplicate, Nat.reduceEqDiff, Nat.reduceAdd, Nat.reduceLeDiff, Nat.reduceMul, Nat.reduceSub, Nat.reduceDiv, Int.reduceToNat, Nat.reduceLT, Int.reduceLT, Int.reduceLE, ↓reduceIte, reduceCtorEq, ints, rows, rat, rats, ratsO, toShL_ratC, List.mem_cons, List.mem_nil_iff, List.not_mem_nil, or_false, false_or, exists_eq_left, exists_eq_left', exists_eq_right', Root.live.injEq, eq_self_iff_true, exists_eq, and_true, T.toSh, toShL_ints, toShL_intsO, intsO, rowsO]
    simp -implicitDefEqProofs only [go_sem, List.reduceReplicate, Nat.reduceEqDiff, Nat.reduceAdd, Nat.reduceLeDiff, Nat.reduceMul, Nat.reduceSub, Nat.reduceDiv, Int.reduceToNat, Nat.reduceLT, Int.reduceLT, Int.reduceLE, ↓reduceIte, reduceCtorEq, forall_apply_eq_imp_iff₂, ints, rows, rat, rats, toNat_cast]
    refine ⟨fun _ => ?_, fun h => absurd h (by simp [h0])⟩
    refine SemC.loopR (σ := Nat) (fun i => St.of [(0, .t (ints w)), (4, .own 95), (5, .t (.i i))] [(95, .arr 1 ((onesL (w.take i)).map T.i))]) (fun i => i ≤ w.length) (fun i => w.length - i) 0 (Weak.of _ _ [some 16] (by simp) (by simp) ?_ ?_) (by omega) fun i hi R hn hr he => ?_
    · simp -implicitDefEqProofs only [ints, rows, Nat.reduceBEq, Int.add_zero, envOK, maA, maT, upd_apply, Nat.reduceEqDiff, ↓reduceIte, and_true, true_or, or_true, List.map_cons, List.map_nil, Nat.zero_ne_one, and_self, true_and, Int.natCast_zero, Int.cast_ofNat_Int, Int.ofNat_zero, piOf, List.zip_cons_cons, List.zip_nil_right, List.lookup_cons, List.lookup_nil, beq_self_eq_true, rootsOK, mkRoots, mkEnv]
    · exact ⟨⟨_, rfl, .refl _⟩, rfl, trivial⟩
    · simp -implicitDefEqProofs only [go_sem, List.reduceReplicate, Nat.reduceEqDiff, Nat.reduceAdd, Nat.reduceLeDiff, Nat.reduceMul, Nat.reduceSub, Nat.reduceDiv, Int.reduceToNat, Nat.reduceLT, Int.reduceLT, Int.reduceLE, ↓reduceIte, reduceCtorEq, forall_apply_eq_imp_iff₂, ints, rows, rat, rats, toNat_cast]
      refine ⟨fun h => ?_, fun h => he _ _ ?_⟩
      · obtain ⟨x, hx⟩ : ∃ x, w[i]? = some x := ⟨_, List.getElem?_eq_getElem (by omega)⟩
        refine ⟨by rw [onesL, List.length_map, List.length_take]; omega, hn _ (i + 1) (Weak.of _ _ [some 25] (by simp) (by simp) ?_ ?_) (by omega) (by omega)⟩
        · simp -implicitDefEqProofs only [ints, rows, Nat.reduceBEq, Int.add_zero, envOK, maA, maT, upd_apply, Nat.reduceEqDiff, ↓reduceIte, and_true, true_or, or_true, List.map_cons, List.map_nil, Nat.zero_ne_one, and_self, true_and, Int.natCast_zero, Int.cast_ofNat_Int, Int.ofNat_zero, piOf, List.zip_cons_cons, List.zip_nil_right, List.lookup_cons, List.lookup_nil, beq_self_eq_true, rootsOK, mkRoots, mkEnv, next64 (by omega : i < w.length) (by omega)]
        · refine ⟨⟨_, rfl, ?_⟩, rfl, trivial⟩
          rw [ones_snoc hx, List.map_append]; exact .refl _
      · simp -implicitDefEqProofs only [go_sem, List.reduceReplicate, Nat.reduceEqDiff, Nat.reduceAdd, Nat.reduceLeDiff, Nat.reduceMul, Nat.reduceSub, Nat.reduceDiv, Int.reduceToNat, Nat.reduceLT, Int.reduceLT, Int.reduceLE, ↓reduceIte, reduceCtorEq, forall_apply_eq_imp_iff₂, ints, rows, rat, rats, toNat_cast]
        rw [show i = w.length by omega, List.take_length]
        refine CallW.res ho [95] rfl Try.call101 ?_ (.inr (intsO_noSh _)) ?_
        · simp -implicitDefEqProofs only [Int.natCast_zero, Int.cast_ofNat_Int, Int.natCast_one, Nat.le_refl, Nat.reduceLeDiff, Nat.sub_self, Nat.reduceSub, List.getElem?_cons_zero, List.getElem?_cons_succ, vt_self, vaL, vtL, va, vt, vb, maT, List.cons_append, List.nil_append, List.append_nil, true_or, or_true, go_sem, List.reduceReplicate, Nat.reduceEqDiff, Nat.reduceAdd, Nat.reduceLeDiff, Nat.reduceMul, Nat.reduceSub, Nat.reduceDiv, Int.reduceToNat, Nat.reduceLT, Int.reduceLT, Int.reduceLE, ↓reduceIte, reduceCtorEq, ints, rows, rat, rats, ratsO, toShL_ratC, List.mem_cons, List.mem_nil_iff, List.not_mem_nil, or_false, false_or, exists_eq_left, exists_eq_left', exists_eq_right', Root.live.injEq, eq_self_iff_true, exists_eq, and_true, T.toSh, toShL_ints, toShL_intsO, intsO, rowsO]
        simp -implicitDefEqProofs only [List.append_nil, List.cons_append, Nat.reduceLeDiff, afterCall, absT_rowsO, absT_intsO, absT, absL, updL, updS, freeAll, rid, T.noSh, T.noShL, Nat.zero_le, go_sem, List.reduceReplicate, Nat.reduceEqDiff, Nat.reduceAdd, Nat.reduceLeDiff, Nat.reduceMul, Nat.reduceSub, Nat.reduceDiv, Int.reduceToNat, Nat.reduceLT, Int.reduceLT, Int.reduceLE, ↓reduceIte, reduceCtorEq, rat, forall_apply_eq_imp_iff₂, toNat_cast]
  · rw [ham, if_neg h0]
    exact spec_l22Parts1_ok w hw (by omega)
theorem maxI_val (r : List Int) : ∀ k, 1 ≤ k → k ≤ r.length → maxL (r.take k) = r.getD (maxI r k) 0
  | 0, h, _ => by omega
  | 1, _, h => by
    rw [maxI_one]
    cases r with
    | nil => simp at h
    | cons a r => simp [maxL]
  | k + 2, _, h => by
    have ih := maxI_val r (k + 1) (by omega) (by omega)
    obtain ⟨x, hx⟩ : ∃ x, r[k + 1]? = some x := ⟨_, List.getElem?_eq_getElem (by omega)⟩
    have hg : r.getD (k + 1) 0 = x := by rw [List.getD_eq_getElem?_getD, hx]; rfl
    rw [take_snoc hx, maxL_snoc (List.ne_nil_of_length_pos (by rw [List.length_take]; omega)), ih]
    show _ = r.getD (if r.getD (maxI r (k + 1)) 0 < r.getD (k + 1) 0 then k + 1 else maxI r (k + 1)) 0
    rw [hg]
    split
    · rw [hg]; omega
    · omega
theorem slices_Index_ok (r : List Int) (hr : r.length ≤ 1000000) (h0 : 0 < r.length) : Pure Try.prog 148 [ints r, .i (maxL r)] (.i (maxI r r.length : Nat)) := by
  refine fun_slices_Index___int64_int64_ (by simp) ?_
  simp -implicitDefEqProofs only [go_sem, List.reduceReplicate, Nat.reduceEqDiff, Nat.reduceAdd, Nat.reduceLeDiff, Nat.reduceMul, Nat.reduceSub, Nat.reduceDiv, Int.reduceToNat, Nat.reduceLT, Int.reduceLT, Int.reduceLE, ↓reduceIte, reduceCtorEq, forall_apply_eq_imp_iff₂, ints, rows, rat, rats, toNat_cast, c_slices_Index___int64_int64_]
  refine SemC.loopR (σ := Nat) (fun i => St.of [(0, .t (ints r)), (1, .t (.i (maxL r))), (7, .t (.i r.length)), (8, .t (.i i))] []) (fun i => i ≤ maxI r r.length) (fun i => r.length - i) 0 (Weak.of _ [] [] (by simp) (by simp) ?_ trivial) (by omega) fun i hi R hn hr' he => ?_
  · simp -implicitDefEqProofs only [ints, rows, Nat.reduceBEq, Int.add_zero, envOK, maA, maT, upd_apply, Nat.reduceEqDiff, ↓reduceIte, and_true, true_or, or_true, List.map_cons, List.map_nil, Nat.zero_ne_one, and_self, true_and, Int.natCast_zero, Int.cast_ofNat_Int, Int.ofNat_zero, piOf, List.zip_cons_cons, List.zip_nil_right, List.lookup_cons, List.lookup_nil, beq_self_eq_true, rootsOK, mkRoots, mkEnv]
  · simp -implicitDefEqProofs only [go_sem, List.reduceReplicate, Nat.reduceEqDiff, Nat.reduceAdd, Nat.reduceLeDiff, Nat.reduceMul, Nat.reduceSub, Nat.reduceDiv, Int.reduceToNat, Nat.reduceLT, Int.reduceLT, Int.reduceLE, ↓reduceIte, reduceCtorEq, forall_apply_eq_imp_iff₂, ints, rows, rat, rats, toNat_cast]
    have hv := maxI_val r r.length (by omega) (by omega)
    rw [List.take_length] at hv
    have hml := maxI_lt r r.length (Nat.le_refl _) h0
    refine ⟨fun h => ⟨by omega, by omega, by omega, fun x hx => ⟨fun hc => hr' _ ?_, fun hc => ?_⟩⟩, fun h => by omega⟩
    · have hg : r.getD i 0 = x := by rw [List.getD_eq_getElem?_getD, hx]; rfl
      have e : i = maxI r r.length := by
        by_cases hlt : i < maxI r r.length
        · have := maxI_first r r.length i hlt
          have hc : maxL r = x := by simpa using hc
          omega
        · omega
      simp -implicitDefEqProofs only [go_sem, List.reduceReplicate, Nat.reduceEqDiff, Nat.reduceAdd, Nat.reduceLeDiff, Nat.reduceMul, Nat.reduceSub, Nat.reduceDiv, Int.reduceToNat, Nat.reduceLT, Int.reduceLT, Int.reduceLE, ↓reduceIte, reduceCtorEq, forall_apply_eq_imp_iff₂, ints, rows, rat, rats, toNat_cast]
      rw [← e]
    · have hg : r.getD i 0 = x := by rw [List.getD_eq_getElem?_getD, hx]; rfl
      have hne : i ≠ maxI r r.length := by
        intro e
        rw [← e, hg] at hv
        simp [hv] at hc
      refine hn _ (i + 1) (Weak.of _ [] [] (by simp) (by simp) ?_ trivial) (by omega) (by omega)
      simp -implicitDefEqProofs only [ints, rows, Nat.reduceBEq, Int.add_zero, envOK, maA, maT, upd_apply, Nat.reduceEqDiff, ↓reduceIte, and_true, true_or, or_true, List.map_cons, List.map_nil, Nat.zero_ne_one, and_self, true_and, Int.natCast_zero, Int.cast_ofNat_Int, Int.ofNat_zero, piOf, List.zip_cons_cons, List.zip_nil_right, List.lookup_cons, List.lookup_nil, beq_self_eq_true, rootsOK, mkRoots, mkEnv, next64 (by omega : i < r.length) (by omega)]
end Go.Ab

/- Contracts: parts, the program's. -/
set_option linter.unusedSimpArgs false
set_option linter.unusedVariables false
namespace Go.Ab
open Go.Proofs

/-- The weights that count. -/
def useL (w : List Int) : List Int := if w.sum = 0 then onesL w else w
theorem ham_use (w : List Int) : ham w = ham1 (useL w) := by unfold ham useL; split <;> rfl
theorem use_length (w : List Int) : (useL w).length = w.length := by unfold useL; split <;> simp [onesL]
theorem use_pos {w : List Int} (h : weightsOK w) : 0 < (useL w).sum := by
  have hs0 := sum_nonneg' (w := w) fun x hx => (h.2.2 x hx).1
  have := h.1
  unfold useL; split
  · rw [ones_sum]; omega
  · omega
theorem use_ok {w : List Int} (h : weightsOK w) : weightsOK (useL w) := by
  unfold useL; split
  · exact ones_ok h
  · exact h
theorem filled_get {α : Type} {l : List α} {f : α → T} {z : T} {i : Nat} {x : α} (h : l[i]? = some x) : (filled l f z (i + 1))[i]? = some (f x) := by
  obtain ⟨hi, rfl⟩ := List.getElem?_eq_some_iff.1 h
  simp only [filled]
  rw [List.getElem?_append_left (by rw [List.length_map, List.length_take]; omega), List.getElem?_map, List.getElem?_take, if_pos (by omega), List.getElem?_eq_getElem hi]
  rfl
theorem impl_partsOf_ok (w : List Int) (hw : weightsOK w) : Fun Try.prog 99 [] [.t (ints w)] fun o r => o = [] ∧ r = intsO (ham w) := by
  have hs := weights_small hw
  have hu := use_ok hw
  have ht := use_pos hw
  have hul := use_length w
  rw [ham_use]
  have hsum0 := sum_nonneg' (w := w) fun x hx => (hw.2.2 x hx).1
  have hsum : w.sum ≤ 1000000000000000 := by have := smallL_sum hs w.length; rw [List.take_length] at this; omega
  have husum : (useL w).sum ≤ 1000000000000000 := by have := smallL_sum (weights_small hu) (useL w).length; rw [List.take_length] at this; omega
  have hql : (quoL (useL w).sum (useL w)).length = w.length := by simp [quoL, hul]
  have hrl : (remL (useL w).sum (useL w)).length = w.length := by simp [remL, hul]
  obtain ⟨hw1, hw2, hw3⟩ := hw
  refine fun_impl_partsOf (by simp) ?_
  simp -implicitDefEqProofs only [go_sem, List.reduceReplicate, Nat.reduceEqDiff, Nat.reduceAdd, Nat.reduceLeDiff, Nat.reduceMul, Nat.reduceSub, Nat.reduceDiv, Int.reduceToNat, Nat.reduceLT, Int.reduceLT, Int.reduceLE, ↓reduceIte, reduceCtorEq, forall_apply_eq_imp_iff₂, ints, rows, rat, rats, toNat_cast, c_impl_partsOf]
  refine CallW.pure (impl_sumOf_ok w hs) [] rfl Try.call147 ?_ (by first | trivial | simp [T.noSh, T.noShL, rat]) rfl ?_
  · simp -implicitDefEqProofs only [Int.natCast_zero, Int.cast_ofNat_Int, Int.natCast_one, Nat.le_refl, Nat.reduceLeDiff, Nat.sub_self, Nat.reduceSub, List.getElem?_cons_zero, List.getElem?_cons_succ, vt_self, vaL, vtL, va, vt, vb, maT, List.cons_append, List.nil_append, List.append_nil, true_or, or_true, go_sem, List.reduceReplicate, Nat.reduceEqDiff, Nat.reduceAdd, Nat.reduceLeDiff, Nat.reduceMul, Nat.reduceSub, Nat.reduceDiv, Int.reduceToNat, Nat.reduceLT, Int.reduceLT, Int.reduceLE, ↓reduceIte, reduceCtorEq, ints, rows, rat, rats, ratsO, toShL_ratC, List.mem_cons, List.mem_nil_iff, List.not_mem_nil, or_false, false_or, exists_eq_left, exists_eq_left', exists_eq_right', Root.live.injEq, eq_self_iff_true, exists_eq, and_true, T.toSh, toShL_ints, toShL_intsO, intsO, rowsO]
  simp -implicitDefEqProofs only [go_sem, List.reduceReplicate, Nat.reduceEqDiff, Nat.reduceAdd, Nat.reduceLeDiff, Nat.reduceMul, Nat.reduceSub, Nat.reduceDiv, Int.reduceToNat, Nat.reduceLT, Int.reduceLT, Int.reduceLE, ↓reduceIte, reduceCtorEq, forall_apply_eq_imp_iff₂, ints, rows, rat, rats, toNat_cast]
  refine ⟨by omega, by omega, by omega, by omega, ?_⟩
  refine SemC.loopR (σ := Nat) (fun i => St.of [(0, .t (ints w)), (3, .t (.i w.sum)), (4, .own 14), (5, .own 17), (6, .t (.i (60 - ((quoL (useL w).sum (useL w)).take i).sum))), (18, .t (ints w)), (19, .t (.i w.length)), (20, .t (.i i))] [(14, .arr 1 (filled (quoL (useL w).sum (useL w)) T.i (T.i 0) i)), (17, .arr 1 (filled (remL (useL w).sum (useL w)) T.i (T.i 0) i))]) (fun i => i ≤ w.length) (fun i => w.length - i) 0 (Weak.of _ _ [some 14, some 17] (by simp) (by simp) ?_ ?_) (by omega) fun i hi R hn hr he => ?_
  · simp -implicitDefEqProofs only [ints, rows, Nat.reduceBEq, Int.add_zero, envOK, maA, maT, upd_apply, Nat.reduceEqDiff, ↓reduceIte, and_true, true_or, or_true, List.map_cons, List.map_nil, Nat.zero_ne_one, and_self, true_and, Int.natCast_zero, Int.cast_ofNat_Int, Int.ofNat_zero, piOf, List.zip_cons_cons, List.zip_nil_right, List.lookup_cons, List.lookup_nil, beq_self_eq_true, rootsOK, mkRoots, mkEnv, List.take_zero, List.sum_nil, Int.sub_zero]
  · refine ⟨⟨_, rfl, ?_⟩, rfl, ⟨_, rfl, ?_⟩, rfl, trivial⟩
    · rw [filled_zero, hql, made_one]; exact .refl _
    · rw [filled_zero, hrl, made_one]; exact .refl _
  · simp -implicitDefEqProofs only [go_sem, List.reduceReplicate, Nat.reduceEqDiff, Nat.reduceAdd, Nat.reduceLeDiff, Nat.reduceMul, Nat.reduceSub, Nat.reduceDiv, Int.reduceToNat, Nat.reduceLT, Int.reduceLT, Int.reduceLE, ↓reduceIte, reduceCtorEq, forall_apply_eq_imp_iff₂, ints, rows, rat, rats, toNat_cast]
    refine ⟨fun h => ⟨by omega, by omega, by omega, fun x hx => ?_⟩, fun h => he _ _ ?_⟩
    · have hxb := hw3 x (List.mem_of_getElem? hx)
      obtain ⟨ux, hux⟩ : ∃ y, (useL w)[i]? = some y := ⟨_, List.getElem?_eq_getElem (by omega)⟩
      have hq : (quoL (useL w).sum (useL w))[i]? = some (60 * ux / (useL w).sum) := by rw [quoL, List.getElem?_map, hux]; rfl
      have hr' : (remL (useL w).sum (useL w))[i]? = some (60 * ux % (useL w).sum) := by rw [remL, List.getElem?_map, hux]; rfl
      have hqs := quo_small hu ht
      have hb1 := smallL_sum hqs i
      have hb2 := smallL_sum hqs (i + 1)
      have hss := sum_snoc ((quoL (useL w).sum (useL w)).take i) (60 * ux / (useL w).sum)
      rw [← take_snoc hq] at hss
      have hls : IntKind.i64.wrap (60 - ((quoL (useL w).sum (useL w)).take i).sum - 60 * ux / (useL w).sum) = 60 - ((quoL (useL w).sum (useL w)).take (i + 1)).sum := by
        rw [wrap64 (by omega) (by omega), hss]; omega
      have hfq := filled_set (f := T.i) (z := T.i 0) hq
      have hfr := filled_set (f := T.i) (z := T.i 0) hr'
      have hfl1 := filled_length (quoL (useL w).sum (useL w)) T.i (T.i 0) i (by omega)
      have hfl2 := filled_length (remL (useL w).sum (useL w)) T.i (T.i 0) i (by omega)
      have hget := filled_get (f := T.i) (z := T.i 0) hq
      have hcase : (w.sum = 0 ∧ ux = 1 ∧ (useL w).sum = w.length) ∨ (w.sum ≠ 0 ∧ ux = x ∧ (useL w).sum = w.sum) := by
        unfold useL at hux ⊢
        split at hux
        · rename_i h0
          rw [if_pos h0, ones_sum]
          rw [onesL, List.getElem?_map, hx] at hux
          exact .inl ⟨h0, by simpa using hux.symm, rfl⟩
        · rename_i h0
          rw [if_neg h0]
          rw [hx] at hux
          exact .inr ⟨h0, by simpa using hux.symm, rfl⟩
      refine ⟨fun h0 => ?_, fun h0 => ?_⟩
      · have h0 : w.sum = 0 := by simpa using h0
        obtain ⟨_, hu1, hu2⟩ := hcase.resolve_right (fun h => h.1 h0)
        have e1 : IntKind.i64.wrap (Int.tdiv 60 (w.length : Int)) = 60 * ux / (useL w).sum := by
          have := Int.ediv_nonneg (a := 60) (b := (w.length : Int)) (by omega) (by omega)
          have := Int.ediv_le_self (a := 60) (w.length : Int) (by omega)
          rw [Int.tdiv_eq_ediv_of_nonneg (by omega), wrap64 (by omega) (by omega), hu1, hu2]; rfl
        have e2 : Int.tmod 60 (w.length : Int) = 60 * ux % (useL w).sum := by
          rw [Int.tmod_eq_emod_of_nonneg (by omega), hu1, hu2]; rfl
        simp only [e1, e2, hfq, hfr]
        refine ⟨by omega, by omega, by omega, by omega, by omega, by omega, by omega, by omega, by omega, by omega, by omega, fun c hc => ?_⟩
        rw [hget] at hc; cases hc
        refine ⟨rfl, rfl, ?_⟩
        simp only [hls]
        refine hn _ (i + 1) (Weak.of _ _ [some 14, some 17] (by simp) (by simp) ?_ ?_) (by omega) (by omega)
        · simp -implicitDefEqProofs only [ints, rows, Nat.reduceBEq, Int.add_zero, envOK, maA, maT, upd_apply, Nat.reduceEqDiff, ↓reduceIte, and_true, true_or, or_true, List.map_cons, List.map_nil, Nat.zero_ne_one, and_self, true_and, Int.natCast_zero, Int.cast_ofNat_Int, Int.ofNat_zero, piOf, List.zip_cons_cons, List.zip_nil_right, List.lookup_cons, List.lookup_nil, beq_self_eq_true, rootsOK, mkRoots, mkEnv, next64 (by omega : i < w.length) (by omega)]
        · exact ⟨⟨_, rfl, .refl _⟩, rfl, ⟨_, rfl, .refl _⟩, rfl, trivial⟩
      · have h0 : w.sum ≠ 0 := by simpa using h0
        obtain ⟨_, hu1, hu2⟩ := hcase.resolve_left (fun h => h0 h.1)
        have hq1 := Int.ediv_nonneg (a := 60 * x) (b := w.sum) (by omega) (by omega)
        have hq2 : 60 * x / w.sum ≤ 60 * x := Int.ediv_le_self _ (by omega)
        have e1 : IntKind.i64.wrap ((IntKind.i64.wrap (60 * x)).tdiv w.sum) = 60 * ux / (useL w).sum := by
          rw [wrap64 (n := 60 * x) (by omega) (by omega), Int.tdiv_eq_ediv_of_nonneg (by omega), wrap64 (by omega) (by omega), hu1, hu2]
        have e2 : (IntKind.i64.wrap (60 * x)).tmod w.sum = 60 * ux % (useL w).sum := by
          rw [wrap64 (n := 60 * x) (by omega) (by omega), Int.tmod_eq_emod_of_nonneg (by omega), hu1, hu2]
        simp only [e1, e2, hfq, hfr]
        refine ⟨by omega, by omega, by omega, by omega, by omega, by omega, by omega, by omega, by omega, by omega, by omega, fun c hc => ?_⟩
        rw [hget] at hc; cases hc
        refine ⟨rfl, rfl, ?_⟩
        simp only [hls]
        refine hn _ (i + 1) (Weak.of _ _ [some 14, some 17] (by simp) (by simp) ?_ ?_) (by omega) (by omega)
        · simp -implicitDefEqProofs only [ints, rows, Nat.reduceBEq, Int.add_zero, envOK, maA, maT, upd_apply, Nat.reduceEqDiff, ↓reduceIte, and_true, true_or, or_true, List.map_cons, List.map_nil, Nat.zero_ne_one, and_self, true_and, Int.natCast_zero, Int.cast_ofNat_Int, Int.ofNat_zero, piOf, List.zip_cons_cons, List.zip_nil_right, List.lookup_cons, List.lookup_nil, beq_self_eq_true, rootsOK, mkRoots, mkEnv, next64 (by omega : i < w.length) (by omega)]
        · exact ⟨⟨_, rfl, .refl _⟩, rfl, ⟨_, rfl, .refl _⟩, rfl, trivial⟩
    · simp -implicitDefEqProofs only [go_sem, List.reduceReplicate, Nat.reduceEqDiff, Nat.reduceAdd, Nat.reduceLeDiff, Nat.reduceMul, Nat.reduceSub, Nat.reduceDiv, Int.reduceToNat, Nat.reduceLT, Int.reduceLT, Int.reduceLE, ↓reduceIte, reduceCtorEq, forall_apply_eq_imp_iff₂, ints, rows, rat, rats, toNat_cast]
      have f1 : filled (quoL (useL w).sum (useL w)) T.i (T.i 0) i = (quoL (useL w).sum (useL w)).map T.i := by rw [show i = (quoL (useL w).sum (useL w)).length by omega, filled_all]
      have f2 : filled (remL (useL w).sum (useL w)) T.i (T.i 0) i = (remL (useL w).sum (useL w)).map T.i := by rw [show i = (remL (useL w).sum (useL w)).length by omega, filled_all]
      have f3 : (quoL (useL w).sum (useL w)).take i = quoL (useL w).sum (useL w) := List.take_of_length_le (by omega)
      rw [f1, f2, f3]
      have hst := ham_start (fun x hx => (hu.2.2 x hx).1) ht
      have hsm := hst.sum
      have hqn := sum_nonneg' (w := quoL (useL w).sum (useL w)) fun y hy => by
        obtain ⟨x, hx, rfl⟩ := List.mem_map.1 hy
        exact Int.ediv_nonneg (by have := hu.2.2 x hx; omega) (by omega)
      refine SemC.loopR (σ := Nat × List Int × List Int) (fun s => St.of [(4, .own 14), (5, .own 17), (6, .t (.i s.1))] [(14, .arr 1 (s.2.1.map T.i)), (17, .arr 1 (s.2.2.map T.i))]) (fun s => HamI (useL w) (useL w).sum s.1 s.2.1 s.2.2 ∧ hamGo s.1 s.2.1 s.2.2 = ham1 (useL w) ∧ s.1 ≤ 60) (fun s => s.1) ((60 - (quoL (useL w).sum (useL w)).sum).toNat, quoL (useL w).sum (useL w), remL (useL w).sum (useL w)) (Weak.of _ _ [some 14, some 17] (by simp) (by simp) ?_ ?_) ⟨hst, rfl, by simp only []; omega⟩ fun s hI R hn hr he => ?_
      · have e60 : 60 - (quoL (useL w).sum (useL w)).sum = (((60 - (quoL (useL w).sum (useL w)).sum).toNat : Nat) : Int) := by omega
        simp -implicitDefEqProofs only [ints, rows, Nat.reduceBEq, Int.add_zero, envOK, maA, maT, upd_apply, Nat.reduceEqDiff, ↓reduceIte, and_true, true_or, or_true, List.map_cons, List.map_nil, Nat.zero_ne_one, and_self, true_and, Int.natCast_zero, Int.cast_ofNat_Int, Int.ofNat_zero, piOf, List.zip_cons_cons, List.zip_nil_right, List.lookup_cons, List.lookup_nil, beq_self_eq_true, rootsOK, mkRoots, mkEnv, ← e60]
      · exact ⟨⟨_, rfl, .refl _⟩, rfl, ⟨_, rfl, .refl _⟩, rfl, trivial⟩
      · obtain ⟨m, p, r⟩ := s
        obtain ⟨hH, hgo, hm60⟩ := hI
        (try simp only [] at hH hgo hm60)
        have hlp := hH.lp
        have hlr := hH.lr
        simp -implicitDefEqProofs only [go_sem, List.reduceReplicate, Nat.reduceEqDiff, Nat.reduceAdd, Nat.reduceLeDiff, Nat.reduceMul, Nat.reduceSub, Nat.reduceDiv, Int.reduceToNat, Nat.reduceLT, Int.reduceLT, Int.reduceLE, ↓reduceIte, reduceCtorEq, forall_apply_eq_imp_iff₂, ints, rows, rat, rats, toNat_cast]
        refine ⟨fun h => ?_, fun h => he _ _ ?_⟩
        · obtain ⟨m', rfl⟩ : ∃ m', m = m' + 1 := ⟨m - 1, by omega⟩
          obtain ⟨hb1, hb2⟩ := hH.best ht
          have hnext := hH.step ht
          refine CallW.pure (slices_Max_ok r (List.ne_nil_of_length_pos (by omega)) (by omega)) [17] rfl Try.call139 ?_ (by first | trivial | simp [T.noSh, T.noShL, rat]) rfl ?_
          · simp -implicitDefEqProofs only [Int.natCast_zero, Int.cast_ofNat_Int, Int.natCast_one, Nat.le_refl, Nat.reduceLeDiff, Nat.sub_self, Nat.reduceSub, List.getElem?_cons_zero, List.getElem?_cons_succ, vt_self, vaL, vtL, va, vt, vb, maT, List.cons_append, List.nil_append, List.append_nil, true_or, or_true, go_sem, List.reduceReplicate, Nat.reduceEqDiff, Nat.reduceAdd, Nat.reduceLeDiff, Nat.reduceMul, Nat.reduceSub, Nat.reduceDiv, Int.reduceToNat, Nat.reduceLT, Int.reduceLT, Int.reduceLE, ↓reduceIte, reduceCtorEq, ints, rows, rat, rats, ratsO, toShL_ratC, List.mem_cons, List.mem_nil_iff, List.not_mem_nil, or_false, false_or, exists_eq_left, exists_eq_left', exists_eq_right', Root.live.injEq, eq_self_iff_true, exists_eq, and_true, T.toSh, toShL_ints, toShL_intsO, intsO, rowsO]
          simp -implicitDefEqProofs only [go_sem, List.reduceReplicate, Nat.reduceEqDiff, Nat.reduceAdd, Nat.reduceLeDiff, Nat.reduceMul, Nat.reduceSub, Nat.reduceDiv, Int.reduceToNat, Nat.reduceLT, Int.reduceLT, Int.reduceLE, ↓reduceIte, reduceCtorEq, forall_apply_eq_imp_iff₂, ints, rows, rat, rats, toNat_cast]
          refine CallW.pure (slices_Index_ok r (by omega) (by omega)) [17] rfl Try.call148 ?_ (by first | trivial | simp [T.noSh, T.noShL, rat]) rfl ?_
          · simp -implicitDefEqProofs only [Int.natCast_zero, Int.cast_ofNat_Int, Int.natCast_one, Nat.le_refl, Nat.reduceLeDiff, Nat.sub_self, Nat.reduceSub, List.getElem?_cons_zero, List.getElem?_cons_succ, vt_self, vaL, vtL, va, vt, vb, maT, List.cons_append, List.nil_append, List.append_nil, true_or, or_true, go_sem, List.reduceReplicate, Nat.reduceEqDiff, Nat.reduceAdd, Nat.reduceLeDiff, Nat.reduceMul, Nat.reduceSub, Nat.reduceDiv, Int.reduceToNat, Nat.reduceLT, Int.reduceLT, Int.reduceLE, ↓reduceIte, reduceCtorEq, ints, rows, rat, rats, ratsO, toShL_ratC, List.mem_cons, List.mem_nil_iff, List.not_mem_nil, or_false, false_or, exists_eq_left, exists_eq_left', exists_eq_right', Root.live.injEq, eq_self_iff_true, exists_eq, and_true, T.toSh, toShL_ints, toShL_intsO, intsO, rowsO]
          simp -implicitDefEqProofs only [go_sem, List.reduceReplicate, Nat.reduceEqDiff, Nat.reduceAdd, Nat.reduceLeDiff, Nat.reduceMul, Nat.reduceSub, Nat.reduceDiv, Int.reduceToNat, Nat.reduceLT, Int.reduceLT, Int.reduceLE, ↓reduceIte, reduceCtorEq, forall_apply_eq_imp_iff₂, ints, rows, rat, rats, toNat_cast]
          have hsm := hH.small ht hb1 (hu.2.2 _ (by rw [List.getD_eq_getElem?_getD, List.getElem?_eq_getElem hb1]; exact List.getElem_mem _))
          refine ⟨by omega, by omega, by omega, fun a ha => ?_⟩
          have hg : p.getD (maxI r r.length) 0 = a := by rw [List.getD_eq_getElem?_getD, ha]; rfl
          rw [hg] at hsm hnext
          rw [wrap64 (n := a + 1) (by omega) (by omega)]
          refine ⟨by omega, by omega, by omega, by omega, by omega, by omega, ?_⟩
          refine hn _ (m', p.set (maxI r r.length) (a + 1), r.set (maxI r r.length) (-1)) (Weak.of _ _ [some 14, some 17] (by simp) (by simp) ?_ ?_) ⟨hnext, by rw [← hgo, hamGo, hg], by simp only []; omega⟩ (by simp only []; omega)
          · have e : IntKind.i64.wrap (((m' + 1 : Nat) : Int) - 1) = (m' : Int) := by rw [wrap64 (by omega) (by omega)]; omega
            simp -implicitDefEqProofs only [ints, rows, Nat.reduceBEq, Int.add_zero, envOK, maA, maT, upd_apply, Nat.reduceEqDiff, ↓reduceIte, and_true, true_or, or_true, List.map_cons, List.map_nil, Nat.zero_ne_one, and_self, true_and, Int.natCast_zero, Int.cast_ofNat_Int, Int.ofNat_zero, piOf, List.zip_cons_cons, List.zip_nil_right, List.lookup_cons, List.lookup_nil, beq_self_eq_true, rootsOK, mkRoots, mkEnv, e]
          · refine ⟨⟨_, rfl, ?_⟩, rfl, ⟨_, rfl, ?_⟩, rfl, trivial⟩
            · rw [List.map_set]; exact .refl _
            · rw [List.map_set]; exact .refl _
        · simp -implicitDefEqProofs only [go_sem, List.reduceReplicate, Nat.reduceEqDiff, Nat.reduceAdd, Nat.reduceLeDiff, Nat.reduceMul, Nat.reduceSub, Nat.reduceDiv, Int.reduceToNat, Nat.reduceLT, Int.reduceLT, Int.reduceLE, ↓reduceIte, reduceCtorEq, forall_apply_eq_imp_iff₂, ints, rows, rat, rats, toNat_cast]
          have hm0 : m = 0 := by omega
          subst hm0
          rw [← hgo, hamGo]; rfl
end Go.Ab

/- Contracts: PartsOf. -/
set_option linter.unusedSimpArgs false
set_option linter.unusedVariables false
namespace Go.Ab
open Go.Proofs

instance (w : List Int) : Decidable (weightsOK w) := by unfold weightsOK; exact inferInstance
/-- What PartsOf returns. -/
def po (w : List Int) : List Int × Int := if weightsOK w then (ham w, 0) else ([], 2)
def poT (w : List Int) : T := .tup [intsO (po w).1, .i (po w).2]
theorem po_le {f : FuncId} {w : List Int} (h : Fun Try.prog f [] [.t (ints w)] fun o r => o = [] ∧ ((po w = ([], 2) ∧ r = .tup [.v (.slice none 0 0), .i 2]) ∨ r = poT w)) : Fun Try.prog f [] [.t (ints w)] fun o r => o = [] ∧ r = poT w := by
  refine Fun.le h ?_
  rintro o r ⟨rfl, h⟩
  rcases h with ⟨h, rfl⟩ | rfl
  · refine ⟨_, ?_, rfl, rfl⟩
    rw [poT, h]
    exact .tup2 (.nilArr 1) (.refl _)
  · exact ⟨_, .refl _, rfl, rfl⟩
theorem impl_PartsOf_ok (w : List Int) (hl : w.length ≤ 1000000000000) : Fun Try.prog 18 [] [.t (ints w)] fun o r => o = [] ∧ r = poT w := by
  refine po_le ?_
  refine fun_impl_PartsOf (by simp) ?_
  simp -implicitDefEqProofs only [go_sem, List.reduceReplicate, Nat.reduceEqDiff, Nat.reduceAdd, Nat.reduceLeDiff, Nat.reduceMul, Nat.reduceSub, Nat.reduceDiv, Int.reduceToNat, Nat.reduceLT, Int.reduceLT, Int.reduceLE, ↓reduceIte, reduceCtorEq, forall_apply_eq_imp_iff₂, ints, rows, rat, rats, toNat_cast, c_impl_PartsOf]
  refine CallW.pure (impl_within_ok w.length 1 4) [] rfl Try.call97 ?_ (by first | trivial | simp [T.noSh, T.noShL, rat]) rfl ?_
  · simp -implicitDefEqProofs only [Int.natCast_zero, Int.cast_ofNat_Int, Int.natCast_one, Nat.le_refl, Nat.reduceLeDiff, Nat.sub_self, Nat.reduceSub, List.getElem?_cons_zero, List.getElem?_cons_succ, vt_self, vaL, vtL, va, vt, vb, maT, List.cons_append, List.nil_append, List.append_nil, true_or, or_true, go_sem, List.reduceReplicate, Nat.reduceEqDiff, Nat.reduceAdd, Nat.reduceLeDiff, Nat.reduceMul, Nat.reduceSub, Nat.reduceDiv, Int.reduceToNat, Nat.reduceLT, Int.reduceLT, Int.reduceLE, ↓reduceIte, reduceCtorEq, ints, rows, rat, rats, ratsO, toShL_ratC, List.mem_cons, List.mem_nil_iff, List.not_mem_nil, or_false, false_or, exists_eq_left, exists_eq_left', exists_eq_right', Root.live.injEq, eq_self_iff_true, exists_eq, and_true, T.toSh, toShL_ints, toShL_intsO, intsO, rowsO]
  simp -implicitDefEqProofs only [go_sem, List.reduceReplicate, Nat.reduceEqDiff, Nat.reduceAdd, Nat.reduceLeDiff, Nat.reduceMul, Nat.reduceSub, Nat.reduceDiv, Int.reduceToNat, Nat.reduceLT, Int.reduceLT, Int.reduceLE, ↓reduceIte, reduceCtorEq, forall_apply_eq_imp_iff₂, ints, rows, rat, rats, toNat_cast]
  refine ⟨fun h => ?_, fun h => ?_⟩
  · have h1 : 1 ≤ w.length ∧ w.length ≤ 4 := by simp at h; omega
    refine CallW.pure (impl_allWithin_ok w 0 1000000000 hl) [] rfl Try.call98 ?_ (by first | trivial | simp [T.noSh, T.noShL, rat]) rfl ?_
    · simp -implicitDefEqProofs only [Int.natCast_zero, Int.cast_ofNat_Int, Int.natCast_one, Nat.le_refl, Nat.reduceLeDiff, Nat.sub_self, Nat.reduceSub, List.getElem?_cons_zero, List.getElem?_cons_succ, vt_self, vaL, vtL, va, vt, vb, maT, List.cons_append, List.nil_append, List.append_nil, true_or, or_true, go_sem, List.reduceReplicate, Nat.reduceEqDiff, Nat.reduceAdd, Nat.reduceLeDiff, Nat.reduceMul, Nat.reduceSub, Nat.reduceDiv, Int.reduceToNat, Nat.reduceLT, Int.reduceLT, Int.reduceLE, ↓reduceIte, reduceCtorEq, ints, rows, rat, rats, ratsO, toShL_ratC, List.mem_cons, List.mem_nil_iff, List.not_mem_nil, or_false, false_or, exists_eq_left, exists_eq_left', exists_eq_right', Root.live.injEq, eq_self_iff_true, exists_eq, and_true, T.toSh, toShL_ints, toShL_intsO, intsO, rowsO]
    simp -implicitDefEqProofs only [go_sem, List.reduceReplicate, Nat.reduceEqDiff, Nat.reduceAdd, Nat.reduceLeDiff, Nat.reduceMul, Nat.reduceSub, Nat.reduceDiv, Int.reduceToNat, Nat.reduceLT, Int.reduceLT, Int.reduceLE, ↓reduceIte, reduceCtorEq, forall_apply_eq_imp_iff₂, ints, rows, rat, rats, toNat_cast]
    refine ⟨fun h => ?_, fun h => ?_⟩
    · refine .inl ?_
      rw [po, if_neg]
      rintro ⟨h2, h3, h4⟩
      have : (w.all fun x => decide (0 ≤ x ∧ x ≤ 1000000000)) = true := by rw [List.all_eq_true]; intro x hx; simpa using h4 x hx
      rw [this] at h; simp at h
    · have hok : weightsOK w := ⟨h1.1, h1.2, by
        have h : (w.all fun x => decide (0 ≤ x ∧ x ≤ 1000000000)) = true := by simpa using h
        rw [List.all_eq_true] at h
        intro x hx; simpa using h x hx⟩
      refine CallW.res (impl_partsOf_ok w hok) [] rfl Try.call99 ?_ (.inl rfl) ?_
      · simp -implicitDefEqProofs only [Int.natCast_zero, Int.cast_ofNat_Int, Int.natCast_one, Nat.le_refl, Nat.reduceLeDiff, Nat.sub_self, Nat.reduceSub, List.getElem?_cons_zero, List.getElem?_cons_succ, vt_self, vaL, vtL, va, vt, vb, maT, List.cons_append, List.nil_append, List.append_nil, true_or, or_true, go_sem, List.reduceReplicate, Nat.reduceEqDiff, Nat.reduceAdd, Nat.reduceLeDiff, Nat.reduceMul, Nat.reduceSub, Nat.reduceDiv, Int.reduceToNat, Nat.reduceLT, Int.reduceLT, Int.reduceLE, ↓reduceIte, reduceCtorEq, ints, rows, rat, rats, ratsO, toShL_ratC, List.mem_cons, List.mem_nil_iff, List.not_mem_nil, or_false, false_or, exists_eq_left, exists_eq_left', exists_eq_right', Root.live.injEq, eq_self_iff_true, exists_eq, and_true, T.toSh, toShL_ints, toShL_intsO, intsO, rowsO]
      simp -implicitDefEqProofs only [List.append_nil, List.cons_append, Nat.reduceLeDiff, afterCall, absT_rowsO, absT_intsO, absT, absL, updL, updS, freeAll, rid, T.noSh, T.noShL, Nat.zero_le, go_sem, List.reduceReplicate, Nat.reduceEqDiff, Nat.reduceAdd, Nat.reduceLeDiff, Nat.reduceMul, Nat.reduceSub, Nat.reduceDiv, Int.reduceToNat, Nat.reduceLT, Int.reduceLT, Int.reduceLE, ↓reduceIte, reduceCtorEq, rat, forall_apply_eq_imp_iff₂, toNat_cast]
      refine .inr ?_
      rw [poT, po, if_pos hok]
  · refine .inl ?_
    rw [po, if_neg]
    rintro ⟨h2, h3, h4⟩
    simp at h; omega
theorem spec_PartsOf_ok (w : List Int) (hl : w.length ≤ 1000000000000) : Fun Try.prog 19 [] [.t (ints w)] fun o r => o = [] ∧ r = poT w := by
  refine po_le ?_
  refine fun_spec_PartsOf (by simp) ?_
  simp -implicitDefEqProofs only [go_sem, List.reduceReplicate, Nat.reduceEqDiff, Nat.reduceAdd, Nat.reduceLeDiff, Nat.reduceMul, Nat.reduceSub, Nat.reduceDiv, Int.reduceToNat, Nat.reduceLT, Int.reduceLT, Int.reduceLE, ↓reduceIte, reduceCtorEq, forall_apply_eq_imp_iff₂, ints, rows, rat, rats, toNat_cast, c_spec_PartsOf]
  refine SemC.loopR (σ := Nat) (fun i => St.of [(0, .t (ints w)), (4, .t (.i i))] []) (fun i => i ≤ w.length ∧ ∀ x ∈ w.take i, 0 ≤ x ∧ x ≤ 1000000000) (fun i => w.length - i) 0 (Weak.of _ [] [] (by simp) (by simp) ?_ trivial) ⟨by simp, by simp⟩ fun i hI R hn hr he => ?_
  · simp -implicitDefEqProofs only [ints, rows, Nat.reduceBEq, Int.add_zero, envOK, maA, maT, upd_apply, Nat.reduceEqDiff, ↓reduceIte, and_true, true_or, or_true, List.map_cons, List.map_nil, Nat.zero_ne_one, and_self, true_and, Int.natCast_zero, Int.cast_ofNat_Int, Int.ofNat_zero, piOf, List.zip_cons_cons, List.zip_nil_right, List.lookup_cons, List.lookup_nil, beq_self_eq_true, rootsOK, mkRoots, mkEnv]
  · simp -implicitDefEqProofs only [go_sem, List.reduceReplicate, Nat.reduceEqDiff, Nat.reduceAdd, Nat.reduceLeDiff, Nat.reduceMul, Nat.reduceSub, Nat.reduceDiv, Int.reduceToNat, Nat.reduceLT, Int.reduceLT, Int.reduceLE, ↓reduceIte, reduceCtorEq, forall_apply_eq_imp_iff₂, ints, rows, rat, rats, toNat_cast]
    refine ⟨fun h => ⟨by omega, by omega, by omega, fun x hx => ?_⟩, fun h => he _ _ ?_⟩
    · refine CallW.pure (spec_l01In_ok x 0 1000000000) [] rfl Try.call100 ?_ (by first | trivial | simp [T.noSh, T.noShL, rat]) rfl ?_
      · simp -implicitDefEqProofs only [Int.natCast_zero, Int.cast_ofNat_Int, Int.natCast_one, Nat.le_refl, Nat.reduceLeDiff, Nat.sub_self, Nat.reduceSub, List.getElem?_cons_zero, List.getElem?_cons_succ, vt_self, vaL, vtL, va, vt, vb, maT, List.cons_append, List.nil_append, List.append_nil, true_or, or_true, go_sem, List.reduceReplicate, Nat.reduceEqDiff, Nat.reduceAdd, Nat.reduceLeDiff, Nat.reduceMul, Nat.reduceSub, Nat.reduceDiv, Int.reduceToNat, Nat.reduceLT, Int.reduceLT, Int.reduceLE, ↓reduceIte, reduceCtorEq, ints, rows, rat, rats, ratsO, toShL_ratC, List.mem_cons, List.mem_nil_iff, List.not_mem_nil, or_false, false_or, exists_eq_left, exists_eq_left', exists_eq_right', Root.live.injEq, eq_self_iff_true, exists_eq, and_true, T.toSh, toShL_ints, toShL_intsO, intsO, rowsO]
      simp -implicitDefEqProofs only [go_sem, List.reduceReplicate, Nat.reduceEqDiff, Nat.reduceAdd, Nat.reduceLeDiff, Nat.reduceMul, Nat.reduceSub, Nat.reduceDiv, Int.reduceToNat, Nat.reduceLT, Int.reduceLT, Int.reduceLE, ↓reduceIte, reduceCtorEq, forall_apply_eq_imp_iff₂, ints, rows, rat, rats, toNat_cast]
      refine ⟨fun h1 => hr _ ?_, fun h1 => hn _ (i + 1) (Weak.of _ [] [] (by simp) (by simp) ?_ trivial) ⟨by omega, take_succ_all hx hI.2 (by simpa using h1)⟩ (by omega)⟩
      · simp -implicitDefEqProofs only [go_sem, List.reduceReplicate, Nat.reduceEqDiff, Nat.reduceAdd, Nat.reduceLeDiff, Nat.reduceMul, Nat.reduceSub, Nat.reduceDiv, Int.reduceToNat, Nat.reduceLT, Int.reduceLT, Int.reduceLE, ↓reduceIte, reduceCtorEq, forall_apply_eq_imp_iff₂, ints, rows, rat, rats, toNat_cast]
        refine .inl ?_
        rw [po, if_neg]
        rintro ⟨h2, h3, h4⟩
        have := h4 x (List.mem_of_getElem? hx)
        simp at h1; omega
      · simp -implicitDefEqProofs only [ints, rows, Nat.reduceBEq, Int.add_zero, envOK, maA, maT, upd_apply, Nat.reduceEqDiff, ↓reduceIte, and_true, true_or, or_true, List.map_cons, List.map_nil, Nat.zero_ne_one, and_self, true_and, Int.natCast_zero, Int.cast_ofNat_Int, Int.ofNat_zero, piOf, List.zip_cons_cons, List.zip_nil_right, List.lookup_cons, List.lookup_nil, beq_self_eq_true, rootsOK, mkRoots, mkEnv, next64 (by omega : i < w.length) hl]
    · simp -implicitDefEqProofs only [go_sem, List.reduceReplicate, Nat.reduceEqDiff, Nat.reduceAdd, Nat.reduceLeDiff, Nat.reduceMul, Nat.reduceSub, Nat.reduceDiv, Int.reduceToNat, Nat.reduceLT, Int.reduceLT, Int.reduceLE, ↓reduceIte, reduceCtorEq, forall_apply_eq_imp_iff₂, ints, rows, rat, rats, toNat_cast]
      have hall : ∀ x ∈ w, 0 ≤ x ∧ x ≤ 1000000000 := fun x hx => hI.2 x (by rw [List.take_of_length_le (by omega)]; exact hx)
      refine CallW.pure (spec_l01In_ok w.length 1 4) [] rfl Try.call100 ?_ (by first | trivial | simp [T.noSh, T.noShL, rat]) rfl ?_
      · simp -implicitDefEqProofs only [Int.natCast_zero, Int.cast_ofNat_Int, Int.natCast_one, Nat.le_refl, Nat.reduceLeDiff, Nat.sub_self, Nat.reduceSub, List.getElem?_cons_zero, List.getElem?_cons_succ, vt_self, vaL, vtL, va, vt, vb, maT, List.cons_append, List.nil_append, List.append_nil, true_or, or_true, go_sem, List.reduceReplicate, Nat.reduceEqDiff, Nat.reduceAdd, Nat.reduceLeDiff, Nat.reduceMul, Nat.reduceSub, Nat.reduceDiv, Int.reduceToNat, Nat.reduceLT, Int.reduceLT, Int.reduceLE, ↓reduceIte, reduceCtorEq, ints, rows, rat, rats, ratsO, toShL_ratC, List.mem_cons, List.mem_nil_iff, List.not_mem_nil, or_false, false_or, exists_eq_left, exists_eq_left', exists_eq_right', Root.live.injEq, eq_self_iff_true, exists_eq, and_true, T.toSh, toShL_ints, toShL_intsO, intsO, rowsO]
      simp -implicitDefEqProofs only [go_sem, List.reduceReplicate, Nat.reduceEqDiff, Nat.reduceAdd, Nat.reduceLeDiff, Nat.reduceMul, Nat.reduceSub, Nat.reduceDiv, Int.reduceToNat, Nat.reduceLT, Int.reduceLT, Int.reduceLE, ↓reduceIte, reduceCtorEq, forall_apply_eq_imp_iff₂, ints, rows, rat, rats, toNat_cast]
      refine ⟨fun h1 => ?_, fun h1 => ?_⟩
      · refine .inl ?_
        rw [po, if_neg]
        rintro ⟨h2, h3, h4⟩
        simp at h1; omega
      · have hok : weightsOK w := ⟨by simp at h1; omega, by simp at h1; omega, hall⟩
        refine CallW.res (spec_l22Parts_ok w hok) [] rfl Try.call101 ?_ (.inl rfl) ?_
        · simp -implicitDefEqProofs only [Int.natCast_zero, Int.cast_ofNat_Int, Int.natCast_one, Nat.le_refl, Nat.reduceLeDiff, Nat.sub_self, Nat.reduceSub, List.getElem?_cons_zero, List.getElem?_cons_succ, vt_self, vaL, vtL, va, vt, vb, maT, List.cons_append, List.nil_append, List.append_nil, true_or, or_true, go_sem, List.reduceReplicate, Nat.reduceEqDiff, Nat.reduceAdd, Nat.reduceLeDiff, Nat.reduceMul, Nat.reduceSub, Nat.reduceDiv, Int.reduceToNat, Nat.reduceLT, Int.reduceLT, Int.reduceLE, ↓reduceIte, reduceCtorEq, ints, rows, rat, rats, ratsO, toShL_ratC, List.mem_cons, List.mem_nil_iff, List.not_mem_nil, or_false, false_or, exists_eq_left, exists_eq_left', exists_eq_right', Root.live.injEq, eq_self_iff_true, exists_eq, and_true, T.toSh, toShL_ints, toShL_intsO, intsO, rowsO]
        simp -implicitDefEqProofs only [List.append_nil, List.cons_append, Nat.reduceLeDiff, afterCall, absT_rowsO, absT_intsO, absT, absL, updL, updS, freeAll, rid, T.noSh, T.noShL, Nat.zero_le, go_sem, List.reduceReplicate, Nat.reduceEqDiff, Nat.reduceAdd, Nat.reduceLeDiff, Nat.reduceMul, Nat.reduceSub, Nat.reduceDiv, Int.reduceToNat, Nat.reduceLT, Int.reduceLT, Int.reduceLE, ↓reduceIte, reduceCtorEq, rat, forall_apply_eq_imp_iff₂, toNat_cast]
        refine .inr ?_
        rw [poT, po, if_pos hok]
end Go.Ab

/- The bridge, part 5: bytes. -/
set_option linter.unusedSimpArgs false
set_option linter.unusedVariables false
namespace Go.Ab

/-- Bytes, as the program holds them. -/
def bytes (cs : List Int) : T := .sh 1 (cs.map fun x => .v (.int .u8 x))
def bytesOK (cs : List Int) : Prop := ∀ c ∈ cs, 0 ≤ c ∧ c ≤ 255
def tyU8s : Ty := .sl 1 (.int .u8)
theorem wf8 {n : Int} (h : (Lit.int .u8 n).wf = true) : 0 ≤ n ∧ n ≤ 255 := by
  simp [Lit.wf, IntKind.min, IntKind.max, IntKind.signed, IntKind.bits] at h
  omega
theorem flat_bytes : ∀ {xs : List (List T)}, (∀ x ∈ xs, x.length = 1 ∧ (Ty.int .u8).wt x) → ∃ l : List Int, xs.flatten = (l.map fun x => T.v (.int .u8 x)) ∧ l.length = xs.length ∧ bytesOK l
  | [], _ => ⟨[], rfl, rfl, fun x hx => by simp at hx⟩
  | x :: xs, h => by
    obtain ⟨l, hl, hlen, hf⟩ := flat_bytes (xs := xs) fun y hy => h y (by simp [hy])
    obtain ⟨_, n, rfl, hw⟩ := h x (by simp)
    refine ⟨n :: l, by simp [hl], by simp [hlen], fun y hy => ?_⟩
    rcases List.mem_cons.1 hy with rfl | hy
    · exact wf8 hw
    · exact hf y hy
theorem wt_bytes {x : T} (h : tyU8s.wt [x]) : ∃ l : List Int, x = bytes l ∧ l.length ≤ 9223372036854775807 ∧ bytesOK l := by
  obtain ⟨xs, hx, hlen, hall⟩ := h
  obtain ⟨l, hl, hll, hf⟩ := flat_bytes hall
  simp only [List.cons.injEq, and_true] at hx
  exact ⟨l, by rw [hx, hl]; rfl, by rw [hll]; exact hlen, hf⟩
end Go.Ab

/- Contracts: the source of drawn numbers. -/
set_option linter.unusedSimpArgs false
set_option linter.unusedVariables false
namespace Go.Ab
open Go.Proofs

/-- A source: its code, how much of it is used up, its seed. -/
def srcT (cs : List Int) (a : Nat × Int) : T := .box [bytes cs, .i a.1, .i a.2]
def seedOK (a : Nat × Int) : Prop := 0 ≤ a.2 ∧ a.2 < 2147483647 ∧ a.1 ≤ 1000000000000
def fromS (l : List Int) : Int := l.foldl (fun s c => (s * 61 + c) % 2147483647) 45007
theorem fromS_snoc (l : List Int) (c : Int) : fromS (l ++ [c]) = (fromS l * 61 + c) % 2147483647 := by simp [fromS, List.foldl_append]
theorem fromS_bound (l : List Int) : 0 ≤ fromS l ∧ fromS l < 2147483647 := by
  rcases List.eq_nil_or_concat l with rfl | ⟨l, c, rfl⟩
  · decide
  · rw [List.concat_eq_append, fromS_snoc]
    omega
/-- One number below n, and the source behind it. -/
def nextS (cs : List Int) (a : Nat × Int) (n : Int) : Int × (Nat × Int) :=
  if n ≤ 1 then (0, a) else
  let s := (a.2 * 48271 + 29) % 2147483647
  if a.1 < cs.length then ((if n ≤ 256 ∧ (a.1 + 1) % 2 = 0 then cs.getD a.1 0 else s / 31 + cs.getD a.1 0) % n, (a.1 + 1, s)) else ((s / 31) % n, (a.1, s))
theorem nextS_bound {cs : List Int} {a : Nat × Int} {n : Int} (hn : 1 ≤ n) : 0 ≤ (nextS cs a n).1 ∧ (nextS cs a n).1 < n := by
  unfold nextS
  split
  · omega
  · split
    · exact ⟨Int.emod_nonneg _ (by omega), Int.emod_lt_of_pos _ (by omega)⟩
    · exact ⟨Int.emod_nonneg _ (by omega), Int.emod_lt_of_pos _ (by omega)⟩

theorem spec_l01From_ok (cs : List Int) (hc : bytesOK cs) (hl : cs.length ≤ 1000000000000) : Fun Try.prog 94 [] [.t (bytes cs)] fun o r => o = [] ∧ r = srcT cs (0, fromS (cs.take 64)) := by
  refine fun_spec_l01From (by simp) ?_
  simp -implicitDefEqProofs only [go_sem, List.reduceReplicate, Nat.reduceEqDiff, Nat.reduceAdd, Nat.reduceLeDiff, Nat.reduceMul, Nat.reduceSub, Nat.reduceDiv, Int.reduceToNat, Nat.reduceLT, Int.reduceLT, Int.reduceLE, ↓reduceIte, reduceCtorEq, forall_apply_eq_imp_iff₂, ints, rows, rat, rats, toNat_cast, c_spec_l01From, bytes]
  refine SemC.loopR (σ := Nat) (fun i => St.of [(0, .t (bytes cs)), (3, .own 7), (4, .t (.i i))] [(7, .box [bytes cs, .i 0, .i (fromS (cs.take i))])]) (fun i => i ≤ 64 ∧ i ≤ cs.length) (fun i => 64 - i) 0 (Weak.of _ _ [some 7] (by simp) (by simp) ?_ ?_) ⟨by omega, by omega⟩ fun i hi R hn hr he => ?_
  · simp -implicitDefEqProofs only [ints, rows, Nat.reduceBEq, Int.add_zero, envOK, maA, maT, upd_apply, Nat.reduceEqDiff, ↓reduceIte, and_true, true_or, or_true, List.map_cons, List.map_nil, Nat.zero_ne_one, and_self, true_and, Int.natCast_zero, Int.cast_ofNat_Int, Int.ofNat_zero, piOf, List.zip_cons_cons, List.zip_nil_right, List.lookup_cons, List.lookup_nil, beq_self_eq_true, rootsOK, mkRoots, mkEnv, bytes]
  · exact ⟨⟨_, rfl, .refl _⟩, rfl, trivial⟩
  · simp -implicitDefEqProofs only [go_sem, List.reduceReplicate, Nat.reduceEqDiff, Nat.reduceAdd, Nat.reduceLeDiff, Nat.reduceMul, Nat.reduceSub, Nat.reduceDiv, Int.reduceToNat, Nat.reduceLT, Int.reduceLT, Int.reduceLE, ↓reduceIte, reduceCtorEq, forall_apply_eq_imp_iff₂, ints, rows, rat, rats, toNat_cast, bytes]
    refine ⟨fun h1 => ⟨fun h2 => ⟨by omega, by omega, by omega, fun c hcc => ⟨by decide, ?_⟩⟩, fun h2 => he _ _ ?_⟩, fun h1 => he _ _ ?_⟩
    · have hb := hc c (List.mem_of_getElem? hcc)
      have hf := fromS_bound (cs.take i)
      have e := fromS_snoc (cs.take i) c
      rw [← take_snoc hcc] at e
      have hw : (IntKind.i64.wrap (IntKind.i64.wrap (fromS (cs.take i) * 61) + IntKind.i64.wrap c)).tmod 2147483647 = fromS (cs.take (i + 1)) := by
        rw [wrap64 (n := c) (by omega) (by omega), wrap64 (n := fromS (cs.take i) * 61) (by omega) (by omega), wrap64 (n := fromS (cs.take i) * 61 + c) (by omega) (by omega), Int.tmod_eq_emod_of_nonneg (by omega), e]
      rw [hw]
      refine hn _ (i + 1) (Weak.of _ _ [some 7] (by simp) (by simp) ?_ ?_) ⟨by omega, by omega⟩ (by omega)
      · simp -implicitDefEqProofs only [ints, rows, Nat.reduceBEq, Int.add_zero, envOK, maA, maT, upd_apply, Nat.reduceEqDiff, ↓reduceIte, and_true, true_or, or_true, List.map_cons, List.map_nil, Nat.zero_ne_one, and_self, true_and, Int.natCast_zero, Int.cast_ofNat_Int, Int.ofNat_zero, piOf, List.zip_cons_cons, List.zip_nil_right, List.lookup_cons, List.lookup_nil, beq_self_eq_true, rootsOK, mkRoots, mkEnv, bytes, next64 (by omega : i < cs.length) (by omega)]
      · exact ⟨⟨_, rfl, .refl _⟩, rfl, trivial⟩
    · simp -implicitDefEqProofs only [go_sem, List.reduceReplicate, Nat.reduceEqDiff, Nat.reduceAdd, Nat.reduceLeDiff, Nat.reduceMul, Nat.reduceSub, Nat.reduceDiv, Int.reduceToNat, Nat.reduceLT, Int.reduceLT, Int.reduceLE, ↓reduceIte, reduceCtorEq, forall_apply_eq_imp_iff₂, ints, rows, rat, rats, toNat_cast, srcT, bytes]
      rw [show i = 64 by omega]; rfl
    · simp -implicitDefEqProofs only [go_sem, List.reduceReplicate, Nat.reduceEqDiff, Nat.reduceAdd, Nat.reduceLeDiff, Nat.reduceMul, Nat.reduceSub, Nat.reduceDiv, Int.reduceToNat, Nat.reduceLT, Int.reduceLT, Int.reduceLE, ↓reduceIte, reduceCtorEq, forall_apply_eq_imp_iff₂, ints, rows, rat, rats, toNat_cast, srcT, bytes]
      have e : cs.take i = cs.take 64 := by rw [List.take_of_length_le (by omega), List.take_of_length_le (by omega)]
      rw [e]; rfl
set_option maxRecDepth 10000 in
theorem spec_l01Next_ok (cs : List Int) (hc : bytesOK cs) (hl : cs.length ≤ 100000000000) (a : Nat × Int) (ha : seedOK a) (n : Int) (hn : n ≤ 1000000000000) : Fun Try.prog 95 [srcT cs a] [.own 1000000000, .t (.i n)] fun o r => o = [srcT cs (nextS cs a n).2] ∧ r = .i (nextS cs a n).1 := by
  refine fun_spec_l01Next (by simp) ?_
  simp -implicitDefEqProofs only [go_sem, List.reduceReplicate, Nat.reduceEqDiff, Nat.reduceAdd, Nat.reduceLeDiff, Nat.reduceMul, Nat.reduceSub, Nat.reduceDiv, Int.reduceToNat, Nat.reduceLT, Int.reduceLT, Int.reduceLE, ↓reduceIte, reduceCtorEq, forall_apply_eq_imp_iff₂, ints, rows, rat, rats, toNat_cast, c_spec_l01Next, srcT, bytes]
  obtain ⟨a1, a2⟩ := a
  obtain ⟨h1, h2, h3⟩ := ha
  simp only [] at h1 h2 h3
  have hs : (IntKind.i64.wrap (IntKind.i64.wrap (a2 * 48271) + 29)).tmod 2147483647 = (a2 * 48271 + 29) % 2147483647 := by
    rw [wrap64 (n := a2 * 48271) (by omega) (by omega), wrap64 (n := a2 * 48271 + 29) (by omega) (by omega), Int.tmod_eq_emod_of_nonneg (by omega)]
  have hs1 := Int.emod_nonneg (a2 * 48271 + 29) (show (2147483647 : Int) ≠ 0 by decide)
  have hs2 := Int.emod_lt_of_pos (a2 * 48271 + 29) (show (0 : Int) < 2147483647 by decide)
  have hw1 : IntKind.i64.wrap ((a1 : Int) + 1) = ((a1 + 1 : Nat) : Int) := by rw [wrap64 (by omega) (by omega)]; omega
  have hw2 : IntKind.i64.wrap (((a1 + 1 : Nat) : Int) - 1) = (a1 : Int) := by rw [wrap64 (by omega) (by omega)]; omega
  simp only [hs, hw1, hw2, Int.toNat_natCast]
  have hnx : nextS cs (a1, a2) n = if n ≤ 1 then (0, (a1, a2)) else if a1 < cs.length then ((if n ≤ 256 ∧ (a1 + 1) % 2 = 0 then cs.getD a1 0 else (a2 * 48271 + 29) % 2147483647 / 31 + cs.getD a1 0) % n, (a1 + 1, (a2 * 48271 + 29) % 2147483647)) else (((a2 * 48271 + 29) % 2147483647 / 31) % n, (a1, (a2 * 48271 + 29) % 2147483647)) := rfl
  generalize (a2 * 48271 + 29) % 2147483647 = s at hs1 hs2 hnx ⊢
  have hq : IntKind.i64.wrap (s.tdiv 31) = s / 31 := by rw [Int.tdiv_eq_ediv_of_nonneg hs1, wrap64 (by omega) (by omega)]
  have hq' : s.tdiv 31 = s / 31 := Int.tdiv_eq_ediv_of_nonneg hs1
  have hqs : IntKind.i64.wrap (s / 31) = s / 31 := wrap64 (by omega) (by omega)
  rw [hnx]
  by_cases hn1 : n ≤ 1
  · simp only [if_pos hn1]
    exact ⟨fun _ => by simp, fun h => absurd hn1 h⟩
  · simp only [if_neg hn1]
    refine ⟨fun h => absurd h hn1, fun _ => ⟨by decide, by decide, fun hl1 => ?_, fun hl1 => ?_⟩⟩
    · have hl2 : a1 < cs.length := by omega
      obtain ⟨c, hcc⟩ : ∃ c, cs[a1]? = some c := ⟨_, List.getElem?_eq_getElem hl2⟩
      have hcb := hc c (List.mem_of_getElem? hcc)
      have hg : cs.getD a1 0 = c := by rw [List.getD_eq_getElem?_getD, hcc]; rfl
      have hwc : IntKind.i64.wrap c = c := wrap64 (by omega) (by omega)
      simp only [if_pos hl2, hcc, hg, Option.some.injEq, forall_eq', hwc]
      have hws : IntKind.i64.wrap (s / 31 + c) = s / 31 + c := wrap64 (by omega) (by omega)
      simp only [hq', hqs, hws]
      refine ⟨by omega, by omega, by omega, fun h256 => ⟨by decide, fun he => ⟨by omega, by omega, by omega, by omega, by first | trivial | rfl, ?_⟩, fun he => ⟨by omega, by first | trivial | rfl, ?_⟩⟩, fun h256 => ⟨by omega, by first | trivial | rfl, ?_⟩⟩
      · rw [beq_iff_eq, Int.tmod_eq_emod_of_nonneg (by omega)] at he
        rw [if_pos ⟨h256, by omega⟩, Int.tmod_eq_emod_of_nonneg (by omega)]
      · rw [beq_eq_false_iff_ne, Int.tmod_eq_emod_of_nonneg (by omega)] at he
        rw [if_neg (by omega), Int.tmod_eq_emod_of_nonneg (by omega)]
      · rw [if_neg (by omega), Int.tmod_eq_emod_of_nonneg (by omega)]
    · have hl2 : ¬ a1 < cs.length := by omega
      simp only [if_neg hl2, hq', hqs]
      refine ⟨by omega, by first | trivial | rfl, ?_⟩
      rw [Int.tmod_eq_emod_of_nonneg (by omega)]
end Go.Ab

/- Contracts: picks. -/
set_option linter.unusedSimpArgs false
set_option linter.unusedVariables false
namespace Go.Ab
open Go.Proofs

theorem nextS_seed {cs : List Int} {a : Nat × Int} (hl : cs.length ≤ 100000000000) (ha : seedOK a) (n : Int) : seedOK (nextS cs a n).2 := by
  obtain ⟨h1, h2, h3⟩ := ha
  have hs1 := Int.emod_nonneg (a.2 * 48271 + 29) (show (2147483647 : Int) ≠ 0 by decide)
  have hs2 := Int.emod_lt_of_pos (a.2 * 48271 + 29) (show (0 : Int) < 2147483647 by decide)
  unfold nextS
  split
  · exact ⟨h1, h2, h3⟩
  · split
    · exact ⟨hs1, hs2, by show a.1 + 1 ≤ _; omega⟩
    · exact ⟨hs1, hs2, h3⟩
theorem seed_from (l : List Int) : seedOK (0, fromS l) := ⟨(fromS_bound l).1, (fromS_bound l).2, Nat.zero_le _⟩
/-- One out of a list. -/
def pickS (cs : List Int) (a : Nat × Int) (l : List Int) : Int × (Nat × Int) := (l.getD (nextS cs a l.length).1.toNat 0, (nextS cs a l.length).2)
theorem pickS_mem {cs : List Int} {a : Nat × Int} {l : List Int} (h : 1 ≤ l.length) : (pickS cs a l).1 ∈ l := by
  have hb := nextS_bound (cs := cs) (a := a) (show (1 : Int) ≤ l.length by omega)
  unfold pickS
  rw [List.getD_eq_getElem?_getD, List.getElem?_eq_getElem (show (nextS cs a l.length).1.toNat < l.length by omega)]
  exact List.getElem_mem _
/-- The same, with the source's tree in sight. -/
theorem next_box (cs : List Int) (hc : bytesOK cs) (hl : cs.length ≤ 100000000000) (a : Nat × Int) (ha : seedOK a) (n : Int) (hn : n ≤ 1000000000000) : Fun Try.prog 95 [.box [bytes cs, .i a.1, .i a.2]] [.own 1000000000, .t (.i n)] fun o r => o = [.box [bytes cs, .i (nextS cs a n).2.1, .i (nextS cs a n).2.2]] ∧ r = .i (nextS cs a n).1 := spec_l01Next_ok cs hc hl a ha n hn
theorem pickS_seed {cs : List Int} {a : Nat × Int} (hl : cs.length ≤ 100000000000) (ha : seedOK a) (l : List Int) : seedOK (pickS cs a l).2 := nextS_seed hl ha _
/-- The list handed over as an owned slice (a root that is lent may not stand beside shared data in what comes back). -/
theorem pick_own (cs : List Int) (hc : bytesOK cs) (hl : cs.length ≤ 100000000000) (a : Nat × Int) (ha : seedOK a) (l : List Int) (h1 : 1 ≤ l.length) (h2 : l.length ≤ 1000000) : Fun Try.prog 96 [.box [bytes cs, .i a.1, .i a.2], intsO l] [.own 1000000000, .own 1000000001] fun o r => o = [.box [bytes cs, .i (pickS cs a l).2.1, .i (pickS cs a l).2.2], intsO l] ∧ r = .i (pickS cs a l).1 := by
  have hb := nextS_bound (cs := cs) (a := a) (show (1 : Int) ≤ l.length by omega)
  obtain ⟨x, hx⟩ : ∃ x, l[(nextS cs a l.length).1.toNat]? = some x := ⟨_, List.getElem?_eq_getElem (show (nextS cs a l.length).1.toNat < l.length by omega)⟩
  have hg : (pickS cs a l).1 = x := by rw [pickS, List.getD_eq_getElem?_getD, hx]; rfl
  refine fun_spec_l01Pick (by simp) ?_
  simp -implicitDefEqProofs only [go_sem, List.reduceReplicate, Nat.reduceEqDiff, Nat.reduceAdd, Nat.reduceLeDiff, Nat.reduceMul, Nat.reduceSub, Nat.reduceDiv, Int.reduceToNat, Nat.reduceLT, Int.reduceLT, Int.reduceLE, ↓reduceIte, reduceCtorEq, forall_apply_eq_imp_iff₂, ints, rows, rat, rats, toNat_cast, c_spec_l01Pick, intsO]
  refine CallW.ref (next_box cs hc hl a ha l.length (by omega)) [1000000000] [] rfl Try.call95 (by simp) ?_ (by simp) ?_ (.inl rfl) ?_
  · simp -implicitDefEqProofs only [rootOf_arr, rootOf_box, rootOf_any, srcsOK, updL, updS, upd_apply, Nat.reduceEqDiff, ↓reduceIte, mkRoots, and_true, ints, rows, intsO, rowsO]
  · simp -implicitDefEqProofs only [Int.natCast_zero, Int.cast_ofNat_Int, Int.natCast_one, Nat.le_refl, Nat.reduceLeDiff, Nat.sub_self, Nat.reduceSub, List.getElem?_cons_zero, List.getElem?_cons_succ, vt_self, vaL, vtL, va, vt, vb, maT, List.cons_append, List.nil_append, List.append_nil, true_or, or_true, go_sem, List.reduceReplicate, Nat.reduceEqDiff, Nat.reduceAdd, Nat.reduceLeDiff, Nat.reduceMul, Nat.reduceSub, Nat.reduceDiv, Int.reduceToNat, Nat.reduceLT, Int.reduceLT, Int.reduceLE, ↓reduceIte, reduceCtorEq, ints, rows, rat, rats, ratsO, toShL_ratC, List.mem_cons, List.mem_nil_iff, List.not_mem_nil, or_false, false_or, exists_eq_left, exists_eq_left', exists_eq_right', Root.live.injEq, eq_self_iff_true, exists_eq, and_true, T.toSh, toShL_ints, toShL_intsO, intsO, rowsO]
  simp -implicitDefEqProofs only [List.append_nil, List.cons_append, Nat.reduceLeDiff, afterCall, absT_rowsO, absT_intsO, absT, absL, updL, updS, freeAll, rid, T.noSh, T.noShL, Nat.zero_le, go_sem, List.reduceReplicate, Nat.reduceEqDiff, Nat.reduceAdd, Nat.reduceLeDiff, Nat.reduceMul, Nat.reduceSub, Nat.reduceDiv, Int.reduceToNat, Nat.reduceLT, Int.reduceLT, Int.reduceLE, ↓reduceIte, reduceCtorEq, rat, forall_apply_eq_imp_iff₂, toNat_cast]
  refine ⟨by omega, by omega, by omega, fun y hy => ?_⟩
  rw [hx] at hy; cases hy
  exact ⟨rfl, by rw [hg]⟩
end Go.Ab

/- Contracts: drawn weights. -/
set_option linter.unusedSimpArgs false
set_option linter.unusedVariables false
namespace Go.Ab
open Go.Proofs

theorem spec_DrawPartsOf_ok (cs : List Int) (hc : bytesOK cs) (hl : cs.length ≤ 100000000000) : Fun Try.prog 17 [] [.t (bytes cs)] fun o r => o = [] ∧ ∃ l : List Int, r = intsO l ∧ l.length ≤ 8 := by
  refine Fun.le (Q := fun o r => o = [] ∧ (r = .v (.slice none 0 0) ∨ ∃ l : List Int, r = intsO l ∧ l.length ≤ 8)) ?_ ?_
  · refine fun_spec_DrawPartsOf (by simp) ?_
    simp -implicitDefEqProofs only [go_sem, List.reduceReplicate, Nat.reduceEqDiff, Nat.reduceAdd, Nat.reduceLeDiff, Nat.reduceMul, Nat.reduceSub, Nat.reduceDiv, Int.reduceToNat, Nat.reduceLT, Int.reduceLT, Int.reduceLE, ↓reduceIte, reduceCtorEq, forall_apply_eq_imp_iff₂, ints, rows, rat, rats, toNat_cast, c_spec_DrawPartsOf]
    refine CallW.res (spec_l01From_ok cs hc (by omega)) [] rfl Try.call94 ?_ (.inl rfl) ?_
    · simp -implicitDefEqProofs only [Int.natCast_zero, Int.cast_ofNat_Int, Int.natCast_one, Nat.le_refl, Nat.reduceLeDiff, Nat.sub_self, Nat.reduceSub, List.getElem?_cons_zero, List.getElem?_cons_succ, vt_self, vaL, vtL, va, vt, vb, maT, List.cons_append, List.nil_append, List.append_nil, true_or, or_true, go_sem, List.reduceReplicate, Nat.reduceEqDiff, Nat.reduceAdd, Nat.reduceLeDiff, Nat.reduceMul, Nat.reduceSub, Nat.reduceDiv, Int.reduceToNat, Nat.reduceLT, Int.reduceLT, Int.reduceLE, ↓reduceIte, reduceCtorEq, ints, rows, rat, rats, ratsO, toShL_ratC, List.mem_cons, List.mem_nil_iff, List.not_mem_nil, or_false, false_or, exists_eq_left, exists_eq_left', exists_eq_right', Root.live.injEq, eq_self_iff_true, exists_eq, and_true, T.toSh, toShL_ints, toShL_intsO, intsO, rowsO]
    simp -implicitDefEqProofs only [List.append_nil, List.cons_append, Nat.reduceLeDiff, afterCall, absT_rowsO, absT_intsO, absT, absL, updL, updS, freeAll, rid, T.noSh, T.noShL, Nat.zero_le, go_sem, List.reduceReplicate, Nat.reduceEqDiff, Nat.reduceAdd, Nat.reduceLeDiff, Nat.reduceMul, Nat.reduceSub, Nat.reduceDiv, Int.reduceToNat, Nat.reduceLT, Int.reduceLT, Int.reduceLE, ↓reduceIte, reduceCtorEq, rat, forall_apply_eq_imp_iff₂, toNat_cast, srcT]
    have hs0 := seed_from (cs.take 64)
    generalize fromS (cs.take 64) = sd at hs0 ⊢
    refine CallW.ref (next_box cs hc hl (0, sd) hs0 4 (by omega)) [7] [] rfl Try.call95 (by simp) ?_ (by simp) ?_ (.inl rfl) ?_
    · simp -implicitDefEqProofs only [rootOf_arr, rootOf_box, rootOf_any, srcsOK, updL, updS, upd_apply, Nat.reduceEqDiff, ↓reduceIte, mkRoots, and_true, ints, rows, intsO, rowsO]
    · simp -implicitDefEqProofs only [Int.natCast_zero, Int.cast_ofNat_Int, Int.natCast_one, Nat.le_refl, Nat.reduceLeDiff, Nat.sub_self, Nat.reduceSub, List.getElem?_cons_zero, List.getElem?_cons_succ, vt_self, vaL, vtL, va, vt, vb, maT, List.cons_append, List.nil_append, List.append_nil, true_or, or_true, go_sem, List.reduceReplicate, Nat.reduceEqDiff, Nat.reduceAdd, Nat.reduceLeDiff, Nat.reduceMul, Nat.reduceSub, Nat.reduceDiv, Int.reduceToNat, Nat.reduceLT, Int.reduceLT, Int.reduceLE, ↓reduceIte, reduceCtorEq, ints, rows, rat, rats, ratsO, toShL_ratC, List.mem_cons, List.mem_nil_iff, List.not_mem_nil, or_false, false_or, exists_eq_left, exists_eq_left', exists_eq_right', Root.live.injEq, eq_self_iff_true, exists_eq, and_true, T.toSh, toShL_ints, toShL_intsO, intsO, rowsO]
    simp -implicitDefEqProofs only [List.append_nil, List.cons_append, Nat.reduceLeDiff, afterCall, absT_rowsO, absT_intsO, absT, absL, updL, updS, freeAll, rid, T.noSh, T.noShL, Nat.zero_le, go_sem, List.reduceReplicate, Nat.reduceEqDiff, Nat.reduceAdd, Nat.reduceLeDiff, Nat.reduceMul, Nat.reduceSub, Nat.reduceDiv, Int.reduceToNat, Nat.reduceLT, Int.reduceLT, Int.reduceLE, ↓reduceIte, reduceCtorEq, rat, forall_apply_eq_imp_iff₂, toNat_cast]
    have hb := nextS_bound (cs := cs) (a := (0, sd)) (show (1 : Int) ≤ 4 by omega)
    have hs1 := nextS_seed (cs := cs) hl hs0 4
    generalize nextS cs (0, sd) 4 = z at hb hs1 ⊢
    obtain ⟨n, a⟩ := z
    simp only [] at hb hs1 ⊢
    rw [wrap64 (n := 1 + n) (by omega) (by omega)]
    obtain ⟨N, hN⟩ : ∃ N : Nat, 1 + n = (N : Int) := ⟨(1 + n).toNat, by omega⟩
    rw [hN]
    refine SemC.loopR (σ := Nat × List Int × (Nat × Int)) (fun s => St.of [(3, .own 95), (4, .own 96), (5, .t (.i s.1))] [(95, .box [bytes cs, .i s.2.2.1, .i s.2.2.2]), (96, .arr 1 (s.2.1.map T.i))]) (fun s => seedOK s.2.2 ∧ s.2.1.length + s.1 = N) (fun s => s.1) (N, [], a) (Weak.of _ _ [some 7, some 8] (by simp) (by simp) ?_ ?_) ⟨hs1, by simp⟩ fun s hI R hn hr he => ?_
    · simp -implicitDefEqProofs only [ints, rows, Nat.reduceBEq, Int.add_zero, envOK, maA, maT, upd_apply, Nat.reduceEqDiff, ↓reduceIte, and_true, true_or, or_true, List.map_cons, List.map_nil, Nat.zero_ne_one, and_self, true_and, Int.natCast_zero, Int.cast_ofNat_Int, Int.ofNat_zero, piOf, List.zip_cons_cons, List.zip_nil_right, List.lookup_cons, List.lookup_nil, beq_self_eq_true, rootsOK, mkRoots, mkEnv]
    · exact ⟨⟨_, rfl, .refl _⟩, rfl, ⟨_, rfl, .refl _⟩, rfl, trivial⟩
    · obtain ⟨k, l, b⟩ := s
      obtain ⟨hb1, hlk⟩ := hI
      (try simp only [] at hb1 hlk)
      simp -implicitDefEqProofs only [go_sem, List.reduceReplicate, Nat.reduceEqDiff, Nat.reduceAdd, Nat.reduceLeDiff, Nat.reduceMul, Nat.reduceSub, Nat.reduceDiv, Int.reduceToNat, Nat.reduceLT, Int.reduceLT, Int.reduceLE, ↓reduceIte, reduceCtorEq, forall_apply_eq_imp_iff₂, ints, rows, rat, rats, toNat_cast]
      refine ⟨fun h => ?_, fun h => he _ _ ?_⟩
      · obtain ⟨k', rfl⟩ : ∃ k', k = k' + 1 := ⟨k - 1, by omega⟩
        refine CallW.ref (next_box cs hc hl b hb1 100 (by omega)) [95] [] rfl Try.call95 (by simp) ?_ (by simp) ?_ (.inl rfl) ?_
        · simp -implicitDefEqProofs only [rootOf_arr, rootOf_box, rootOf_any, srcsOK, updL, updS, upd_apply, Nat.reduceEqDiff, ↓reduceIte, mkRoots, and_true, ints, rows, intsO, rowsO]
        · simp -implicitDefEqProofs only [Int.natCast_zero, Int.cast_ofNat_Int, Int.natCast_one, Nat.le_refl, Nat.reduceLeDiff, Nat.sub_self, Nat.reduceSub, List.getElem?_cons_zero, List.getElem?_cons_succ, vt_self, vaL, vtL, va, vt, vb, maT, List.cons_append, List.nil_append, List.append_nil, true_or, or_true, go_sem, List.reduceReplicate, Nat.reduceEqDiff, Nat.reduceAdd, Nat.reduceLeDiff, Nat.reduceMul, Nat.reduceSub, Nat.reduceDiv, Int.reduceToNat, Nat.reduceLT, Int.reduceLT, Int.reduceLE, ↓reduceIte, reduceCtorEq, ints, rows, rat, rats, ratsO, toShL_ratC, List.mem_cons, List.mem_nil_iff, List.not_mem_nil, or_false, false_or, exists_eq_left, exists_eq_left', exists_eq_right', Root.live.injEq, eq_self_iff_true, exists_eq, and_true, T.toSh, toShL_ints, toShL_intsO, intsO, rowsO]
        simp -implicitDefEqProofs only [List.append_nil, List.cons_append, Nat.reduceLeDiff, afterCall, absT_rowsO, absT_intsO, absT, absL, updL, updS, freeAll, rid, T.noSh, T.noShL, Nat.zero_le, go_sem, List.reduceReplicate, Nat.reduceEqDiff, Nat.reduceAdd, Nat.reduceLeDiff, Nat.reduceMul, Nat.reduceSub, Nat.reduceDiv, Int.reduceToNat, Nat.reduceLT, Int.reduceLT, Int.reduceLE, ↓reduceIte, reduceCtorEq, rat, forall_apply_eq_imp_iff₂, toNat_cast]
        have hs2 := nextS_seed (cs := cs) hl hb1 100
        generalize nextS cs b 100 = z at hs2 ⊢
        obtain ⟨x, c⟩ := z
        simp only [] at hs2 ⊢
        have hp := pick_own cs hc hl c hs2 [0, 1, 1, x, 1000000000] (by simp) (by simp)
        simp only [intsO, List.map_cons, List.map_nil] at hp
        refine CallW.ref hp [95, 20] [] rfl Try.call96 (by simp) ?_ (by simp) ?_ (.inl rfl) ?_
        · simp -implicitDefEqProofs only [rootOf_arr, rootOf_box, rootOf_any, srcsOK, updL, updS, upd_apply, Nat.reduceEqDiff, ↓reduceIte, mkRoots, and_true, ints, rows, intsO, rowsO]
        · simp -implicitDefEqProofs only [Int.natCast_zero, Int.cast_ofNat_Int, Int.natCast_one, Nat.le_refl, Nat.reduceLeDiff, Nat.sub_self, Nat.reduceSub, List.getElem?_cons_zero, List.getElem?_cons_succ, vt_self, vaL, vtL, va, vt, vb, maT, List.cons_append, List.nil_append, List.append_nil, true_or, or_true, go_sem, List.reduceReplicate, Nat.reduceEqDiff, Nat.reduceAdd, Nat.reduceLeDiff, Nat.reduceMul, Nat.reduceSub, Nat.reduceDiv, Int.reduceToNat, Nat.reduceLT, Int.reduceLT, Int.reduceLE, ↓reduceIte, reduceCtorEq, ints, rows, rat, rats, ratsO, toShL_ratC, List.mem_cons, List.mem_nil_iff, List.not_mem_nil, or_false, false_or, exists_eq_left, exists_eq_left', exists_eq_right', Root.live.injEq, eq_self_iff_true, exists_eq, and_true, T.toSh, toShL_ints, toShL_intsO, intsO, rowsO]
        simp -implicitDefEqProofs only [List.append_nil, List.cons_append, Nat.reduceLeDiff, afterCall, absT_rowsO, absT_intsO, absT, absL, updL, updS, freeAll, rid, T.noSh, T.noShL, Nat.zero_le, go_sem, List.reduceReplicate, Nat.reduceEqDiff, Nat.reduceAdd, Nat.reduceLeDiff, Nat.reduceMul, Nat.reduceSub, Nat.reduceDiv, Int.reduceToNat, Nat.reduceLT, Int.reduceLT, Int.reduceLE, ↓reduceIte, reduceCtorEq, rat, forall_apply_eq_imp_iff₂, toNat_cast]
        have hs3 := pickS_seed (cs := cs) hl hs2 [0, 1, 1, x, 1000000000]
        refine ⟨by omega, hn _ (k', l ++ [(pickS cs c [0, 1, 1, x, 1000000000]).1], (pickS cs c [0, 1, 1, x, 1000000000]).2) (Weak.of _ _ [some 95, some 23] (by simp) (by simp) ?_ ?_) ⟨hs3, by simp; omega⟩ (by simp only []; omega)⟩
        · have e : IntKind.i64.wrap (((k' + 1 : Nat) : Int) - 1) = (k' : Int) := by rw [wrap64 (by omega) (by omega)]; omega
          simp -implicitDefEqProofs only [ints, rows, Nat.reduceBEq, Int.add_zero, envOK, maA, maT, upd_apply, Nat.reduceEqDiff, ↓reduceIte, and_true, true_or, or_true, List.map_cons, List.map_nil, Nat.zero_ne_one, and_self, true_and, Int.natCast_zero, Int.cast_ofNat_Int, Int.ofNat_zero, piOf, List.zip_cons_cons, List.zip_nil_right, List.lookup_cons, List.lookup_nil, beq_self_eq_true, rootsOK, mkRoots, mkEnv, e]
        · refine ⟨⟨_, rfl, .refl _⟩, rfl, ⟨_, rfl, ?_⟩, rfl, trivial⟩
          rw [List.map_append]; exact .refl _
      · simp -implicitDefEqProofs only [go_sem, List.reduceReplicate, Nat.reduceEqDiff, Nat.reduceAdd, Nat.reduceLeDiff, Nat.reduceMul, Nat.reduceSub, Nat.reduceDiv, Int.reduceToNat, Nat.reduceLT, Int.reduceLT, Int.reduceLE, ↓reduceIte, reduceCtorEq, forall_apply_eq_imp_iff₂, ints, rows, rat, rats, toNat_cast]
        have hk0 : k = 0 := by omega
        subst hk0
        refine CallW.ref (next_box cs hc hl b hb1 16 (by omega)) [95] [] rfl Try.call95 (by simp) ?_ (by simp) ?_ (.inl rfl) ?_
        · simp -implicitDefEqProofs only [rootOf_arr, rootOf_box, rootOf_any, srcsOK, updL, updS, upd_apply, Nat.reduceEqDiff, ↓reduceIte, mkRoots, and_true, ints, rows, intsO, rowsO]
        · simp -implicitDefEqProofs only [Int.natCast_zero, Int.cast_ofNat_Int, Int.natCast_one, Nat.le_refl, Nat.reduceLeDiff, Nat.sub_self, Nat.reduceSub, List.getElem?_cons_zero, List.getElem?_cons_succ, vt_self, vaL, vtL, va, vt, vb, maT, List.cons_append, List.nil_append, List.append_nil, true_or, or_true, go_sem, List.reduceReplicate, Nat.reduceEqDiff, Nat.reduceAdd, Nat.reduceLeDiff, Nat.reduceMul, Nat.reduceSub, Nat.reduceDiv, Int.reduceToNat, Nat.reduceLT, Int.reduceLT, Int.reduceLE, ↓reduceIte, reduceCtorEq, ints, rows, rat, rats, ratsO, toShL_ratC, List.mem_cons, List.mem_nil_iff, List.not_mem_nil, or_false, false_or, exists_eq_left, exists_eq_left', exists_eq_right', Root.live.injEq, eq_self_iff_true, exists_eq, and_true, T.toSh, toShL_ints, toShL_intsO, intsO, rowsO]
        simp -implicitDefEqProofs only [List.append_nil, List.cons_append, Nat.reduceLeDiff, afterCall, absT_rowsO, absT_intsO, absT, absL, updL, updS, freeAll, rid, T.noSh, T.noShL, Nat.zero_le, go_sem, List.reduceReplicate, Nat.reduceEqDiff, Nat.reduceAdd, Nat.reduceLeDiff, Nat.reduceMul, Nat.reduceSub, Nat.reduceDiv, Int.reduceToNat, Nat.reduceLT, Int.reduceLT, Int.reduceLE, ↓reduceIte, reduceCtorEq, rat, forall_apply_eq_imp_iff₂, toNat_cast]
        have hs2 := nextS_seed (cs := cs) hl hb1 16
        generalize nextS cs b 16 = z at hs2 ⊢
        obtain ⟨x, c⟩ := z
        simp only [] at hs2 ⊢
        refine ⟨fun h0 => ?_, fun h0 => ⟨fun h1 => ⟨by omega, .inr ⟨l ++ [1, 1, 1, 1], by rw [intsO, List.map_append]; rfl, by simp; omega⟩⟩, fun h1 => ⟨fun h2 => trivial, fun h2 => .inr ⟨l, rfl, by omega⟩⟩⟩⟩
        have hp := pick_own cs hc hl c hs2 [-1, 1000000001] (by simp) (by simp)
        simp only [intsO, List.map_cons, List.map_nil] at hp
        refine CallW.ref hp [95, 30] [] rfl Try.call96 (by simp) ?_ (by simp) ?_ (.inl rfl) ?_
        · simp -implicitDefEqProofs only [rootOf_arr, rootOf_box, rootOf_any, srcsOK, updL, updS, upd_apply, Nat.reduceEqDiff, ↓reduceIte, mkRoots, and_true, ints, rows, intsO, rowsO]
        · simp -implicitDefEqProofs only [Int.natCast_zero, Int.cast_ofNat_Int, Int.natCast_one, Nat.le_refl, Nat.reduceLeDiff, Nat.sub_self, Nat.reduceSub, List.getElem?_cons_zero, List.getElem?_cons_succ, vt_self, vaL, vtL, va, vt, vb, maT, List.cons_append, List.nil_append, List.append_nil, true_or, or_true, go_sem, List.reduceReplicate, Nat.reduceEqDiff, Nat.reduceAdd, Nat.reduceLeDiff, Nat.reduceMul, Nat.reduceSub, Nat.reduceDiv, Int.reduceToNat, Nat.reduceLT, Int.reduceLT, Int.reduceLE, ↓reduceIte, reduceCtorEq, ints, rows, rat, rats, ratsO, toShL_ratC, List.mem_cons, List.mem_nil_iff, List.not_mem_nil, or_false, false_or, exists_eq_left, exists_eq_left', exists_eq_right', Root.live.injEq, eq_self_iff_true, exists_eq, and_true, T.toSh, toShL_ints, toShL_intsO, intsO, rowsO]
        simp -implicitDefEqProofs only [List.append_nil, List.cons_append, Nat.reduceLeDiff, afterCall, absT_rowsO, absT_intsO, absT, absL, updL, updS, freeAll, rid, T.noSh, T.noShL, Nat.zero_le, go_sem, List.reduceReplicate, Nat.reduceEqDiff, Nat.reduceAdd, Nat.reduceLeDiff, Nat.reduceMul, Nat.reduceSub, Nat.reduceDiv, Int.reduceToNat, Nat.reduceLT, Int.reduceLT, Int.reduceLE, ↓reduceIte, reduceCtorEq, rat, forall_apply_eq_imp_iff₂, toNat_cast]
        refine ⟨by omega, by omega, .inr ⟨l.set 0 (pickS cs c [-1, 1000000001]).1, ?_, by simp; omega⟩⟩
        rw [intsO, List.map_set]
  · rintro o r ⟨rfl, rfl | ⟨l, rfl, h⟩⟩
    · exact ⟨_, .nilArr 1, rfl, [], rfl, by simp⟩
    · exact ⟨_, .refl _, rfl, l, rfl, h⟩
end Go.Ab
