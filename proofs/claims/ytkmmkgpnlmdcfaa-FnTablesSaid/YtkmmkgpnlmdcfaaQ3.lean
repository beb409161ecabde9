/- The bridge, part 1: what an argument reads as, by its type. -/
import Derived.Deep.Slices
import Derived.Deep.OwnRows
import Derived.DataReads
import Derived.WideKeyArgs
import Derived.WideShapes
import Derived.ChangeShapes
import Derived.ProofKit
import Derived.OpenShut
import Derived.JoinedOf
import Derived.Handed
import Derived.RowKit
import Derived.Test.YtkmmkgpnlmdcfaaRows
import Derived.Test.YtkmmkgpnlmdcfaaQ2
set_option linter.unusedSimpArgs false
set_option linter.unusedVariables false
namespace Go.Ab

inductive Ty where
  | int (k : IntKind)
  | bool
  | str
  | sl (s : Nat) (e : Ty)
  | st (f : Ty)
  | nil
  | cons (a r : Ty)

def Ty.wt : Ty → List T → Prop
  | .int k, l => ∃ n, l = [.v (.int k n)] ∧ (Lit.int k n).wf = true
  | .bool, l => ∃ b, l = [.v (.bool b)]
  | .str, l => ∃ s, l = [.v (.string s)] ∧ s.size ≤ maxLen
  | .sl s e, l => ∃ xs : List (List T), l = [.sh s xs.flatten] ∧ xs.length ≤ maxLen ∧ ∀ x ∈ xs, x.length = s ∧ e.wt x
  | .st f, l => f.wt l
  | .nil, l => l = []
  | .cons a r, l => ∃ l1 l2, l = l1 ++ l2 ∧ a.wt l1 ∧ r.wt l2

def Ty.wtV : Ty → T → Prop
  | .st f, t => ∃ l, t = .agg l ∧ f.wt l
  | ty, t => ty.wt [t]

mutual
def Ty.fits (P : Program) : Ty → TypeId → Bool
  | .int k, t => (match P.underlying t with | some (.int k') => decide (k' = k) | _ => false)
  | .bool, t => (match P.underlying t with | some .bool => true | _ => false)
  | .str, t => (match P.underlying t with | some .string => true | _ => false)
  | .sl s e, t => (match P.underlying t with | some (.slice et) => decide (P.cellsOf et = s) && decide (0 < s) && e.fits P et | _ => false)
  | .st f, t => (match P.underlying t with | some (.struct fs) => f.fitsF P (P.cellsOf t) 0 fs.toList | _ => false)
  | .nil, _ => false
  | .cons _ _, _ => false
def Ty.fitsF (P : Program) : Ty → Nat → Nat → List Field → Bool
  | .nil, n, o, [] => decide (o = n)
  | .cons a r, n, o, f :: fs => decide (f.offset = o) && a.fits P f.type && r.fitsF P n (o + P.cellsOf f.type) fs
  | _, _, _, _ => false
end

section
variable {H : Type} {enc : TypeId × Value → H} {P : Program} {w : World} {base : Nat} {spare : Nat → Bool} {held : Bool}

theorem cell_block {a : Addr} {v : Value} (h : w.cell? a = some v) : a.spot = none ∧ ∃ cs e fz, w.heap[a.block]? = some (.cells cs e fz) ∧ cs[a.off]? = some v := by
  unfold World.cell? at h
  split at h
  · rename_i c e fz hc
    split at h
    · cases h
    · rename_i hs
      exact ⟨by simpa using hs, c, e, fz, hc, h⟩
  · cases h

theorem add_block (a : Addr) (i : Nat) : (a.add i).block = a.block := by
  unfold Addr.add; split <;> rfl
theorem add_off (a : Addr) (i : Nat) : (a.add i).off = a.off + i := by
  unfold Addr.add; split
  · rename_i h; subst h; rfl
  · rfl

theorem getD_some {vs : List Value} {i : Nat} {v : Value} (h : vs[i]? = some v) : vs.getD i undef = v := by
  rw [List.getD_eq_getElem?_getD, h]; rfl

theorem Ty.read (O : Nat → Prop) (hO : ∀ b, ¬ O b) : ∀ (ty : Ty),
    (∀ (t : TypeId) (fuel : Nat) (cs : List Value) (x : DataW H × List MemPlace), ty.fits P t = true → DataW.trod enc P w base (fun _ => true) held fuel t cs = some x →
      ∃ l, ty.wt l ∧ l.length = cs.length ∧ ∀ i (h : i < l.length), Rd w O l[i] (cs.getD i undef)) ∧
    (∀ (n o : Nat) (fs : List Field) (fuel : Nat) (cs : List Value), ty.fitsF P n o fs = true → cs.length = n →
      (∀ f ∈ fs, ∃ x, DataW.trod enc P w base (fun _ => true) held fuel f.type ((cs.drop f.offset).take (P.cellsOf f.type)) = some x) →
      ∃ l, ty.wt l ∧ l.length = n - o ∧ (∀ i (h : i < l.length), Rd w O l[i] ((cs.drop o).getD i undef))) := by
  have one : ∀ (v : Value), ∀ i (h : i < [T.v v].length), Rd w O [T.v v][i] ([v].getD i undef) := fun v i h => by
    have : i = 0 := by simpa using h
    subst this; exact .v v
  intro ty
  induction ty with
  | int k =>
    refine ⟨fun t fuel cs x hf h => ?_, fun n o fs fuel cs hf => by simp [Ty.fitsF] at hf⟩
    simp only [Ty.fits] at hf
    split at hf
    · rename_i k' ht
      have : k' = k := by simpa using hf
      subst this
      obtain ⟨n, rfl, _, hw⟩ := DataW.trod_int ht h
      exact ⟨_, ⟨n, rfl, hw⟩, rfl, one _⟩
    · cases hf
  | bool =>
    refine ⟨fun t fuel cs x hf h => ?_, fun n o fs fuel cs hf => by simp [Ty.fitsF] at hf⟩
    simp only [Ty.fits] at hf
    split at hf
    · rename_i ht
      obtain ⟨n, rfl, _⟩ := DataW.trod_bool ht h
      exact ⟨_, ⟨n, rfl⟩, rfl, one _⟩
    · cases hf
  | str =>
    refine ⟨fun t fuel cs x hf h => ?_, fun n o fs fuel cs hf => by simp [Ty.fitsF] at hf⟩
    simp only [Ty.fits] at hf
    split at hf
    · rename_i ht
      obtain ⟨n, rfl, _, hw⟩ := DataW.trod_string ht h
      exact ⟨_, ⟨n, rfl, hw⟩, rfl, one _⟩
    · cases hf
  | sl s e ih =>
    refine ⟨fun t fuel cs x hf h => ?_, fun n o fs fuel cs hf => by simp [Ty.fitsF] at hf⟩
    simp only [Ty.fits] at hf
    split at hf
    · rename_i et ht
      simp only [Bool.and_eq_true, decide_eq_true_eq] at hf
      obtain ⟨⟨hs, hs0⟩, hfe⟩ := hf
      have single : ∀ (t : T) (v : Value), Rd w O t v → ∀ i (h : i < [t].length), Rd w O [t][i] ([v].getD i undef) := fun t v hr i h => by
        have : i = 0 := by simpa using h
        subst this; exact hr
      rcases Deep.open_slice ht h with ⟨rfl, _⟩ | ⟨a, len, cap, m, n, D, Pl, rfl, hb, hl, hm, hmm, _, hx⟩
      · exact ⟨_, ⟨[], rfl, Nat.zero_le _, by simp⟩, rfl, single _ _ (.shNil s)⟩
      · simp only [if_true] at hmm
        subst hmm
        have each : ∀ i, i < len → ∃ y : List T × List Value, w.cells? base (a.add (i * s)) s = some y.2 ∧ e.wt y.1 ∧ y.1.length = s ∧ ∀ j (h : j < y.1.length), Rd w O y.1[j] (y.2.getD j undef) := by
          intro i hi
          obtain ⟨cs', h1, h2⟩ := hx i (by omega)
          rw [hs] at h1
          obtain ⟨l, hwt, hlen, hr⟩ := ih.1 _ _ _ _ hfe h2
          exact ⟨(l, cs'), h1, hwt, hlen.trans (World.cells?_some h1).2.1, hr⟩
        obtain ⟨y, hy⟩ := Deep.choose_lt each
        rcases Nat.eq_zero_or_pos len with h0 | h0
        · subst h0
          exact ⟨_, ⟨[], rfl, Nat.zero_le _, by simp⟩, rfl, single _ _ (.shZ s a _)⟩
        · -- the block
          have cell : ∀ i j, i < len → j < s → w.cell? ((a.add (i * s)).add j) = some ((y i).2.getD j undef) := fun i j hi hj => by
            obtain ⟨h1, hwt, hlen, hr⟩ := hy i hi
            obtain ⟨_, h2, h3⟩ := World.cells?_some h1
            rw [h3 j hj, List.getD_eq_getElem?_getD, List.getElem?_eq_getElem (by omega)]; rfl
          have hfirst := cell 0 0 h0 hs0
          rw [Nat.zero_mul] at hfirst
          obtain ⟨hsp, cs, ee, fz, hblk, _⟩ := cell_block hfirst
          rw [add_block, add_block] at hblk
          have at' : ∀ i j, i < len → j < s → cs[a.off + i * s + j]? = some ((y i).2.getD j undef) := fun i j hi hj => by
            obtain ⟨_, cs2, e2, fz2, h1, h2⟩ := cell_block (cell i j hi hj)
            rw [add_block, add_block, hblk] at h1
            simp only [Option.some.injEq, Obj.cells.injEq] at h1
            rw [add_off, add_off, ← h1.1] at h2
            exact h2
          have hsp' : a.spot = none := by
            unfold Addr.add at hsp
            simpa using hsp
          obtain ⟨b, off, sp⟩ := a
          simp only at hsp' hblk at'
          subst hsp'
          have hfl : ∀ i, i ≤ len → (((List.range i).map fun i => (y i).1).flatten).length = i * s := fun i => by
            induction i with
            | zero => intro _; simp
            | succ i ihi =>
              intro hi
              rw [List.range_succ, List.map_append, List.flatten_append, List.length_append, ihi (by omega)]
              simp only [List.map_cons, List.map_nil, List.flatten_cons, List.flatten_nil, List.append_nil, (hy i (by omega)).2.2.1, Nat.succ_mul]
          refine ⟨[.sh s ((List.range len).map fun i => (y i).1).flatten], ⟨_, rfl, by simp; exact Nat.le_trans hl hm, fun x hx => ?_⟩, rfl, single _ _ ?_⟩
          · obtain ⟨i, hi, rfl⟩ := List.mem_map.1 hx
            have := hy i (by simpa using hi)
            exact ⟨this.2.2.1, this.2.1⟩
          · have hlast := at' (len - 1) (s - 1) (by omega) (by omega)
            obtain ⟨hlt, _⟩ := Array.getElem?_eq_some_iff.1 hlast
            have hmul : (len - 1) * s + s = len * s := by rw [← Nat.succ_mul]; congr 1; omega
            refine .sh s _ b off len _ cs ee fz (hO b) hblk (by rw [hfl len (Nat.le_refl _)]; omega) (hfl len (Nat.le_refl _)) hl fun k hk => ?_
            rw [hfl len (Nat.le_refl _)] at hk
            have hi : k / s < len := Nat.div_lt_of_lt_mul (by rw [Nat.mul_comm]; exact hk)
            have hj : k % s < s := Nat.mod_lt _ hs0
            have hk' : k / s * s + k % s = k := by rw [Nat.mul_comm]; exact Nat.div_add_mod k s
            have e1 : (((List.range len).map fun i => (y i).1).flatten)[k]? = (y (k / s)).1[k % s]? := by
              have hsplit : ∃ rest, List.range len = List.range (k / s) ++ (k / s) :: rest := by
                refine ⟨((List.range (len - k / s - 1)).map Nat.succ).map (k / s + ·), ?_⟩
                have h1 : List.range (k / s + (len - k / s)) = List.range (k / s) ++ (List.range (len - k / s)).map (k / s + ·) := List.range_add
                rw [show k / s + (len - k / s) = len by omega] at h1
                have h2 : List.range (len - k / s) = 0 :: (List.range (len - k / s - 1)).map Nat.succ := by
                  rw [← List.range_succ_eq_map]; congr 1; omega
                rw [h1, h2]; rfl
              obtain ⟨rest, hsplit⟩ := hsplit
              rw [hsplit, List.map_append, List.flatten_append, List.getElem?_append_right (by rw [hfl _ (Nat.le_of_lt hi)]; omega), hfl _ (Nat.le_of_lt hi), List.map_cons, List.flatten_cons,
                List.getElem?_append_left (by rw [(hy _ hi).2.2.1]; omega)]
              congr 1; omega
            have hjl : k % s < (y (k / s)).1.length := by rw [(hy _ hi).2.2.1]; exact hj
            have hget : (((List.range len).map fun i => (y i).1).flatten)[k]'(by rw [hfl len (Nat.le_refl _)]; exact hk) = (y (k / s)).1[k % s] := by
              have h1 := List.getElem?_eq_getElem (l := ((List.range len).map fun i => (y i).1).flatten) (i := k) (by rw [hfl len (Nat.le_refl _)]; exact hk)
              rw [e1, List.getElem?_eq_getElem hjl] at h1
              exact (Option.some.inj h1).symm
            rw [hget]
            have hc := at' (k / s) (k % s) hi hj
            rw [Nat.add_assoc, hk'] at hc
            have : cs.getD (off + k) undef = (y (k / s)).2.getD (k % s) undef := by rw [Array.getD_eq_getD_getElem?, hc]; rfl
            rw [this]
            exact (hy _ hi).2.2.2 _ hjl
    · cases hf
  | st f ih =>
    refine ⟨fun t fuel cs x hf h => ?_, fun n o fs fuel cs hf => by simp [Ty.fitsF] at hf⟩
    simp only [Ty.fits] at hf
    split at hf
    · rename_i fs ht
      obtain ⟨xs, n, rfl, _, hlen, hxl, hx⟩ := DataW.trod_struct ht h
      obtain ⟨l, hwt, hl, hr⟩ := ih.2 _ _ _ n cs hf hlen (fun f hf' => by
        obtain ⟨i, hi, rfl⟩ := List.mem_iff_getElem.1 hf'
        have h1 := hx i fs.toList[i] (by simp only [Array.length_toList] at hi; simp [hi])
        have hi' : i < xs.length := by rw [hxl]; simpa using hi
        rw [List.getElem?_eq_getElem hi'] at h1
        exact ⟨_, h1⟩)
      exact ⟨l, hwt, by omega, by simpa using hr⟩
    · cases hf
  | nil =>
    refine ⟨fun t fuel cs x hf h => by simp [Ty.fits] at hf, fun n o fs fuel cs hf hn _ => ?_⟩
    cases fs with
    | cons f fs => simp [Ty.fitsF] at hf
    | nil =>
      have : o = n := by simpa [Ty.fitsF] using hf
      exact ⟨[], rfl, by simp; omega, fun i h => absurd h (by simp)⟩
  | cons a r iha ihr =>
    refine ⟨fun t fuel cs x hf h => by simp [Ty.fits] at hf, fun n o fs fuel cs hf hn hx => ?_⟩
    cases fs with
    | nil => simp [Ty.fitsF] at hf
    | cons f fs =>
      simp only [Ty.fitsF, Bool.and_eq_true, decide_eq_true_eq] at hf
      obtain ⟨⟨rfl, hfa⟩, hfr⟩ := hf
      obtain ⟨x, h1⟩ := hx f (by simp)
      obtain ⟨l1, hw1, hl1, hr1⟩ := iha.1 _ _ _ _ hfa h1
      obtain ⟨l2, hw2, hl2, hr2⟩ := ihr.2 _ _ _ fuel cs hfr hn (fun g hg => hx g (by simp [hg]))
      simp only [List.length_take, List.length_drop] at hl1
      refine ⟨l1 ++ l2, ⟨l1, l2, rfl, hw1, hw2⟩, by rw [List.length_append]; omega, fun i h => ?_⟩
      by_cases hi : i < l1.length
      · rw [List.getElem_append_left hi]
        have := hr1 i hi
        rwa [List.getD_eq_getElem?_getD, List.getElem?_take_of_lt (by omega), ← List.getD_eq_getElem?_getD] at this
      · rw [List.getElem_append_right (by omega)]
        have := hr2 (i - l1.length) (by rw [List.length_append] at h; omega)
        rw [List.getD_eq_getElem?_getD, List.getElem?_drop] at this ⊢
        rw [List.length_append] at h
        rwa [show f.offset + P.cellsOf f.type + (i - l1.length) = f.offset + i by omega] at this
end
end Go.Ab

/- The bridge, part 2: a law that is a contract is a law of the row's form. -/
set_option linter.unusedSimpArgs false
set_option linter.unusedVariables false
namespace Go.Ab
open Go.ChangeShapes Go.WideShapes Go.ChangeAt Go.RowKit

def fitsL (P : Program) : List Ty → List TypeId → Bool
  | [], [] => true
  | ty :: tys, t :: ts => ty.fits P t && decide (t < P.types.size) && P.readableRec t && fitsL P tys ts
  | _, _ => false
def wtL : List Ty → List T → Prop
  | [], [] => True
  | ty :: tys, x :: xs => ty.wtV x ∧ wtL tys xs
  | _, _ => False

section
variable {H : Type} {enc : TypeId × Value → H} {P : Program} {w : World} {base : Nat} {held : Bool}

theorem Ty.readV (O : Nat → Prop) (hO : ∀ b, ¬ O b) {ty : Ty} {t : TypeId} {v : Value} {d : DataW H} {ps : List MemPlace} {w' : World} {r : Reach} {b0 : Nat} (hf : ty.fits P t = true) (hok : Value.okWide P w' r b0 t v)
    (h : DataW.Trod enc P w base (fun _ => true) held t v d ps) : ∃ x, ty.wtV x ∧ Rd w O x v := by
  obtain ⟨fuel, h⟩ := h
  obtain ⟨l, hwt, hl, hr⟩ := (Ty.read (P := P) O hO ty).1 t fuel _ _ hf h
  have single : v.cells = #[v] → ∀ x : T, l = [x] → Rd w O x v := fun hc x hx => by
    subst hx
    have := hr 0 (by simp)
    rw [hc] at this
    exact this
  cases ty with
  | int k =>
    simp only [Ty.fits] at hf
    split at hf
    · rename_i k' ht
      obtain ⟨n, rfl⟩ := okWide_int ht hok
      obtain ⟨m, rfl, hw⟩ := hwt
      exact ⟨_, ⟨m, rfl, hw⟩, single rfl _ rfl⟩
    · cases hf
  | bool =>
    simp only [Ty.fits] at hf
    split at hf
    · rename_i ht
      obtain ⟨n, rfl⟩ := okWide_bool ht hok
      obtain ⟨m, rfl⟩ := hwt
      exact ⟨_, ⟨m, rfl⟩, single rfl _ rfl⟩
    · cases hf
  | str =>
    simp only [Ty.fits] at hf
    split at hf
    · rename_i ht
      obtain ⟨n, rfl⟩ := okWide_string ht hok
      obtain ⟨m, rfl, hw⟩ := hwt
      exact ⟨_, ⟨m, rfl, hw⟩, single rfl _ rfl⟩
    · cases hf
  | sl s e =>
    simp only [Ty.fits] at hf
    split at hf
    · rename_i et ht
      obtain ⟨a, len, cap, rfl⟩ := okWide_slice ht hok
      obtain ⟨m, rfl, hw⟩ := hwt
      exact ⟨_, ⟨m, rfl, hw⟩, single rfl _ rfl⟩
    · cases hf
  | st f =>
    simp only [Ty.fits] at hf
    split at hf
    · rename_i fs ht
      simp only [Value.okWide, ht] at hok
      obtain ⟨cs, rfl, _, _⟩ := hok
      refine ⟨.agg l, ⟨l, rfl, hwt⟩, ?_⟩
      have := Rd.agg (w := w) (O := O) l cs.toList (by rw [hl]; rfl) hr
      simpa using this
    · cases hf
  | nil => simp [Ty.fits] at hf
  | cons a r => simp [Ty.fits] at hf

theorem args_read (O : Nat → Prop) (hO : ∀ b, ¬ O b) {w' : World} {r : Reach} {b0 : Nat} : ∀ {tys : List Ty} {ts : List TypeId} {vs : List Value} {ds : List (DataW H)} {ps : List MemPlace}, fitsL P tys ts = true →
    DataW.TrodAll enc P w base (fun _ => true) held ts vs ds ps → (∀ (j : Nat) (t : TypeId) (v : Value), ts[j]? = some t → vs[j]? = some v → Value.okWide P w' r b0 t v) →
    ∃ xs, wtL tys xs ∧ vs.length = xs.length ∧ ds.length = tys.length ∧ ∀ i (h : i < xs.length), Rd w O xs[i] (vs.getD i undef)
  | [], [], vs, ds, ps, _, h, _ => by
    cases vs <;> cases ds <;> simp only [DataW.TrodAll] at h
    exact ⟨[], trivial, rfl, rfl, fun i h => absurd h (by simp)⟩
  | [], _ :: _, vs, ds, ps, hf, h, _ => by simp [fitsL] at hf
  | _ :: _, [], vs, ds, ps, hf, h, _ => by simp [fitsL] at hf
  | ty :: tys, t :: ts, vs, ds, ps, hf, h, hok => by
    simp only [fitsL, Bool.and_eq_true] at hf
    cases vs with
    | nil => simp [DataW.TrodAll] at h
    | cons v vs =>
      cases ds with
      | nil => simp [DataW.TrodAll] at h
      | cons d ds =>
        obtain ⟨p, q, h1, h2, _⟩ := h
        obtain ⟨x, hx, hr⟩ := Ty.readV O hO hf.1.1.1 (hok 0 t v rfl rfl) h1
        obtain ⟨xs, hxs, hl, hd, hrs⟩ := args_read O hO hf.2 h2 (fun j t v h1 h2 => hok (j + 1) t v (by simpa using h1) (by simpa using h2))
        refine ⟨x :: xs, ⟨hx, hxs⟩, by simp [hl], by simp [hd], fun i hi => ?_⟩
        cases i with
        | zero => exact hr
        | succ i => simpa [List.getD_eq_getElem?_getD] using hrs i (by simpa using hi)

theorem args_stay {w w' : World} {sp : Nat → Bool} (hl : laidOutB P = true) : ∀ {tys : List Ty} {ts : List TypeId} {vs : List Value} {ds : List (DataW H)} {ps : List MemPlace}, fitsL P tys ts = true →
    DataW.TrodAll enc P w base (fun _ => true) true ts vs ds ps → (∀ p ∈ ps, w.sameAt w' p ∧ sp p.block = true) → DataW.TrodAll enc P w' base sp true ts vs ds ps
  | [], [], vs, ds, ps, _, h, _ => by
    cases vs <;> cases ds <;> simp only [DataW.TrodAll] at h ⊢
    exact h
  | [], _ :: _, vs, ds, ps, hf, h, _ => by simp [fitsL] at hf
  | _ :: _, [], vs, ds, ps, hf, h, _ => by simp [fitsL] at hf
  | ty :: tys, t :: ts, vs, ds, ps, hf, h, hs => by
    simp only [fitsL, Bool.and_eq_true, decide_eq_true_eq] at hf
    cases vs with
    | nil => simp [DataW.TrodAll] at h
    | cons v vs =>
      cases ds with
      | nil => simp [DataW.TrodAll] at h
      | cons d ds =>
        obtain ⟨p, q, h1, h2, rfl⟩ := h
        exact ⟨p, q, WideElems.Trod_stays hl hf.1.2 hf.1.1.2 h1 (fun x hx => (hs x (by simp [hx])).1) (fun x hx => (hs x (by simp [hx])).2), args_stay hl hf.2 h2 (fun x hx => hs x (by simp [hx])), rfl⟩

theorem law_contract {f : FuncId} {fn : Func} {s : ChangeSpec} {tys : List Ty} {tb : TypeId} {apart fresh handsOn : Bool} (hlaid : laidOutB P = true) (hfit : fitsL P tys fn.params.toList = true) (hres : fn.resultTypes = #[tb]) (hbool : P.underlying tb = some .bool)
    (hvars : s.vars = []) (hspec : ∀ (ds : List (DataW H)), ds.length = tys.length → s.fn H ds = { results := [.lit (.bool true)], args := ds }) (hF : ∀ xs, wtL tys xs → Pure P f xs (.b true))
    (W : World) (base : Nat) (args : Array Value) (ds gs : List (DataW H)) (before : List MemPlace) (hval : ∀ (j : Nat) t v, fn.params[j]? = some t → args[j]? = some v → Value.okWide P W .any base t v)
    (hW : DataW.Whole enc P fn.params.toList s.vars apart W args.toList ds gs before) : Calls P f args W fun e W' => ∃ v, e = .returned v ∧ s.post enc P fn apart fresh handsOn false W args v W' := by
  have hW' := hW
  obtain ⟨p, q, hA, hV, rfl, hfz, hnd⟩ := hW
  rw [hvars] at hV
  have hV' := hV
  cases gs with
  | cons _ _ => simp [DataW.TrodVars] at hV
  | nil =>
    simp only [DataW.TrodVars] at hV
    subst hV
    obtain ⟨xs, hwt, hlen, hdl, hr⟩ := args_read (P := P) (fun _ => False) (fun _ h => h) hfit hA (fun j t v h1 h2 => hval j t v (by simpa using h1) (by simpa using h2))
    have hlt : ∀ x ∈ p, x.block < W.heap.size := fun x hx => hW'.lt x (by simp [hx])
    have mem : Mem (fun _ => False) W [] (fun _ => none) (fun _ => []) := ⟨fun i t h => by simp at h, fun _ _ => ⟨rfl, rfl⟩, fun _ _ b h => by simp at h, fun _ => by simp, fun _ b h => by simp at h, fun _ h => h.elim, fun _ _ h => by cases h⟩
    have hO : ∀ b, ¬ Ob (fun _ => False) (fun _ => []) b := fun b h => by
      rcases h with h | ⟨r, h⟩
      · exact h
      · simp at h
    have hc := hF xs hwt _ W args.toList _ _ mem (by simpa using hlen) (fun i h => by
      have hi : i < xs.length := by simpa using h
      rw [List.getElem_map]
      exact .t ((hr i hi).mono (fun _ _ _ _ _ h => h) (fun b _ _ => hO b)))
    simp only [Array.toArray_toList] at hc
    refine hc.mono ?_
    rintro e W' ⟨v, res, rout, fr, fp', rfl, ⟨rfl, rfl⟩, _, out⟩
    have hv : v = .bool true := by
      cases out.res with
      | rd h => cases h; rfl
    subst hv
    have hs : W.Since W.heap.size W' := ⟨out.os, out.tape, out.output, out.size, fun b hb => out.frame b hb (fun j h => by simp at h)⟩
    refine ⟨_, rfl, ds, [], p ++ [], [], p, [], hW', ?_, ?_, ?_, hs.frame _, fun h => by cases h⟩
    · rw [List.append_nil, hspec ds hdl, hres]
      exact trodAll_cons_mk (shut_bool hbool _) trodAll_mk0
    · rw [List.append_nil, hspec ds hdl]
      exact args_stay hlaid hfit hA fun x hx => ⟨hs.sameAt (hlt x hx), by simpa using hlt x hx⟩
    · rw [List.append_nil, hspec ds hdl, hvars]
      exact hV'
end
end Go.Ab

/- The abstract layer, part 21: rows and matrices as data; small facts for the walks. -/
set_option linter.unusedSimpArgs false
set_option linter.unusedVariables false
namespace Go.Ab

def ints (l : List Int) : T := .sh 1 (l.map T.i)
def rows (m : List (List Int)) : T := .sh 1 (m.map ints)
def intsO (l : List Int) : T := .arr 1 (l.map T.i)
def rowsO (m : List (List Int)) : T := .arr 1 (m.map intsO)

def rat (r : Int × Int) : T := .agg [T.i r.1, T.i r.2]

def ratC (l : List (Int × Int)) : List T := l.flatMap fun r => [T.i r.1, T.i r.2]
def rats (l : List (Int × Int)) : T := .sh 2 (ratC l)
def ratsO (l : List (Int × Int)) : T := .arr 2 (ratC l)
theorem ratC_cons (r : Int × Int) (l : List (Int × Int)) : ratC (r :: l) = T.i r.1 :: T.i r.2 :: ratC l := rfl
theorem ratC_length : ∀ l : List (Int × Int), (ratC l).length = l.length * 2
  | [] => rfl
  | r :: l => by rw [ratC_cons]; simp [ratC_length l]; omega
theorem ratC_div (l : List (Int × Int)) : (ratC l).length / 2 = l.length := by rw [ratC_length]; omega
theorem toShL_ratC : ∀ l : List (Int × Int), T.toShL (ratC l) = ratC l
  | [] => rfl
  | r :: l => by rw [ratC_cons, T.toShL, T.toShL, toShL_ratC l]; rfl
theorem ratC_all_cell (l : List (Int × Int)) : (ratC l).all T.cell = true := by
  rw [List.all_eq_true]; intro t ht; obtain ⟨x, _, h⟩ := List.mem_flatMap.1 ht
  rcases List.mem_cons.1 h with rfl | h
  · rfl
  · rcases List.mem_cons.1 h with rfl | h
    · rfl
    · cases h
theorem ratC_all_flat (l : List (Int × Int)) : (ratC l).all T.flat = true := by
  rw [List.all_eq_true]; intro t ht; obtain ⟨x, _, h⟩ := List.mem_flatMap.1 ht
  rcases List.mem_cons.1 h with rfl | h
  · rfl
  · rcases List.mem_cons.1 h with rfl | h
    · rfl
    · cases h
theorem absT_ratsO (d k : Nat) (m : List (Int × Int)) : absT d k (ratsO m) = (.own (rid d k), [(rid d k, ratsO m)], k + 1) := rfl
theorem rootOf_intsO (l : List Int) : rootOf (intsO l) = .live (intsO l) [] := rfl
theorem rootOf_rowsO (l : List (List Int)) : rootOf (rowsO l) = .live (rowsO l) [] := rfl
theorem rootOf_ratsO (l : List (Int × Int)) : rootOf (ratsO l) = .live (ratsO l) [] := rfl
attribute [go_sem] ratC_div ratC_all_cell ratC_all_flat absT_ratsO rootOf_intsO rootOf_rowsO rootOf_ratsO rootOf_arr rootOf_box rootOf_any

theorem all_cell_ints (l : List Int) : (l.map T.i).all T.cell = true := by
  rw [List.all_eq_true]; intro t ht; obtain ⟨x, _, rfl⟩ := List.mem_map.1 ht; rfl
theorem all_flat_ints (l : List Int) : (l.map T.i).all T.flat = true := by
  rw [List.all_eq_true]; intro t ht; obtain ⟨x, _, rfl⟩ := List.mem_map.1 ht; rfl
theorem all_cell_intsO (m : List (List Int)) : (m.map intsO).all T.cell = true := by
  rw [List.all_eq_true]; intro t ht; obtain ⟨x, _, rfl⟩ := List.mem_map.1 ht; rfl

theorem wrap64 {n : Int} (h : -9223372036854775808 ≤ n) (h' : n < 9223372036854775808) : IntKind.i64.wrap n = n := by
  simp [IntKind.wrap, IntKind.bits, IntKind.signed]
  omega
theorem next64 {i n : Nat} (h : i < n) (hn : n ≤ 1000000000000) : IntKind.i64.wrap ((i : Int) + 1) = ((i + 1 : Nat) : Int) := by
  rw [wrap64 (by omega) (by omega)]; rfl
theorem vt_self (S : St) (bor : List Nat) (x : T) : vt S bor x (.t x) = True := by
  cases x <;> simp [vt, vb, maT]
theorem toNat_cast (i : Nat) : (i : Int).toNat = i := rfl
theorem take_succ_all {α : Type} {p : α → Prop} {l : List α} {i : Nat} {x : α} (hx : l[i]? = some x) (h : ∀ y ∈ l.take i, p y) (hp : p x) : ∀ y ∈ l.take (i + 1), p y := by
  intro y hy
  rw [List.take_add_one, hx] at hy
  simp only [Option.toList_some, List.mem_append, List.mem_singleton] at hy
  rcases hy with hy | rfl
  · exact h y hy
  · exact hp
theorem intsO_noSh (l : List Int) : (intsO l).noSh := by
  simp only [intsO, T.noSh]
  rw [T.noShL_iff]
  intro t ht
  obtain ⟨x, _, rfl⟩ := List.mem_map.1 ht
  simp [T.noSh]

section
variable {P : Program} {n : Nat} {S : St}
theorem CallW.res {d : Option Nat} {fo : Operand} {ops : List Operand} {K : St → Prop} {f : FuncId} {cap : List A} {args : List A} {res : T} (hF : Fun P f [] args fun o r => o = [] ∧ r = res) (bor : List Nat) (hfo : fnA (S.ev fo) = some (f, cap)) (hcall : ∀ args w, (callFunc f args).run P w = .ok (.enter f args) w)
    (hargs : vaL S [] bor args (ops.map S.ev ++ cap)) (hns : bor = [] ∨ res.noSh) (hk : afterCall S d [] [] res K) : CallW P n d fo ops K S := by
  refine CallW.use hfo hcall hF [] bor (by simp) trivial (fun q _ => by simp) hargs fun rout res' h => ?_
  obtain ⟨rfl, rfl⟩ := h
  refine ⟨?_, hk⟩
  rcases hns with h | h
  · exact .inl h
  · exact .inr ⟨h, trivial⟩
end

section
variable {P : Program} {n : Nat} {S : St}
theorem CallW.ref {d : Option Nat} {fo : Operand} {ops : List Operand} {K : St → Prop} {f : FuncId} {cap : List A} {rin : List T} {args : List A} {rout : List T} {res : T} (hF : Fun P f rin args fun o r => o = rout ∧ r = res) (srcs bor : List Nat) (hfo : fnA (S.ev fo) = some (f, cap)) (hcall : ∀ args w, (callFunc f args).run P w = .ok (.enter f args) w)
    (hsn : srcs.Nodup) (hsrc : srcsOK S srcs rin) (hsb : ∀ q ∈ bor, q ∉ srcs) (hargs : vaL S srcs bor args (ops.map S.ev ++ cap)) (hns : bor = [] ∨ (res.noSh ∧ T.noShL rout)) (hk : afterCall S d srcs rout res K) : CallW P n d fo ops K S := by
  refine CallW.use hfo hcall hF srcs bor hsn hsrc hsb hargs fun rout' res' h => ?_
  obtain ⟨rfl, rfl⟩ := h
  exact ⟨hns, hk⟩
end
theorem toShL_ints (l : List Int) : T.toShL (l.map T.i) = l.map T.i := by
  rw [T.toShL_eq_map, List.map_map]; exact List.map_congr_left fun _ _ => rfl
theorem intsO_toSh (l : List Int) : (intsO l).toSh = ints l := by
  simp only [intsO, ints, T.toSh, toShL_ints]
theorem rowsO_toSh (m : List (List Int)) : (rowsO m).toSh = rows m := by
  simp only [rowsO, rows, T.toSh, T.toShL_eq_map, List.map_map]
  congr 1
  exact List.map_congr_left fun r _ => intsO_toSh r
theorem toShL_intsO (m : List (List Int)) : T.toShL (m.map intsO) = m.map ints := by
  rw [T.toShL_eq_map, List.map_map]; exact List.map_congr_left fun r _ => intsO_toSh r
theorem rowsO_noSh (m : List (List Int)) : (rowsO m).noSh := by
  simp only [rowsO, T.noSh]
  rw [T.noShL_iff]
  intro t ht
  obtain ⟨x, _, rfl⟩ := List.mem_map.1 ht
  exact intsO_noSh x
theorem absT_rowsO (d k : Nat) (m : List (List Int)) : absT d k (rowsO m) = (.own (rid d k), [(rid d k, rowsO m)], k + 1) := rfl
theorem absT_intsO (d k : Nat) (m : List Int) : absT d k (intsO m) = (.own (rid d k), [(rid d k, intsO m)], k + 1) := rfl


theorem Le.tup2 {a a' b b' : T} (h1 : Le a a') (h2 : Le b b') : Le (.tup [a, b]) (.tup [a', b']) :=
  .tup rfl fun i h h' => match i, h, h' with | 0, _, _ => h1 | 1, _, _ => h2
theorem Fun.le {P : Program} {f : FuncId} {rin : List T} {args : List A} {Q Q' : List T → T → Prop} (h : Fun P f rin args Q) (hq : ∀ o r, Q o r → ∃ r', Le r r' ∧ Q' o r') : Fun P f rin args Q' := by
  intro X w vals hs fp hm hl hi
  refine (h X w vals hs fp hm hl hi).mono ?_
  rintro e w' ⟨v, res, rout, fr, fp', rfl, hQ, hlen, out⟩
  obtain ⟨r', hle, hQ'⟩ := hq _ _ hQ
  obtain ⟨fr', ho, hsub⟩ := hle.ow out.res
  have sub : ∀ b ∈ fr', b ∈ fr := fun b hb => hsub.subset hb
  have hO : ∀ b, ¬ Ob' X fp' fr b → b < w'.heap.size → ¬ Ob' X fp' fr' b := fun b h _ h' => by
    rcases h' with h' | h'
    · exact h (.inl h')
    · exact h (.inr (sub b h'))
  have keep : ∀ p, Keeps p w' w' := fun p _ _ _ _ _ h => h
  exact ⟨v, r', rout, fr', fp', rfl, hQ', hlen, fun i t ht => (let ⟨x, hx, hox, hr⟩ := out.root i t ht; ⟨x, hx, hox.mono (keep _) hO (keep _), hr⟩), out.none, ho.mono (keep _) hO (keep _), out.disj, out.nodup, hsub.nodup out.rnodup,
    fun r b hb hbf => out.rdisj r b hb (sub b hbf), out.old, fun b hb => out.rold b (sub b hb), out.os, out.tape, out.output, out.size, out.frame⟩
theorem Fun.post {P : Program} {f : FuncId} {rin : List T} {args : List A} {Q Q' : List T → T → Prop} (h : Fun P f rin args Q) (hq : ∀ o r, Q o r → Q' o r) : Fun P f rin args Q' := h.le fun o r h1 => ⟨r, .refl r, hq o r h1⟩

theorem spl_one {α : Type} (l : List α) (i : Nat) (x : α) : spl l i [x] = l.set i x := rfl
theorem spl_two {α : Type} (l : List α) (i : Nat) (x y : α) (zs : List α) : spl l i (x :: y :: zs) = l.take i ++ (x :: y :: zs) ++ l.drop (i + (x :: y :: zs).length) := rfl
theorem coC_call (P : Program) (n : Nat) (all : Bool) (m : List Nat) (d : Nat) (f : Operand) (ops : List Operand) (K : St → Prop) (S : St) : coC P n all m (.call (some d) f ops) K S = (all = false ∧ CallC P n d f ops m K S) := rfl
theorem coC_alloc (P : Program) (n : Nat) (all : Bool) (m : List Nat) (d : Nat) (zs : List T) (K : St → Prop) (S : St) : coC P n all m (.alloc d zs) K S = coN (.alloc d zs) K S := rfl
theorem coC_make (P : Program) (n : Nat) (all : Bool) (m : List Nat) (d : Nat) (zs : List T) (eb : Nat) (l c : Operand) (K : St → Prop) (S : St) : coC P n all m (.make d zs eb l c) K S = coN (.make d zs eb l c) K S := rfl
theorem coC_box (P : Program) (n : Nat) (all : Bool) (m : List Nat) (d : Nat) (x : Operand) (K : St → Prop) (S : St) : coC P n all m (.box d x) K S = coN (.box d x) K S := rfl
theorem coC_bslice (P : Program) (n : Nat) (all : Bool) (m : List Nat) (d z len : Nat) (ps : List (Nat × Operand)) (K : St → Prop) (S : St) : coC P n all m (.bslice d z len ps) K S = coN (.bslice d z len ps) K S := rfl
theorem ite_nn {α : Type} (n : Nat) (a b : α) : (if (0 : Int) ≤ (n : Int) then a else b) = a := if_pos (Int.natCast_nonneg _)
theorem ite_nn1 {α : Type} (n : Nat) (a b : α) : (if (0 : Int) ≤ (n : Int) + 1 then a else b) = a := if_pos (by omega)
attribute [go_sem] ite_nn ite_nn1
theorem filter_link (k q : Nat) : List.filter (fun p : Nat × Nat => decide (p.fst < k) || decide (k + 1 ≤ p.fst)) [(k, q)] = [] := by
  rw [List.filter_cons_of_neg (by simp)]; rfl
attribute [go_sem] filter_link List.set_set absT absL List.filter_nil List.all_cons List.all_nil spl_one spl_two List.take_succ_cons List.take_zero List.drop_succ_cons List.drop_zero List.set_cons_zero List.set_cons_succ List.length_set List.cons_append List.append_nil Bool.true_and Bool.and_true Bool.false_and
/-! Guards and conditions at constants: one road only. -/
theorem guardC_tt (s : Nat) (d : Option Nat) (K1 K2 : St → Prop) (S : St) : guardC (.t (.v (.bool true))) s true d K1 K2 S = K1 { S with env := upd S.env s (.t (.v (.bool true))) } := by simp [guardC]
theorem guardC_ff (s : Nat) (d : Option Nat) (K1 K2 : St → Prop) (S : St) : guardC (.t (.v (.bool false))) s false d K1 K2 S = K1 { S with env := upd S.env s (.t (.v (.bool false))) } := by simp [guardC]
theorem guardC_ft (s : Nat) (d : Option Nat) (K1 K2 : St → Prop) (S : St) : guardC (.t (.v (.bool false))) s true d K1 K2 S = K2 (St.put { S with env := upd S.env s (.t (.v (.bool false))) } d skipA) := by simp [guardC]
theorem guardC_tf (s : Nat) (d : Option Nat) (K1 K2 : St → Prop) (S : St) : guardC (.t (.v (.bool true))) s false d K1 K2 S = K2 (St.put { S with env := upd S.env s (.t (.v (.bool true))) } d skipA) := by simp [guardC]
theorem condC_t (K1 K2 : St → Prop) (S : St) : condC (.t (.v (.bool true))) K1 K2 S = K1 S := by simp [condC]
theorem condC_f (K1 K2 : St → Prop) (S : St) : condC (.t (.v (.bool false))) K1 K2 S = K2 S := by simp [condC]
theorem guardC_b (b : Bool) (s : Nat) (want : Bool) (d : Option Nat) (K1 K2 : St → Prop) (S : St) : guardC (.t (.v (.bool b))) s want d K1 K2 S = ((b = want → K1 { S with env := upd S.env s (.t (.v (.bool want))) }) ∧ (b = !want → K2 (St.put { S with env := upd S.env s (.t (.v (.bool !want))) } d skipA))) := rfl
theorem condC_b (b : Bool) (K1 K2 : St → Prop) (S : St) : condC (.t (.v (.bool b))) K1 K2 S = ((b = true → K1 S) ∧ (b = false → K2 S)) := rfl
theorem guardC_u (xs : Array Value) (s : Nat) (want : Bool) (d : Option Nat) (K1 K2 : St → Prop) (S : St) : guardC (.t (.v (.tuple xs))) s want d K1 K2 S = K2 (St.put S d skipA) := rfl
theorem guardC_un (s : Nat) (want : Bool) (d : Option Nat) (K1 K2 : St → Prop) (S : St) : guardC skipA s want d K1 K2 S = K2 (St.put S d skipA) := rfl
attribute [go_sem high] guardC_u guardC_un guardC_tt guardC_ff guardC_ft guardC_tf condC_t condC_f
attribute [go_sem] Value.oneCell' decide_true bne_self_eq_false true_or List.nil_append all_cell_ints all_cell_intsO all_flat_ints Nat.zero_ne_one Nat.add_zero Nat.zero_add cW.eq_1 cW.eq_2 cW.eq_3 cW.eq_4 cW.eq_5 cW.eq_6 cW.eq_7 cW.eq_8 cW.eq_9 cW.eq_10 cW.eq_11 cW.eq_12 drawW.eq_1 drawW.eq_2 itemD.eq_1 itemD.eq_2 valD.eq_1 valD.eq_2 valD.eq_3 valD.eq_4 valD.eq_5 valD.eq_6 CO.dst mergeR_upd mergeR_mask coC_call coC_alloc coC_make coC_box coC_bslice coN.eq_1 coN.eq_2 coN.eq_3 coN.eq_4 giveF.eq_1 giveF.eq_2 maskR_nil maskR_upd maskR_free List.any_cons List.any_nil Option.bind_some Bool.or_false Bool.false_or Bool.or_self decide_false kE kR kN kH coH_store coH_alloc coH_box coH_bslice coH_make coH_app coH_load1 coH_call coV.eq_1 coV.eq_2 coV.eq_3 coV.eq_4 coV.eq_5 coV.eq_6 coV.eq_7 coV.eq_8 coV.eq_9 coV.eq_10 coV.eq_11 coV.eq_12 coV.eq_13 coV.eq_14 coV.eq_15 coV.eq_16 coV.eq_17 coV.eq_18 coV.eq_19 coV.eq_20 coV.eq_21 putD_apply load1V loadNV CO.dst opsW.eq_1 opsW.eq_2 opsW.eq_3 coW.eq_1 coW.eq_2 coW.eq_3 coW.eq_4 coW.eq_5 coW.eq_6 coW.eq_7 coW.eq_8 coW.eq_9 coW.eq_10 coW.eq_11 coW.eq_12 coW.eq_13 coW.eq_14 coW.eq_15 coW.eq_16 coW.eq_17 coW.eq_18 coW.eq_19 coW.eq_20 coW.eq_21 coW.eq_22 coW.eq_23 coW.eq_24 coW.eq_25 coW.eq_26 coW.eq_27 coW.eq_28 coW.eq_29 coW.eq_30 boxLW boxLOK.eq_1 boxLOK.eq_2 boxLOK.eq_3 boxLinks.eq_1 boxLinks.eq_2 boxLinks.eq_3 boxCell CI.toL.eq_1 CI.toL.eq_2 CO.toL putK_apply ev_sl ev_ci ev_cb ev_cv ev_cf guardC_b condC_b thenC_n thenC_r thenC_e blockQ_n blockQ_r blockQ_e loopQ_n loopQ_r loopQ_e pickC beqC beqSC aggI intsT.eq_1 intsT.eq_2 intsA.eq_1 intsA.eq_2 isNilC slcC bndN Option.map_some Option.map_none binW binI unW extractW lenC lenTC idxC fldC load1C loadNC cellsC.eq_1 cellsV.eq_1 readC.eq_1 readA.eq_1 readA.eq_2 readOK.eq_1 readOK.eq_2 noLk.eq_1 noLk.eq_2 List.drop_zero Bool.and_false Option.isSome_some Option.isSome_none Bool.true_or Bool.or_true loadC storeC storeK_apply addrA compsA giveL giveW buildC fillA bsliceC boxW makeC newK_apply baseW srcW appendK1_apply appendK2_apply convC nilCheckW mmW retP.eq_1 retP.eq_2 retL retOne giveT giveTL fnTs routW packT Root.cells Root.with upd_apply St.of mkEnv mkRoots enum St.put T.cell T.flat true_and and_true List.map_cons List.map_nil List.length_cons List.length_nil Option.some.injEq forall_eq' List.lookup_nil Bool.not_true Bool.not_false decide_eq_true_eq decide_eq_false_iff_not ne_eq forall_const Bool.true_eq_false Bool.false_eq_true false_implies ite_true ite_false exists_eq_left' List.getElem?_cons_zero List.getElem?_cons_succ and_self List.getElem?_map Option.map_eq_some_iff forall_exists_index and_imp List.length_map Nat.mul_one Nat.div_one
end Go.Ab

/- The abstract layer, part 33: lists of the walk's rules, each as one rule. -/
set_option linter.unusedSimpArgs false
set_option linter.unusedVariables false
set_option linter.defProp false
namespace Go.Ab

attribute [go_sem] List.reduceReplicate Nat.reduceEqDiff Nat.reduceAdd Nat.reduceLeDiff Nat.reduceMul Nat.reduceSub Nat.reduceDiv Int.reduceToNat Nat.reduceLT Int.reduceLT Int.reduceLE reduceCtorEq
attribute [go_sem ↓] reduceIte
def evR := And.intro @forall_apply_eq_imp_iff₂.{1,1} (@toNat_cast)
def vaR := And.intro @vt_self (And.intro @vaL.eq_1 (And.intro @vaL.eq_2 (And.intro @vaL.eq_3 (And.intro @vtL.eq_1 (And.intro @vtL.eq_2 (And.intro @vtL.eq_3 (And.intro @va.eq_1 (And.intro @va.eq_2 (And.intro @va.eq_3 (And.intro @va.eq_4 (And.intro @va.eq_5 (And.intro @va.eq_6 (And.intro @va.eq_7 (And.intro @va.eq_8 (And.intro @va.eq_9 (And.intro @va.eq_10 (And.intro @va.eq_11 (And.intro @va.eq_12 (And.intro @va.eq_13 (And.intro @vt.eq_1 (And.intro @vt.eq_2 (And.intro @vt.eq_3 (And.intro @vt.eq_4 (And.intro @vt.eq_5 (And.intro @vt.eq_6 (And.intro @vt.eq_7 (And.intro @vt.eq_8 (And.intro @vb.eq_1 (And.intro @vb.eq_2 (And.intro @vb.eq_3 (And.intro @vb.eq_4 (And.intro @vb.eq_5 (And.intro @maT.eq_1 (And.intro @List.cons_append.{0} (And.intro @List.nil_append.{0} (And.intro @List.append_nil.{0} (And.intro @true_or (@or_true))))))))))))))))))))))))))))))))))))))
def rtR := And.intro @List.mem_cons.{0} (And.intro @List.mem_nil_iff.{0} (And.intro @List.not_mem_nil.{0} (And.intro @or_false (And.intro @false_or (And.intro @exists_eq_left.{1} (And.intro @exists_eq_left'.{1} (And.intro @exists_eq_right'.{1} (And.intro @Root.live.injEq (And.intro @eq_self_iff_true.{1} (And.intro @exists_eq.{1} (@and_true)))))))))))
def agR := And.intro @Int.natCast_zero (And.intro @Int.cast_ofNat_Int (And.intro @Int.natCast_one (And.intro @Nat.le_refl (And.intro @Nat.sub_self (And.intro @List.getElem?_cons_zero.{0} (And.intro @List.getElem?_cons_succ.{0} (And.intro @toShL_ratC (And.intro @toShL_ints (And.intro @toShL_intsO (And.intro @T.toSh.eq_1 (And.intro @T.toSh.eq_2 (And.intro @T.toSh.eq_3 (And.intro @T.toSh.eq_4 (@T.toSh.eq_5))))))))))))))
def clR := And.intro @List.append_nil.{0} (And.intro @List.cons_append.{0} (And.intro @afterCall.eq_1 (And.intro @afterCall.eq_2 (And.intro @absT_rowsO (And.intro @absT_intsO (And.intro @absT.eq_1 (And.intro @absT.eq_2 (And.intro @absT.eq_3 (And.intro @absT.eq_4 (And.intro @absT.eq_5 (And.intro @absL.eq_1 (And.intro @absL.eq_2 (And.intro @updL.eq_1 (And.intro @updL.eq_2 (And.intro @updS.eq_1 (And.intro @updS.eq_2 (And.intro @freeAll.eq_1 (And.intro @freeAll.eq_2 (And.intro @rid.eq_1 (And.intro @T.noSh.eq_1 (And.intro @T.noSh.eq_2 (And.intro @T.noSh.eq_3 (And.intro @T.noSh.eq_4 (And.intro @T.noSh.eq_5 (And.intro @T.noSh.eq_6 (And.intro @T.noSh.eq_7 (And.intro @T.noSh.eq_8 (And.intro @T.noShL.eq_1 (And.intro @T.noShL.eq_2 (@Nat.zero_le))))))))))))))))))))))))))))))
def wkR := And.intro @Int.add_zero (And.intro @envOK.eq_1 (And.intro @envOK.eq_2 (And.intro @maA.eq_1 (And.intro @maA.eq_2 (And.intro @maA.eq_3 (And.intro @maA.eq_4 (And.intro @maA.eq_5 (And.intro @maA.eq_6 (And.intro @maA.eq_7 (And.intro @maA.eq_8 (And.intro @maA.eq_9 (And.intro @maA.eq_10 (And.intro @maA.eq_11 (And.intro @maA.eq_12 (And.intro @maA.eq_13 (And.intro @maA.eq_14 (And.intro @maA.eq_15 (And.intro @maT.eq_1 (And.intro @upd_apply (And.intro @and_true (And.intro @true_or (And.intro @or_true (And.intro @List.map_cons.{0,0} (And.intro @List.map_nil.{0,0} (And.intro @Nat.zero_ne_one (And.intro @and_self (And.intro @true_and (And.intro @Int.natCast_zero (And.intro @Int.cast_ofNat_Int (@Int.ofNat_zero))))))))))))))))))))))))))))))
def wrR := And.intro @piOf.eq_1 (And.intro @List.zip_cons_cons.{0,0} (And.intro @List.zip_nil_right.{0,0} (And.intro @List.lookup_cons.{0,0} (And.intro @List.lookup_nil.{0,0} (And.intro @beq_self_eq_true.{0} (And.intro @rootsOK.eq_1 (And.intro @rootsOK.eq_2 (And.intro @rootsOK.eq_3 (And.intro @rootsOK.eq_4 (And.intro @mkRoots.eq_1 (And.intro @mkRoots.eq_2 (And.intro @mkEnv.eq_1 (@mkEnv.eq_2)))))))))))))
def srR := And.intro @rootOf_arr (And.intro @rootOf_box (And.intro @rootOf_any (And.intro @srcsOK.eq_1 (And.intro @srcsOK.eq_2 (And.intro @srcsOK.eq_3 (And.intro @updL.eq_1 (And.intro @updL.eq_2 (And.intro @updS.eq_1 (And.intro @updS.eq_2 (And.intro @upd_apply (And.intro @mkRoots.eq_1 (And.intro @mkRoots.eq_2 (@and_true)))))))))))))
def opR := And.intro @List.lookup_cons.{0,0} (And.intro @beq_self_eq_true.{0} (And.intro @rid.eq_1 (And.intro @openG.eq_1 (@openG.eq_2))))
end Go.Ab

/- The bridge, part 6: words of the text that names a program's order. -/
set_option linter.unusedSimpArgs false
set_option linter.unusedVariables false
namespace Go.Ab

theorem tl_finals : ( "finals" : String).toList = ([102, 105, 110, 97, 108, 115].map Char.ofNat) := String.toList_ofList
theorem tl_reflectrows : ( "reflectrows" : String).toList = ([114, 101, 102, 108, 101, 99, 116, 114, 111, 119, 115].map Char.ofNat) := String.toList_ofList
theorem tl_leanrows : ( "leanrows" : String).toList = ([108, 101, 97, 110, 114, 111, 119, 115].map Char.ofNat) := String.toList_ofList
theorem tl_onebuild : ( "onebuild" : String).toList = ([111, 110, 101, 98, 117, 105, 108, 100].map Char.ofNat) := String.toList_ofList
theorem tl_publicsums : ( "publicsums" : String).toList = ([112, 117, 98, 108, 105, 99, 115, 117, 109, 115].map Char.ofNat) := String.toList_ofList
theorem tl_eqguard : ( "eqguard" : String).toList = ([101, 113, 103, 117, 97, 114, 100].map Char.ofNat) := String.toList_ofList
theorem tl_ownunsafe : ( "ownunsafe" : String).toList = ([111, 119, 110, 117, 110, 115, 97, 102, 101].map Char.ofNat) := String.toList_ofList
theorem tl_libbeside : ( "libbeside" : String).toList = ([108, 105, 98, 98, 101, 115, 105, 100, 101].map Char.ofNat) := String.toList_ofList
theorem tl_ownbeside : ( "ownbeside" : String).toList = ([111, 119, 110, 98, 101, 115, 105, 100, 101].map Char.ofNat) := String.toList_ofList
theorem tl_reflbeside : ( "reflbeside" : String).toList = ([114, 101, 102, 108, 98, 101, 115, 105, 100, 101].map Char.ofNat) := String.toList_ofList
theorem tl_aliases : ( "aliases" : String).toList = ([97, 108, 105, 97, 115, 101, 115].map Char.ofNat) := String.toList_ofList
theorem tl_afterinit : ( "afterinit" : String).toList = ([97, 102, 116, 101, 114, 105, 110, 105, 116].map Char.ofNat) := String.toList_ofList
theorem tl_crcplain : ( "crcplain" : String).toList = ([99, 114, 99, 112, 108, 97, 105, 110].map Char.ofNat) := String.toList_ofList
theorem tl_roadunsafe : ( "roadunsafe" : String).toList = ([114, 111, 97, 100, 117, 110, 115, 97, 102, 101].map Char.ofNat) := String.toList_ofList
theorem tl_fmthandon : ( "fmthandon" : String).toList = ([102, 109, 116, 104, 97, 110, 100, 111, 110].map Char.ofNat) := String.toList_ofList
theorem tl_cut : ( "cut" : String).toList = ([99, 117, 116].map Char.ofNat) := String.toList_ofList
theorem tl_gc : ( "gc" : String).toList = ([103, 99].map Char.ofNat) := String.toList_ofList
theorem tl_spec : ( "spec" : String).toList = ([115, 112, 101, 99].map Char.ofNat) := String.toList_ofList
theorem tl_carried : ( "carried" : String).toList = ([99, 97, 114, 114, 105, 101, 100].map Char.ofNat) := String.toList_ofList
theorem tl_stop : ( "stop" : String).toList = ([115, 116, 111, 112].map Char.ofNat) := String.toList_ofList
theorem tl_harness : ( "harness" : String).toList = ([104, 97, 114, 110, 101, 115, 115].map Char.ofNat) := String.toList_ofList
def cutL : List Char := ([99, 117, 116].map Char.ofNat)
theorem strip_cut (ws : List (List Char)) : stripLifts liftWords (cutL :: ws) = ([], cutL :: ws) := by
  have no : ∀ (o : String) (os : List String) (l : List Char), o.toList = l → (cutL == l) = false → stripLifts (o :: os) (cutL :: ws) = stripLifts os (cutL :: ws) := fun o os l h1 h2 => by
    show (if cutL == o.toList then _ else _) = _
    rw [h1, h2]; rfl
  unfold liftWords
  rw [no _ _ _ tl_finals (by decide), no _ _ _ tl_reflectrows (by decide), no _ _ _ tl_leanrows (by decide), no _ _ _ tl_onebuild (by decide), no _ _ _ tl_publicsums (by decide), no _ _ _ tl_eqguard (by decide), no _ _ _ tl_ownunsafe (by decide), no _ _ _ tl_libbeside (by decide), no _ _ _ tl_ownbeside (by decide), no _ _ _ tl_reflbeside (by decide), no _ _ _ tl_aliases (by decide), no _ _ _ tl_afterinit (by decide), no _ _ _ tl_crcplain (by decide), no _ _ _ tl_roadunsafe (by decide), no _ _ _ tl_fmthandon (by decide)]
  rfl
theorem words_one {r : List Char} : ∀ {w : List Char}, (∀ c ∈ w, c ≠ Char.ofNat 32) → wordsSigns (w ++ Char.ofNat 32 :: r) = w :: wordsSigns r
  | [], _ => by
    show wordsSigns (Char.ofNat 32 :: r) = _
    rfl
  | c :: w, h => by
    have ih := words_one (r := r) (w := w) fun d hd => h d (by simp [hd])
    show wordsSigns (c :: (w ++ Char.ofNat 32 :: r)) = _
    rw [wordsSigns, ih]
    exact fun he => h c (by simp) he
theorem words_three {s : String} {w1 w2 w3 r : List Char} (hs : s = String.ofList (w1 ++ Char.ofNat 32 :: (w2 ++ Char.ofNat 32 :: (w3 ++ Char.ofNat 32 :: r)))) (h1 : (w1.all fun c => c != Char.ofNat 32) = true) (h2 : (w2.all fun c => c != Char.ofNat 32) = true) (h3 : (w3.all fun c => c != Char.ofNat 32) = true)
    (hh : (w1 == ([104, 97, 114, 110, 101, 115, 115].map Char.ofNat)) = true) (hsum : isSumSigns w2 = true) : behindMainWord (wordsSigns s.toList) = w3 :: wordsSigns r := by
  have g : ∀ w : List Char, (w.all fun c => c != Char.ofNat 32) = true → ∀ c ∈ w, c ≠ Char.ofNat 32 := fun w h c hc => by
    have := List.all_eq_true.1 h c hc
    simpa using this
  rw [hs, String.toList_ofList, words_one (g w1 h1), words_one (g w2 h2), words_one (g w3 h3)]
  show (if (w1 == "harness".toList || w1 == "ownmain".toList) && isSumSigns w2 then w3 :: wordsSigns r else w1 :: w2 :: w3 :: wordsSigns r) = _
  rw [tl_harness, hh, hsum]; rfl
theorem mayEnter_of {P : Program} (hw : ∃ ws, behindMainWord (wordsSigns P.initOrder.toList) = cutL :: ws) (h1 : P.laysLater = false) (h2 : P.bearsReflect = false) (h3 : P.doorFits [] = true) : P.mayEnter = true := by
  obtain ⟨ws, h⟩ := hw
  unfold Program.mayEnter
  rw [h]
  simp only [strip_cut, tl_gc, tl_spec, tl_carried, tl_cut, tl_stop, h1, h2, h3]
  rfl
theorem liftsFinal_of {P : Program} (hw : ∃ ws, behindMainWord (wordsSigns P.initOrder.toList) = cutL :: ws) : P.liftsFinal = false := by
  obtain ⟨ws, h⟩ := hw
  unfold Program.liftsFinal Program.headLifts
  rw [h]
  simp only [strip_cut, tl_gc, tl_carried, tl_cut]
  rfl
theorem make_of {P : Program} (hw : ∃ ws, behindMainWord (wordsSigns P.initOrder.toList) = cutL :: ws) : P.make = some .cut := by
  obtain ⟨ws, h⟩ := hw
  unfold Program.make
  rw [h]
  simp only [tl_gc, tl_spec, tl_finals, tl_carried, tl_cut]
  rfl
end Go.Ab

/- Facts of the seat's program, for the claims' closed facts. -/
set_option linter.unusedSimpArgs false
set_option linter.unusedVariables false
namespace Go.Proofs.Ytkmmkgpnlmdcfaa
open Go.ChangeShapes Go.WideShapes Go.ChangeAt Go.RowKit Go.Ab

set_option maxRecDepth 100000 in
theorem Try.initSigns : Try.prog.initOrder = String.ofList (([104, 97, 114, 110, 101, 115, 115].map Char.ofNat) ++ Char.ofNat 32 :: (([100, 100, 100, 48, 57, 102, 56, 56, 56, 99, 57, 53, 54, 57, 100, 101, 50, 56, 98, 51, 49, 102, 54, 99, 99, 98, 49, 49, 52, 101, 98, 49, 48, 54, 97, 50, 97, 49, 54, 50, 100, 53, 54, 55, 101, 57, 56, 54, 48, 101, 97, 99, 57, 98, 101, 55, 55, 100, 56, 98, 99, 48, 56, 98].map Char.ofNat) ++ Char.ofNat 32 :: (([99, 117, 116].map Char.ofNat) ++ Char.ofNat 32 :: ([97, 116, 32, 108, 111, 111, 112, 46, 101, 120, 97, 109, 112, 108, 101, 47, 103, 48, 48, 57, 49, 48, 47, 108, 97, 119, 115, 46, 70, 110, 69, 120, 97, 99, 116, 84, 97, 98, 108, 101, 79, 102, 32, 108, 111, 111, 112, 46, 101, 120, 97, 109, 112, 108, 101, 47, 103, 48, 48, 57, 49, 48, 47, 108, 97, 119, 115, 46, 70, 110, 69, 120, 97, 99, 116, 80, 117, 114, 101, 69, 113, 117, 105, 108, 105, 98, 114, 105, 117, 109, 32, 108, 111, 111, 112, 46, 101, 120, 97, 109, 112, 108, 101, 47, 103, 48, 48, 57, 49, 48, 47, 108, 97, 119, 115, 46, 70, 110, 69, 120, 97, 99, 116, 80, 117, 114, 101, 66, 111, 117, 110, 100, 115, 32, 108, 111, 111, 112, 46, 101, 120, 97, 109, 112, 108, 101, 47, 103, 48, 48, 57, 49, 48, 47, 108, 97, 119, 115, 46, 70, 110, 69, 120, 97, 99, 116, 82, 101, 103, 114, 101, 116, 115, 79, 102, 32, 108, 111, 111, 112, 46, 101, 120, 97, 109, 112, 108, 101, 47, 103, 48, 48, 57, 49, 48, 47, 108, 97, 119, 115, 46, 70, 110, 69, 120, 97, 99, 116, 83, 117, 109, 115, 79, 102, 32, 108, 111, 111, 112, 46, 101, 120, 97, 109, 112, 108, 101, 47, 103, 48, 48, 57, 49, 48, 47, 108, 97, 119, 115, 46, 70, 110, 69, 120, 97, 99, 116, 67, 117, 114, 114, 101, 110, 116, 83, 116, 114, 97, 116, 101, 103, 105, 101, 115, 32, 108, 111, 111, 112, 46, 101, 120, 97, 109, 112, 108, 101, 47, 103, 48, 48, 57, 49, 48, 47, 108, 97, 119, 115, 46, 70, 110, 69, 120, 97, 99, 116, 65, 118, 101, 114, 97, 103, 101, 83, 116, 114, 97, 116, 101, 103, 105, 101, 115, 32, 108, 111, 111, 112, 46, 101, 120, 97, 109, 112, 108, 101, 47, 103, 48, 48, 57, 49, 48, 47, 108, 97, 119, 115, 46, 70, 110, 69, 120, 97, 99, 116, 66, 101, 115, 116, 73, 116, 101, 114, 97, 116, 105, 111, 110, 32, 108, 111, 111, 112, 46, 101, 120, 97, 109, 112, 108, 101, 47, 103, 48, 48, 57, 49, 48, 47, 108, 97, 119, 115, 46, 70, 110, 69, 120, 97, 99, 116, 84, 114, 97, 105, 110, 105, 110, 103, 67, 117, 114, 118, 101, 32, 108, 111, 111, 112, 46, 101, 120, 97, 109, 112, 108, 101, 47, 103, 48, 48, 57, 49, 48, 47, 108, 97, 119, 115, 46, 70, 110, 69, 120, 112, 108, 111, 105, 116, 101, 100, 32, 108, 111, 111, 112, 46, 101, 120, 97, 109, 112, 108, 101, 47, 103, 48, 48, 57, 49, 48, 47, 108, 97, 119, 115, 46, 70, 110, 66, 101, 115, 116, 82, 101, 115, 112, 111, 110, 115, 101, 115, 32, 108, 111, 111, 112, 46, 101, 120, 97, 109, 112, 108, 101, 47, 103, 48, 48, 57, 49, 48, 47, 108, 97, 119, 115, 46, 70, 110, 67, 108, 97, 105, 109, 115, 32, 108, 111, 111, 112, 46, 101, 120, 97, 109, 112, 108, 101, 47, 103, 48, 48, 57, 49, 48, 47, 108, 97, 119, 115, 46, 70, 110, 86, 97, 108, 117, 101, 66, 111, 117, 110, 100, 115, 32, 108, 111, 111, 112, 46, 101, 120, 97, 109, 112, 108, 101, 47, 103, 48, 48, 57, 49, 48, 47, 108, 97, 119, 115, 46, 70, 110, 84, 97, 98, 108, 101, 115, 32, 108, 111, 111, 112, 46, 101, 120, 97, 109, 112, 108, 101, 47, 103, 48, 48, 57, 49, 48, 47, 108, 97, 119, 115, 46, 70, 110, 82, 101, 103, 114, 101, 116, 115, 32, 108, 111, 111, 112, 46, 101, 120, 97, 109, 112, 108, 101, 47, 103, 48, 48, 57, 49, 48, 47, 108, 97, 119, 115, 46, 70, 110, 84, 114, 97, 105, 110, 101, 100, 32, 108, 111, 111, 112, 46, 101, 120, 97, 109, 112, 108, 101, 47, 103, 48, 48, 57, 49, 48, 47, 108, 97, 119, 115, 46, 70, 110, 67, 117, 114, 118, 101, 115].map Char.ofNat)))) := by kernel_rfl
set_option maxRecDepth 100000 in
theorem Try.initWords : ∃ ws, behindMainWord (wordsSigns Try.prog.initOrder.toList) = cutL :: ws := ⟨_, words_three Try.initSigns (by kernel_rfl) (by kernel_rfl) (by kernel_rfl) (by kernel_rfl) (by kernel_rfl)⟩
theorem Try.laysF : Try.prog.laysLater = false := by kernel_rfl
theorem Try.bearsF : Try.prog.bearsReflect = false := by kernel_rfl
theorem Try.doorT : Try.prog.doorFits [] = true := by kernel_rfl
theorem Try.mayEnterT : Try.prog.mayEnter = true := mayEnter_of Try.initWords Try.laysF Try.bearsF Try.doorT
theorem Try.liftsF : Try.prog.liftsFinal = false := liftsFinal_of Try.initWords
theorem Try.makeC : Try.prog.make = some .cut := make_of Try.initWords
theorem Try.heardT : Try.prog.stopsHeard = true := by kernel_rfl
theorem Try.laidOutT : laidOutB Try.prog = true := by kernel_rfl
theorem Try.mapsRowedT : mapsRowed Try.prog = true := by kernel_rfl
end Go.Proofs.Ytkmmkgpnlmdcfaa

/- Games as data: rows of cells, nodes, trees. -/
set_option linter.unusedSimpArgs false
set_option linter.unusedVariables false
namespace Go.Ab

/-! Lists of things of s cells each. -/
section
variable {α : Type} {f : α → List T} {s : Nat}
def chunk (f : α → List T) (l : List α) : List T := l.flatMap f
theorem chunk_nil : chunk f [] = [] := rfl
theorem chunk_cons (x : α) (l : List α) : chunk f (x :: l) = f x ++ chunk f l := by simp [chunk]
theorem chunk_append (l l' : List α) : chunk f (l ++ l') = chunk f l ++ chunk f l' := by simp [chunk]
theorem chunk_length (hs : ∀ x, (f x).length = s) : ∀ l : List α, (chunk f l).length = l.length * s
  | [] => by simp [chunk]
  | x :: l => by rw [chunk_cons, List.length_append, hs, chunk_length hs l, List.length_cons, Nat.add_mul]; omega
theorem chunk_div (hs : ∀ x, (f x).length = s) (h0 : 0 < s) (l : List α) : (chunk f l).length / s = l.length := by rw [chunk_length hs, Nat.mul_div_cancel _ h0]
theorem chunk_drop (hs : ∀ x, (f x).length = s) : ∀ (l : List α) (i : Nat), (chunk f l).drop (i * s) = chunk f (l.drop i)
  | l, 0 => by simp
  | [], i + 1 => by simp [chunk]
  | x :: l, i + 1 => by
    rw [chunk_cons, show (i + 1) * s = (f x).length + i * s by rw [hs, Nat.add_mul]; omega, List.drop_length_add_append, chunk_drop hs l i]; rfl
theorem chunk_take (hs : ∀ x, (f x).length = s) : ∀ (l : List α) (i : Nat), (chunk f l).take (i * s) = chunk f (l.take i)
  | l, 0 => by simp [chunk]
  | [], i + 1 => by simp [chunk]
  | x :: l, i + 1 => by
    rw [chunk_cons, show (i + 1) * s = (f x).length + i * s by rw [hs, Nat.add_mul]; omega, List.take_length_add_append, chunk_take hs l i, List.take_succ_cons, chunk_cons]
theorem chunk_at (hs : ∀ x, (f x).length = s) {l : List α} {i : Nat} {x : α} (h : l[i]? = some x) : ((chunk f l).drop (i * s)).take s = f x := by
  obtain ⟨hi, rfl⟩ := List.getElem?_eq_some_iff.1 h
  rw [chunk_drop hs, List.drop_eq_getElem_cons hi, chunk_cons, List.take_append_of_le_length (by rw [hs]; exact Nat.le_refl _), List.take_of_length_le (by rw [hs]; exact Nat.le_refl _)]
theorem chunk_get (hs : ∀ x, (f x).length = s) {l : List α} {i k : Nat} {x : α} (h : l[i]? = some x) (hk : k < s) : (chunk f l)[i * s + k]? = (f x)[k]? := by
  have := congrArg (·[k]?) (chunk_at hs h)
  simp only [List.getElem?_take, List.getElem?_drop, if_pos hk] at this
  exact this
end

structure Nd where
  p : Int
  a : Int
  b : Int
  f : Int
  ch : List Int
deriving DecidableEq
def nodeC (x : Nd) : List T := [.i x.p, .i x.a, .i x.b, .i x.f, ints x.ch]
def nodeCO (x : Nd) : List T := [.i x.p, .i x.a, .i x.b, .i x.f, intsO x.ch]
theorem nodeC_len (x : Nd) : (nodeC x).length = 5 := rfl
theorem nodeCO_len (x : Nd) : (nodeCO x).length = 5 := rfl
def nodes (l : List Nd) : T := .sh 5 (chunk nodeC l)
def nodesO (l : List Nd) : T := .arr 5 (chunk nodeCO l)
def treeT (l : List Nd) : T := .agg [nodes l]
theorem nd_at {l : List Nd} {i : Nat} {x : Nd} (h : l[i]? = some x) : ((chunk nodeC l).drop (i * 5)).take 5 = [.i x.p, .i x.a, .i x.b, .i x.f, ints x.ch] := chunk_at nodeC_len h
theorem nd_len (l : List Nd) : (chunk nodeC l).length = l.length * 5 := chunk_length nodeC_len l
theorem nd_div (l : List Nd) : (chunk nodeC l).length / 5 = l.length := chunk_div nodeC_len (by decide) l
theorem nd_get0 {l : List Nd} {i : Nat} {x : Nd} (h : l[i]? = some x) : (chunk nodeC l)[i * 5]? = some (.i x.p) := chunk_get (k := 0) nodeC_len h (by decide)
theorem nd_get4 {l : List Nd} {i : Nat} {x : Nd} (h : l[i]? = some x) : (chunk nodeC l)[i * 5 + 4]? = some (ints x.ch) := chunk_get (k := 4) nodeC_len h (by decide)
attribute [go_sem] nd_div

def incr : List Int → Bool
  | [] => true
  | [_] => true
  | x :: y :: l => decide (x < y) && incr (y :: l)
def ndOK (n i : Nat) (x : Nd) : Bool :=
  decide (0 ≤ x.p ∧ x.p ≤ 2) && decide (0 ≤ x.a ∧ x.a ≤ 100) && decide (0 ≤ x.b ∧ x.b ≤ 100) &&
  (if x.p = 2 then decide (x.ch = []) && decide (-1 ≤ x.f ∧ x.f ≤ 1) && (decide (x.f ≠ -1) || decide (x.a = x.b))
   else decide (x.f = -1) && decide (1 ≤ x.ch.length ∧ x.ch.length ≤ 4) && (x.ch.all fun c => decide ((i : Int) + 1 ≤ c ∧ c ≤ (n : Int) - 1)) && incr x.ch)
def occ (c : Nat) (l : List Nd) : Nat := (l.map fun x => if x.p = 2 then 0 else x.ch.count (c : Int)).sum
def dep (l : List Nd) : Nat → Nat → Int
  | 0, _ => 0
  | f + 1, i => if (l.getD i ⟨2, 0, 0, 0, []⟩).p = 2 then 0 else ((l.getD i ⟨2, 0, 0, 0, []⟩).ch.foldl (fun d c => max d (dep l f c.toNat)) 0) + 1
def ndsOK (l : List Nd) : Prop := ∀ i x, l[i]? = some x → ndOK l.length i x = true
def isTreeB (l : List Nd) : Bool :=
  decide (1 ≤ l.length ∧ l.length ≤ 60) && ((List.range l.length).all fun i => ndOK l.length i (l.getD i ⟨2, 0, 0, 0, []⟩)) && ((List.range l.length).all fun i => decide (i = 0 ∨ occ i l = 1)) && decide (dep l l.length 0 ≤ 5)

theorem ndsOK_iff (l : List Nd) : ((List.range l.length).all fun i => ndOK l.length i (l.getD i ⟨2, 0, 0, 0, []⟩)) = true ↔ ndsOK l := by
  rw [List.all_eq_true]
  constructor
  · intro h i x hx
    have hi := (List.getElem?_eq_some_iff.1 hx).1
    have := h i (List.mem_range.2 hi)
    rwa [List.getD_eq_getElem?_getD, hx] at this
  · intro h i hi
    have hi := List.mem_range.1 hi
    rw [List.getD_eq_getElem?_getD, List.getElem?_eq_getElem hi]
    exact h i _ (List.getElem?_eq_getElem hi)
theorem ndOK_child {n i : Nat} {x : Nd} (h : ndOK n i x = true) : ∀ c ∈ x.ch, (i : Int) + 1 ≤ c ∧ c ≤ (n : Int) - 1 := by
  intro c hc
  simp only [ndOK, Bool.and_eq_true] at h
  have h2 := h.2
  split at h2
  · simp only [Bool.and_eq_true, decide_eq_true_eq] at h2
    rw [h2.1.1] at hc; simp at hc
  · simp only [Bool.and_eq_true, decide_eq_true_eq, List.all_eq_true] at h2
    exact h2.1.2 c hc
theorem ndOK_fields {n i : Nat} {x : Nd} (h : ndOK n i x = true) : (0 ≤ x.p ∧ x.p ≤ 2) ∧ (0 ≤ x.a ∧ x.a ≤ 100) ∧ (0 ≤ x.b ∧ x.b ≤ 100) ∧ (x.p = 2 → x.ch = [] ∧ -1 ≤ x.f ∧ x.f ≤ 1 ∧ (x.f = -1 → x.a = x.b)) ∧ (x.p ≠ 2 → x.f = -1 ∧ 1 ≤ x.ch.length) ∧ x.ch.length ≤ 4 := by
  simp only [ndOK, Bool.and_eq_true, decide_eq_true_eq] at h
  obtain ⟨⟨⟨h1, h2⟩, h3⟩, h4⟩ := h
  refine ⟨h1, h2, h3, fun hp => ?_, fun hp => ?_, ?_⟩
  · rw [if_pos hp] at h4
    simp only [Bool.and_eq_true, Bool.or_eq_true, decide_eq_true_eq] at h4
    exact ⟨h4.1.1, h4.1.2.1, h4.1.2.2, fun hf => h4.2.resolve_left (fun h => h hf)⟩
  · rw [if_neg hp] at h4
    simp only [Bool.and_eq_true, decide_eq_true_eq] at h4
    exact ⟨h4.1.1.1, h4.1.1.2.1⟩
  · split at h4
    · simp only [Bool.and_eq_true, decide_eq_true_eq] at h4
      rw [h4.1.1]; simp
    · simp only [Bool.and_eq_true, decide_eq_true_eq] at h4
      exact h4.1.1.2.2
theorem dep_nonneg {l : List Nd} : ∀ (f i : Nat), 0 ≤ dep l f i ∧ dep l f i ≤ f
  | 0, i => by simp [dep]
  | f + 1, i => by
    rw [dep]; split
    · omega
    · have key : ∀ (cs : List Int) (d : Int), 0 ≤ d ∧ d ≤ f → 0 ≤ cs.foldl (fun d c => max d (dep l f c.toNat)) d ∧ cs.foldl (fun d c => max d (dep l f c.toNat)) d ≤ f := by
        intro cs
        induction cs with
        | nil => intro d h; exact h
        | cons c cs ih =>
          intro d h
          rw [List.foldl_cons]
          have := dep_nonneg (l := l) f c.toNat
          exact ih _ (by omega)
      have := key (l.getD i ⟨2, 0, 0, 0, []⟩).ch 0 (by omega)
      omega
end Go.Ab

/- Games as data: values and best responses. -/
set_option linter.unusedSimpArgs false
set_option linter.unusedVariables false
namespace Go.Ab

def nd0 : Nd := ⟨2, 0, 0, 0, []⟩
structure Gm where
  nd : List Nd
  w : List (List Int)
  v : List (List Int)
deriving DecidableEq
def sumI : List Int → Int
  | [] => 0
  | x :: l => x + sumI l
theorem sumI_append : ∀ l l' : List Int, sumI (l ++ l') = sumI l + sumI l'
  | [], l' => by simp [sumI]
  | x :: l, l' => by rw [List.cons_append, sumI, sumI, sumI_append l l']; omega
theorem sumI_snoc (l : List Int) (x : Int) : sumI (l ++ [x]) = sumI l + x := by rw [sumI_append]; simp [sumI]
theorem sumI_nonneg : ∀ {l : List Int}, (∀ x ∈ l, 0 ≤ x) → 0 ≤ sumI l
  | [], _ => by simp [sumI]
  | x :: l, h => by
    have h1 := h x (by simp)
    have h2 := sumI_nonneg (l := l) fun y hy => h y (by simp [hy])
    rw [sumI]; omega
theorem sumI_le {b : Int} : ∀ {l : List Int}, (∀ x ∈ l, x ≤ b) → sumI l ≤ l.length * b
  | [], _ => by simp [sumI]
  | x :: l, h => by
    have h1 := h x (by simp)
    have h2 := sumI_le (l := l) fun y hy => h y (by simp [hy])
    rw [sumI, List.length_cons]
    have : ((l.length + 1 : Nat) : Int) * b = l.length * b + b := by rw [Int.natCast_add, Int.add_mul]; simp
    omega
def matK (m : List (List Int)) (k : Nat) (lo hi : Int) : Bool := decide (m.length = k) && m.all fun r => decide (r.length = k) && r.all fun x => decide (lo ≤ x ∧ x ≤ hi)
def totW (w : List (List Int)) : Int := sumI (w.map sumI)
def isGameB (g : Gm) : Bool := isTreeB g.nd && decide (1 ≤ g.w.length ∧ g.w.length ≤ 6) && matK g.w g.w.length 0 9 && matK g.v g.w.length (-1) 1 && decide (0 < totW g.w)

def idxs (l : List Nd) (pl : Int) (n : Nat) : List Int := ((List.range n).filter fun i => decide ((l.getD i nd0).p = pl)).map Int.ofNat
theorem idxs_succ (l : List Nd) (pl : Int) (n : Nat) : idxs l pl (n + 1) = if (l.getD n nd0).p = pl then idxs l pl n ++ [(n : Int)] else idxs l pl n := by
  unfold idxs
  rw [List.range_succ, List.filter_append]
  by_cases h : (l.getD n nd0).p = pl
  · rw [if_pos h, List.filter_cons_of_pos (by simpa using h)]; simp
  · rw [if_neg h, List.filter_cons_of_neg (by simpa using h)]; simp
def setsOf (ns : List Int) (k : Nat) : List (List Int) := ns.flatMap fun n => (List.range k).map fun c : Nat => [n, (c : Int)]
theorem setsOf_snoc (ns : List Int) (n : Int) (k : Nat) : setsOf (ns ++ [n]) k = setsOf ns k ++ (List.range k).map fun c : Nat => [n, (c : Int)] := by simp [setsOf]
theorem setsOf_length (ns : List Int) (k : Nat) : (setsOf ns k).length = ns.length * k := by
  induction ns with
  | nil => simp [setsOf]
  | cons n ns ih =>
    have : setsOf (n :: ns) k = ((List.range k).map fun c : Nat => [n, (c : Int)]) ++ setsOf ns k := rfl
    rw [this, List.length_append, ih]; simp [Nat.add_mul]; omega
def sets (g : Gm) (pl : Int) : List (List Int) := setsOf (idxs g.nd pl g.nd.length) g.w.length

def pay (g : Gm) (i : Nat) (a b : Nat) : Int :=
  let x := g.nd.getD i nd0
  let r := if x.f = 0 then -1 else if x.f = 1 then 1 else (g.v.getD a []).getD b 0
  if r = 1 then x.b else if r = -1 then -x.a else 0
def pw (p : Nat) : Int := 60 ^ p
theorem pw_succ (p : Nat) : pw (p + 1) = 60 * pw p := by rw [pw, pw, Int.pow_succ, Int.mul_comm]
theorem pw_pos (p : Nat) : 0 < pw p := Int.pow_pos (by decide)
def setI (g : Gm) (pl : Int) (i c : Nat) : Nat := (idxs g.nd pl i).length * g.w.length + c
def partsOf (g : Gm) (pt : List (List Int)) (pl : Int) (i c : Nat) : List Int := pt.getD (setI g pl i c) []

def val (g : Gm) (s t : List (List Int)) : Nat → Nat → Nat → Nat → Nat → Int
  | 0, _, _, _, _ => 0
  | f + 1, i, a, b, p =>
    let x := g.nd.getD i nd0
    if x.p = 2 then pay g i a b * pw p
    else sumI (List.zipWith (fun q c => q * val g s t f c.toNat a b (p - 1)) (if x.p = 0 then partsOf g s 0 i a else partsOf g t 1 i b) x.ch)

end Go.Ab

/- Games as data: best responses, scales and bounds. -/
set_option linter.unusedSimpArgs false
set_option linter.unusedVariables false
namespace Go.Ab

theorem foldl_max_le {α : Type} (F : α → Int) : ∀ (cs : List α) (d : Int), d ≤ cs.foldl (fun d c => max d (F c)) d ∧ ∀ c ∈ cs, F c ≤ cs.foldl (fun d c => max d (F c)) d
  | [], d => ⟨Int.le_refl _, by simp⟩
  | c :: cs, d => by
    rw [List.foldl_cons]
    obtain ⟨h1, h2⟩ := foldl_max_le F cs (max d (F c))
    refine ⟨by omega, fun c' hc' => ?_⟩
    rcases List.mem_cons.1 hc' with rfl | hc'
    · omega
    · exact h2 c' hc'
theorem dep_child {l : List Nd} {f i : Nat} (hp : (l.getD i nd0).p ≠ 2) : 1 ≤ dep l (f + 1) i ∧ ∀ c ∈ (l.getD i nd0).ch, dep l f c.toNat + 1 ≤ dep l (f + 1) i := by
  have e : dep l (f + 1) i = ((l.getD i nd0).ch.foldl (fun d c => max d (dep l f c.toNat)) 0) + 1 := by
    rw [dep]; exact if_neg hp
  obtain ⟨h1, h2⟩ := foldl_max_le (fun c : Int => dep l f c.toNat) (l.getD i nd0).ch 0
  rw [e]
  exact ⟨by omega, fun c hc => by have := h2 c hc; omega⟩

theorem getD_mem {α : Type} {l : List α} {k : Nat} (d : α) (h : k < l.length) : l.getD k d ∈ l := by rw [List.getD_eq_getElem?_getD, List.getElem?_eq_getElem h]; exact List.getElem_mem h
theorem sumI_map_mul {α : Type} (F : α → Int) (c : Int) : ∀ l : List α, sumI (l.map fun x => c * F x) = c * sumI (l.map F)
  | [] => by simp [sumI]
  | x :: l => by rw [List.map_cons, List.map_cons, sumI, sumI, sumI_map_mul F c l, Int.mul_add]
theorem sumI_congr {α : Type} {F G : α → Int} : ∀ {l : List α}, (∀ x ∈ l, F x = G x) → sumI (l.map F) = sumI (l.map G)
  | [], _ => rfl
  | x :: l, h => by rw [List.map_cons, List.map_cons, sumI, sumI, h x (by simp), sumI_congr fun y hy => h y (by simp [hy])]
theorem sumI_abs {α : Type} {F G : α → Int} : ∀ {l : List α}, (∀ x ∈ l, -G x ≤ F x ∧ F x ≤ G x) → -sumI (l.map G) ≤ sumI (l.map F) ∧ sumI (l.map F) ≤ sumI (l.map G)
  | [], _ => by simp [sumI]
  | x :: l, h => by
    have h1 := h x (by simp)
    have h2 := sumI_abs (l := l) fun y hy => h y (by simp [hy])
    rw [List.map_cons, List.map_cons, sumI, sumI]; omega
theorem map_getD_range : ∀ l : List Int, (List.range l.length).map (fun c => l.getD c 0) = l := by
  intro l
  refine List.ext_getElem? fun j => ?_
  rw [List.getElem?_map]
  by_cases hj : j < l.length
  · rw [List.getElem?_range hj, Option.map_some, List.getD_eq_getElem?_getD, List.getElem?_eq_getElem hj]; rfl
  · rw [List.getElem?_eq_none (by simpa using hj), List.getElem?_eq_none (by omega)]; rfl

def partsOK (g : Gm) (ot : List (List Int)) (pl : Int) : Prop := ∀ i c, i < g.nd.length → c < g.w.length → (g.nd.getD i nd0).p = pl → (partsOf g ot pl i c).length = (g.nd.getD i nd0).ch.length ∧ (∀ x ∈ partsOf g ot pl i c, 0 ≤ x ∧ x ≤ 60) ∧ sumI (partsOf g ot pl i c) = 60
def payOK (g : Gm) : Prop := ∀ i a b, -100 ≤ pay g i a b ∧ pay g i a b ≤ 100
theorem mul_abs {x y b : Int} (hx : 0 ≤ x) (h1 : -b ≤ y) (h2 : y ≤ b) : -(b * x) ≤ x * y ∧ x * y ≤ b * x := by
  have e1 := Int.mul_le_mul_of_nonneg_left h2 hx
  have e2 := Int.mul_le_mul_of_nonneg_left h1 hx
  rw [Int.mul_neg] at e2
  rw [Int.mul_comm b x]; omega
end Go.Ab

/- Games as data: strategies, choices of best responses. -/
set_option linter.unusedSimpArgs false
set_option linter.unusedVariables false
namespace Go.Ab

def partOK (n : Nat) (l : List Int) : Bool := decide (l.length = n) && (l.all fun x => decide (0 ≤ x ∧ x ≤ 60)) && decide (sumI l = 60)
def sizeAt (g : Gm) (pl : Int) (i : Nat) : Nat := (g.nd.getD (((sets g pl).getD i []).getD 0 0).toNat nd0).ch.length
def isStratB (g : Gm) (pl : Int) (pt : List (List Int)) : Bool := decide (pt.length = (sets g pl).length) && ((List.range (sets g pl).length).all fun i => partOK (sizeAt g pl i) (pt.getD i []))

theorem idxs_split (l : List Nd) (pl : Int) {i : Nat} (hp : (l.getD i nd0).p = pl) : ∀ (n : Nat), i < n → ∃ rest, idxs l pl n = idxs l pl i ++ (i : Int) :: rest
  | 0, h => absurd h (by omega)
  | n + 1, h => by
    rw [idxs_succ]
    rcases Nat.lt_or_ge i n with h1 | h1
    · obtain ⟨rest, e⟩ := idxs_split l pl hp n h1
      split
      · exact ⟨rest ++ [(n : Int)], by rw [e]; simp⟩
      · exact ⟨rest, e⟩
    · have : n = i := by omega
      subst this
      rw [if_pos hp]
      exact ⟨[], rfl⟩
theorem idxs_mem {l : List Nd} {pl : Int} {n : Nat} {x : Int} (h : x ∈ idxs l pl n) : ∃ i : Nat, x = i ∧ i < n ∧ (l.getD i nd0).p = pl := by
  obtain ⟨i, hi, rfl⟩ := List.mem_map.1 h
  obtain ⟨h1, h2⟩ := List.mem_filter.1 hi
  exact ⟨i, rfl, List.mem_range.1 h1, by simpa using h2⟩
theorem sets_get {g : Gm} {pl : Int} {i c : Nat} (hi : i < g.nd.length) (hc : c < g.w.length) (hp : (g.nd.getD i nd0).p = pl) : (sets g pl)[setI g pl i c]? = some [(i : Int), (c : Int)] := by
  obtain ⟨rest, e⟩ := idxs_split g.nd pl hp g.nd.length hi
  have e1 : setsOf (idxs g.nd pl i ++ (i : Int) :: rest) g.w.length = setsOf (idxs g.nd pl i) g.w.length ++ (((List.range g.w.length).map fun c : Nat => [(i : Int), (c : Int)]) ++ setsOf rest g.w.length) := by simp [setsOf]
  rw [sets, e, e1, setI, List.getElem?_append_right (by rw [setsOf_length]; omega), setsOf_length, Nat.add_sub_cancel_left, List.getElem?_append_left (by simpa using hc)]
  rw [List.getElem?_map, List.getElem?_range hc]; rfl
theorem sets_length (g : Gm) (pl : Int) : (sets g pl).length = (idxs g.nd pl g.nd.length).length * g.w.length := setsOf_length _ _
theorem setI_lt {g : Gm} {pl : Int} {i c : Nat} (hi : i < g.nd.length) (hc : c < g.w.length) (hp : (g.nd.getD i nd0).p = pl) : setI g pl i c < (sets g pl).length := (List.getElem?_eq_some_iff.1 (sets_get hi hc hp)).1
theorem setsOf_mem {ns : List Int} {k : Nat} {x : List Int} (h : x ∈ setsOf ns k) : ∃ n ∈ ns, ∃ c : Nat, c < k ∧ x = [n, (c : Int)] := by
  obtain ⟨n, hn, hx⟩ := List.mem_flatMap.1 h
  obtain ⟨c, hc, rfl⟩ := List.mem_map.1 hx
  exact ⟨n, hn, c, List.mem_range.1 hc, rfl⟩
theorem partsOK_of {g : Gm} {pl : Int} {pt : List (List Int)} (h : isStratB g pl pt = true) : partsOK g pt pl := by
  intro i c hi hc hp
  simp only [isStratB, Bool.and_eq_true, decide_eq_true_eq, List.all_eq_true, List.mem_range] at h
  have h1 := h.2 (setI g pl i c) (setI_lt hi hc hp)
  have e : sizeAt g pl (setI g pl i c) = (g.nd.getD i nd0).ch.length := by
    have e0 : (sets g pl).getD (setI g pl i c) [] = [(i : Int), (c : Int)] := by rw [List.getD_eq_getElem?_getD, sets_get hi hc hp]; rfl
    rw [sizeAt, e0]; rfl
  rw [e] at h1
  simp only [partOK, Bool.and_eq_true, decide_eq_true_eq, List.all_eq_true] at h1
  exact ⟨h1.1.1, h1.1.2, h1.2⟩

theorem isTreeB_spec {l : List Nd} (h : isTreeB l = true) : (1 ≤ l.length ∧ l.length ≤ 60) ∧ ndsOK l ∧ (∀ i, i < l.length → i = 0 ∨ occ i l = 1) ∧ dep l l.length 0 ≤ 5 := by
  simp only [isTreeB, Bool.and_eq_true, decide_eq_true_eq] at h
  obtain ⟨⟨⟨h1, h2⟩, h3⟩, h4⟩ := h
  refine ⟨h1, (ndsOK_iff l).1 h2, fun i hi => ?_, h4⟩
  rw [List.all_eq_true] at h3
  have := h3 i (List.mem_range.2 hi)
  simpa using this
theorem matK_spec {m : List (List Int)} {k : Nat} {lo hi : Int} (h : matK m k lo hi = true) : m.length = k ∧ ∀ r ∈ m, r.length = k ∧ ∀ x ∈ r, lo ≤ x ∧ x ≤ hi := by
  simp only [matK, Bool.and_eq_true, decide_eq_true_eq, List.all_eq_true] at h
  exact h
theorem payOK_of {g : Gm} (h : ndsOK g.nd) : payOK g := by
  intro i a b
  have hx : (0 ≤ (g.nd.getD i nd0).a ∧ (g.nd.getD i nd0).a ≤ 100) ∧ (0 ≤ (g.nd.getD i nd0).b ∧ (g.nd.getD i nd0).b ≤ 100) := by
    rw [List.getD_eq_getElem?_getD]
    cases hi : g.nd[i]? with
    | none => decide
    | some x =>
      obtain ⟨_, h1, h2, _⟩ := ndOK_fields (h i x hi)
      exact ⟨h1, h2⟩
  unfold pay
  simp only []
  generalize (if (g.nd.getD i nd0).f = 0 then (-1 : Int) else if (g.nd.getD i nd0).f = 1 then 1 else (g.v.getD a []).getD b 0) = r
  split
  · omega
  · split <;> omega

def dpt (g : Gm) : Nat := (dep g.nd g.nd.length 0).toNat
end Go.Ab

/- Games as data: how the parents of nodes are counted. -/
set_option linter.unusedSimpArgs false
set_option linter.unusedVariables false
namespace Go.Ab

def cntV (l : List Nd) (n i k : Nat) : List Int := (List.range n).map fun c => (occ c (l.take i) : Int) + (((l.getD i nd0).ch.take k).count (c : Int) : Nat)
theorem cntV_length (l : List Nd) (n i k : Nat) : (cntV l n i k).length = n := by simp [cntV]
theorem cntV_get (l : List Nd) {n i k c : Nat} (h : c < n) : (cntV l n i k)[c]? = some ((occ c (l.take i) : Int) + (((l.getD i nd0).ch.take k).count (c : Int) : Nat)) := by simp [cntV, h]
theorem cntV_zero (l : List Nd) (n : Nat) : cntV l n 0 0 = List.replicate n 0 := by
  refine List.ext_getElem? fun j => ?_
  rw [List.getElem?_replicate]
  by_cases hj : j < n
  · rw [cntV_get l hj, if_pos hj]; simp [occ]
  · rw [List.getElem?_eq_none (by rw [cntV_length]; omega), if_neg hj]
theorem cntV_set {l : List Nd} {n i k c : Nat} (hc : c < n) (hk : (l.getD i nd0).ch[k]? = some (c : Int)) : (cntV l n i k).set c ((occ c (l.take i) : Int) + (((l.getD i nd0).ch.take k).count (c : Int) : Nat) + 1) = cntV l n i (k + 1) := by
  refine List.ext_getElem? fun j => ?_
  rw [List.getElem?_set, cntV_length]
  have ht : (l.getD i nd0).ch.take (k + 1) = (l.getD i nd0).ch.take k ++ [(c : Int)] := by rw [List.take_add_one, hk]; rfl
  by_cases hj : c = j
  · subst hj
    rw [if_pos rfl, if_pos hc, cntV_get l hc, ht, List.count_append]
    simp; omega
  · rw [if_neg hj]
    by_cases hjn : j < n
    · rw [cntV_get l hjn, cntV_get l hjn, ht, List.count_append]
      have : List.count (j : Int) [(c : Int)] = 0 := by
        rw [List.count_eq_zero]; simp; omega
      rw [this, Nat.add_zero]
    · rw [List.getElem?_eq_none (by rw [cntV_length]; omega), List.getElem?_eq_none (by rw [cntV_length]; omega)]
theorem occ_snoc (c : Nat) (l : List Nd) (x : Nd) : occ c (l ++ [x]) = occ c l + if x.p = 2 then 0 else x.ch.count (c : Int) := by simp [occ]
theorem occ_nil_ch {l : List Nd} {i c : Nat} {x : Nd} (hx : l[i]? = some x) (h : x.p = 2 → x.ch = []) : occ c (l.take (i + 1)) = occ c (l.take i) + x.ch.count (c : Int) := by
  have ht : l.take (i + 1) = l.take i ++ [x] := by rw [List.take_add_one, hx]; rfl
  rw [ht, occ_snoc]
  split
  · rename_i h1; rw [h h1]; simp
  · rfl
theorem cntV_next {l : List Nd} {n i : Nat} {x : Nd} (hx : l[i]? = some x) (h : x.p = 2 → x.ch = []) : cntV l n i x.ch.length = cntV l n (i + 1) 0 := by
  have hd : l.getD i nd0 = x := by rw [List.getD_eq_getElem?_getD, hx]; rfl
  refine List.map_congr_left fun c _ => ?_
  rw [occ_nil_ch hx h, hd, List.take_length, List.take_zero]
  simp
theorem cntV_skip {l : List Nd} {n i : Nat} {x : Nd} (hx : l[i]? = some x) (h : x.ch = []) : cntV l n i 0 = cntV l n (i + 1) 0 := by
  have := cntV_next (n := n) hx (fun _ => h)
  rw [h] at this
  exact this
theorem cntV_all (l : List Nd) (n c : Nat) (h : c < n) : (cntV l n l.length 0)[c]? = some (occ c l : Int) := by
  rw [cntV_get l h, List.take_length]; simp
def rises (n : Int) (l : List Int) : Bool := (l.all fun c => decide (0 ≤ c ∧ c ≤ n - 1)) && incr l
theorem incr_head {a : Int} : ∀ {l : List Int}, incr (a :: l) = true → ∀ c ∈ l, a < c
  | [], _ => by simp
  | b :: l, h => by
    rw [incr, Bool.and_eq_true, decide_eq_true_eq] at h
    intro c hc
    rcases List.mem_cons.1 hc with rfl | hc
    · exact h.1
    · have := incr_head h.2 c hc; omega
theorem ndOK_spec (n i : Nat) (x : Nd) : ndOK n i x =
    (decide (0 ≤ x.p ∧ x.p ≤ 2) && decide (0 ≤ x.a ∧ x.a ≤ 100) && decide (0 ≤ x.b ∧ x.b ≤ 100) && decide (-1 ≤ x.f ∧ x.f ≤ 1) &&
    (if x.p = 2 then decide (x.ch.length = 0) && (decide (0 ≤ x.f) || decide (x.a = x.b))
     else decide (x.f = -1) && decide (1 ≤ x.ch.length ∧ x.ch.length ≤ 4) && rises n x.ch && decide ((i : Int) < x.ch.headD 0))) := by
  rw [ndOK, Bool.eq_iff_iff]
  simp only [Bool.and_eq_true, decide_eq_true_eq]
  by_cases h2 : x.p = 2
  · rw [if_pos h2, if_pos h2]
    simp only [Bool.and_eq_true, Bool.or_eq_true, decide_eq_true_eq, List.length_eq_zero_iff]
    constructor
    · rintro ⟨⟨⟨h1, h3⟩, h4⟩, ⟨h5, h6⟩, h7⟩
      exact ⟨⟨⟨⟨h1, h3⟩, h4⟩, h6⟩, h5, h7.imp (fun h => by omega) id⟩
    · rintro ⟨⟨⟨⟨h1, h3⟩, h4⟩, h6⟩, h5, h7⟩
      exact ⟨⟨⟨h1, h3⟩, h4⟩, ⟨h5, h6⟩, h7.imp (fun h => by omega) id⟩
  · rw [if_neg h2, if_neg h2]
    simp only [rises, Bool.and_eq_true, decide_eq_true_eq, List.all_eq_true]
    constructor
    · rintro ⟨⟨⟨h1, h3⟩, h4⟩, ⟨⟨h5, h6⟩, h7⟩, h8⟩
      refine ⟨⟨⟨⟨h1, h3⟩, h4⟩, by omega⟩, ⟨⟨h5, h6⟩, fun c hc => by have := h7 c hc; omega, h8⟩, ?_⟩
      cases hch : x.ch with
      | nil => rw [hch] at h6; simp at h6
      | cons c cs => have := h7 c (by rw [hch]; simp); simp only [List.headD_cons]; omega
    · rintro ⟨⟨⟨⟨h1, h3⟩, h4⟩, h6⟩, ⟨⟨h5, h6'⟩, h7, h8⟩, h9⟩
      refine ⟨⟨⟨h1, h3⟩, h4⟩, ⟨⟨h5, h6'⟩, fun c hc => ?_⟩, h8⟩
      have h10 := h7 c hc
      cases hch : x.ch with
      | nil => rw [hch] at hc; simp at hc
      | cons d cs =>
        rw [hch] at hc h8 h9
        simp only [List.headD_cons] at h9
        rcases List.mem_cons.1 hc with rfl | hc
        · omega
        · have := incr_head h8 c hc; omega
end Go.Ab

/- Games as data: no strategy does better than the best; bounds of the number of a game. -/
set_option linter.unusedSimpArgs false
set_option linter.unusedVariables false
namespace Go.Ab

theorem zipW_sum (F : Int → Int → Int) : ∀ (l m : List Int), l.length = m.length → sumI (List.zipWith F l m) = sumI ((List.range m.length).map fun k => F (l.getD k 0) (m.getD k 0))
  | [], [], _ => rfl
  | x :: l, y :: m, h => by
    rw [List.zipWith_cons_cons, sumI, zipW_sum F l m (by simpa using h), List.length_cons, List.range_succ_eq_map, List.map_cons, List.map_map, sumI]
    rfl
def gnum (g : Gm) (s t : List (List Int)) : Int := sumI ((List.range g.w.length).map fun a => sumI ((List.range g.w.length).map fun b => (g.w.getD a []).getD b 0 * val g s t g.nd.length 0 a b (dpt g)))
end Go.Ab

/- Games as data: the parts of a tree below its nodes; what a best response writes. -/
set_option linter.unusedSimpArgs false
set_option linter.unusedVariables false
namespace Go.Ab

def isKid (l : List Nd) (i j : Nat) : Prop := i < l.length ∧ (l.getD i nd0).p ≠ 2 ∧ (j : Int) ∈ (l.getD i nd0).ch
inductive Rch (l : List Nd) : Nat → Nat → Prop
  | refl (i : Nat) : Rch l i i
  | step {i j k : Nat} : Rch l i j → isKid l j k → Rch l i k
theorem kid_lt {l : List Nd} (h : ndsOK l) {i j : Nat} (hk : isKid l i j) : i < j ∧ j < l.length := by
  obtain ⟨h1, h2, h3⟩ := hk
  have hx : l[i]? = some (l.getD i nd0) := by rw [List.getD_eq_getElem?_getD, List.getElem?_eq_getElem h1]; rfl
  have := ndOK_child (h i _ hx) _ h3
  omega
theorem Rch.le {l : List Nd} (h : ndsOK l) {i j : Nat} (hr : Rch l i j) : i ≤ j := by
  induction hr with
  | refl => exact Nat.le_refl _
  | step _ hk ih => have := kid_lt h hk; omega
theorem occ_count {l : List Nd} {i j : Nat} (hk : isKid l i j) : 1 ≤ occ j [l.getD i nd0] := by
  obtain ⟨h1, h2, h3⟩ := hk
  have := List.count_pos_iff.2 h3
  simp only [occ, List.map_cons, List.map_nil, if_neg h2, List.sum_cons, List.sum_nil]
  omega
theorem occ_append (c : Nat) (l l' : List Nd) : occ c (l ++ l') = occ c l + occ c l' := by simp [occ]
theorem occ_two {l : List Nd} {i i' j : Nat} (hii : i < i') (h : isKid l i j) (h' : isKid l i' j) : 2 ≤ occ j l := by
  have hl' : i' < l.length := h'.1
  have hl : i < l.length := h.1
  have e1 : l = l.take i' ++ (l.getD i' nd0) :: l.drop (i' + 1) := by
    have : l.getD i' nd0 = l[i']'hl' := by simp [List.getD_eq_getElem?_getD, List.getElem?_eq_getElem hl']
    rw [this, ← List.drop_eq_getElem_cons hl', List.take_append_drop]
  have hil : i < (l.take i').length := by rw [List.length_take]; omega
  have e2 : l.take i' = (l.take i').take i ++ (l.getD i nd0) :: (l.take i').drop (i + 1) := by
    have : l.getD i nd0 = (l.take i')[i]'hil := by simp [List.getElem_take, List.getD_eq_getElem?_getD, List.getElem?_eq_getElem hl]
    rw [this, ← List.drop_eq_getElem_cons hil, List.take_append_drop]
  have o1 := occ_count h
  have o2 := occ_count h'
  have e3 : occ j (l.getD i' nd0 :: l.drop (i' + 1)) = occ j [l.getD i' nd0] + occ j (l.drop (i' + 1)) := occ_append j [_] _
  have e4 : occ j (l.getD i nd0 :: (l.take i').drop (i + 1)) = occ j [l.getD i nd0] + occ j ((l.take i').drop (i + 1)) := occ_append j [_] _
  have e5 : occ j l = occ j (l.take i') + occ j (l.getD i' nd0 :: l.drop (i' + 1)) := by
    conv => lhs; rw [e1]
    exact occ_append _ _ _
  have e6 : occ j (l.take i') = occ j ((l.take i').take i) + occ j (l.getD i nd0 :: (l.take i').drop (i + 1)) := by
    conv => lhs; rw [e2]
    exact occ_append _ _ _
  omega
theorem kid_unique {l : List Nd} (h : ndsOK l) (ho : ∀ i, i < l.length → i = 0 ∨ occ i l = 1) {i i' j : Nat} (hk : isKid l i j) (hk' : isKid l i' j) : i = i' := by
  have hj := kid_lt h hk
  have h1 := (ho j hj.2).resolve_left (by omega)
  rcases Nat.lt_trichotomy i i' with h2 | h2 | h2
  · have := occ_two h2 hk hk'; omega
  · exact h2
  · have := occ_two h2 hk' hk; omega
theorem Rch.up {l : List Nd} {i j : Nat} (hr : Rch l i j) : j = i ∨ ∃ m, Rch l i m ∧ isKid l m j := by
  cases hr with
  | refl => exact .inl rfl
  | step h hk => exact .inr ⟨_, h, hk⟩
theorem Rch.apart {l : List Nd} (h : ndsOK l) (ho : ∀ i, i < l.length → i = 0 ∨ occ i l = 1) {i c1 c2 j : Nat} (k1 : isKid l i c1) (k2 : isKid l i c2) (h1 : Rch l c1 j) (h2 : Rch l c2 j) : c1 = c2 := by
  induction h1 with
  | refl =>
    rcases h2.up with e | ⟨m, hm, hk⟩
    · exact e
    · have := kid_unique h ho k1 hk
      subst this
      have := hm.le h
      have := kid_lt h k2
      omega
  | step hj hk ih =>
    rcases h2.up with e | ⟨m, hm, hk2⟩
    · subst e
      have := kid_unique h ho k2 hk
      subst this
      have := hj.le h
      have := kid_lt h k1
      omega
    · have := kid_unique h ho hk hk2
      subst this
      exact ih hm
def pureL (n k : Nat) : List Int := (List.replicate n 0).set k 60
end Go.Ab

/- Games as data: a best response is a strategy and attains the best value. -/
set_option linter.unusedSimpArgs false
set_option linter.unusedVariables false
namespace Go.Ab

theorem pureL_getD {n j k : Nat} (hj : j < n) : (pureL n j).getD k 0 = if k = j then 60 else 0 := by
  unfold pureL
  rw [List.getD_eq_getElem?_getD, List.getElem?_set, List.length_replicate]
  by_cases h : j = k
  · subst h; rw [if_pos rfl, if_pos hj, if_pos rfl]; rfl
  · rw [if_neg h, if_neg (Ne.symm h), List.getElem?_replicate]
    split <;> rfl
theorem sumI_pick (F : Nat → Int) (j : Nat) : ∀ n, sumI ((List.range n).map fun k => (if k = j then 60 else 0) * F k) = if j < n then 60 * F j else 0
  | 0 => by simp [sumI]
  | n + 1 => by
    rw [List.range_succ, List.map_append, sumI_append, sumI_pick F j n]
    simp only [List.map_cons, List.map_nil, sumI, Int.add_zero]
    by_cases h : n = j
    · subst h; rw [if_neg (by omega), if_pos rfl, if_pos (by omega)]; omega
    · rw [if_neg h, Int.zero_mul, Int.add_zero]
      by_cases h2 : j < n
      · rw [if_pos h2, if_pos (by omega)]
      · rw [if_neg h2, if_neg (by omega)]
theorem pureL_sum {n j : Nat} (F : Nat → Int) (hj : j < n) : sumI ((List.range n).map fun k => (pureL n j).getD k 0 * F k) = 60 * F j := by
  have := sumI_pick F j n
  rw [if_pos hj] at this
  rw [← this]
  exact sumI_congr fun k _ => by rw [pureL_getD hj]
theorem pureL_length (n j : Nat) : (pureL n j).length = n := by simp [pureL]
theorem pureL_parts {n j : Nat} (hj : j < n) : (∀ x ∈ pureL n j, 0 ≤ x ∧ x ≤ 60) ∧ sumI (pureL n j) = 60 := by
  constructor
  · intro x hx
    rcases List.mem_or_eq_of_mem_set hx with h | rfl
    · have := (List.mem_replicate.1 h).2; omega
    · omega
  · have h := pureL_sum (fun _ => 1) hj
    simp only [Int.mul_one] at h
    have e := map_getD_range (pureL n j)
    rw [pureL_length] at e
    rw [← e]; exact h
theorem idxs_get {l : List Nd} {pl : Int} : ∀ (n q : Nat) (x : Int), (idxs l pl n)[q]? = some x → ∃ i : Nat, x = i ∧ i < n ∧ (l.getD i nd0).p = pl ∧ (idxs l pl i).length = q
  | 0, q, x, h => by simp [idxs] at h
  | n + 1, q, x, h => by
    rw [idxs_succ] at h
    split at h
    · rename_i hp
      rcases Nat.lt_trichotomy q (idxs l pl n).length with h1 | h1 | h1
      · rw [List.getElem?_append_left h1] at h
        obtain ⟨i, e, hi, h2⟩ := idxs_get n q x h
        exact ⟨i, e, by omega, h2⟩
      · rw [List.getElem?_append_right (by omega), h1, Nat.sub_self] at h
        simp at h
        exact ⟨n, h.symm, by omega, hp, h1.symm⟩
      · rw [List.getElem?_eq_none (by simp; omega)] at h; cases h
    · obtain ⟨i, e, hi, h2⟩ := idxs_get n q x h
      exact ⟨i, e, by omega, h2⟩
theorem setsOf_get {ns : List Int} {k : Nat} : ∀ {e : Nat}, e < (setsOf ns k).length → ∃ q c x, c < k ∧ ns[q]? = some x ∧ e = q * k + c ∧ (setsOf ns k)[e]? = some [x, (c : Int)] := by
  induction ns with
  | nil => intro e h; simp [setsOf] at h
  | cons n ns ih =>
    intro e h
    have e0 : setsOf (n :: ns) k = ((List.range k).map fun c : Nat => [n, (c : Int)]) ++ setsOf ns k := rfl
    rw [e0, List.length_append, List.length_map, List.length_range] at h
    by_cases he : e < k
    · refine ⟨0, e, n, he, rfl, by omega, ?_⟩
      rw [e0, List.getElem?_append_left (by simpa using he), List.getElem?_map, List.getElem?_range he]; rfl
    · obtain ⟨q, c, x, h1, h2, h3, h4⟩ := ih (e := e - k) (by omega)
      refine ⟨q + 1, c, x, h1, h2, by rw [Nat.add_mul]; omega, ?_⟩
      rw [e0, List.getElem?_append_right (by simpa using he), List.length_map, List.length_range]; exact h4
theorem sets_find {g : Gm} {pl : Int} {e : Nat} (h : e < (sets g pl).length) : ∃ i c, i < g.nd.length ∧ c < g.w.length ∧ (g.nd.getD i nd0).p = pl ∧ e = setI g pl i c ∧ sizeAt g pl e = (g.nd.getD i nd0).ch.length := by
  obtain ⟨q, c, x, h1, h2, h3, h4⟩ := setsOf_get h
  obtain ⟨i, rfl, hi, hp, hq⟩ := idxs_get _ _ _ h2
  refine ⟨i, c, hi, h1, hp, by rw [setI, hq]; exact h3, ?_⟩
  have e0 : (sets g pl).getD e [] = [(i : Int), (c : Int)] := by rw [List.getD_eq_getElem?_getD]; rw [show (sets g pl)[e]? = some [(i : Int), (c : Int)] from h4]; rfl
  rw [sizeAt, e0]; rfl
end Go.Ab

/- Games as data: where a player's nodes have their sets; the reach as it is made. -/
set_option linter.unusedSimpArgs false
set_option linter.unusedVariables false
namespace Go.Ab

def fillN (ns : List Int) (k n : Nat) : Nat → List Int
  | 0 => List.replicate n 0
  | j + 1 => (fillN ns k n j).set (ns.getD j 0).toNat ((j * k : Nat) : Int)
theorem fillN_length (ns : List Int) (k n : Nat) : ∀ j, (fillN ns k n j).length = n
  | 0 => by simp [fillN]
  | j + 1 => by rw [fillN, List.length_set, fillN_length ns k n j]
def ownL (g : Gm) (pl : Int) : List Int := fillN (idxs g.nd pl g.nd.length) g.w.length g.nd.length (idxs g.nd pl g.nd.length).length
theorem ownL_length (g : Gm) (pl : Int) : (ownL g pl).length = g.nd.length := fillN_length _ _ _ _
theorem idxs_nodup (l : List Nd) (pl : Int) (n : Nat) : (idxs l pl n).Nodup := by
  unfold idxs
  have h : ((List.range n).filter fun i => decide ((l.getD i nd0).p = pl)).Nodup := List.nodup_range.sublist List.filter_sublist
  refine List.Pairwise.map _ (fun a b hab => ?_) h
  intro he
  exact hab (by have he : (a : Int) = b := he; omega)
theorem fillN_get {ns : List Int} {k n i q0 : Nat} (hn : ns.Nodup) (h0 : ∀ x ∈ ns, 0 ≤ x) (hq : ns[q0]? = some (i : Int)) (hi : i < n) : ∀ j, j ≤ ns.length → (fillN ns k n j)[i]? = some (if q0 < j then ((q0 * k : Nat) : Int) else 0)
  | 0, _ => by
    rw [fillN, List.getElem?_replicate, if_pos hi, if_neg (by omega)]
  | j + 1, hj => by
    have ih := fillN_get (k := k) hn h0 hq hi j (by omega)
    obtain ⟨hq1, hq2⟩ := List.getElem?_eq_some_iff.1 hq
    have hjd : ns.getD j 0 = ns[j]'(by omega) := by rw [List.getD_eq_getElem?_getD, List.getElem?_eq_getElem (by omega : j < ns.length)]; rfl
    have hj0 := h0 (ns[j]'(by omega)) (List.getElem_mem _)
    rw [fillN, hjd, List.getElem?_set, fillN_length]
    by_cases he : j = q0
    · subst he
      rw [hq2]
      simp only [Int.toNat_natCast, if_true]
      rw [if_pos hi, if_pos (by omega)]
    · have hne : ns[j]'(by omega) ≠ (i : Int) := fun h => by
        rcases Nat.lt_or_gt_of_ne he with h1 | h1
        · exact (List.pairwise_iff_getElem.1 hn j q0 (by omega) hq1 h1) (h.trans hq2.symm)
        · exact (List.pairwise_iff_getElem.1 hn q0 j hq1 (by omega) h1) (hq2.trans h.symm)
      rw [if_neg (by omega), ih]
      by_cases h2 : q0 < j
      · rw [if_pos h2, if_pos (by omega)]
      · rw [if_neg h2, if_neg (by omega)]
theorem ownL_get {g : Gm} {pl : Int} {i : Nat} (hi : i < g.nd.length) (hp : (g.nd.getD i nd0).p = pl) : (ownL g pl)[i]? = some (((idxs g.nd pl i).length * g.w.length : Nat) : Int) := by
  obtain ⟨rest, e⟩ := idxs_split g.nd pl hp g.nd.length hi
  have hq : (idxs g.nd pl g.nd.length)[(idxs g.nd pl i).length]? = some (i : Int) := by
    rw [e, List.getElem?_append_right (Nat.le_refl _), Nat.sub_self]; rfl
  have h0 : ∀ x ∈ idxs g.nd pl g.nd.length, 0 ≤ x := fun x hx => by
    obtain ⟨j, rfl, _⟩ := idxs_mem hx; omega
  have hlt := (List.getElem?_eq_some_iff.1 hq).1
  have := fillN_get (k := g.w.length) (idxs_nodup g.nd pl g.nd.length) h0 hq hi _ (Nat.le_refl _)
  rw [if_pos hlt] at this
  exact this
end Go.Ab

/- Games as data: parents; values over the first children; bounds of values. -/
set_option linter.unusedSimpArgs false
set_option linter.unusedVariables false
namespace Go.Ab

def parN (l : List Nd) : Nat → List Int
  | 0 => List.replicate l.length 0
  | i + 1 => (l.getD i nd0).ch.foldl (fun P (c : Int) => P.set c.toNat (i : Int)) (parN l i)
theorem foldl_set_length (i : Int) : ∀ (cs : List Int) (P : List Int), (cs.foldl (fun P (c : Int) => P.set c.toNat i) P).length = P.length
  | [], P => rfl
  | c :: cs, P => by rw [List.foldl_cons, foldl_set_length i cs]; simp
theorem parN_length (l : List Nd) : ∀ i, (parN l i).length = l.length
  | 0 => by simp [parN]
  | i + 1 => by rw [parN, foldl_set_length, parN_length l i]
def valK (g : Gm) (s t : List (List Int)) (f a b p : Nat) (q ch : List Int) (k : Nat) : Int := sumI ((List.zipWith (fun x c => x * val g s t f c.toNat a b p) q ch).take k)
theorem valK_succ {g : Gm} {s t : List (List Int)} {f a b p : Nat} {q ch : List Int} {k : Nat} {x c : Int} (hx : q[k]? = some x) (hc : ch[k]? = some c) : valK g s t f a b p q ch (k + 1) = valK g s t f a b p q ch k + x * val g s t f c.toNat a b p := by
  unfold valK
  have h : (List.zipWith (fun x c => x * val g s t f c.toNat a b p) q ch)[k]? = some (x * val g s t f c.toNat a b p) := by
    rw [List.getElem?_zipWith, hx, hc]
  rw [List.take_add_one, h, Option.toList_some, sumI_snoc]
theorem val_abs {g : Gm} {s t : List (List Int)} (hnd : ndsOK g.nd) (hs : partsOK g s 0) (ht : partsOK g t 1) {a b : Nat} (ha : a < g.w.length) (hb : b < g.w.length) : ∀ (f i p : Nat), i < g.nd.length → dep g.nd f i ≤ p → -(100 * pw p) ≤ val g s t f i a b p ∧ val g s t f i a b p ≤ 100 * pw p
  | 0, i, p, _, _ => by
    have := pw_pos p
    simp only [val]; omega
  | f + 1, i, p, hi, hd => by
    have hpp := pw_pos p
    rw [val]
    (try simp only [])
    by_cases h2 : (g.nd.getD i nd0).p = 2
    · rw [if_pos h2]
      obtain ⟨q1, q2⟩ := payOK_of hnd i a b
      have e1 := Int.mul_le_mul_of_nonneg_right q1 (Int.le_of_lt hpp)
      have e2 := Int.mul_le_mul_of_nonneg_right q2 (Int.le_of_lt hpp)
      rw [Int.neg_mul] at e1
      exact ⟨e1, e2⟩
    · rw [if_neg h2]
      obtain ⟨d1, d2⟩ := dep_child (f := f) h2
      have hx : g.nd[i]? = some (g.nd.getD i nd0) := by rw [List.getD_eq_getElem?_getD, List.getElem?_eq_getElem hi]; rfl
      have hch := ndOK_child (hnd i _ hx)
      obtain ⟨p', rfl⟩ : ∃ p', p = p' + 1 := ⟨p - 1, by omega⟩
      obtain ⟨q, hq, hql, hq0, hqs⟩ : ∃ q, (if (g.nd.getD i nd0).p = 0 then partsOf g s 0 i a else partsOf g t 1 i b) = q ∧ q.length = (g.nd.getD i nd0).ch.length ∧ (∀ x ∈ q, 0 ≤ x ∧ x ≤ 60) ∧ sumI q = 60 := by
        by_cases h0 : (g.nd.getD i nd0).p = 0
        · rw [if_pos h0]
          obtain ⟨m1, m2, m3⟩ := hs i a hi ha h0
          exact ⟨_, rfl, m1, m2, m3⟩
        · rw [if_neg h0]
          obtain ⟨⟨r1, r2⟩, _⟩ := ndOK_fields (hnd i _ hx)
          obtain ⟨m1, m2, m3⟩ := ht i b hi hb (by omega)
          exact ⟨_, rfl, m1, m2, m3⟩
      rw [hq, zipW_sum _ _ _ hql, Nat.add_sub_cancel]
      have hb := sumI_abs (l := List.range (g.nd.getD i nd0).ch.length) (F := fun k => q.getD k 0 * val g s t f ((g.nd.getD i nd0).ch.getD k 0).toNat a b p') (G := fun k => (100 * pw p') * q.getD k 0) fun k hk => by
        have hk := List.mem_range.1 hk
        have hmem : (g.nd.getD i nd0).ch.getD k 0 ∈ (g.nd.getD i nd0).ch := getD_mem 0 hk
        have h1 := hch _ hmem
        have h3 := d2 _ hmem
        have ih := val_abs hnd hs ht ha hb f ((g.nd.getD i nd0).ch.getD k 0).toNat p' (by omega) (by omega)
        have hqk := hq0 _ (getD_mem 0 (show k < q.length by omega))
        obtain ⟨m1, m2⟩ := mul_abs hqk.1 ih.1 ih.2
        exact ⟨m1, m2⟩
      rw [sumI_map_mul, ← hql, map_getD_range, hqs] at hb
      rw [hql] at hb
      have e : 100 * pw (p' + 1) = 100 * pw p' * 60 := by rw [pw_succ]; omega
      rw [e]; exact hb
end Go.Ab
