/- The bridge, part 1: what an argument reads as, by its type. -/
import Derived.Deep.Slices
import Derived.Deep.OwnRows
import Derived.DataReads
import Derived.WideKeyArgs
import Derived.WideShapes
import Derived.ChangeShapes
import Derived.ProofKit
import Derived.OpenShut
import Derived.JoinedOf
import Derived.Handed
import Derived.RowKit
import Derived.Test.YtnnmgdngfofjlaaDoorRows
import Derived.Test.YtnnmgdngfofjlaaDoorQ2
set_option linter.unusedSimpArgs false
set_option linter.unusedVariables false
namespace Go.Ab

inductive Ty where
  | int (k : IntKind)
  | bool
  | str
  | sl (s : Nat) (e : Ty)
  | st (f : Ty)
  | nil
  | cons (a r : Ty)

def Ty.wt : Ty → List T → Prop
  | .int k, l => ∃ n, l = [.v (.int k n)] ∧ (Lit.int k n).wf = true
  | .bool, l => ∃ b, l = [.v (.bool b)]
  | .str, l => ∃ s, l = [.v (.string s)] ∧ s.size ≤ maxLen
  | .sl s e, l => ∃ xs : List (List T), l = [.sh s xs.flatten] ∧ xs.length ≤ maxLen ∧ ∀ x ∈ xs, x.length = s ∧ e.wt x
  | .st f, l => f.wt l
  | .nil, l => l = []
  | .cons a r, l => ∃ l1 l2, l = l1 ++ l2 ∧ a.wt l1 ∧ r.wt l2

def Ty.wtV : Ty → T → Prop
  | .st f, t => ∃ l, t = .agg l ∧ f.wt l
  | ty, t => ty.wt [t]

mutual
def Ty.fits (P : Program) : Ty → TypeId → Bool
  | .int k, t => (match P.underlying t with | some (.int k') => decide (k' = k) | _ => false)
  | .bool, t => (match P.underlying t with | some .bool => true | _ => false)
  | .str, t => (match P.underlying t with | some .string => true | _ => false)
  | .sl s e, t => (match P.underlying t with | some (.slice et) => decide (P.cellsOf et = s) && decide (0 < s) && e.fits P et | _ => false)
  | .st f, t => (match P.underlying t with | some (.struct fs) => f.fitsF P (P.cellsOf t) 0 fs.toList | _ => false)
  | .nil, _ => false
  | .cons _ _, _ => false
def Ty.fitsF (P : Program) : Ty → Nat → Nat → List Field → Bool
  | .nil, n, o, [] => decide (o = n)
  | .cons a r, n, o, f :: fs => decide (f.offset = o) && a.fits P f.type && r.fitsF P n (o + P.cellsOf f.type) fs
  | _, _, _, _ => false
end

section
variable {H : Type} {enc : TypeId × Value → H} {P : Program} {w : World} {base : Nat} {spare : Nat → Bool} {held : Bool}

theorem cell_block {a : Addr} {v : Value} (h : w.cell? a = some v) : a.spot = none ∧ ∃ cs e fz, w.heap[a.block]? = some (.cells cs e fz) ∧ cs[a.off]? = some v := by
  unfold World.cell? at h
  split at h
  · rename_i c e fz hc
    split at h
    · cases h
    · rename_i hs
      exact ⟨by simpa using hs, c, e, fz, hc, h⟩
  · cases h

theorem add_block (a : Addr) (i : Nat) : (a.add i).block = a.block := by
  unfold Addr.add; split <;> rfl
theorem add_off (a : Addr) (i : Nat) : (a.add i).off = a.off + i := by
  unfold Addr.add; split
  · rename_i h; subst h; rfl
  · rfl

theorem getD_some {vs : List Value} {i : Nat} {v : Value} (h : vs[i]? = some v) : vs.getD i undef = v := by
  rw [List.getD_eq_getElem?_getD, h]; rfl

theorem Ty.read (O : Nat → Prop) (hO : ∀ b, ¬ O b) : ∀ (ty : Ty),
    (∀ (t : TypeId) (fuel : Nat) (cs : List Value) (x : DataW H × List MemPlace), ty.fits P t = true → DataW.trod enc P w base (fun _ => true) held fuel t cs = some x →
      ∃ l, ty.wt l ∧ l.length = cs.length ∧ ∀ i (h : i < l.length), Rd w O l[i] (cs.getD i undef)) ∧
    (∀ (n o : Nat) (fs : List Field) (fuel : Nat) (cs : List Value), ty.fitsF P n o fs = true → cs.length = n →
      (∀ f ∈ fs, ∃ x, DataW.trod enc P w base (fun _ => true) held fuel f.type ((cs.drop f.offset).take (P.cellsOf f.type)) = some x) →
      ∃ l, ty.wt l ∧ l.length = n - o ∧ (∀ i (h : i < l.length), Rd w O l[i] ((cs.drop o).getD i undef))) := by
  have one : ∀ (v : Value), ∀ i (h : i < [T.v v].length), Rd w O [T.v v][i] ([v].getD i undef) := fun v i h => by
    have : i = 0 := by simpa using h
    subst this; exact .v v
  intro ty
  induction ty with
  | int k =>
    refine ⟨fun t fuel cs x hf h => ?_, fun n o fs fuel cs hf => by simp [Ty.fitsF] at hf⟩
    simp only [Ty.fits] at hf
    split at hf
    · rename_i k' ht
      have : k' = k := by simpa using hf
      subst this
      obtain ⟨n, rfl, _, hw⟩ := DataW.trod_int ht h
      exact ⟨_, ⟨n, rfl, hw⟩, rfl, one _⟩
    · cases hf
  | bool =>
    refine ⟨fun t fuel cs x hf h => ?_, fun n o fs fuel cs hf => by simp [Ty.fitsF] at hf⟩
    simp only [Ty.fits] at hf
    split at hf
    · rename_i ht
      obtain ⟨n, rfl, _⟩ := DataW.trod_bool ht h
      exact ⟨_, ⟨n, rfl⟩, rfl, one _⟩
    · cases hf
  | str =>
    refine ⟨fun t fuel cs x hf h => ?_, fun n o fs fuel cs hf => by simp [Ty.fitsF] at hf⟩
    simp only [Ty.fits] at hf
    split at hf
    · rename_i ht
      obtain ⟨n, rfl, _, hw⟩ := DataW.trod_string ht h
      exact ⟨_, ⟨n, rfl, hw⟩, rfl, one _⟩
    · cases hf
  | sl s e ih =>
    refine ⟨fun t fuel cs x hf h => ?_, fun n o fs fuel cs hf => by simp [Ty.fitsF] at hf⟩
    simp only [Ty.fits] at hf
    split at hf
    · rename_i et ht
      simp only [Bool.and_eq_true, decide_eq_true_eq] at hf
      obtain ⟨⟨hs, hs0⟩, hfe⟩ := hf
      have single : ∀ (t : T) (v : Value), Rd w O t v → ∀ i (h : i < [t].length), Rd w O [t][i] ([v].getD i undef) := fun t v hr i h => by
        have : i = 0 := by simpa using h
        subst this; exact hr
      rcases Deep.open_slice ht h with ⟨rfl, _⟩ | ⟨a, len, cap, m, n, D, Pl, rfl, hb, hl, hm, hmm, _, hx⟩
      · exact ⟨_, ⟨[], rfl, Nat.zero_le _, by simp⟩, rfl, single _ _ (.shNil s)⟩
      · simp only [if_true] at hmm
        subst hmm
        have each : ∀ i, i < len → ∃ y : List T × List Value, w.cells? base (a.add (i * s)) s = some y.2 ∧ e.wt y.1 ∧ y.1.length = s ∧ ∀ j (h : j < y.1.length), Rd w O y.1[j] (y.2.getD j undef) := by
          intro i hi
          obtain ⟨cs', h1, h2⟩ := hx i (by omega)
          rw [hs] at h1
          obtain ⟨l, hwt, hlen, hr⟩ := ih.1 _ _ _ _ hfe h2
          exact ⟨(l, cs'), h1, hwt, hlen.trans (World.cells?_some h1).2.1, hr⟩
        obtain ⟨y, hy⟩ := Deep.choose_lt each
        rcases Nat.eq_zero_or_pos len with h0 | h0
        · subst h0
          exact ⟨_, ⟨[], rfl, Nat.zero_le _, by simp⟩, rfl, single _ _ (.shZ s a _)⟩
        · -- the block
          have cell : ∀ i j, i < len → j < s → w.cell? ((a.add (i * s)).add j) = some ((y i).2.getD j undef) := fun i j hi hj => by
            obtain ⟨h1, hwt, hlen, hr⟩ := hy i hi
            obtain ⟨_, h2, h3⟩ := World.cells?_some h1
            rw [h3 j hj, List.getD_eq_getElem?_getD, List.getElem?_eq_getElem (by omega)]; rfl
          have hfirst := cell 0 0 h0 hs0
          rw [Nat.zero_mul] at hfirst
          obtain ⟨hsp, cs, ee, fz, hblk, _⟩ := cell_block hfirst
          rw [add_block, add_block] at hblk
          have at' : ∀ i j, i < len → j < s → cs[a.off + i * s + j]? = some ((y i).2.getD j undef) := fun i j hi hj => by
            obtain ⟨_, cs2, e2, fz2, h1, h2⟩ := cell_block (cell i j hi hj)
            rw [add_block, add_block, hblk] at h1
            simp only [Option.some.injEq, Obj.cells.injEq] at h1
            rw [add_off, add_off, ← h1.1] at h2
            exact h2
          have hsp' : a.spot = none := by
            unfold Addr.add at hsp
            simpa using hsp
          obtain ⟨b, off, sp⟩ := a
          simp only at hsp' hblk at'
          subst hsp'
          have hfl : ∀ i, i ≤ len → (((List.range i).map fun i => (y i).1).flatten).length = i * s := fun i => by
            induction i with
            | zero => intro _; simp
            | succ i ihi =>
              intro hi
              rw [List.range_succ, List.map_append, List.flatten_append, List.length_append, ihi (by omega)]
              simp only [List.map_cons, List.map_nil, List.flatten_cons, List.flatten_nil, List.append_nil, (hy i (by omega)).2.2.1, Nat.succ_mul]
          refine ⟨[.sh s ((List.range len).map fun i => (y i).1).flatten], ⟨_, rfl, by simp; exact Nat.le_trans hl hm, fun x hx => ?_⟩, rfl, single _ _ ?_⟩
          · obtain ⟨i, hi, rfl⟩ := List.mem_map.1 hx
            have := hy i (by simpa using hi)
            exact ⟨this.2.2.1, this.2.1⟩
          · have hlast := at' (len - 1) (s - 1) (by omega) (by omega)
            obtain ⟨hlt, _⟩ := Array.getElem?_eq_some_iff.1 hlast
            have hmul : (len - 1) * s + s = len * s := by rw [← Nat.succ_mul]; congr 1; omega
            refine .sh s _ b off len _ cs ee fz (hO b) hblk (by rw [hfl len (Nat.le_refl _)]; omega) (hfl len (Nat.le_refl _)) hl fun k hk => ?_
            rw [hfl len (Nat.le_refl _)] at hk
            have hi : k / s < len := Nat.div_lt_of_lt_mul (by rw [Nat.mul_comm]; exact hk)
            have hj : k % s < s := Nat.mod_lt _ hs0
            have hk' : k / s * s + k % s = k := by rw [Nat.mul_comm]; exact Nat.div_add_mod k s
            have e1 : (((List.range len).map fun i => (y i).1).flatten)[k]? = (y (k / s)).1[k % s]? := by
              have hsplit : ∃ rest, List.range len = List.range (k / s) ++ (k / s) :: rest := by
                refine ⟨((List.range (len - k / s - 1)).map Nat.succ).map (k / s + ·), ?_⟩
                have h1 : List.range (k / s + (len - k / s)) = List.range (k / s) ++ (List.range (len - k / s)).map (k / s + ·) := List.range_add
                rw [show k / s + (len - k / s) = len by omega] at h1
                have h2 : List.range (len - k / s) = 0 :: (List.range (len - k / s - 1)).map Nat.succ := by
                  rw [← List.range_succ_eq_map]; congr 1; omega
                rw [h1, h2]; rfl
              obtain ⟨rest, hsplit⟩ := hsplit
              rw [hsplit, List.map_append, List.flatten_append, List.getElem?_append_right (by rw [hfl _ (Nat.le_of_lt hi)]; omega), hfl _ (Nat.le_of_lt hi), List.map_cons, List.flatten_cons,
                List.getElem?_append_left (by rw [(hy _ hi).2.2.1]; omega)]
              congr 1; omega
            have hjl : k % s < (y (k / s)).1.length := by rw [(hy _ hi).2.2.1]; exact hj
            have hget : (((List.range len).map fun i => (y i).1).flatten)[k]'(by rw [hfl len (Nat.le_refl _)]; exact hk) = (y (k / s)).1[k % s] := by
              have h1 := List.getElem?_eq_getElem (l := ((List.range len).map fun i => (y i).1).flatten) (i := k) (by rw [hfl len (Nat.le_refl _)]; exact hk)
              rw [e1, List.getElem?_eq_getElem hjl] at h1
              exact (Option.some.inj h1).symm
            rw [hget]
            have hc := at' (k / s) (k % s) hi hj
            rw [Nat.add_assoc, hk'] at hc
            have : cs.getD (off + k) undef = (y (k / s)).2.getD (k % s) undef := by rw [Array.getD_eq_getD_getElem?, hc]; rfl
            rw [this]
            exact (hy _ hi).2.2.2 _ hjl
    · cases hf
  | st f ih =>
    refine ⟨fun t fuel cs x hf h => ?_, fun n o fs fuel cs hf => by simp [Ty.fitsF] at hf⟩
    simp only [Ty.fits] at hf
    split at hf
    · rename_i fs ht
      obtain ⟨xs, n, rfl, _, hlen, hxl, hx⟩ := DataW.trod_struct ht h
      obtain ⟨l, hwt, hl, hr⟩ := ih.2 _ _ _ n cs hf hlen (fun f hf' => by
        obtain ⟨i, hi, rfl⟩ := List.mem_iff_getElem.1 hf'
        have h1 := hx i fs.toList[i] (by simp only [Array.length_toList] at hi; simp [hi])
        have hi' : i < xs.length := by rw [hxl]; simpa using hi
        rw [List.getElem?_eq_getElem hi'] at h1
        exact ⟨_, h1⟩)
      exact ⟨l, hwt, by omega, by simpa using hr⟩
    · cases hf
  | nil =>
    refine ⟨fun t fuel cs x hf h => by simp [Ty.fits] at hf, fun n o fs fuel cs hf hn _ => ?_⟩
    cases fs with
    | cons f fs => simp [Ty.fitsF] at hf
    | nil =>
      have : o = n := by simpa [Ty.fitsF] using hf
      exact ⟨[], rfl, by simp; omega, fun i h => absurd h (by simp)⟩
  | cons a r iha ihr =>
    refine ⟨fun t fuel cs x hf h => by simp [Ty.fits] at hf, fun n o fs fuel cs hf hn hx => ?_⟩
    cases fs with
    | nil => simp [Ty.fitsF] at hf
    | cons f fs =>
      simp only [Ty.fitsF, Bool.and_eq_true, decide_eq_true_eq] at hf
      obtain ⟨⟨rfl, hfa⟩, hfr⟩ := hf
      obtain ⟨x, h1⟩ := hx f (by simp)
      obtain ⟨l1, hw1, hl1, hr1⟩ := iha.1 _ _ _ _ hfa h1
      obtain ⟨l2, hw2, hl2, hr2⟩ := ihr.2 _ _ _ fuel cs hfr hn (fun g hg => hx g (by simp [hg]))
      simp only [List.length_take, List.length_drop] at hl1
      refine ⟨l1 ++ l2, ⟨l1, l2, rfl, hw1, hw2⟩, by rw [List.length_append]; omega, fun i h => ?_⟩
      by_cases hi : i < l1.length
      · rw [List.getElem_append_left hi]
        have := hr1 i hi
        rwa [List.getD_eq_getElem?_getD, List.getElem?_take_of_lt (by omega), ← List.getD_eq_getElem?_getD] at this
      · rw [List.getElem_append_right (by omega)]
        have := hr2 (i - l1.length) (by rw [List.length_append] at h; omega)
        rw [List.getD_eq_getElem?_getD, List.getElem?_drop] at this ⊢
        rw [List.length_append] at h
        rwa [show f.offset + P.cellsOf f.type + (i - l1.length) = f.offset + i by omega] at this
end
end Go.Ab

/- The bridge, part 2: a law that is a contract is a law of the row's form. -/
set_option linter.unusedSimpArgs false
set_option linter.unusedVariables false
namespace Go.Ab
open Go.ChangeShapes Go.WideShapes Go.ChangeAt Go.RowKit

def fitsL (P : Program) : List Ty → List TypeId → Bool
  | [], [] => true
  | ty :: tys, t :: ts => ty.fits P t && decide (t < P.types.size) && P.readableRec t && fitsL P tys ts
  | _, _ => false
def wtL : List Ty → List T → Prop
  | [], [] => True
  | ty :: tys, x :: xs => ty.wtV x ∧ wtL tys xs
  | _, _ => False

section
variable {H : Type} {enc : TypeId × Value → H} {P : Program} {w : World} {base : Nat} {held : Bool}

theorem Ty.readV (O : Nat → Prop) (hO : ∀ b, ¬ O b) {ty : Ty} {t : TypeId} {v : Value} {d : DataW H} {ps : List MemPlace} {w' : World} {r : Reach} {b0 : Nat} (hf : ty.fits P t = true) (hok : Value.okWide P w' r b0 t v)
    (h : DataW.Trod enc P w base (fun _ => true) held t v d ps) : ∃ x, ty.wtV x ∧ Rd w O x v := by
  obtain ⟨fuel, h⟩ := h
  obtain ⟨l, hwt, hl, hr⟩ := (Ty.read (P := P) O hO ty).1 t fuel _ _ hf h
  have single : v.cells = #[v] → ∀ x : T, l = [x] → Rd w O x v := fun hc x hx => by
    subst hx
    have := hr 0 (by simp)
    rw [hc] at this
    exact this
  cases ty with
  | int k =>
    simp only [Ty.fits] at hf
    split at hf
    · rename_i k' ht
      obtain ⟨n, rfl⟩ := okWide_int ht hok
      obtain ⟨m, rfl, hw⟩ := hwt
      exact ⟨_, ⟨m, rfl, hw⟩, single rfl _ rfl⟩
    · cases hf
  | bool =>
    simp only [Ty.fits] at hf
    split at hf
    · rename_i ht
      obtain ⟨n, rfl⟩ := okWide_bool ht hok
      obtain ⟨m, rfl⟩ := hwt
      exact ⟨_, ⟨m, rfl⟩, single rfl _ rfl⟩
    · cases hf
  | str =>
    simp only [Ty.fits] at hf
    split at hf
    · rename_i ht
      obtain ⟨n, rfl⟩ := okWide_string ht hok
      obtain ⟨m, rfl, hw⟩ := hwt
      exact ⟨_, ⟨m, rfl, hw⟩, single rfl _ rfl⟩
    · cases hf
  | sl s e =>
    simp only [Ty.fits] at hf
    split at hf
    · rename_i et ht
      obtain ⟨a, len, cap, rfl⟩ := okWide_slice ht hok
      obtain ⟨m, rfl, hw⟩ := hwt
      exact ⟨_, ⟨m, rfl, hw⟩, single rfl _ rfl⟩
    · cases hf
  | st f =>
    simp only [Ty.fits] at hf
    split at hf
    · rename_i fs ht
      simp only [Value.okWide, ht] at hok
      obtain ⟨cs, rfl, _, _⟩ := hok
      refine ⟨.agg l, ⟨l, rfl, hwt⟩, ?_⟩
      have := Rd.agg (w := w) (O := O) l cs.toList (by rw [hl]; rfl) hr
      simpa using this
    · cases hf
  | nil => simp [Ty.fits] at hf
  | cons a r => simp [Ty.fits] at hf

theorem args_read (O : Nat → Prop) (hO : ∀ b, ¬ O b) {w' : World} {r : Reach} {b0 : Nat} : ∀ {tys : List Ty} {ts : List TypeId} {vs : List Value} {ds : List (DataW H)} {ps : List MemPlace}, fitsL P tys ts = true →
    DataW.TrodAll enc P w base (fun _ => true) held ts vs ds ps → (∀ (j : Nat) (t : TypeId) (v : Value), ts[j]? = some t → vs[j]? = some v → Value.okWide P w' r b0 t v) →
    ∃ xs, wtL tys xs ∧ vs.length = xs.length ∧ ds.length = tys.length ∧ ∀ i (h : i < xs.length), Rd w O xs[i] (vs.getD i undef)
  | [], [], vs, ds, ps, _, h, _ => by
    cases vs <;> cases ds <;> simp only [DataW.TrodAll] at h
    exact ⟨[], trivial, rfl, rfl, fun i h => absurd h (by simp)⟩
  | [], _ :: _, vs, ds, ps, hf, h, _ => by simp [fitsL] at hf
  | _ :: _, [], vs, ds, ps, hf, h, _ => by simp [fitsL] at hf
  | ty :: tys, t :: ts, vs, ds, ps, hf, h, hok => by
    simp only [fitsL, Bool.and_eq_true] at hf
    cases vs with
    | nil => simp [DataW.TrodAll] at h
    | cons v vs =>
      cases ds with
      | nil => simp [DataW.TrodAll] at h
      | cons d ds =>
        obtain ⟨p, q, h1, h2, _⟩ := h
        obtain ⟨x, hx, hr⟩ := Ty.readV O hO hf.1.1.1 (hok 0 t v rfl rfl) h1
        obtain ⟨xs, hxs, hl, hd, hrs⟩ := args_read O hO hf.2 h2 (fun j t v h1 h2 => hok (j + 1) t v (by simpa using h1) (by simpa using h2))
        refine ⟨x :: xs, ⟨hx, hxs⟩, by simp [hl], by simp [hd], fun i hi => ?_⟩
        cases i with
        | zero => exact hr
        | succ i => simpa [List.getD_eq_getElem?_getD] using hrs i (by simpa using hi)

theorem args_stay {w w' : World} {sp : Nat → Bool} (hl : laidOutB P = true) : ∀ {tys : List Ty} {ts : List TypeId} {vs : List Value} {ds : List (DataW H)} {ps : List MemPlace}, fitsL P tys ts = true →
    DataW.TrodAll enc P w base (fun _ => true) true ts vs ds ps → (∀ p ∈ ps, w.sameAt w' p ∧ sp p.block = true) → DataW.TrodAll enc P w' base sp true ts vs ds ps
  | [], [], vs, ds, ps, _, h, _ => by
    cases vs <;> cases ds <;> simp only [DataW.TrodAll] at h ⊢
    exact h
  | [], _ :: _, vs, ds, ps, hf, h, _ => by simp [fitsL] at hf
  | _ :: _, [], vs, ds, ps, hf, h, _ => by simp [fitsL] at hf
  | ty :: tys, t :: ts, vs, ds, ps, hf, h, hs => by
    simp only [fitsL, Bool.and_eq_true, decide_eq_true_eq] at hf
    cases vs with
    | nil => simp [DataW.TrodAll] at h
    | cons v vs =>
      cases ds with
      | nil => simp [DataW.TrodAll] at h
      | cons d ds =>
        obtain ⟨p, q, h1, h2, rfl⟩ := h
        exact ⟨p, q, WideElems.Trod_stays hl hf.1.2 hf.1.1.2 h1 (fun x hx => (hs x (by simp [hx])).1) (fun x hx => (hs x (by simp [hx])).2), args_stay hl hf.2 h2 (fun x hx => hs x (by simp [hx])), rfl⟩

end
end Go.Ab

/- The bridge, part 7: a law over something known of memory. -/
set_option linter.unusedSimpArgs false
set_option linter.unusedVariables false
namespace Go.Ab
open Go.ChangeShapes Go.WideShapes Go.ChangeAt Go.RowKit
section
variable {H : Type} {enc : TypeId × Value → H} {P : Program} {w : World} {base : Nat} {held : Bool}
theorem Ob.none {b : Nat} : ¬ Ob (fun _ => False) (fun _ => []) b := fun h => by
  rcases h with h | ⟨r, h⟩
  · exact h
  · simp at h
theorem law_contractG {gg : T} {f : FuncId} {fn : Func} {s : ChangeSpec} {tys : List Ty} {tb : TypeId} {apart fresh handsOn : Bool} (hlaid : laidOutB P = true) (hfit : fitsL P tys fn.params.toList = true) (hres : fn.resultTypes = #[tb]) (hbool : P.underlying tb = some .bool)
    (hvars : s.vars = []) (hspec : ∀ (ds : List (DataW H)), ds.length = tys.length → s.fn H ds = { results := [.lit (.bool true)], args := ds }) (hF : ∀ xs, wtL tys xs → FunG P gg f [] (xs.map A.t) fun o r => o = [] ∧ r = .b true)
    (W : World) (base : Nat) (args : Array Value) (ds gs : List (DataW H)) (before : List MemPlace) (hval : ∀ (j : Nat) t v, fn.params[j]? = some t → args[j]? = some v → Value.okWide P W .any base t v)
    (hW : DataW.Whole enc P fn.params.toList s.vars apart W args.toList ds gs before) (hg : Rd W (Ob (fun _ => False) (fun _ => [])) gg undef) : Calls P f args W fun e W' => ∃ v, e = .returned v ∧ s.post enc P fn apart fresh handsOn false W args v W' := by
  have hW' := hW
  obtain ⟨p, q, hA, hV, rfl, hfz, hnd⟩ := hW
  rw [hvars] at hV
  have hV' := hV
  cases gs with
  | cons _ _ => simp [DataW.TrodVars] at hV
  | nil =>
    simp only [DataW.TrodVars] at hV
    subst hV
    obtain ⟨xs, hwt, hlen, hdl, hr⟩ := args_read (P := P) (fun _ => False) (fun _ h => h) hfit hA (fun j t v h1 h2 => hval j t v (by simpa using h1) (by simpa using h2))
    have hlt : ∀ x ∈ p, x.block < W.heap.size := fun x hx => hW'.lt x (by simp [hx])
    have mem : Mem (fun _ => False) W [] (fun _ => none) (fun _ => []) := ⟨fun i t h => by simp at h, fun _ _ => ⟨rfl, rfl⟩, fun _ _ b h => by simp at h, fun _ => by simp, fun _ b h => by simp at h, fun _ h => h.elim, fun _ _ h => by cases h⟩
    have hc := hF xs hwt _ W args.toList _ _ mem (by simpa using hlen) (fun i h => by
      have hi : i < xs.length := by simpa using h
      rw [List.getElem_map]
      exact .t ((hr i hi).mono (fun _ _ _ _ _ h => h) (fun b _ _ => Ob.none))) hg
    simp only [Array.toArray_toList] at hc
    refine hc.mono ?_
    rintro e W' ⟨v, res, rout, fr, fp', rfl, ⟨rfl, rfl⟩, _, out⟩
    have hv : v = .bool true := by
      cases out.res with
      | rd h => cases h; rfl
    subst hv
    have hs : W.Since W.heap.size W' := ⟨out.os, out.tape, out.output, out.size, fun b hb => out.frame b hb (fun j h => by simp at h)⟩
    refine ⟨_, rfl, ds, [], p ++ [], [], p, [], hW', ?_, ?_, ?_, hs.frame _, fun h => by cases h⟩
    · rw [List.append_nil, hspec ds hdl, hres]
      exact trodAll_cons_mk (shut_bool hbool _) trodAll_mk0
    · rw [List.append_nil, hspec ds hdl]
      exact args_stay hlaid hfit hA fun x hx => ⟨hs.sameAt (hlt x hx), by simpa using hlt x hx⟩
    · rw [List.append_nil, hspec ds hdl, hvars]
      exact hV'
end
end Go.Ab

/- The abstract layer, part 21: rows and matrices as data; small facts for the walks. -/
set_option linter.unusedSimpArgs false
set_option linter.unusedVariables false
namespace Go.Ab

def ints (l : List Int) : T := .sh 1 (l.map T.i)
def rows (m : List (List Int)) : T := .sh 1 (m.map ints)
def intsO (l : List Int) : T := .arr 1 (l.map T.i)
def rowsO (m : List (List Int)) : T := .arr 1 (m.map intsO)

def rat (r : Int × Int) : T := .agg [T.i r.1, T.i r.2]

def ratC (l : List (Int × Int)) : List T := l.flatMap fun r => [T.i r.1, T.i r.2]
def rats (l : List (Int × Int)) : T := .sh 2 (ratC l)
def ratsO (l : List (Int × Int)) : T := .arr 2 (ratC l)
theorem ratC_cons (r : Int × Int) (l : List (Int × Int)) : ratC (r :: l) = T.i r.1 :: T.i r.2 :: ratC l := rfl
theorem ratC_length : ∀ l : List (Int × Int), (ratC l).length = l.length * 2
  | [] => rfl
  | r :: l => by rw [ratC_cons]; simp [ratC_length l]; omega
theorem ratC_div (l : List (Int × Int)) : (ratC l).length / 2 = l.length := by rw [ratC_length]; omega
theorem toShL_ratC : ∀ l : List (Int × Int), T.toShL (ratC l) = ratC l
  | [] => rfl
  | r :: l => by rw [ratC_cons, T.toShL, T.toShL, toShL_ratC l]; rfl
theorem ratC_all_cell (l : List (Int × Int)) : (ratC l).all T.cell = true := by
  rw [List.all_eq_true]; intro t ht; obtain ⟨x, _, h⟩ := List.mem_flatMap.1 ht
  rcases List.mem_cons.1 h with rfl | h
  · rfl
  · rcases List.mem_cons.1 h with rfl | h
    · rfl
    · cases h
theorem ratC_all_flat (l : List (Int × Int)) : (ratC l).all T.flat = true := by
  rw [List.all_eq_true]; intro t ht; obtain ⟨x, _, h⟩ := List.mem_flatMap.1 ht
  rcases List.mem_cons.1 h with rfl | h
  · rfl
  · rcases List.mem_cons.1 h with rfl | h
    · rfl
    · cases h
theorem absT_ratsO (d k : Nat) (m : List (Int × Int)) : absT d k (ratsO m) = (.own (rid d k), [(rid d k, ratsO m)], k + 1) := rfl
theorem rootOf_intsO (l : List Int) : rootOf (intsO l) = .live (intsO l) [] := rfl
theorem rootOf_rowsO (l : List (List Int)) : rootOf (rowsO l) = .live (rowsO l) [] := rfl
theorem rootOf_ratsO (l : List (Int × Int)) : rootOf (ratsO l) = .live (ratsO l) [] := rfl
attribute [go_sem] ratC_div ratC_all_cell ratC_all_flat absT_ratsO rootOf_intsO rootOf_rowsO rootOf_ratsO rootOf_arr rootOf_box rootOf_any

theorem all_cell_ints (l : List Int) : (l.map T.i).all T.cell = true := by
  rw [List.all_eq_true]; intro t ht; obtain ⟨x, _, rfl⟩ := List.mem_map.1 ht; rfl
theorem all_flat_ints (l : List Int) : (l.map T.i).all T.flat = true := by
  rw [List.all_eq_true]; intro t ht; obtain ⟨x, _, rfl⟩ := List.mem_map.1 ht; rfl
theorem all_cell_intsO (m : List (List Int)) : (m.map intsO).all T.cell = true := by
  rw [List.all_eq_true]; intro t ht; obtain ⟨x, _, rfl⟩ := List.mem_map.1 ht; rfl

theorem wrap64 {n : Int} (h : -9223372036854775808 ≤ n) (h' : n < 9223372036854775808) : IntKind.i64.wrap n = n := by
  simp [IntKind.wrap, IntKind.bits, IntKind.signed]
  omega
theorem next64 {i n : Nat} (h : i < n) (hn : n ≤ 1000000000000) : IntKind.i64.wrap ((i : Int) + 1) = ((i + 1 : Nat) : Int) := by
  rw [wrap64 (by omega) (by omega)]; rfl
theorem vt_self (S : St) (bor : List Nat) (x : T) : vt S bor x (.t x) = True := by
  cases x <;> simp [vt, vb, maT]
theorem toNat_cast (i : Nat) : (i : Int).toNat = i := rfl
theorem take_succ_all {α : Type} {p : α → Prop} {l : List α} {i : Nat} {x : α} (hx : l[i]? = some x) (h : ∀ y ∈ l.take i, p y) (hp : p x) : ∀ y ∈ l.take (i + 1), p y := by
  intro y hy
  rw [List.take_add_one, hx] at hy
  simp only [Option.toList_some, List.mem_append, List.mem_singleton] at hy
  rcases hy with hy | rfl
  · exact h y hy
  · exact hp
section
variable {P : Program} {n : Nat} {S : St}
theorem CallW.res {d : Option Nat} {fo : Operand} {ops : List Operand} {K : St → Prop} {f : FuncId} {cap : List A} {args : List A} {res : T} (hF : Fun P f [] args fun o r => o = [] ∧ r = res) (bor : List Nat) (hfo : fnA (S.ev fo) = some (f, cap)) (hcall : ∀ args w, (callFunc f args).run P w = .ok (.enter f args) w)
    (hargs : vaL S [] bor args (ops.map S.ev ++ cap)) (hns : bor = [] ∨ res.noSh) (hk : afterCall S d [] [] res K) : CallW P n d fo ops K S := by
  refine CallW.use hfo hcall hF [] bor (by simp) trivial (fun q _ => by simp) hargs fun rout res' h => ?_
  obtain ⟨rfl, rfl⟩ := h
  refine ⟨?_, hk⟩
  rcases hns with h | h
  · exact .inl h
  · exact .inr ⟨h, trivial⟩
end

section
variable {P : Program} {n : Nat} {S : St}
theorem CallW.ref {d : Option Nat} {fo : Operand} {ops : List Operand} {K : St → Prop} {f : FuncId} {cap : List A} {rin : List T} {args : List A} {rout : List T} {res : T} (hF : Fun P f rin args fun o r => o = rout ∧ r = res) (srcs bor : List Nat) (hfo : fnA (S.ev fo) = some (f, cap)) (hcall : ∀ args w, (callFunc f args).run P w = .ok (.enter f args) w)
    (hsn : srcs.Nodup) (hsrc : srcsOK S srcs rin) (hsb : ∀ q ∈ bor, q ∉ srcs) (hargs : vaL S srcs bor args (ops.map S.ev ++ cap)) (hns : bor = [] ∨ (res.noSh ∧ T.noShL rout)) (hk : afterCall S d srcs rout res K) : CallW P n d fo ops K S := by
  refine CallW.use hfo hcall hF srcs bor hsn hsrc hsb hargs fun rout' res' h => ?_
  obtain ⟨rfl, rfl⟩ := h
  exact ⟨hns, hk⟩
end
theorem toShL_ints (l : List Int) : T.toShL (l.map T.i) = l.map T.i := by
  rw [T.toShL_eq_map, List.map_map]; exact List.map_congr_left fun _ _ => rfl
theorem intsO_toSh (l : List Int) : (intsO l).toSh = ints l := by
  simp only [intsO, ints, T.toSh, toShL_ints]
theorem rowsO_toSh (m : List (List Int)) : (rowsO m).toSh = rows m := by
  simp only [rowsO, rows, T.toSh, T.toShL_eq_map, List.map_map]
  congr 1
  exact List.map_congr_left fun r _ => intsO_toSh r
theorem toShL_intsO (m : List (List Int)) : T.toShL (m.map intsO) = m.map ints := by
  rw [T.toShL_eq_map, List.map_map]; exact List.map_congr_left fun r _ => intsO_toSh r
theorem absT_rowsO (d k : Nat) (m : List (List Int)) : absT d k (rowsO m) = (.own (rid d k), [(rid d k, rowsO m)], k + 1) := rfl
theorem absT_intsO (d k : Nat) (m : List Int) : absT d k (intsO m) = (.own (rid d k), [(rid d k, intsO m)], k + 1) := rfl


theorem spl_one {α : Type} (l : List α) (i : Nat) (x : α) : spl l i [x] = l.set i x := rfl
theorem spl_two {α : Type} (l : List α) (i : Nat) (x y : α) (zs : List α) : spl l i (x :: y :: zs) = l.take i ++ (x :: y :: zs) ++ l.drop (i + (x :: y :: zs).length) := rfl
theorem coC_call (P : Program) (n : Nat) (all : Bool) (m : List Nat) (d : Nat) (f : Operand) (ops : List Operand) (K : St → Prop) (S : St) : coC P n all m (.call (some d) f ops) K S = (all = false ∧ CallC P n d f ops m K S) := rfl
theorem coC_alloc (P : Program) (n : Nat) (all : Bool) (m : List Nat) (d : Nat) (zs : List T) (K : St → Prop) (S : St) : coC P n all m (.alloc d zs) K S = coN (.alloc d zs) K S := rfl
theorem coC_make (P : Program) (n : Nat) (all : Bool) (m : List Nat) (d : Nat) (zs : List T) (eb : Nat) (l c : Operand) (K : St → Prop) (S : St) : coC P n all m (.make d zs eb l c) K S = coN (.make d zs eb l c) K S := rfl
theorem coC_box (P : Program) (n : Nat) (all : Bool) (m : List Nat) (d : Nat) (x : Operand) (K : St → Prop) (S : St) : coC P n all m (.box d x) K S = coN (.box d x) K S := rfl
theorem coC_bslice (P : Program) (n : Nat) (all : Bool) (m : List Nat) (d z len : Nat) (ps : List (Nat × Operand)) (K : St → Prop) (S : St) : coC P n all m (.bslice d z len ps) K S = coN (.bslice d z len ps) K S := rfl
theorem ite_nn {α : Type} (n : Nat) (a b : α) : (if (0 : Int) ≤ (n : Int) then a else b) = a := if_pos (Int.natCast_nonneg _)
theorem ite_nn1 {α : Type} (n : Nat) (a b : α) : (if (0 : Int) ≤ (n : Int) + 1 then a else b) = a := if_pos (by omega)
attribute [go_sem] ite_nn ite_nn1
theorem filter_link (k q : Nat) : List.filter (fun p : Nat × Nat => decide (p.fst < k) || decide (k + 1 ≤ p.fst)) [(k, q)] = [] := by
  rw [List.filter_cons_of_neg (by simp)]; rfl
attribute [go_sem] filter_link List.set_set absT absL List.filter_nil List.all_cons List.all_nil spl_one spl_two List.take_succ_cons List.take_zero List.drop_succ_cons List.drop_zero List.set_cons_zero List.set_cons_succ List.length_set List.cons_append List.append_nil Bool.true_and Bool.and_true Bool.false_and
/-! Guards and conditions at constants: one road only. -/
theorem guardC_tt (s : Nat) (d : Option Nat) (K1 K2 : St → Prop) (S : St) : guardC (.t (.v (.bool true))) s true d K1 K2 S = K1 { S with env := upd S.env s (.t (.v (.bool true))) } := by simp [guardC]
theorem guardC_ff (s : Nat) (d : Option Nat) (K1 K2 : St → Prop) (S : St) : guardC (.t (.v (.bool false))) s false d K1 K2 S = K1 { S with env := upd S.env s (.t (.v (.bool false))) } := by simp [guardC]
theorem guardC_ft (s : Nat) (d : Option Nat) (K1 K2 : St → Prop) (S : St) : guardC (.t (.v (.bool false))) s true d K1 K2 S = K2 (St.put { S with env := upd S.env s (.t (.v (.bool false))) } d skipA) := by simp [guardC]
theorem guardC_tf (s : Nat) (d : Option Nat) (K1 K2 : St → Prop) (S : St) : guardC (.t (.v (.bool true))) s false d K1 K2 S = K2 (St.put { S with env := upd S.env s (.t (.v (.bool true))) } d skipA) := by simp [guardC]
theorem condC_t (K1 K2 : St → Prop) (S : St) : condC (.t (.v (.bool true))) K1 K2 S = K1 S := by simp [condC]
theorem condC_f (K1 K2 : St → Prop) (S : St) : condC (.t (.v (.bool false))) K1 K2 S = K2 S := by simp [condC]
theorem guardC_b (b : Bool) (s : Nat) (want : Bool) (d : Option Nat) (K1 K2 : St → Prop) (S : St) : guardC (.t (.v (.bool b))) s want d K1 K2 S = ((b = want → K1 { S with env := upd S.env s (.t (.v (.bool want))) }) ∧ (b = !want → K2 (St.put { S with env := upd S.env s (.t (.v (.bool !want))) } d skipA))) := rfl
theorem condC_b (b : Bool) (K1 K2 : St → Prop) (S : St) : condC (.t (.v (.bool b))) K1 K2 S = ((b = true → K1 S) ∧ (b = false → K2 S)) := rfl
theorem guardC_u (xs : Array Value) (s : Nat) (want : Bool) (d : Option Nat) (K1 K2 : St → Prop) (S : St) : guardC (.t (.v (.tuple xs))) s want d K1 K2 S = K2 (St.put S d skipA) := rfl
theorem guardC_un (s : Nat) (want : Bool) (d : Option Nat) (K1 K2 : St → Prop) (S : St) : guardC skipA s want d K1 K2 S = K2 (St.put S d skipA) := rfl
attribute [go_sem high] guardC_u guardC_un guardC_tt guardC_ff guardC_ft guardC_tf condC_t condC_f
attribute [go_sem] Value.oneCell' decide_true bne_self_eq_false true_or List.nil_append all_cell_ints all_cell_intsO all_flat_ints Nat.zero_ne_one Nat.add_zero Nat.zero_add cW.eq_1 cW.eq_2 cW.eq_3 cW.eq_4 cW.eq_5 cW.eq_6 cW.eq_7 cW.eq_8 cW.eq_9 cW.eq_10 cW.eq_11 cW.eq_12 drawW.eq_1 drawW.eq_2 itemD.eq_1 itemD.eq_2 valD.eq_1 valD.eq_2 valD.eq_3 valD.eq_4 valD.eq_5 valD.eq_6 CO.dst mergeR_upd mergeR_mask coC_call coC_alloc coC_make coC_box coC_bslice coN.eq_1 coN.eq_2 coN.eq_3 coN.eq_4 giveF.eq_1 giveF.eq_2 maskR_nil maskR_upd maskR_free List.any_cons List.any_nil Option.bind_some Bool.or_false Bool.false_or Bool.or_self decide_false kE kR kN kH coH_store coH_alloc coH_box coH_bslice coH_make coH_app coH_load1 coH_call coV.eq_1 coV.eq_2 coV.eq_3 coV.eq_4 coV.eq_5 coV.eq_6 coV.eq_7 coV.eq_8 coV.eq_9 coV.eq_10 coV.eq_11 coV.eq_12 coV.eq_13 coV.eq_14 coV.eq_15 coV.eq_16 coV.eq_17 coV.eq_18 coV.eq_19 coV.eq_20 coV.eq_21 putD_apply load1V loadNV CO.dst opsW.eq_1 opsW.eq_2 opsW.eq_3 coW.eq_1 coW.eq_2 coW.eq_3 coW.eq_4 coW.eq_5 coW.eq_6 coW.eq_7 coW.eq_8 coW.eq_9 coW.eq_10 coW.eq_11 coW.eq_12 coW.eq_13 coW.eq_14 coW.eq_15 coW.eq_16 coW.eq_17 coW.eq_18 coW.eq_19 coW.eq_20 coW.eq_21 coW.eq_22 coW.eq_23 coW.eq_24 coW.eq_25 coW.eq_26 coW.eq_27 coW.eq_28 coW.eq_29 coW.eq_30 coW.eq_31 coW.eq_32 coW.eq_33 partC elemC copyC boxLW boxLOK.eq_1 boxLOK.eq_2 boxLOK.eq_3 boxLinks.eq_1 boxLinks.eq_2 boxLinks.eq_3 boxCell CI.toL.eq_1 CI.toL.eq_2 CO.toL putK_apply ev_sl ev_ci ev_cb ev_cv ev_cf guardC_b condC_b thenC_n thenC_r thenC_e blockQ_n blockQ_r blockQ_e loopQ_n loopQ_r loopQ_e pickC beqC beqSC aggI intsT.eq_1 intsT.eq_2 intsA.eq_1 intsA.eq_2 isNilC slcC bndN Option.map_some Option.map_none binW binI binS unW extractW lenC lenTC idxC fldC load1C loadNC cellsC.eq_1 cellsV.eq_1 readC.eq_1 readA.eq_1 readA.eq_2 readOK.eq_1 readOK.eq_2 noLk.eq_1 noLk.eq_2 List.drop_zero Bool.and_false Option.isSome_some Option.isSome_none Bool.true_or Bool.or_true loadC storeC storeK_apply addrA compsA giveL giveW buildC fillA bsliceC boxW makeC newK_apply mkBox_v mkBox_nil mkBox_bld baseW srcW appendK1_apply appendK2_apply convC nilCheckW mmW retP.eq_1 retP.eq_2 retL retOne giveT giveTL fnTs routW packT Root.cells Root.with upd_apply St.of mkEnv mkRoots enum St.put T.cell T.flat true_and and_true List.map_cons List.map_nil List.length_cons List.length_nil Option.some.injEq forall_eq' List.lookup_nil Bool.not_true Bool.not_false decide_eq_true_eq decide_eq_false_iff_not ne_eq forall_const Bool.true_eq_false Bool.false_eq_true false_implies ite_true ite_false exists_eq_left' List.getElem?_cons_zero List.getElem?_cons_succ and_self List.getElem?_map Option.map_eq_some_iff forall_exists_index and_imp List.length_map Nat.mul_one Nat.div_one
end Go.Ab

/- The abstract layer, part 33: lists of the walk's rules, each as one rule. -/
set_option linter.unusedSimpArgs false
set_option linter.unusedVariables false
set_option linter.defProp false
namespace Go.Ab

attribute [go_sem] List.reduceReplicate Nat.reduceEqDiff Nat.reduceAdd Nat.reduceLeDiff Nat.reduceMul Nat.reduceSub Nat.reduceDiv Int.reduceToNat Nat.reduceLT Int.reduceLT Int.reduceLE reduceCtorEq
attribute [go_sem ↓] reduceIte
def evR := And.intro @forall_apply_eq_imp_iff₂.{1,1} (@toNat_cast)
def vaR := And.intro @vt_self (And.intro @vaL.eq_1 (And.intro @vaL.eq_2 (And.intro @vaL.eq_3 (And.intro @vtL.eq_1 (And.intro @vtL.eq_2 (And.intro @vtL.eq_3 (And.intro @va.eq_1 (And.intro @va.eq_2 (And.intro @va.eq_3 (And.intro @va.eq_4 (And.intro @va.eq_5 (And.intro @va.eq_6 (And.intro @va.eq_7 (And.intro @va.eq_8 (And.intro @va.eq_9 (And.intro @va.eq_10 (And.intro @va.eq_11 (And.intro @va.eq_12 (And.intro @va.eq_13 (And.intro @vt.eq_1 (And.intro @vt.eq_2 (And.intro @vt.eq_3 (And.intro @vt.eq_4 (And.intro @vt.eq_5 (And.intro @vt.eq_6 (And.intro @vt.eq_7 (And.intro @vt.eq_8 (And.intro @vb.eq_1 (And.intro @vb.eq_2 (And.intro @vb.eq_3 (And.intro @vb.eq_4 (And.intro @vb.eq_5 (And.intro @maT.eq_1 (And.intro @List.cons_append.{0} (And.intro @List.nil_append.{0} (And.intro @List.append_nil.{0} (And.intro @true_or (@or_true))))))))))))))))))))))))))))))))))))))
def rtR := And.intro @List.mem_cons.{0} (And.intro @List.mem_nil_iff.{0} (And.intro @List.not_mem_nil.{0} (And.intro @or_false (And.intro @false_or (And.intro @exists_eq_left.{1} (And.intro @exists_eq_left'.{1} (And.intro @exists_eq_right'.{1} (And.intro @Root.live.injEq (And.intro @eq_self_iff_true.{1} (And.intro @exists_eq.{1} (@and_true)))))))))))
def agR := And.intro @Int.natCast_zero (And.intro @Int.cast_ofNat_Int (And.intro @Int.natCast_one (And.intro @Nat.le_refl (And.intro @Nat.sub_self (And.intro @List.getElem?_cons_zero.{0} (And.intro @List.getElem?_cons_succ.{0} (And.intro @toShL_ratC (And.intro @toShL_ints (And.intro @toShL_intsO (And.intro @T.toSh.eq_1 (And.intro @T.toSh.eq_2 (And.intro @T.toSh.eq_3 (And.intro @T.toSh.eq_4 (@T.toSh.eq_5))))))))))))))
def clR := And.intro @List.append_nil.{0} (And.intro @List.cons_append.{0} (And.intro @afterCall.eq_1 (And.intro @afterCall.eq_2 (And.intro @absT_rowsO (And.intro @absT_intsO (And.intro @absT.eq_1 (And.intro @absT.eq_2 (And.intro @absT.eq_3 (And.intro @absT.eq_4 (And.intro @absT.eq_5 (And.intro @absL.eq_1 (And.intro @absL.eq_2 (And.intro @updL.eq_1 (And.intro @updL.eq_2 (And.intro @updS.eq_1 (And.intro @updS.eq_2 (And.intro @freeAll.eq_1 (And.intro @freeAll.eq_2 (And.intro @rid.eq_1 (And.intro @T.noSh.eq_1 (And.intro @T.noSh.eq_2 (And.intro @T.noSh.eq_3 (And.intro @T.noSh.eq_4 (And.intro @T.noSh.eq_5 (And.intro @T.noSh.eq_6 (And.intro @T.noSh.eq_7 (And.intro @T.noSh.eq_8 (And.intro @T.noShL.eq_1 (And.intro @T.noShL.eq_2 (@Nat.zero_le))))))))))))))))))))))))))))))
def wkR := And.intro @Int.add_zero (And.intro @envOK.eq_1 (And.intro @envOK.eq_2 (And.intro @maA.eq_1 (And.intro @maA.eq_2 (And.intro @maA.eq_3 (And.intro @maA.eq_4 (And.intro @maA.eq_5 (And.intro @maA.eq_6 (And.intro @maA.eq_7 (And.intro @maA.eq_8 (And.intro @maA.eq_9 (And.intro @maA.eq_10 (And.intro @maA.eq_11 (And.intro @maA.eq_12 (And.intro @maA.eq_13 (And.intro @maA.eq_14 (And.intro @maA.eq_15 (And.intro @maT.eq_1 (And.intro @upd_apply (And.intro @and_true (And.intro @true_or (And.intro @or_true (And.intro @List.map_cons.{0,0} (And.intro @List.map_nil.{0,0} (And.intro @Nat.zero_ne_one (And.intro @and_self (And.intro @true_and (And.intro @Int.natCast_zero (And.intro @Int.cast_ofNat_Int (@Int.ofNat_zero))))))))))))))))))))))))))))))
def wrR := And.intro @piOf.eq_1 (And.intro @List.zip_cons_cons.{0,0} (And.intro @List.zip_nil_right.{0,0} (And.intro @List.lookup_cons.{0,0} (And.intro @List.lookup_nil.{0,0} (And.intro @beq_self_eq_true.{0} (And.intro @rootsOK.eq_1 (And.intro @rootsOK.eq_2 (And.intro @rootsOK.eq_3 (And.intro @rootsOK.eq_4 (And.intro @mkRoots.eq_1 (And.intro @mkRoots.eq_2 (And.intro @mkEnv.eq_1 (@mkEnv.eq_2)))))))))))))
def srR := And.intro @rootOf_arr (And.intro @rootOf_box (And.intro @rootOf_any (And.intro @srcsOK.eq_1 (And.intro @srcsOK.eq_2 (And.intro @srcsOK.eq_3 (And.intro @updL.eq_1 (And.intro @updL.eq_2 (And.intro @updS.eq_1 (And.intro @updS.eq_2 (And.intro @upd_apply (And.intro @mkRoots.eq_1 (And.intro @mkRoots.eq_2 (@and_true)))))))))))))
def opR := And.intro @List.lookup_cons.{0,0} (And.intro @beq_self_eq_true.{0} (And.intro @rid.eq_1 (And.intro @openG.eq_1 (@openG.eq_2))))
end Go.Ab

/- The bridge, part 3: the types of the laws' arguments. -/
set_option linter.unusedSimpArgs false
set_option linter.unusedVariables false
namespace Go.Ab

def tyRows : Ty := .sl 1 (.sl 1 (.int .i64))
def fits64 (l : List Int) : Prop := ∀ x ∈ l, -9223372036854775808 ≤ x ∧ x < 9223372036854775808
theorem wf64 {n : Int} (h : (Lit.int .i64 n).wf = true) : -9223372036854775808 ≤ n ∧ n < 9223372036854775808 := by
  simp [Lit.wf, IntKind.min, IntKind.max, IntKind.signed, IntKind.bits] at h
  omega
theorem flat_ints : ∀ {xs : List (List T)}, (∀ x ∈ xs, x.length = 1 ∧ (Ty.int .i64).wt x) → ∃ l : List Int, xs.flatten = l.map T.i ∧ l.length = xs.length ∧ fits64 l
  | [], _ => ⟨[], rfl, rfl, fun x hx => by simp at hx⟩
  | x :: xs, h => by
    obtain ⟨l, hl, hlen, hf⟩ := flat_ints (xs := xs) fun y hy => h y (by simp [hy])
    obtain ⟨_, n, rfl, hw⟩ := h x (by simp)
    refine ⟨n :: l, by simp [hl], by simp [hlen], fun y hy => ?_⟩
    rcases List.mem_cons.1 hy with rfl | hy
    · exact wf64 hw
    · exact hf y hy
theorem wt_ints {x : T} (h : (Ty.sl 1 (.int .i64)).wt [x]) : ∃ l : List Int, x = ints l ∧ l.length ≤ 9223372036854775807 ∧ fits64 l := by
  obtain ⟨xs, hx, hlen, hall⟩ := h
  obtain ⟨l, hl, hll, hf⟩ := flat_ints hall
  simp only [List.cons.injEq, and_true] at hx
  exact ⟨l, by rw [hx, hl]; rfl, by rw [hll]; exact hlen, hf⟩
theorem flat_rows : ∀ {xs : List (List T)}, (∀ x ∈ xs, x.length = 1 ∧ (Ty.sl 1 (.int .i64)).wt x) → ∃ m : List (List Int), xs.flatten = m.map ints ∧ m.length = xs.length ∧ ∀ r ∈ m, r.length ≤ 9223372036854775807 ∧ fits64 r
  | [], _ => ⟨[], rfl, rfl, by simp⟩
  | x :: xs, h => by
    obtain ⟨m, hm, hlen, hr⟩ := flat_rows (xs := xs) fun y hy => h y (by simp [hy])
    obtain ⟨h1, hw⟩ := h x (by simp)
    match x, h1 with
    | [y], _ =>
      obtain ⟨l, rfl, hl, hf⟩ := wt_ints hw
      refine ⟨l :: m, by simp [hm], by simp [hlen], fun r hr' => ?_⟩
      rcases List.mem_cons.1 hr' with rfl | h'
      · exact ⟨hl, hf⟩
      · exact hr r h'
theorem wt_rows {x : T} (h : tyRows.wt [x]) : ∃ m : List (List Int), x = rows m ∧ m.length ≤ 9223372036854775807 ∧ ∀ r ∈ m, r.length ≤ 9223372036854775807 ∧ fits64 r := by
  obtain ⟨xs, hx, hlen, hall⟩ := h
  obtain ⟨m, hm, hml, hr⟩ := flat_rows hall
  simp only [List.cons.injEq, and_true] at hx
  exact ⟨m, by rw [hx, hm]; rfl, by rw [hml]; exact hlen, hr⟩


end Go.Ab

/- The bridge, part 6: words of the text that names a program's order. -/
set_option linter.unusedSimpArgs false
set_option linter.unusedVariables false
namespace Go.Ab

theorem tl_finals : ( "finals" : String).toList = ([102, 105, 110, 97, 108, 115].map Char.ofNat) := String.toList_ofList
theorem tl_reflectrows : ( "reflectrows" : String).toList = ([114, 101, 102, 108, 101, 99, 116, 114, 111, 119, 115].map Char.ofNat) := String.toList_ofList
theorem tl_leanrows : ( "leanrows" : String).toList = ([108, 101, 97, 110, 114, 111, 119, 115].map Char.ofNat) := String.toList_ofList
theorem tl_onebuild : ( "onebuild" : String).toList = ([111, 110, 101, 98, 117, 105, 108, 100].map Char.ofNat) := String.toList_ofList
theorem tl_publicsums : ( "publicsums" : String).toList = ([112, 117, 98, 108, 105, 99, 115, 117, 109, 115].map Char.ofNat) := String.toList_ofList
theorem tl_eqguard : ( "eqguard" : String).toList = ([101, 113, 103, 117, 97, 114, 100].map Char.ofNat) := String.toList_ofList
theorem tl_ownunsafe : ( "ownunsafe" : String).toList = ([111, 119, 110, 117, 110, 115, 97, 102, 101].map Char.ofNat) := String.toList_ofList
theorem tl_libbeside : ( "libbeside" : String).toList = ([108, 105, 98, 98, 101, 115, 105, 100, 101].map Char.ofNat) := String.toList_ofList
theorem tl_ownbeside : ( "ownbeside" : String).toList = ([111, 119, 110, 98, 101, 115, 105, 100, 101].map Char.ofNat) := String.toList_ofList
theorem tl_reflbeside : ( "reflbeside" : String).toList = ([114, 101, 102, 108, 98, 101, 115, 105, 100, 101].map Char.ofNat) := String.toList_ofList
theorem tl_aliases : ( "aliases" : String).toList = ([97, 108, 105, 97, 115, 101, 115].map Char.ofNat) := String.toList_ofList
theorem tl_afterinit : ( "afterinit" : String).toList = ([97, 102, 116, 101, 114, 105, 110, 105, 116].map Char.ofNat) := String.toList_ofList
theorem tl_crcplain : ( "crcplain" : String).toList = ([99, 114, 99, 112, 108, 97, 105, 110].map Char.ofNat) := String.toList_ofList
theorem tl_roadunsafe : ( "roadunsafe" : String).toList = ([114, 111, 97, 100, 117, 110, 115, 97, 102, 101].map Char.ofNat) := String.toList_ofList
theorem tl_fmthandon : ( "fmthandon" : String).toList = ([102, 109, 116, 104, 97, 110, 100, 111, 110].map Char.ofNat) := String.toList_ofList
theorem tl_cut : ( "cut" : String).toList = ([99, 117, 116].map Char.ofNat) := String.toList_ofList
theorem tl_gc : ( "gc" : String).toList = ([103, 99].map Char.ofNat) := String.toList_ofList
theorem tl_spec : ( "spec" : String).toList = ([115, 112, 101, 99].map Char.ofNat) := String.toList_ofList
theorem tl_carried : ( "carried" : String).toList = ([99, 97, 114, 114, 105, 101, 100].map Char.ofNat) := String.toList_ofList
theorem tl_stop : ( "stop" : String).toList = ([115, 116, 111, 112].map Char.ofNat) := String.toList_ofList
theorem tl_harness : ( "harness" : String).toList = ([104, 97, 114, 110, 101, 115, 115].map Char.ofNat) := String.toList_ofList
def cutL : List Char := ([99, 117, 116].map Char.ofNat)
theorem strip_cut (ws : List (List Char)) : stripLifts liftWords (cutL :: ws) = ([], cutL :: ws) := by
  have no : ∀ (o : String) (os : List String) (l : List Char), o.toList = l → (cutL == l) = false → stripLifts (o :: os) (cutL :: ws) = stripLifts os (cutL :: ws) := fun o os l h1 h2 => by
    show (if cutL == o.toList then _ else _) = _
    rw [h1, h2]; rfl
  unfold liftWords
  rw [no _ _ _ tl_finals (by decide), no _ _ _ tl_reflectrows (by decide), no _ _ _ tl_leanrows (by decide), no _ _ _ tl_onebuild (by decide), no _ _ _ tl_publicsums (by decide), no _ _ _ tl_eqguard (by decide), no _ _ _ tl_ownunsafe (by decide), no _ _ _ tl_libbeside (by decide), no _ _ _ tl_ownbeside (by decide), no _ _ _ tl_reflbeside (by decide), no _ _ _ tl_aliases (by decide), no _ _ _ tl_afterinit (by decide), no _ _ _ tl_crcplain (by decide), no _ _ _ tl_roadunsafe (by decide), no _ _ _ tl_fmthandon (by decide)]
  rfl
theorem words_one {r : List Char} : ∀ {w : List Char}, (∀ c ∈ w, c ≠ Char.ofNat 32) → wordsSigns (w ++ Char.ofNat 32 :: r) = w :: wordsSigns r
  | [], _ => by
    show wordsSigns (Char.ofNat 32 :: r) = _
    rfl
  | c :: w, h => by
    have ih := words_one (r := r) (w := w) fun d hd => h d (by simp [hd])
    show wordsSigns (c :: (w ++ Char.ofNat 32 :: r)) = _
    rw [wordsSigns, ih]
    exact fun he => h c (by simp) he
theorem words_three {s : String} {w1 w2 w3 r : List Char} (hs : s = String.ofList (w1 ++ Char.ofNat 32 :: (w2 ++ Char.ofNat 32 :: (w3 ++ Char.ofNat 32 :: r)))) (h1 : (w1.all fun c => c != Char.ofNat 32) = true) (h2 : (w2.all fun c => c != Char.ofNat 32) = true) (h3 : (w3.all fun c => c != Char.ofNat 32) = true)
    (hh : (w1 == ([104, 97, 114, 110, 101, 115, 115].map Char.ofNat)) = true) (hsum : isSumSigns w2 = true) : behindMainWord (wordsSigns s.toList) = w3 :: wordsSigns r := by
  have g : ∀ w : List Char, (w.all fun c => c != Char.ofNat 32) = true → ∀ c ∈ w, c ≠ Char.ofNat 32 := fun w h c hc => by
    have := List.all_eq_true.1 h c hc
    simpa using this
  rw [hs, String.toList_ofList, words_one (g w1 h1), words_one (g w2 h2), words_one (g w3 h3)]
  show (if (w1 == "harness".toList || w1 == "ownmain".toList) && isSumSigns w2 then w3 :: wordsSigns r else w1 :: w2 :: w3 :: wordsSigns r) = _
  rw [tl_harness, hh, hsum]; rfl
theorem mayEnter_of {P : Program} (hw : ∃ ws, behindMainWord (wordsSigns P.initOrder.toList) = cutL :: ws) (h1 : P.laysLater = false) (h2 : P.bearsReflect = false) (h3 : P.doorFits [] = true) : P.mayEnter = true := by
  obtain ⟨ws, h⟩ := hw
  unfold Program.mayEnter
  rw [h]
  simp only [strip_cut, tl_gc, tl_spec, tl_carried, tl_cut, tl_stop, h1, h2, h3]
  rfl
theorem liftsFinal_of {P : Program} (hw : ∃ ws, behindMainWord (wordsSigns P.initOrder.toList) = cutL :: ws) : P.liftsFinal = false := by
  obtain ⟨ws, h⟩ := hw
  unfold Program.liftsFinal Program.headLifts
  rw [h]
  simp only [strip_cut, tl_gc, tl_carried, tl_cut]
  rfl
theorem make_of {P : Program} (hw : ∃ ws, behindMainWord (wordsSigns P.initOrder.toList) = cutL :: ws) : P.make = some .cut := by
  obtain ⟨ws, h⟩ := hw
  unfold Program.make
  rw [h]
  simp only [tl_gc, tl_spec, tl_finals, tl_carried, tl_cut]
  rfl
end Go.Ab

/- Facts of the seat's program, for the claims' closed facts. -/
set_option linter.unusedSimpArgs false
set_option linter.unusedVariables false
namespace Go.Proofs.YtnnmgdngfofjlaaDoor
open Go.ChangeShapes Go.WideShapes Go.ChangeAt Go.RowKit Go.Ab

set_option maxRecDepth 100000 in
theorem Tryd.initSigns : Tryd.prog.initOrder = String.ofList (([104, 97, 114, 110, 101, 115, 115].map Char.ofNat) ++ Char.ofNat 32 :: (([54, 51, 54, 100, 57, 100, 54, 98, 102, 98, 52, 56, 101, 99, 99, 57, 48, 50, 52, 55, 98, 53, 99, 101, 50, 54, 54, 102, 100, 55, 49, 97, 53, 48, 99, 49, 57, 50, 102, 98, 55, 48, 53, 102, 55, 51, 99, 57, 98, 98, 49, 99, 100, 48, 56, 100, 100, 48, 102, 54, 50, 57, 55, 54].map Char.ofNat) ++ Char.ofNat 32 :: (([99, 117, 116].map Char.ofNat) ++ Char.ofNat 32 :: ([97, 116, 32, 108, 111, 111, 112, 46, 101, 120, 97, 109, 112, 108, 101, 47, 103, 48, 48, 57, 49, 48, 47, 108, 97, 119, 115, 46, 70, 110, 69, 120, 97, 99, 116, 67, 108, 97, 105, 109, 84, 101, 120, 116].map Char.ofNat)))) := by kernel_rfl
set_option maxRecDepth 100000 in
theorem Tryd.initWords : ∃ ws, behindMainWord (wordsSigns Tryd.prog.initOrder.toList) = cutL :: ws := ⟨_, words_three Tryd.initSigns (by kernel_rfl) (by kernel_rfl) (by kernel_rfl) (by kernel_rfl) (by kernel_rfl)⟩
theorem Tryd.laysF : Tryd.prog.laysLater = false := by kernel_rfl
theorem Tryd.bearsF : Tryd.prog.bearsReflect = false := by kernel_rfl
theorem Tryd.doorT : Tryd.prog.doorFits [] = true := by kernel_rfl
theorem Tryd.mayEnterT : Tryd.prog.mayEnter = true := mayEnter_of Tryd.initWords Tryd.laysF Tryd.bearsF Tryd.doorT
theorem Tryd.liftsF : Tryd.prog.liftsFinal = false := liftsFinal_of Tryd.initWords
theorem Tryd.makeC : Tryd.prog.make = some .cut := make_of Tryd.initWords
theorem Tryd.heardT : Tryd.prog.stopsHeard = true := by kernel_rfl
theorem Tryd.laidOutT : laidOutB Tryd.prog = true := by kernel_rfl
theorem Tryd.mapsRowedT : mapsRowed Tryd.prog = true := by kernel_rfl
end Go.Proofs.YtnnmgdngfofjlaaDoor

/- Games as data: rows of cells, nodes, trees. -/
set_option linter.unusedSimpArgs false
set_option linter.unusedVariables false
namespace Go.Ab

/-! Lists of things of s cells each. -/
section
variable {α : Type} {f : α → List T} {s : Nat}
def chunk (f : α → List T) (l : List α) : List T := l.flatMap f
theorem chunk_nil : chunk f [] = [] := rfl
theorem chunk_cons (x : α) (l : List α) : chunk f (x :: l) = f x ++ chunk f l := by simp [chunk]
theorem chunk_append (l l' : List α) : chunk f (l ++ l') = chunk f l ++ chunk f l' := by simp [chunk]
theorem chunk_length (hs : ∀ x, (f x).length = s) : ∀ l : List α, (chunk f l).length = l.length * s
  | [] => by simp [chunk]
  | x :: l => by rw [chunk_cons, List.length_append, hs, chunk_length hs l, List.length_cons, Nat.add_mul]; omega
theorem chunk_div (hs : ∀ x, (f x).length = s) (h0 : 0 < s) (l : List α) : (chunk f l).length / s = l.length := by rw [chunk_length hs, Nat.mul_div_cancel _ h0]
theorem chunk_drop (hs : ∀ x, (f x).length = s) : ∀ (l : List α) (i : Nat), (chunk f l).drop (i * s) = chunk f (l.drop i)
  | l, 0 => by simp
  | [], i + 1 => by simp [chunk]
  | x :: l, i + 1 => by
    rw [chunk_cons, show (i + 1) * s = (f x).length + i * s by rw [hs, Nat.add_mul]; omega, List.drop_length_add_append, chunk_drop hs l i]; rfl
theorem chunk_at (hs : ∀ x, (f x).length = s) {l : List α} {i : Nat} {x : α} (h : l[i]? = some x) : ((chunk f l).drop (i * s)).take s = f x := by
  obtain ⟨hi, rfl⟩ := List.getElem?_eq_some_iff.1 h
  rw [chunk_drop hs, List.drop_eq_getElem_cons hi, chunk_cons, List.take_append_of_le_length (by rw [hs]; exact Nat.le_refl _), List.take_of_length_le (by rw [hs]; exact Nat.le_refl _)]
theorem chunk_get (hs : ∀ x, (f x).length = s) {l : List α} {i k : Nat} {x : α} (h : l[i]? = some x) (hk : k < s) : (chunk f l)[i * s + k]? = (f x)[k]? := by
  have := congrArg (·[k]?) (chunk_at hs h)
  simp only [List.getElem?_take, List.getElem?_drop, if_pos hk] at this
  exact this
end

structure Nd where
  p : Int
  a : Int
  b : Int
  f : Int
  ch : List Int
deriving DecidableEq
def nodeC (x : Nd) : List T := [.i x.p, .i x.a, .i x.b, .i x.f, ints x.ch]
def nodeCO (x : Nd) : List T := [.i x.p, .i x.a, .i x.b, .i x.f, intsO x.ch]
theorem nodeC_len (x : Nd) : (nodeC x).length = 5 := rfl
theorem nodeCO_len (x : Nd) : (nodeCO x).length = 5 := rfl
def nodes (l : List Nd) : T := .sh 5 (chunk nodeC l)
def nodesO (l : List Nd) : T := .arr 5 (chunk nodeCO l)
def treeT (l : List Nd) : T := .agg [nodes l]
theorem nd_at {l : List Nd} {i : Nat} {x : Nd} (h : l[i]? = some x) : ((chunk nodeC l).drop (i * 5)).take 5 = [.i x.p, .i x.a, .i x.b, .i x.f, ints x.ch] := chunk_at nodeC_len h
theorem nd_len (l : List Nd) : (chunk nodeC l).length = l.length * 5 := chunk_length nodeC_len l
theorem nd_div (l : List Nd) : (chunk nodeC l).length / 5 = l.length := chunk_div nodeC_len (by decide) l
theorem nd_get0 {l : List Nd} {i : Nat} {x : Nd} (h : l[i]? = some x) : (chunk nodeC l)[i * 5]? = some (.i x.p) := chunk_get (k := 0) nodeC_len h (by decide)
theorem nd_get4 {l : List Nd} {i : Nat} {x : Nd} (h : l[i]? = some x) : (chunk nodeC l)[i * 5 + 4]? = some (ints x.ch) := chunk_get (k := 4) nodeC_len h (by decide)
attribute [go_sem] nd_div

def incr : List Int → Bool
  | [] => true
  | [_] => true
  | x :: y :: l => decide (x < y) && incr (y :: l)
def ndOK (n i : Nat) (x : Nd) : Bool :=
  decide (0 ≤ x.p ∧ x.p ≤ 2) && decide (0 ≤ x.a ∧ x.a ≤ 100) && decide (0 ≤ x.b ∧ x.b ≤ 100) &&
  (if x.p = 2 then decide (x.ch = []) && decide (-1 ≤ x.f ∧ x.f ≤ 1) && (decide (x.f ≠ -1) || decide (x.a = x.b))
   else decide (x.f = -1) && decide (1 ≤ x.ch.length ∧ x.ch.length ≤ 4) && (x.ch.all fun c => decide ((i : Int) + 1 ≤ c ∧ c ≤ (n : Int) - 1)) && incr x.ch)
def occ (c : Nat) (l : List Nd) : Nat := (l.map fun x => if x.p = 2 then 0 else x.ch.count (c : Int)).sum
def dep (l : List Nd) : Nat → Nat → Int
  | 0, _ => 0
  | f + 1, i => if (l.getD i ⟨2, 0, 0, 0, []⟩).p = 2 then 0 else ((l.getD i ⟨2, 0, 0, 0, []⟩).ch.foldl (fun d c => max d (dep l f c.toNat)) 0) + 1
def ndsOK (l : List Nd) : Prop := ∀ i x, l[i]? = some x → ndOK l.length i x = true
def isTreeB (l : List Nd) : Bool :=
  decide (1 ≤ l.length ∧ l.length ≤ 60) && ((List.range l.length).all fun i => ndOK l.length i (l.getD i ⟨2, 0, 0, 0, []⟩)) && ((List.range l.length).all fun i => decide (i = 0 ∨ occ i l = 1)) && decide (dep l l.length 0 ≤ 5)

theorem ndsOK_iff (l : List Nd) : ((List.range l.length).all fun i => ndOK l.length i (l.getD i ⟨2, 0, 0, 0, []⟩)) = true ↔ ndsOK l := by
  rw [List.all_eq_true]
  constructor
  · intro h i x hx
    have hi := (List.getElem?_eq_some_iff.1 hx).1
    have := h i (List.mem_range.2 hi)
    rwa [List.getD_eq_getElem?_getD, hx] at this
  · intro h i hi
    have hi := List.mem_range.1 hi
    rw [List.getD_eq_getElem?_getD, List.getElem?_eq_getElem hi]
    exact h i _ (List.getElem?_eq_getElem hi)
theorem ndOK_child {n i : Nat} {x : Nd} (h : ndOK n i x = true) : ∀ c ∈ x.ch, (i : Int) + 1 ≤ c ∧ c ≤ (n : Int) - 1 := by
  intro c hc
  simp only [ndOK, Bool.and_eq_true] at h
  have h2 := h.2
  split at h2
  · simp only [Bool.and_eq_true, decide_eq_true_eq] at h2
    rw [h2.1.1] at hc; simp at hc
  · simp only [Bool.and_eq_true, decide_eq_true_eq, List.all_eq_true] at h2
    exact h2.1.2 c hc
theorem ndOK_fields {n i : Nat} {x : Nd} (h : ndOK n i x = true) : (0 ≤ x.p ∧ x.p ≤ 2) ∧ (0 ≤ x.a ∧ x.a ≤ 100) ∧ (0 ≤ x.b ∧ x.b ≤ 100) ∧ (x.p = 2 → x.ch = [] ∧ -1 ≤ x.f ∧ x.f ≤ 1 ∧ (x.f = -1 → x.a = x.b)) ∧ (x.p ≠ 2 → x.f = -1 ∧ 1 ≤ x.ch.length) ∧ x.ch.length ≤ 4 := by
  simp only [ndOK, Bool.and_eq_true, decide_eq_true_eq] at h
  obtain ⟨⟨⟨h1, h2⟩, h3⟩, h4⟩ := h
  refine ⟨h1, h2, h3, fun hp => ?_, fun hp => ?_, ?_⟩
  · rw [if_pos hp] at h4
    simp only [Bool.and_eq_true, Bool.or_eq_true, decide_eq_true_eq] at h4
    exact ⟨h4.1.1, h4.1.2.1, h4.1.2.2, fun hf => h4.2.resolve_left (fun h => h hf)⟩
  · rw [if_neg hp] at h4
    simp only [Bool.and_eq_true, decide_eq_true_eq] at h4
    exact ⟨h4.1.1.1, h4.1.1.2.1⟩
  · split at h4
    · simp only [Bool.and_eq_true, decide_eq_true_eq] at h4
      rw [h4.1.1]; simp
    · simp only [Bool.and_eq_true, decide_eq_true_eq] at h4
      exact h4.1.1.2.2
theorem dep_nonneg {l : List Nd} : ∀ (f i : Nat), 0 ≤ dep l f i ∧ dep l f i ≤ f
  | 0, i => by simp [dep]
  | f + 1, i => by
    rw [dep]; split
    · omega
    · have key : ∀ (cs : List Int) (d : Int), 0 ≤ d ∧ d ≤ f → 0 ≤ cs.foldl (fun d c => max d (dep l f c.toNat)) d ∧ cs.foldl (fun d c => max d (dep l f c.toNat)) d ≤ f := by
        intro cs
        induction cs with
        | nil => intro d h; exact h
        | cons c cs ih =>
          intro d h
          rw [List.foldl_cons]
          have := dep_nonneg (l := l) f c.toNat
          exact ih _ (by omega)
      have := key (l.getD i ⟨2, 0, 0, 0, []⟩).ch 0 (by omega)
      omega
end Go.Ab

/- Games as data: values and best responses. -/
set_option linter.unusedSimpArgs false
set_option linter.unusedVariables false
namespace Go.Ab

def nd0 : Nd := ⟨2, 0, 0, 0, []⟩
structure Gm where
  nd : List Nd
  w : List (List Int)
  v : List (List Int)
deriving DecidableEq
def sumI : List Int → Int
  | [] => 0
  | x :: l => x + sumI l
theorem sumI_append : ∀ l l' : List Int, sumI (l ++ l') = sumI l + sumI l'
  | [], l' => by simp [sumI]
  | x :: l, l' => by rw [List.cons_append, sumI, sumI, sumI_append l l']; omega
theorem sumI_snoc (l : List Int) (x : Int) : sumI (l ++ [x]) = sumI l + x := by rw [sumI_append]; simp [sumI]
theorem sumI_nonneg : ∀ {l : List Int}, (∀ x ∈ l, 0 ≤ x) → 0 ≤ sumI l
  | [], _ => by simp [sumI]
  | x :: l, h => by
    have h1 := h x (by simp)
    have h2 := sumI_nonneg (l := l) fun y hy => h y (by simp [hy])
    rw [sumI]; omega
theorem sumI_le {b : Int} : ∀ {l : List Int}, (∀ x ∈ l, x ≤ b) → sumI l ≤ l.length * b
  | [], _ => by simp [sumI]
  | x :: l, h => by
    have h1 := h x (by simp)
    have h2 := sumI_le (l := l) fun y hy => h y (by simp [hy])
    rw [sumI, List.length_cons]
    have : ((l.length + 1 : Nat) : Int) * b = l.length * b + b := by rw [Int.natCast_add, Int.add_mul]; simp
    omega
def matK (m : List (List Int)) (k : Nat) (lo hi : Int) : Bool := decide (m.length = k) && m.all fun r => decide (r.length = k) && r.all fun x => decide (lo ≤ x ∧ x ≤ hi)
def totW (w : List (List Int)) : Int := sumI (w.map sumI)
def isGameB (g : Gm) : Bool := isTreeB g.nd && decide (1 ≤ g.w.length ∧ g.w.length ≤ 6) && matK g.w g.w.length 0 9 && matK g.v g.w.length (-1) 1 && decide (0 < totW g.w)

def idxs (l : List Nd) (pl : Int) (n : Nat) : List Int := ((List.range n).filter fun i => decide ((l.getD i nd0).p = pl)).map Int.ofNat
theorem idxs_succ (l : List Nd) (pl : Int) (n : Nat) : idxs l pl (n + 1) = if (l.getD n nd0).p = pl then idxs l pl n ++ [(n : Int)] else idxs l pl n := by
  unfold idxs
  rw [List.range_succ, List.filter_append]
  by_cases h : (l.getD n nd0).p = pl
  · rw [if_pos h, List.filter_cons_of_pos (by simpa using h)]; simp
  · rw [if_neg h, List.filter_cons_of_neg (by simpa using h)]; simp
def setsOf (ns : List Int) (k : Nat) : List (List Int) := ns.flatMap fun n => (List.range k).map fun c : Nat => [n, (c : Int)]
theorem setsOf_snoc (ns : List Int) (n : Int) (k : Nat) : setsOf (ns ++ [n]) k = setsOf ns k ++ (List.range k).map fun c : Nat => [n, (c : Int)] := by simp [setsOf]
theorem setsOf_length (ns : List Int) (k : Nat) : (setsOf ns k).length = ns.length * k := by
  induction ns with
  | nil => simp [setsOf]
  | cons n ns ih =>
    have : setsOf (n :: ns) k = ((List.range k).map fun c : Nat => [n, (c : Int)]) ++ setsOf ns k := rfl
    rw [this, List.length_append, ih]; simp [Nat.add_mul]; omega
def sets (g : Gm) (pl : Int) : List (List Int) := setsOf (idxs g.nd pl g.nd.length) g.w.length

def pay (g : Gm) (i : Nat) (a b : Nat) : Int :=
  let x := g.nd.getD i nd0
  let r := if x.f = 0 then -1 else if x.f = 1 then 1 else (g.v.getD a []).getD b 0
  if r = 1 then x.b else if r = -1 then -x.a else 0
def pw (p : Nat) : Int := 60 ^ p
theorem pw_succ (p : Nat) : pw (p + 1) = 60 * pw p := by rw [pw, pw, Int.pow_succ, Int.mul_comm]
theorem pw_pos (p : Nat) : 0 < pw p := Int.pow_pos (by decide)
def setI (g : Gm) (pl : Int) (i c : Nat) : Nat := (idxs g.nd pl i).length * g.w.length + c
def partsOf (g : Gm) (pt : List (List Int)) (pl : Int) (i c : Nat) : List Int := pt.getD (setI g pl i c) []

def val (g : Gm) (s t : List (List Int)) : Nat → Nat → Nat → Nat → Nat → Int
  | 0, _, _, _, _ => 0
  | f + 1, i, a, b, p =>
    let x := g.nd.getD i nd0
    if x.p = 2 then pay g i a b * pw p
    else sumI (List.zipWith (fun q c => q * val g s t f c.toNat a b (p - 1)) (if x.p = 0 then partsOf g s 0 i a else partsOf g t 1 i b) x.ch)

def payP (g : Gm) (pl : Int) (i own c : Nat) : Int := if pl = 0 then pay g i own c else -pay g i c own
def nextR (g : Gm) (ot : List (List Int)) (pl : Int) (i : Nat) (reach : List Int) (k : Nat) : List Int :=
  (List.range reach.length).map fun c => reach.getD c 0 * (partsOf g ot (1 - pl) i c).getD k 0
def argmax : List Int → Nat
  | [] => 0
  | l => go l.length l
where
  go : Nat → List Int → Nat
    | 0, _ => 0
    | n + 1, l => if n = 0 then 0 else if l.getD (go n l) 0 < l.getD n 0 then n else go n l
def bestV (g : Gm) (ot : List (List Int)) (pl : Int) (own : Nat) : Nat → Nat → List Int → Nat → Int
  | 0, _, _, _ => 0
  | f + 1, i, reach, p =>
    let x := g.nd.getD i nd0
    if x.p = 2 then sumI ((List.range reach.length).map fun c => reach.getD c 0 * payP g pl i own c) * pw p
    else if x.p = pl then
      let vs := x.ch.map fun c => bestV g ot pl own f c.toNat reach p
      vs.getD (argmax vs) 0
    else sumI ((List.range x.ch.length).map fun k => bestV g ot pl own f (x.ch.getD k 0).toNat (nextR g ot pl i reach k) (p - 1))
end Go.Ab

/- Games as data: best responses, scales and bounds. -/
set_option linter.unusedSimpArgs false
set_option linter.unusedVariables false
namespace Go.Ab

theorem foldl_max_le {α : Type} (F : α → Int) : ∀ (cs : List α) (d : Int), d ≤ cs.foldl (fun d c => max d (F c)) d ∧ ∀ c ∈ cs, F c ≤ cs.foldl (fun d c => max d (F c)) d
  | [], d => ⟨Int.le_refl _, by simp⟩
  | c :: cs, d => by
    rw [List.foldl_cons]
    obtain ⟨h1, h2⟩ := foldl_max_le F cs (max d (F c))
    refine ⟨by omega, fun c' hc' => ?_⟩
    rcases List.mem_cons.1 hc' with rfl | hc'
    · omega
    · exact h2 c' hc'
theorem dep_child {l : List Nd} {f i : Nat} (hp : (l.getD i nd0).p ≠ 2) : 1 ≤ dep l (f + 1) i ∧ ∀ c ∈ (l.getD i nd0).ch, dep l f c.toNat + 1 ≤ dep l (f + 1) i := by
  have e : dep l (f + 1) i = ((l.getD i nd0).ch.foldl (fun d c => max d (dep l f c.toNat)) 0) + 1 := by
    rw [dep]; exact if_neg hp
  obtain ⟨h1, h2⟩ := foldl_max_le (fun c : Int => dep l f c.toNat) (l.getD i nd0).ch 0
  rw [e]
  exact ⟨by omega, fun c hc => by have := h2 c hc; omega⟩

theorem argmax_go_succ (n : Nat) (l : List Int) : argmax.go (n + 1) l = if n = 0 then 0 else if l.getD (argmax.go n l) 0 < l.getD n 0 then n else argmax.go n l := rfl
theorem getD_mem {α : Type} {l : List α} {k : Nat} (d : α) (h : k < l.length) : l.getD k d ∈ l := by rw [List.getD_eq_getElem?_getD, List.getElem?_eq_getElem h]; exact List.getElem_mem h
theorem argmax_go_lt (l : List Int) : ∀ n, 0 < n → argmax.go n l < n
  | 0, h => absurd h (by omega)
  | 1, _ => by simp [argmax.go]
  | n + 2, _ => by
    have := argmax_go_lt l (n + 1) (by omega)
    rw [argmax_go_succ, if_neg (by omega)]
    split <;> omega
theorem argmax_eq (l : List Int) : argmax l = argmax.go l.length l := by
  cases l with
  | nil => rfl
  | cons a l => rfl
theorem argmax_go_congr {l l' : List Int} : ∀ n, (∀ i j, i < n → j < n → (l.getD i 0 < l.getD j 0 ↔ l'.getD i 0 < l'.getD j 0)) → argmax.go n l = argmax.go n l'
  | 0, _ => rfl
  | 1, _ => by simp [argmax.go]
  | n + 2, h => by
    rw [argmax_go_succ (n + 1) l, argmax_go_succ (n + 1) l', if_neg (c := n + 1 = 0) (by omega), if_neg (c := n + 1 = 0) (by omega)]
    have ih := argmax_go_congr (l := l) (l' := l') (n + 1) fun i j hi hj => h i j (by omega) (by omega)
    rw [ih]
    have hlt := argmax_go_lt l' (n + 1) (by omega)
    have := h (argmax.go (n + 1) l') (n + 1) (by omega) (by omega)
    by_cases h1 : l.getD (argmax.go (n + 1) l') 0 < l.getD (n + 1) 0
    · rw [if_pos h1, if_pos (this.1 h1)]
    · rw [if_neg h1, if_neg fun h2 => h1 (this.2 h2)]
theorem getD_map60 (l : List Int) (i : Nat) : (l.map fun x => 60 * x).getD i 0 = 60 * l.getD i 0 := by
  rw [List.getD_eq_getElem?_getD, List.getD_eq_getElem?_getD, List.getElem?_map]
  cases l[i]? <;> simp
theorem argmax_scale (l : List Int) : argmax (l.map fun x => 60 * x) = argmax l := by
  rw [argmax_eq, argmax_eq, List.length_map]
  refine argmax_go_congr _ fun i j _ _ => ?_
  rw [getD_map60, getD_map60]; omega

theorem sumI_map_mul {α : Type} (F : α → Int) (c : Int) : ∀ l : List α, sumI (l.map fun x => c * F x) = c * sumI (l.map F)
  | [] => by simp [sumI]
  | x :: l => by rw [List.map_cons, List.map_cons, sumI, sumI, sumI_map_mul F c l, Int.mul_add]
theorem sumI_congr {α : Type} {F G : α → Int} : ∀ {l : List α}, (∀ x ∈ l, F x = G x) → sumI (l.map F) = sumI (l.map G)
  | [], _ => rfl
  | x :: l, h => by rw [List.map_cons, List.map_cons, sumI, sumI, h x (by simp), sumI_congr fun y hy => h y (by simp [hy])]
theorem sumI_add {α : Type} (F G : α → Int) : ∀ l : List α, sumI (l.map fun x => F x + G x) = sumI (l.map F) + sumI (l.map G)
  | [] => by simp [sumI]
  | x :: l => by rw [List.map_cons, List.map_cons, List.map_cons, sumI, sumI, sumI, sumI_add F G l]; omega
theorem sumI_zero {α : Type} : ∀ l : List α, sumI (l.map fun _ => (0 : Int)) = 0
  | [] => rfl
  | x :: l => by rw [List.map_cons, sumI, sumI_zero l]; rfl
theorem sumI_swap {α β : Type} (F : α → β → Int) (m : List β) : ∀ l : List α, sumI (l.map fun x => sumI (m.map fun y => F x y)) = sumI (m.map fun y => sumI (l.map fun x => F x y))
  | [] => by simp only [List.map_nil, sumI]; exact (sumI_zero m).symm
  | x :: l => by
    rw [List.map_cons, sumI, sumI_swap F m l, ← sumI_add]; rfl
theorem sumI_abs {α : Type} {F G : α → Int} : ∀ {l : List α}, (∀ x ∈ l, -G x ≤ F x ∧ F x ≤ G x) → -sumI (l.map G) ≤ sumI (l.map F) ∧ sumI (l.map F) ≤ sumI (l.map G)
  | [], _ => by simp [sumI]
  | x :: l, h => by
    have h1 := h x (by simp)
    have h2 := sumI_abs (l := l) fun y hy => h y (by simp [hy])
    rw [List.map_cons, List.map_cons, sumI, sumI]; omega
theorem map_getD_range : ∀ l : List Int, (List.range l.length).map (fun c => l.getD c 0) = l := by
  intro l
  refine List.ext_getElem? fun j => ?_
  rw [List.getElem?_map]
  by_cases hj : j < l.length
  · rw [List.getElem?_range hj, Option.map_some, List.getD_eq_getElem?_getD, List.getElem?_eq_getElem hj]; rfl
  · rw [List.getElem?_eq_none (by simpa using hj), List.getElem?_eq_none (by omega)]; rfl

theorem bestV_scale {g : Gm} {ot : List (List Int)} {pl : Int} {own : Nat} : ∀ (f i : Nat) (reach : List Int) (p : Nat), dep g.nd f i ≤ p → bestV g ot pl own f i reach (p + 1) = 60 * bestV g ot pl own f i reach p
  | 0, i, reach, p, _ => by simp [bestV]
  | f + 1, i, reach, p, h => by
    rw [bestV, bestV]
    simp only []
    by_cases h2 : (g.nd.getD i nd0).p = 2
    · rw [if_pos h2, if_pos h2, pw_succ, ← Int.mul_assoc, ← Int.mul_assoc, Int.mul_comm _ 60, Int.mul_assoc]
    · rw [if_neg h2, if_neg h2]
      obtain ⟨d1, d2⟩ := dep_child (f := f) h2
      by_cases h3 : (g.nd.getD i nd0).p = pl
      · rw [if_pos h3, if_pos h3]
        have e : (g.nd.getD i nd0).ch.map (fun c => bestV g ot pl own f c.toNat reach (p + 1)) = ((g.nd.getD i nd0).ch.map fun c => bestV g ot pl own f c.toNat reach p).map fun x => 60 * x := by
          rw [List.map_map]
          exact List.map_congr_left fun c hc => bestV_scale f c.toNat reach p (by have := d2 c hc; omega)
        rw [e, argmax_scale, getD_map60]
      · rw [if_neg h3, if_neg h3]
        obtain ⟨p', rfl⟩ : ∃ p', p = p' + 1 := ⟨p - 1, by omega⟩
        rw [← sumI_map_mul]
        refine sumI_congr fun k hk => ?_
        have hk : k < (g.nd.getD i nd0).ch.length := by simpa using hk
        have hmem : (g.nd.getD i nd0).ch.getD k 0 ∈ (g.nd.getD i nd0).ch := getD_mem 0 hk
        exact bestV_scale f _ _ p' (by have := d2 _ hmem; omega)

def partsOK (g : Gm) (ot : List (List Int)) (pl : Int) : Prop := ∀ i c, i < g.nd.length → c < g.w.length → (g.nd.getD i nd0).p = pl → (partsOf g ot pl i c).length = (g.nd.getD i nd0).ch.length ∧ (∀ x ∈ partsOf g ot pl i c, 0 ≤ x ∧ x ≤ 60) ∧ sumI (partsOf g ot pl i c) = 60
def payOK (g : Gm) : Prop := ∀ i a b, -100 ≤ pay g i a b ∧ pay g i a b ≤ 100
theorem nextR_length (g : Gm) (ot : List (List Int)) (pl : Int) (i : Nat) (reach : List Int) (k : Nat) : (nextR g ot pl i reach k).length = reach.length := by simp [nextR]
theorem nextR_sum {g : Gm} {ot : List (List Int)} {pl : Int} (hot : partsOK g ot (1 - pl)) {i : Nat} {reach : List Int} (hi : i < g.nd.length) (hr : reach.length = g.w.length) (hp : (g.nd.getD i nd0).p = 1 - pl) :
    sumI ((List.range (g.nd.getD i nd0).ch.length).map fun k => sumI (nextR g ot pl i reach k)) = 60 * sumI reach := by
  unfold nextR
  rw [sumI_swap]
  have e : sumI ((List.range reach.length).map fun c => sumI ((List.range (g.nd.getD i nd0).ch.length).map fun k => reach.getD c 0 * (partsOf g ot (1 - pl) i c).getD k 0)) = sumI ((List.range reach.length).map fun c => 60 * reach.getD c 0) := by
    refine sumI_congr fun c hc => ?_
    obtain ⟨h1, _, h3⟩ := hot i c hi (by have := List.mem_range.1 hc; omega) hp
    rw [sumI_map_mul, ← h1, map_getD_range, h3, Int.mul_comm]
  rw [e, sumI_map_mul, map_getD_range]
theorem nextR_nonneg {g : Gm} {ot : List (List Int)} {pl : Int} (hot : partsOK g ot (1 - pl)) {i : Nat} {reach : List Int} (hi : i < g.nd.length) (hr : reach.length = g.w.length) (hp : (g.nd.getD i nd0).p = 1 - pl) (h0 : ∀ x ∈ reach, 0 ≤ x) (k : Nat) :
    ∀ x ∈ nextR g ot pl i reach k, 0 ≤ x := by
  intro x hx
  obtain ⟨c, hc, rfl⟩ := List.mem_map.1 hx
  have hc := List.mem_range.1 hc
  obtain ⟨_, h2, _⟩ := hot i c hi (by omega) hp
  refine Int.mul_nonneg ?_ ?_
  · rw [List.getD_eq_getElem?_getD, List.getElem?_eq_getElem hc]; exact h0 _ (List.getElem_mem hc)
  · rw [List.getD_eq_getElem?_getD]
    cases h : (partsOf g ot (1 - pl) i c)[k]? with
    | none => simp
    | some y => exact (h2 y (List.mem_of_getElem? h)).1
theorem payP_abs {g : Gm} (hp : payOK g) (pl : Int) (i own c : Nat) : -100 ≤ payP g pl i own c ∧ payP g pl i own c ≤ 100 := by
  unfold payP; split
  · exact hp i own c
  · have := hp i c own; omega
theorem mul_abs {x y b : Int} (hx : 0 ≤ x) (h1 : -b ≤ y) (h2 : y ≤ b) : -(b * x) ≤ x * y ∧ x * y ≤ b * x := by
  have e1 := Int.mul_le_mul_of_nonneg_left h2 hx
  have e2 := Int.mul_le_mul_of_nonneg_left h1 hx
  rw [Int.mul_neg] at e2
  rw [Int.mul_comm b x]; omega
theorem payS_abs {g : Gm} (hp : payOK g) (pl : Int) (i own : Nat) {reach : List Int} (h0 : ∀ x ∈ reach, 0 ≤ x) :
    -(100 * sumI reach) ≤ sumI ((List.range reach.length).map fun c => reach.getD c 0 * payP g pl i own c) ∧ sumI ((List.range reach.length).map fun c => reach.getD c 0 * payP g pl i own c) ≤ 100 * sumI reach := by
  have h := sumI_abs (l := List.range reach.length) (F := fun c => reach.getD c 0 * payP g pl i own c) (G := fun c => 100 * reach.getD c 0) fun c hc => by
    have hc := List.mem_range.1 hc
    obtain ⟨h1, h2⟩ := payP_abs hp pl i own c
    have : 0 ≤ reach.getD c 0 := by rw [List.getD_eq_getElem?_getD, List.getElem?_eq_getElem hc]; exact h0 _ (List.getElem_mem hc)
    exact mul_abs this h1 h2
  rw [sumI_map_mul, map_getD_range] at h
  exact h
theorem bestV_abs {g : Gm} {ot : List (List Int)} {pl : Int} {own : Nat} (hnd : ndsOK g.nd) (hpl : pl = 0 ∨ pl = 1) (hot : partsOK g ot (1 - pl)) (hpay : payOK g) : ∀ (f i : Nat) (reach : List Int) (p : Nat), i < g.nd.length → reach.length = g.w.length → (∀ x ∈ reach, 0 ≤ x) → dep g.nd f i ≤ p →
    -(100 * sumI reach * pw p) ≤ bestV g ot pl own f i reach p ∧ bestV g ot pl own f i reach p ≤ 100 * sumI reach * pw p
  | 0, i, reach, p, _, _, h0, _ => by
    have h1 := sumI_nonneg h0
    have h2 := pw_pos p
    have := Int.mul_nonneg (Int.mul_nonneg (by decide : (0 : Int) ≤ 100) h1) (Int.le_of_lt h2)
    simp only [bestV]; omega
  | f + 1, i, reach, p, hi, hr, h0, h => by
    have hs := sumI_nonneg h0
    have hpp := pw_pos p
    have hB := Int.mul_nonneg (Int.mul_nonneg (by decide : (0 : Int) ≤ 100) hs) (Int.le_of_lt hpp)
    rw [bestV]
    simp only []
    by_cases h2 : (g.nd.getD i nd0).p = 2
    · rw [if_pos h2]
      obtain ⟨e1, e2⟩ := payS_abs hpay pl i own h0
      have e3 := Int.mul_le_mul_of_nonneg_right e1 (Int.le_of_lt hpp)
      have e4 := Int.mul_le_mul_of_nonneg_right e2 (Int.le_of_lt hpp)
      rw [Int.neg_mul] at e3
      exact ⟨e3, e4⟩
    · rw [if_neg h2]
      obtain ⟨d1, d2⟩ := dep_child (f := f) h2
      have hx : g.nd[i]? = some (g.nd.getD i nd0) := by rw [List.getD_eq_getElem?_getD, List.getElem?_eq_getElem hi]; rfl
      have hch := ndOK_child (hnd i _ hx)
      by_cases h3 : (g.nd.getD i nd0).p = pl
      · rw [if_pos h3]
        rw [List.getD_eq_getElem?_getD, List.getElem?_map]
        cases hc : (g.nd.getD i nd0).ch[argmax ((g.nd.getD i nd0).ch.map fun c => bestV g ot pl own f c.toNat reach p)]? with
        | none => simp only [Option.map_none, Option.getD_none]; omega
        | some c =>
          simp only [Option.map_some, Option.getD_some]
          have hm := List.mem_of_getElem? hc
          exact bestV_abs hnd hpl hot hpay f c.toNat reach p (by have := hch c hm; omega) hr h0 (by have := d2 c hm; omega)
      · rw [if_neg h3]
        have hp1 : (g.nd.getD i nd0).p = 1 - pl := by
          obtain ⟨⟨q1, q2⟩, _⟩ := ndOK_fields (hnd i _ hx)
          omega
        obtain ⟨p', rfl⟩ : ∃ p', p = p' + 1 := ⟨p - 1, by omega⟩
        have hb := sumI_abs (l := List.range (g.nd.getD i nd0).ch.length) (F := fun k => bestV g ot pl own f ((g.nd.getD i nd0).ch.getD k 0).toNat (nextR g ot pl i reach k) (p' + 1 - 1)) (G := fun k => (100 * pw p') * sumI (nextR g ot pl i reach k)) fun k hk => by
          have hk := List.mem_range.1 hk
          have hmem : (g.nd.getD i nd0).ch.getD k 0 ∈ (g.nd.getD i nd0).ch := getD_mem 0 hk
          have := bestV_abs (own := own) hnd hpl hot hpay f ((g.nd.getD i nd0).ch.getD k 0).toNat (nextR g ot pl i reach k) p' (by have := hch _ hmem; omega) (by rw [nextR_length, hr]) (nextR_nonneg hot hi hr hp1 h0 k) (by have := d2 _ hmem; omega)
          have e : 100 * sumI (nextR g ot pl i reach k) * pw p' = (100 * pw p') * sumI (nextR g ot pl i reach k) := by rw [Int.mul_assoc, Int.mul_comm (sumI _), ← Int.mul_assoc]
          rw [e] at this
          exact this
        rw [sumI_map_mul, nextR_sum hot hi hr hp1] at hb
        have e : 100 * sumI reach * pw (p' + 1) = (100 * pw p') * (60 * sumI reach) := by
          rw [pw_succ]
          generalize sumI reach = u; generalize pw p' = v
          rw [Int.mul_assoc 100 u, ← Int.mul_assoc u 60, Int.mul_comm u 60, Int.mul_assoc 60 u, Int.mul_assoc 100 v, Int.mul_comm v (60 * u), Int.mul_assoc 60 u]
        rw [e]
        exact hb
end Go.Ab

/- Games as data: strategies, choices of best responses. -/
set_option linter.unusedSimpArgs false
set_option linter.unusedVariables false
namespace Go.Ab

def partOK (n : Nat) (l : List Int) : Bool := decide (l.length = n) && (l.all fun x => decide (0 ≤ x ∧ x ≤ 60)) && decide (sumI l = 60)
def sizeAt (g : Gm) (pl : Int) (i : Nat) : Nat := (g.nd.getD (((sets g pl).getD i []).getD 0 0).toNat nd0).ch.length
def isStratB (g : Gm) (pl : Int) (pt : List (List Int)) : Bool := decide (pt.length = (sets g pl).length) && ((List.range (sets g pl).length).all fun i => partOK (sizeAt g pl i) (pt.getD i []))

theorem idxs_split (l : List Nd) (pl : Int) {i : Nat} (hp : (l.getD i nd0).p = pl) : ∀ (n : Nat), i < n → ∃ rest, idxs l pl n = idxs l pl i ++ (i : Int) :: rest
  | 0, h => absurd h (by omega)
  | n + 1, h => by
    rw [idxs_succ]
    rcases Nat.lt_or_ge i n with h1 | h1
    · obtain ⟨rest, e⟩ := idxs_split l pl hp n h1
      split
      · exact ⟨rest ++ [(n : Int)], by rw [e]; simp⟩
      · exact ⟨rest, e⟩
    · have : n = i := by omega
      subst this
      rw [if_pos hp]
      exact ⟨[], rfl⟩
theorem idxs_mem {l : List Nd} {pl : Int} {n : Nat} {x : Int} (h : x ∈ idxs l pl n) : ∃ i : Nat, x = i ∧ i < n ∧ (l.getD i nd0).p = pl := by
  obtain ⟨i, hi, rfl⟩ := List.mem_map.1 h
  obtain ⟨h1, h2⟩ := List.mem_filter.1 hi
  exact ⟨i, rfl, List.mem_range.1 h1, by simpa using h2⟩
theorem sets_get {g : Gm} {pl : Int} {i c : Nat} (hi : i < g.nd.length) (hc : c < g.w.length) (hp : (g.nd.getD i nd0).p = pl) : (sets g pl)[setI g pl i c]? = some [(i : Int), (c : Int)] := by
  obtain ⟨rest, e⟩ := idxs_split g.nd pl hp g.nd.length hi
  have e1 : setsOf (idxs g.nd pl i ++ (i : Int) :: rest) g.w.length = setsOf (idxs g.nd pl i) g.w.length ++ (((List.range g.w.length).map fun c : Nat => [(i : Int), (c : Int)]) ++ setsOf rest g.w.length) := by simp [setsOf]
  rw [sets, e, e1, setI, List.getElem?_append_right (by rw [setsOf_length]; omega), setsOf_length, Nat.add_sub_cancel_left, List.getElem?_append_left (by simpa using hc)]
  rw [List.getElem?_map, List.getElem?_range hc]; rfl
theorem sets_length (g : Gm) (pl : Int) : (sets g pl).length = (idxs g.nd pl g.nd.length).length * g.w.length := setsOf_length _ _
theorem setI_lt {g : Gm} {pl : Int} {i c : Nat} (hi : i < g.nd.length) (hc : c < g.w.length) (hp : (g.nd.getD i nd0).p = pl) : setI g pl i c < (sets g pl).length := (List.getElem?_eq_some_iff.1 (sets_get hi hc hp)).1
theorem setsOf_mem {ns : List Int} {k : Nat} {x : List Int} (h : x ∈ setsOf ns k) : ∃ n ∈ ns, ∃ c : Nat, c < k ∧ x = [n, (c : Int)] := by
  obtain ⟨n, hn, hx⟩ := List.mem_flatMap.1 h
  obtain ⟨c, hc, rfl⟩ := List.mem_map.1 hx
  exact ⟨n, hn, c, List.mem_range.1 hc, rfl⟩
theorem partsOK_of {g : Gm} {pl : Int} {pt : List (List Int)} (h : isStratB g pl pt = true) : partsOK g pt pl := by
  intro i c hi hc hp
  simp only [isStratB, Bool.and_eq_true, decide_eq_true_eq, List.all_eq_true, List.mem_range] at h
  have h1 := h.2 (setI g pl i c) (setI_lt hi hc hp)
  have e : sizeAt g pl (setI g pl i c) = (g.nd.getD i nd0).ch.length := by
    have e0 : (sets g pl).getD (setI g pl i c) [] = [(i : Int), (c : Int)] := by rw [List.getD_eq_getElem?_getD, sets_get hi hc hp]; rfl
    rw [sizeAt, e0]; rfl
  rw [e] at h1
  simp only [partOK, Bool.and_eq_true, decide_eq_true_eq, List.all_eq_true] at h1
  exact ⟨h1.1.1, h1.1.2, h1.2⟩

theorem isTreeB_spec {l : List Nd} (h : isTreeB l = true) : (1 ≤ l.length ∧ l.length ≤ 60) ∧ ndsOK l ∧ (∀ i, i < l.length → i = 0 ∨ occ i l = 1) ∧ dep l l.length 0 ≤ 5 := by
  simp only [isTreeB, Bool.and_eq_true, decide_eq_true_eq] at h
  obtain ⟨⟨⟨h1, h2⟩, h3⟩, h4⟩ := h
  refine ⟨h1, (ndsOK_iff l).1 h2, fun i hi => ?_, h4⟩
  rw [List.all_eq_true] at h3
  have := h3 i (List.mem_range.2 hi)
  simpa using this
theorem matK_spec {m : List (List Int)} {k : Nat} {lo hi : Int} (h : matK m k lo hi = true) : m.length = k ∧ ∀ r ∈ m, r.length = k ∧ ∀ x ∈ r, lo ≤ x ∧ x ≤ hi := by
  simp only [matK, Bool.and_eq_true, decide_eq_true_eq, List.all_eq_true] at h
  exact h
theorem isGameB_spec {g : Gm} (h : isGameB g = true) : isTreeB g.nd = true ∧ (1 ≤ g.w.length ∧ g.w.length ≤ 6) ∧ (∀ r ∈ g.w, r.length = g.w.length ∧ ∀ x ∈ r, 0 ≤ x ∧ x ≤ 9) ∧ g.v.length = g.w.length ∧ (∀ r ∈ g.v, r.length = g.w.length ∧ ∀ x ∈ r, -1 ≤ x ∧ x ≤ 1) ∧ 0 < totW g.w := by
  simp only [isGameB, Bool.and_eq_true, decide_eq_true_eq] at h
  obtain ⟨⟨⟨⟨h1, h2⟩, h3⟩, h4⟩, h5⟩ := h
  exact ⟨h1, h2, (matK_spec h3).2, (matK_spec h4).1, (matK_spec h4).2, h5⟩
theorem payOK_of {g : Gm} (h : ndsOK g.nd) : payOK g := by
  intro i a b
  have hx : (0 ≤ (g.nd.getD i nd0).a ∧ (g.nd.getD i nd0).a ≤ 100) ∧ (0 ≤ (g.nd.getD i nd0).b ∧ (g.nd.getD i nd0).b ≤ 100) := by
    rw [List.getD_eq_getElem?_getD]
    cases hi : g.nd[i]? with
    | none => decide
    | some x =>
      obtain ⟨_, h1, h2, _⟩ := ndOK_fields (h i x hi)
      exact ⟨h1, h2⟩
  unfold pay
  simp only []
  generalize (if (g.nd.getD i nd0).f = 0 then (-1 : Int) else if (g.nd.getD i nd0).f = 1 then 1 else (g.v.getD a []).getD b 0) = r
  split
  · omega
  · split <;> omega

def bestB (g : Gm) (ot : List (List Int)) (pl : Int) (own : Nat) : Nat → Nat → List Int → Nat → List (List Int) → List (List Int)
  | 0, _, _, _, B => B
  | f + 1, i, reach, p, B =>
    let x := g.nd.getD i nd0
    if x.p = 2 then B
    else if x.p = pl then
      (x.ch.foldl (fun B c => bestB g ot pl own f c.toNat reach p B) B).set (setI g pl i own) ((List.replicate x.ch.length 0).set (argmax (x.ch.map fun c => bestV g ot pl own f c.toNat reach p)) 60)
    else (List.range x.ch.length).foldl (fun B k => bestB g ot pl own f (x.ch.getD k 0).toNat (nextR g ot pl i reach k) (p - 1) B) B
theorem foldl_congr' {α β : Type} {F G : β → α → β} : ∀ (l : List α) (b : β), (∀ b, ∀ x ∈ l, F b x = G b x) → l.foldl F b = l.foldl G b
  | [], b, _ => rfl
  | x :: l, b, h => by
    rw [List.foldl_cons, List.foldl_cons, h b x (by simp)]
    exact foldl_congr' l _ fun b y hy => h b y (by simp [hy])
theorem bestB_scale {g : Gm} {ot : List (List Int)} {pl : Int} {own : Nat} : ∀ (f i : Nat) (reach : List Int) (p : Nat) (B : List (List Int)), dep g.nd f i ≤ p → bestB g ot pl own f i reach (p + 1) B = bestB g ot pl own f i reach p B
  | 0, i, reach, p, B, _ => rfl
  | f + 1, i, reach, p, B, h => by
    rw [bestB, bestB]
    (try simp only [])
    by_cases h2 : (g.nd.getD i nd0).p = 2
    · rw [if_pos h2, if_pos h2]
    · rw [if_neg h2, if_neg h2]
      obtain ⟨d1, d2⟩ := dep_child (f := f) h2
      by_cases h3 : (g.nd.getD i nd0).p = pl
      · rw [if_pos h3, if_pos h3]
        have e : (g.nd.getD i nd0).ch.map (fun c => bestV g ot pl own f c.toNat reach (p + 1)) = ((g.nd.getD i nd0).ch.map fun c => bestV g ot pl own f c.toNat reach p).map fun x => 60 * x := by
          rw [List.map_map]
          exact List.map_congr_left fun c hc => bestV_scale f c.toNat reach p (by have := d2 c hc; omega)
        rw [e, argmax_scale]
        congr 1
        exact foldl_congr' _ _ fun B c hc => bestB_scale f c.toNat reach p B (by have := d2 c hc; omega)
      · rw [if_neg h3, if_neg h3]
        obtain ⟨p', rfl⟩ : ∃ p', p = p' + 1 := ⟨p - 1, by omega⟩
        refine foldl_congr' _ _ fun B k hk => ?_
        have hk := List.mem_range.1 hk
        exact bestB_scale f _ _ p' B (by have := d2 _ (getD_mem 0 hk); omega)
theorem foldl_inv {α β : Type} {F : β → α → β} (I : β → Prop) : ∀ (l : List α) (b : β), I b → (∀ b, ∀ x ∈ l, I b → I (F b x)) → I (l.foldl F b)
  | [], b, h, _ => h
  | x :: l, b, h, hs => by
    rw [List.foldl_cons]
    exact foldl_inv I l _ (hs b x (by simp) h) fun b y hy => hs b y (by simp [hy])
def rows4 (n : Nat) (B : List (List Int)) : Prop := B.length = n ∧ ∀ r ∈ B, r.length ≤ 4
theorem rows4_set {n : Nat} {B : List (List Int)} (h : rows4 n B) (i : Nat) {r : List Int} (hr : r.length ≤ 4) : rows4 n (B.set i r) := by
  refine ⟨by rw [List.length_set, h.1], fun y hy => ?_⟩
  rcases List.mem_or_eq_of_mem_set hy with hy | rfl
  · exact h.2 y hy
  · exact hr
theorem ch_le {g : Gm} (hnd : ndsOK g.nd) (i : Nat) : (g.nd.getD i nd0).ch.length ≤ 4 := by
  rw [List.getD_eq_getElem?_getD]
  cases hi : g.nd[i]? with
  | none => simp [nd0]
  | some x => exact (ndOK_fields (hnd i x hi)).2.2.2.2.2
theorem bestB_rows {g : Gm} {ot : List (List Int)} {pl : Int} {own n : Nat} (hnd : ndsOK g.nd) : ∀ (f i : Nat) (reach : List Int) (p : Nat) (B : List (List Int)), rows4 n B → rows4 n (bestB g ot pl own f i reach p B)
  | 0, i, reach, p, B, h => h
  | f + 1, i, reach, p, B, h => by
    rw [bestB]
    (try simp only [])
    split
    · exact h
    · split
      · refine rows4_set (foldl_inv (rows4 n) _ _ h fun B c _ hB => bestB_rows hnd f _ _ _ B hB) _ ?_
        rw [List.length_set, List.length_replicate]; exact ch_le hnd i
      · exact foldl_inv (rows4 n) _ _ h fun B k _ hB => bestB_rows hnd f _ _ _ B hB

def reach0 (g : Gm) (pl : Int) (own : Nat) : List Int := (List.range g.w.length).map fun c => if pl = 0 then (g.w.getD own []).getD c 0 else (g.w.getD c []).getD own 0
theorem reach0_length (g : Gm) (pl : Int) (own : Nat) : (reach0 g pl own).length = g.w.length := by simp [reach0]
theorem w_get {g : Gm} (hw : ∀ r ∈ g.w, r.length = g.w.length ∧ ∀ x ∈ r, 0 ≤ x ∧ x ≤ 9) (a b : Nat) : 0 ≤ (g.w.getD a []).getD b 0 ∧ (g.w.getD a []).getD b 0 ≤ 9 := by
  rw [List.getD_eq_getElem?_getD, List.getD_eq_getElem?_getD]
  cases ha : g.w[a]? with
  | none => simp
  | some r =>
    simp only [Option.getD_some]
    cases hb : r[b]? with
    | none => simp
    | some x => exact (hw r (List.mem_of_getElem? ha)).2 x (List.mem_of_getElem? hb)
theorem reach0_bound {g : Gm} (hw : ∀ r ∈ g.w, r.length = g.w.length ∧ ∀ x ∈ r, 0 ≤ x ∧ x ≤ 9) (pl : Int) (own : Nat) : ∀ x ∈ reach0 g pl own, 0 ≤ x ∧ x ≤ 9 := by
  intro x hx
  obtain ⟨c, hc, rfl⟩ := List.mem_map.1 hx
  split
  · exact w_get hw _ _
  · exact w_get hw _ _
def dpt (g : Gm) : Nat := (dep g.nd g.nd.length 0).toNat
def runV (g : Gm) (ot : List (List Int)) (pl : Int) (n : Nat) : Int := sumI ((List.range n).map fun own => bestV g ot pl own g.nd.length 0 (reach0 g pl own) (dpt g))
def runB (g : Gm) (ot : List (List Int)) (pl : Int) (n : Nat) : List (List Int) := (List.range n).foldl (fun B own => bestB g ot pl own g.nd.length 0 (reach0 g pl own) (dpt g) B) (List.replicate (sets g pl).length [])
theorem runV_succ (g : Gm) (ot : List (List Int)) (pl : Int) (n : Nat) : runV g ot pl (n + 1) = runV g ot pl n + bestV g ot pl n g.nd.length 0 (reach0 g pl n) (dpt g) := by
  rw [runV, List.range_succ, List.map_append, sumI_append]; simp [sumI, runV]
theorem runB_succ (g : Gm) (ot : List (List Int)) (pl : Int) (n : Nat) : runB g ot pl (n + 1) = bestB g ot pl n g.nd.length 0 (reach0 g pl n) (dpt g) (runB g ot pl n) := by
  rw [runB, List.range_succ, List.foldl_append]; rfl
theorem runB_rows {g : Gm} (hnd : ndsOK g.nd) (ot : List (List Int)) (pl : Int) (n : Nat) : rows4 (sets g pl).length (runB g ot pl n) := by
  refine foldl_inv (rows4 _) _ _ ⟨by simp, fun r hr => ?_⟩ fun B own _ hB => bestB_rows hnd _ _ _ _ B hB
  rw [(List.mem_replicate.1 hr).2]; simp
end Go.Ab

/- Games as data: how the parents of nodes are counted. -/
set_option linter.unusedSimpArgs false
set_option linter.unusedVariables false
namespace Go.Ab

def cntV (l : List Nd) (n i k : Nat) : List Int := (List.range n).map fun c => (occ c (l.take i) : Int) + (((l.getD i nd0).ch.take k).count (c : Int) : Nat)
theorem cntV_length (l : List Nd) (n i k : Nat) : (cntV l n i k).length = n := by simp [cntV]
theorem cntV_get (l : List Nd) {n i k c : Nat} (h : c < n) : (cntV l n i k)[c]? = some ((occ c (l.take i) : Int) + (((l.getD i nd0).ch.take k).count (c : Int) : Nat)) := by simp [cntV, h]
theorem cntV_zero (l : List Nd) (n : Nat) : cntV l n 0 0 = List.replicate n 0 := by
  refine List.ext_getElem? fun j => ?_
  rw [List.getElem?_replicate]
  by_cases hj : j < n
  · rw [cntV_get l hj, if_pos hj]; simp [occ]
  · rw [List.getElem?_eq_none (by rw [cntV_length]; omega), if_neg hj]
theorem cntV_set {l : List Nd} {n i k c : Nat} (hc : c < n) (hk : (l.getD i nd0).ch[k]? = some (c : Int)) : (cntV l n i k).set c ((occ c (l.take i) : Int) + (((l.getD i nd0).ch.take k).count (c : Int) : Nat) + 1) = cntV l n i (k + 1) := by
  refine List.ext_getElem? fun j => ?_
  rw [List.getElem?_set, cntV_length]
  have ht : (l.getD i nd0).ch.take (k + 1) = (l.getD i nd0).ch.take k ++ [(c : Int)] := by rw [List.take_add_one, hk]; rfl
  by_cases hj : c = j
  · subst hj
    rw [if_pos rfl, if_pos hc, cntV_get l hc, ht, List.count_append]
    simp; omega
  · rw [if_neg hj]
    by_cases hjn : j < n
    · rw [cntV_get l hjn, cntV_get l hjn, ht, List.count_append]
      have : List.count (j : Int) [(c : Int)] = 0 := by
        rw [List.count_eq_zero]; simp; omega
      rw [this, Nat.add_zero]
    · rw [List.getElem?_eq_none (by rw [cntV_length]; omega), List.getElem?_eq_none (by rw [cntV_length]; omega)]
theorem occ_snoc (c : Nat) (l : List Nd) (x : Nd) : occ c (l ++ [x]) = occ c l + if x.p = 2 then 0 else x.ch.count (c : Int) := by simp [occ]
theorem occ_nil_ch {l : List Nd} {i c : Nat} {x : Nd} (hx : l[i]? = some x) (h : x.p = 2 → x.ch = []) : occ c (l.take (i + 1)) = occ c (l.take i) + x.ch.count (c : Int) := by
  have ht : l.take (i + 1) = l.take i ++ [x] := by rw [List.take_add_one, hx]; rfl
  rw [ht, occ_snoc]
  split
  · rename_i h1; rw [h h1]; simp
  · rfl
theorem cntV_next {l : List Nd} {n i : Nat} {x : Nd} (hx : l[i]? = some x) (h : x.p = 2 → x.ch = []) : cntV l n i x.ch.length = cntV l n (i + 1) 0 := by
  have hd : l.getD i nd0 = x := by rw [List.getD_eq_getElem?_getD, hx]; rfl
  refine List.map_congr_left fun c _ => ?_
  rw [occ_nil_ch hx h, hd, List.take_length, List.take_zero]
  simp
theorem cntV_skip {l : List Nd} {n i : Nat} {x : Nd} (hx : l[i]? = some x) (h : x.ch = []) : cntV l n i 0 = cntV l n (i + 1) 0 := by
  have := cntV_next (n := n) hx (fun _ => h)
  rw [h] at this
  exact this
theorem cntV_all (l : List Nd) (n c : Nat) (h : c < n) : (cntV l n l.length 0)[c]? = some (occ c l : Int) := by
  rw [cntV_get l h, List.take_length]; simp
def rises (n : Int) (l : List Int) : Bool := (l.all fun c => decide (0 ≤ c ∧ c ≤ n - 1)) && incr l
theorem incr_head {a : Int} : ∀ {l : List Int}, incr (a :: l) = true → ∀ c ∈ l, a < c
  | [], _ => by simp
  | b :: l, h => by
    rw [incr, Bool.and_eq_true, decide_eq_true_eq] at h
    intro c hc
    rcases List.mem_cons.1 hc with rfl | hc
    · exact h.1
    · have := incr_head h.2 c hc; omega
theorem ndOK_spec (n i : Nat) (x : Nd) : ndOK n i x =
    (decide (0 ≤ x.p ∧ x.p ≤ 2) && decide (0 ≤ x.a ∧ x.a ≤ 100) && decide (0 ≤ x.b ∧ x.b ≤ 100) && decide (-1 ≤ x.f ∧ x.f ≤ 1) &&
    (if x.p = 2 then decide (x.ch.length = 0) && (decide (0 ≤ x.f) || decide (x.a = x.b))
     else decide (x.f = -1) && decide (1 ≤ x.ch.length ∧ x.ch.length ≤ 4) && rises n x.ch && decide ((i : Int) < x.ch.headD 0))) := by
  rw [ndOK, Bool.eq_iff_iff]
  simp only [Bool.and_eq_true, decide_eq_true_eq]
  by_cases h2 : x.p = 2
  · rw [if_pos h2, if_pos h2]
    simp only [Bool.and_eq_true, Bool.or_eq_true, decide_eq_true_eq, List.length_eq_zero_iff]
    constructor
    · rintro ⟨⟨⟨h1, h3⟩, h4⟩, ⟨h5, h6⟩, h7⟩
      exact ⟨⟨⟨⟨h1, h3⟩, h4⟩, h6⟩, h5, h7.imp (fun h => by omega) id⟩
    · rintro ⟨⟨⟨⟨h1, h3⟩, h4⟩, h6⟩, h5, h7⟩
      exact ⟨⟨⟨h1, h3⟩, h4⟩, ⟨h5, h6⟩, h7.imp (fun h => by omega) id⟩
  · rw [if_neg h2, if_neg h2]
    simp only [rises, Bool.and_eq_true, decide_eq_true_eq, List.all_eq_true]
    constructor
    · rintro ⟨⟨⟨h1, h3⟩, h4⟩, ⟨⟨h5, h6⟩, h7⟩, h8⟩
      refine ⟨⟨⟨⟨h1, h3⟩, h4⟩, by omega⟩, ⟨⟨h5, h6⟩, fun c hc => by have := h7 c hc; omega, h8⟩, ?_⟩
      cases hch : x.ch with
      | nil => rw [hch] at h6; simp at h6
      | cons c cs => have := h7 c (by rw [hch]; simp); simp only [List.headD_cons]; omega
    · rintro ⟨⟨⟨⟨h1, h3⟩, h4⟩, h6⟩, ⟨⟨h5, h6'⟩, h7, h8⟩, h9⟩
      refine ⟨⟨⟨h1, h3⟩, h4⟩, ⟨⟨h5, h6'⟩, fun c hc => ?_⟩, h8⟩
      have h10 := h7 c hc
      cases hch : x.ch with
      | nil => rw [hch] at hc; simp at hc
      | cons d cs =>
        rw [hch] at hc h8 h9
        simp only [List.headD_cons] at h9
        rcases List.mem_cons.1 hc with rfl | hc
        · omega
        · have := incr_head h8 c hc; omega
end Go.Ab

/- The bridge, part 4: games, strategies and claims as arguments. -/
set_option linter.unusedSimpArgs false
set_option linter.unusedVariables false
namespace Go.Ab

def tyI : Ty := .int .i64
def tyNode : Ty := .st (.cons tyI (.cons tyI (.cons tyI (.cons tyI (.cons (.sl 1 tyI) .nil)))))
def tyTree : Ty := .st (.cons (.sl 5 tyNode) .nil)
def tyGame : Ty := .st (.cons tyTree (.cons tyRows (.cons tyRows .nil)))
def tyStrat : Ty := .st (.cons tyI (.cons tyRows .nil))
def tyClaim : Ty := .st (.cons tyStrat (.cons tyStrat (.cons tyI (.cons tyI .nil))))

def rowsL (m : List (List Int)) : Prop := m.length ≤ 9223372036854775807 ∧ ∀ r ∈ m, r.length ≤ 9223372036854775807
def gameL (g : Gm) : Prop := g.nd.length ≤ 9223372036854775807 ∧ (∀ x ∈ g.nd, x.ch.length ≤ 9223372036854775807) ∧ rowsL g.w ∧ rowsL g.v
def gameT (g : Gm) : T := .agg [nodes g.nd, rows g.w, rows g.v]
def stratT (s : Int × List (List Int)) : T := .agg [.i s.1, rows s.2]
structure Cl where
  f : Int × List (List Int)
  s : Int × List (List Int)
  lo : Int
  hi : Int
deriving DecidableEq
def claimT (c : Cl) : T := .agg [.i c.f.1, rows c.f.2, .i c.s.1, rows c.s.2, .i c.lo, .i c.hi]

theorem wt_node {l : List T} (h : tyNode.wt l) : ∃ x : Nd, l = nodeC x ∧ x.ch.length ≤ 9223372036854775807 := by
  obtain ⟨l1, r1, rfl, ⟨p, rfl, _⟩, l2, r2, rfl, ⟨a, rfl, _⟩, l3, r3, rfl, ⟨b, rfl, _⟩, l4, r4, rfl, ⟨f, rfl, _⟩, l5, r5, rfl, h5, rfl⟩ := h
  obtain ⟨xs, rfl, hlen, hall⟩ := h5
  obtain ⟨ch, hch, hl, _⟩ := flat_ints hall
  exact ⟨⟨p, a, b, f, ch⟩, by rw [hch]; rfl, by simp only []; rw [hl]; exact hlen⟩
theorem flat_nodes : ∀ {xs : List (List T)}, (∀ x ∈ xs, x.length = 5 ∧ tyNode.wt x) → ∃ l : List Nd, xs.flatten = chunk nodeC l ∧ l.length = xs.length ∧ ∀ x ∈ l, x.ch.length ≤ 9223372036854775807
  | [], _ => ⟨[], rfl, rfl, by simp⟩
  | x :: xs, h => by
    obtain ⟨l, hl, hlen, hf⟩ := flat_nodes (xs := xs) fun y hy => h y (by simp [hy])
    obtain ⟨n, rfl, hn⟩ := wt_node (h x (by simp)).2
    refine ⟨n :: l, by rw [List.flatten_cons, hl, chunk_cons], by simp [hlen], fun y hy => ?_⟩
    rcases List.mem_cons.1 hy with rfl | hy
    · exact hn
    · exact hf y hy
theorem wt_rows1 {l : List T} (h : tyRows.wt l) : ∃ m : List (List Int), l = [rows m] ∧ rowsL m := by
  have : ∃ x, l = [x] := by obtain ⟨xs, rfl, _⟩ := h; exact ⟨_, rfl⟩
  obtain ⟨x, rfl⟩ := this
  obtain ⟨m, rfl, h1, h2⟩ := wt_rows h
  exact ⟨m, rfl, h1, fun r hr => (h2 r hr).1⟩
theorem wt_game {x : T} (h : tyGame.wtV x) : ∃ g : Gm, x = gameT g ∧ gameL g := by
  obtain ⟨l, rfl, l1, r1, rfl, ⟨l2, r2, rfl, h1, rfl⟩, l3, r3, rfl, h2, l4, r4, rfl, h3, rfl⟩ := h
  obtain ⟨xs, rfl, hlen, hall⟩ := h1
  obtain ⟨nd, hnd, hl, hch⟩ := flat_nodes hall
  obtain ⟨w, rfl, hw⟩ := wt_rows1 h2
  obtain ⟨v, rfl, hv⟩ := wt_rows1 h3
  exact ⟨⟨nd, w, v⟩, by rw [hnd]; rfl, by simp only [hl]; exact hlen, hch, hw, hv⟩
theorem wt_strat1 {l : List T} (h : tyStrat.wt l) : ∃ s : Int × List (List Int), l = [.i s.1, rows s.2] ∧ rowsL s.2 := by
  obtain ⟨l1, r1, rfl, ⟨p, rfl, _⟩, l2, r2, rfl, h2, rfl⟩ := h
  obtain ⟨m, rfl, hm⟩ := wt_rows1 h2
  exact ⟨(p, m), rfl, hm⟩
theorem wt_claim {x : T} (h : tyClaim.wtV x) : ∃ c : Cl, x = claimT c ∧ rowsL c.f.2 ∧ rowsL c.s.2 := by
  obtain ⟨l, rfl, l1, r1, rfl, h1, l2, r2, rfl, h2, l3, r3, rfl, ⟨lo, rfl, _⟩, l4, r4, rfl, ⟨hi, rfl, _⟩, rfl⟩ := h
  obtain ⟨f, rfl, hf⟩ := wt_strat1 h1
  obtain ⟨s, rfl, hs⟩ := wt_strat1 h2
  exact ⟨⟨f, s, lo, hi⟩, rfl, hf, hs⟩
end Go.Ab

/- The functions in compact form, printed by a program (CcDump.lean). -/
set_option linter.unusedVariables false
namespace Go.Ab
open Go.Proofs

@[go_sem] theorem cellAgg_40 : tyAgg Tryd.prog 40 = some true := by kernel_rfl
@[go_sem] theorem cellSize_40 : tySize Tryd.prog 40 = some 3 := by kernel_rfl
@[go_sem] theorem cellAgg_44 : tyAgg Tryd.prog 44 = some true := by kernel_rfl
@[go_sem] theorem cellSize_44 : tySize Tryd.prog 44 = some 6 := by kernel_rfl
@[go_sem] theorem cellAgg_38 : tyAgg Tryd.prog 38 = some true := by kernel_rfl
@[go_sem] theorem cellSize_38 : tySize Tryd.prog 38 = some 1 := by kernel_rfl
@[go_sem] theorem cellAgg_42 : tyAgg Tryd.prog 42 = some true := by kernel_rfl
@[go_sem] theorem cellSize_42 : tySize Tryd.prog 42 = some 2 := by kernel_rfl
@[go_sem] theorem cellAgg_101 : tyAgg Tryd.prog 101 = some true := by kernel_rfl
@[go_sem] theorem cellSize_101 : tySize Tryd.prog 101 = some 5 := by kernel_rfl
theorem tyOne : tySize Tryd.prog 0 = some 1 := by kernel_rfl

def c_laws_FnExactClaimText : CC :=
 (.seq (.reg [.o (.box 2 (sl 0)),
 .o (.box 3 (sl 1)),
 .o (.move 4 (cb false))])
 ((.seq (.reg [.o (.move 5 (ci 1048576))])
 ((.seq (.reg [.o (.loadN 12 3 (sl 2)),
 .o (.move 13 (sl 5)),
 .o (.call (some 14) (cf 4) [(sl 12), (sl 13)]),
 .o (.move 5 (sl 14))])
 ((.seq (.seq (.reg [.o (.move 15 (sl 5)),
 .o (.bin 16 .lss (sl 15) (ci 0))])
 ((.cond (sl 16) (.seq (.reg [.o (.move 4 (cb true))])
 (.ret))
 .skip)))
 ((.seq (.reg [.o (.loadN 17 6 (sl 3)),
 .o (.move 18 (sl 5)),
 .o (.call (some 19) (cf 5) [(sl 17), (sl 18)]),
 .o (.move 5 (sl 19))])
 ((.seq (.seq (.reg [.o (.move 20 (sl 5)),
 .o (.bin 21 .lss (sl 20) (ci 0))])
 ((.cond (sl 21) (.seq (.reg [.o (.move 4 (cb true))])
 (.ret))
 .skip)))
 ((.seq (.draw [24, 26] [(kR, .o (.loadN 23 3 (sl 2))),
 (.c false [], .o (.call (some 24) (cf 7) [(sl 23)])),
 (.r false [24], .o (.loadN 25 6 (sl 3))),
 (.c false [], .o (.call (some 26) (cf 8) [(sl 25)])),
 (kR, .o (.call (some 27) (cf 6) [(sl 24), (sl 26)])),
 (kR, .o (.move 22 (sl 27))),
 (kR, .o (.extract 28 (sl 22) 0)),
 (kR, .o (.extract 29 (sl 22) 1)),
 (kR, .o (.move 6 (sl 28))),
 (kR, .o (.move 7 (sl 29)))])
 ((.seq (.reg [.o (.loadN 30 3 (sl 2)),
 .o (.call (some 31) (cf 7) [(sl 30)]),
 .o (.alloc 8 [.v (.slice none 0 0), .v (.slice none 0 0), .v (.slice none 0 0)]),
 .o (.store 3 (sl 8) (sl 31))])
 ((.seq (.reg [.o (.loadN 32 6 (sl 3)),
 .o (.call (some 33) (cf 8) [(sl 32)]),
 .o (.alloc 9 [.v (.int .i64 0), .v (.slice none 0 0), .v (.int .i64 0), .v (.slice none 0 0), .v (.int .i64 0), .v (.int .i64 0)]),
 .o (.store 6 (sl 9) (sl 33))])
 ((.seq (.reg [.o (.loadN 35 3 (sl 8)),
 .o (.loadN 36 6 (sl 9)),
 .o (.call (some 37) (cf 9) [(sl 35), (sl 36)]),
 .o (.move 34 (sl 37)),
 .o (.extract 38 (sl 34) 0),
 .o (.extract 39 (sl 34) 1),
 .o (.move 10 (sl 38)),
 .o (.move 11 (sl 39))])
 ((.seq (.seq (.reg [.o (.move 40 (sl 10)),
 .o (.move 41 (sl 6)),
 .o (.bin 42 .neq (sl 40) (sl 41)),
 .o (.move 43 (sl 42)),
 .g 43 false (some 44) (.move 44 (sl 11)),
 .g 43 false (some 45) (.move 45 (sl 7)),
 .g 43 false (some 46) (.bin 46 .neq (sl 44) (sl 45)),
 .o (.pick 47 (sl 43) (cb true) (sl 46))])
 ((.cond (sl 47) (.seq (.reg [.o (.move 4 (cb false))])
 (.ret))
 .skip)))
 ((.seq (.seq (.draw [50] [(kR, .o (.loadN 48 3 (sl 8))),
 (kR, .o (.loadN 49 3 (sl 2))),
 (.c false [], .o (.call (some 50) (cf 7) [(sl 49)])),
 (kR, .o (.call (some 51) (cf 10) [(sl 48), (sl 50)])),
 (kR, .o (.un 52 .not (sl 51)))])
 ((.cond (sl 52) (.seq (.reg [.o (.move 4 (cb false))])
 (.ret))
 .skip)))
 ((.seq (.seq (.draw [55] [(kR, .o (.loadN 53 6 (sl 9))),
 (kR, .o (.loadN 54 6 (sl 3))),
 (.c false [], .o (.call (some 55) (cf 8) [(sl 54)])),
 (kR, .o (.call (some 56) (cf 11) [(sl 53), (sl 55)])),
 (kR, .o (.un 57 .not (sl 56)))])
 ((.cond (sl 57) (.seq (.reg [.o (.move 4 (cb false))])
 (.ret))
 .skip)))
 ((.seq (.reg [.o (.move 4 (cb true))])
 (.ret))))))))))))))))))))))))))))
theorem fun_laws_FnExactClaimText {rin : List T} {args : List A} {Q : List T → T → Prop} (ha : args.length ≤ 58) (h : cW Tryd.prog 58 c_laws_FnExactClaimText (retP Tryd.prog [.tmp 4] rin.length Q) (St.of (enum 0 args) (enum 1000000000 rin))) :
    Fun Tryd.prog 3 rin args Q :=
  Fun.of (H := ⟨[], []⟩) Tryd.func3 rfl rfl rfl (by kernel_rfl) ha (by decide) h

def c_laws_szGame : CC :=
 (.seq (.reg [.o (.box 2 (sl 0)),
 .o (.move 4 (ci 0))])
 ((.seq (.reg [.o (.fld 5 0 (sl 2)),
 .o (.loadN 6 1 (sl 5)),
 .o (.move 7 (sl 1)),
 .o (.call (some 8) (cf 12) [(sl 6), (sl 7)]),
 .o (.move 1 (sl 8))])
 ((.seq (.seq (.reg [.o (.move 9 (sl 1)),
 .o (.bin 10 .lss (sl 9) (ci 0))])
 ((.cond (sl 10) (.seq (.reg [.o (.move 4 (ci (-1)))])
 (.ret))
 .skip)))
 ((.seq (.reg [.o (.fld 11 1 (sl 2)),
 .o (.load1 12 (sl 11)),
 .o (.move 13 (sl 1)),
 .o (.call (some 14) (cf 13) [(sl 12), (sl 13)]),
 .o (.move 1 (sl 14))])
 ((.seq (.seq (.reg [.o (.move 15 (sl 1)),
 .o (.bin 16 .lss (sl 15) (ci 0))])
 ((.cond (sl 16) (.seq (.reg [.o (.move 4 (ci (-1)))])
 (.ret))
 .skip)))
 ((.seq (.reg [.o (.fld 17 2 (sl 2)),
 .o (.load1 18 (sl 17)),
 .o (.move 19 (sl 1)),
 .o (.call (some 20) (cf 13) [(sl 18), (sl 19)]),
 .o (.move 1 (sl 20))])
 ((.seq (.seq (.reg [.o (.move 21 (sl 1)),
 .o (.bin 22 .lss (sl 21) (ci 0))])
 ((.cond (sl 22) (.seq (.reg [.o (.move 4 (ci (-1)))])
 (.ret))
 .skip)))
 ((.seq (.reg [.o (.move 23 (sl 1)),
 .o (.move 4 (sl 23))])
 (.ret))))))))))))))))
theorem fun_laws_szGame {rin : List T} {args : List A} {Q : List T → T → Prop} (ha : args.length ≤ 24) (h : cW Tryd.prog 24 c_laws_szGame (retP Tryd.prog [.tmp 4] rin.length Q) (St.of (enum 0 args) (enum 1000000000 rin))) :
    Fun Tryd.prog 4 rin args Q :=
  Fun.of (H := ⟨[], []⟩) Tryd.func4 rfl rfl rfl (by kernel_rfl) ha (by decide) h

def c_laws_szClaim : CC :=
 (.seq (.reg [.o (.box 2 (sl 0)),
 .o (.move 4 (ci 0))])
 ((.seq (.reg [.o (.fld 5 0 (sl 2)),
 .o (.loadN 6 2 (sl 5)),
 .o (.move 7 (sl 1)),
 .o (.call (some 8) (cf 14) [(sl 6), (sl 7)]),
 .o (.move 1 (sl 8))])
 ((.seq (.seq (.reg [.o (.move 9 (sl 1)),
 .o (.bin 10 .lss (sl 9) (ci 0))])
 ((.cond (sl 10) (.seq (.reg [.o (.move 4 (ci (-1)))])
 (.ret))
 .skip)))
 ((.seq (.reg [.o (.fld 11 2 (sl 2)),
 .o (.loadN 12 2 (sl 11)),
 .o (.move 13 (sl 1)),
 .o (.call (some 14) (cf 14) [(sl 12), (sl 13)]),
 .o (.move 1 (sl 14))])
 ((.seq (.seq (.reg [.o (.move 15 (sl 1)),
 .o (.bin 16 .lss (sl 15) (ci 0))])
 ((.cond (sl 16) (.seq (.reg [.o (.move 4 (ci (-1)))])
 (.ret))
 .skip)))
 ((.seq (.reg [.o (.move 17 (sl 1)),
 .o (.move 4 (sl 17))])
 (.ret))))))))))))
theorem fun_laws_szClaim {rin : List T} {args : List A} {Q : List T → T → Prop} (ha : args.length ≤ 18) (h : cW Tryd.prog 18 c_laws_szClaim (retP Tryd.prog [.tmp 4] rin.length Q) (St.of (enum 0 args) (enum 1000000000 rin))) :
    Fun Tryd.prog 5 rin args Q :=
  Fun.of (H := ⟨[], []⟩) Tryd.func5 rfl rfl rfl (by kernel_rfl) ha (by decide) h

def c_spec_ClaimText : CC :=
 (.seq (.reg [.o (.box 2 (sl 0)),
 .o (.box 3 (sl 1)),
 .o (.move 4 (cv (.string ⟨#[]⟩))),
 .o (.move 5 (ci 0))])
 ((.seq (.reg [.o (.loadN 11 3 (sl 2)),
 .o (.loadN 12 6 (sl 3)),
 .o (.call (some 13) (cf 15) [(sl 11), (sl 12)]),
 .o (.move 6 (sl 13))])
 ((.seq (.seq (.reg [.o (.move 14 (sl 6)),
 .o (.bin 15 .neq (sl 14) (ci 0))])
 ((.cond (sl 15) (.seq (.reg [.o (.move 16 (sl 6)),
 .o (.move 4 (cv (.string ⟨#[]⟩))),
 .o (.move 5 (sl 16))])
 (.ret))
 .skip)))
 ((.seq (.reg [.o (.loadN 18 3 (sl 2)),
 .o (.fld 19 0 (sl 3)),
 .o (.loadN 20 2 (sl 19)),
 .o (.call (some 21) (cf 16) [(sl 18), (sl 20)]),
 .o (.move 17 (sl 21)),
 .o (.extract 22 (sl 17) 0),
 .o (.extract 23 (sl 17) 1),
 .o (.move 7 (sl 22)),
 .o (.move 8 (sl 23))])
 ((.seq (.reg [.o (.loadN 25 3 (sl 2)),
 .o (.fld 26 2 (sl 3)),
 .o (.loadN 27 2 (sl 26)),
 .o (.call (some 28) (cf 16) [(sl 25), (sl 27)]),
 .o (.move 24 (sl 28)),
 .o (.extract 29 (sl 24) 0),
 .o (.extract 30 (sl 24) 1),
 .o (.move 9 (sl 29)),
 .o (.move 10 (sl 30))])
 ((.seq (.draw [] [(kR, .o (.move 31 (sl 7))),
 (kR, .o (.move 32 (sl 9))),
 (kR, .o (.bin 33 .add (sl 31) (sl 32))),
 (kR, .o (.fld 34 4 (sl 3))),
 (kR, .o (.load1 35 (sl 34))),
 (kR, .o (.call (some 36) (cf 17) [(sl 35)])),
 (kR, .o (.bin 37 .add (sl 33) (sl 36))),
 (kR, .o (.bin 38 .add (sl 37) (cv (.string ⟨#[32]⟩)))),
 (kR, .o (.fld 39 5 (sl 3))),
 (kR, .o (.load1 40 (sl 39))),
 (kR, .o (.call (some 41) (cf 17) [(sl 40)])),
 (kR, .o (.bin 42 .add (sl 38) (sl 41))),
 (kR, .o (.bin 43 .add (sl 42) (cv (.string ⟨#[32]⟩)))),
 (kR, .o (.loadN 44 3 (sl 2))),
 (kR, .o (.call (some 45) (cf 19) [(sl 44)])),
 (kR, .o (.call (some 46) (cf 18) [(sl 45)])),
 (kR, .o (.bin 47 .add (sl 43) (sl 46))),
 (kR, .o (.bin 48 .add (sl 47) (cv (.string ⟨#[10]⟩)))),
 (kR, .o (.move 4 (sl 48))),
 (kR, .o (.move 5 (ci 0)))])
 (.ret))))))))))))
theorem fun_spec_ClaimText {rin : List T} {args : List A} {Q : List T → T → Prop} (ha : args.length ≤ 49) (h : cW Tryd.prog 49 c_spec_ClaimText (retP Tryd.prog [.tmp 4, .tmp 5] rin.length Q) (St.of (enum 0 args) (enum 1000000000 rin))) :
    Fun Tryd.prog 6 rin args Q :=
  Fun.of (H := ⟨[], []⟩) Tryd.func6 rfl rfl rfl (by kernel_rfl) ha (by decide) h

def c_laws_toGame : CC :=
 (.seq (.reg [.o (.box 1 (sl 0)),
 .o (.alloc 2 [.v (.slice none 0 0), .v (.slice none 0 0), .v (.slice none 0 0)])])
 ((.seq (.reg [.o (.alloc 3 [.v (.slice none 0 0), .v (.slice none 0 0), .v (.slice none 0 0)])])
 ((.seq (.reg [.o (.fld 4 0 (sl 1)),
 .o (.loadN 5 1 (sl 4)),
 .o (.call (some 6) (cf 20) [(sl 5)]),
 .o (.fld 7 0 (sl 3)),
 .o (.store 1 (sl 7) (sl 6))])
 ((.seq (.reg [.o (.fld 8 1 (sl 1)),
 .o (.load1 9 (sl 8)),
 .o (.call (some 10) (cf 21) [(sl 9)]),
 .o (.fld 11 1 (sl 3)),
 .o (.store 1 (sl 11) (sl 10))])
 ((.seq (.reg [.o (.fld 12 2 (sl 1)),
 .o (.load1 13 (sl 12)),
 .o (.call (some 14) (cf 21) [(sl 13)]),
 .o (.fld 15 2 (sl 3)),
 .o (.store 1 (sl 15) (sl 14))])
 ((.seq (.reg [.o (.loadN 16 3 (sl 3)),
 .o (.store 3 (sl 2) (sl 16))])
 (.ret))))))))))))
theorem fun_laws_toGame {rin : List T} {args : List A} {Q : List T → T → Prop} (ha : args.length ≤ 17) (h : cW Tryd.prog 17 c_laws_toGame (retP Tryd.prog [.cell 2 40] rin.length Q) (St.of (enum 0 args) (enum 1000000000 rin))) :
    Fun Tryd.prog 7 rin args Q :=
  Fun.of (H := ⟨[], []⟩) Tryd.func7 rfl rfl rfl (by kernel_rfl) ha (by decide) h

def c_laws_toClaim : CC :=
 (.seq (.reg [.o (.box 1 (sl 0)),
 .o (.alloc 2 [.v (.int .i64 0), .v (.slice none 0 0), .v (.int .i64 0), .v (.slice none 0 0), .v (.int .i64 0), .v (.int .i64 0)])])
 ((.seq (.reg [.o (.alloc 3 [.v (.int .i64 0), .v (.slice none 0 0), .v (.int .i64 0), .v (.slice none 0 0), .v (.int .i64 0), .v (.int .i64 0)])])
 ((.seq (.reg [.o (.fld 4 0 (sl 1)),
 .o (.loadN 5 2 (sl 4)),
 .o (.call (some 6) (cf 22) [(sl 5)]),
 .o (.fld 7 0 (sl 3)),
 .o (.store 2 (sl 7) (sl 6))])
 ((.seq (.reg [.o (.fld 8 2 (sl 1)),
 .o (.loadN 9 2 (sl 8)),
 .o (.call (some 10) (cf 22) [(sl 9)]),
 .o (.fld 11 2 (sl 3)),
 .o (.store 2 (sl 11) (sl 10))])
 ((.seq (.reg [.o (.fld 12 4 (sl 1)),
 .o (.load1 13 (sl 12)),
 .o (.fld 14 4 (sl 3)),
 .o (.store 1 (sl 14) (sl 13))])
 ((.seq (.reg [.o (.fld 15 5 (sl 1)),
 .o (.load1 16 (sl 15)),
 .o (.fld 17 5 (sl 3)),
 .o (.store 1 (sl 17) (sl 16))])
 ((.seq (.reg [.o (.loadN 18 6 (sl 3)),
 .o (.store 6 (sl 2) (sl 18))])
 (.ret))))))))))))))
theorem fun_laws_toClaim {rin : List T} {args : List A} {Q : List T → T → Prop} (ha : args.length ≤ 19) (h : cW Tryd.prog 19 c_laws_toClaim (retP Tryd.prog [.cell 2 44] rin.length Q) (St.of (enum 0 args) (enum 1000000000 rin))) :
    Fun Tryd.prog 8 rin args Q :=
  Fun.of (H := ⟨[], []⟩) Tryd.func8 rfl rfl rfl (by kernel_rfl) ha (by decide) h

def c_impl_ClaimText : CC :=
 (.seq (.reg [.o (.box 2 (sl 0)),
 .o (.box 3 (sl 1)),
 .o (.move 4 (cv (.string ⟨#[]⟩))),
 .o (.move 5 (ci 0))])
 ((.seq (.seq (.reg [.o (.loadN 10 3 (sl 2)),
 .o (.call (some 11) (cf 23) [(sl 10)]),
 .o (.un 12 .not (sl 11))])
 ((.cond (sl 12) (.seq (.reg [.o (.move 4 (cv (.string ⟨#[]⟩))),
 .o (.move 5 (ci 1))])
 (.ret))
 .skip)))
 ((.seq (.seq (.reg [.o (.loadN 13 3 (sl 2)),
 .o (.loadN 14 6 (sl 3)),
 .o (.call (some 15) (cf 24) [(sl 13), (sl 14)]),
 .o (.un 16 .not (sl 15))])
 ((.cond (sl 16) (.seq (.reg [.o (.move 4 (cv (.string ⟨#[]⟩))),
 .o (.move 5 (ci 5))])
 (.ret))
 .skip)))
 ((.seq (.reg [.o (.loadN 18 3 (sl 2)),
 .o (.fld 19 0 (sl 3)),
 .o (.loadN 20 2 (sl 19)),
 .o (.call (some 21) (cf 25) [(sl 18), (sl 20)]),
 .o (.move 17 (sl 21)),
 .o (.extract 22 (sl 17) 0),
 .o (.extract 23 (sl 17) 1),
 .o (.move 6 (sl 22)),
 .o (.move 7 (sl 23))])
 ((.seq (.reg [.o (.loadN 25 3 (sl 2)),
 .o (.fld 26 2 (sl 3)),
 .o (.loadN 27 2 (sl 26)),
 .o (.call (some 28) (cf 25) [(sl 25), (sl 27)]),
 .o (.move 24 (sl 28)),
 .o (.extract 29 (sl 24) 0),
 .o (.extract 30 (sl 24) 1),
 .o (.move 8 (sl 29)),
 .o (.move 9 (sl 30))])
 ((.seq (.draw [40] [(kR, .o (.move 31 (sl 6))),
 (kR, .o (.move 32 (sl 8))),
 (kR, .o (.bin 33 .add (sl 31) (sl 32))),
 (kR, .o (.fld 34 4 (sl 3))),
 (kR, .o (.load1 35 (sl 34))),
 (kR, .o (.fld 36 5 (sl 3))),
 (kR, .o (.load1 37 (sl 36))),
 (kR, .o (.loadN 38 3 (sl 2))),
 (kR, .o (.call (some 39) (cf 27) [(sl 38)])),
 (kN, .o (.bslice 40 1 3 [(0, (sl 35)), (1, (sl 37)), (2, (sl 39))])),
 (kR, .o (.call (some 41) (cf 26) [(sl 40), (cv (.string ⟨#[32]⟩))])),
 (kR, .o (.bin 42 .add (sl 33) (sl 41))),
 (kR, .o (.bin 43 .add (sl 42) (cv (.string ⟨#[10]⟩)))),
 (kR, .o (.move 4 (sl 43))),
 (kR, .o (.move 5 (ci 0)))])
 (.ret))))))))))))
theorem fun_impl_ClaimText {rin : List T} {args : List A} {Q : List T → T → Prop} (ha : args.length ≤ 44) (h : cW Tryd.prog 44 c_impl_ClaimText (retP Tryd.prog [.tmp 4, .tmp 5] rin.length Q) (St.of (enum 0 args) (enum 1000000000 rin))) :
    Fun Tryd.prog 9 rin args Q :=
  Fun.of (H := ⟨[], []⟩) Tryd.func9 rfl rfl rfl (by kernel_rfl) ha (by decide) h

def c_laws_eqGame : CC :=
 (.seq (.reg [.o (.box 2 (sl 0)),
 .o (.box 3 (sl 1)),
 .o (.move 4 (cb false))])
 ((.seq (.seq (.reg [.o (.fld 5 0 (sl 2)),
 .o (.loadN 6 1 (sl 5)),
 .o (.fld 7 0 (sl 3)),
 .o (.loadN 8 1 (sl 7)),
 .o (.call (some 9) (cf 28) [(sl 6), (sl 8)]),
 .o (.un 10 .not (sl 9))])
 ((.cond (sl 10) (.seq (.reg [.o (.move 4 (cb false))])
 (.ret))
 .skip)))
 ((.seq (.seq (.reg [.o (.fld 11 1 (sl 2)),
 .o (.load1 12 (sl 11)),
 .o (.fld 13 1 (sl 3)),
 .o (.load1 14 (sl 13)),
 .o (.call (some 15) (cf 29) [(sl 12), (sl 14)]),
 .o (.un 16 .not (sl 15))])
 ((.cond (sl 16) (.seq (.reg [.o (.move 4 (cb false))])
 (.ret))
 .skip)))
 ((.seq (.seq (.reg [.o (.fld 17 2 (sl 2)),
 .o (.load1 18 (sl 17)),
 .o (.fld 19 2 (sl 3)),
 .o (.load1 20 (sl 19)),
 .o (.call (some 21) (cf 29) [(sl 18), (sl 20)]),
 .o (.un 22 .not (sl 21))])
 ((.cond (sl 22) (.seq (.reg [.o (.move 4 (cb false))])
 (.ret))
 .skip)))
 ((.seq (.reg [.o (.move 4 (cb true))])
 (.ret))))))))))
theorem fun_laws_eqGame {rin : List T} {args : List A} {Q : List T → T → Prop} (ha : args.length ≤ 23) (h : cW Tryd.prog 23 c_laws_eqGame (retP Tryd.prog [.tmp 4] rin.length Q) (St.of (enum 0 args) (enum 1000000000 rin))) :
    Fun Tryd.prog 10 rin args Q :=
  Fun.of (H := ⟨[], []⟩) Tryd.func10 rfl rfl rfl (by kernel_rfl) ha (by decide) h

def c_laws_eqClaim : CC :=
 (.seq (.reg [.o (.box 2 (sl 0)),
 .o (.box 3 (sl 1)),
 .o (.move 4 (cb false))])
 ((.seq (.seq (.reg [.o (.fld 5 0 (sl 2)),
 .o (.loadN 6 2 (sl 5)),
 .o (.fld 7 0 (sl 3)),
 .o (.loadN 8 2 (sl 7)),
 .o (.call (some 9) (cf 30) [(sl 6), (sl 8)]),
 .o (.un 10 .not (sl 9))])
 ((.cond (sl 10) (.seq (.reg [.o (.move 4 (cb false))])
 (.ret))
 .skip)))
 ((.seq (.seq (.reg [.o (.fld 11 2 (sl 2)),
 .o (.loadN 12 2 (sl 11)),
 .o (.fld 13 2 (sl 3)),
 .o (.loadN 14 2 (sl 13)),
 .o (.call (some 15) (cf 30) [(sl 12), (sl 14)]),
 .o (.un 16 .not (sl 15))])
 ((.cond (sl 16) (.seq (.reg [.o (.move 4 (cb false))])
 (.ret))
 .skip)))
 ((.seq (.seq (.reg [.o (.fld 17 4 (sl 2)),
 .o (.load1 18 (sl 17)),
 .o (.fld 19 4 (sl 3)),
 .o (.load1 20 (sl 19)),
 .o (.bin 21 .neq (sl 18) (sl 20))])
 ((.cond (sl 21) (.seq (.reg [.o (.move 4 (cb false))])
 (.ret))
 .skip)))
 ((.seq (.seq (.reg [.o (.fld 22 5 (sl 2)),
 .o (.load1 23 (sl 22)),
 .o (.fld 24 5 (sl 3)),
 .o (.load1 25 (sl 24)),
 .o (.bin 26 .neq (sl 23) (sl 25))])
 ((.cond (sl 26) (.seq (.reg [.o (.move 4 (cb false))])
 (.ret))
 .skip)))
 ((.seq (.reg [.o (.move 4 (cb true))])
 (.ret))))))))))))
theorem fun_laws_eqClaim {rin : List T} {args : List A} {Q : List T → T → Prop} (ha : args.length ≤ 27) (h : cW Tryd.prog 27 c_laws_eqClaim (retP Tryd.prog [.tmp 4] rin.length Q) (St.of (enum 0 args) (enum 1000000000 rin))) :
    Fun Tryd.prog 11 rin args Q :=
  Fun.of (H := ⟨[], []⟩) Tryd.func11 rfl rfl rfl (by kernel_rfl) ha (by decide) h

def c_laws_szTree : CC :=
 (.seq (.reg [.o (.box 2 (sl 0)),
 .o (.move 4 (ci 0))])
 ((.seq (.reg [.o (.fld 5 0 (sl 2)),
 .o (.load1 6 (sl 5)),
 .o (.move 7 (sl 1)),
 .o (.call (some 8) (cf 31) [(sl 6), (sl 7)]),
 .o (.move 1 (sl 8))])
 ((.seq (.seq (.reg [.o (.move 9 (sl 1)),
 .o (.bin 10 .lss (sl 9) (ci 0))])
 ((.cond (sl 10) (.seq (.reg [.o (.move 4 (ci (-1)))])
 (.ret))
 .skip)))
 ((.seq (.reg [.o (.move 11 (sl 1)),
 .o (.move 4 (sl 11))])
 (.ret))))))))
theorem fun_laws_szTree {rin : List T} {args : List A} {Q : List T → T → Prop} (ha : args.length ≤ 12) (h : cW Tryd.prog 12 c_laws_szTree (retP Tryd.prog [.tmp 4] rin.length Q) (St.of (enum 0 args) (enum 1000000000 rin))) :
    Fun Tryd.prog 12 rin args Q :=
  Fun.of (H := ⟨[], []⟩) Tryd.func12 rfl rfl rfl (by kernel_rfl) ha (by decide) h

def c_laws_szInt64SS : CC :=
 (.seq (.reg [.o (.move 4 (ci 0))])
 ((.seq (.reg [.o (.move 6 (sl 1)),
 .o (.move 7 (sl 0)),
 .o (.lenS 8 (sl 7)),
 .o (.bin 9 .sub (sl 6) (sl 8)),
 .o (.move 1 (sl 9))])
 ((.seq (.seq (.reg [.o (.move 10 (sl 1)),
 .o (.bin 11 .lss (sl 10) (ci 0))])
 ((.cond (sl 11) (.seq (.reg [.o (.move 4 (ci (-1)))])
 (.ret))
 .skip)))
 ((.seq (.seq (.reg [.o (.move 5 (ci 0))])
 ((.block 0 (.loop (.seq (.seq (.reg [.o (.move 12 (sl 5)),
 .o (.move 13 (sl 0)),
 .o (.lenS 14 (sl 13)),
 .o (.bin 15 .lss (sl 12) (sl 14))])
 ((.cond (sl 15) .skip
 (.exit 0))))
 ((.seq (.block 1 (.seq (.reg [.o (.move 18 (sl 0)),
 .o (.move 19 (sl 5)),
 .o (.idx 20 1 (sl 18) (sl 19)),
 .o (.load1 21 (sl 20)),
 .o (.move 22 (sl 1)),
 .o (.call (some 23) (cf 32) [(sl 21), (sl 22)]),
 .o (.move 1 (sl 23))])
 ((.seq (.reg [.o (.move 24 (sl 1)),
 .o (.bin 25 .lss (sl 24) (ci 0))])
 ((.cond (sl 25) (.seq (.reg [.o (.move 4 (ci (-1)))])
 (.ret))
 .skip))))))
 ((.reg [.o (.move 16 (sl 5)),
 .o (.bin 17 .add (sl 16) (ci 1)),
 .o (.move 5 (sl 17))])))))))))
 ((.seq (.reg [.o (.move 26 (sl 1)),
 .o (.move 4 (sl 26))])
 (.ret))))))))))
theorem fun_laws_szInt64SS {rin : List T} {args : List A} {Q : List T → T → Prop} (ha : args.length ≤ 27) (h : cW Tryd.prog 27 c_laws_szInt64SS (retP Tryd.prog [.tmp 4] rin.length Q) (St.of (enum 0 args) (enum 1000000000 rin))) :
    Fun Tryd.prog 13 rin args Q :=
  Fun.of (H := ⟨[], []⟩) Tryd.func13 rfl rfl rfl (by kernel_rfl) ha (by decide) h

def c_laws_szStrategy : CC :=
 (.seq (.reg [.o (.box 2 (sl 0)),
 .o (.move 4 (ci 0))])
 ((.seq (.reg [.o (.fld 5 1 (sl 2)),
 .o (.load1 6 (sl 5)),
 .o (.move 7 (sl 1)),
 .o (.call (some 8) (cf 13) [(sl 6), (sl 7)]),
 .o (.move 1 (sl 8))])
 ((.seq (.seq (.reg [.o (.move 9 (sl 1)),
 .o (.bin 10 .lss (sl 9) (ci 0))])
 ((.cond (sl 10) (.seq (.reg [.o (.move 4 (ci (-1)))])
 (.ret))
 .skip)))
 ((.seq (.reg [.o (.move 11 (sl 1)),
 .o (.move 4 (sl 11))])
 (.ret))))))))
theorem fun_laws_szStrategy {rin : List T} {args : List A} {Q : List T → T → Prop} (ha : args.length ≤ 12) (h : cW Tryd.prog 12 c_laws_szStrategy (retP Tryd.prog [.tmp 4] rin.length Q) (St.of (enum 0 args) (enum 1000000000 rin))) :
    Fun Tryd.prog 14 rin args Q :=
  Fun.of (H := ⟨[], []⟩) Tryd.func14 rfl rfl rfl (by kernel_rfl) ha (by decide) h

def c_spec_l28Code : CC :=
 (.seq (.reg [.o (.box 2 (sl 0)),
 .o (.box 3 (sl 1)),
 .o (.move 4 (ci 0))])
 ((.seq (.seq (.reg [.o (.loadN 5 3 (sl 2)),
 .o (.call (some 6) (cf 33) [(sl 5)]),
 .o (.un 7 .not (sl 6))])
 ((.cond (sl 7) (.seq (.reg [.o (.move 4 (ci 1))])
 (.ret))
 .skip)))
 ((.seq (.seq (.reg [.o (.loadN 8 3 (sl 2)),
 .o (.loadN 9 6 (sl 3)),
 .o (.call (some 10) (cf 34) [(sl 8), (sl 9)]),
 .o (.un 11 .not (sl 10))])
 ((.cond (sl 11) (.seq (.reg [.o (.move 4 (ci 5))])
 (.ret))
 .skip)))
 ((.seq (.reg [.o (.move 4 (ci 0))])
 (.ret))))))))
theorem fun_spec_l28Code {rin : List T} {args : List A} {Q : List T → T → Prop} (ha : args.length ≤ 12) (h : cW Tryd.prog 12 c_spec_l28Code (retP Tryd.prog [.tmp 4] rin.length Q) (St.of (enum 0 args) (enum 1000000000 rin))) :
    Fun Tryd.prog 15 rin args Q :=
  Fun.of (H := ⟨[], []⟩) Tryd.func15 rfl rfl rfl (by kernel_rfl) ha (by decide) h

def c_spec_StrategyText : CC :=
 (.seq (.reg [.o (.box 2 (sl 0)),
 .o (.box 3 (sl 1)),
 .o (.move 4 (cv (.string ⟨#[]⟩))),
 .o (.move 5 (ci 0))])
 ((.seq (.seq (.reg [.o (.loadN 9 3 (sl 2)),
 .o (.loadN 10 2 (sl 3)),
 .o (.call (some 11) (cf 35) [(sl 9), (sl 10)]),
 .o (.un 12 .not (sl 11))])
 ((.cond (sl 12) (.seq (.reg [.o (.move 4 (cv (.string ⟨#[]⟩))),
 .o (.move 5 (ci 1))])
 (.ret))
 .skip)))
 ((.seq (.reg [.o (.loadN 13 3 (sl 2)),
 .o (.fld 14 0 (sl 3)),
 .o (.load1 15 (sl 14)),
 .o (.call (some 16) (cf 36) [(sl 13), (sl 15)]),
 .o (.move 6 (sl 16))])
 ((.seq (.reg [.o (.move 7 (cv (.string ⟨#[]⟩)))])
 ((.seq (.seq (.reg [.o (.move 8 (ci 0))])
 ((.block 0 (.loop (.seq (.seq (.reg [.o (.move 17 (sl 8)),
 .o (.move 18 (sl 6)),
 .o (.lenS 19 (sl 18)),
 .o (.bin 20 .lss (sl 17) (sl 19))])
 ((.cond (sl 20) .skip
 (.exit 0))))
 ((.seq (.block 1 (.draw [] [(kR, .o (.move 23 (sl 7))),
 (kR, .o (.move 24 (sl 6))),
 (kR, .o (.move 25 (sl 8))),
 (kR, .o (.idx 26 1 (sl 24) (sl 25))),
 (kR, .o (.load1 27 (sl 26))),
 (kR, .o (.idx 28 1 (sl 27) (ci 0))),
 (kR, .o (.load1 29 (sl 28))),
 (kR, .o (.call (some 30) (cf 18) [(sl 29)])),
 (kR, .o (.bin 31 .add (sl 23) (sl 30))),
 (kR, .o (.bin 32 .add (sl 31) (cv (.string ⟨#[47]⟩)))),
 (kR, .o (.move 33 (sl 6))),
 (kR, .o (.move 34 (sl 8))),
 (kR, .o (.idx 35 1 (sl 33) (sl 34))),
 (kR, .o (.load1 36 (sl 35))),
 (kR, .o (.idx 37 1 (sl 36) (ci 1))),
 (kR, .o (.load1 38 (sl 37))),
 (kR, .o (.call (some 39) (cf 18) [(sl 38)])),
 (kR, .o (.bin 40 .add (sl 32) (sl 39))),
 (kR, .o (.bin 41 .add (sl 40) (cv (.string ⟨#[58]⟩)))),
 (kR, .o (.fld 42 1 (sl 3))),
 (kR, .o (.load1 43 (sl 42))),
 (kR, .o (.move 44 (sl 8))),
 (kR, .o (.idx 45 1 (sl 43) (sl 44))),
 (kR, .o (.load1 46 (sl 45))),
 (kR, .o (.call (some 47) (cf 37) [(sl 46)])),
 (kR, .o (.bin 48 .add (sl 41) (sl 47))),
 (kR, .o (.bin 49 .add (sl 48) (cv (.string ⟨#[10]⟩)))),
 (kR, .o (.move 7 (sl 49)))]))
 ((.reg [.o (.move 21 (sl 8)),
 .o (.bin 22 .add (sl 21) (ci 1)),
 .o (.move 8 (sl 22))])))))))))
 ((.seq (.reg [.o (.move 50 (sl 7)),
 .o (.move 4 (sl 50)),
 .o (.move 5 (ci 0))])
 (.ret))))))))))))
theorem fun_spec_StrategyText {rin : List T} {args : List A} {Q : List T → T → Prop} (ha : args.length ≤ 51) (h : cW Tryd.prog 51 c_spec_StrategyText (retP Tryd.prog [.tmp 4, .tmp 5] rin.length Q) (St.of (enum 0 args) (enum 1000000000 rin))) :
    Fun Tryd.prog 16 rin args Q :=
  Fun.of (H := ⟨[], []⟩) Tryd.func16 rfl rfl rfl (by kernel_rfl) ha (by decide) h

def c_spec_l01Number : CC :=
 (.seq (.reg [.o (.move 2 (cv (.string ⟨#[]⟩)))])
 ((.seq (.seq (.reg [.o (.move 3 (sl 0)),
 .o (.bin 4 .lss (sl 3) (ci 0))])
 ((.cond (sl 4) (.seq (.reg [.o (.move 5 (sl 0)),
 .o (.un 6 .neg (sl 5)),
 .o (.call (some 7) (cf 18) [(sl 6)]),
 .o (.bin 8 .add (cv (.string ⟨#[45]⟩)) (sl 7)),
 .o (.move 2 (sl 8))])
 (.ret))
 .skip)))
 ((.seq (.reg [.o (.move 9 (sl 0)),
 .o (.call (some 10) (cf 18) [(sl 9)]),
 .o (.move 2 (sl 10))])
 (.ret))))))
theorem fun_spec_l01Number {rin : List T} {args : List A} {Q : List T → T → Prop} (ha : args.length ≤ 11) (h : cW Tryd.prog 11 c_spec_l01Number (retP Tryd.prog [.tmp 2] rin.length Q) (St.of (enum 0 args) (enum 1000000000 rin))) :
    Fun Tryd.prog 17 rin args Q :=
  Fun.of (H := ⟨[], []⟩) Tryd.func17 rfl rfl rfl (by kernel_rfl) ha (by decide) h

def c_spec_l01Dec : CC :=
 (.seq (.reg [.o (.move 2 (cv (.string ⟨#[]⟩)))])
 ((.seq (.seq (.reg [.o (.move 3 (sl 0)),
 .o (.bin 4 .lss (sl 3) (ci 10))])
 ((.cond (sl 4) (.seq (.reg [.o (.move 5 (sl 0)),
 .o (.bin 6 .add (ci 48) (sl 5)),
 .o (.conv 7 .u8 (sl 6)),
 .o (.bslice 8 1 1 [(0, (sl 7))]),
 .o (.strB 9 (sl 8)),
 .o (.move 2 (sl 9))])
 (.ret))
 .skip)))
 ((.seq (.draw [17] [(kR, .o (.move 10 (sl 0))),
 (kR, .o (.bin 11 .quo (sl 10) (ci 10))),
 (kR, .o (.call (some 12) (cf 18) [(sl 11)])),
 (kR, .o (.move 13 (sl 0))),
 (kR, .o (.bin 14 .rem (sl 13) (ci 10))),
 (kR, .o (.bin 15 .add (ci 48) (sl 14))),
 (kR, .o (.conv 16 .u8 (sl 15))),
 (kN, .o (.bslice 17 1 1 [(0, (sl 16))])),
 (kR, .o (.strB 18 (sl 17))),
 (kR, .o (.bin 19 .add (sl 12) (sl 18))),
 (kR, .o (.move 2 (sl 19)))])
 (.ret))))))
theorem fun_spec_l01Dec {rin : List T} {args : List A} {Q : List T → T → Prop} (ha : args.length ≤ 20) (h : cW Tryd.prog 20 c_spec_l01Dec (retP Tryd.prog [.tmp 2] rin.length Q) (St.of (enum 0 args) (enum 1000000000 rin))) :
    Fun Tryd.prog 18 rin args Q :=
  Fun.of (H := ⟨[], []⟩) Tryd.func18 rfl rfl rfl (by kernel_rfl) ha (by decide) h

def c_spec_l23Unit : CC :=
 (.seq (.reg [.o (.box 1 (sl 0)),
 .o (.move 2 (ci 0))])
 ((.seq (.draw [] [(kR, .o (.loadN 3 3 (sl 1))),
 (kR, .o (.call (some 4) (cf 38) [(sl 3)])),
 (kR, .o (.fld 5 0 (sl 1))),
 (kR, .o (.loadN 6 1 (sl 5))),
 (kR, .o (.call (some 7) (cf 40) [(sl 6), (ci 0)])),
 (kR, .o (.call (some 8) (cf 39) [(sl 7)])),
 (kR, .o (.bin 9 .mul (sl 4) (sl 8))),
 (kR, .o (.move 2 (sl 9)))])
 (.ret))))
theorem fun_spec_l23Unit {rin : List T} {args : List A} {Q : List T → T → Prop} (ha : args.length ≤ 10) (h : cW Tryd.prog 10 c_spec_l23Unit (retP Tryd.prog [.tmp 2] rin.length Q) (St.of (enum 0 args) (enum 1000000000 rin))) :
    Fun Tryd.prog 19 rin args Q :=
  Fun.of (H := ⟨[], []⟩) Tryd.func19 rfl rfl rfl (by kernel_rfl) ha (by decide) h

def c_laws_toTree : CC :=
 (.seq (.reg [.o (.box 1 (sl 0)),
 .o (.alloc 2 [.v (.slice none 0 0)])])
 ((.seq (.reg [.o (.alloc 3 [.v (.slice none 0 0)])])
 ((.seq (.reg [.o (.fld 4 0 (sl 1)),
 .o (.load1 5 (sl 4)),
 .o (.call (some 6) (cf 41) [(sl 5)]),
 .o (.fld 7 0 (sl 3)),
 .o (.store 1 (sl 7) (sl 6))])
 ((.seq (.reg [.o (.loadN 8 1 (sl 3)),
 .o (.store 1 (sl 2) (sl 8))])
 (.ret))))))))
theorem fun_laws_toTree {rin : List T} {args : List A} {Q : List T → T → Prop} (ha : args.length ≤ 9) (h : cW Tryd.prog 9 c_laws_toTree (retP Tryd.prog [.cell 2 38] rin.length Q) (St.of (enum 0 args) (enum 1000000000 rin))) :
    Fun Tryd.prog 20 rin args Q :=
  Fun.of (H := ⟨[], []⟩) Tryd.func20 rfl rfl rfl (by kernel_rfl) ha (by decide) h

def c_laws_toInt64SS : CC :=
 (.seq (.reg [.o (.move 2 (cv (.slice none 0 0)))])
 ((.seq (.reg [.o (.move 5 (sl 0)),
 .o (.lenS 6 (sl 5)),
 .o (.make 7 [.v (.slice none 0 0)] 24 (sl 6) (sl 6)),
 .o (.move 3 (sl 7))])
 ((.seq (.seq (.reg [.o (.move 4 (ci 0))])
 ((.block 0 (.loop (.seq (.seq (.reg [.o (.move 8 (sl 4)),
 .o (.move 9 (sl 0)),
 .o (.lenS 10 (sl 9)),
 .o (.bin 11 .lss (sl 8) (sl 10))])
 ((.cond (sl 11) .skip
 (.exit 0))))
 ((.seq (.block 1 (.reg [.o (.move 14 (sl 3)),
 .o (.move 15 (sl 4)),
 .o (.move 16 (sl 0)),
 .o (.move 17 (sl 4)),
 .o (.idx 18 1 (sl 16) (sl 17)),
 .o (.load1 19 (sl 18)),
 .o (.call (some 20) (cf 42) [(sl 19)]),
 .o (.idx 21 1 (sl 14) (sl 15)),
 .o (.store 1 (sl 21) (sl 20))]))
 ((.reg [.o (.move 12 (sl 4)),
 .o (.bin 13 .add (sl 12) (ci 1)),
 .o (.move 4 (sl 13))])))))))))
 ((.seq (.reg [.o (.move 22 (sl 3)),
 .o (.move 2 (sl 22))])
 (.ret))))))))
theorem fun_laws_toInt64SS {rin : List T} {args : List A} {Q : List T → T → Prop} (ha : args.length ≤ 23) (h : cW Tryd.prog 23 c_laws_toInt64SS (retP Tryd.prog [.tmp 2] rin.length Q) (St.of (enum 0 args) (enum 1000000000 rin))) :
    Fun Tryd.prog 21 rin args Q :=
  Fun.of (H := ⟨[], []⟩) Tryd.func21 rfl rfl rfl (by kernel_rfl) ha (by decide) h

def c_laws_toStrategy : CC :=
 (.seq (.reg [.o (.box 1 (sl 0)),
 .o (.alloc 2 [.v (.int .i64 0), .v (.slice none 0 0)])])
 ((.seq (.reg [.o (.alloc 3 [.v (.int .i64 0), .v (.slice none 0 0)])])
 ((.seq (.reg [.o (.fld 4 0 (sl 1)),
 .o (.load1 5 (sl 4)),
 .o (.fld 6 0 (sl 3)),
 .o (.store 1 (sl 6) (sl 5))])
 ((.seq (.reg [.o (.fld 7 1 (sl 1)),
 .o (.load1 8 (sl 7)),
 .o (.call (some 9) (cf 21) [(sl 8)]),
 .o (.fld 10 1 (sl 3)),
 .o (.store 1 (sl 10) (sl 9))])
 ((.seq (.reg [.o (.loadN 11 2 (sl 3)),
 .o (.store 2 (sl 2) (sl 11))])
 (.ret))))))))))
theorem fun_laws_toStrategy {rin : List T} {args : List A} {Q : List T → T → Prop} (ha : args.length ≤ 12) (h : cW Tryd.prog 12 c_laws_toStrategy (retP Tryd.prog [.cell 2 42] rin.length Q) (St.of (enum 0 args) (enum 1000000000 rin))) :
    Fun Tryd.prog 22 rin args Q :=
  Fun.of (H := ⟨[], []⟩) Tryd.func22 rfl rfl rfl (by kernel_rfl) ha (by decide) h

def c_impl_IsGame : CC :=
 (.seq (.reg [.o (.box 1 (sl 0)),
 .o (.move 2 (cb false))])
 ((.seq (.reg [.o (.fld 5 1 (sl 1)),
 .o (.load1 6 (sl 5)),
 .o (.lenS 7 (sl 6)),
 .o (.move 3 (sl 7))])
 ((.seq (.seq (.reg [.o (.fld 8 0 (sl 1)),
 .o (.loadN 9 1 (sl 8)),
 .o (.call (some 10) (cf 43) [(sl 9)]),
 .o (.un 11 .not (sl 10)),
 .o (.move 12 (sl 11)),
 .g 12 false (some 13) (.move 13 (sl 3)),
 .g 12 false (some 14) (.call (some 14) (cf 44) [(sl 13), (ci 1), (ci 6)]),
 .g 12 false (some 15) (.un 15 .not (sl 14)),
 .o (.pick 16 (sl 12) (cb true) (sl 15)),
 .o (.move 17 (sl 16)),
 .g 17 false (some 18) (.fld 18 2 (sl 1)),
 .g 17 false (some 19) (.load1 19 (sl 18)),
 .g 17 false (some 20) (.lenS 20 (sl 19)),
 .g 17 false (some 21) (.move 21 (sl 3)),
 .g 17 false (some 22) (.bin 22 .neq (sl 20) (sl 21)),
 .o (.pick 23 (sl 17) (cb true) (sl 22))])
 ((.cond (sl 23) (.seq (.reg [.o (.move 2 (cb false))])
 (.ret))
 .skip)))
 ((.seq (.seq (.reg [.o (.move 24 (sl 3)),
 .o (.move 25 (ci 0))])
 ((.block 0 (.loop (.seq (.reg [.o (.bin 26 .lss (sl 25) (sl 24))])
 ((.seq (.cond (sl 26) .skip
 (.exit 0))
 ((.seq (.block 1 (.seq (.reg [.o (.move 27 (sl 25)),
 .o (.move 4 (sl 27))])
 ((.seq (.reg [.o (.fld 28 1 (sl 1)),
 .o (.load1 29 (sl 28)),
 .o (.move 30 (sl 4)),
 .o (.idx 31 1 (sl 29) (sl 30)),
 .o (.load1 32 (sl 31)),
 .o (.lenS 33 (sl 32)),
 .o (.move 34 (sl 3)),
 .o (.bin 35 .neq (sl 33) (sl 34)),
 .o (.move 36 (sl 35)),
 .g 36 false (some 37) (.fld 37 2 (sl 1)),
 .g 36 false (some 38) (.load1 38 (sl 37)),
 .g 36 false (some 39) (.move 39 (sl 4)),
 .g 36 false (some 40) (.idx 40 1 (sl 38) (sl 39)),
 .g 36 false (some 41) (.load1 41 (sl 40)),
 .g 36 false (some 42) (.lenS 42 (sl 41)),
 .g 36 false (some 43) (.move 43 (sl 3)),
 .g 36 false (some 44) (.bin 44 .neq (sl 42) (sl 43)),
 .o (.pick 45 (sl 36) (cb true) (sl 44)),
 .o (.move 46 (sl 45)),
 .g 46 false (some 47) (.fld 47 1 (sl 1)),
 .g 46 false (some 48) (.load1 48 (sl 47)),
 .g 46 false (some 49) (.move 49 (sl 4)),
 .g 46 false (some 50) (.idx 50 1 (sl 48) (sl 49)),
 .g 46 false (some 51) (.load1 51 (sl 50)),
 .g 46 false (some 52) (.call (some 52) (cf 45) [(sl 51), (ci 0), (ci 9)]),
 .g 46 false (some 53) (.un 53 .not (sl 52)),
 .o (.pick 54 (sl 46) (cb true) (sl 53)),
 .o (.move 55 (sl 54)),
 .g 55 false (some 56) (.fld 56 2 (sl 1)),
 .g 55 false (some 57) (.load1 57 (sl 56)),
 .g 55 false (some 58) (.move 58 (sl 4)),
 .g 55 false (some 59) (.idx 59 1 (sl 57) (sl 58)),
 .g 55 false (some 60) (.load1 60 (sl 59)),
 .g 55 false (some 61) (.call (some 61) (cf 45) [(sl 60), (ci (-1)), (ci 1)]),
 .g 55 false (some 62) (.un 62 .not (sl 61)),
 .o (.pick 63 (sl 55) (cb true) (sl 62))])
 ((.cond (sl 63) (.seq (.reg [.o (.move 2 (cb false))])
 (.ret))
 .skip))))))
 ((.reg [.o (.bin 64 .add (sl 25) (ci 1)),
 .o (.move 25 (sl 64))])))))))))))
 ((.seq (.reg [.o (.loadN 65 3 (sl 1)),
 .o (.call (some 66) (cf 46) [(sl 65)]),
 .o (.bin 67 .gtr (sl 66) (ci 0)),
 .o (.move 2 (sl 67))])
 (.ret))))))))))
theorem fun_impl_IsGame {rin : List T} {args : List A} {Q : List T → T → Prop} (ha : args.length ≤ 68) (h : cW Tryd.prog 68 c_impl_IsGame (retP Tryd.prog [.tmp 2] rin.length Q) (St.of (enum 0 args) (enum 1000000000 rin))) :
    Fun Tryd.prog 23 rin args Q :=
  Fun.of (H := ⟨[], []⟩) Tryd.func23 rfl rfl rfl (by kernel_rfl) ha (by decide) h

def c_impl_isProved : CC :=
 (.seq (.reg [.o (.box 2 (sl 0)),
 .o (.box 3 (sl 1)),
 .o (.move 4 (cb false))])
 ((.seq (.seq (.reg [.o (.loadN 7 3 (sl 2)),
 .o (.fld 8 0 (sl 3)),
 .o (.loadN 9 2 (sl 8)),
 .o (.fld 10 2 (sl 3)),
 .o (.loadN 11 2 (sl 10)),
 .o (.call (some 12) (cf 47) [(sl 7), (sl 9), (sl 11)]),
 .o (.un 13 .not (sl 12)),
 .o (.move 14 (sl 13)),
 .g 14 false (some 15) (.fld 15 4 (sl 3)),
 .g 14 false (some 16) (.load1 16 (sl 15)),
 .g 14 false (some 17) (.call (some 17) (cf 44) [(sl 16), (ci (-1000000000000000)), (ci 1000000000000000)]),
 .g 14 false (some 18) (.un 18 .not (sl 17)),
 .o (.pick 19 (sl 14) (cb true) (sl 18)),
 .o (.move 20 (sl 19)),
 .g 20 false (some 21) (.fld 21 5 (sl 3)),
 .g 20 false (some 22) (.load1 22 (sl 21)),
 .g 20 false (some 23) (.call (some 23) (cf 44) [(sl 22), (ci (-1000000000000000)), (ci 1000000000000000)]),
 .g 20 false (some 24) (.un 24 .not (sl 23)),
 .o (.pick 25 (sl 20) (cb true) (sl 24))])
 ((.cond (sl 25) (.seq (.reg [.o (.move 4 (cb false))])
 (.ret))
 .skip)))
 ((.seq (.reg [.o (.loadN 27 3 (sl 2)),
 .o (.fld 28 0 (sl 3)),
 .o (.loadN 29 2 (sl 28)),
 .o (.fld 30 2 (sl 3)),
 .o (.loadN 31 2 (sl 30)),
 .o (.call (some 32) (cf 48) [(sl 27), (sl 29), (sl 31)]),
 .o (.move 26 (sl 32)),
 .o (.extract 33 (sl 26) 0),
 .o (.extract 34 (sl 26) 1),
 .o (.move 5 (sl 33)),
 .o (.move 6 (sl 34))])
 ((.seq (.reg [.o (.fld 35 4 (sl 3)),
 .o (.load1 36 (sl 35)),
 .o (.move 37 (sl 5)),
 .o (.bin 38 .leq (sl 36) (sl 37)),
 .o (.move 39 (sl 38)),
 .g 39 true (some 40) (.fld 40 5 (sl 3)),
 .g 39 true (some 41) (.load1 41 (sl 40)),
 .g 39 true (some 42) (.move 42 (sl 6)),
 .g 39 true (some 43) (.bin 43 .geq (sl 41) (sl 42)),
 .o (.pick 44 (sl 39) (sl 43) (cb false)),
 .o (.move 4 (sl 44))])
 (.ret))))))))
theorem fun_impl_isProved {rin : List T} {args : List A} {Q : List T → T → Prop} (ha : args.length ≤ 45) (h : cW Tryd.prog 45 c_impl_isProved (retP Tryd.prog [.tmp 4] rin.length Q) (St.of (enum 0 args) (enum 1000000000 rin))) :
    Fun Tryd.prog 24 rin args Q :=
  Fun.of (H := ⟨[], []⟩) Tryd.func24 rfl rfl rfl (by kernel_rfl) ha (by decide) h

def c_impl_joinNumbers : CC :=
 (.seq (.reg [.o (.move 4 (cv (.string ⟨#[]⟩)))])
 ((.seq (.reg [.o (.move 8 (sl 0)),
 .o (.lenS 9 (sl 8)),
 .o (.make 10 [.v (.string ⟨#[]⟩)] 16 (sl 9) (sl 9)),
 .o (.move 5 (sl 10))])
 ((.seq (.seq (.reg [.o (.move 11 (sl 0)),
 .o (.lenS 12 (sl 11)),
 .o (.move 13 (ci 0))])
 ((.block 0 (.loop (.seq (.reg [.o (.bin 14 .lss (sl 13) (sl 12))])
 ((.seq (.cond (sl 14) .skip
 (.exit 0))
 ((.seq (.block 1 (.seq (.reg [.o (.move 15 (sl 13)),
 .o (.idx 16 1 (sl 11) (sl 13)),
 .o (.load1 17 (sl 16)),
 .o (.move 6 (sl 15)),
 .o (.move 7 (sl 17))])
 ((.reg [.o (.move 18 (sl 5)),
 .o (.move 19 (sl 6)),
 .o (.move 20 (sl 7)),
 .o (.call (some 21) (cf 53) [(sl 20)]),
 .o (.idx 22 1 (sl 18) (sl 19)),
 .o (.store 1 (sl 22) (sl 21))]))))
 ((.reg [.o (.bin 23 .add (sl 13) (ci 1)),
 .o (.move 13 (sl 23))])))))))))))
 ((.seq (.reg [.o (.move 24 (sl 5)),
 .o (.move 25 (sl 1)),
 .o (.call (some 26) (cf 54) [(sl 24), (sl 25)]),
 .o (.move 4 (sl 26))])
 (.ret))))))))
theorem fun_impl_joinNumbers {rin : List T} {args : List A} {Q : List T → T → Prop} (ha : args.length ≤ 27) (h : cW Tryd.prog 27 c_impl_joinNumbers (retP Tryd.prog [.tmp 4] rin.length Q) (St.of (enum 0 args) (enum 1000000000 rin))) :
    Fun Tryd.prog 26 rin args Q :=
  Fun.of (H := ⟨[], []⟩) Tryd.func26 rfl rfl rfl (by kernel_rfl) ha (by decide) h

def c_impl_unitOf : CC :=
 (.seq (.reg [.o (.box 1 (sl 0)),
 .o (.move 2 (ci 0))])
 ((.seq (.draw [] [(kR, .o (.loadN 3 3 (sl 1))),
 (kR, .o (.call (some 4) (cf 46) [(sl 3)])),
 (kR, .o (.fld 5 0 (sl 1))),
 (kR, .o (.loadN 6 1 (sl 5))),
 (kR, .o (.call (some 7) (cf 56) [(sl 6), (ci 0)])),
 (kR, .o (.call (some 8) (cf 55) [(ci 60), (sl 7)])),
 (kR, .o (.bin 9 .mul (sl 4) (sl 8))),
 (kR, .o (.move 2 (sl 9)))])
 (.ret))))
theorem fun_impl_unitOf {rin : List T} {args : List A} {Q : List T → T → Prop} (ha : args.length ≤ 10) (h : cW Tryd.prog 10 c_impl_unitOf (retP Tryd.prog [.tmp 2] rin.length Q) (St.of (enum 0 args) (enum 1000000000 rin))) :
    Fun Tryd.prog 27 rin args Q :=
  Fun.of (H := ⟨[], []⟩) Tryd.func27 rfl rfl rfl (by kernel_rfl) ha (by decide) h

def c_laws_eqTree : CC :=
 (.seq (.reg [.o (.box 2 (sl 0)),
 .o (.box 3 (sl 1)),
 .o (.move 4 (cb false))])
 ((.seq (.seq (.reg [.o (.fld 5 0 (sl 2)),
 .o (.load1 6 (sl 5)),
 .o (.fld 7 0 (sl 3)),
 .o (.load1 8 (sl 7)),
 .o (.call (some 9) (cf 57) [(sl 6), (sl 8)]),
 .o (.un 10 .not (sl 9))])
 ((.cond (sl 10) (.seq (.reg [.o (.move 4 (cb false))])
 (.ret))
 .skip)))
 ((.seq (.reg [.o (.move 4 (cb true))])
 (.ret))))))
theorem fun_laws_eqTree {rin : List T} {args : List A} {Q : List T → T → Prop} (ha : args.length ≤ 11) (h : cW Tryd.prog 11 c_laws_eqTree (retP Tryd.prog [.tmp 4] rin.length Q) (St.of (enum 0 args) (enum 1000000000 rin))) :
    Fun Tryd.prog 28 rin args Q :=
  Fun.of (H := ⟨[], []⟩) Tryd.func28 rfl rfl rfl (by kernel_rfl) ha (by decide) h

def c_laws_eqInt64SS : CC :=
 (.seq (.reg [.o (.move 4 (cb false))])
 ((.seq (.seq (.reg [.o (.move 6 (sl 0)),
 .o (.lenS 7 (sl 6)),
 .o (.move 8 (sl 1)),
 .o (.lenS 9 (sl 8)),
 .o (.bin 10 .neq (sl 7) (sl 9))])
 ((.cond (sl 10) (.seq (.reg [.o (.move 4 (cb false))])
 (.ret))
 .skip)))
 ((.seq (.seq (.reg [.o (.move 5 (ci 0))])
 ((.block 0 (.loop (.seq (.seq (.reg [.o (.move 11 (sl 5)),
 .o (.move 12 (sl 0)),
 .o (.lenS 13 (sl 12)),
 .o (.bin 14 .lss (sl 11) (sl 13))])
 ((.cond (sl 14) .skip
 (.exit 0))))
 ((.seq (.block 1 (.seq (.draw [] [(kR, .o (.move 17 (sl 0))),
 (kR, .o (.move 18 (sl 5))),
 (kR, .o (.idx 19 1 (sl 17) (sl 18))),
 (kR, .o (.load1 20 (sl 19))),
 (kR, .o (.move 21 (sl 1))),
 (kR, .o (.move 22 (sl 5))),
 (kR, .o (.idx 23 1 (sl 21) (sl 22))),
 (kR, .o (.load1 24 (sl 23))),
 (kR, .o (.call (some 25) (cf 58) [(sl 20), (sl 24)])),
 (kR, .o (.un 26 .not (sl 25)))])
 ((.cond (sl 26) (.seq (.reg [.o (.move 4 (cb false))])
 (.ret))
 .skip))))
 ((.reg [.o (.move 15 (sl 5)),
 .o (.bin 16 .add (sl 15) (ci 1)),
 .o (.move 5 (sl 16))])))))))))
 ((.seq (.reg [.o (.move 4 (cb true))])
 (.ret))))))))
theorem fun_laws_eqInt64SS {rin : List T} {args : List A} {Q : List T → T → Prop} (ha : args.length ≤ 27) (h : cW Tryd.prog 27 c_laws_eqInt64SS (retP Tryd.prog [.tmp 4] rin.length Q) (St.of (enum 0 args) (enum 1000000000 rin))) :
    Fun Tryd.prog 29 rin args Q :=
  Fun.of (H := ⟨[], []⟩) Tryd.func29 rfl rfl rfl (by kernel_rfl) ha (by decide) h

def c_laws_eqStrategy : CC :=
 (.seq (.reg [.o (.box 2 (sl 0)),
 .o (.box 3 (sl 1)),
 .o (.move 4 (cb false))])
 ((.seq (.seq (.reg [.o (.fld 5 0 (sl 2)),
 .o (.load1 6 (sl 5)),
 .o (.fld 7 0 (sl 3)),
 .o (.load1 8 (sl 7)),
 .o (.bin 9 .neq (sl 6) (sl 8))])
 ((.cond (sl 9) (.seq (.reg [.o (.move 4 (cb false))])
 (.ret))
 .skip)))
 ((.seq (.seq (.reg [.o (.fld 10 1 (sl 2)),
 .o (.load1 11 (sl 10)),
 .o (.fld 12 1 (sl 3)),
 .o (.load1 13 (sl 12)),
 .o (.call (some 14) (cf 29) [(sl 11), (sl 13)]),
 .o (.un 15 .not (sl 14))])
 ((.cond (sl 15) (.seq (.reg [.o (.move 4 (cb false))])
 (.ret))
 .skip)))
 ((.seq (.reg [.o (.move 4 (cb true))])
 (.ret))))))))
theorem fun_laws_eqStrategy {rin : List T} {args : List A} {Q : List T → T → Prop} (ha : args.length ≤ 16) (h : cW Tryd.prog 16 c_laws_eqStrategy (retP Tryd.prog [.tmp 4] rin.length Q) (St.of (enum 0 args) (enum 1000000000 rin))) :
    Fun Tryd.prog 30 rin args Q :=
  Fun.of (H := ⟨[], []⟩) Tryd.func30 rfl rfl rfl (by kernel_rfl) ha (by decide) h

def c_laws_szTreeNodeS : CC :=
 (.seq (.reg [.o (.move 4 (ci 0))])
 ((.seq (.reg [.o (.move 6 (sl 1)),
 .o (.move 7 (sl 0)),
 .o (.lenS 8 (sl 7)),
 .o (.bin 9 .sub (sl 6) (sl 8)),
 .o (.move 1 (sl 9))])
 ((.seq (.seq (.reg [.o (.move 10 (sl 1)),
 .o (.bin 11 .lss (sl 10) (ci 0))])
 ((.cond (sl 11) (.seq (.reg [.o (.move 4 (ci (-1)))])
 (.ret))
 .skip)))
 ((.seq (.seq (.reg [.o (.move 5 (ci 0))])
 ((.block 0 (.loop (.seq (.seq (.reg [.o (.move 12 (sl 5)),
 .o (.move 13 (sl 0)),
 .o (.lenS 14 (sl 13)),
 .o (.bin 15 .lss (sl 12) (sl 14))])
 ((.cond (sl 15) .skip
 (.exit 0))))
 ((.seq (.block 1 (.seq (.reg [.o (.move 18 (sl 0)),
 .o (.move 19 (sl 5)),
 .o (.idx 20 5 (sl 18) (sl 19)),
 .o (.loadN 21 5 (sl 20)),
 .o (.move 22 (sl 1)),
 .o (.call (some 23) (cf 59) [(sl 21), (sl 22)]),
 .o (.move 1 (sl 23))])
 ((.seq (.reg [.o (.move 24 (sl 1)),
 .o (.bin 25 .lss (sl 24) (ci 0))])
 ((.cond (sl 25) (.seq (.reg [.o (.move 4 (ci (-1)))])
 (.ret))
 .skip))))))
 ((.reg [.o (.move 16 (sl 5)),
 .o (.bin 17 .add (sl 16) (ci 1)),
 .o (.move 5 (sl 17))])))))))))
 ((.seq (.reg [.o (.move 26 (sl 1)),
 .o (.move 4 (sl 26))])
 (.ret))))))))))
theorem fun_laws_szTreeNodeS {rin : List T} {args : List A} {Q : List T → T → Prop} (ha : args.length ≤ 27) (h : cW Tryd.prog 27 c_laws_szTreeNodeS (retP Tryd.prog [.tmp 4] rin.length Q) (St.of (enum 0 args) (enum 1000000000 rin))) :
    Fun Tryd.prog 31 rin args Q :=
  Fun.of (H := ⟨[], []⟩) Tryd.func31 rfl rfl rfl (by kernel_rfl) ha (by decide) h

def c_laws_szInt64S : CC :=
 (.seq (.reg [.o (.move 4 (ci 0))])
 ((.seq (.reg [.o (.move 5 (sl 1)),
 .o (.move 6 (sl 0)),
 .o (.lenS 7 (sl 6)),
 .o (.bin 8 .sub (sl 5) (sl 7)),
 .o (.move 1 (sl 8))])
 ((.seq (.seq (.reg [.o (.move 9 (sl 1)),
 .o (.bin 10 .lss (sl 9) (ci 0))])
 ((.cond (sl 10) (.seq (.reg [.o (.move 4 (ci (-1)))])
 (.ret))
 .skip)))
 ((.seq (.reg [.o (.move 11 (sl 1)),
 .o (.move 4 (sl 11))])
 (.ret))))))))
theorem fun_laws_szInt64S {rin : List T} {args : List A} {Q : List T → T → Prop} (ha : args.length ≤ 12) (h : cW Tryd.prog 12 c_laws_szInt64S (retP Tryd.prog [.tmp 4] rin.length Q) (St.of (enum 0 args) (enum 1000000000 rin))) :
    Fun Tryd.prog 32 rin args Q :=
  Fun.of (H := ⟨[], []⟩) Tryd.func32 rfl rfl rfl (by kernel_rfl) ha (by decide) h

def c_spec_IsGame : CC :=
 (.seq (.reg [.o (.box 1 (sl 0)),
 .o (.move 2 (cb false))])
 ((.seq (.reg [.o (.fld 4 1 (sl 1)),
 .o (.load1 5 (sl 4)),
 .o (.lenS 6 (sl 5)),
 .o (.move 3 (sl 6))])
 ((.seq (.reg [.o (.fld 7 0 (sl 1)),
 .o (.loadN 8 1 (sl 7)),
 .o (.call (some 9) (cf 60) [(sl 8)]),
 .o (.move 10 (sl 9)),
 .g 10 true (some 11) (.move 11 (sl 3)),
 .g 10 true (some 12) (.call (some 12) (cf 61) [(sl 11), (ci 1), (ci 6)]),
 .o (.pick 13 (sl 10) (sl 12) (cb false)),
 .o (.move 14 (sl 13)),
 .g 14 true (some 15) (.fld 15 1 (sl 1)),
 .g 14 true (some 16) (.load1 16 (sl 15)),
 .g 14 true (some 17) (.move 17 (sl 3)),
 .g 14 true (some 18) (.call (some 18) (cf 62) [(sl 16), (sl 17), (ci 0), (ci 9)]),
 .o (.pick 19 (sl 14) (sl 18) (cb false)),
 .o (.move 20 (sl 19)),
 .g 20 true (some 21) (.fld 21 2 (sl 1)),
 .g 20 true (some 22) (.load1 22 (sl 21)),
 .g 20 true (some 23) (.move 23 (sl 3)),
 .g 20 true (some 24) (.call (some 24) (cf 62) [(sl 22), (sl 23), (ci (-1)), (ci 1)]),
 .o (.pick 25 (sl 20) (sl 24) (cb false)),
 .o (.move 26 (sl 25)),
 .g 26 true (some 27) (.loadN 27 3 (sl 1)),
 .g 26 true (some 28) (.call (some 28) (cf 38) [(sl 27)]),
 .g 26 true (some 29) (.bin 29 .gtr (sl 28) (ci 0)),
 .o (.pick 30 (sl 26) (sl 29) (cb false)),
 .o (.move 2 (sl 30))])
 (.ret))))))
theorem fun_spec_IsGame {rin : List T} {args : List A} {Q : List T → T → Prop} (ha : args.length ≤ 31) (h : cW Tryd.prog 31 c_spec_IsGame (retP Tryd.prog [.tmp 2] rin.length Q) (St.of (enum 0 args) (enum 1000000000 rin))) :
    Fun Tryd.prog 33 rin args Q :=
  Fun.of (H := ⟨[], []⟩) Tryd.func33 rfl rfl rfl (by kernel_rfl) ha (by decide) h

def c_spec_IsProved : CC :=
 (.seq (.reg [.o (.box 2 (sl 0)),
 .o (.box 3 (sl 1)),
 .o (.move 4 (cb false))])
 ((.seq (.reg [.o (.loadN 10 3 (sl 2)),
 .o (.fld 11 0 (sl 3)),
 .o (.loadN 12 2 (sl 11)),
 .o (.fld 13 2 (sl 3)),
 .o (.loadN 14 2 (sl 13)),
 .o (.call (some 15) (cf 63) [(sl 10), (sl 12), (sl 14)]),
 .o (.move 9 (sl 15)),
 .o (.extract 16 (sl 9) 0),
 .o (.extract 17 (sl 9) 1),
 .o (.extract 18 (sl 9) 2),
 .o (.extract 19 (sl 9) 3),
 .o (.move 5 (sl 16)),
 .o (.move 6 (sl 17)),
 .o (.move 7 (sl 18)),
 .o (.move 8 (sl 19))])
 ((.seq (.reg [.o (.move 20 (sl 8)),
 .o (.bin 21 .eql (sl 20) (ci 0)),
 .o (.move 22 (sl 21)),
 .g 22 true (some 23) (.fld 23 4 (sl 3)),
 .g 22 true (some 24) (.load1 24 (sl 23)),
 .g 22 true (some 25) (.bin 25 .geq (sl 24) (ci (-1000000000000000))),
 .o (.pick 26 (sl 22) (sl 25) (cb false)),
 .o (.move 27 (sl 26)),
 .g 27 true (some 28) (.fld 28 4 (sl 3)),
 .g 27 true (some 29) (.load1 29 (sl 28)),
 .g 27 true (some 30) (.move 30 (sl 5)),
 .g 27 true (some 31) (.bin 31 .leq (sl 29) (sl 30)),
 .o (.pick 32 (sl 27) (sl 31) (cb false)),
 .o (.move 33 (sl 32)),
 .g 33 true (some 34) (.fld 34 5 (sl 3)),
 .g 33 true (some 35) (.load1 35 (sl 34)),
 .g 33 true (some 36) (.move 36 (sl 6)),
 .g 33 true (some 37) (.bin 37 .geq (sl 35) (sl 36)),
 .o (.pick 38 (sl 33) (sl 37) (cb false)),
 .o (.move 39 (sl 38)),
 .g 39 true (some 40) (.fld 40 5 (sl 3)),
 .g 39 true (some 41) (.load1 41 (sl 40)),
 .g 39 true (some 42) (.bin 42 .leq (sl 41) (ci 1000000000000000)),
 .o (.pick 43 (sl 39) (sl 42) (cb false)),
 .o (.move 4 (sl 43))])
 (.ret))))))
theorem fun_spec_IsProved {rin : List T} {args : List A} {Q : List T → T → Prop} (ha : args.length ≤ 44) (h : cW Tryd.prog 44 c_spec_IsProved (retP Tryd.prog [.tmp 4] rin.length Q) (St.of (enum 0 args) (enum 1000000000 rin))) :
    Fun Tryd.prog 34 rin args Q :=
  Fun.of (H := ⟨[], []⟩) Tryd.func34 rfl rfl rfl (by kernel_rfl) ha (by decide) h

def c_spec_IsStrategy : CC :=
 (.seq (.reg [.o (.box 2 (sl 0)),
 .o (.box 3 (sl 1)),
 .o (.move 4 (cb false))])
 ((.seq (.seq (.reg [.o (.loadN 8 3 (sl 2)),
 .o (.call (some 9) (cf 33) [(sl 8)]),
 .o (.un 10 .not (sl 9)),
 .o (.move 11 (sl 10)),
 .g 11 false (some 12) (.fld 12 0 (sl 3)),
 .g 11 false (some 13) (.load1 13 (sl 12)),
 .g 11 false (some 14) (.call (some 14) (cf 61) [(sl 13), (ci 0), (ci 1)]),
 .g 11 false (some 15) (.un 15 .not (sl 14)),
 .o (.pick 16 (sl 11) (cb true) (sl 15))])
 ((.cond (sl 16) (.seq (.reg [.o (.move 4 (cb false))])
 (.ret))
 .skip)))
 ((.seq (.reg [.o (.loadN 17 3 (sl 2)),
 .o (.fld 18 0 (sl 3)),
 .o (.load1 19 (sl 18)),
 .o (.call (some 20) (cf 36) [(sl 17), (sl 19)]),
 .o (.move 5 (sl 20))])
 ((.seq (.seq (.reg [.o (.fld 21 1 (sl 3)),
 .o (.load1 22 (sl 21)),
 .o (.lenS 23 (sl 22)),
 .o (.move 24 (sl 5)),
 .o (.lenS 25 (sl 24)),
 .o (.bin 26 .neq (sl 23) (sl 25))])
 ((.cond (sl 26) (.seq (.reg [.o (.move 4 (cb false))])
 (.ret))
 .skip)))
 ((.seq (.seq (.reg [.o (.move 6 (ci 0))])
 ((.block 0 (.loop (.seq (.seq (.reg [.o (.move 27 (sl 6)),
 .o (.move 28 (sl 5)),
 .o (.lenS 29 (sl 28)),
 .o (.bin 30 .lss (sl 27) (sl 29))])
 ((.cond (sl 30) .skip
 (.exit 0))))
 ((.seq (.block 1 (.seq (.seq (.draw [] [(kR, .o (.fld 33 1 (sl 3))),
 (kR, .o (.load1 34 (sl 33))),
 (kR, .o (.move 35 (sl 6))),
 (kR, .o (.idx 36 1 (sl 34) (sl 35))),
 (kR, .o (.load1 37 (sl 36))),
 (kR, .o (.lenS 38 (sl 37))),
 (kR, .o (.fld 39 0 (sl 2))),
 (kR, .o (.fld 40 0 (sl 39))),
 (kR, .o (.load1 41 (sl 40))),
 (kR, .o (.move 42 (sl 5))),
 (kR, .o (.move 43 (sl 6))),
 (kR, .o (.idx 44 1 (sl 42) (sl 43))),
 (kR, .o (.load1 45 (sl 44))),
 (kR, .o (.idx 46 1 (sl 45) (ci 0))),
 (kR, .o (.load1 47 (sl 46))),
 (kR, .o (.idx 48 5 (sl 41) (sl 47))),
 (kR, .o (.fld 49 4 (sl 48))),
 (kR, .o (.load1 50 (sl 49))),
 (kR, .o (.lenS 51 (sl 50))),
 (kR, .o (.bin 52 .neq (sl 38) (sl 51)))])
 ((.cond (sl 52) (.seq (.reg [.o (.move 4 (cb false))])
 (.ret))
 .skip)))
 ((.seq (.seq (.reg [.o (.move 7 (ci 0))])
 ((.block 2 (.loop (.seq (.seq (.reg [.o (.move 53 (sl 7)),
 .o (.fld 54 1 (sl 3)),
 .o (.load1 55 (sl 54)),
 .o (.move 56 (sl 6)),
 .o (.idx 57 1 (sl 55) (sl 56)),
 .o (.load1 58 (sl 57)),
 .o (.lenS 59 (sl 58)),
 .o (.bin 60 .lss (sl 53) (sl 59))])
 ((.cond (sl 60) .skip
 (.exit 2))))
 ((.seq (.block 3 (.seq (.reg [.o (.fld 63 1 (sl 3)),
 .o (.load1 64 (sl 63)),
 .o (.move 65 (sl 6)),
 .o (.idx 66 1 (sl 64) (sl 65)),
 .o (.load1 67 (sl 66)),
 .o (.move 68 (sl 7)),
 .o (.idx 69 1 (sl 67) (sl 68)),
 .o (.load1 70 (sl 69)),
 .o (.call (some 71) (cf 61) [(sl 70), (ci 0), (ci 60)]),
 .o (.un 72 .not (sl 71))])
 ((.cond (sl 72) (.seq (.reg [.o (.move 4 (cb false))])
 (.ret))
 .skip))))
 ((.reg [.o (.move 61 (sl 7)),
 .o (.bin 62 .add (sl 61) (ci 1)),
 .o (.move 7 (sl 62))])))))))))
 ((.seq (.reg [.o (.fld 73 1 (sl 3)),
 .o (.load1 74 (sl 73)),
 .o (.move 75 (sl 6)),
 .o (.idx 76 1 (sl 74) (sl 75)),
 .o (.load1 77 (sl 76)),
 .o (.call (some 78) (cf 64) [(sl 77)]),
 .o (.bin 79 .neq (sl 78) (ci 60))])
 ((.cond (sl 79) (.seq (.reg [.o (.move 4 (cb false))])
 (.ret))
 .skip))))))))
 ((.reg [.o (.move 31 (sl 6)),
 .o (.bin 32 .add (sl 31) (ci 1)),
 .o (.move 6 (sl 32))])))))))))
 ((.seq (.reg [.o (.move 4 (cb true))])
 (.ret))))))))))))
theorem fun_spec_IsStrategy {rin : List T} {args : List A} {Q : List T → T → Prop} (ha : args.length ≤ 80) (h : cW Tryd.prog 80 c_spec_IsStrategy (retP Tryd.prog [.tmp 4] rin.length Q) (St.of (enum 0 args) (enum 1000000000 rin))) :
    Fun Tryd.prog 35 rin args Q :=
  Fun.of (H := ⟨[], []⟩) Tryd.func35 rfl rfl rfl (by kernel_rfl) ha (by decide) h

def c_spec_l21Sets : CC :=
 (.seq (.reg [.o (.box 2 (sl 0)),
 .o (.move 4 (cv (.slice none 0 0)))])
 ((.seq (.reg [.o (.fld 9 0 (sl 2)),
 .o (.loadN 10 1 (sl 9)),
 .o (.move 11 (sl 1)),
 .o (.call (some 12) (cf 65) [(sl 10), (sl 11)]),
 .o (.move 5 (sl 12))])
 ((.seq (.reg [.o (.bslice 13 1 0 []),
 .o (.move 6 (sl 13))])
 ((.seq (.seq (.reg [.o (.move 7 (ci 0))])
 ((.block 0 (.loop (.seq (.seq (.reg [.o (.move 14 (sl 7)),
 .o (.move 15 (sl 5)),
 .o (.lenS 16 (sl 15)),
 .o (.bin 17 .lss (sl 14) (sl 16))])
 ((.cond (sl 17) .skip
 (.exit 0))))
 ((.seq (.block 1 (.seq (.reg [.o (.move 8 (ci 0))])
 ((.block 2 (.loop (.seq (.seq (.reg [.o (.move 20 (sl 8)),
 .o (.fld 21 1 (sl 2)),
 .o (.load1 22 (sl 21)),
 .o (.lenS 23 (sl 22)),
 .o (.bin 24 .lss (sl 20) (sl 23))])
 ((.cond (sl 24) .skip
 (.exit 2))))
 ((.seq (.block 3 (.reg [.o (.move 27 (sl 6)),
 .o (.move 28 (sl 5)),
 .o (.move 29 (sl 7)),
 .o (.idx 30 1 (sl 28) (sl 29)),
 .o (.load1 31 (sl 30)),
 .o (.move 32 (sl 8)),
 .o (.bslice 33 1 2 [(0, (sl 31)), (1, (sl 32))]),
 .o (.bslice 34 1 1 [(0, (sl 33))]),
 .o (.app 35 1 24 (sl 27) (sl 34)),
 .o (.move 6 (sl 35))]))
 ((.reg [.o (.move 25 (sl 8)),
 .o (.bin 26 .add (sl 25) (ci 1)),
 .o (.move 8 (sl 26))]))))))))))
 ((.reg [.o (.move 18 (sl 7)),
 .o (.bin 19 .add (sl 18) (ci 1)),
 .o (.move 7 (sl 19))])))))))))
 ((.seq (.reg [.o (.move 36 (sl 6)),
 .o (.move 4 (sl 36))])
 (.ret))))))))))
theorem fun_spec_l21Sets {rin : List T} {args : List A} {Q : List T → T → Prop} (ha : args.length ≤ 37) (h : cW Tryd.prog 37 c_spec_l21Sets (retP Tryd.prog [.tmp 4] rin.length Q) (St.of (enum 0 args) (enum 1000000000 rin))) :
    Fun Tryd.prog 36 rin args Q :=
  Fun.of (H := ⟨[], []⟩) Tryd.func36 rfl rfl rfl (by kernel_rfl) ha (by decide) h

def c_spec_l15List : CC :=
 (.seq (.reg [.o (.move 2 (cv (.string ⟨#[]⟩)))])
 ((.seq (.reg [.o (.move 3 (cv (.string ⟨#[]⟩)))])
 ((.seq (.seq (.reg [.o (.move 4 (ci 0))])
 ((.block 0 (.loop (.seq (.seq (.reg [.o (.move 5 (sl 4)),
 .o (.move 6 (sl 0)),
 .o (.lenS 7 (sl 6)),
 .o (.bin 8 .lss (sl 5) (sl 7))])
 ((.cond (sl 8) .skip
 (.exit 0))))
 ((.seq (.block 1 (.seq (.seq (.reg [.o (.move 11 (sl 4)),
 .o (.bin 12 .gtr (sl 11) (ci 0))])
 ((.cond (sl 12) (.reg [.o (.move 13 (sl 3)),
 .o (.bin 14 .add (sl 13) (cv (.string ⟨#[44]⟩))),
 .o (.move 3 (sl 14))])
 .skip)))
 ((.reg [.o (.move 15 (sl 3)),
 .o (.move 16 (sl 0)),
 .o (.move 17 (sl 4)),
 .o (.idx 18 1 (sl 16) (sl 17)),
 .o (.load1 19 (sl 18)),
 .o (.call (some 20) (cf 18) [(sl 19)]),
 .o (.bin 21 .add (sl 15) (sl 20)),
 .o (.move 3 (sl 21))]))))
 ((.reg [.o (.move 9 (sl 4)),
 .o (.bin 10 .add (sl 9) (ci 1)),
 .o (.move 4 (sl 10))])))))))))
 ((.seq (.reg [.o (.move 22 (sl 3)),
 .o (.move 2 (sl 22))])
 (.ret))))))))
theorem fun_spec_l15List {rin : List T} {args : List A} {Q : List T → T → Prop} (ha : args.length ≤ 23) (h : cW Tryd.prog 23 c_spec_l15List (retP Tryd.prog [.tmp 2] rin.length Q) (St.of (enum 0 args) (enum 1000000000 rin))) :
    Fun Tryd.prog 37 rin args Q :=
  Fun.of (H := ⟨[], []⟩) Tryd.func37 rfl rfl rfl (by kernel_rfl) ha (by decide) h

def c_spec_l21Total : CC :=
 (.seq (.reg [.o (.box 1 (sl 0)),
 .o (.move 2 (ci 0))])
 ((.seq (.reg [.o (.move 3 (ci 0))])
 ((.seq (.seq (.reg [.o (.move 4 (ci 0))])
 ((.block 0 (.loop (.seq (.seq (.reg [.o (.move 5 (sl 4)),
 .o (.fld 6 1 (sl 1)),
 .o (.load1 7 (sl 6)),
 .o (.lenS 8 (sl 7)),
 .o (.bin 9 .lss (sl 5) (sl 8))])
 ((.cond (sl 9) .skip
 (.exit 0))))
 ((.seq (.block 1 (.reg [.o (.move 12 (sl 3)),
 .o (.fld 13 1 (sl 1)),
 .o (.load1 14 (sl 13)),
 .o (.move 15 (sl 4)),
 .o (.idx 16 1 (sl 14) (sl 15)),
 .o (.load1 17 (sl 16)),
 .o (.call (some 18) (cf 64) [(sl 17)]),
 .o (.bin 19 .add (sl 12) (sl 18)),
 .o (.move 3 (sl 19))]))
 ((.reg [.o (.move 10 (sl 4)),
 .o (.bin 11 .add (sl 10) (ci 1)),
 .o (.move 4 (sl 11))])))))))))
 ((.seq (.reg [.o (.move 20 (sl 3)),
 .o (.move 2 (sl 20))])
 (.ret))))))))
theorem fun_spec_l21Total {rin : List T} {args : List A} {Q : List T → T → Prop} (ha : args.length ≤ 21) (h : cW Tryd.prog 21 c_spec_l21Total (retP Tryd.prog [.tmp 2] rin.length Q) (St.of (enum 0 args) (enum 1000000000 rin))) :
    Fun Tryd.prog 38 rin args Q :=
  Fun.of (H := ⟨[], []⟩) Tryd.func38 rfl rfl rfl (by kernel_rfl) ha (by decide) h

def c_spec_l23Power : CC :=
 (.seq (.reg [.o (.move 2 (ci 0))])
 ((.seq (.reg [.o (.move 3 (ci 1))])
 ((.seq (.block 0 (.loop (.seq (.seq (.reg [.o (.move 4 (sl 0)),
 .o (.bin 5 .gtr (sl 4) (ci 0))])
 ((.cond (sl 5) .skip
 (.exit 0))))
 ((.seq (.block 1 (.reg [.o (.move 8 (sl 3)),
 .o (.bin 9 .mul (sl 8) (ci 60)),
 .o (.move 3 (sl 9))]))
 ((.reg [.o (.move 6 (sl 0)),
 .o (.bin 7 .sub (sl 6) (ci 1)),
 .o (.move 0 (sl 7))])))))))
 ((.seq (.reg [.o (.move 10 (sl 3)),
 .o (.move 2 (sl 10))])
 (.ret))))))))
theorem fun_spec_l23Power {rin : List T} {args : List A} {Q : List T → T → Prop} (ha : args.length ≤ 11) (h : cW Tryd.prog 11 c_spec_l23Power (retP Tryd.prog [.tmp 2] rin.length Q) (St.of (enum 0 args) (enum 1000000000 rin))) :
    Fun Tryd.prog 39 rin args Q :=
  Fun.of (H := ⟨[], []⟩) Tryd.func39 rfl rfl rfl (by kernel_rfl) ha (by decide) h

def c_spec_l20Depth : CC :=
 (.seq (.reg [.o (.box 2 (sl 0)),
 .o (.move 4 (ci 0))])
 ((.seq (.reg [.o (.fld 8 0 (sl 2)),
 .o (.load1 9 (sl 8)),
 .o (.move 10 (sl 1)),
 .o (.idx 11 5 (sl 9) (sl 10)),
 .o (.loadN 12 5 (sl 11)),
 .o (.alloc 5 [.v (.int .i64 0), .v (.int .i64 0), .v (.int .i64 0), .v (.int .i64 0), .v (.slice none 0 0)]),
 .o (.store 5 (sl 5) (sl 12))])
 ((.seq (.seq (.reg [.o (.fld 13 0 (sl 5)),
 .o (.load1 14 (sl 13)),
 .o (.bin 15 .eql (sl 14) (ci 2))])
 ((.cond (sl 15) (.seq (.reg [.o (.move 4 (ci 0))])
 (.ret))
 .skip)))
 ((.seq (.reg [.o (.move 6 (ci 0))])
 ((.seq (.seq (.reg [.o (.move 7 (ci 0))])
 ((.block 0 (.loop (.seq (.seq (.reg [.o (.move 16 (sl 7)),
 .o (.fld 17 4 (sl 5)),
 .o (.load1 18 (sl 17)),
 .o (.lenS 19 (sl 18)),
 .o (.bin 20 .lss (sl 16) (sl 19))])
 ((.cond (sl 20) .skip
 (.exit 0))))
 ((.seq (.block 1 (.draw [] [(kR, .o (.move 23 (sl 6))),
 (kR, .o (.loadN 24 1 (sl 2))),
 (kR, .o (.fld 25 4 (sl 5))),
 (kR, .o (.load1 26 (sl 25))),
 (kR, .o (.move 27 (sl 7))),
 (kR, .o (.idx 28 1 (sl 26) (sl 27))),
 (kR, .o (.load1 29 (sl 28))),
 (kR, .o (.call (some 30) (cf 40) [(sl 24), (sl 29)])),
 (kR, .o (.mm 31 true (sl 23) (sl 30))),
 (kR, .o (.move 6 (sl 31)))]))
 ((.reg [.o (.move 21 (sl 7)),
 .o (.bin 22 .add (sl 21) (ci 1)),
 .o (.move 7 (sl 22))])))))))))
 ((.seq (.reg [.o (.move 32 (sl 6)),
 .o (.bin 33 .add (sl 32) (ci 1)),
 .o (.move 4 (sl 33))])
 (.ret))))))))))))
theorem fun_spec_l20Depth {rin : List T} {args : List A} {Q : List T → T → Prop} (ha : args.length ≤ 34) (h : cW Tryd.prog 34 c_spec_l20Depth (retP Tryd.prog [.tmp 4] rin.length Q) (St.of (enum 0 args) (enum 1000000000 rin))) :
    Fun Tryd.prog 40 rin args Q :=
  Fun.of (H := ⟨[], []⟩) Tryd.func40 rfl rfl rfl (by kernel_rfl) ha (by decide) h

def c_laws_toTreeNodeS : CC :=
 (.seq (.reg [.o (.move 2 (cv (.slice none 0 0)))])
 ((.seq (.reg [.o (.move 5 (sl 0)),
 .o (.lenS 6 (sl 5)),
 .o (.make 7 [.v (.int .i64 0), .v (.int .i64 0), .v (.int .i64 0), .v (.int .i64 0), .v (.slice none 0 0)] 56 (sl 6) (sl 6)),
 .o (.move 3 (sl 7))])
 ((.seq (.seq (.reg [.o (.move 4 (ci 0))])
 ((.block 0 (.loop (.seq (.seq (.reg [.o (.move 8 (sl 4)),
 .o (.move 9 (sl 0)),
 .o (.lenS 10 (sl 9)),
 .o (.bin 11 .lss (sl 8) (sl 10))])
 ((.cond (sl 11) .skip
 (.exit 0))))
 ((.seq (.block 1 (.reg [.o (.move 14 (sl 3)),
 .o (.move 15 (sl 4)),
 .o (.move 16 (sl 0)),
 .o (.move 17 (sl 4)),
 .o (.idx 18 5 (sl 16) (sl 17)),
 .o (.loadN 19 5 (sl 18)),
 .o (.call (some 20) (cf 66) [(sl 19)]),
 .o (.idx 21 5 (sl 14) (sl 15)),
 .o (.store 5 (sl 21) (sl 20))]))
 ((.reg [.o (.move 12 (sl 4)),
 .o (.bin 13 .add (sl 12) (ci 1)),
 .o (.move 4 (sl 13))])))))))))
 ((.seq (.reg [.o (.move 22 (sl 3)),
 .o (.move 2 (sl 22))])
 (.ret))))))))
theorem fun_laws_toTreeNodeS {rin : List T} {args : List A} {Q : List T → T → Prop} (ha : args.length ≤ 23) (h : cW Tryd.prog 23 c_laws_toTreeNodeS (retP Tryd.prog [.tmp 2] rin.length Q) (St.of (enum 0 args) (enum 1000000000 rin))) :
    Fun Tryd.prog 41 rin args Q :=
  Fun.of (H := ⟨[], []⟩) Tryd.func41 rfl rfl rfl (by kernel_rfl) ha (by decide) h

def c_laws_toInt64S : CC :=
 (.seq (.reg [.o (.move 2 (cv (.slice none 0 0)))])
 ((.seq (.reg [.o (.move 5 (sl 0)),
 .o (.lenS 6 (sl 5)),
 .o (.make 7 [.v (.int .i64 0)] 8 (sl 6) (sl 6)),
 .o (.move 3 (sl 7))])
 ((.seq (.seq (.reg [.o (.move 4 (ci 0))])
 ((.block 0 (.loop (.seq (.seq (.reg [.o (.move 8 (sl 4)),
 .o (.move 9 (sl 0)),
 .o (.lenS 10 (sl 9)),
 .o (.bin 11 .lss (sl 8) (sl 10))])
 ((.cond (sl 11) .skip
 (.exit 0))))
 ((.seq (.block 1 (.reg [.o (.move 14 (sl 3)),
 .o (.move 15 (sl 4)),
 .o (.move 16 (sl 0)),
 .o (.move 17 (sl 4)),
 .o (.idx 18 1 (sl 16) (sl 17)),
 .o (.load1 19 (sl 18)),
 .o (.idx 20 1 (sl 14) (sl 15)),
 .o (.store 1 (sl 20) (sl 19))]))
 ((.reg [.o (.move 12 (sl 4)),
 .o (.bin 13 .add (sl 12) (ci 1)),
 .o (.move 4 (sl 13))])))))))))
 ((.seq (.reg [.o (.move 21 (sl 3)),
 .o (.move 2 (sl 21))])
 (.ret))))))))
theorem fun_laws_toInt64S {rin : List T} {args : List A} {Q : List T → T → Prop} (ha : args.length ≤ 22) (h : cW Tryd.prog 22 c_laws_toInt64S (retP Tryd.prog [.tmp 2] rin.length Q) (St.of (enum 0 args) (enum 1000000000 rin))) :
    Fun Tryd.prog 42 rin args Q :=
  Fun.of (H := ⟨[], []⟩) Tryd.func42 rfl rfl rfl (by kernel_rfl) ha (by decide) h

def c_impl_IsTree : CC :=
 (.seq (.reg [.o (.box 1 (sl 0)),
 .o (.move 2 (cb false))])
 ((.seq (.reg [.o (.fld 11 0 (sl 1)),
 .o (.load1 12 (sl 11)),
 .o (.lenS 13 (sl 12)),
 .o (.move 3 (sl 13))])
 ((.seq (.seq (.reg [.o (.move 14 (sl 3)),
 .o (.call (some 15) (cf 44) [(sl 14), (ci 1), (ci 60)]),
 .o (.un 16 .not (sl 15))])
 ((.cond (sl 16) (.seq (.reg [.o (.move 2 (cb false))])
 (.ret))
 .skip)))
 ((.seq (.reg [.o (.move 17 (sl 3)),
 .o (.make 18 [.v (.int .i64 0)] 8 (sl 17) (sl 17)),
 .o (.move 4 (sl 18))])
 ((.seq (.seq (.reg [.o (.fld 19 0 (sl 1)),
 .o (.load1 20 (sl 19)),
 .o (.lenS 21 (sl 20)),
 .o (.move 22 (ci 0))])
 ((.block 0 (.loop (.seq (.reg [.o (.bin 23 .lss (sl 22) (sl 21))])
 ((.seq (.cond (sl 23) .skip
 (.exit 0))
 ((.seq (.block 1 (.seq (.reg [.o (.move 24 (sl 22)),
 .o (.idx 25 5 (sl 20) (sl 22)),
 .o (.loadN 26 5 (sl 25)),
 .o (.alloc 6 [.v (.int .i64 0), .v (.int .i64 0), .v (.int .i64 0), .v (.int .i64 0), .v (.slice none 0 0)]),
 .o (.move 5 (sl 24)),
 .o (.store 5 (sl 6) (sl 26))])
 ((.seq (.seq (.reg [.o (.fld 27 0 (sl 6)),
 .o (.load1 28 (sl 27)),
 .o (.call (some 29) (cf 44) [(sl 28), (ci 0), (ci 2)]),
 .o (.un 30 .not (sl 29)),
 .o (.move 31 (sl 30)),
 .g 31 false (some 32) (.fld 32 1 (sl 6)),
 .g 31 false (some 33) (.load1 33 (sl 32)),
 .g 31 false (some 34) (.call (some 34) (cf 44) [(sl 33), (ci 0), (ci 100)]),
 .g 31 false (some 35) (.un 35 .not (sl 34)),
 .o (.pick 36 (sl 31) (cb true) (sl 35)),
 .o (.move 37 (sl 36)),
 .g 37 false (some 38) (.fld 38 2 (sl 6)),
 .g 37 false (some 39) (.load1 39 (sl 38)),
 .g 37 false (some 40) (.call (some 40) (cf 44) [(sl 39), (ci 0), (ci 100)]),
 .g 37 false (some 41) (.un 41 .not (sl 40)),
 .o (.pick 42 (sl 37) (cb true) (sl 41))])
 ((.cond (sl 42) (.seq (.reg [.o (.move 2 (cb false))])
 (.ret))
 .skip)))
 ((.seq (.seq (.reg [.o (.fld 43 0 (sl 6)),
 .o (.load1 44 (sl 43)),
 .o (.bin 45 .eql (sl 44) (ci 2))])
 ((.cond (sl 45) (.seq (.seq (.reg [.o (.fld 46 4 (sl 6)),
 .o (.load1 47 (sl 46)),
 .o (.lenS 48 (sl 47)),
 .o (.bin 49 .gtr (sl 48) (ci 0)),
 .o (.move 50 (sl 49)),
 .g 50 false (some 51) (.fld 51 3 (sl 6)),
 .g 50 false (some 52) (.load1 52 (sl 51)),
 .g 50 false (some 53) (.call (some 53) (cf 44) [(sl 52), (ci (-1)), (ci 1)]),
 .g 50 false (some 54) (.un 54 .not (sl 53)),
 .o (.pick 55 (sl 50) (cb true) (sl 54)),
 .o (.move 56 (sl 55)),
 .g 56 false (some 57) (.fld 57 3 (sl 6)),
 .g 56 false (some 58) (.load1 58 (sl 57)),
 .g 56 false (some 59) (.bin 59 .eql (sl 58) (ci (-1))),
 .g 56 false (some 60) (.move 60 (sl 59)),
 .g 60 true (some 61) (.fld 61 1 (sl 6)),
 .g 60 true (some 62) (.load1 62 (sl 61)),
 .g 60 true (some 63) (.fld 63 2 (sl 6)),
 .g 60 true (some 64) (.load1 64 (sl 63)),
 .g 60 true (some 65) (.bin 65 .neq (sl 62) (sl 64)),
 .g 56 false (some 66) (.pick 66 (sl 60) (sl 65) (cb false)),
 .o (.pick 67 (sl 56) (cb true) (sl 66))])
 ((.cond (sl 67) (.seq (.reg [.o (.move 2 (cb false))])
 (.ret))
 .skip)))
 ((.exit 1)))
 .skip)))
 ((.seq (.seq (.reg [.o (.fld 68 3 (sl 6)),
 .o (.load1 69 (sl 68)),
 .o (.bin 70 .neq (sl 69) (ci (-1))),
 .o (.move 71 (sl 70)),
 .g 71 false (some 72) (.fld 72 4 (sl 6)),
 .g 71 false (some 73) (.load1 73 (sl 72)),
 .g 71 false (some 74) (.lenS 74 (sl 73)),
 .g 71 false (some 75) (.call (some 75) (cf 44) [(sl 74), (ci 1), (ci 4)]),
 .g 71 false (some 76) (.un 76 .not (sl 75)),
 .o (.pick 77 (sl 71) (cb true) (sl 76)),
 .o (.move 78 (sl 77)),
 .g 78 false (some 79) (.fld 79 4 (sl 6)),
 .g 78 false (some 80) (.load1 80 (sl 79)),
 .g 78 false (some 81) (.move 81 (sl 5)),
 .g 78 false (some 82) (.bin 82 .add (sl 81) (ci 1)),
 .g 78 false (some 83) (.move 83 (sl 3)),
 .g 78 false (some 84) (.bin 84 .sub (sl 83) (ci 1)),
 .g 78 false (some 85) (.call (some 85) (cf 45) [(sl 80), (sl 82), (sl 84)]),
 .g 78 false (some 86) (.un 86 .not (sl 85)),
 .o (.pick 87 (sl 78) (cb true) (sl 86)),
 .o (.move 88 (sl 87)),
 .g 88 false (some 89) (.fld 89 4 (sl 6)),
 .g 88 false (some 90) (.load1 90 (sl 89)),
 .g 88 false (some 91) (.call (some 91) (cf 67) [(sl 90)]),
 .g 88 false (some 92) (.un 92 .not (sl 91)),
 .o (.pick 93 (sl 88) (cb true) (sl 92))])
 ((.cond (sl 93) (.seq (.reg [.o (.move 2 (cb false))])
 (.ret))
 .skip)))
 ((.seq (.reg [.o (.fld 94 4 (sl 6)),
 .o (.load1 95 (sl 94)),
 .o (.lenS 96 (sl 95)),
 .o (.move 97 (ci 0))])
 ((.block 2 (.loop (.seq (.reg [.o (.bin 98 .lss (sl 97) (sl 96))])
 ((.seq (.cond (sl 98) .skip
 (.exit 2))
 ((.seq (.block 3 (.seq (.reg [.o (.idx 99 1 (sl 95) (sl 97)),
 .o (.load1 100 (sl 99)),
 .o (.move 8 (sl 100))])
 ((.reg [.o (.move 101 (sl 4)),
 .o (.move 102 (sl 8)),
 .o (.idx 103 1 (sl 101) (sl 102)),
 .o (.load1 104 (sl 103)),
 .o (.bin 105 .add (sl 104) (ci 1)),
 .o (.idx 106 1 (sl 101) (sl 102)),
 .o (.store 1 (sl 106) (sl 105))]))))
 ((.reg [.o (.bin 107 .add (sl 97) (ci 1)),
 .o (.move 97 (sl 107))]))))))))))))))))))))
 ((.reg [.o (.bin 108 .add (sl 22) (ci 1)),
 .o (.move 22 (sl 108))])))))))))))
 ((.seq (.seq (.reg [.o (.move 109 (sl 4)),
 .o (.slc 110 1 (sl 109) (some (ci 1)) none),
 .o (.lenS 111 (sl 110)),
 .o (.move 112 (ci 0))])
 ((.block 4 (.loop (.seq (.reg [.o (.bin 113 .lss (sl 112) (sl 111))])
 ((.seq (.cond (sl 113) .skip
 (.exit 4))
 ((.seq (.block 5 (.seq (.reg [.o (.idx 114 1 (sl 110) (sl 112)),
 .o (.load1 115 (sl 114)),
 .o (.move 10 (sl 115))])
 ((.seq (.reg [.o (.move 116 (sl 10)),
 .o (.bin 117 .neq (sl 116) (ci 1))])
 ((.cond (sl 117) (.seq (.reg [.o (.move 2 (cb false))])
 (.ret))
 .skip))))))
 ((.reg [.o (.bin 118 .add (sl 112) (ci 1)),
 .o (.move 112 (sl 118))])))))))))))
 ((.seq (.reg [.o (.loadN 119 1 (sl 1)),
 .o (.call (some 120) (cf 56) [(sl 119), (ci 0)]),
 .o (.bin 121 .leq (sl 120) (ci 5)),
 .o (.move 2 (sl 121))])
 (.ret))))))))))))))
theorem fun_impl_IsTree {rin : List T} {args : List A} {Q : List T → T → Prop} (ha : args.length ≤ 122) (h : cW Tryd.prog 122 c_impl_IsTree (retP Tryd.prog [.tmp 2] rin.length Q) (St.of (enum 0 args) (enum 1000000000 rin))) :
    Fun Tryd.prog 43 rin args Q :=
  Fun.of (H := ⟨[], []⟩) Tryd.func43 rfl rfl rfl (by kernel_rfl) ha (by decide) h

def c_impl_within : CC :=
 (.seq (.reg [.o (.move 6 (cb false))])
 ((.seq (.reg [.o (.move 7 (sl 0)),
 .o (.move 8 (sl 1)),
 .o (.bin 9 .geq (sl 7) (sl 8)),
 .o (.move 10 (sl 9)),
 .g 10 true (some 11) (.move 11 (sl 0)),
 .g 10 true (some 12) (.move 12 (sl 2)),
 .g 10 true (some 13) (.bin 13 .leq (sl 11) (sl 12)),
 .o (.pick 14 (sl 10) (sl 13) (cb false)),
 .o (.move 6 (sl 14))])
 (.ret))))
theorem fun_impl_within {rin : List T} {args : List A} {Q : List T → T → Prop} (ha : args.length ≤ 15) (h : cW Tryd.prog 15 c_impl_within (retP Tryd.prog [.tmp 6] rin.length Q) (St.of (enum 0 args) (enum 1000000000 rin))) :
    Fun Tryd.prog 44 rin args Q :=
  Fun.of (H := ⟨[], []⟩) Tryd.func44 rfl rfl rfl (by kernel_rfl) ha (by decide) h

def c_impl_allWithin : CC :=
 (.seq (.reg [.o (.move 6 (cb false))])
 ((.seq (.seq (.reg [.o (.move 9 (sl 0)),
 .o (.lenS 10 (sl 9)),
 .o (.move 11 (ci 0))])
 ((.block 0 (.loop (.seq (.reg [.o (.bin 12 .lss (sl 11) (sl 10))])
 ((.seq (.cond (sl 12) .skip
 (.exit 0))
 ((.seq (.block 1 (.seq (.reg [.o (.idx 13 1 (sl 9) (sl 11)),
 .o (.load1 14 (sl 13)),
 .o (.move 8 (sl 14))])
 ((.seq (.reg [.o (.move 15 (sl 8)),
 .o (.move 16 (sl 1)),
 .o (.move 17 (sl 2)),
 .o (.call (some 18) (cf 44) [(sl 15), (sl 16), (sl 17)]),
 .o (.un 19 .not (sl 18))])
 ((.cond (sl 19) (.seq (.reg [.o (.move 6 (cb false))])
 (.ret))
 .skip))))))
 ((.reg [.o (.bin 20 .add (sl 11) (ci 1)),
 .o (.move 11 (sl 20))])))))))))))
 ((.seq (.reg [.o (.move 6 (cb true))])
 (.ret))))))
theorem fun_impl_allWithin {rin : List T} {args : List A} {Q : List T → T → Prop} (ha : args.length ≤ 21) (h : cW Tryd.prog 21 c_impl_allWithin (retP Tryd.prog [.tmp 6] rin.length Q) (St.of (enum 0 args) (enum 1000000000 rin))) :
    Fun Tryd.prog 45 rin args Q :=
  Fun.of (H := ⟨[], []⟩) Tryd.func45 rfl rfl rfl (by kernel_rfl) ha (by decide) h

def c_impl_totalWeight : CC :=
 (.seq (.reg [.o (.box 1 (sl 0)),
 .o (.move 2 (ci 0))])
 ((.seq (.reg [.o (.move 3 (ci 0))])
 ((.seq (.seq (.reg [.o (.fld 6 1 (sl 1)),
 .o (.load1 7 (sl 6)),
 .o (.lenS 8 (sl 7)),
 .o (.move 9 (ci 0))])
 ((.block 0 (.loop (.seq (.reg [.o (.bin 10 .lss (sl 9) (sl 8))])
 ((.seq (.cond (sl 10) .skip
 (.exit 0))
 ((.seq (.block 1 (.seq (.reg [.o (.idx 11 1 (sl 7) (sl 9)),
 .o (.load1 12 (sl 11)),
 .o (.move 5 (sl 12))])
 ((.reg [.o (.move 13 (sl 3)),
 .o (.move 14 (sl 5)),
 .o (.call (some 15) (cf 68) [(sl 14)]),
 .o (.bin 16 .add (sl 13) (sl 15)),
 .o (.move 3 (sl 16))]))))
 ((.reg [.o (.bin 17 .add (sl 9) (ci 1)),
 .o (.move 9 (sl 17))])))))))))))
 ((.seq (.reg [.o (.move 18 (sl 3)),
 .o (.move 2 (sl 18))])
 (.ret))))))))
theorem fun_impl_totalWeight {rin : List T} {args : List A} {Q : List T → T → Prop} (ha : args.length ≤ 19) (h : cW Tryd.prog 19 c_impl_totalWeight (retP Tryd.prog [.tmp 2] rin.length Q) (St.of (enum 0 args) (enum 1000000000 rin))) :
    Fun Tryd.prog 46 rin args Q :=
  Fun.of (H := ⟨[], []⟩) Tryd.func46 rfl rfl rfl (by kernel_rfl) ha (by decide) h

def c_impl_arePair : CC :=
 (.seq (.reg [.o (.box 3 (sl 0)),
 .o (.box 4 (sl 1)),
 .o (.box 5 (sl 2)),
 .o (.move 6 (cb false))])
 ((.seq (.reg [.o (.loadN 7 3 (sl 3)),
 .o (.call (some 8) (cf 23) [(sl 7)]),
 .o (.move 9 (sl 8)),
 .g 9 true (some 10) (.fld 10 0 (sl 4)),
 .g 9 true (some 11) (.load1 11 (sl 10)),
 .g 9 true (some 12) (.bin 12 .eql (sl 11) (ci 0)),
 .o (.pick 13 (sl 9) (sl 12) (cb false)),
 .o (.move 14 (sl 13)),
 .g 14 true (some 15) (.fld 15 0 (sl 5)),
 .g 14 true (some 16) (.load1 16 (sl 15)),
 .g 14 true (some 17) (.bin 17 .eql (sl 16) (ci 1)),
 .o (.pick 18 (sl 14) (sl 17) (cb false)),
 .o (.move 19 (sl 18)),
 .g 19 true (some 20) (.loadN 20 3 (sl 3)),
 .g 19 true (some 21) (.loadN 21 2 (sl 4)),
 .g 19 true (some 22) (.call (some 22) (cf 69) [(sl 20), (sl 21)]),
 .o (.pick 23 (sl 19) (sl 22) (cb false)),
 .o (.move 24 (sl 23)),
 .g 24 true (some 25) (.loadN 25 3 (sl 3)),
 .g 24 true (some 26) (.loadN 26 2 (sl 5)),
 .g 24 true (some 27) (.call (some 27) (cf 69) [(sl 25), (sl 26)]),
 .o (.pick 28 (sl 24) (sl 27) (cb false)),
 .o (.move 6 (sl 28))])
 (.ret))))
theorem fun_impl_arePair {rin : List T} {args : List A} {Q : List T → T → Prop} (ha : args.length ≤ 29) (h : cW Tryd.prog 29 c_impl_arePair (retP Tryd.prog [.tmp 6] rin.length Q) (St.of (enum 0 args) (enum 1000000000 rin))) :
    Fun Tryd.prog 47 rin args Q :=
  Fun.of (H := ⟨[], []⟩) Tryd.func47 rfl rfl rfl (by kernel_rfl) ha (by decide) h

def c_impl_valueBounds : CC :=
 (.seq (.reg [.o (.box 3 (sl 0)),
 .o (.box 4 (sl 1)),
 .o (.box 5 (sl 2)),
 .o (.move 6 (ci 0)),
 .o (.move 7 (ci 0))])
 ((.seq (.reg [.o (.loadN 13 3 (sl 3)),
 .o (.loadN 14 2 (sl 4)),
 .o (.call (some 15) (cf 70) [(sl 13), (sl 14)]),
 .o (.move 12 (sl 15)),
 .o (.extract 16 (sl 12) 0),
 .o (.extract 17 (sl 12) 1),
 .o (.alloc 9 [.v (.int .i64 0), .v (.slice none 0 0)]),
 .o (.move 8 (sl 16)),
 .o (.store 2 (sl 9) (sl 17))])
 ((.seq (.reg [.o (.loadN 19 3 (sl 3)),
 .o (.loadN 20 2 (sl 5)),
 .o (.call (some 21) (cf 70) [(sl 19), (sl 20)]),
 .o (.move 18 (sl 21)),
 .o (.extract 22 (sl 18) 0),
 .o (.extract 23 (sl 18) 1),
 .o (.alloc 11 [.v (.int .i64 0), .v (.slice none 0 0)]),
 .o (.move 10 (sl 22)),
 .o (.store 2 (sl 11) (sl 23))])
 ((.seq (.reg [.o (.move 24 (sl 8)),
 .o (.un 25 .neg (sl 24)),
 .o (.move 26 (sl 10)),
 .o (.move 6 (sl 25)),
 .o (.move 7 (sl 26))])
 (.ret))))))))
theorem fun_impl_valueBounds {rin : List T} {args : List A} {Q : List T → T → Prop} (ha : args.length ≤ 27) (h : cW Tryd.prog 27 c_impl_valueBounds (retP Tryd.prog [.tmp 6, .tmp 7] rin.length Q) (St.of (enum 0 args) (enum 1000000000 rin))) :
    Fun Tryd.prog 48 rin args Q :=
  Fun.of (H := ⟨[], []⟩) Tryd.func48 rfl rfl rfl (by kernel_rfl) ha (by decide) h

def c_impl_IsStrategy : CC :=
 (.seq (.reg [.o (.box 2 (sl 0)),
 .o (.box 3 (sl 1)),
 .o (.move 4 (cb false))])
 ((.seq (.seq (.reg [.o (.loadN 5 3 (sl 2)),
 .o (.call (some 6) (cf 23) [(sl 5)]),
 .o (.un 7 .not (sl 6)),
 .o (.move 8 (sl 7)),
 .g 8 false (some 9) (.fld 9 0 (sl 3)),
 .g 8 false (some 10) (.load1 10 (sl 9)),
 .g 8 false (some 11) (.call (some 11) (cf 44) [(sl 10), (ci 0), (ci 1)]),
 .g 8 false (some 12) (.un 12 .not (sl 11)),
 .o (.pick 13 (sl 8) (cb true) (sl 12))])
 ((.cond (sl 13) (.seq (.reg [.o (.move 4 (cb false))])
 (.ret))
 .skip)))
 ((.seq (.reg [.o (.loadN 14 3 (sl 2)),
 .o (.loadN 15 2 (sl 3)),
 .o (.call (some 16) (cf 69) [(sl 14), (sl 15)]),
 .o (.move 4 (sl 16))])
 (.ret))))))
theorem fun_impl_IsStrategy {rin : List T} {args : List A} {Q : List T → T → Prop} (ha : args.length ≤ 17) (h : cW Tryd.prog 17 c_impl_IsStrategy (retP Tryd.prog [.tmp 4] rin.length Q) (St.of (enum 0 args) (enum 1000000000 rin))) :
    Fun Tryd.prog 49 rin args Q :=
  Fun.of (H := ⟨[], []⟩) Tryd.func49 rfl rfl rfl (by kernel_rfl) ha (by decide) h

def c_impl_infoSets : CC :=
 (.seq (.reg [.o (.box 2 (sl 0)),
 .o (.move 4 (cv (.slice none 0 0)))])
 ((.seq (.reg [.o (.move 5 (cv (.slice none 0 0)))])
 ((.seq (.seq (.reg [.o (.fld 9 0 (sl 2)),
 .o (.loadN 10 1 (sl 9)),
 .o (.move 11 (sl 1)),
 .o (.call (some 12) (cf 71) [(sl 10), (sl 11)]),
 .o (.lenS 13 (sl 12)),
 .o (.move 14 (ci 0))])
 ((.block 0 (.loop (.seq (.reg [.o (.bin 15 .lss (sl 14) (sl 13))])
 ((.seq (.cond (sl 15) .skip
 (.exit 0))
 ((.seq (.block 1 (.seq (.reg [.o (.idx 16 1 (sl 12) (sl 14)),
 .o (.load1 17 (sl 16)),
 .o (.move 7 (sl 17))])
 ((.seq (.reg [.o (.fld 18 1 (sl 2)),
 .o (.load1 19 (sl 18)),
 .o (.lenS 20 (sl 19)),
 .o (.move 21 (ci 0))])
 ((.block 2 (.loop (.seq (.reg [.o (.bin 22 .lss (sl 21) (sl 20))])
 ((.seq (.cond (sl 22) .skip
 (.exit 2))
 ((.seq (.block 3 (.seq (.reg [.o (.move 23 (sl 21)),
 .o (.move 8 (sl 23))])
 ((.reg [.o (.move 24 (sl 5)),
 .o (.move 25 (sl 7)),
 .o (.move 26 (sl 8)),
 .o (.bslice 27 1 2 [(0, (sl 25)), (1, (sl 26))]),
 .o (.bslice 28 1 1 [(0, (sl 27))]),
 .o (.app 29 1 24 (sl 24) (sl 28)),
 .o (.move 5 (sl 29))]))))
 ((.reg [.o (.bin 30 .add (sl 21) (ci 1)),
 .o (.move 21 (sl 30))]))))))))))))))
 ((.reg [.o (.bin 31 .add (sl 14) (ci 1)),
 .o (.move 14 (sl 31))])))))))))))
 ((.seq (.reg [.o (.move 32 (sl 5)),
 .o (.move 4 (sl 32))])
 (.ret))))))))
theorem fun_impl_infoSets {rin : List T} {args : List A} {Q : List T → T → Prop} (ha : args.length ≤ 33) (h : cW Tryd.prog 33 c_impl_infoSets (retP Tryd.prog [.tmp 4] rin.length Q) (St.of (enum 0 args) (enum 1000000000 rin))) :
    Fun Tryd.prog 50 rin args Q :=
  Fun.of (H := ⟨[], []⟩) Tryd.func50 rfl rfl rfl (by kernel_rfl) ha (by decide) h

def c_impl_decimal : CC :=
 (.seq (.reg [.o (.move 2 (cv (.string ⟨#[]⟩)))])
 ((.seq (.reg [.o (.move 3 (sl 0)),
 .o (.call (some 4) (cf 73) [(sl 3), (ci 10)]),
 .o (.move 2 (sl 4))])
 (.ret))))
theorem fun_impl_decimal {rin : List T} {args : List A} {Q : List T → T → Prop} (ha : args.length ≤ 5) (h : cW Tryd.prog 5 c_impl_decimal (retP Tryd.prog [.tmp 2] rin.length Q) (St.of (enum 0 args) (enum 1000000000 rin))) :
    Fun Tryd.prog 53 rin args Q :=
  Fun.of (H := ⟨[], []⟩) Tryd.func53 rfl rfl rfl (by kernel_rfl) ha (by decide) h

def c_impl_powerOf : CC :=
 (.seq (.reg [.o (.move 4 (ci 0))])
 ((.seq (.reg [.o (.move 5 (ci 1))])
 ((.seq (.seq (.reg [.o (.move 6 (sl 1)),
 .o (.move 7 (ci 0))])
 ((.block 0 (.loop (.seq (.reg [.o (.bin 8 .lss (sl 7) (sl 6))])
 ((.seq (.cond (sl 8) .skip
 (.exit 0))
 ((.seq (.block 1 (.reg [.o (.move 9 (sl 5)),
 .o (.move 10 (sl 0)),
 .o (.bin 11 .mul (sl 9) (sl 10)),
 .o (.move 5 (sl 11))]))
 ((.reg [.o (.bin 12 .add (sl 7) (ci 1)),
 .o (.move 7 (sl 12))])))))))))))
 ((.seq (.reg [.o (.move 13 (sl 5)),
 .o (.move 4 (sl 13))])
 (.ret))))))))
theorem fun_impl_powerOf {rin : List T} {args : List A} {Q : List T → T → Prop} (ha : args.length ≤ 14) (h : cW Tryd.prog 14 c_impl_powerOf (retP Tryd.prog [.tmp 4] rin.length Q) (St.of (enum 0 args) (enum 1000000000 rin))) :
    Fun Tryd.prog 55 rin args Q :=
  Fun.of (H := ⟨[], []⟩) Tryd.func55 rfl rfl rfl (by kernel_rfl) ha (by decide) h

def c_impl_depthFrom : CC :=
 (.seq (.reg [.o (.box 2 (sl 0)),
 .o (.move 4 (ci 0))])
 ((.seq (.reg [.o (.fld 9 0 (sl 2)),
 .o (.load1 10 (sl 9)),
 .o (.move 11 (sl 1)),
 .o (.idx 12 5 (sl 10) (sl 11)),
 .o (.loadN 13 5 (sl 12)),
 .o (.alloc 5 [.v (.int .i64 0), .v (.int .i64 0), .v (.int .i64 0), .v (.int .i64 0), .v (.slice none 0 0)]),
 .o (.store 5 (sl 5) (sl 13))])
 ((.seq (.seq (.reg [.o (.fld 14 0 (sl 5)),
 .o (.load1 15 (sl 14)),
 .o (.bin 16 .eql (sl 15) (ci 2))])
 ((.cond (sl 16) (.seq (.reg [.o (.move 4 (ci 0))])
 (.ret))
 .skip)))
 ((.seq (.reg [.o (.move 6 (ci 0))])
 ((.seq (.seq (.reg [.o (.fld 17 4 (sl 5)),
 .o (.load1 18 (sl 17)),
 .o (.lenS 19 (sl 18)),
 .o (.move 20 (ci 0))])
 ((.block 0 (.loop (.seq (.reg [.o (.bin 21 .lss (sl 20) (sl 19))])
 ((.seq (.cond (sl 21) .skip
 (.exit 0))
 ((.seq (.block 1 (.seq (.reg [.o (.idx 22 1 (sl 18) (sl 20)),
 .o (.load1 23 (sl 22)),
 .o (.move 8 (sl 23))])
 ((.reg [.o (.move 24 (sl 6)),
 .o (.loadN 25 1 (sl 2)),
 .o (.move 26 (sl 8)),
 .o (.call (some 27) (cf 56) [(sl 25), (sl 26)]),
 .o (.mm 28 true (sl 24) (sl 27)),
 .o (.move 6 (sl 28))]))))
 ((.reg [.o (.bin 29 .add (sl 20) (ci 1)),
 .o (.move 20 (sl 29))])))))))))))
 ((.seq (.reg [.o (.move 30 (sl 6)),
 .o (.bin 31 .add (sl 30) (ci 1)),
 .o (.move 4 (sl 31))])
 (.ret))))))))))))
theorem fun_impl_depthFrom {rin : List T} {args : List A} {Q : List T → T → Prop} (ha : args.length ≤ 32) (h : cW Tryd.prog 32 c_impl_depthFrom (retP Tryd.prog [.tmp 4] rin.length Q) (St.of (enum 0 args) (enum 1000000000 rin))) :
    Fun Tryd.prog 56 rin args Q :=
  Fun.of (H := ⟨[], []⟩) Tryd.func56 rfl rfl rfl (by kernel_rfl) ha (by decide) h

def c_laws_eqTreeNodeS : CC :=
 (.seq (.reg [.o (.move 4 (cb false))])
 ((.seq (.seq (.reg [.o (.move 6 (sl 0)),
 .o (.lenS 7 (sl 6)),
 .o (.move 8 (sl 1)),
 .o (.lenS 9 (sl 8)),
 .o (.bin 10 .neq (sl 7) (sl 9))])
 ((.cond (sl 10) (.seq (.reg [.o (.move 4 (cb false))])
 (.ret))
 .skip)))
 ((.seq (.seq (.reg [.o (.move 5 (ci 0))])
 ((.block 0 (.loop (.seq (.seq (.reg [.o (.move 11 (sl 5)),
 .o (.move 12 (sl 0)),
 .o (.lenS 13 (sl 12)),
 .o (.bin 14 .lss (sl 11) (sl 13))])
 ((.cond (sl 14) .skip
 (.exit 0))))
 ((.seq (.block 1 (.seq (.draw [] [(kR, .o (.move 17 (sl 0))),
 (kR, .o (.move 18 (sl 5))),
 (kR, .o (.idx 19 5 (sl 17) (sl 18))),
 (kR, .o (.loadN 20 5 (sl 19))),
 (kR, .o (.move 21 (sl 1))),
 (kR, .o (.move 22 (sl 5))),
 (kR, .o (.idx 23 5 (sl 21) (sl 22))),
 (kR, .o (.loadN 24 5 (sl 23))),
 (kR, .o (.call (some 25) (cf 75) [(sl 20), (sl 24)])),
 (kR, .o (.un 26 .not (sl 25)))])
 ((.cond (sl 26) (.seq (.reg [.o (.move 4 (cb false))])
 (.ret))
 .skip))))
 ((.reg [.o (.move 15 (sl 5)),
 .o (.bin 16 .add (sl 15) (ci 1)),
 .o (.move 5 (sl 16))])))))))))
 ((.seq (.reg [.o (.move 4 (cb true))])
 (.ret))))))))
theorem fun_laws_eqTreeNodeS {rin : List T} {args : List A} {Q : List T → T → Prop} (ha : args.length ≤ 27) (h : cW Tryd.prog 27 c_laws_eqTreeNodeS (retP Tryd.prog [.tmp 4] rin.length Q) (St.of (enum 0 args) (enum 1000000000 rin))) :
    Fun Tryd.prog 57 rin args Q :=
  Fun.of (H := ⟨[], []⟩) Tryd.func57 rfl rfl rfl (by kernel_rfl) ha (by decide) h

def c_laws_eqInt64S : CC :=
 (.seq (.reg [.o (.move 4 (cb false))])
 ((.seq (.seq (.reg [.o (.move 6 (sl 0)),
 .o (.lenS 7 (sl 6)),
 .o (.move 8 (sl 1)),
 .o (.lenS 9 (sl 8)),
 .o (.bin 10 .neq (sl 7) (sl 9))])
 ((.cond (sl 10) (.seq (.reg [.o (.move 4 (cb false))])
 (.ret))
 .skip)))
 ((.seq (.seq (.reg [.o (.move 5 (ci 0))])
 ((.block 0 (.loop (.seq (.seq (.reg [.o (.move 11 (sl 5)),
 .o (.move 12 (sl 0)),
 .o (.lenS 13 (sl 12)),
 .o (.bin 14 .lss (sl 11) (sl 13))])
 ((.cond (sl 14) .skip
 (.exit 0))))
 ((.seq (.block 1 (.seq (.draw [] [(kR, .o (.move 17 (sl 0))),
 (kR, .o (.move 18 (sl 5))),
 (kR, .o (.idx 19 1 (sl 17) (sl 18))),
 (kR, .o (.load1 20 (sl 19))),
 (kR, .o (.move 21 (sl 1))),
 (kR, .o (.move 22 (sl 5))),
 (kR, .o (.idx 23 1 (sl 21) (sl 22))),
 (kR, .o (.load1 24 (sl 23))),
 (kR, .o (.bin 25 .neq (sl 20) (sl 24)))])
 ((.cond (sl 25) (.seq (.reg [.o (.move 4 (cb false))])
 (.ret))
 .skip))))
 ((.reg [.o (.move 15 (sl 5)),
 .o (.bin 16 .add (sl 15) (ci 1)),
 .o (.move 5 (sl 16))])))))))))
 ((.seq (.reg [.o (.move 4 (cb true))])
 (.ret))))))))
theorem fun_laws_eqInt64S {rin : List T} {args : List A} {Q : List T → T → Prop} (ha : args.length ≤ 26) (h : cW Tryd.prog 26 c_laws_eqInt64S (retP Tryd.prog [.tmp 4] rin.length Q) (St.of (enum 0 args) (enum 1000000000 rin))) :
    Fun Tryd.prog 58 rin args Q :=
  Fun.of (H := ⟨[], []⟩) Tryd.func58 rfl rfl rfl (by kernel_rfl) ha (by decide) h

def c_laws_szTreeNode : CC :=
 (.seq (.reg [.o (.box 2 (sl 0)),
 .o (.move 4 (ci 0))])
 ((.seq (.reg [.o (.fld 5 4 (sl 2)),
 .o (.load1 6 (sl 5)),
 .o (.move 7 (sl 1)),
 .o (.call (some 8) (cf 32) [(sl 6), (sl 7)]),
 .o (.move 1 (sl 8))])
 ((.seq (.seq (.reg [.o (.move 9 (sl 1)),
 .o (.bin 10 .lss (sl 9) (ci 0))])
 ((.cond (sl 10) (.seq (.reg [.o (.move 4 (ci (-1)))])
 (.ret))
 .skip)))
 ((.seq (.reg [.o (.move 11 (sl 1)),
 .o (.move 4 (sl 11))])
 (.ret))))))))
theorem fun_laws_szTreeNode {rin : List T} {args : List A} {Q : List T → T → Prop} (ha : args.length ≤ 12) (h : cW Tryd.prog 12 c_laws_szTreeNode (retP Tryd.prog [.tmp 4] rin.length Q) (St.of (enum 0 args) (enum 1000000000 rin))) :
    Fun Tryd.prog 59 rin args Q :=
  Fun.of (H := ⟨[], []⟩) Tryd.func59 rfl rfl rfl (by kernel_rfl) ha (by decide) h

def c_spec_IsTree : CC :=
 (.seq (.reg [.o (.box 1 (sl 0)),
 .o (.move 2 (cb false))])
 ((.seq (.reg [.o (.fld 8 0 (sl 1)),
 .o (.load1 9 (sl 8)),
 .o (.lenS 10 (sl 9)),
 .o (.move 3 (sl 10))])
 ((.seq (.seq (.reg [.o (.move 11 (sl 3)),
 .o (.call (some 12) (cf 61) [(sl 11), (ci 1), (ci 60)]),
 .o (.un 13 .not (sl 12))])
 ((.cond (sl 13) (.seq (.reg [.o (.move 2 (cb false))])
 (.ret))
 .skip)))
 ((.seq (.reg [.o (.move 14 (sl 3)),
 .o (.make 15 [.v (.int .i64 0)] 8 (sl 14) (sl 14)),
 .o (.move 4 (sl 15))])
 ((.seq (.seq (.reg [.o (.move 5 (ci 0))])
 ((.block 0 (.loop (.seq (.seq (.reg [.o (.move 16 (sl 5)),
 .o (.move 17 (sl 3)),
 .o (.bin 18 .lss (sl 16) (sl 17))])
 ((.cond (sl 18) .skip
 (.exit 0))))
 ((.seq (.block 1 (.seq (.seq (.reg [.o (.loadN 21 1 (sl 1)),
 .o (.move 22 (sl 5)),
 .o (.call (some 23) (cf 76) [(sl 21), (sl 22)]),
 .o (.un 24 .not (sl 23))])
 ((.cond (sl 24) (.seq (.reg [.o (.move 2 (cb false))])
 (.ret))
 .skip)))
 ((.seq (.reg [.o (.move 6 (ci 0))])
 ((.block 2 (.loop (.seq (.seq (.reg [.o (.move 25 (sl 6)),
 .o (.fld 26 0 (sl 1)),
 .o (.load1 27 (sl 26)),
 .o (.move 28 (sl 5)),
 .o (.idx 29 5 (sl 27) (sl 28)),
 .o (.fld 30 4 (sl 29)),
 .o (.load1 31 (sl 30)),
 .o (.lenS 32 (sl 31)),
 .o (.bin 33 .lss (sl 25) (sl 32))])
 ((.cond (sl 33) .skip
 (.exit 2))))
 ((.seq (.block 3 (.reg [.o (.move 36 (sl 4)),
 .o (.fld 37 0 (sl 1)),
 .o (.load1 38 (sl 37)),
 .o (.move 39 (sl 5)),
 .o (.idx 40 5 (sl 38) (sl 39)),
 .o (.fld 41 4 (sl 40)),
 .o (.load1 42 (sl 41)),
 .o (.move 43 (sl 6)),
 .o (.idx 44 1 (sl 42) (sl 43)),
 .o (.load1 45 (sl 44)),
 .o (.idx 46 1 (sl 36) (sl 45)),
 .o (.load1 47 (sl 46)),
 .o (.bin 48 .add (sl 47) (ci 1)),
 .o (.idx 49 1 (sl 36) (sl 45)),
 .o (.store 1 (sl 49) (sl 48))]))
 ((.reg [.o (.move 34 (sl 6)),
 .o (.bin 35 .add (sl 34) (ci 1)),
 .o (.move 6 (sl 35))]))))))))))))
 ((.reg [.o (.move 19 (sl 5)),
 .o (.bin 20 .add (sl 19) (ci 1)),
 .o (.move 5 (sl 20))])))))))))
 ((.seq (.seq (.reg [.o (.move 7 (ci 1))])
 ((.block 4 (.loop (.seq (.seq (.reg [.o (.move 50 (sl 7)),
 .o (.move 51 (sl 3)),
 .o (.bin 52 .lss (sl 50) (sl 51))])
 ((.cond (sl 52) .skip
 (.exit 4))))
 ((.seq (.block 5 (.seq (.reg [.o (.move 55 (sl 4)),
 .o (.move 56 (sl 7)),
 .o (.idx 57 1 (sl 55) (sl 56)),
 .o (.load1 58 (sl 57)),
 .o (.bin 59 .neq (sl 58) (ci 1))])
 ((.cond (sl 59) (.seq (.reg [.o (.move 2 (cb false))])
 (.ret))
 .skip))))
 ((.reg [.o (.move 53 (sl 7)),
 .o (.bin 54 .add (sl 53) (ci 1)),
 .o (.move 7 (sl 54))])))))))))
 ((.seq (.reg [.o (.loadN 60 1 (sl 1)),
 .o (.call (some 61) (cf 40) [(sl 60), (ci 0)]),
 .o (.bin 62 .leq (sl 61) (ci 5)),
 .o (.move 2 (sl 62))])
 (.ret))))))))))))))
theorem fun_spec_IsTree {rin : List T} {args : List A} {Q : List T → T → Prop} (ha : args.length ≤ 63) (h : cW Tryd.prog 63 c_spec_IsTree (retP Tryd.prog [.tmp 2] rin.length Q) (St.of (enum 0 args) (enum 1000000000 rin))) :
    Fun Tryd.prog 60 rin args Q :=
  Fun.of (H := ⟨[], []⟩) Tryd.func60 rfl rfl rfl (by kernel_rfl) ha (by decide) h

def c_spec_l01In : CC :=
 (.seq (.reg [.o (.move 6 (cb false))])
 ((.seq (.reg [.o (.move 7 (sl 0)),
 .o (.move 8 (sl 1)),
 .o (.bin 9 .geq (sl 7) (sl 8)),
 .o (.move 10 (sl 9)),
 .g 10 true (some 11) (.move 11 (sl 0)),
 .g 10 true (some 12) (.move 12 (sl 2)),
 .g 10 true (some 13) (.bin 13 .leq (sl 11) (sl 12)),
 .o (.pick 14 (sl 10) (sl 13) (cb false)),
 .o (.move 6 (sl 14))])
 (.ret))))
theorem fun_spec_l01In {rin : List T} {args : List A} {Q : List T → T → Prop} (ha : args.length ≤ 15) (h : cW Tryd.prog 15 c_spec_l01In (retP Tryd.prog [.tmp 6] rin.length Q) (St.of (enum 0 args) (enum 1000000000 rin))) :
    Fun Tryd.prog 61 rin args Q :=
  Fun.of (H := ⟨[], []⟩) Tryd.func61 rfl rfl rfl (by kernel_rfl) ha (by decide) h

def c_spec_l21Matrix : CC :=
 (.seq (.reg [.o (.move 8 (cb false))])
 ((.seq (.seq (.reg [.o (.move 9 (ci 0))])
 ((.block 0 (.loop (.seq (.seq (.reg [.o (.move 11 (sl 9)),
 .o (.move 12 (sl 0)),
 .o (.lenS 13 (sl 12)),
 .o (.bin 14 .lss (sl 11) (sl 13))])
 ((.cond (sl 14) .skip
 (.exit 0))))
 ((.seq (.block 1 (.seq (.seq (.reg [.o (.move 17 (sl 0)),
 .o (.move 18 (sl 9)),
 .o (.idx 19 1 (sl 17) (sl 18)),
 .o (.load1 20 (sl 19)),
 .o (.lenS 21 (sl 20)),
 .o (.move 22 (sl 1)),
 .o (.bin 23 .neq (sl 21) (sl 22))])
 ((.cond (sl 23) (.seq (.reg [.o (.move 8 (cb false))])
 (.ret))
 .skip)))
 ((.seq (.reg [.o (.move 10 (ci 0))])
 ((.block 2 (.loop (.seq (.seq (.reg [.o (.move 24 (sl 10)),
 .o (.move 25 (sl 1)),
 .o (.bin 26 .lss (sl 24) (sl 25))])
 ((.cond (sl 26) .skip
 (.exit 2))))
 ((.seq (.block 3 (.seq (.reg [.o (.move 29 (sl 0)),
 .o (.move 30 (sl 9)),
 .o (.idx 31 1 (sl 29) (sl 30)),
 .o (.load1 32 (sl 31)),
 .o (.move 33 (sl 10)),
 .o (.idx 34 1 (sl 32) (sl 33)),
 .o (.load1 35 (sl 34)),
 .o (.move 36 (sl 2)),
 .o (.move 37 (sl 3)),
 .o (.call (some 38) (cf 61) [(sl 35), (sl 36), (sl 37)]),
 .o (.un 39 .not (sl 38))])
 ((.cond (sl 39) (.seq (.reg [.o (.move 8 (cb false))])
 (.ret))
 .skip))))
 ((.reg [.o (.move 27 (sl 10)),
 .o (.bin 28 .add (sl 27) (ci 1)),
 .o (.move 10 (sl 28))]))))))))))))
 ((.reg [.o (.move 15 (sl 9)),
 .o (.bin 16 .add (sl 15) (ci 1)),
 .o (.move 9 (sl 16))])))))))))
 ((.seq (.reg [.o (.move 40 (sl 0)),
 .o (.lenS 41 (sl 40)),
 .o (.move 42 (sl 1)),
 .o (.bin 43 .eql (sl 41) (sl 42)),
 .o (.move 8 (sl 43))])
 (.ret))))))
theorem fun_spec_l21Matrix {rin : List T} {args : List A} {Q : List T → T → Prop} (ha : args.length ≤ 44) (h : cW Tryd.prog 44 c_spec_l21Matrix (retP Tryd.prog [.tmp 8] rin.length Q) (St.of (enum 0 args) (enum 1000000000 rin))) :
    Fun Tryd.prog 62 rin args Q :=
  Fun.of (H := ⟨[], []⟩) Tryd.func62 rfl rfl rfl (by kernel_rfl) ha (by decide) h

def c_spec_ValueBounds : CC :=
 (.seq (.reg [.o (.box 3 (sl 0)),
 .o (.box 4 (sl 1)),
 .o (.box 5 (sl 2)),
 .o (.move 6 (ci 0)),
 .o (.move 7 (ci 0)),
 .o (.move 8 (ci 0)),
 .o (.move 9 (ci 0))])
 ((.seq (.seq (.reg [.o (.loadN 12 3 (sl 3)),
 .o (.loadN 13 2 (sl 4)),
 .o (.loadN 14 2 (sl 5)),
 .o (.call (some 15) (cf 77) [(sl 12), (sl 13), (sl 14)]),
 .o (.un 16 .not (sl 15))])
 ((.cond (sl 16) (.seq (.reg [.o (.move 6 (ci 0)),
 .o (.move 7 (ci 0)),
 .o (.move 8 (ci 0)),
 .o (.move 9 (ci 1))])
 (.ret))
 .skip)))
 ((.seq (.reg [.o (.loadN 18 3 (sl 3)),
 .o (.loadN 19 2 (sl 4)),
 .o (.loadN 20 2 (sl 5)),
 .o (.call (some 21) (cf 78) [(sl 18), (sl 19), (sl 20)]),
 .o (.move 17 (sl 21)),
 .o (.extract 22 (sl 17) 0),
 .o (.extract 23 (sl 17) 1),
 .o (.move 10 (sl 22)),
 .o (.move 11 (sl 23))])
 ((.seq (.reg [.o (.move 24 (sl 11)),
 .o (.un 25 .neg (sl 24)),
 .o (.move 26 (sl 10)),
 .o (.loadN 27 3 (sl 3)),
 .o (.call (some 28) (cf 19) [(sl 27)]),
 .o (.move 6 (sl 25)),
 .o (.move 7 (sl 26)),
 .o (.move 8 (sl 28)),
 .o (.move 9 (ci 0))])
 (.ret))))))))
theorem fun_spec_ValueBounds {rin : List T} {args : List A} {Q : List T → T → Prop} (ha : args.length ≤ 29) (h : cW Tryd.prog 29 c_spec_ValueBounds (retP Tryd.prog [.tmp 6, .tmp 7, .tmp 8, .tmp 9] rin.length Q) (St.of (enum 0 args) (enum 1000000000 rin))) :
    Fun Tryd.prog 63 rin args Q :=
  Fun.of (H := ⟨[], []⟩) Tryd.func63 rfl rfl rfl (by kernel_rfl) ha (by decide) h

def c_spec_l01Sum : CC :=
 (.seq (.reg [.o (.move 2 (ci 0))])
 ((.seq (.reg [.o (.move 3 (ci 0))])
 ((.seq (.seq (.reg [.o (.move 4 (ci 0))])
 ((.block 0 (.loop (.seq (.seq (.reg [.o (.move 5 (sl 4)),
 .o (.move 6 (sl 0)),
 .o (.lenS 7 (sl 6)),
 .o (.bin 8 .lss (sl 5) (sl 7))])
 ((.cond (sl 8) .skip
 (.exit 0))))
 ((.seq (.block 1 (.reg [.o (.move 11 (sl 3)),
 .o (.move 12 (sl 0)),
 .o (.move 13 (sl 4)),
 .o (.idx 14 1 (sl 12) (sl 13)),
 .o (.load1 15 (sl 14)),
 .o (.bin 16 .add (sl 11) (sl 15)),
 .o (.move 3 (sl 16))]))
 ((.reg [.o (.move 9 (sl 4)),
 .o (.bin 10 .add (sl 9) (ci 1)),
 .o (.move 4 (sl 10))])))))))))
 ((.seq (.reg [.o (.move 17 (sl 3)),
 .o (.move 2 (sl 17))])
 (.ret))))))))
theorem fun_spec_l01Sum {rin : List T} {args : List A} {Q : List T → T → Prop} (ha : args.length ≤ 18) (h : cW Tryd.prog 18 c_spec_l01Sum (retP Tryd.prog [.tmp 2] rin.length Q) (St.of (enum 0 args) (enum 1000000000 rin))) :
    Fun Tryd.prog 64 rin args Q :=
  Fun.of (H := ⟨[], []⟩) Tryd.func64 rfl rfl rfl (by kernel_rfl) ha (by decide) h

def c_spec_l20Of : CC :=
 (.seq (.reg [.o (.box 2 (sl 0)),
 .o (.move 4 (cv (.slice none 0 0)))])
 ((.seq (.reg [.o (.bslice 7 1 0 []),
 .o (.move 5 (sl 7))])
 ((.seq (.seq (.reg [.o (.move 6 (ci 0))])
 ((.block 0 (.loop (.seq (.seq (.reg [.o (.move 8 (sl 6)),
 .o (.fld 9 0 (sl 2)),
 .o (.load1 10 (sl 9)),
 .o (.lenS 11 (sl 10)),
 .o (.bin 12 .lss (sl 8) (sl 11))])
 ((.cond (sl 12) .skip
 (.exit 0))))
 ((.seq (.block 1 (.seq (.reg [.o (.fld 15 0 (sl 2)),
 .o (.load1 16 (sl 15)),
 .o (.move 17 (sl 6)),
 .o (.idx 18 5 (sl 16) (sl 17)),
 .o (.fld 19 0 (sl 18)),
 .o (.load1 20 (sl 19)),
 .o (.move 21 (sl 1)),
 .o (.bin 22 .eql (sl 20) (sl 21))])
 ((.cond (sl 22) (.reg [.o (.move 23 (sl 5)),
 .o (.move 24 (sl 6)),
 .o (.bslice 25 1 1 [(0, (sl 24))]),
 .o (.app 26 1 8 (sl 23) (sl 25)),
 .o (.move 5 (sl 26))])
 .skip))))
 ((.reg [.o (.move 13 (sl 6)),
 .o (.bin 14 .add (sl 13) (ci 1)),
 .o (.move 6 (sl 14))])))))))))
 ((.seq (.reg [.o (.move 27 (sl 5)),
 .o (.move 4 (sl 27))])
 (.ret))))))))
theorem fun_spec_l20Of {rin : List T} {args : List A} {Q : List T → T → Prop} (ha : args.length ≤ 28) (h : cW Tryd.prog 28 c_spec_l20Of (retP Tryd.prog [.tmp 4] rin.length Q) (St.of (enum 0 args) (enum 1000000000 rin))) :
    Fun Tryd.prog 65 rin args Q :=
  Fun.of (H := ⟨[], []⟩) Tryd.func65 rfl rfl rfl (by kernel_rfl) ha (by decide) h

def c_laws_toTreeNode : CC :=
 (.seq (.reg [.o (.box 1 (sl 0)),
 .o (.alloc 2 [.v (.int .i64 0), .v (.int .i64 0), .v (.int .i64 0), .v (.int .i64 0), .v (.slice none 0 0)])])
 ((.seq (.reg [.o (.alloc 3 [.v (.int .i64 0), .v (.int .i64 0), .v (.int .i64 0), .v (.int .i64 0), .v (.slice none 0 0)])])
 ((.seq (.reg [.o (.fld 4 0 (sl 1)),
 .o (.load1 5 (sl 4)),
 .o (.fld 6 0 (sl 3)),
 .o (.store 1 (sl 6) (sl 5))])
 ((.seq (.reg [.o (.fld 7 1 (sl 1)),
 .o (.load1 8 (sl 7)),
 .o (.fld 9 1 (sl 3)),
 .o (.store 1 (sl 9) (sl 8))])
 ((.seq (.reg [.o (.fld 10 2 (sl 1)),
 .o (.load1 11 (sl 10)),
 .o (.fld 12 2 (sl 3)),
 .o (.store 1 (sl 12) (sl 11))])
 ((.seq (.reg [.o (.fld 13 3 (sl 1)),
 .o (.load1 14 (sl 13)),
 .o (.fld 15 3 (sl 3)),
 .o (.store 1 (sl 15) (sl 14))])
 ((.seq (.reg [.o (.fld 16 4 (sl 1)),
 .o (.load1 17 (sl 16)),
 .o (.call (some 18) (cf 42) [(sl 17)]),
 .o (.fld 19 4 (sl 3)),
 .o (.store 1 (sl 19) (sl 18))])
 ((.seq (.reg [.o (.loadN 20 5 (sl 3)),
 .o (.store 5 (sl 2) (sl 20))])
 (.ret))))))))))))))))
theorem fun_laws_toTreeNode {rin : List T} {args : List A} {Q : List T → T → Prop} (ha : args.length ≤ 21) (h : cW Tryd.prog 21 c_laws_toTreeNode (retP Tryd.prog [.cell 2 101] rin.length Q) (St.of (enum 0 args) (enum 1000000000 rin))) :
    Fun Tryd.prog 66 rin args Q :=
  Fun.of (H := ⟨[], []⟩) Tryd.func66 rfl rfl rfl (by kernel_rfl) ha (by decide) h

def c_impl_increasing : CC :=
 (.seq (.reg [.o (.move 2 (cb false))])
 ((.seq (.seq (.reg [.o (.move 3 (ci 1))])
 ((.block 0 (.loop (.seq (.seq (.reg [.o (.move 4 (sl 3)),
 .o (.move 5 (sl 0)),
 .o (.lenS 6 (sl 5)),
 .o (.bin 7 .lss (sl 4) (sl 6))])
 ((.cond (sl 7) .skip
 (.exit 0))))
 ((.seq (.block 1 (.seq (.draw [] [(kR, .o (.move 10 (sl 0))),
 (kR, .o (.move 11 (sl 3))),
 (kR, .o (.bin 12 .sub (sl 11) (ci 1))),
 (kR, .o (.idx 13 1 (sl 10) (sl 12))),
 (kR, .o (.load1 14 (sl 13))),
 (kR, .o (.move 15 (sl 0))),
 (kR, .o (.move 16 (sl 3))),
 (kR, .o (.idx 17 1 (sl 15) (sl 16))),
 (kR, .o (.load1 18 (sl 17))),
 (kR, .o (.bin 19 .geq (sl 14) (sl 18)))])
 ((.cond (sl 19) (.seq (.reg [.o (.move 2 (cb false))])
 (.ret))
 .skip))))
 ((.reg [.o (.move 8 (sl 3)),
 .o (.bin 9 .add (sl 8) (ci 1)),
 .o (.move 3 (sl 9))])))))))))
 ((.seq (.reg [.o (.move 2 (cb true))])
 (.ret))))))
theorem fun_impl_increasing {rin : List T} {args : List A} {Q : List T → T → Prop} (ha : args.length ≤ 20) (h : cW Tryd.prog 20 c_impl_increasing (retP Tryd.prog [.tmp 2] rin.length Q) (St.of (enum 0 args) (enum 1000000000 rin))) :
    Fun Tryd.prog 67 rin args Q :=
  Fun.of (H := ⟨[], []⟩) Tryd.func67 rfl rfl rfl (by kernel_rfl) ha (by decide) h

def c_impl_sumOf : CC :=
 (.seq (.reg [.o (.move 2 (ci 0))])
 ((.seq (.reg [.o (.move 3 (ci 0))])
 ((.seq (.seq (.reg [.o (.move 6 (sl 0)),
 .o (.lenS 7 (sl 6)),
 .o (.move 8 (ci 0))])
 ((.block 0 (.loop (.seq (.reg [.o (.bin 9 .lss (sl 8) (sl 7))])
 ((.seq (.cond (sl 9) .skip
 (.exit 0))
 ((.seq (.block 1 (.seq (.reg [.o (.idx 10 1 (sl 6) (sl 8)),
 .o (.load1 11 (sl 10)),
 .o (.move 5 (sl 11))])
 ((.reg [.o (.move 12 (sl 3)),
 .o (.move 13 (sl 5)),
 .o (.bin 14 .add (sl 12) (sl 13)),
 .o (.move 3 (sl 14))]))))
 ((.reg [.o (.bin 15 .add (sl 8) (ci 1)),
 .o (.move 8 (sl 15))])))))))))))
 ((.seq (.reg [.o (.move 16 (sl 3)),
 .o (.move 2 (sl 16))])
 (.ret))))))))
theorem fun_impl_sumOf {rin : List T} {args : List A} {Q : List T → T → Prop} (ha : args.length ≤ 17) (h : cW Tryd.prog 17 c_impl_sumOf (retP Tryd.prog [.tmp 2] rin.length Q) (St.of (enum 0 args) (enum 1000000000 rin))) :
    Fun Tryd.prog 68 rin args Q :=
  Fun.of (H := ⟨[], []⟩) Tryd.func68 rfl rfl rfl (by kernel_rfl) ha (by decide) h

def c_impl_isStrategy : CC :=
 (.seq (.reg [.o (.box 2 (sl 0)),
 .o (.box 3 (sl 1)),
 .o (.move 4 (cb false))])
 ((.seq (.reg [.o (.loadN 9 3 (sl 2)),
 .o (.fld 10 0 (sl 3)),
 .o (.load1 11 (sl 10)),
 .o (.call (some 12) (cf 50) [(sl 9), (sl 11)]),
 .o (.move 5 (sl 12))])
 ((.seq (.seq (.reg [.o (.fld 13 1 (sl 3)),
 .o (.load1 14 (sl 13)),
 .o (.lenS 15 (sl 14)),
 .o (.move 16 (sl 5)),
 .o (.lenS 17 (sl 16)),
 .o (.bin 18 .neq (sl 15) (sl 17))])
 ((.cond (sl 18) (.seq (.reg [.o (.move 4 (cb false))])
 (.ret))
 .skip)))
 ((.seq (.seq (.reg [.o (.move 19 (sl 5)),
 .o (.lenS 20 (sl 19)),
 .o (.move 21 (ci 0))])
 ((.block 0 (.loop (.seq (.reg [.o (.bin 22 .lss (sl 21) (sl 20))])
 ((.seq (.cond (sl 22) .skip
 (.exit 0))
 ((.seq (.block 1 (.seq (.reg [.o (.move 23 (sl 21)),
 .o (.idx 24 1 (sl 19) (sl 21)),
 .o (.load1 25 (sl 24)),
 .o (.move 6 (sl 23)),
 .o (.move 7 (sl 25))])
 ((.seq (.reg [.o (.fld 26 1 (sl 3)),
 .o (.load1 27 (sl 26)),
 .o (.move 28 (sl 6)),
 .o (.idx 29 1 (sl 27) (sl 28)),
 .o (.load1 30 (sl 29)),
 .o (.move 8 (sl 30))])
 ((.seq (.draw [] [(kR, .o (.move 31 (sl 8))),
 (kR, .o (.lenS 32 (sl 31))),
 (kR, .o (.fld 33 0 (sl 2))),
 (kR, .o (.fld 34 0 (sl 33))),
 (kR, .o (.load1 35 (sl 34))),
 (kR, .o (.move 36 (sl 7))),
 (kR, .o (.idx 37 1 (sl 36) (ci 0))),
 (kR, .o (.load1 38 (sl 37))),
 (kR, .o (.idx 39 5 (sl 35) (sl 38))),
 (kR, .o (.fld 40 4 (sl 39))),
 (kR, .o (.load1 41 (sl 40))),
 (kR, .o (.lenS 42 (sl 41))),
 (kR, .o (.bin 43 .neq (sl 32) (sl 42))),
 (kR, .o (.move 44 (sl 43))),
 (kR, .g 44 false (some 45) (.move 45 (sl 8))),
 (kR, .g 44 false (some 46) (.call (some 46) (cf 45) [(sl 45), (ci 0), (ci 60)])),
 (kR, .g 44 false (some 47) (.un 47 .not (sl 46))),
 (kR, .o (.pick 48 (sl 44) (cb true) (sl 47))),
 (kR, .o (.move 49 (sl 48))),
 (kR, .g 49 false (some 50) (.move 50 (sl 8))),
 (kR, .g 49 false (some 51) (.call (some 51) (cf 68) [(sl 50)])),
 (kR, .g 49 false (some 52) (.bin 52 .neq (sl 51) (ci 60))),
 (kR, .o (.pick 53 (sl 49) (cb true) (sl 52)))])
 ((.cond (sl 53) (.seq (.reg [.o (.move 4 (cb false))])
 (.ret))
 .skip))))))))
 ((.reg [.o (.bin 54 .add (sl 21) (ci 1)),
 .o (.move 21 (sl 54))])))))))))))
 ((.seq (.reg [.o (.move 4 (cb true))])
 (.ret))))))))))
theorem fun_impl_isStrategy {rin : List T} {args : List A} {Q : List T → T → Prop} (ha : args.length ≤ 55) (h : cW Tryd.prog 55 c_impl_isStrategy (retP Tryd.prog [.tmp 4] rin.length Q) (St.of (enum 0 args) (enum 1000000000 rin))) :
    Fun Tryd.prog 69 rin args Q :=
  Fun.of (H := ⟨[], []⟩) Tryd.func69 rfl rfl rfl (by kernel_rfl) ha (by decide) h

def c_impl_nodesOf : CC :=
 (.seq (.reg [.o (.box 2 (sl 0)),
 .o (.move 4 (cv (.slice none 0 0)))])
 ((.seq (.reg [.o (.move 5 (cv (.slice none 0 0)))])
 ((.seq (.seq (.reg [.o (.fld 8 0 (sl 2)),
 .o (.load1 9 (sl 8)),
 .o (.lenS 10 (sl 9)),
 .o (.move 11 (ci 0))])
 ((.block 0 (.loop (.seq (.reg [.o (.bin 12 .lss (sl 11) (sl 10))])
 ((.seq (.cond (sl 12) .skip
 (.exit 0))
 ((.seq (.block 1 (.seq (.reg [.o (.move 13 (sl 11)),
 .o (.idx 14 5 (sl 9) (sl 11)),
 .o (.loadN 15 5 (sl 14)),
 .o (.alloc 7 [.v (.int .i64 0), .v (.int .i64 0), .v (.int .i64 0), .v (.int .i64 0), .v (.slice none 0 0)]),
 .o (.move 6 (sl 13)),
 .o (.store 5 (sl 7) (sl 15))])
 ((.seq (.reg [.o (.fld 16 0 (sl 7)),
 .o (.load1 17 (sl 16)),
 .o (.move 18 (sl 1)),
 .o (.bin 19 .eql (sl 17) (sl 18))])
 ((.cond (sl 19) (.reg [.o (.move 20 (sl 5)),
 .o (.move 21 (sl 6)),
 .o (.bslice 22 1 1 [(0, (sl 21))]),
 .o (.app 23 1 8 (sl 20) (sl 22)),
 .o (.move 5 (sl 23))])
 .skip))))))
 ((.reg [.o (.bin 24 .add (sl 11) (ci 1)),
 .o (.move 11 (sl 24))])))))))))))
 ((.seq (.reg [.o (.move 25 (sl 5)),
 .o (.move 4 (sl 25))])
 (.ret))))))))
theorem fun_impl_nodesOf {rin : List T} {args : List A} {Q : List T → T → Prop} (ha : args.length ≤ 26) (h : cW Tryd.prog 26 c_impl_nodesOf (retP Tryd.prog [.tmp 4] rin.length Q) (St.of (enum 0 args) (enum 1000000000 rin))) :
    Fun Tryd.prog 71 rin args Q :=
  Fun.of (H := ⟨[], []⟩) Tryd.func71 rfl rfl rfl (by kernel_rfl) ha (by decide) h

def c_laws_eqTreeNode : CC :=
 (.seq (.reg [.o (.box 2 (sl 0)),
 .o (.box 3 (sl 1)),
 .o (.move 4 (cb false))])
 ((.seq (.seq (.reg [.o (.fld 5 0 (sl 2)),
 .o (.load1 6 (sl 5)),
 .o (.fld 7 0 (sl 3)),
 .o (.load1 8 (sl 7)),
 .o (.bin 9 .neq (sl 6) (sl 8))])
 ((.cond (sl 9) (.seq (.reg [.o (.move 4 (cb false))])
 (.ret))
 .skip)))
 ((.seq (.seq (.reg [.o (.fld 10 1 (sl 2)),
 .o (.load1 11 (sl 10)),
 .o (.fld 12 1 (sl 3)),
 .o (.load1 13 (sl 12)),
 .o (.bin 14 .neq (sl 11) (sl 13))])
 ((.cond (sl 14) (.seq (.reg [.o (.move 4 (cb false))])
 (.ret))
 .skip)))
 ((.seq (.seq (.reg [.o (.fld 15 2 (sl 2)),
 .o (.load1 16 (sl 15)),
 .o (.fld 17 2 (sl 3)),
 .o (.load1 18 (sl 17)),
 .o (.bin 19 .neq (sl 16) (sl 18))])
 ((.cond (sl 19) (.seq (.reg [.o (.move 4 (cb false))])
 (.ret))
 .skip)))
 ((.seq (.seq (.reg [.o (.fld 20 3 (sl 2)),
 .o (.load1 21 (sl 20)),
 .o (.fld 22 3 (sl 3)),
 .o (.load1 23 (sl 22)),
 .o (.bin 24 .neq (sl 21) (sl 23))])
 ((.cond (sl 24) (.seq (.reg [.o (.move 4 (cb false))])
 (.ret))
 .skip)))
 ((.seq (.seq (.reg [.o (.fld 25 4 (sl 2)),
 .o (.load1 26 (sl 25)),
 .o (.fld 27 4 (sl 3)),
 .o (.load1 28 (sl 27)),
 .o (.call (some 29) (cf 58) [(sl 26), (sl 28)]),
 .o (.un 30 .not (sl 29))])
 ((.cond (sl 30) (.seq (.reg [.o (.move 4 (cb false))])
 (.ret))
 .skip)))
 ((.seq (.reg [.o (.move 4 (cb true))])
 (.ret))))))))))))))
theorem fun_laws_eqTreeNode {rin : List T} {args : List A} {Q : List T → T → Prop} (ha : args.length ≤ 31) (h : cW Tryd.prog 31 c_laws_eqTreeNode (retP Tryd.prog [.tmp 4] rin.length Q) (St.of (enum 0 args) (enum 1000000000 rin))) :
    Fun Tryd.prog 75 rin args Q :=
  Fun.of (H := ⟨[], []⟩) Tryd.func75 rfl rfl rfl (by kernel_rfl) ha (by decide) h

def c_spec_l20Node : CC :=
 (.seq (.reg [.o (.box 2 (sl 0)),
 .o (.move 4 (cb false))])
 ((.seq (.reg [.o (.fld 6 0 (sl 2)),
 .o (.load1 7 (sl 6)),
 .o (.move 8 (sl 1)),
 .o (.idx 9 5 (sl 7) (sl 8)),
 .o (.loadN 10 5 (sl 9)),
 .o (.alloc 5 [.v (.int .i64 0), .v (.int .i64 0), .v (.int .i64 0), .v (.int .i64 0), .v (.slice none 0 0)]),
 .o (.store 5 (sl 5) (sl 10))])
 ((.seq (.seq (.reg [.o (.fld 11 0 (sl 5)),
 .o (.load1 12 (sl 11)),
 .o (.call (some 13) (cf 61) [(sl 12), (ci 0), (ci 2)]),
 .o (.un 14 .not (sl 13)),
 .o (.move 15 (sl 14)),
 .g 15 false (some 16) (.fld 16 1 (sl 5)),
 .g 15 false (some 17) (.load1 17 (sl 16)),
 .g 15 false (some 18) (.call (some 18) (cf 61) [(sl 17), (ci 0), (ci 100)]),
 .g 15 false (some 19) (.un 19 .not (sl 18)),
 .o (.pick 20 (sl 15) (cb true) (sl 19)),
 .o (.move 21 (sl 20)),
 .g 21 false (some 22) (.fld 22 2 (sl 5)),
 .g 21 false (some 23) (.load1 23 (sl 22)),
 .g 21 false (some 24) (.call (some 24) (cf 61) [(sl 23), (ci 0), (ci 100)]),
 .g 21 false (some 25) (.un 25 .not (sl 24)),
 .o (.pick 26 (sl 21) (cb true) (sl 25)),
 .o (.move 27 (sl 26)),
 .g 27 false (some 28) (.fld 28 3 (sl 5)),
 .g 27 false (some 29) (.load1 29 (sl 28)),
 .g 27 false (some 30) (.call (some 30) (cf 61) [(sl 29), (ci (-1)), (ci 1)]),
 .g 27 false (some 31) (.un 31 .not (sl 30)),
 .o (.pick 32 (sl 27) (cb true) (sl 31))])
 ((.cond (sl 32) (.seq (.reg [.o (.move 4 (cb false))])
 (.ret))
 .skip)))
 ((.seq (.seq (.reg [.o (.fld 33 0 (sl 5)),
 .o (.load1 34 (sl 33)),
 .o (.bin 35 .eql (sl 34) (ci 2))])
 ((.cond (sl 35) (.seq (.reg [.o (.fld 36 4 (sl 5)),
 .o (.load1 37 (sl 36)),
 .o (.lenS 38 (sl 37)),
 .o (.bin 39 .eql (sl 38) (ci 0)),
 .o (.move 40 (sl 39)),
 .g 40 true (some 41) (.fld 41 3 (sl 5)),
 .g 40 true (some 42) (.load1 42 (sl 41)),
 .g 40 true (some 43) (.bin 43 .geq (sl 42) (ci 0)),
 .g 40 true (some 44) (.move 44 (sl 43)),
 .g 44 false (some 45) (.fld 45 1 (sl 5)),
 .g 44 false (some 46) (.load1 46 (sl 45)),
 .g 44 false (some 47) (.fld 47 2 (sl 5)),
 .g 44 false (some 48) (.load1 48 (sl 47)),
 .g 44 false (some 49) (.bin 49 .eql (sl 46) (sl 48)),
 .g 40 true (some 50) (.pick 50 (sl 44) (cb true) (sl 49)),
 .o (.pick 51 (sl 40) (sl 50) (cb false)),
 .o (.move 4 (sl 51))])
 (.ret))
 .skip)))
 ((.seq (.seq (.reg [.o (.fld 52 3 (sl 5)),
 .o (.load1 53 (sl 52)),
 .o (.bin 54 .neq (sl 53) (ci (-1))),
 .o (.move 55 (sl 54)),
 .g 55 false (some 56) (.fld 56 4 (sl 5)),
 .g 55 false (some 57) (.load1 57 (sl 56)),
 .g 55 false (some 58) (.lenS 58 (sl 57)),
 .g 55 false (some 59) (.call (some 59) (cf 61) [(sl 58), (ci 1), (ci 4)]),
 .g 55 false (some 60) (.un 60 .not (sl 59)),
 .o (.pick 61 (sl 55) (cb true) (sl 60)),
 .o (.move 62 (sl 61)),
 .g 62 false (some 63) (.fld 63 4 (sl 5)),
 .g 62 false (some 64) (.load1 64 (sl 63)),
 .g 62 false (some 65) (.fld 65 0 (sl 2)),
 .g 62 false (some 66) (.load1 66 (sl 65)),
 .g 62 false (some 67) (.lenS 67 (sl 66)),
 .g 62 false (some 68) (.call (some 68) (cf 83) [(sl 64), (sl 67)]),
 .g 62 false (some 69) (.un 69 .not (sl 68)),
 .o (.pick 70 (sl 62) (cb true) (sl 69))])
 ((.cond (sl 70) (.seq (.reg [.o (.move 4 (cb false))])
 (.ret))
 .skip)))
 ((.seq (.reg [.o (.fld 71 4 (sl 5)),
 .o (.load1 72 (sl 71)),
 .o (.idx 73 1 (sl 72) (ci 0)),
 .o (.load1 74 (sl 73)),
 .o (.move 75 (sl 1)),
 .o (.bin 76 .gtr (sl 74) (sl 75)),
 .o (.move 4 (sl 76))])
 (.ret))))))))))))
theorem fun_spec_l20Node {rin : List T} {args : List A} {Q : List T → T → Prop} (ha : args.length ≤ 77) (h : cW Tryd.prog 77 c_spec_l20Node (retP Tryd.prog [.tmp 4] rin.length Q) (St.of (enum 0 args) (enum 1000000000 rin))) :
    Fun Tryd.prog 76 rin args Q :=
  Fun.of (H := ⟨[], []⟩) Tryd.func76 rfl rfl rfl (by kernel_rfl) ha (by decide) h

def c_spec_l23Pair : CC :=
 (.seq (.reg [.o (.box 3 (sl 0)),
 .o (.box 4 (sl 1)),
 .o (.box 5 (sl 2)),
 .o (.move 6 (cb false))])
 ((.seq (.reg [.o (.loadN 7 3 (sl 3)),
 .o (.loadN 8 2 (sl 4)),
 .o (.call (some 9) (cf 35) [(sl 7), (sl 8)]),
 .o (.move 10 (sl 9)),
 .g 10 true (some 11) (.loadN 11 3 (sl 3)),
 .g 10 true (some 12) (.loadN 12 2 (sl 5)),
 .g 10 true (some 13) (.call (some 13) (cf 35) [(sl 11), (sl 12)]),
 .o (.pick 14 (sl 10) (sl 13) (cb false)),
 .o (.move 15 (sl 14)),
 .g 15 true (some 16) (.fld 16 0 (sl 4)),
 .g 15 true (some 17) (.load1 17 (sl 16)),
 .g 15 true (some 18) (.bin 18 .eql (sl 17) (ci 0)),
 .o (.pick 19 (sl 15) (sl 18) (cb false)),
 .o (.move 20 (sl 19)),
 .g 20 true (some 21) (.fld 21 0 (sl 5)),
 .g 20 true (some 22) (.load1 22 (sl 21)),
 .g 20 true (some 23) (.bin 23 .eql (sl 22) (ci 1)),
 .o (.pick 24 (sl 20) (sl 23) (cb false)),
 .o (.move 6 (sl 24))])
 (.ret))))
theorem fun_spec_l23Pair {rin : List T} {args : List A} {Q : List T → T → Prop} (ha : args.length ≤ 25) (h : cW Tryd.prog 25 c_spec_l23Pair (retP Tryd.prog [.tmp 6] rin.length Q) (St.of (enum 0 args) (enum 1000000000 rin))) :
    Fun Tryd.prog 77 rin args Q :=
  Fun.of (H := ⟨[], []⟩) Tryd.func77 rfl rfl rfl (by kernel_rfl) ha (by decide) h

def c_spec_l24Both : CC :=
 (.seq (.reg [.o (.box 3 (sl 0)),
 .o (.box 4 (sl 1)),
 .o (.box 5 (sl 2)),
 .o (.move 6 (ci 0)),
 .o (.move 7 (ci 0))])
 ((.seq (.reg [.o (.loadN 13 3 (sl 3)),
 .o (.loadN 14 2 (sl 5)),
 .o (.call (some 15) (cf 84) [(sl 13), (sl 14)]),
 .o (.move 12 (sl 15)),
 .o (.extract 16 (sl 12) 0),
 .o (.extract 17 (sl 12) 1),
 .o (.alloc 9 [.v (.int .i64 0), .v (.slice none 0 0)]),
 .o (.move 8 (sl 16)),
 .o (.store 2 (sl 9) (sl 17))])
 ((.seq (.reg [.o (.loadN 19 3 (sl 3)),
 .o (.loadN 20 2 (sl 4)),
 .o (.call (some 21) (cf 84) [(sl 19), (sl 20)]),
 .o (.move 18 (sl 21)),
 .o (.extract 22 (sl 18) 0),
 .o (.extract 23 (sl 18) 1),
 .o (.alloc 11 [.v (.int .i64 0), .v (.slice none 0 0)]),
 .o (.move 10 (sl 22)),
 .o (.store 2 (sl 11) (sl 23))])
 ((.seq (.reg [.o (.move 24 (sl 8)),
 .o (.move 25 (sl 10)),
 .o (.move 6 (sl 24)),
 .o (.move 7 (sl 25))])
 (.ret))))))))
theorem fun_spec_l24Both {rin : List T} {args : List A} {Q : List T → T → Prop} (ha : args.length ≤ 26) (h : cW Tryd.prog 26 c_spec_l24Both (retP Tryd.prog [.tmp 6, .tmp 7] rin.length Q) (St.of (enum 0 args) (enum 1000000000 rin))) :
    Fun Tryd.prog 78 rin args Q :=
  Fun.of (H := ⟨[], []⟩) Tryd.func78 rfl rfl rfl (by kernel_rfl) ha (by decide) h

def c_spec_l01Rises : CC :=
 (.seq (.reg [.o (.move 4 (cb false))])
 ((.seq (.seq (.reg [.o (.move 5 (ci 0))])
 ((.block 0 (.loop (.seq (.seq (.reg [.o (.move 6 (sl 5)),
 .o (.move 7 (sl 0)),
 .o (.lenS 8 (sl 7)),
 .o (.bin 9 .lss (sl 6) (sl 8))])
 ((.cond (sl 9) .skip
 (.exit 0))))
 ((.seq (.block 1 (.seq (.draw [] [(kR, .o (.move 12 (sl 0))),
 (kR, .o (.move 13 (sl 5))),
 (kR, .o (.idx 14 1 (sl 12) (sl 13))),
 (kR, .o (.load1 15 (sl 14))),
 (kR, .o (.move 16 (sl 1))),
 (kR, .o (.bin 17 .sub (sl 16) (ci 1))),
 (kR, .o (.call (some 18) (cf 61) [(sl 15), (ci 0), (sl 17)])),
 (kR, .o (.un 19 .not (sl 18))),
 (kR, .o (.move 20 (sl 19))),
 (kR, .g 20 false (some 21) (.move 21 (sl 5))),
 (kR, .g 20 false (some 22) (.bin 22 .gtr (sl 21) (ci 0))),
 (kR, .g 20 false (some 23) (.move 23 (sl 22))),
 (kR, .g 23 true (some 24) (.move 24 (sl 0))),
 (kR, .g 23 true (some 25) (.move 25 (sl 5))),
 (kR, .g 23 true (some 26) (.idx 26 1 (sl 24) (sl 25))),
 (kR, .g 23 true (some 27) (.load1 27 (sl 26))),
 (kR, .g 23 true (some 28) (.move 28 (sl 0))),
 (kR, .g 23 true (some 29) (.move 29 (sl 5))),
 (kR, .g 23 true (some 30) (.bin 30 .sub (sl 29) (ci 1))),
 (kR, .g 23 true (some 31) (.idx 31 1 (sl 28) (sl 30))),
 (kR, .g 23 true (some 32) (.load1 32 (sl 31))),
 (kR, .g 23 true (some 33) (.bin 33 .leq (sl 27) (sl 32))),
 (kR, .g 20 false (some 34) (.pick 34 (sl 23) (sl 33) (cb false))),
 (kR, .o (.pick 35 (sl 20) (cb true) (sl 34)))])
 ((.cond (sl 35) (.seq (.reg [.o (.move 4 (cb false))])
 (.ret))
 .skip))))
 ((.reg [.o (.move 10 (sl 5)),
 .o (.bin 11 .add (sl 10) (ci 1)),
 .o (.move 5 (sl 11))])))))))))
 ((.seq (.reg [.o (.move 4 (cb true))])
 (.ret))))))
theorem fun_spec_l01Rises {rin : List T} {args : List A} {Q : List T → T → Prop} (ha : args.length ≤ 36) (h : cW Tryd.prog 36 c_spec_l01Rises (retP Tryd.prog [.tmp 4] rin.length Q) (St.of (enum 0 args) (enum 1000000000 rin))) :
    Fun Tryd.prog 83 rin args Q :=
  Fun.of (H := ⟨[], []⟩) Tryd.func83 rfl rfl rfl (by kernel_rfl) ha (by decide) h

def c_impl_payoffAt : CC :=
 (.seq (.reg [.o (.box 4 (sl 0)),
 .o (.move 8 (ci 0))])
 ((.seq (.reg [.o (.fld 11 0 (sl 4)),
 .o (.fld 12 0 (sl 11)),
 .o (.load1 13 (sl 12)),
 .o (.move 14 (sl 1)),
 .o (.idx 15 5 (sl 13) (sl 14)),
 .o (.loadN 16 5 (sl 15)),
 .o (.alloc 9 [.v (.int .i64 0), .v (.int .i64 0), .v (.int .i64 0), .v (.int .i64 0), .v (.slice none 0 0)]),
 .o (.store 5 (sl 9) (sl 16))])
 ((.seq (.reg [.o (.fld 17 2 (sl 4)),
 .o (.load1 18 (sl 17)),
 .o (.move 19 (sl 2)),
 .o (.idx 20 1 (sl 18) (sl 19)),
 .o (.load1 21 (sl 20)),
 .o (.move 22 (sl 3)),
 .o (.idx 23 1 (sl 21) (sl 22)),
 .o (.load1 24 (sl 23)),
 .o (.move 10 (sl 24))])
 ((.seq (.seq (.reg [.o (.fld 25 3 (sl 9)),
 .o (.load1 26 (sl 25))])
 ((.block 0 (.seq (.reg [.o (.bin 28 .eql (sl 26) (ci 0)),
 .o (.move 27 (sl 28))])
 ((.cond (sl 27) (.reg [.o (.move 10 (ci (-1)))])
 (.seq (.reg [.o (.bin 30 .eql (sl 26) (ci 1)),
 .o (.move 29 (sl 30))])
 ((.cond (sl 29) (.reg [.o (.move 10 (ci 1))])
 .skip)))))))))
 ((.seq (.seq (.reg [.o (.move 31 (sl 10))])
 ((.block 1 (.seq (.reg [.o (.bin 33 .eql (sl 31) (ci 1)),
 .o (.move 32 (sl 33))])
 ((.cond (sl 32) (.seq (.reg [.o (.fld 34 2 (sl 9)),
 .o (.load1 35 (sl 34)),
 .o (.move 8 (sl 35))])
 (.ret))
 (.seq (.reg [.o (.bin 37 .eql (sl 31) (ci (-1))),
 .o (.move 36 (sl 37))])
 ((.cond (sl 36) (.seq (.reg [.o (.fld 38 1 (sl 9)),
 .o (.load1 39 (sl 38)),
 .o (.un 40 .neg (sl 39)),
 .o (.move 8 (sl 40))])
 (.ret))
 .skip)))))))))
 ((.seq (.reg [.o (.move 8 (ci 0))])
 (.ret))))))))))))
theorem fun_impl_payoffAt {rin : List T} {args : List A} {Q : List T → T → Prop} (ha : args.length ≤ 41) (h : cW Tryd.prog 41 c_impl_payoffAt (retP Tryd.prog [.tmp 8] rin.length Q) (St.of (enum 0 args) (enum 1000000000 rin))) :
    Fun Tryd.prog 85 rin args Q :=
  Fun.of (H := ⟨[], []⟩) Tryd.func85 rfl rfl rfl (by kernel_rfl) ha (by decide) h

def c_spec_l24Deal : CC :=
 (.seq (.reg [.o (.move 6 (ci 0)),
 .o (.move 7 (ci 0))])
 ((.seq (.seq (.reg [.o (.move 8 (sl 0)),
 .o (.nilc 9 (sl 8)),
 .o (.fld 10 3 (sl 9)),
 .o (.load1 11 (sl 10)),
 .o (.bin 12 .eql (sl 11) (ci 0))])
 ((.cond (sl 12) (.seq (.reg [.o (.move 13 (sl 1)),
 .o (.move 14 (sl 2)),
 .o (.move 6 (sl 13)),
 .o (.move 7 (sl 14))])
 (.ret))
 .skip)))
 ((.seq (.reg [.o (.move 15 (sl 2)),
 .o (.move 16 (sl 1)),
 .o (.move 6 (sl 15)),
 .o (.move 7 (sl 16))])
 (.ret))))))
theorem fun_spec_l24Deal {rin : List T} {args : List A} {Q : List T → T → Prop} (ha : args.length ≤ 17) (h : cW Tryd.prog 17 c_spec_l24Deal (retP Tryd.prog [.tmp 6, .tmp 7] rin.length Q) (St.of (enum 0 args) (enum 1000000000 rin))) :
    Fun Tryd.prog 91 rin args Q :=
  Fun.of (H := ⟨[], []⟩) Tryd.func91 rfl rfl rfl (by kernel_rfl) ha (by decide) h

def c_spec_l21Payoff : CC :=
 (.seq (.reg [.o (.box 4 (sl 0)),
 .o (.move 8 (ci 0))])
 ((.seq (.reg [.o (.fld 11 0 (sl 4)),
 .o (.fld 12 0 (sl 11)),
 .o (.load1 13 (sl 12)),
 .o (.move 14 (sl 1)),
 .o (.idx 15 5 (sl 13) (sl 14)),
 .o (.loadN 16 5 (sl 15)),
 .o (.alloc 9 [.v (.int .i64 0), .v (.int .i64 0), .v (.int .i64 0), .v (.int .i64 0), .v (.slice none 0 0)]),
 .o (.store 5 (sl 9) (sl 16))])
 ((.seq (.reg [.o (.fld 17 2 (sl 4)),
 .o (.load1 18 (sl 17)),
 .o (.move 19 (sl 2)),
 .o (.idx 20 1 (sl 18) (sl 19)),
 .o (.load1 21 (sl 20)),
 .o (.move 22 (sl 3)),
 .o (.idx 23 1 (sl 21) (sl 22)),
 .o (.load1 24 (sl 23)),
 .o (.move 10 (sl 24))])
 ((.seq (.seq (.reg [.o (.fld 25 3 (sl 9)),
 .o (.load1 26 (sl 25))])
 ((.block 0 (.seq (.reg [.o (.bin 28 .eql (sl 26) (ci 0)),
 .o (.move 27 (sl 28))])
 ((.cond (sl 27) (.reg [.o (.move 10 (ci (-1)))])
 (.seq (.reg [.o (.bin 30 .eql (sl 26) (ci 1)),
 .o (.move 29 (sl 30))])
 ((.cond (sl 29) (.reg [.o (.move 10 (ci 1))])
 .skip)))))))))
 ((.seq (.seq (.reg [.o (.move 31 (sl 10))])
 ((.block 1 (.seq (.reg [.o (.bin 33 .eql (sl 31) (ci (-1))),
 .o (.move 32 (sl 33))])
 ((.cond (sl 32) (.seq (.reg [.o (.fld 34 1 (sl 9)),
 .o (.load1 35 (sl 34)),
 .o (.un 36 .neg (sl 35)),
 .o (.move 8 (sl 36))])
 (.ret))
 (.seq (.reg [.o (.bin 38 .eql (sl 31) (ci 1)),
 .o (.move 37 (sl 38))])
 ((.cond (sl 37) (.seq (.reg [.o (.fld 39 2 (sl 9)),
 .o (.load1 40 (sl 39)),
 .o (.move 8 (sl 40))])
 (.ret))
 .skip)))))))))
 ((.seq (.reg [.o (.move 8 (ci 0))])
 (.ret))))))))))))
theorem fun_spec_l21Payoff {rin : List T} {args : List A} {Q : List T → T → Prop} (ha : args.length ≤ 41) (h : cW Tryd.prog 41 c_spec_l21Payoff (retP Tryd.prog [.tmp 8] rin.length Q) (St.of (enum 0 args) (enum 1000000000 rin))) :
    Fun Tryd.prog 98 rin args Q :=
  Fun.of (H := ⟨[], []⟩) Tryd.func98 rfl rfl rfl (by kernel_rfl) ha (by decide) h

def c_spec_l23Set : CC :=
 (.seq (.reg [.o (.box 4 (sl 0)),
 .o (.move 8 (ci 0))])
 ((.seq (.reg [.o (.fld 11 0 (sl 4)),
 .o (.loadN 12 1 (sl 11)),
 .o (.move 13 (sl 1)),
 .o (.call (some 14) (cf 65) [(sl 12), (sl 13)]),
 .o (.move 9 (sl 14))])
 ((.seq (.seq (.reg [.o (.move 10 (ci 0))])
 ((.block 0 (.loop (.seq (.seq (.reg [.o (.move 15 (sl 10)),
 .o (.move 16 (sl 9)),
 .o (.lenS 17 (sl 16)),
 .o (.bin 18 .lss (sl 15) (sl 17))])
 ((.cond (sl 18) .skip
 (.exit 0))))
 ((.seq (.block 1 (.seq (.reg [.o (.move 21 (sl 9)),
 .o (.move 22 (sl 10)),
 .o (.idx 23 1 (sl 21) (sl 22)),
 .o (.load1 24 (sl 23)),
 .o (.move 25 (sl 2)),
 .o (.bin 26 .eql (sl 24) (sl 25))])
 ((.cond (sl 26) (.seq (.reg [.o (.move 27 (sl 10)),
 .o (.fld 28 1 (sl 4)),
 .o (.load1 29 (sl 28)),
 .o (.lenS 30 (sl 29)),
 .o (.bin 31 .mul (sl 27) (sl 30)),
 .o (.move 32 (sl 3)),
 .o (.bin 33 .add (sl 31) (sl 32)),
 .o (.move 8 (sl 33))])
 (.ret))
 .skip))))
 ((.reg [.o (.move 19 (sl 10)),
 .o (.bin 20 .add (sl 19) (ci 1)),
 .o (.move 10 (sl 20))])))))))))
 ((.seq (.reg [.o (.move 8 (ci (-1)))])
 (.ret))))))))
theorem fun_spec_l23Set {rin : List T} {args : List A} {Q : List T → T → Prop} (ha : args.length ≤ 34) (h : cW Tryd.prog 34 c_spec_l23Set (retP Tryd.prog [.tmp 8] rin.length Q) (St.of (enum 0 args) (enum 1000000000 rin))) :
    Fun Tryd.prog 99 rin args Q :=
  Fun.of (H := ⟨[], []⟩) Tryd.func99 rfl rfl rfl (by kernel_rfl) ha (by decide) h

end Go.Ab

/- Contracts: whole numbers, IsMatrix. -/
set_option linter.unusedSimpArgs false
set_option linter.unusedVariables false
namespace Go.Ab
open Go.Proofs

theorem impl_within_ok (n lo hi : Int) : Pure Tryd.prog 44 [.i n, .i lo, .i hi] (.b (decide (lo ≤ n ∧ n ≤ hi))) := by
  refine fun_impl_within (by simp) ?_
  simp -implicitDefEqProofs only [c_impl_within, go_sem]
  refine ⟨fun h => ?_, fun h => ?_⟩
  · have : lo ≤ n := h
    simp [this]
  · have : ¬ lo ≤ n := h
    simp [this]

theorem impl_allWithin_ok (l : List Int) (lo hi : Int) (hl : l.length ≤ 1000000000000) : Pure Tryd.prog 45 [ints l, .i lo, .i hi] (.b (l.all fun x => decide (lo ≤ x ∧ x ≤ hi))) := by
  refine fun_impl_allWithin (by simp) ?_
  simp -implicitDefEqProofs only [c_impl_allWithin, ints, go_sem]
  refine SemC.loopR (σ := Nat) (fun i => St.of [(0, .t (ints l)), (1, .t (.i lo)), (2, .t (.i hi)), (6, .t (.b false)), (9, .t (ints l)), (10, .t (.i l.length)), (11, .t (.i i))] []) (fun i => i ≤ l.length ∧ ∀ x ∈ l.take i, lo ≤ x ∧ x ≤ hi) (fun i => l.length - i) 0 (Weak.of _ [] [] (by simp) (by simp) ?_ trivial) ⟨by simp, by simp⟩ fun i hI R hn hr he => ?_
  · simp -implicitDefEqProofs only [ints, wkR, Nat.reduceEqDiff, ↓reduceIte]
  · simp -implicitDefEqProofs only [ints, go_sem]
    refine ⟨fun h => ⟨by omega, by omega, by omega, fun c x hx hc => ?_⟩, fun h => he _ _ ?_⟩
    · subst hc
      rw [toNat_cast] at hx
      refine CallW.pure (impl_within_ok x lo hi) [] rfl Tryd.call44 ?_ ?_ rfl ?_
      · simp -implicitDefEqProofs only [vaR, go_sem]
      · trivial
      · simp -implicitDefEqProofs only [go_sem]
        refine ⟨fun h1 => hr _ ?_, fun h1 => hn _ (i + 1) (Weak.of _ [] [] (by simp) (by simp) ?_ trivial) ⟨by omega, take_succ_all hx hI.2 (by simpa using h1)⟩ (by omega)⟩
        · simp -implicitDefEqProofs only [go_sem]
          have : l.all (fun x => decide (lo ≤ x ∧ x ≤ hi)) = false := by
            rw [List.all_eq_false]
            exact ⟨x, List.mem_of_getElem? hx, by simp at h1 ⊢; omega⟩
          rw [this]
        · simp -implicitDefEqProofs only [ints, wkR, Nat.reduceEqDiff, ↓reduceIte, next64 (by omega : i < l.length) hl]
    · simp -implicitDefEqProofs only [go_sem]
      have : l.all (fun x => decide (lo ≤ x ∧ x ≤ hi)) = true := by
        rw [List.all_eq_true]
        intro x hx
        have := hI.2 x (by rw [List.take_of_length_le (by omega)]; exact hx)
        simpa using this
      rw [this]
end Go.Ab

/- Contracts: equality of rows and matrices. -/
set_option linter.unusedSimpArgs false
set_option linter.unusedVariables false
namespace Go.Ab
open Go.Proofs

theorem laws_eqInt64S_ok (a b : List Int) (ha : a.length ≤ 1000000000000) (hb : b.length ≤ 1000000000000) : Pure Tryd.prog 58 [ints a, ints b] (.b (decide (a = b))) := by
  refine fun_laws_eqInt64S (by simp) ?_
  simp -implicitDefEqProofs only [c_laws_eqInt64S, ints, go_sem]
  refine ⟨fun h => ?_, fun h => ?_⟩
  · have : a ≠ b := by rintro rfl; simp at h
    simp [this]
  · have hab : a.length = b.length := by simp at h; omega
    refine SemC.loopR (σ := Nat) (fun i => St.of [(0, .t (ints a)), (1, .t (ints b)), (5, .t (.i i))] []) (fun i => i ≤ a.length ∧ ∀ j, j < i → a[j]? = b[j]?) (fun i => a.length - i) 0 (Weak.of _ [] [] (by simp) (by simp) ?_ trivial) ⟨by simp, fun j hj => by omega⟩ fun i hI R hn hr he => ?_
    · simp -implicitDefEqProofs only [ints, wkR, Nat.reduceEqDiff, ↓reduceIte]
    · simp -implicitDefEqProofs only [ints, go_sem, toNat_cast]
      refine ⟨fun h => ⟨by omega, by omega, by omega, fun c x hx hc => ⟨by omega, by omega, by omega, fun c' y hy hc' => ?_⟩⟩, fun h => he _ _ ?_⟩
      · subst hc hc'
        simp -implicitDefEqProofs only [go_sem]
        refine ⟨fun h1 => hr _ ?_, fun h1 => hn _ (i + 1) (Weak.of _ [] [] (by simp) (by simp) ?_ trivial) ⟨by omega, fun j hj => ?_⟩ (by omega)⟩
        · simp -implicitDefEqProofs only [go_sem]
          have : a ≠ b := by rintro rfl; rw [hx] at hy; cases hy; simp at h1
          simp [this]
        · simp -implicitDefEqProofs only [ints, wkR, Nat.reduceEqDiff, ↓reduceIte, next64 (by omega : i < a.length) ha]
        · rcases Nat.lt_or_ge j i with h | h
          · exact hI.2 j h
          · have : j = i := by omega
            subst this
            rw [hx, hy]; simpa using h1
      · simp -implicitDefEqProofs only [go_sem]
        have : a = b := by
          refine List.ext_getElem? fun j => ?_
          rcases Nat.lt_or_ge j i with h | h
          · exact hI.2 j h
          · rw [List.getElem?_eq_none (by omega), List.getElem?_eq_none (by omega)]
        simp [this]

theorem laws_eqInt64SS_ok (a b : List (List Int)) (ha : a.length ≤ 1000000000000) (hb : b.length ≤ 1000000000000) (hra : ∀ r ∈ a, r.length ≤ 1000000000000) (hrb : ∀ r ∈ b, r.length ≤ 1000000000000) :
    Pure Tryd.prog 29 [rows a, rows b] (.b (decide (a = b))) := by
  refine fun_laws_eqInt64SS (by simp) ?_
  simp -implicitDefEqProofs only [c_laws_eqInt64SS, rows, go_sem]
  refine ⟨fun h => ?_, fun h => ?_⟩
  · have : a ≠ b := by rintro rfl; simp at h
    simp [this]
  · have hab : a.length = b.length := by simp at h; omega
    refine SemC.loopR (σ := Nat) (fun i => St.of [(0, .t (rows a)), (1, .t (rows b)), (5, .t (.i i))] []) (fun i => i ≤ a.length ∧ ∀ j, j < i → a[j]? = b[j]?) (fun i => a.length - i) 0 (Weak.of _ [] [] (by simp) (by simp) ?_ trivial) ⟨by simp, fun j hj => by omega⟩ fun i hI R hn hr he => ?_
    · simp -implicitDefEqProofs only [rows, wkR, Nat.reduceEqDiff, ↓reduceIte]
    · simp -implicitDefEqProofs only [rows, go_sem, toNat_cast]
      refine ⟨fun h => ⟨by omega, by omega, by omega, fun c x hx hc => ⟨by omega, by omega, by omega, fun c' y hy hc' => ?_⟩⟩, fun h => he _ _ ?_⟩
      · subst hc hc'
        refine CallV.pure (laws_eqInt64S_ok x y (hra x (List.mem_of_getElem? hx)) (hrb y (List.mem_of_getElem? hy))) [] rfl Tryd.call58 (fun e R' _ => ?_) trivial (fun _ => rfl) ?_
        · simp -implicitDefEqProofs only [vaR, go_sem]
        · simp -implicitDefEqProofs only [go_sem]
          refine ⟨fun h1 => hr _ ?_, fun h1 => hn _ (i + 1) (Weak.of _ [] [] (by simp) (by simp) ?_ trivial) ⟨by omega, fun j hj => ?_⟩ (by omega)⟩
          · simp -implicitDefEqProofs only [go_sem]
            have : a ≠ b := by rintro rfl; rw [hx] at hy; cases hy; simp at h1
            simp [this]
          · simp -implicitDefEqProofs only [rows, wkR, Nat.reduceEqDiff, ↓reduceIte, next64 (by omega : i < a.length) ha]
          · rcases Nat.lt_or_ge j i with h | h
            · exact hI.2 j h
            · have : j = i := by omega
              subst this
              rw [hx, hy]; simpa using h1
      · simp -implicitDefEqProofs only [go_sem]
        have : a = b := by
          refine List.ext_getElem? fun j => ?_
          rcases Nat.lt_or_ge j i with h | h
          · exact hI.2 j h
          · rw [List.getElem?_eq_none (by omega), List.getElem?_eq_none (by omega)]
        simp [this]
end Go.Ab

/- Contracts: sizes, copies. -/
set_option linter.unusedSimpArgs false
set_option linter.unusedVariables false
namespace Go.Ab
open Go.Proofs

def budget (n left : Int) : Int := if left - n < 0 then -1 else left - n

theorem laws_szInt64S_ok (l : List Int) (left : Int) (hl : (l.length : Int) ≤ 9223372036854775807) (h0 : -1 ≤ left) (h1 : left ≤ 9223372036854775807) : Pure Tryd.prog 32 [ints l, .i left] (.i (budget l.length left)) := by
  refine fun_laws_szInt64S (by simp) ?_
  simp -implicitDefEqProofs only [c_laws_szInt64S, ints, go_sem]
  rw [wrap64 (by omega) (by omega)]
  refine ⟨fun h => ?_, fun h => ?_⟩ <;> simp [budget, h]

def filled {α : Type} (l : List α) (f : α → T) (z : T) (i : Nat) : List T := (l.take i).map f ++ List.replicate (l.length - i) z
theorem filled_length {α : Type} (l : List α) (f : α → T) (z : T) (i : Nat) (h : i ≤ l.length) : (filled l f z i).length = l.length := by
  simp [filled]; omega
theorem filled_set {α : Type} {l : List α} {f : α → T} {z : T} {i : Nat} {x : α} (h : l[i]? = some x) : (filled l f z i).set i (f x) = filled l f z (i + 1) := by
  obtain ⟨hi, rfl⟩ := List.getElem?_eq_some_iff.1 h
  refine List.ext_getElem? fun j => ?_
  simp only [filled, List.getElem?_set, List.getElem?_append, List.length_map, List.length_take, List.length_append, List.length_replicate, List.getElem?_map, List.getElem?_take, List.getElem?_replicate, Nat.min_eq_left (Nat.le_of_lt hi), Nat.min_eq_left hi]
  by_cases hj : i = j
  · subst hj
    simp [hi]
    omega
  · by_cases h1 : j < i
    · simp [hj, h1, show j < i + 1 by omega]
    · simp only [hj, h1, show ¬ j < i + 1 by omega, if_false]
      by_cases h2 : j < l.length
      · rw [if_pos (by omega), if_pos (by omega)]
      · rw [if_neg (by omega), if_neg (by omega)]
theorem filled_zero {α : Type} (l : List α) (f : α → T) (z : T) : filled l f z 0 = List.replicate l.length z := by simp [filled]
theorem filled_all {α : Type} (l : List α) (f : α → T) (z : T) : filled l f z l.length = l.map f := by simp [filled]
theorem made_one (z : T) (n : Nat) : made [z] n = List.replicate n z := rfl

theorem laws_toInt64S_ok (l : List Int) (hl : (l.length : Int) ≤ 1000000000000) : Fun Tryd.prog 42 [] [.t (ints l)] fun o r => o = [] ∧ r = intsO l := by
  refine fun_laws_toInt64S (by simp) ?_
  simp -implicitDefEqProofs only [c_laws_toInt64S, ints, go_sem]
  refine ⟨by omega, by omega, ?_⟩
  refine SemC.loopR (σ := Nat) (fun i => St.of [(0, .t (ints l)), (3, .own 7), (4, .t (.i i))] [(7, .arr 1 (filled l T.i (.i 0) i))]) (fun i => i ≤ l.length) (fun i => l.length - i) 0 (Weak.of _ _ [some 7] (by simp) (by simp) ?_ ?_) (by simp) fun i hI R hn hr he => ?_
  · simp -implicitDefEqProofs only [ints, Nat.reduceBEq, wkR, Nat.reduceEqDiff, ↓reduceIte, wrR]
  · exact ⟨⟨_, rfl, by rw [made_one, filled_zero]; exact .refl _⟩, rfl, trivial⟩
  · simp -implicitDefEqProofs only [ints, go_sem, toNat_cast, filled_length l T.i (.i 0) i hI, spl_one, List.filter_nil]
    refine ⟨fun h => ⟨by omega, by omega, by omega, fun c x hx hc => ⟨by omega, by omega, ?_⟩⟩, fun h => he _ _ ?_⟩
    · subst hc
      simp -implicitDefEqProofs only [go_sem, Value.oneCell', filled_length l T.i (.i 0) i hI, spl_one, List.filter_nil, filled_set hx]
      refine ⟨by omega, hn _ (i + 1) (Weak.of _ _ [some 7] (by simp) (by simp) ?_ ?_) (by omega) (by omega)⟩
      · simp -implicitDefEqProofs only [ints, Nat.reduceBEq, wkR, Nat.reduceEqDiff, ↓reduceIte, wrR, next64 (by omega : i < l.length) (by omega)]
      · exact ⟨⟨_, rfl, .refl _⟩, rfl, trivial⟩
    · simp -implicitDefEqProofs only [go_sem]
      have : i = l.length := by omega
      rw [this, filled_all]; rfl

theorem laws_toInt64SS_ok (m : List (List Int)) (hm : (m.length : Int) ≤ 1000000000000) (hr : ∀ r ∈ m, (r.length : Int) ≤ 1000000000000) : Fun Tryd.prog 21 [] [.t (rows m)] fun o r => o = [] ∧ r = rowsO m := by
  refine fun_laws_toInt64SS (by simp) ?_
  simp -implicitDefEqProofs only [c_laws_toInt64SS, rows, go_sem]
  refine ⟨by omega, by omega, ?_⟩
  refine SemC.loopR (σ := Nat) (fun i => St.of [(0, .t (rows m)), (3, .own 7), (4, .t (.i i))] [(7, .arr 1 (filled m intsO (.v (.slice none 0 0)) i))]) (fun i => i ≤ m.length) (fun i => m.length - i) 0 (Weak.of _ _ [some 7] (by simp) (by simp) ?_ ?_) (by simp) fun i hI R hn hr' he => ?_
  · simp -implicitDefEqProofs only [rows, Nat.reduceBEq, wkR, Nat.reduceEqDiff, ↓reduceIte, wrR]
  · exact ⟨⟨_, rfl, by rw [made_one, filled_zero]; exact .refl _⟩, rfl, trivial⟩
  · simp -implicitDefEqProofs only [rows, go_sem, toNat_cast, filled_length m intsO (.v (.slice none 0 0)) i hI, spl_one, List.filter_nil]
    refine ⟨fun h => ⟨by omega, by omega, by omega, fun c x hx hc => ?_⟩, fun h => he _ _ ?_⟩
    · subst hc
      refine CallW.use (cap := []) rfl Tryd.call42 (laws_toInt64S_ok x (hr x (List.mem_of_getElem? hx))) [] [] (by simp) trivial (by simp) ?_ fun rout res hres => ⟨.inl rfl, ?_⟩
      · simp -implicitDefEqProofs only [vaR, go_sem]
      · obtain ⟨rfl, rfl⟩ := hres
        simp -implicitDefEqProofs only [clR, Nat.reduceLeDiff, go_sem, intsO, Value.oneCell', filled_length m intsO (.v (.slice none 0 0)) i hI, spl_one, List.filter_nil]
        refine ⟨by omega, by omega, by omega, hn _ (i + 1) (Weak.of _ _ [some 7] (by simp) (by simp) ?_ ?_) (by omega) (by omega)⟩
        · simp -implicitDefEqProofs only [rows, Nat.reduceBEq, wkR, Nat.reduceEqDiff, ↓reduceIte, wrR, next64 (by omega : i < m.length) (by omega)]
        · refine ⟨⟨_, rfl, ?_⟩, rfl, trivial⟩
          show Le (.arr 1 ((filled m intsO (.v (.slice none 0 0)) i).set i (intsO x))) _
          rw [filled_set hx]; exact .refl _
    · simp -implicitDefEqProofs only [go_sem]
      have : i = m.length := by omega
      rw [this, filled_all]; rfl
end Go.Ab
