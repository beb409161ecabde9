/- The bridge, part 1: what an argument reads as, by its type. -/
import Derived.Deep.Slices
import Derived.Deep.OwnRows
import Derived.DataReads
import Derived.WideKeyArgs
import Derived.WideShapes
import Derived.ChangeShapes
import Derived.ProofKit
import Derived.OpenShut
import Derived.JoinedOf
import Derived.Handed
import Derived.RowKit
import Derived.Test.YtnnmgdngfofjlaaGreatDoorRows
import Derived.Test.YtnnmgdngfofjlaaGreatDoorQ2
set_option linter.unusedSimpArgs false
set_option linter.unusedVariables false
set_option maxRecDepth 20000
namespace Go.Ab

inductive Ty where
 | int (k : IntKind)
 | bool
 | str
 | sl (s : Nat) (e : Ty)
 | st (f : Ty)
 | nil
 | cons (a r : Ty)

def Ty.wt : Ty -> List T -> Prop
 | .int k, l => ∃ n, l = [.v (.int k n)] /\ (Lit.int k n).wf = true
 | .bool, l => ∃ b, l = [.v (.bool b)]
 | .str, l => ∃ s, l = [.v (.string s)] /\ s.size <= maxLen
 | .sl s e, l => ∃ xs : List (List T), l = [.sh s xs.flatten] /\ xs.length <= maxLen /\ ∀ x ∈ xs, x.length = s /\ e.wt x
 | .st f, l => f.wt l
 | .nil, l => l = []
 | .cons a r, l => ∃ l1 l2, l = l1 ++ l2 /\ a.wt l1 /\ r.wt l2

def Ty.wtV : Ty -> T -> Prop
 | .st f, t => ∃ l, t = .agg l /\ f.wt l
 | ty, t => ty.wt [t]

mutual
def Ty.fits (P : Program) : Ty -> TypeId -> Bool
 | .int k, t => (match P.underlying t with | some (.int k') => decide (k' = k) | _ => false)
 | .bool, t => (match P.underlying t with | some .bool => true | _ => false)
 | .str, t => (match P.underlying t with | some .string => true | _ => false)
 | .sl s e, t => (match P.underlying t with | some (.slice et) => decide (P.cellsOf et = s) && decide (0 < s) && e.fits P et | _ => false)
 | .st f, t => (match P.underlying t with | some (.struct fs) => f.fitsF P (P.cellsOf t) 0 fs.toList | _ => false)
 | .nil, _ => false
 | .cons _ _, _ => false
def Ty.fitsF (P : Program) : Ty -> Nat -> Nat -> List Field -> Bool
 | .nil, n, o, [] => decide (o = n)
 | .cons a r, n, o, f :: fs => decide (f.offset = o) && a.fits P f.type && r.fitsF P n (o + P.cellsOf f.type) fs
 | _, _, _, _ => false
end

section
variable {H : Type} {enc : TypeId × Value -> H} {P : Program} {w : World} {base : Nat} {spare : Nat -> Bool} {held : Bool}

theorem q05t {a : Addr} {v : Value} (h : w.cell? a = some v) : a.spot = none /\ ∃ cs e fz, w.heap[a.block]? = some (.cells cs e fz) /\ cs[a.off]? = some v := by
 unfold World.cell? at h
 split at h
 ·rename_i c e fz hc
  split at h
  ·cases h
  ·rename_i hs
   exact ⟨by simpa using hs, c, e, fz, hc, h⟩
 ·cases h

theorem add_block (a : Addr) (i : Nat) : (a.add i).block = a.block := by
 unfold Addr.add; split <;> rfl
theorem q00m (a : Addr) (i : Nat) : (a.add i).off = a.off + i := by
 unfold Addr.add; split
 ·rename_i h; subst h; rfl
 ·rfl

theorem getD_some {vs : List Value} {i : Nat} {v : Value} (h : vs[i]? = some v) : vs.getD i undef = v := by
 rw [List.getD_eq_getElem?_getD, h]; rfl

theorem Ty.read (O : Nat -> Prop) (hO : ∀ b, ¬ O b) : ∀ (ty : Ty),
  (∀ (t : TypeId) (fuel : Nat) (cs : List Value) (x : DataW H × List MemPlace), ty.fits P t = true -> DataW.trod enc P w base (fun _ => true) held fuel t cs = some x →
   ∃ l, ty.wt l /\ l.length = cs.length /\ ∀ i (h : i < l.length), Rd w O l[i] (cs.getD i undef)) ∧
  (∀ (n o : Nat) (fs : List Field) (fuel : Nat) (cs : List Value), ty.fitsF P n o fs = true -> cs.length = n →
   (∀ f ∈ fs, ∃ x, DataW.trod enc P w base (fun _ => true) held fuel f.type ((cs.drop f.offset).take (P.cellsOf f.type)) = some x) →
   ∃ l, ty.wt l /\ l.length = n - o /\ (∀ i (h : i < l.length), Rd w O l[i] ((cs.drop o).getD i undef))) := by
 have one : ∀ (v : Value), ∀ i (h : i < [T.v v].length), Rd w O [T.v v][i] ([v].getD i undef) := fun v i h => by
  have : i = 0 := by simpa using h
  subst this; exact .v v
 intro ty
 induction ty with
 | int k =>
   refine ⟨fun t fuel cs x hf h => ?_, fun n o fs fuel cs hf => by simp [Ty.fitsF] at hf⟩
   simp only [Ty.fits] at hf
   split at hf
   ·rename_i k' ht
    have : k' = k := by simpa using hf
    subst this
    obtain ⟨n, rfl, _, hw⟩ := DataW.trod_int ht h
    exact ⟨_, ⟨n, rfl, hw⟩, rfl, one _⟩
   ·cases hf
 | bool =>
   refine ⟨fun t fuel cs x hf h => ?_, fun n o fs fuel cs hf => by simp [Ty.fitsF] at hf⟩
   simp only [Ty.fits] at hf
   split at hf
   ·rename_i ht
    obtain ⟨n, rfl, _⟩ := DataW.trod_bool ht h
    exact ⟨_, ⟨n, rfl⟩, rfl, one _⟩
   ·cases hf
 | str =>
   refine ⟨fun t fuel cs x hf h => ?_, fun n o fs fuel cs hf => by simp [Ty.fitsF] at hf⟩
   simp only [Ty.fits] at hf
   split at hf
   ·rename_i ht
    obtain ⟨n, rfl, _, hw⟩ := DataW.trod_string ht h
    exact ⟨_, ⟨n, rfl, hw⟩, rfl, one _⟩
   ·cases hf
 | sl s e ih =>
   refine ⟨fun t fuel cs x hf h => ?_, fun n o fs fuel cs hf => by simp [Ty.fitsF] at hf⟩
   simp only [Ty.fits] at hf
   split at hf
   ·rename_i et ht
    simp only [Bool.and_eq_true, decide_eq_true_eq] at hf
    obtain ⟨⟨hs, hs0⟩, hfe⟩ := hf
    have single : ∀ (t : T) (v : Value), Rd w O t v -> ∀ i (h : i < [t].length), Rd w O [t][i] ([v].getD i undef) := fun t v hr i h => by
     have : i = 0 := by simpa using h
     subst this; exact hr
    rcases Deep.open_slice ht h with ⟨rfl, _⟩ | ⟨a, len, cap, m, n, D, Pl, rfl, hb, hl, hm, hmm, _, hx⟩
    ·exact ⟨_, ⟨[], rfl, Nat.zero_le _, by simp⟩, rfl, single _ _ (.shNil s)⟩
    ·simp only [if_true] at hmm
     subst hmm
     have each : ∀ i, i < len -> ∃ y : List T × List Value, w.cells? base (a.add (i * s)) s = some y.2 /\ e.wt y.1 /\ y.1.length = s /\ ∀ j (h : j < y.1.length), Rd w O y.1[j] (y.2.getD j undef) := by
      intro i hi
      obtain ⟨cs', h1, h2⟩ := hx i (by omega)
      rw [hs] at h1
      obtain ⟨l, hwt, hlen, hr⟩ := ih.1 _ _ _ _ hfe h2
      exact ⟨(l, cs'), h1, hwt, hlen.trans (World.cells?_some h1).2.1, hr⟩
     obtain ⟨y, hy⟩ := Deep.choose_lt each
     rcases Nat.eq_zero_or_pos len with h0 | h0
     ·subst h0
      exact ⟨_, ⟨[], rfl, Nat.zero_le _, by simp⟩, rfl, single _ _ (.shZ s a _)⟩
     ·-- the block
      have cell : ∀ i j, i < len -> j < s -> w.cell? ((a.add (i * s)).add j) = some ((y i).2.getD j undef) := fun i j hi hj => by
       obtain ⟨h1, hwt, hlen, hr⟩ := hy i hi
       obtain ⟨_, h2, h3⟩ := World.cells?_some h1
       rw [h3 j hj, List.getD_eq_getElem?_getD, List.getElem?_eq_getElem (by omega)]; rfl
      have hfirst := cell 0 0 h0 hs0
      rw [Nat.zero_mul] at hfirst
      obtain ⟨hsp, cs, ee, fz, hblk, _⟩ := q05t hfirst
      rw [add_block, add_block] at hblk
      have at' : ∀ i j, i < len -> j < s -> cs[a.off + i * s + j]? = some ((y i).2.getD j undef) := fun i j hi hj => by
       obtain ⟨_, cs2, e2, fz2, h1, h2⟩ := q05t (cell i j hi hj)
       rw [add_block, add_block, hblk] at h1
       simp only [Option.some.injEq, Obj.cells.injEq] at h1
       rw [q00m, q00m, ← h1.1] at h2
       exact h2
      have hsp' : a.spot = none := by
       unfold Addr.add at hsp
       simpa using hsp
      obtain ⟨b, off, sp⟩ := a
      simp only at hsp' hblk at'
      subst hsp'
      have hfl : ∀ i, i <= len -> (((List.range i).map fun i => (y i).1).flatten).length = i * s := fun i => by
       induction i with
       | zero => intro _; simp
       | succ i ihi =>
         intro hi
         rw [List.range_succ, List.map_append, List.flatten_append, List.length_append, ihi (by omega)]
         simp only [List.map_cons, List.map_nil, List.flatten_cons, List.flatten_nil, List.append_nil, (hy i (by omega)).2.2.1, Nat.succ_mul]
      refine ⟨[.sh s ((List.range len).map fun i => (y i).1).flatten], ⟨_, rfl, by simp; exact Nat.le_trans hl hm, fun x hx => ?_⟩, rfl, single _ _ ?_⟩
      ·obtain ⟨i, hi, rfl⟩ := List.mem_map.1 hx
       have := hy i (by simpa using hi)
       exact ⟨this.2.2.1, this.2.1⟩
      ·have hlast := at' (len - 1) (s - 1) (by omega) (by omega)
       obtain ⟨hlt, _⟩ := Array.getElem?_eq_some_iff.1 hlast
       have hmul : (len - 1) * s + s = len * s := by rw [← Nat.succ_mul]; congr 1; omega
       refine .sh s _ b off len _ cs ee fz (hO b) hblk (by rw [hfl len (Nat.le_refl _)]; omega) (hfl len (Nat.le_refl _)) hl fun k hk => ?_
       rw [hfl len (Nat.le_refl _)] at hk
       have hi : k / s < len := Nat.div_lt_of_lt_mul (by rw [Nat.mul_comm]; exact hk)
       have hj : k % s < s := Nat.mod_lt _ hs0
       have hk' : k / s * s + k % s = k := by rw [Nat.mul_comm]; exact Nat.div_add_mod k s
       have e1 : (((List.range len).map fun i => (y i).1).flatten)[k]? = (y (k / s)).1[k % s]? := by
        have hsplit : ∃ rest, List.range len = List.range (k / s) ++ (k / s) :: rest := by
         refine ⟨((List.range (len - k / s - 1)).map Nat.succ).map (k / s + ·), ?_⟩
         have h1 : List.range (k / s + (len - k / s)) = List.range (k / s) ++ (List.range (len - k / s)).map (k / s + ·) := List.range_add
         rw [show k / s + (len - k / s) = len by omega] at h1
         have h2 : List.range (len - k / s) = 0 :: (List.range (len - k / s - 1)).map Nat.succ := by
          rw [← List.range_succ_eq_map]; congr 1; omega
         rw [h1, h2]; rfl
        obtain ⟨rest, hsplit⟩ := hsplit
        rw [hsplit, List.map_append, List.flatten_append, List.getElem?_append_right (by rw [hfl _ (Nat.le_of_lt hi)]; omega), hfl _ (Nat.le_of_lt hi), List.map_cons, List.flatten_cons,
         List.getElem?_append_left (by rw [(hy _ hi).2.2.1]; omega)]
        congr 1; omega
       have hjl : k % s < (y (k / s)).1.length := by rw [(hy _ hi).2.2.1]; exact hj
       have hget : (((List.range len).map fun i => (y i).1).flatten)[k]'(by rw [hfl len (Nat.le_refl _)]; exact hk) = (y (k / s)).1[k % s] := by
        have h1 := List.getElem?_eq_getElem (l := ((List.range len).map fun i => (y i).1).flatten) (i := k) (by rw [hfl len (Nat.le_refl _)]; exact hk)
        rw [e1, List.getElem?_eq_getElem hjl] at h1
        exact (Option.some.inj h1).symm
       rw [hget]
       have hc := at' (k / s) (k % s) hi hj
       rw [Nat.add_assoc, hk'] at hc
       have : cs.getD (off + k) undef = (y (k / s)).2.getD (k % s) undef := by rw [Array.getD_eq_getD_getElem?, hc]; rfl
       rw [this]
       exact (hy _ hi).2.2.2 _ hjl
   ·cases hf
 | st f ih =>
   refine ⟨fun t fuel cs x hf h => ?_, fun n o fs fuel cs hf => by simp [Ty.fitsF] at hf⟩
   simp only [Ty.fits] at hf
   split at hf
   ·rename_i fs ht
    obtain ⟨xs, n, rfl, _, hlen, hxl, hx⟩ := DataW.trod_struct ht h
    obtain ⟨l, hwt, hl, hr⟩ := ih.2 _ _ _ n cs hf hlen (fun f hf' => by
     obtain ⟨i, hi, rfl⟩ := List.mem_iff_getElem.1 hf'
     have h1 := hx i fs.toList[i] (by simp only [Array.length_toList] at hi; simp [hi])
     have hi' : i < xs.length := by rw [hxl]; simpa using hi
     rw [List.getElem?_eq_getElem hi'] at h1
     exact ⟨_, h1⟩)
    exact ⟨l, hwt, by omega, by simpa using hr⟩
   ·cases hf
 | nil =>
   refine ⟨fun t fuel cs x hf h => by simp [Ty.fits] at hf, fun n o fs fuel cs hf hn _ => ?_⟩
   cases fs with
   | cons f fs => simp [Ty.fitsF] at hf
   | nil =>
     have : o = n := by simpa [Ty.fitsF] using hf
     exact ⟨[], rfl, by simp; omega, fun i h => absurd h (by simp)⟩
 | cons a r iha ihr =>
   refine ⟨fun t fuel cs x hf h => by simp [Ty.fits] at hf, fun n o fs fuel cs hf hn hx => ?_⟩
   cases fs with
   | nil => simp [Ty.fitsF] at hf
   | cons f fs =>
     simp only [Ty.fitsF, Bool.and_eq_true, decide_eq_true_eq] at hf
     obtain ⟨⟨rfl, hfa⟩, hfr⟩ := hf
     obtain ⟨x, h1⟩ := hx f (by simp)
     obtain ⟨l1, hw1, hl1, hr1⟩ := iha.1 _ _ _ _ hfa h1
     obtain ⟨l2, hw2, hl2, hr2⟩ := ihr.2 _ _ _ fuel cs hfr hn (fun g hg => hx g (by simp [hg]))
     simp only [List.length_take, List.length_drop] at hl1
     refine ⟨l1 ++ l2, ⟨l1, l2, rfl, hw1, hw2⟩, by rw [List.length_append]; omega, fun i h => ?_⟩
     by_cases hi : i < l1.length
     ·rw [List.getElem_append_left hi]
      have := hr1 i hi
      rwa [List.getD_eq_getElem?_getD, List.getElem?_take_of_lt (by omega), ← List.getD_eq_getElem?_getD] at this
     ·rw [List.getElem_append_right (by omega)]
      have := hr2 (i - l1.length) (by rw [List.length_append] at h; omega)
      rw [List.getD_eq_getElem?_getD, List.getElem?_drop] at this ⊢
      rw [List.length_append] at h
      rwa [show f.offset + P.cellsOf f.type + (i - l1.length) = f.offset + i by omega] at this
end
end Go.Ab

/- The bridge, part 2: a law that is a contract is a law of the row's form. -/
namespace Go.Ab
open Go.ChangeShapes Go.WideShapes Go.ChangeAt Go.RowKit

def q09a (P : Program) : List Ty -> List TypeId -> Bool
 | [], [] => true
 | ty :: tys, t :: ts => ty.fits P t && decide (t < P.types.size) && P.readableRec t && q09a P tys ts
 | _, _ => false
def wtL : List Ty -> List T -> Prop
 | [], [] => True
 | ty :: tys, x :: xs => ty.wtV x /\ wtL tys xs
 | _, _ => False

section
variable {H : Type} {enc : TypeId × Value -> H} {P : Program} {w : World} {base : Nat} {held : Bool}

theorem Ty.readV (O : Nat -> Prop) (hO : ∀ b, ¬ O b) {ty : Ty} {t : TypeId} {v : Value} {d : DataW H} {ps : List MemPlace} {w' : World} {r : Reach} {b0 : Nat} (hf : ty.fits P t = true) (hok : Value.okWide P w' r b0 t v)
  (h : DataW.Trod enc P w base (fun _ => true) held t v d ps) : ∃ x, ty.wtV x /\ Rd w O x v := by
 obtain ⟨fuel, h⟩ := h
 obtain ⟨l, hwt, hl, hr⟩ := (Ty.read (P := P) O hO ty).1 t fuel _ _ hf h
 have single : v.cells = #[v] -> ∀ x : T, l = [x] -> Rd w O x v := fun hc x hx => by
  subst hx
  have := hr 0 (by simp)
  rw [hc] at this
  exact this
 cases ty with
 | int k =>
   simp only [Ty.fits] at hf
   split at hf
   ·rename_i k' ht
    obtain ⟨n, rfl⟩ := okWide_int ht hok
    obtain ⟨m, rfl, hw⟩ := hwt
    exact ⟨_, ⟨m, rfl, hw⟩, single rfl _ rfl⟩
   ·cases hf
 | bool =>
   simp only [Ty.fits] at hf
   split at hf
   ·rename_i ht
    obtain ⟨n, rfl⟩ := okWide_bool ht hok
    obtain ⟨m, rfl⟩ := hwt
    exact ⟨_, ⟨m, rfl⟩, single rfl _ rfl⟩
   ·cases hf
 | str =>
   simp only [Ty.fits] at hf
   split at hf
   ·rename_i ht
    obtain ⟨n, rfl⟩ := okWide_string ht hok
    obtain ⟨m, rfl, hw⟩ := hwt
    exact ⟨_, ⟨m, rfl, hw⟩, single rfl _ rfl⟩
   ·cases hf
 | sl s e =>
   simp only [Ty.fits] at hf
   split at hf
   ·rename_i et ht
    obtain ⟨a, len, cap, rfl⟩ := okWide_slice ht hok
    obtain ⟨m, rfl, hw⟩ := hwt
    exact ⟨_, ⟨m, rfl, hw⟩, single rfl _ rfl⟩
   ·cases hf
 | st f =>
   simp only [Ty.fits] at hf
   split at hf
   ·rename_i fs ht
    simp only [Value.okWide, ht] at hok
    obtain ⟨cs, rfl, _, _⟩ := hok
    refine ⟨.agg l, ⟨l, rfl, hwt⟩, ?_⟩
    have := Rd.agg (w := w) (O := O) l cs.toList (by rw [hl]; rfl) hr
    simpa using this
   ·cases hf
 | nil => simp [Ty.fits] at hf
 | cons a r => simp [Ty.fits] at hf

theorem q01h (O : Nat -> Prop) (hO : ∀ b, ¬ O b) {w' : World} {r : Reach} {b0 : Nat} : ∀ {tys : List Ty} {ts : List TypeId} {vs : List Value} {ds : List (DataW H)} {ps : List MemPlace}, q09a P tys ts = true →
  DataW.TrodAll enc P w base (fun _ => true) held ts vs ds ps -> (∀ (j : Nat) (t : TypeId) (v : Value), ts[j]? = some t -> vs[j]? = some v -> Value.okWide P w' r b0 t v) →
  ∃ xs, wtL tys xs /\ vs.length = xs.length /\ ds.length = tys.length /\ ∀ i (h : i < xs.length), Rd w O xs[i] (vs.getD i undef)
 | [], [], vs, ds, ps, _, h, _ => by
   cases vs <;> cases ds <;> simp only [DataW.TrodAll] at h
   exact ⟨[], trivial, rfl, rfl, fun i h => absurd h (by simp)⟩
 | [], _ :: _, vs, ds, ps, hf, h, _ => by simp [q09a] at hf
 | _ :: _, [], vs, ds, ps, hf, h, _ => by simp [q09a] at hf
 | ty :: tys, t :: ts, vs, ds, ps, hf, h, hok => by
   simp only [q09a, Bool.and_eq_true] at hf
   cases vs with
   | nil => simp [DataW.TrodAll] at h
   | cons v vs =>
     cases ds with
     | nil => simp [DataW.TrodAll] at h
     | cons d ds =>
       obtain ⟨p, q, h1, h2, _⟩ := h
       obtain ⟨x, hx, hr⟩ := Ty.readV O hO hf.1.1.1 (hok 0 t v rfl rfl) h1
       obtain ⟨xs, hxs, hl, hd, hrs⟩ := q01h O hO hf.2 h2 (fun j t v h1 h2 => hok (j + 1) t v (by simpa using h1) (by simpa using h2))
       refine ⟨x :: xs, ⟨hx, hxs⟩, by simp [hl], by simp [hd], fun i hi => ?_⟩
       cases i with
       | zero => exact hr
       | succ i => simpa [List.getD_eq_getElem?_getD] using hrs i (by simpa using hi)

theorem q01i {w w' : World} {sp : Nat -> Bool} (hl : laidOutB P = true) : ∀ {tys : List Ty} {ts : List TypeId} {vs : List Value} {ds : List (DataW H)} {ps : List MemPlace}, q09a P tys ts = true →
  DataW.TrodAll enc P w base (fun _ => true) true ts vs ds ps -> (∀ p ∈ ps, w.sameAt w' p /\ sp p.block = true) -> DataW.TrodAll enc P w' base sp true ts vs ds ps
 | [], [], vs, ds, ps, _, h, _ => by
   cases vs <;> cases ds <;> simp only [DataW.TrodAll] at h ⊢
   exact h
 | [], _ :: _, vs, ds, ps, hf, h, _ => by simp [q09a] at hf
 | _ :: _, [], vs, ds, ps, hf, h, _ => by simp [q09a] at hf
 | ty :: tys, t :: ts, vs, ds, ps, hf, h, hs => by
   simp only [q09a, Bool.and_eq_true, decide_eq_true_eq] at hf
   cases vs with
   | nil => simp [DataW.TrodAll] at h
   | cons v vs =>
     cases ds with
     | nil => simp [DataW.TrodAll] at h
     | cons d ds =>
       obtain ⟨p, q, h1, h2, rfl⟩ := h
       exact ⟨p, q, WideElems.Trod_stays hl hf.1.2 hf.1.1.2 h1 (fun x hx => (hs x (by simp [hx])).1) (fun x hx => (hs x (by simp [hx])).2), q01i hl hf.2 h2 (fun x hx => hs x (by simp [hx])), rfl⟩

end
end Go.Ab

/- The bridge, part 7: a law over something known of memory. -/
namespace Go.Ab
open Go.ChangeShapes Go.WideShapes Go.ChangeAt Go.RowKit
section
variable {H : Type} {enc : TypeId × Value -> H} {P : Program} {w : World} {base : Nat} {held : Bool}
theorem Ob.none {b : Nat} : ¬ Ob (fun _ => False) (fun _ => []) b := fun h => by
 rcases h with h | ⟨r, h⟩
 ·exact h
 ·simp at h
theorem q23z {gg : T} {f : FuncId} {fn : Func} {s : ChangeSpec} {tys : List Ty} {tb : TypeId} {apart fresh handsOn : Bool} (hlaid : laidOutB P = true) (hfit : q09a P tys fn.params.toList = true) (hres : fn.resultTypes = #[tb]) (hbool : P.underlying tb = some .bool)
  (hvars : s.vars = []) (hspec : ∀ (ds : List (DataW H)), ds.length = tys.length -> s.fn H ds = { results := [.lit (.bool true)], args := ds }) (hF : ∀ xs, wtL tys xs -> FunG P gg f [] (xs.map A.t) fun o r => o = [] /\ r = .b true)
  (W : World) (base : Nat) (args : Array Value) (ds gs : List (DataW H)) (before : List MemPlace) (hval : ∀ (j : Nat) t v, fn.params[j]? = some t -> args[j]? = some v -> Value.okWide P W .any base t v)
  (hW : DataW.Whole enc P fn.params.toList s.vars apart W args.toList ds gs before) (hg : Rd W (Ob (fun _ => False) (fun _ => [])) gg undef) : Calls P f args W fun e W' => ∃ v, e = .returned v /\ s.post enc P fn apart fresh handsOn false W args v W' := by
 have hW' := hW
 obtain ⟨p, q, hA, hV, rfl, hfz, hnd⟩ := hW
 rw [hvars] at hV
 have hV' := hV
 cases gs with
 | cons _ _ => simp [DataW.TrodVars] at hV
 | nil =>
   simp only [DataW.TrodVars] at hV
   subst hV
   obtain ⟨xs, hwt, hlen, hdl, hr⟩ := q01h (P := P) (fun _ => False) (fun _ h => h) hfit hA (fun j t v h1 h2 => hval j t v (by simpa using h1) (by simpa using h2))
   have hlt : ∀ x ∈ p, x.block < W.heap.size := fun x hx => hW'.lt x (by simp [hx])
   have mem : Mem (fun _ => False) W [] (fun _ => none) (fun _ => []) := ⟨fun i t h => by simp at h, fun _ _ => ⟨rfl, rfl⟩, fun _ _ b h => by simp at h, fun _ => by simp, fun _ b h => by simp at h, fun _ h => h.elim, fun _ _ h => by cases h⟩
   have hc := hF xs hwt _ W args.toList _ _ mem (by simpa using hlen) (fun i h => by
    have hi : i < xs.length := by simpa using h
    rw [List.getElem_map]
    exact .t ((hr i hi).mono (fun _ _ _ _ _ h => h) (fun b _ _ => Ob.none))) hg
   simp only [Array.toArray_toList] at hc
   refine hc.mono ?_
   rintro e W' ⟨v, res, rout, fr, fp', rfl, ⟨rfl, rfl⟩, _, out⟩
   have hv : v = .bool true := by
    cases out.res with
    | rd h => cases h; rfl
   subst hv
   have hs : W.Since W.heap.size W' := ⟨out.os, out.tape, out.output, out.size, fun b hb => out.frame b hb (fun j h => by simp at h)⟩
   refine ⟨_, rfl, ds, [], p ++ [], [], p, [], hW', ?_, ?_, ?_, hs.frame _, fun h => by cases h⟩
   ·rw [List.append_nil, hspec ds hdl, hres]
    exact trodAll_cons_mk (shut_bool hbool _) trodAll_mk0
   ·rw [List.append_nil, hspec ds hdl]
    exact q01i hlaid hfit hA fun x hx => ⟨hs.sameAt (hlt x hx), by simpa using hlt x hx⟩
   ·rw [List.append_nil, hspec ds hdl, hvars]
    exact hV'
end
end Go.Ab

/- The abstract layer, part 21: rows and matrices as data; small facts for the walks. -/
namespace Go.Ab

def ints (l : List Int) : T := .sh 1 (l.map T.i)
def rows (m : List (List Int)) : T := .sh 1 (m.map ints)
def intsO (l : List Int) : T := .arr 1 (l.map T.i)
def q0qa (m : List (List Int)) : T := .arr 1 (m.map intsO)

def rat (r : Int × Int) : T := .agg [T.i r.1, T.i r.2]

def ratC (l : List (Int × Int)) : List T := l.flatMap fun r => [T.i r.1, T.i r.2]
def rats (l : List (Int × Int)) : T := .sh 2 (ratC l)
def q0p1 (l : List (Int × Int)) : T := .arr 2 (ratC l)
theorem q0oy (r : Int × Int) (l : List (Int × Int)) : ratC (r :: l) = T.i r.1 :: T.i r.2 :: ratC l := rfl
theorem q0p0 : ∀ l : List (Int × Int), (ratC l).length = l.length * 2
 | [] => rfl
 | r :: l => by rw [q0oy]; simp [q0p0 l]; omega
theorem q0oz (l : List (Int × Int)) : (ratC l).length / 2 = l.length := by rw [q0p0]; omega
theorem q0vi : ∀ l : List (Int × Int), T.toShL (ratC l) = ratC l
 | [] => rfl
 | r :: l => by rw [q0oy, T.toShL, T.toShL, q0vi l]; rfl
theorem q0ow (l : List (Int × Int)) : (ratC l).all T.cell = true := by
 rw [List.all_eq_true]; intro t ht; obtain ⟨x, _, h⟩ := List.mem_flatMap.1 ht
 rcases List.mem_cons.1 h with rfl | h
 ·rfl
 ·rcases List.mem_cons.1 h with rfl | h
  ·rfl
  ·cases h
theorem q0ox (l : List (Int × Int)) : (ratC l).all T.flat = true := by
 rw [List.all_eq_true]; intro t ht; obtain ⟨x, _, h⟩ := List.mem_flatMap.1 ht
 rcases List.mem_cons.1 h with rfl | h
 ·rfl
 ·rcases List.mem_cons.1 h with rfl | h
  ·rfl
  ·cases h
theorem q00j (d k : Nat) (m : List (Int × Int)) : absT d k (q0p1 m) = (.own (rid d k), [(rid d k, q0p1 m)], k + 1) := rfl
theorem q0pu (l : List Int) : rootOf (intsO l) = .live (intsO l) [] := rfl
theorem q0px (l : List (List Int)) : rootOf (q0qa l) = .live (q0qa l) [] := rfl
theorem q0pv (l : List (Int × Int)) : rootOf (q0p1 l) = .live (q0p1 l) [] := rfl
attribute [go_sem] q0oz q0ow q0ox q00j q0pu q0px q0pv q0ps q0pt q0pr

theorem q00s (l : List Int) : (l.map T.i).all T.cell = true := by
 rw [List.all_eq_true]; intro t ht; obtain ⟨x, _, rfl⟩ := List.mem_map.1 ht; rfl
theorem q00u (l : List Int) : (l.map T.i).all T.flat = true := by
 rw [List.all_eq_true]; intro t ht; obtain ⟨x, _, rfl⟩ := List.mem_map.1 ht; rfl
theorem q00t (m : List (List Int)) : (m.map intsO).all T.cell = true := by
 rw [List.all_eq_true]; intro t ht; obtain ⟨x, _, rfl⟩ := List.mem_map.1 ht; rfl

theorem wrap64 {n : Int} (h : -9223372036854775808 <= n) (h' : n < 9223372036854775808) : IntKind.i64.wrap n = n := by
 simp [IntKind.wrap, IntKind.bits, IntKind.signed]
 omega
theorem q0lb {i n : Nat} (h : i < n) (hn : n <= 1000000000000) : IntKind.i64.wrap ((i : Int) + 1) = ((i + 1 : Nat) : Int) := by
 rw [wrap64 (by omega) (by omega)]; rfl
theorem q0xg (S : St) (bor : List Nat) (x : T) : vt S bor x (.t x) = True := by
 cases x <;> simp [vt, vb, maT]
theorem q0ve (i : Nat) : (i : Int).toNat = i := rfl
theorem q0uk {α : Type} {p : α -> Prop} {l : List α} {i : Nat} {x : α} (hx : l[i]? = some x) (h : ∀ y ∈ l.take i, p y) (hp : p x) : ∀ y ∈ l.take (i + 1), p y := by
 intro y hy
 rw [List.take_add_one, hx] at hy
 simp only [Option.toList_some, List.mem_append, List.mem_singleton] at hy
 rcases hy with hy | rfl
 ·exact h y hy
 ·exact hp
theorem q0fh (l : List Int) : (intsO l).noSh := by
 simp only [intsO, T.noSh]
 rw [T.noShL_iff]
 intro t ht
 obtain ⟨x, _, rfl⟩ := List.mem_map.1 ht
 simp [T.noSh]

section
variable {P : Program} {n : Nat} {S : St}
theorem q006.res {d : Option Nat} {fo : Operand} {ops : List Operand} {K : St -> Prop} {f : FuncId} {cap : List A} {args : List A} {res : T} (hF : Fun P f [] args fun o r => o = [] /\ r = res) (bor : List Nat) (hfo : fnA (S.ev fo) = some (f, cap)) (hcall : ∀ args w, (callFunc f args).run P w = .ok (.enter f args) w)
  (hargs : vaL S [] bor args (ops.map S.ev ++ cap)) (hns : bor = [] ∨ res.noSh) (hk : q00p S d [] [] res K) : q006 P n d fo ops K S := by
 refine q006.use hfo hcall hF [] bor (by simp) trivial (fun q _ => by simp) hargs fun rout res' h => ?_
 obtain ⟨rfl, rfl⟩ := h
 refine ⟨?_, hk⟩
 rcases hns with h | h
 ·exact .inl h
 ·exact .inr ⟨h, trivial⟩
end

section
variable {P : Program} {n : Nat} {S : St}
theorem q006.ref {d : Option Nat} {fo : Operand} {ops : List Operand} {K : St -> Prop} {f : FuncId} {cap : List A} {rin : List T} {args : List A} {rout : List T} {res : T} (hF : Fun P f rin args fun o r => o = rout /\ r = res) (srcs bor : List Nat) (hfo : fnA (S.ev fo) = some (f, cap)) (hcall : ∀ args w, (callFunc f args).run P w = .ok (.enter f args) w)
  (hsn : srcs.Nodup) (hsrc : q0tg S srcs rin) (hsb : ∀ q ∈ bor, q ∉ srcs) (hargs : vaL S srcs bor args (ops.map S.ev ++ cap)) (hns : bor = [] ∨ (res.noSh /\ T.noShL rout)) (hk : q00p S d srcs rout res K) : q006 P n d fo ops K S := by
 refine q006.use hfo hcall hF srcs bor hsn hsrc hsb hargs fun rout' res' h => ?_
 obtain ⟨rfl, rfl⟩ := h
 exact ⟨hns, hk⟩
end
theorem q0vf (l : List Int) : T.toShL (l.map T.i) = l.map T.i := by
 rw [T.toShL_eq_map, List.map_map]; exact List.map_congr_left fun _ _ => rfl
theorem q0fi (l : List Int) : (intsO l).toSh = ints l := by
 simp only [intsO, ints, T.toSh, q0vf]
theorem q17t (m : List (List Int)) : (q0qa m).toSh = rows m := by
 simp only [q0qa, rows, T.toSh, T.toShL_eq_map, List.map_map]
 congr 1
 exact List.map_congr_left fun r _ => q0fi r
theorem q0vg (m : List (List Int)) : T.toShL (m.map intsO) = m.map ints := by
 rw [T.toShL_eq_map, List.map_map]; exact List.map_congr_left fun r _ => q0fi r
theorem q0qb (m : List (List Int)) : (q0qa m).noSh := by
 simp only [q0qa, T.noSh]
 rw [T.noShL_iff]
 intro t ht
 obtain ⟨x, _, rfl⟩ := List.mem_map.1 ht
 exact q0fh x
theorem q00k (d k : Nat) (m : List (List Int)) : absT d k (q0qa m) = (.own (rid d k), [(rid d k, q0qa m)], k + 1) := rfl
theorem q00i (d k : Nat) (m : List Int) : absT d k (intsO m) = (.own (rid d k), [(rid d k, intsO m)], k + 1) := rfl

theorem Le.tup2 {a a' b b' : T} (h1 : Le a a') (h2 : Le b b') : Le (.tup [a, b]) (.tup [a', b']) :=
 .tup rfl fun i h h' => match i, h, h' with | 0, _, _ => h1 | 1, _, _ => h2
theorem Fun.le {P : Program} {f : FuncId} {rin : List T} {args : List A} {Q Q' : List T -> T -> Prop} (h : Fun P f rin args Q) (hq : ∀ o r, Q o r -> ∃ r', Le r r' /\ Q' o r') : Fun P f rin args Q' := by
 intro X w vals hs fp hm hl hi
 refine (h X w vals hs fp hm hl hi).mono ?_
 rintro e w' ⟨v, res, rout, fr, fp', rfl, hQ, hlen, out⟩
 obtain ⟨r', hle, hQ'⟩ := hq _ _ hQ
 obtain ⟨fr', ho, hsub⟩ := hle.ow out.res
 have sub : ∀ b ∈ fr', b ∈ fr := fun b hb => hsub.subset hb
 have hO : ∀ b, ¬ Ob' X fp' fr b -> b < w'.heap.size -> ¬ Ob' X fp' fr' b := fun b h _ h' => by
  rcases h' with h' | h'
  ·exact h (.inl h')
  ·exact h (.inr (sub b h'))
 have keep : ∀ p, q009 p w' w' := fun p _ _ _ _ _ h => h
 exact ⟨v, r', rout, fr', fp', rfl, hQ', hlen, fun i t ht => (let ⟨x, hx, hox, hr⟩ := out.root i t ht; ⟨x, hx, hox.mono (keep _) hO (keep _), hr⟩), out.none, ho.mono (keep _) hO (keep _), out.disj, out.nodup, hsub.nodup out.rnodup,
  fun r b hb hbf => out.rdisj r b hb (sub b hbf), out.old, fun b hb => out.rold b (sub b hb), out.os, out.tape, out.output, out.size, out.frame⟩
theorem q0t9 {α : Type} (l : List α) (i : Nat) (x : α) : spl l i [x] = l.set i x := rfl
theorem q0ta {α : Type} (l : List α) (i : Nat) (x y : α) (zs : List α) : spl l i (x :: y :: zs) = l.take i ++ (x :: y :: zs) ++ l.drop (i + (x :: y :: zs).length) := rfl
theorem q06x (P : Program) (n : Nat) (all : Bool) (m : List Nat) (d : Nat) (f : Operand) (ops : List Operand) (K : St -> Prop) (S : St) : coC P n all m (.call (some d) f ops) K S = (all = false /\ q000 P n d f ops m K S) := rfl
theorem q06u (P : Program) (n : Nat) (all : Bool) (m : List Nat) (d : Nat) (zs : List T) (K : St -> Prop) (S : St) : coC P n all m (.alloc d zs) K S = coN (.alloc d zs) K S := rfl
theorem q070 (P : Program) (n : Nat) (all : Bool) (m : List Nat) (d : Nat) (zs : List T) (eb : Nat) (l c : Operand) (K : St -> Prop) (S : St) : coC P n all m (.make d zs eb l c) K S = coN (.make d zs eb l c) K S := rfl
theorem q06v (P : Program) (n : Nat) (all : Bool) (m : List Nat) (d : Nat) (x : Operand) (K : St -> Prop) (S : St) : coC P n all m (.box d x) K S = coN (.box d x) K S := rfl
theorem q06w (P : Program) (n : Nat) (all : Bool) (m : List Nat) (d z len : Nat) (ps : List (Nat × Operand)) (K : St -> Prop) (S : St) : coC P n all m (.bslice d z len ps) K S = coN (.bslice d z len ps) K S := rfl
theorem q0g1 {α : Type} (n : Nat) (a b : α) : (if (0 : Int) <= (n : Int) then a else b) = a := if_pos (Int.natCast_nonneg _)
theorem q0g2 {α : Type} (n : Nat) (a b : α) : (if (0 : Int) <= (n : Int) + 1 then a else b) = a := if_pos (by omega)
attribute [go_sem] q0g1 q0g2
theorem q098 (k q : Nat) : List.filter (fun p : Nat × Nat => decide (p.fst < k) || decide (k + 1 <= p.fst)) [(k, q)] = [] := by
 rw [List.filter_cons_of_neg (by simp)]; rfl
attribute [go_sem] q098 List.set_set absT absL List.filter_nil List.all_cons List.all_nil q0t9 q0ta List.take_succ_cons List.take_zero List.drop_succ_cons List.drop_zero List.set_cons_zero List.set_cons_succ List.length_set List.cons_append List.append_nil Bool.true_and Bool.and_true Bool.false_and
/-! Guards and conditions at constants: one road only. -/
theorem q0di (s : Nat) (d : Option Nat) (K1 K2 : St -> Prop) (S : St) : q0dc (.t (.v (.bool true))) s true d K1 K2 S = K1 { S with env := upd S.env s (.t (.v (.bool true))) } := by simp [q0dc]
theorem q0df (s : Nat) (d : Option Nat) (K1 K2 : St -> Prop) (S : St) : q0dc (.t (.v (.bool false))) s false d K1 K2 S = K1 { S with env := upd S.env s (.t (.v (.bool false))) } := by simp [q0dc]
theorem q0dg (s : Nat) (d : Option Nat) (K1 K2 : St -> Prop) (S : St) : q0dc (.t (.v (.bool false))) s true d K1 K2 S = K2 (St.put { S with env := upd S.env s (.t (.v (.bool false))) } d q0ro) := by simp [q0dc]
theorem q0dh (s : Nat) (d : Option Nat) (K1 K2 : St -> Prop) (S : St) : q0dc (.t (.v (.bool true))) s false d K1 K2 S = K2 (St.put { S with env := upd S.env s (.t (.v (.bool true))) } d q0ro) := by simp [q0dc]
theorem q07o (K1 K2 : St -> Prop) (S : St) : condC (.t (.v (.bool true))) K1 K2 S = K1 S := by simp [condC]
theorem q07n (K1 K2 : St -> Prop) (S : St) : condC (.t (.v (.bool false))) K1 K2 S = K2 S := by simp [condC]
theorem q0dd (b : Bool) (s : Nat) (want : Bool) (d : Option Nat) (K1 K2 : St -> Prop) (S : St) : q0dc (.t (.v (.bool b))) s want d K1 K2 S = ((b = want -> K1 { S with env := upd S.env s (.t (.v (.bool want))) }) /\ (b = !want -> K2 (St.put { S with env := upd S.env s (.t (.v (.bool !want))) } d q0ro))) := rfl
theorem q07l (b : Bool) (K1 K2 : St -> Prop) (S : St) : condC (.t (.v (.bool b))) K1 K2 S = ((b = true -> K1 S) /\ (b = false -> K2 S)) := rfl
theorem q0dj (xs : Array Value) (s : Nat) (want : Bool) (d : Option Nat) (K1 K2 : St -> Prop) (S : St) : q0dc (.t (.v (.tuple xs))) s want d K1 K2 S = K2 (St.put S d q0ro) := rfl
theorem q0dk (s : Nat) (want : Bool) (d : Option Nat) (K1 K2 : St -> Prop) (S : St) : q0dc q0ro s want d K1 K2 S = K2 (St.put S d q0ro) := rfl
attribute [go_sem high] q0dj q0dk q0di q0df q0dg q0dh q07o q07n
attribute [go_sem] Value.oneCell' decide_true bne_self_eq_false true_or List.nil_append q00s q00t q00u Nat.zero_ne_one Nat.add_zero Nat.zero_add cW.eq_1 cW.eq_2 cW.eq_3 cW.eq_4 cW.eq_5 cW.eq_6 cW.eq_7 cW.eq_8 cW.eq_9 cW.eq_10 cW.eq_11 cW.eq_12 q085.eq_1 q085.eq_2 q0g3.eq_1 q0g3.eq_2 valD.eq_1 valD.eq_2 valD.eq_3 valD.eq_4 valD.eq_5 valD.eq_6 CO.dst q0k9 q0k8 q06x q06u q070 q06v q06w coN.eq_1 coN.eq_2 coN.eq_3 coN.eq_4 q0cu.eq_1 q0cu.eq_2 q0jm q0jp q0jj List.any_cons List.any_nil Option.bind_some Bool.or_false Bool.false_or Bool.or_self decide_false kE kR kN kH q07b q071 q073 q074 q07a q072 q079 q075 coV.eq_1 coV.eq_2 coV.eq_3 coV.eq_4 coV.eq_5 coV.eq_6 coV.eq_7 coV.eq_8 coV.eq_9 coV.eq_10 coV.eq_11 coV.eq_12 coV.eq_13 coV.eq_14 coV.eq_15 coV.eq_16 coV.eq_17 coV.eq_18 coV.eq_19 coV.eq_20 coV.eq_21 q0oe q0id q0ip CO.dst opsW.eq_1 opsW.eq_2 opsW.eq_3 coW.eq_1 coW.eq_2 coW.eq_3 coW.eq_4 coW.eq_5 coW.eq_6 coW.eq_7 coW.eq_8 coW.eq_9 coW.eq_10 coW.eq_11 coW.eq_12 coW.eq_13 coW.eq_14 coW.eq_15 coW.eq_16 coW.eq_17 coW.eq_18 coW.eq_19 coW.eq_20 coW.eq_21 coW.eq_22 coW.eq_23 coW.eq_24 coW.eq_25 coW.eq_26 coW.eq_27 coW.eq_28 coW.eq_29 coW.eq_30 coW.eq_31 coW.eq_32 coW.eq_33 q1mo q1ek q1e5 q02h q02f.eq_1 q02f.eq_2 q02f.eq_3 q02i.eq_1 q02i.eq_2 q02i.eq_3 q02e CI.toL.eq_1 CI.toL.eq_2 CO.toL q0og q08n q08l q08j q08m q08k q0dd q07l q0up q0uq q0uo q02b q02c q02a q0j3 q0j4 q0j2 q0o6 beqC q01s aggI q0fj.eq_1 q0fj.eq_2 q0ff.eq_1 q0ff.eq_2 q0fr slcC bndN Option.map_some Option.map_none binW binI binS unW q08w lenC q0i2 idxC fldC q0i5 q0in q05u.eq_1 q05w.eq_1 q0pb.eq_1 q0p8.eq_1 q0p8.eq_2 q0pd.eq_1 q0pd.eq_2 noLk.eq_1 noLk.eq_2 List.drop_zero Bool.and_false Option.isSome_some Option.isSome_none Bool.true_or Bool.or_true q0il q0tk q0tn q00n q07j q0cw q0d8 q02w q08z q02l boxW makeC q0l5 q24b q24a q249 q01n srcW q015 q018 q07p q0lp mmW retP.eq_1 retP.eq_2 retL q0pj q0d0 q0d1 fnTs q0pz q0nl Root.cells Root.with q0x0 St.of q0ke q0kh enum St.put T.cell T.flat true_and and_true List.map_cons List.map_nil List.length_cons List.length_nil Option.some.injEq forall_eq' List.lookup_nil Bool.not_true Bool.not_false decide_eq_true_eq decide_eq_false_iff_not ne_eq forall_const Bool.true_eq_false Bool.false_eq_true false_implies ite_true ite_false exists_eq_left' List.getElem?_cons_zero List.getElem?_cons_succ and_self List.getElem?_map Option.map_eq_some_iff forall_exists_index and_imp List.length_map Nat.mul_one Nat.div_one
end Go.Ab

/- The abstract layer, part 33: lists of the walk's rules, each as one rule. -/
set_option linter.defProp false
namespace Go.Ab

attribute [go_sem] List.reduceReplicate Nat.reduceEqDiff Nat.reduceAdd Nat.reduceLeDiff Nat.reduceMul Nat.reduceSub Nat.reduceDiv Int.reduceToNat Nat.reduceLT Int.reduceLT Int.reduceLE reduceCtorEq
attribute [go_sem ↓] reduceIte
def evR := And.intro @forall_apply_eq_imp_iff₂.{1,1} (@q0ve)
def vaR := And.intro @q0xg (And.intro @vaL.eq_1 (And.intro @vaL.eq_2 (And.intro @vaL.eq_3 (And.intro @vtL.eq_1 (And.intro @vtL.eq_2 (And.intro @vtL.eq_3 (And.intro @va.eq_1 (And.intro @va.eq_2 (And.intro @va.eq_3 (And.intro @va.eq_4 (And.intro @va.eq_5 (And.intro @va.eq_6 (And.intro @va.eq_7 (And.intro @va.eq_8 (And.intro @va.eq_9 (And.intro @va.eq_10 (And.intro @va.eq_11 (And.intro @va.eq_12 (And.intro @va.eq_13 (And.intro @vt.eq_1 (And.intro @vt.eq_2 (And.intro @vt.eq_3 (And.intro @vt.eq_4 (And.intro @vt.eq_5 (And.intro @vt.eq_6 (And.intro @vt.eq_7 (And.intro @vt.eq_8 (And.intro @vb.eq_1 (And.intro @vb.eq_2 (And.intro @vb.eq_3 (And.intro @vb.eq_4 (And.intro @vb.eq_5 (And.intro @maT.eq_1 (And.intro @List.cons_append.{0} (And.intro @List.nil_append.{0} (And.intro @List.append_nil.{0} (And.intro @true_or (@or_true))))))))))))))))))))))))))))))))))))))
def rtR := And.intro @List.mem_cons.{0} (And.intro @List.mem_nil_iff.{0} (And.intro @List.not_mem_nil.{0} (And.intro @or_false (And.intro @false_or (And.intro @exists_eq_left.{1} (And.intro @exists_eq_left'.{1} (And.intro @exists_eq_right'.{1} (And.intro @Root.live.injEq (And.intro @eq_self_iff_true.{1} (And.intro @exists_eq.{1} (@and_true)))))))))))
def agR := And.intro @Int.natCast_zero (And.intro @Int.cast_ofNat_Int (And.intro @Int.natCast_one (And.intro @Nat.le_refl (And.intro @Nat.sub_self (And.intro @List.getElem?_cons_zero.{0} (And.intro @List.getElem?_cons_succ.{0} (And.intro @q0vi (And.intro @q0vf (And.intro @q0vg (And.intro @T.toSh.eq_1 (And.intro @T.toSh.eq_2 (And.intro @T.toSh.eq_3 (And.intro @T.toSh.eq_4 (@T.toSh.eq_5))))))))))))))
def clR := And.intro @List.append_nil.{0} (And.intro @List.cons_append.{0} (And.intro @q00p.eq_1 (And.intro @q00p.eq_2 (And.intro @q00k (And.intro @q00i (And.intro @absT.eq_1 (And.intro @absT.eq_2 (And.intro @absT.eq_3 (And.intro @absT.eq_4 (And.intro @absT.eq_5 (And.intro @absL.eq_1 (And.intro @absL.eq_2 (And.intro @updL.eq_1 (And.intro @updL.eq_2 (And.intro @updS.eq_1 (And.intro @updS.eq_2 (And.intro @q09w.eq_1 (And.intro @q09w.eq_2 (And.intro @rid.eq_1 (And.intro @T.noSh.eq_1 (And.intro @T.noSh.eq_2 (And.intro @T.noSh.eq_3 (And.intro @T.noSh.eq_4 (And.intro @T.noSh.eq_5 (And.intro @T.noSh.eq_6 (And.intro @T.noSh.eq_7 (And.intro @T.noSh.eq_8 (And.intro @T.noShL.eq_1 (And.intro @T.noShL.eq_2 (@Nat.zero_le))))))))))))))))))))))))))))))
def wkR := And.intro @Int.add_zero (And.intro @q08f.eq_1 (And.intro @q08f.eq_2 (And.intro @maA.eq_1 (And.intro @maA.eq_2 (And.intro @maA.eq_3 (And.intro @maA.eq_4 (And.intro @maA.eq_5 (And.intro @maA.eq_6 (And.intro @maA.eq_7 (And.intro @maA.eq_8 (And.intro @maA.eq_9 (And.intro @maA.eq_10 (And.intro @maA.eq_11 (And.intro @maA.eq_12 (And.intro @maA.eq_13 (And.intro @maA.eq_14 (And.intro @maA.eq_15 (And.intro @maT.eq_1 (And.intro @q0x0 (And.intro @and_true (And.intro @true_or (And.intro @or_true (And.intro @List.map_cons.{0,0} (And.intro @List.map_nil.{0,0} (And.intro @Nat.zero_ne_one (And.intro @and_self (And.intro @true_and (And.intro @Int.natCast_zero (And.intro @Int.cast_ofNat_Int (@Int.ofNat_zero))))))))))))))))))))))))))))))
def wrR := And.intro @piOf.eq_1 (And.intro @List.zip_cons_cons.{0,0} (And.intro @List.zip_nil_right.{0,0} (And.intro @List.lookup_cons.{0,0} (And.intro @List.lookup_nil.{0,0} (And.intro @beq_self_eq_true.{0} (And.intro @q0py.eq_1 (And.intro @q0py.eq_2 (And.intro @q0py.eq_3 (And.intro @q0py.eq_4 (And.intro @q0kh.eq_1 (And.intro @q0kh.eq_2 (And.intro @q0ke.eq_1 (@q0ke.eq_2)))))))))))))
def srR := And.intro @q0ps (And.intro @q0pt (And.intro @q0pr (And.intro @q0tg.eq_1 (And.intro @q0tg.eq_2 (And.intro @q0tg.eq_3 (And.intro @updL.eq_1 (And.intro @updL.eq_2 (And.intro @updS.eq_1 (And.intro @updS.eq_2 (And.intro @q0x0 (And.intro @q0kh.eq_1 (And.intro @q0kh.eq_2 (@and_true)))))))))))))
def opR := And.intro @List.lookup_cons.{0,0} (And.intro @beq_self_eq_true.{0} (And.intro @rid.eq_1 (And.intro @q0ne.eq_1 (@q0ne.eq_2))))
def aR' := And.intro @agR (And.intro @vaR (And.intro @rtR (And.intro @ints.eq_1 (And.intro @rows.eq_1 (And.intro @rat.eq_1 (And.intro @rats.eq_1 (And.intro @q0p1.eq_1 (And.intro @intsO.eq_1 (@q0qa.eq_1)))))))))
def eR' := And.intro @evR (And.intro @ints.eq_1 (And.intro @rows.eq_1 (And.intro @rat.eq_1 (@rats.eq_1))))
def sR' := And.intro @srR (And.intro @ints.eq_1 (And.intro @rows.eq_1 (And.intro @intsO.eq_1 (@q0qa.eq_1))))
def wR' := And.intro @wkR (And.intro @wrR (And.intro @ints.eq_1 (@rows.eq_1)))
def cR' := And.intro @clR (And.intro @evR (@rat.eq_1))
end Go.Ab

/- The bridge, part 5: bytes. -/
namespace Go.Ab

def bytes (cs : List Int) : T := .sh 1 (cs.map fun x => .v (.int .u8 x))
def q161 (cs : List Int) : Prop := ∀ c ∈ cs, 0 <= c /\ c <= 255
def q168 : Ty := .sl 1 (.int .u8)
theorem wf8 {n : Int} (h : (Lit.int .u8 n).wf = true) : 0 <= n /\ n <= 255 := by
 simp [Lit.wf, IntKind.min, IntKind.max, IntKind.signed, IntKind.bits] at h
 omega
theorem q166 : ∀ {xs : List (List T)}, (∀ x ∈ xs, x.length = 1 /\ (Ty.int .u8).wt x) -> ∃ l : List Int, xs.flatten = (l.map fun x => T.v (.int .u8 x)) /\ l.length = xs.length /\ q161 l
 | [], _ => ⟨[], rfl, rfl, fun x hx => by simp at hx⟩
 | x :: xs, h => by
   obtain ⟨l, hl, hlen, hf⟩ := q166 (xs := xs) fun y hy => h y (by simp [hy])
   obtain ⟨_, n, rfl, hw⟩ := h x (by simp)
   refine ⟨n :: l, by simp [hl], by simp [hlen], fun y hy => ?_⟩
   rcases List.mem_cons.1 hy with rfl | hy
   ·exact wf8 hw
   ·exact hf y hy
theorem q169 {x : T} (h : q168.wt [x]) : ∃ l : List Int, x = bytes l /\ l.length <= 9223372036854775807 /\ q161 l := by
 obtain ⟨xs, hx, hlen, hall⟩ := h
 obtain ⟨l, hl, hll, hf⟩ := q166 hall
 simp only [List.cons.injEq, and_true] at hx
 exact ⟨l, by rw [hx, hl]; rfl, by rw [hll]; exact hlen, hf⟩
end Go.Ab

/- The bridge, part 6: words of the text that names a program's order. -/
namespace Go.Ab

theorem q0uy : ( "finals" : String).toList = ([102, 105, 110, 97, 108, 115].map Char.ofNat) := String.toList_ofList
theorem q0v9 : ( "reflectrows" : String).toList = ([114, 101, 102, 108, 101, 99, 116, 114, 111, 119, 115].map Char.ofNat) := String.toList_ofList
theorem q0v2 : ( "leanrows" : String).toList = ([108, 101, 97, 110, 114, 111, 119, 115].map Char.ofNat) := String.toList_ofList
theorem q0v4 : ( "onebuild" : String).toList = ([111, 110, 101, 98, 117, 105, 108, 100].map Char.ofNat) := String.toList_ofList
theorem q0v7 : ( "publicsums" : String).toList = ([112, 117, 98, 108, 105, 99, 115, 117, 109, 115].map Char.ofNat) := String.toList_ofList
theorem q0ux : ( "eqguard" : String).toList = ([101, 113, 103, 117, 97, 114, 100].map Char.ofNat) := String.toList_ofList
theorem q0v6 : ( "ownunsafe" : String).toList = ([111, 119, 110, 117, 110, 115, 97, 102, 101].map Char.ofNat) := String.toList_ofList
theorem q0v3 : ( "libbeside" : String).toList = ([108, 105, 98, 98, 101, 115, 105, 100, 101].map Char.ofNat) := String.toList_ofList
theorem q0v5 : ( "ownbeside" : String).toList = ([111, 119, 110, 98, 101, 115, 105, 100, 101].map Char.ofNat) := String.toList_ofList
theorem q0v8 : ( "reflbeside" : String).toList = ([114, 101, 102, 108, 98, 101, 115, 105, 100, 101].map Char.ofNat) := String.toList_ofList
theorem q0ut : ( "aliases" : String).toList = ([97, 108, 105, 97, 115, 101, 115].map Char.ofNat) := String.toList_ofList
theorem q0us : ( "afterinit" : String).toList = ([97, 102, 116, 101, 114, 105, 110, 105, 116].map Char.ofNat) := String.toList_ofList
theorem q0uv : ( "crcplain" : String).toList = ([99, 114, 99, 112, 108, 97, 105, 110].map Char.ofNat) := String.toList_ofList
theorem q0va : ( "roadunsafe" : String).toList = ([114, 111, 97, 100, 117, 110, 115, 97, 102, 101].map Char.ofNat) := String.toList_ofList
theorem q0uz : ( "fmthandon" : String).toList = ([102, 109, 116, 104, 97, 110, 100, 111, 110].map Char.ofNat) := String.toList_ofList
theorem q0uw : ( "cut" : String).toList = ([99, 117, 116].map Char.ofNat) := String.toList_ofList
theorem q0v0 : ( "gc" : String).toList = ([103, 99].map Char.ofNat) := String.toList_ofList
theorem q0vb : ( "spec" : String).toList = ([115, 112, 101, 99].map Char.ofNat) := String.toList_ofList
theorem q0uu : ( "carried" : String).toList = ([99, 97, 114, 114, 105, 101, 100].map Char.ofNat) := String.toList_ofList
theorem q0vc : ( "stop" : String).toList = ([115, 116, 111, 112].map Char.ofNat) := String.toList_ofList
theorem q0v1 : ( "harness" : String).toList = ([104, 97, 114, 110, 101, 115, 115].map Char.ofNat) := String.toList_ofList
def cutL : List Char := ([99, 117, 116].map Char.ofNat)
theorem q0tv (ws : List (List Char)) : stripLifts liftWords (cutL :: ws) = ([], cutL :: ws) := by
 have no : ∀ (o : String) (os : List String) (l : List Char), o.toList = l -> (cutL == l) = false -> stripLifts (o :: os) (cutL :: ws) = stripLifts os (cutL :: ws) := fun o os l h1 h2 => by
  show (if cutL == o.toList then _ else _) = _
  rw [h1, h2]; rfl
 unfold liftWords
 rw [no _ _ _ q0uy (by decide), no _ _ _ q0v9 (by decide), no _ _ _ q0v2 (by decide), no _ _ _ q0v4 (by decide), no _ _ _ q0v7 (by decide), no _ _ _ q0ux (by decide), no _ _ _ q0v6 (by decide), no _ _ _ q0v3 (by decide), no _ _ _ q0v5 (by decide), no _ _ _ q0v8 (by decide), no _ _ _ q0ut (by decide), no _ _ _ q0us (by decide), no _ _ _ q0uv (by decide), no _ _ _ q0va (by decide), no _ _ _ q0uz (by decide)]
 rfl
theorem q0xl {r : List Char} : ∀ {w : List Char}, (∀ c ∈ w, c ≠ Char.ofNat 32) -> wordsSigns (w ++ Char.ofNat 32 :: r) = w :: wordsSigns r
 | [], _ => by
   show wordsSigns (Char.ofNat 32 :: r) = _
   rfl
 | c :: w, h => by
   have ih := q0xl (r := r) (w := w) fun d hd => h d (by simp [hd])
   show wordsSigns (c :: (w ++ Char.ofNat 32 :: r)) = _
   rw [wordsSigns, ih]
   exact fun he => h c (by simp) he
theorem q0xm {s : String} {w1 w2 w3 r : List Char} (hs : s = String.ofList (w1 ++ Char.ofNat 32 :: (w2 ++ Char.ofNat 32 :: (w3 ++ Char.ofNat 32 :: r)))) (h1 : (w1.all fun c => c != Char.ofNat 32) = true) (h2 : (w2.all fun c => c != Char.ofNat 32) = true) (h3 : (w3.all fun c => c != Char.ofNat 32) = true)
  (hh : (w1 == ([104, 97, 114, 110, 101, 115, 115].map Char.ofNat)) = true) (hsum : isSumSigns w2 = true) : behindMainWord (wordsSigns s.toList) = w3 :: wordsSigns r := by
 have g : ∀ w : List Char, (w.all fun c => c != Char.ofNat 32) = true -> ∀ c ∈ w, c ≠ Char.ofNat 32 := fun w h c hc => by
  have := List.all_eq_true.1 h c hc
  simpa using this
 rw [hs, String.toList_ofList, q0xl (g w1 h1), q0xl (g w2 h2), q0xl (g w3 h3)]
 show (if (w1 == "harness".toList || w1 == "ownmain".toList) && isSumSigns w2 then w3 :: wordsSigns r else w1 :: w2 :: w3 :: wordsSigns r) = _
 rw [q0v1, hh, hsum]; rfl
theorem q0k3 {P : Program} (hw : ∃ ws, behindMainWord (wordsSigns P.initOrder.toList) = cutL :: ws) (h1 : P.laysLater = false) (h2 : P.bearsReflect = false) (h3 : P.doorFits [] = true) : P.mayEnter = true := by
 obtain ⟨ws, h⟩ := hw
 unfold Program.mayEnter
 rw [h]
 simp only [q0tv, q0v0, q0vb, q0uu, q0uw, q0vc, h1, h2, h3]
 rfl
theorem q0i4 {P : Program} (hw : ∃ ws, behindMainWord (wordsSigns P.initOrder.toList) = cutL :: ws) : P.liftsFinal = false := by
 obtain ⟨ws, h⟩ := hw
 unfold Program.liftsFinal Program.headLifts
 rw [h]
 simp only [q0tv, q0v0, q0uu, q0uw]
 rfl
theorem q0jf {P : Program} (hw : ∃ ws, behindMainWord (wordsSigns P.initOrder.toList) = cutL :: ws) : P.make = some .cut := by
 obtain ⟨ws, h⟩ := hw
 unfold Program.make
 rw [h]
 simp only [q0v0, q0vb, q0uy, q0uu, q0uw]
 rfl
end Go.Ab

/- Facts of the seat's program, for the claims' closed facts. -/
namespace Go.Proofs.YtnnmgdngfofjlaaGreatDoor
open Go.ChangeShapes Go.WideShapes Go.ChangeAt Go.RowKit Go.Ab

set_option maxRecDepth 100000 in
theorem Tryz.initSigns : Tryz.prog.initOrder = String.ofList (([104, 97, 114, 110, 101, 115, 115].map Char.ofNat) ++ Char.ofNat 32 :: (([52, 53, 55, 100, 53, 97, 54, 56, 99, 53, 48, 101, 99, 54, 57, 50, 57, 98, 56, 48, 56, 57, 53, 52, 56, 102, 100, 54, 102, 51, 99, 53, 57, 48, 52, 50, 52, 57, 55, 98, 98, 48, 102, 56, 51, 48, 54, 50, 101, 50, 102, 100, 102, 55, 48, 55, 100, 102, 51, 98, 49, 52, 99, 54].map Char.ofNat) ++ Char.ofNat 32 :: (([99, 117, 116].map Char.ofNat) ++ Char.ofNat 32 :: ([97, 116, 32, 108, 111, 111, 112, 46, 101, 120, 97, 109, 112, 108, 101, 47, 103, 48, 48, 57, 49, 48, 47, 108, 97, 119, 115, 46, 70, 110, 77, 97, 100, 101, 67, 108, 97, 105, 109, 115].map Char.ofNat)))) := by kernel_rfl
set_option maxRecDepth 100000 in
theorem Tryz.initWords : ∃ ws, behindMainWord (wordsSigns Tryz.prog.initOrder.toList) = cutL :: ws := ⟨_, q0xm Tryz.initSigns (by kernel_rfl) (by kernel_rfl) (by kernel_rfl) (by kernel_rfl) (by kernel_rfl)⟩
theorem Tryz.laysF : Tryz.prog.laysLater = false := by kernel_rfl
theorem Tryz.bearsF : Tryz.prog.bearsReflect = false := by kernel_rfl
theorem Tryz.doorT : Tryz.prog.doorFits [] = true := by kernel_rfl
theorem Tryz.mayEnterT : Tryz.prog.mayEnter = true := q0k3 Tryz.initWords Tryz.laysF Tryz.bearsF Tryz.doorT
theorem Tryz.liftsF : Tryz.prog.liftsFinal = false := q0i4 Tryz.initWords
theorem Tryz.makeC : Tryz.prog.make = some .cut := q0jf Tryz.initWords
theorem Tryz.heardT : Tryz.prog.stopsHeard = true := by kernel_rfl
theorem Tryz.laidOutT : laidOutB Tryz.prog = true := by kernel_rfl
theorem Tryz.mapsRowedT : mapsRowed Tryz.prog = true := by kernel_rfl
end Go.Proofs.YtnnmgdngfofjlaaGreatDoor

/- Games as data: rows of cells, nodes, trees. -/
namespace Go.Ab

/-! Lists of things of s cells each. -/
section
variable {α : Type} {f : α -> List T} {s : Nat}
def chunk (f : α -> List T) (l : List α) : List T := l.flatMap f
theorem q06e : chunk f [] = [] := rfl
theorem q069 (x : α) (l : List α) : chunk f (x :: l) = f x ++ chunk f l := by simp [chunk]
theorem q067 (l l' : List α) : chunk f (l ++ l') = chunk f l ++ chunk f l' := by simp [chunk]
theorem q06d (hs : ∀ x, (f x).length = s) : ∀ l : List α, (chunk f l).length = l.length * s
 | [] => by simp [chunk]
 | x :: l => by rw [q069, List.length_append, hs, q06d hs l, List.length_cons, Nat.add_mul]; omega
theorem q06a (hs : ∀ x, (f x).length = s) (h0 : 0 < s) (l : List α) : (chunk f l).length / s = l.length := by rw [q06d hs, Nat.mul_div_cancel _ h0]
theorem q06b (hs : ∀ x, (f x).length = s) : ∀ (l : List α) (i : Nat), (chunk f l).drop (i * s) = chunk f (l.drop i)
 | l, 0 => by simp
 | [], i + 1 => by simp [chunk]
 | x :: l, i + 1 => by
   rw [q069, show (i + 1) * s = (f x).length + i * s by rw [hs, Nat.add_mul]; omega, List.drop_length_add_append, q06b hs l i]; rfl
theorem q0yy (hs : ∀ x, (f x).length = s) : ∀ (l : List α) (i : Nat), (chunk f l).take (i * s) = chunk f (l.take i)
 | l, 0 => by simp [chunk]
 | [], i + 1 => by simp [chunk]
 | x :: l, i + 1 => by
   rw [q069, show (i + 1) * s = (f x).length + i * s by rw [hs, Nat.add_mul]; omega, List.take_length_add_append, q0yy hs l i, List.take_succ_cons, q069]
theorem q068 (hs : ∀ x, (f x).length = s) {l : List α} {i : Nat} {x : α} (h : l[i]? = some x) : ((chunk f l).drop (i * s)).take s = f x := by
 obtain ⟨hi, rfl⟩ := List.getElem?_eq_some_iff.1 h
 rw [q06b hs, List.drop_eq_getElem_cons hi, q069, List.take_append_of_le_length (by rw [hs]; exact Nat.le_refl _), List.take_of_length_le (by rw [hs]; exact Nat.le_refl _)]
theorem q06c (hs : ∀ x, (f x).length = s) {l : List α} {i k : Nat} {x : α} (h : l[i]? = some x) (hk : k < s) : (chunk f l)[i * s + k]? = (f x)[k]? := by
 have := congrArg (·[k]?) (q068 hs h)
 simp only [List.getElem?_take, List.getElem?_drop, if_pos hk] at this
 exact this
end

structure Nd where
 p : Int
 a : Int
 b : Int
 f : Int
 ch : List Int
deriving DecidableEq
def q0lu (x : Nd) : List T := [.i x.p, .i x.a, .i x.b, .i x.f, ints x.ch]
def q0lv (x : Nd) : List T := [.i x.p, .i x.a, .i x.b, .i x.f, intsO x.ch]
theorem q0lx (x : Nd) : (q0lu x).length = 5 := rfl
theorem q0lw (x : Nd) : (q0lv x).length = 5 := rfl
def nodes (l : List Nd) : T := .sh 5 (chunk q0lu l)
def q0m0 (l : List Nd) : T := .arr 5 (chunk q0lv l)
def q0vz (l : List Nd) : T := .agg [nodes l]
theorem q0kw {l : List Nd} {i : Nat} {x : Nd} (h : l[i]? = some x) : ((chunk q0lu l).drop (i * 5)).take 5 = [.i x.p, .i x.a, .i x.b, .i x.f, ints x.ch] := q068 q0lx h
theorem q0l0 (l : List Nd) : (chunk q0lu l).length = l.length * 5 := q06d q0lx l
theorem q0kx (l : List Nd) : (chunk q0lu l).length / 5 = l.length := q06a q0lx (by decide) l
theorem q0ky {l : List Nd} {i : Nat} {x : Nd} (h : l[i]? = some x) : (chunk q0lu l)[i * 5]? = some (.i x.p) := q06c (k := 0) q0lx h (by decide)
theorem q0kz {l : List Nd} {i : Nat} {x : Nd} (h : l[i]? = some x) : (chunk q0lu l)[i * 5 + 4]? = some (ints x.ch) := q06c (k := 4) q0lx h (by decide)
attribute [go_sem] q0kx

def incr : List Int -> Bool
 | [] => true
 | [_] => true
 | x :: y :: l => decide (x < y) && incr (y :: l)
def ndOK (n i : Nat) (x : Nd) : Bool :=
 decide (0 <= x.p /\ x.p <= 2) && decide (0 <= x.a /\ x.a <= 100) && decide (0 <= x.b /\ x.b <= 100) &&
 (if x.p = 2 then decide (x.ch = []) && decide (-1 <= x.f /\ x.f <= 1) && (decide (x.f ≠ -1) || decide (x.a = x.b))
  else decide (x.f = -1) && decide (1 <= x.ch.length /\ x.ch.length <= 4) && (x.ch.all fun c => decide ((i : Int) + 1 <= c /\ c <= (n : Int) - 1)) && incr x.ch)
def occ (c : Nat) (l : List Nd) : Nat := (l.map fun x => if x.p = 2 then 0 else x.ch.count (c : Int)).sum
def dep (l : List Nd) : Nat -> Nat -> Int
 | 0, _ => 0
 | f + 1, i => if (l.getD i ⟨2, 0, 0, 0, []⟩).p = 2 then 0 else ((l.getD i ⟨2, 0, 0, 0, []⟩).ch.foldl (fun d c => max d (dep l f c.toNat)) 0) + 1
def q0l2 (l : List Nd) : Prop := ∀ i x, l[i]? = some x -> ndOK l.length i x = true
def q0fv (l : List Nd) : Bool :=
 decide (1 <= l.length /\ l.length <= 60) && ((List.range l.length).all fun i => ndOK l.length i (l.getD i ⟨2, 0, 0, 0, []⟩)) && ((List.range l.length).all fun i => decide (i = 0 ∨ occ i l = 1)) && decide (dep l l.length 0 <= 5)

theorem q0l3 (l : List Nd) : ((List.range l.length).all fun i => ndOK l.length i (l.getD i ⟨2, 0, 0, 0, []⟩)) = true ↔ q0l2 l := by
 rw [List.all_eq_true]
 constructor
 ·intro h i x hx
  have hi := (List.getElem?_eq_some_iff.1 hx).1
  have := h i (List.mem_range.2 hi)
  rwa [List.getD_eq_getElem?_getD, hx] at this
 ·intro h i hi
  have hi := List.mem_range.1 hi
  rw [List.getD_eq_getElem?_getD, List.getElem?_eq_getElem hi]
  exact h i _ (List.getElem?_eq_getElem hi)
theorem q0kp {n i : Nat} {x : Nd} (h : ndOK n i x = true) : ∀ c ∈ x.ch, (i : Int) + 1 <= c /\ c <= (n : Int) - 1 := by
 intro c hc
 simp only [ndOK, Bool.and_eq_true] at h
 have h2 := h.2
 split at h2
 ·simp only [Bool.and_eq_true, decide_eq_true_eq] at h2
  rw [h2.1.1] at hc; simp at hc
 ·simp only [Bool.and_eq_true, decide_eq_true_eq, List.all_eq_true] at h2
  exact h2.1.2 c hc
theorem q0ks {n i : Nat} {x : Nd} (h : ndOK n i x = true) : (0 <= x.p /\ x.p <= 2) /\ (0 <= x.a /\ x.a <= 100) /\ (0 <= x.b /\ x.b <= 100) /\ (x.p = 2 -> x.ch = [] /\ -1 <= x.f /\ x.f <= 1 /\ (x.f = -1 -> x.a = x.b)) /\ (x.p ≠ 2 -> x.f = -1 /\ 1 <= x.ch.length) /\ x.ch.length <= 4 := by
 simp only [ndOK, Bool.and_eq_true, decide_eq_true_eq] at h
 obtain ⟨⟨⟨h1, h2⟩, h3⟩, h4⟩ := h
 refine ⟨h1, h2, h3, fun hp => ?_, fun hp => ?_, ?_⟩
 ·rw [if_pos hp] at h4
  simp only [Bool.and_eq_true, Bool.or_eq_true, decide_eq_true_eq] at h4
  exact ⟨h4.1.1, h4.1.2.1, h4.1.2.2, fun hf => h4.2.resolve_left (fun h => h hf)⟩
 ·rw [if_neg hp] at h4
  simp only [Bool.and_eq_true, decide_eq_true_eq] at h4
  exact ⟨h4.1.1.1, h4.1.1.2.1⟩
 ·split at h4
  ·simp only [Bool.and_eq_true, decide_eq_true_eq] at h4
   rw [h4.1.1]; simp
  ·simp only [Bool.and_eq_true, decide_eq_true_eq] at h4
   exact h4.1.1.2.2
theorem q07x {l : List Nd} : ∀ (f i : Nat), 0 <= dep l f i /\ dep l f i <= f
 | 0, i => by simp [dep]
 | f + 1, i => by
   rw [dep]; split
   ·omega
   ·have key : ∀ (cs : List Int) (d : Int), 0 <= d /\ d <= f -> 0 <= cs.foldl (fun d c => max d (dep l f c.toNat)) d /\ cs.foldl (fun d c => max d (dep l f c.toNat)) d <= f := by
     intro cs
     induction cs with
     | nil => intro d h; exact h
     | cons c cs ih =>
       intro d h
       rw [List.foldl_cons]
       have := q07x (l := l) f c.toNat
       exact ih _ (by omega)
    have := key (l.getD i ⟨2, 0, 0, 0, []⟩).ch 0 (by omega)
    omega
end Go.Ab

/- Games as data: values and best responses. -/
namespace Go.Ab

def nd0 : Nd := ⟨2, 0, 0, 0, []⟩
structure Gm where
 nd : List Nd
 w : List (List Int)
 v : List (List Int)
deriving DecidableEq
def sumI : List Int -> Int
 | [] => 0
 | x :: l => x + sumI l
theorem q0ty : ∀ l l' : List Int, sumI (l ++ l') = sumI l + sumI l'
 | [], l' => by simp [sumI]
 | x :: l, l' => by rw [List.cons_append, sumI, sumI, q0ty l l']; omega
theorem q0u7 (l : List Int) (x : Int) : sumI (l ++ [x]) = sumI l + x := by rw [q0ty]; simp [sumI]
theorem q0u4 : ∀ {l : List Int}, (∀ x ∈ l, 0 <= x) -> 0 <= sumI l
 | [], _ => by simp [sumI]
 | x :: l, h => by
   have h1 := h x (by simp)
   have h2 := q0u4 (l := l) fun y hy => h y (by simp [hy])
   rw [sumI]; omega
theorem q0u1 {b : Int} : ∀ {l : List Int}, (∀ x ∈ l, x <= b) -> sumI l <= l.length * b
 | [], _ => by simp [sumI]
 | x :: l, h => by
   have h1 := h x (by simp)
   have h2 := q0u1 (l := l) fun y hy => h y (by simp [hy])
   rw [sumI, List.length_cons]
   have : ((l.length + 1 : Nat) : Int) * b = l.length * b + b := by rw [Int.natCast_add, Int.add_mul]; simp
   omega
def matK (m : List (List Int)) (k : Nat) (lo hi : Int) : Bool := decide (m.length = k) && m.all fun r => decide (r.length = k) && r.all fun x => decide (lo <= x /\ x <= hi)
def totW (w : List (List Int)) : Int := sumI (w.map sumI)
def q0fl (g : Gm) : Bool := q0fv g.nd && decide (1 <= g.w.length /\ g.w.length <= 6) && matK g.w g.w.length 0 9 && matK g.v g.w.length (-1) 1 && decide (0 < totW g.w)

def idxs (l : List Nd) (pl : Int) (n : Nat) : List Int := ((List.range n).filter fun i => decide ((l.getD i nd0).p = pl)).map Int.ofNat
theorem q0ec (l : List Nd) (pl : Int) (n : Nat) : idxs l pl (n + 1) = if (l.getD n nd0).p = pl then idxs l pl n ++ [(n : Int)] else idxs l pl n := by
 unfold idxs
 rw [List.range_succ, List.filter_append]
 by_cases h : (l.getD n nd0).p = pl
 ·rw [if_pos h, List.filter_cons_of_pos (by simpa using h)]; simp
 ·rw [if_neg h, List.filter_cons_of_neg (by simpa using h)]; simp
def q0r3 (ns : List Int) (k : Nat) : List (List Int) := ns.flatMap fun n => (List.range k).map fun c : Nat => [n, (c : Int)]
theorem q0r6 (ns : List Int) (n : Int) (k : Nat) : q0r3 (ns ++ [n]) k = q0r3 ns k ++ (List.range k).map fun c : Nat => [n, (c : Int)] := by simp [q0r3]
theorem q0r4 (ns : List Int) (k : Nat) : (q0r3 ns k).length = ns.length * k := by
 induction ns with
 | nil => simp [q0r3]
 | cons n ns ih =>
   have : q0r3 (n :: ns) k = ((List.range k).map fun c : Nat => [n, (c : Int)]) ++ q0r3 ns k := rfl
   rw [this, List.length_append, ih]; simp [Nat.add_mul]; omega
def sets (g : Gm) (pl : Int) : List (List Int) := q0r3 (idxs g.nd pl g.nd.length) g.w.length

def pay (g : Gm) (i : Nat) (a b : Nat) : Int :=
 let x := g.nd.getD i nd0
 let r := if x.f = 0 then -1 else if x.f = 1 then 1 else (g.v.getD a []).getD b 0
 if r = 1 then x.b else if r = -1 then -x.a else 0
def pw (p : Nat) : Int := 60 ^ p
theorem q0ol (p : Nat) : pw (p + 1) = 60 * pw p := by rw [pw, pw, Int.pow_succ, Int.mul_comm]
theorem q0ok (p : Nat) : 0 < pw p := Int.pow_pos (by decide)
def setI (g : Gm) (pl : Int) (i c : Nat) : Nat := (idxs g.nd pl i).length * g.w.length + c
def partsOf (g : Gm) (pt : List (List Int)) (pl : Int) (i c : Nat) : List Int := pt.getD (setI g pl i c) []

def val (g : Gm) (s t : List (List Int)) : Nat -> Nat -> Nat -> Nat -> Nat -> Int
 | 0, _, _, _, _ => 0
 | f + 1, i, a, b, p =>
   let x := g.nd.getD i nd0
   if x.p = 2 then pay g i a b * pw p
   else sumI (List.zipWith (fun q c => q * val g s t f c.toNat a b (p - 1)) (if x.p = 0 then partsOf g s 0 i a else partsOf g t 1 i b) x.ch)

def payP (g : Gm) (pl : Int) (i own c : Nat) : Int := if pl = 0 then pay g i own c else -pay g i c own
def q0lc (g : Gm) (ot : List (List Int)) (pl : Int) (i : Nat) (reach : List Int) (k : Nat) : List Int :=
 (List.range reach.length).map fun c => reach.getD c 0 * (partsOf g ot (1 - pl) i c).getD k 0
def q01b : List Int -> Nat
 | [] => 0
 | l => go l.length l
where
 go : Nat -> List Int -> Nat
  | 0, _ => 0
  | n + 1, l => if n = 0 then 0 else if l.getD (go n l) 0 < l.getD n 0 then n else go n l
def q01z (g : Gm) (ot : List (List Int)) (pl : Int) (own : Nat) : Nat -> Nat -> List Int -> Nat -> Int
 | 0, _, _, _ => 0
 | f + 1, i, reach, p =>
   let x := g.nd.getD i nd0
   if x.p = 2 then sumI ((List.range reach.length).map fun c => reach.getD c 0 * payP g pl i own c) * pw p
   else if x.p = pl then
    let vs := x.ch.map fun c => q01z g ot pl own f c.toNat reach p
    vs.getD (q01b vs) 0
   else sumI ((List.range x.ch.length).map fun k => q01z g ot pl own f (x.ch.getD k 0).toNat (q0lc g ot pl i reach k) (p - 1))
end Go.Ab

/- Games as data: best responses, scales and bounds. -/
namespace Go.Ab

theorem q09p {α : Type} (F : α -> Int) : ∀ (cs : List α) (d : Int), d <= cs.foldl (fun d c => max d (F c)) d /\ ∀ c ∈ cs, F c <= cs.foldl (fun d c => max d (F c)) d
 | [], d => ⟨Int.le_refl _, by simp⟩
 | c :: cs, d => by
   rw [List.foldl_cons]
   obtain ⟨h1, h2⟩ := q09p F cs (max d (F c))
   refine ⟨by omega, fun c' hc' => ?_⟩
   rcases List.mem_cons.1 hc' with rfl | hc'
   ·omega
   ·exact h2 c' hc'
theorem q07w {l : List Nd} {f i : Nat} (hp : (l.getD i nd0).p ≠ 2) : 1 <= dep l (f + 1) i /\ ∀ c ∈ (l.getD i nd0).ch, dep l f c.toNat + 1 <= dep l (f + 1) i := by
 have e : dep l (f + 1) i = ((l.getD i nd0).ch.foldl (fun d c => max d (dep l f c.toNat)) 0) + 1 := by
  rw [dep]; exact if_neg hp
 obtain ⟨h1, h2⟩ := q09p (fun c : Int => dep l f c.toNat) (l.getD i nd0).ch 0
 rw [e]
 exact ⟨by omega, fun c hc => by have := h2 c hc; omega⟩

theorem q01f (n : Nat) (l : List Int) : q01b.go (n + 1) l = if n = 0 then 0 else if l.getD (q01b.go n l) 0 < l.getD n 0 then n else q01b.go n l := rfl
theorem q0cq {α : Type} {l : List α} {k : Nat} (d : α) (h : k < l.length) : l.getD k d ∈ l := by rw [List.getD_eq_getElem?_getD, List.getElem?_eq_getElem h]; exact List.getElem_mem h
theorem q01e (l : List Int) : ∀ n, 0 < n -> q01b.go n l < n
 | 0, h => absurd h (by omega)
 | 1, _ => by simp [q01b.go]
 | n + 2, _ => by
   have := q01e l (n + 1) (by omega)
   rw [q01f, if_neg (by omega)]
   split <;> omega
theorem q01c (l : List Int) : q01b l = q01b.go l.length l := by
 cases l with
 | nil => rfl
 | cons a l => rfl
theorem q01d {l l' : List Int} : ∀ n, (∀ i j, i < n -> j < n -> (l.getD i 0 < l.getD j 0 ↔ l'.getD i 0 < l'.getD j 0)) -> q01b.go n l = q01b.go n l'
 | 0, _ => rfl
 | 1, _ => by simp [q01b.go]
 | n + 2, h => by
   rw [q01f (n + 1) l, q01f (n + 1) l', if_neg (c := n + 1 = 0) (by omega), if_neg (c := n + 1 = 0) (by omega)]
   have ih := q01d (l := l) (l' := l') (n + 1) fun i j hi hj => h i j (by omega) (by omega)
   rw [ih]
   have hlt := q01e l' (n + 1) (by omega)
   have := h (q01b.go (n + 1) l') (n + 1) (by omega) (by omega)
   by_cases h1 : l.getD (q01b.go (n + 1) l') 0 < l.getD (n + 1) 0
   ·rw [if_pos h1, if_pos (this.1 h1)]
   ·rw [if_neg h1, if_neg fun h2 => h1 (this.2 h2)]
theorem q0cp (l : List Int) (i : Nat) : (l.map fun x => 60 * x).getD i 0 = 60 * l.getD i 0 := by
 rw [List.getD_eq_getElem?_getD, List.getD_eq_getElem?_getD, List.getElem?_map]
 cases l[i]? <;> simp
theorem q01g (l : List Int) : q01b (l.map fun x => 60 * x) = q01b l := by
 rw [q01c, q01c, List.length_map]
 refine q01d _ fun i j _ _ => ?_
 rw [q0cp, q0cp]; omega

theorem q0u2 {α : Type} (F : α -> Int) (c : Int) : ∀ l : List α, sumI (l.map fun x => c * F x) = c * sumI (l.map F)
 | [] => by simp [sumI]
 | x :: l => by rw [List.map_cons, List.map_cons, sumI, sumI, q0u2 F c l, Int.mul_add]
theorem q0tz {α : Type} {F G : α -> Int} : ∀ {l : List α}, (∀ x ∈ l, F x = G x) -> sumI (l.map F) = sumI (l.map G)
 | [], _ => rfl
 | x :: l, h => by rw [List.map_cons, List.map_cons, sumI, sumI, h x (by simp), q0tz fun y hy => h y (by simp [hy])]
theorem q0tx {α : Type} (F G : α -> Int) : ∀ l : List α, sumI (l.map fun x => F x + G x) = sumI (l.map F) + sumI (l.map G)
 | [] => by simp [sumI]
 | x :: l => by rw [List.map_cons, List.map_cons, List.map_cons, sumI, sumI, sumI, q0tx F G l]; omega
theorem q0u9 {α : Type} : ∀ l : List α, sumI (l.map fun _ => (0 : Int)) = 0
 | [] => rfl
 | x :: l => by rw [List.map_cons, sumI, q0u9 l]; rfl
theorem q0u8 {α β : Type} (F : α -> β -> Int) (m : List β) : ∀ l : List α, sumI (l.map fun x => sumI (m.map fun y => F x y)) = sumI (m.map fun y => sumI (l.map fun x => F x y))
 | [] => by simp only [List.map_nil, sumI]; exact (q0u9 m).symm
 | x :: l => by
   rw [List.map_cons, sumI, q0u8 F m l, ← q0tx]; rfl
theorem q0tw {α : Type} {F G : α -> Int} : ∀ {l : List α}, (∀ x ∈ l, -G x <= F x /\ F x <= G x) -> -sumI (l.map G) <= sumI (l.map F) /\ sumI (l.map F) <= sumI (l.map G)
 | [], _ => by simp [sumI]
 | x :: l, h => by
   have h1 := h x (by simp)
   have h2 := q0tw (l := l) fun y hy => h y (by simp [hy])
   rw [List.map_cons, List.map_cons, sumI, sumI]; omega
theorem q0jh : ∀ l : List Int, (List.range l.length).map (fun c => l.getD c 0) = l := by
 intro l
 refine List.ext_getElem? fun j => ?_
 rw [List.getElem?_map]
 by_cases hj : j < l.length
 ·rw [List.getElem?_range hj, Option.map_some, List.getD_eq_getElem?_getD, List.getElem?_eq_getElem hj]; rfl
 ·rw [List.getElem?_eq_none (by simpa using hj), List.getElem?_eq_none (by omega)]; rfl

theorem q022 {g : Gm} {ot : List (List Int)} {pl : Int} {own : Nat} : ∀ (f i : Nat) (reach : List Int) (p : Nat), dep g.nd f i <= p -> q01z g ot pl own f i reach (p + 1) = 60 * q01z g ot pl own f i reach p
 | 0, i, reach, p, _ => by simp [q01z]
 | f + 1, i, reach, p, h => by
   rw [q01z, q01z]
   simp only []
   by_cases h2 : (g.nd.getD i nd0).p = 2
   ·rw [if_pos h2, if_pos h2, q0ol, ← Int.mul_assoc, ← Int.mul_assoc, Int.mul_comm _ 60, Int.mul_assoc]
   ·rw [if_neg h2, if_neg h2]
    obtain ⟨d1, d2⟩ := q07w (f := f) h2
    by_cases h3 : (g.nd.getD i nd0).p = pl
    ·rw [if_pos h3, if_pos h3]
     have e : (g.nd.getD i nd0).ch.map (fun c => q01z g ot pl own f c.toNat reach (p + 1)) = ((g.nd.getD i nd0).ch.map fun c => q01z g ot pl own f c.toNat reach p).map fun x => 60 * x := by
      rw [List.map_map]
      exact List.map_congr_left fun c hc => q022 f c.toNat reach p (by have := d2 c hc; omega)
     rw [e, q01g, q0cp]
    ·rw [if_neg h3, if_neg h3]
     obtain ⟨p', rfl⟩ : ∃ p', p = p' + 1 := ⟨p - 1, by omega⟩
     rw [← q0u2]
     refine q0tz fun k hk => ?_
     have hk : k < (g.nd.getD i nd0).ch.length := by simpa using hk
     have hmem : (g.nd.getD i nd0).ch.getD k 0 ∈ (g.nd.getD i nd0).ch := q0cq 0 hk
     exact q022 f _ _ p' (by have := d2 _ hmem; omega)

def q0nw (g : Gm) (ot : List (List Int)) (pl : Int) : Prop := ∀ i c, i < g.nd.length -> c < g.w.length -> (g.nd.getD i nd0).p = pl -> (partsOf g ot pl i c).length = (g.nd.getD i nd0).ch.length /\ (∀ x ∈ partsOf g ot pl i c, 0 <= x /\ x <= 60) /\ sumI (partsOf g ot pl i c) = 60
def q0nz (g : Gm) : Prop := ∀ i a b, -100 <= pay g i a b /\ pay g i a b <= 100
theorem q0lf (g : Gm) (ot : List (List Int)) (pl : Int) (i : Nat) (reach : List Int) (k : Nat) : (q0lc g ot pl i reach k).length = reach.length := by simp [q0lc]
theorem q0lh {g : Gm} {ot : List (List Int)} {pl : Int} (hot : q0nw g ot (1 - pl)) {i : Nat} {reach : List Int} (hi : i < g.nd.length) (hr : reach.length = g.w.length) (hp : (g.nd.getD i nd0).p = 1 - pl) :
  sumI ((List.range (g.nd.getD i nd0).ch.length).map fun k => sumI (q0lc g ot pl i reach k)) = 60 * sumI reach := by
 unfold q0lc
 rw [q0u8]
 have e : sumI ((List.range reach.length).map fun c => sumI ((List.range (g.nd.getD i nd0).ch.length).map fun k => reach.getD c 0 * (partsOf g ot (1 - pl) i c).getD k 0)) = sumI ((List.range reach.length).map fun c => 60 * reach.getD c 0) := by
  refine q0tz fun c hc => ?_
  obtain ⟨h1, _, h3⟩ := hot i c hi (by have := List.mem_range.1 hc; omega) hp
  rw [q0u2, ← h1, q0jh, h3, Int.mul_comm]
 rw [e, q0u2, q0jh]
theorem q0lg {g : Gm} {ot : List (List Int)} {pl : Int} (hot : q0nw g ot (1 - pl)) {i : Nat} {reach : List Int} (hi : i < g.nd.length) (hr : reach.length = g.w.length) (hp : (g.nd.getD i nd0).p = 1 - pl) (h0 : ∀ x ∈ reach, 0 <= x) (k : Nat) :
  ∀ x ∈ q0lc g ot pl i reach k, 0 <= x := by
 intro x hx
 obtain ⟨c, hc, rfl⟩ := List.mem_map.1 hx
 have hc := List.mem_range.1 hc
 obtain ⟨_, h2, _⟩ := hot i c hi (by omega) hp
 refine Int.mul_nonneg ?_ ?_
 ·rw [List.getD_eq_getElem?_getD, List.getElem?_eq_getElem hc]; exact h0 _ (List.getElem_mem hc)
 ·rw [List.getD_eq_getElem?_getD]
  cases h : (partsOf g ot (1 - pl) i c)[k]? with
  | none => simp
  | some y => exact (h2 y (List.mem_of_getElem? h)).1
theorem q0o2 {g : Gm} (hp : q0nz g) (pl : Int) (i own c : Nat) : -100 <= payP g pl i own c /\ payP g pl i own c <= 100 := by
 unfold payP; split
 ·exact hp i own c
 ·have := hp i c own; omega
theorem q0kl {x y b : Int} (hx : 0 <= x) (h1 : -b <= y) (h2 : y <= b) : -(b * x) <= x * y /\ x * y <= b * x := by
 have e1 := Int.mul_le_mul_of_nonneg_left h2 hx
 have e2 := Int.mul_le_mul_of_nonneg_left h1 hx
 rw [Int.mul_neg] at e2
 rw [Int.mul_comm b x]; omega
theorem q0o3 {g : Gm} (hp : q0nz g) (pl : Int) (i own : Nat) {reach : List Int} (h0 : ∀ x ∈ reach, 0 <= x) :
  -(100 * sumI reach) <= sumI ((List.range reach.length).map fun c => reach.getD c 0 * payP g pl i own c) /\ sumI ((List.range reach.length).map fun c => reach.getD c 0 * payP g pl i own c) <= 100 * sumI reach := by
 have h := q0tw (l := List.range reach.length) (F := fun c => reach.getD c 0 * payP g pl i own c) (G := fun c => 100 * reach.getD c 0) fun c hc => by
  have hc := List.mem_range.1 hc
  obtain ⟨h1, h2⟩ := q0o2 hp pl i own c
  have : 0 <= reach.getD c 0 := by rw [List.getD_eq_getElem?_getD, List.getElem?_eq_getElem hc]; exact h0 _ (List.getElem_mem hc)
  exact q0kl this h1 h2
 rw [q0u2, q0jh] at h
 exact h
theorem q020 {g : Gm} {ot : List (List Int)} {pl : Int} {own : Nat} (hnd : q0l2 g.nd) (hpl : pl = 0 ∨ pl = 1) (hot : q0nw g ot (1 - pl)) (hpay : q0nz g) : ∀ (f i : Nat) (reach : List Int) (p : Nat), i < g.nd.length -> reach.length = g.w.length -> (∀ x ∈ reach, 0 <= x) -> dep g.nd f i <= p →
  -(100 * sumI reach * pw p) <= q01z g ot pl own f i reach p /\ q01z g ot pl own f i reach p <= 100 * sumI reach * pw p
 | 0, i, reach, p, _, _, h0, _ => by
   have h1 := q0u4 h0
   have h2 := q0ok p
   have := Int.mul_nonneg (Int.mul_nonneg (by decide : (0 : Int) <= 100) h1) (Int.le_of_lt h2)
   simp only [q01z]; omega
 | f + 1, i, reach, p, hi, hr, h0, h => by
   have hs := q0u4 h0
   have hpp := q0ok p
   have hB := Int.mul_nonneg (Int.mul_nonneg (by decide : (0 : Int) <= 100) hs) (Int.le_of_lt hpp)
   rw [q01z]
   simp only []
   by_cases h2 : (g.nd.getD i nd0).p = 2
   ·rw [if_pos h2]
    obtain ⟨e1, e2⟩ := q0o3 hpay pl i own h0
    have e3 := Int.mul_le_mul_of_nonneg_right e1 (Int.le_of_lt hpp)
    have e4 := Int.mul_le_mul_of_nonneg_right e2 (Int.le_of_lt hpp)
    rw [Int.neg_mul] at e3
    exact ⟨e3, e4⟩
   ·rw [if_neg h2]
    obtain ⟨d1, d2⟩ := q07w (f := f) h2
    have hx : g.nd[i]? = some (g.nd.getD i nd0) := by rw [List.getD_eq_getElem?_getD, List.getElem?_eq_getElem hi]; rfl
    have hch := q0kp (hnd i _ hx)
    by_cases h3 : (g.nd.getD i nd0).p = pl
    ·rw [if_pos h3]
     rw [List.getD_eq_getElem?_getD, List.getElem?_map]
     cases hc : (g.nd.getD i nd0).ch[q01b ((g.nd.getD i nd0).ch.map fun c => q01z g ot pl own f c.toNat reach p)]? with
     | none => simp only [Option.map_none, Option.getD_none]; omega
     | some c =>
       simp only [Option.map_some, Option.getD_some]
       have hm := List.mem_of_getElem? hc
       exact q020 hnd hpl hot hpay f c.toNat reach p (by have := hch c hm; omega) hr h0 (by have := d2 c hm; omega)
    ·rw [if_neg h3]
     have hp1 : (g.nd.getD i nd0).p = 1 - pl := by
      obtain ⟨⟨q1, q2⟩, _⟩ := q0ks (hnd i _ hx)
      omega
     obtain ⟨p', rfl⟩ : ∃ p', p = p' + 1 := ⟨p - 1, by omega⟩
     have hb := q0tw (l := List.range (g.nd.getD i nd0).ch.length) (F := fun k => q01z g ot pl own f ((g.nd.getD i nd0).ch.getD k 0).toNat (q0lc g ot pl i reach k) (p' + 1 - 1)) (G := fun k => (100 * pw p') * sumI (q0lc g ot pl i reach k)) fun k hk => by
      have hk := List.mem_range.1 hk
      have hmem : (g.nd.getD i nd0).ch.getD k 0 ∈ (g.nd.getD i nd0).ch := q0cq 0 hk
      have := q020 (own := own) hnd hpl hot hpay f ((g.nd.getD i nd0).ch.getD k 0).toNat (q0lc g ot pl i reach k) p' (by have := hch _ hmem; omega) (by rw [q0lf, hr]) (q0lg hot hi hr hp1 h0 k) (by have := d2 _ hmem; omega)
      have e : 100 * sumI (q0lc g ot pl i reach k) * pw p' = (100 * pw p') * sumI (q0lc g ot pl i reach k) := by rw [Int.mul_assoc, Int.mul_comm (sumI _), ← Int.mul_assoc]
      rw [e] at this
      exact this
     rw [q0u2, q0lh hot hi hr hp1] at hb
     have e : 100 * sumI reach * pw (p' + 1) = (100 * pw p') * (60 * sumI reach) := by
      rw [q0ol]
      generalize sumI reach = u; generalize pw p' = v
      rw [Int.mul_assoc 100 u, ← Int.mul_assoc u 60, Int.mul_comm u 60, Int.mul_assoc 60 u, Int.mul_assoc 100 v, Int.mul_comm v (60 * u), Int.mul_assoc 60 u]
     rw [e]
     exact hb
end Go.Ab

/- Games as data: strategies, choices of best responses. -/
namespace Go.Ab

def q0nt (n : Nat) (l : List Int) : Bool := decide (l.length = n) && (l.all fun x => decide (0 <= x /\ x <= 60)) && decide (sumI l = 60)
def q0rh (g : Gm) (pl : Int) (i : Nat) : Nat := (g.nd.getD (((sets g pl).getD i []).getD 0 0).toNat nd0).ch.length
def q0ft (g : Gm) (pl : Int) (pt : List (List Int)) : Bool := decide (pt.length = (sets g pl).length) && ((List.range (sets g pl).length).all fun i => q0nt (q0rh g pl i) (pt.getD i []))

theorem q0eb (l : List Nd) (pl : Int) {i : Nat} (hp : (l.getD i nd0).p = pl) : ∀ (n : Nat), i < n -> ∃ rest, idxs l pl n = idxs l pl i ++ (i : Int) :: rest
 | 0, h => absurd h (by omega)
 | n + 1, h => by
   rw [q0ec]
   rcases Nat.lt_or_ge i n with h1 | h1
   ·obtain ⟨rest, e⟩ := q0eb l pl hp n h1
    split
    ·exact ⟨rest ++ [(n : Int)], by rw [e]; simp⟩
    ·exact ⟨rest, e⟩
   ·have : n = i := by omega
    subst this
    rw [if_pos hp]
    exact ⟨[], rfl⟩
theorem q0ea {l : List Nd} {pl : Int} {n : Nat} {x : Int} (h : x ∈ idxs l pl n) : ∃ i : Nat, x = i /\ i < n /\ (l.getD i nd0).p = pl := by
 obtain ⟨i, hi, rfl⟩ := List.mem_map.1 h
 obtain ⟨h1, h2⟩ := List.mem_filter.1 hi
 exact ⟨i, rfl, List.mem_range.1 h1, by simpa using h2⟩
theorem q0rd {g : Gm} {pl : Int} {i c : Nat} (hi : i < g.nd.length) (hc : c < g.w.length) (hp : (g.nd.getD i nd0).p = pl) : (sets g pl)[setI g pl i c]? = some [(i : Int), (c : Int)] := by
 obtain ⟨rest, e⟩ := q0eb g.nd pl hp g.nd.length hi
 have e1 : q0r3 (idxs g.nd pl i ++ (i : Int) :: rest) g.w.length = q0r3 (idxs g.nd pl i) g.w.length ++ (((List.range g.w.length).map fun c : Nat => [(i : Int), (c : Int)]) ++ q0r3 rest g.w.length) := by simp [q0r3]
 rw [sets, e, e1, setI, List.getElem?_append_right (by rw [q0r4]; omega), q0r4, Nat.add_sub_cancel_left, List.getElem?_append_left (by simpa using hc)]
 rw [List.getElem?_map, List.getElem?_range hc]; rfl
theorem q0rf (g : Gm) (pl : Int) : (sets g pl).length = (idxs g.nd pl g.nd.length).length * g.w.length := q0r4 _ _
theorem q0qy {g : Gm} {pl : Int} {i c : Nat} (hi : i < g.nd.length) (hc : c < g.w.length) (hp : (g.nd.getD i nd0).p = pl) : setI g pl i c < (sets g pl).length := (List.getElem?_eq_some_iff.1 (q0rd hi hc hp)).1
theorem q0r5 {ns : List Int} {k : Nat} {x : List Int} (h : x ∈ q0r3 ns k) : ∃ n ∈ ns, ∃ c : Nat, c < k /\ x = [n, (c : Int)] := by
 obtain ⟨n, hn, hx⟩ := List.mem_flatMap.1 h
 obtain ⟨c, hc, rfl⟩ := List.mem_map.1 hx
 exact ⟨n, hn, c, List.mem_range.1 hc, rfl⟩
theorem q0nx {g : Gm} {pl : Int} {pt : List (List Int)} (h : q0ft g pl pt = true) : q0nw g pt pl := by
 intro i c hi hc hp
 simp only [q0ft, Bool.and_eq_true, decide_eq_true_eq, List.all_eq_true, List.mem_range] at h
 have h1 := h.2 (setI g pl i c) (q0qy hi hc hp)
 have e : q0rh g pl (setI g pl i c) = (g.nd.getD i nd0).ch.length := by
  have e0 : (sets g pl).getD (setI g pl i c) [] = [(i : Int), (c : Int)] := by rw [List.getD_eq_getElem?_getD, q0rd hi hc hp]; rfl
  rw [q0rh, e0]; rfl
 rw [e] at h1
 simp only [q0nt, Bool.and_eq_true, decide_eq_true_eq, List.all_eq_true] at h1
 exact ⟨h1.1.1, h1.1.2, h1.2⟩

theorem q0g0 {l : List Nd} (h : q0fv l = true) : (1 <= l.length /\ l.length <= 60) /\ q0l2 l /\ (∀ i, i < l.length -> i = 0 ∨ occ i l = 1) /\ dep l l.length 0 <= 5 := by
 simp only [q0fv, Bool.and_eq_true, decide_eq_true_eq] at h
 obtain ⟨⟨⟨h1, h2⟩, h3⟩, h4⟩ := h
 refine ⟨h1, (q0l3 l).1 h2, fun i hi => ?_, h4⟩
 rw [List.all_eq_true] at h3
 have := h3 i (List.mem_range.2 hi)
 simpa using this
theorem q0jv {m : List (List Int)} {k : Nat} {lo hi : Int} (h : matK m k lo hi = true) : m.length = k /\ ∀ r ∈ m, r.length = k /\ ∀ x ∈ r, lo <= x /\ x <= hi := by
 simp only [matK, Bool.and_eq_true, decide_eq_true_eq, List.all_eq_true] at h
 exact h
theorem q0fo {g : Gm} (h : q0fl g = true) : q0fv g.nd = true /\ (1 <= g.w.length /\ g.w.length <= 6) /\ (∀ r ∈ g.w, r.length = g.w.length /\ ∀ x ∈ r, 0 <= x /\ x <= 9) /\ g.v.length = g.w.length /\ (∀ r ∈ g.v, r.length = g.w.length /\ ∀ x ∈ r, -1 <= x /\ x <= 1) /\ 0 < totW g.w := by
 simp only [q0fl, Bool.and_eq_true, decide_eq_true_eq] at h
 obtain ⟨⟨⟨⟨h1, h2⟩, h3⟩, h4⟩, h5⟩ := h
 exact ⟨h1, h2, (q0jv h3).2, (q0jv h4).1, (q0jv h4).2, h5⟩
theorem q0o0 {g : Gm} (h : q0l2 g.nd) : q0nz g := by
 intro i a b
 have hx : (0 <= (g.nd.getD i nd0).a /\ (g.nd.getD i nd0).a <= 100) /\ (0 <= (g.nd.getD i nd0).b /\ (g.nd.getD i nd0).b <= 100) := by
  rw [List.getD_eq_getElem?_getD]
  cases hi : g.nd[i]? with
  | none => decide
  | some x =>
    obtain ⟨_, h1, h2, _⟩ := q0ks (h i x hi)
    exact ⟨h1, h2⟩
 unfold pay
 simp only []
 generalize (if (g.nd.getD i nd0).f = 0 then (-1 : Int) else if (g.nd.getD i nd0).f = 1 then 1 else (g.v.getD a []).getD b 0) = r
 split
 ·omega
 ·split <;> omega

def q01u (g : Gm) (ot : List (List Int)) (pl : Int) (own : Nat) : Nat -> Nat -> List Int -> Nat -> List (List Int) -> List (List Int)
 | 0, _, _, _, B => B
 | f + 1, i, reach, p, B =>
   let x := g.nd.getD i nd0
   if x.p = 2 then B
   else if x.p = pl then
    (x.ch.foldl (fun B c => q01u g ot pl own f c.toNat reach p B) B).set (setI g pl i own) ((List.replicate x.ch.length 0).set (q01b (x.ch.map fun c => q01z g ot pl own f c.toNat reach p)) 60)
   else (List.range x.ch.length).foldl (fun B k => q01u g ot pl own f (x.ch.getD k 0).toNat (q0lc g ot pl i reach k) (p - 1) B) B
theorem q09m {α β : Type} {F G : β -> α -> β} : ∀ (l : List α) (b : β), (∀ b, ∀ x ∈ l, F b x = G b x) -> l.foldl F b = l.foldl G b
 | [], b, _ => rfl
 | x :: l, b, h => by
   rw [List.foldl_cons, List.foldl_cons, h b x (by simp)]
   exact q09m l _ fun b y hy => h b y (by simp [hy])
theorem q01w {g : Gm} {ot : List (List Int)} {pl : Int} {own : Nat} : ∀ (f i : Nat) (reach : List Int) (p : Nat) (B : List (List Int)), dep g.nd f i <= p -> q01u g ot pl own f i reach (p + 1) B = q01u g ot pl own f i reach p B
 | 0, i, reach, p, B, _ => rfl
 | f + 1, i, reach, p, B, h => by
   rw [q01u, q01u]
   (try simp only [])
   by_cases h2 : (g.nd.getD i nd0).p = 2
   ·rw [if_pos h2, if_pos h2]
   ·rw [if_neg h2, if_neg h2]
    obtain ⟨d1, d2⟩ := q07w (f := f) h2
    by_cases h3 : (g.nd.getD i nd0).p = pl
    ·rw [if_pos h3, if_pos h3]
     have e : (g.nd.getD i nd0).ch.map (fun c => q01z g ot pl own f c.toNat reach (p + 1)) = ((g.nd.getD i nd0).ch.map fun c => q01z g ot pl own f c.toNat reach p).map fun x => 60 * x := by
      rw [List.map_map]
      exact List.map_congr_left fun c hc => q022 f c.toNat reach p (by have := d2 c hc; omega)
     rw [e, q01g]
     congr 1
     exact q09m _ _ fun B c hc => q01w f c.toNat reach p B (by have := d2 c hc; omega)
    ·rw [if_neg h3, if_neg h3]
     obtain ⟨p', rfl⟩ : ∃ p', p = p' + 1 := ⟨p - 1, by omega⟩
     refine q09m _ _ fun B k hk => ?_
     have hk := List.mem_range.1 hk
     exact q01w f _ _ p' B (by have := d2 _ (q0cq 0 hk); omega)
theorem q09n {α β : Type} {F : β -> α -> β} (I : β -> Prop) : ∀ (l : List α) (b : β), I b -> (∀ b, ∀ x ∈ l, I b -> I (F b x)) -> I (l.foldl F b)
 | [], b, h, _ => h
 | x :: l, b, h, hs => by
   rw [List.foldl_cons]
   exact q09n I l _ (hs b x (by simp) h) fun b y hy => hs b y (by simp [hy])
def q0q7 (n : Nat) (B : List (List Int)) : Prop := B.length = n /\ ∀ r ∈ B, r.length <= 4
theorem q0q8 {n : Nat} {B : List (List Int)} (h : q0q7 n B) (i : Nat) {r : List Int} (hr : r.length <= 4) : q0q7 n (B.set i r) := by
 refine ⟨by rw [List.length_set, h.1], fun y hy => ?_⟩
 rcases List.mem_or_eq_of_mem_set hy with hy | rfl
 ·exact h.2 y hy
 ·exact hr
theorem q062 {g : Gm} (hnd : q0l2 g.nd) (i : Nat) : (g.nd.getD i nd0).ch.length <= 4 := by
 rw [List.getD_eq_getElem?_getD]
 cases hi : g.nd[i]? with
 | none => simp [nd0]
 | some x => exact (q0ks (hnd i x hi)).2.2.2.2.2
theorem q01v {g : Gm} {ot : List (List Int)} {pl : Int} {own n : Nat} (hnd : q0l2 g.nd) : ∀ (f i : Nat) (reach : List Int) (p : Nat) (B : List (List Int)), q0q7 n B -> q0q7 n (q01u g ot pl own f i reach p B)
 | 0, i, reach, p, B, h => h
 | f + 1, i, reach, p, B, h => by
   rw [q01u]
   (try simp only [])
   split
   ·exact h
   ·split
    ·refine q0q8 (q09n (q0q7 n) _ _ h fun B c _ hB => q01v hnd f _ _ _ B hB) _ ?_
     rw [List.length_set, List.length_replicate]; exact q062 hnd i
    ·exact q09n (q0q7 n) _ _ h fun B k _ hB => q01v hnd f _ _ _ B hB

def q0p4 (g : Gm) (pl : Int) (own : Nat) : List Int := (List.range g.w.length).map fun c => if pl = 0 then (g.w.getD own []).getD c 0 else (g.w.getD c []).getD own 0
theorem q0p6 (g : Gm) (pl : Int) (own : Nat) : (q0p4 g pl own).length = g.w.length := by simp [q0p4]
theorem q0xh {g : Gm} (hw : ∀ r ∈ g.w, r.length = g.w.length /\ ∀ x ∈ r, 0 <= x /\ x <= 9) (a b : Nat) : 0 <= (g.w.getD a []).getD b 0 /\ (g.w.getD a []).getD b 0 <= 9 := by
 rw [List.getD_eq_getElem?_getD, List.getD_eq_getElem?_getD]
 cases ha : g.w[a]? with
 | none => simp
 | some r =>
   simp only [Option.getD_some]
   cases hb : r[b]? with
   | none => simp
   | some x => exact (hw r (List.mem_of_getElem? ha)).2 x (List.mem_of_getElem? hb)
theorem q0p5 {g : Gm} (hw : ∀ r ∈ g.w, r.length = g.w.length /\ ∀ x ∈ r, 0 <= x /\ x <= 9) (pl : Int) (own : Nat) : ∀ x ∈ q0p4 g pl own, 0 <= x /\ x <= 9 := by
 intro x hx
 obtain ⟨c, hc, rfl⟩ := List.mem_map.1 hx
 split
 ·exact q0xh hw _ _
 ·exact q0xh hw _ _
def dpt (g : Gm) : Nat := (dep g.nd g.nd.length 0).toNat
def runV (g : Gm) (ot : List (List Int)) (pl : Int) (n : Nat) : Int := sumI ((List.range n).map fun own => q01z g ot pl own g.nd.length 0 (q0p4 g pl own) (dpt g))
def runB (g : Gm) (ot : List (List Int)) (pl : Int) (n : Nat) : List (List Int) := (List.range n).foldl (fun B own => q01u g ot pl own g.nd.length 0 (q0p4 g pl own) (dpt g) B) (List.replicate (sets g pl).length [])
theorem q0qk (g : Gm) (ot : List (List Int)) (pl : Int) (n : Nat) : runV g ot pl (n + 1) = runV g ot pl n + q01z g ot pl n g.nd.length 0 (q0p4 g pl n) (dpt g) := by
 rw [runV, List.range_succ, List.map_append, q0ty]; simp [sumI, runV]
theorem q0qi (g : Gm) (ot : List (List Int)) (pl : Int) (n : Nat) : runB g ot pl (n + 1) = q01u g ot pl n g.nd.length 0 (q0p4 g pl n) (dpt g) (runB g ot pl n) := by
 rw [runB, List.range_succ, List.foldl_append]; rfl
theorem q0qh {g : Gm} (hnd : q0l2 g.nd) (ot : List (List Int)) (pl : Int) (n : Nat) : q0q7 (sets g pl).length (runB g ot pl n) := by
 refine q09n (q0q7 _) _ _ ⟨by simp, fun r hr => ?_⟩ fun B own _ hB => q01v hnd _ _ _ _ B hB
 rw [(List.mem_replicate.1 hr).2]; simp
end Go.Ab

/- Games as data: how the parents of nodes are counted. -/
namespace Go.Ab

def cntV (l : List Nd) (n i k : Nat) : List Int := (List.range n).map fun c => (occ c (l.take i) : Int) + (((l.getD i nd0).ch.take k).count (c : Int) : Nat)
theorem q06k (l : List Nd) (n i k : Nat) : (cntV l n i k).length = n := by simp [cntV]
theorem q06j (l : List Nd) {n i k c : Nat} (h : c < n) : (cntV l n i k)[c]? = some ((occ c (l.take i) : Int) + (((l.getD i nd0).ch.take k).count (c : Int) : Nat)) := by simp [cntV, h]
theorem q06o (l : List Nd) (n : Nat) : cntV l n 0 0 = List.replicate n 0 := by
 refine List.ext_getElem? fun j => ?_
 rw [List.getElem?_replicate]
 by_cases hj : j < n
 ·rw [q06j l hj, if_pos hj]; simp [occ]
 ·rw [List.getElem?_eq_none (by rw [q06k]; omega), if_neg hj]
theorem q06m {l : List Nd} {n i k c : Nat} (hc : c < n) (hk : (l.getD i nd0).ch[k]? = some (c : Int)) : (cntV l n i k).set c ((occ c (l.take i) : Int) + (((l.getD i nd0).ch.take k).count (c : Int) : Nat) + 1) = cntV l n i (k + 1) := by
 refine List.ext_getElem? fun j => ?_
 rw [List.getElem?_set, q06k]
 have ht : (l.getD i nd0).ch.take (k + 1) = (l.getD i nd0).ch.take k ++ [(c : Int)] := by rw [List.take_add_one, hk]; rfl
 by_cases hj : c = j
 ·subst hj
  rw [if_pos rfl, if_pos hc, q06j l hc, ht, List.count_append]
  simp; omega
 ·rw [if_neg hj]
  by_cases hjn : j < n
  ·rw [q06j l hjn, q06j l hjn, ht, List.count_append]
   have : List.count (j : Int) [(c : Int)] = 0 := by
    rw [List.count_eq_zero]; simp; omega
   rw [this, Nat.add_zero]
  ·rw [List.getElem?_eq_none (by rw [q06k]; omega), List.getElem?_eq_none (by rw [q06k]; omega)]
theorem q0m6 (c : Nat) (l : List Nd) (x : Nd) : occ c (l ++ [x]) = occ c l + if x.p = 2 then 0 else x.ch.count (c : Int) := by simp [occ]
theorem q0m5 {l : List Nd} {i c : Nat} {x : Nd} (hx : l[i]? = some x) (h : x.p = 2 -> x.ch = []) : occ c (l.take (i + 1)) = occ c (l.take i) + x.ch.count (c : Int) := by
 have ht : l.take (i + 1) = l.take i ++ [x] := by rw [List.take_add_one, hx]; rfl
 rw [ht, q0m6]
 split
 ·rename_i h1; rw [h h1]; simp
 ·rfl
theorem q06l {l : List Nd} {n i : Nat} {x : Nd} (hx : l[i]? = some x) (h : x.p = 2 -> x.ch = []) : cntV l n i x.ch.length = cntV l n (i + 1) 0 := by
 have hd : l.getD i nd0 = x := by rw [List.getD_eq_getElem?_getD, hx]; rfl
 refine List.map_congr_left fun c _ => ?_
 rw [q0m5 hx h, hd, List.take_length, List.take_zero]
 simp
theorem q06n {l : List Nd} {n i : Nat} {x : Nd} (hx : l[i]? = some x) (h : x.ch = []) : cntV l n i 0 = cntV l n (i + 1) 0 := by
 have := q06l (n := n) hx (fun _ => h)
 rw [h] at this
 exact this
theorem q06i (l : List Nd) (n c : Nat) (h : c < n) : (cntV l n l.length 0)[c]? = some (occ c l : Int) := by
 rw [q06j l h, List.take_length]; simp
def rises (n : Int) (l : List Int) : Bool := (l.all fun c => decide (0 <= c /\ c <= n - 1)) && incr l
theorem q0fa {a : Int} : ∀ {l : List Int}, incr (a :: l) = true -> ∀ c ∈ l, a < c
 | [], _ => by simp
 | b :: l, h => by
   rw [incr, Bool.and_eq_true, decide_eq_true_eq] at h
   intro c hc
   rcases List.mem_cons.1 hc with rfl | hc
   ·exact h.1
   ·have := q0fa h.2 c hc; omega
theorem q0kv (n i : Nat) (x : Nd) : ndOK n i x =
  (decide (0 <= x.p /\ x.p <= 2) && decide (0 <= x.a /\ x.a <= 100) && decide (0 <= x.b /\ x.b <= 100) && decide (-1 <= x.f /\ x.f <= 1) &&
  (if x.p = 2 then decide (x.ch.length = 0) && (decide (0 <= x.f) || decide (x.a = x.b))
   else decide (x.f = -1) && decide (1 <= x.ch.length /\ x.ch.length <= 4) && rises n x.ch && decide ((i : Int) < x.ch.headD 0))) := by
 rw [ndOK, Bool.eq_iff_iff]
 simp only [Bool.and_eq_true, decide_eq_true_eq]
 by_cases h2 : x.p = 2
 ·rw [if_pos h2, if_pos h2]
  simp only [Bool.and_eq_true, Bool.or_eq_true, decide_eq_true_eq, List.length_eq_zero_iff]
  constructor
  ·rintro ⟨⟨⟨h1, h3⟩, h4⟩, ⟨h5, h6⟩, h7⟩
   exact ⟨⟨⟨⟨h1, h3⟩, h4⟩, h6⟩, h5, h7.imp (fun h => by omega) id⟩
  ·rintro ⟨⟨⟨⟨h1, h3⟩, h4⟩, h6⟩, h5, h7⟩
   exact ⟨⟨⟨h1, h3⟩, h4⟩, ⟨h5, h6⟩, h7.imp (fun h => by omega) id⟩
 ·rw [if_neg h2, if_neg h2]
  simp only [rises, Bool.and_eq_true, decide_eq_true_eq, List.all_eq_true]
  constructor
  ·rintro ⟨⟨⟨h1, h3⟩, h4⟩, ⟨⟨h5, h6⟩, h7⟩, h8⟩
   refine ⟨⟨⟨⟨h1, h3⟩, h4⟩, by omega⟩, ⟨⟨h5, h6⟩, fun c hc => by have := h7 c hc; omega, h8⟩, ?_⟩
   cases hch : x.ch with
   | nil => rw [hch] at h6; simp at h6
   | cons c cs => have := h7 c (by rw [hch]; simp); simp only [List.headD_cons]; omega
  ·rintro ⟨⟨⟨⟨h1, h3⟩, h4⟩, h6⟩, ⟨⟨h5, h6'⟩, h7, h8⟩, h9⟩
   refine ⟨⟨⟨h1, h3⟩, h4⟩, ⟨⟨h5, h6'⟩, fun c hc => ?_⟩, h8⟩
   have h10 := h7 c hc
   cases hch : x.ch with
   | nil => rw [hch] at hc; simp at hc
   | cons d cs =>
     rw [hch] at hc h8 h9
     simp only [List.headD_cons] at h9
     rcases List.mem_cons.1 hc with rfl | hc
     ·omega
     ·have := q0fa h8 c hc; omega
end Go.Ab

/- The bridge, part 4: games, strategies and claims as arguments. -/
namespace Go.Ab

def q0q9 (m : List (List Int)) : Prop := m.length <= 9223372036854775807 /\ ∀ r ∈ m, r.length <= 9223372036854775807
def q0cf (g : Gm) : Prop := g.nd.length <= 9223372036854775807 /\ (∀ x ∈ g.nd, x.ch.length <= 9223372036854775807) /\ q0q9 g.w /\ q0q9 g.v
def q0ck (g : Gm) : T := .agg [nodes g.nd, rows g.w, rows g.v]
def q0tu (s : Int × List (List Int)) : T := .agg [.i s.1, rows s.2]
structure Cl where
 f : Int × List (List Int)
 s : Int × List (List Int)
 lo : Int
 hi : Int
deriving DecidableEq
def q06g (c : Cl) : T := .agg [.i c.f.1, rows c.f.2, .i c.s.1, rows c.s.2, .i c.lo, .i c.hi]

end Go.Ab
