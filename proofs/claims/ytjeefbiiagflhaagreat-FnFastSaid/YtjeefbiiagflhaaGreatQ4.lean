/- The bridge, part 1: what an argument reads as, by its type. -/
import Derived.Deep.Slices
import Derived.Deep.OwnRows
import Derived.DataReads
import Derived.WideKeyArgs
import Derived.WideShapes
import Derived.ChangeShapes
import Derived.ProofKit
import Derived.OpenShut
import Derived.JoinedOf
import Derived.Handed
import Derived.RowKit
import Derived.Test.YtjeefbiiagflhaaGreatRows
import Derived.Laws.Append
import Derived.Test.YtjeefbiiagflhaaGreatQ3
set_option linter.unusedSimpArgs false
set_option linter.unusedVariables false
set_option maxRecDepth 20000
namespace Go.Ab

inductive Ty where
 | int (k : IntKind)
 | bool
 | str
 | sl (s : Nat) (e : Ty)
 | st (f : Ty)
 | nil
 | cons (a r : Ty)

def Ty.wt : Ty -> List T -> Prop
 | .int k, l => ∃ n, l = [.v (.int k n)] /\ (Lit.int k n).wf = true
 | .bool, l => ∃ b, l = [.v (.bool b)]
 | .str, l => ∃ s, l = [.v (.string s)] /\ s.size <= maxLen
 | .sl s e, l => ∃ xs : List (List T), l = [.sh s xs.flatten] /\ xs.length <= maxLen /\ ∀ x ∈ xs, x.length = s /\ e.wt x
 | .st f, l => f.wt l
 | .nil, l => l = []
 | .cons a r, l => ∃ l1 l2, l = l1 ++ l2 /\ a.wt l1 /\ r.wt l2

def Ty.wtV : Ty -> T -> Prop
 | .st f, t => ∃ l, t = .agg l /\ f.wt l
 | ty, t => ty.wt [t]

mutual
def Ty.fits (P : Program) : Ty -> TypeId -> Bool
 | .int k, t => (match P.underlying t with | some (.int k') => decide (k' = k) | _ => false)
 | .bool, t => (match P.underlying t with | some .bool => true | _ => false)
 | .str, t => (match P.underlying t with | some .string => true | _ => false)
 | .sl s e, t => (match P.underlying t with | some (.slice et) => decide (P.cellsOf et = s) && decide (0 < s) && e.fits P et | _ => false)
 | .st f, t => (match P.underlying t with | some (.struct fs) => f.fitsF P (P.cellsOf t) 0 fs.toList | _ => false)
 | .nil, _ => false
 | .cons _ _, _ => false
def Ty.fitsF (P : Program) : Ty -> Nat -> Nat -> List Field -> Bool
 | .nil, n, o, [] => decide (o = n)
 | .cons a r, n, o, f :: fs => decide (f.offset = o) && a.fits P f.type && r.fitsF P n (o + P.cellsOf f.type) fs
 | _, _, _, _ => false
end

section
variable {H : Type} {enc : TypeId × Value -> H} {P : Program} {w : World} {base : Nat} {spare : Nat -> Bool} {held : Bool}

theorem q05t {a : Addr} {v : Value} (h : w.cell? a = some v) : a.spot = none /\ ∃ cs e fz, w.heap[a.block]? = some (.cells cs e fz) /\ cs[a.off]? = some v := by
 unfold World.cell? at h
 split at h
 ·rename_i c e fz hc
  split at h
  ·cases h
  ·rename_i hs
   exact ⟨by simpa using hs, c, e, fz, hc, h⟩
 ·cases h

theorem add_block (a : Addr) (i : Nat) : (a.add i).block = a.block := by
 unfold Addr.add; split <;> rfl
theorem q00m (a : Addr) (i : Nat) : (a.add i).off = a.off + i := by
 unfold Addr.add; split
 ·rename_i h; subst h; rfl
 ·rfl

theorem getD_some {vs : List Value} {i : Nat} {v : Value} (h : vs[i]? = some v) : vs.getD i undef = v := by
 rw [qA, h]; rfl

theorem Ty.read (O : Nat -> Prop) (hO : ∀ b, ¬ O b) : ∀ (ty : Ty),
  (∀ (t : TypeId) (fuel : Nat) (cs : List Value) (x : DataW H × List MemPlace), ty.fits P t = true -> DataW.trod enc P w base (fun _ => true) held fuel t cs = some x →
   ∃ l, ty.wt l /\ l.length = cs.length /\ ∀ i (h : i < l.length), Rd w O l[i] (cs.getD i undef)) ∧
  (∀ (n o : Nat) (fs : List Field) (fuel : Nat) (cs : List Value), ty.fitsF P n o fs = true -> cs.length = n →
   (∀ f ∈ fs, ∃ x, DataW.trod enc P w base (fun _ => true) held fuel f.type ((cs.drop f.offset).take (P.cellsOf f.type)) = some x) →
   ∃ l, ty.wt l /\ l.length = n - o /\ (∀ i (h : i < l.length), Rd w O l[i] ((cs.drop o).getD i undef))) := by
 have one : ∀ (v : Value), ∀ i (h : i < [T.v v].length), Rd w O [T.v v][i] ([v].getD i undef) := fun v i h => by
  have : i = 0 := by simpa using h
  subst this; exact .v v
 intro ty
 induction ty with
 | int k =>
   refine ⟨fun t fuel cs x hf h => ?_, fun n o fs fuel cs hf => by simp [Ty.fitsF] at hf⟩
   simp only [Ty.fits] at hf
   split at hf
   ·rename_i k' ht
    have : k' = k := by simpa using hf
    subst this
    obtain ⟨n, rfl, _, hw⟩ := DataW.trod_int ht h
    exact ⟨_, ⟨n, rfl, hw⟩, rfl, one _⟩
   ·cases hf
 | bool =>
   refine ⟨fun t fuel cs x hf h => ?_, fun n o fs fuel cs hf => by simp [Ty.fitsF] at hf⟩
   simp only [Ty.fits] at hf
   split at hf
   ·rename_i ht
    obtain ⟨n, rfl, _⟩ := DataW.trod_bool ht h
    exact ⟨_, ⟨n, rfl⟩, rfl, one _⟩
   ·cases hf
 | str =>
   refine ⟨fun t fuel cs x hf h => ?_, fun n o fs fuel cs hf => by simp [Ty.fitsF] at hf⟩
   simp only [Ty.fits] at hf
   split at hf
   ·rename_i ht
    obtain ⟨n, rfl, _, hw⟩ := DataW.trod_string ht h
    exact ⟨_, ⟨n, rfl, hw⟩, rfl, one _⟩
   ·cases hf
 | sl s e ih =>
   refine ⟨fun t fuel cs x hf h => ?_, fun n o fs fuel cs hf => by simp [Ty.fitsF] at hf⟩
   simp only [Ty.fits] at hf
   split at hf
   ·rename_i et ht
    simp only [qM, decide_eq_true_eq] at hf
    obtain ⟨⟨hs, hs0⟩, hfe⟩ := hf
    have single : ∀ (t : T) (v : Value), Rd w O t v -> ∀ i (h : i < [t].length), Rd w O [t][i] ([v].getD i undef) := fun t v hr i h => by
     have : i = 0 := by simpa using h
     subst this; exact hr
    rcases Deep.open_slice ht h with ⟨rfl, _⟩ | ⟨a, len, cap, m, n, D, Pl, rfl, hb, hl, hm, hmm, _, hx⟩
    ·exact ⟨_, ⟨[], rfl, Nat.zero_le _, by simp⟩, rfl, single _ _ (.shNil s)⟩
    ·simp only [if_true] at hmm
     subst hmm
     have each : ∀ i, i < len -> ∃ y : List T × List Value, w.cells? base (a.add (i * s)) s = some y.2 /\ e.wt y.1 /\ y.1.length = s /\ ∀ j (h : j < y.1.length), Rd w O y.1[j] (y.2.getD j undef) := by
      intro i hi
      obtain ⟨cs', h1, h2⟩ := hx i (by omega)
      rw [hs] at h1
      obtain ⟨l, hwt, hlen, hr⟩ := ih.1 _ _ _ _ hfe h2
      exact ⟨(l, cs'), h1, hwt, hlen.trans (World.cells?_some h1).2.1, hr⟩
     obtain ⟨y, hy⟩ := Deep.choose_lt each
     rcases Nat.eq_zero_or_pos len with h0 | h0
     ·subst h0
      exact ⟨_, ⟨[], rfl, Nat.zero_le _, by simp⟩, rfl, single _ _ (.shZ s a _)⟩
     ·-- the block
      have cell : ∀ i j, i < len -> j < s -> w.cell? ((a.add (i * s)).add j) = some ((y i).2.getD j undef) := fun i j hi hj => by
       obtain ⟨h1, hwt, hlen, hr⟩ := hy i hi
       obtain ⟨_, h2, h3⟩ := World.cells?_some h1
       rw [h3 j hj, qA, qB (by omega)]; rfl
      have hfirst := cell 0 0 h0 hs0
      rw [Nat.zero_mul] at hfirst
      obtain ⟨hsp, cs, ee, fz, hblk, _⟩ := q05t hfirst
      rw [add_block, add_block] at hblk
      have at' : ∀ i j, i < len -> j < s -> cs[a.off + i * s + j]? = some ((y i).2.getD j undef) := fun i j hi hj => by
       obtain ⟨_, cs2, e2, fz2, h1, h2⟩ := q05t (cell i j hi hj)
       rw [add_block, add_block, hblk] at h1
       simp only [Option.some.injEq, Obj.cells.injEq] at h1
       rw [q00m, q00m, ← h1.1] at h2
       exact h2
      have hsp' : a.spot = none := by
       unfold Addr.add at hsp
       simpa using hsp
      obtain ⟨b, off, sp⟩ := a
      simp only at hsp' hblk at'
      subst hsp'
      have hfl : ∀ i, i <= len -> (((List.range i).map fun i => (y i).1).flatten).length = i * s := fun i => by
       induction i with
       | zero => intro _; simp
       | succ i ihi =>
         intro hi
         rw [List.range_succ, qG, qY, qD, ihi (by omega)]
         simp only [List.map_cons, List.map_nil, qZ, List.flatten_nil, List.append_nil, (hy i (by omega)).2.2.1, Nat.succ_mul]
      refine ⟨[.sh s ((List.range len).map fun i => (y i).1).flatten], ⟨_, rfl, by simp; exact rA hl hm, fun x hx => ?_⟩, rfl, single _ _ ?_⟩
      ·obtain ⟨i, hi, rfl⟩ := qN.1 hx
       have := hy i (by simpa using hi)
       exact ⟨this.2.2.1, this.2.1⟩
      ·have hlast := at' (len - 1) (s - 1) (by omega) (by omega)
       obtain ⟨hlt, _⟩ := qF.1 hlast
       have hmul : (len - 1) * s + s = len * s := by rw [← Nat.succ_mul]; congr 1; omega
       refine .sh s _ b off len _ cs ee fz (hO b) hblk (by rw [hfl len (qR _)]; omega) (hfl len (qR _)) hl fun k hk => ?_
       rw [hfl len (qR _)] at hk
       have hi : k / s < len := Nat.div_lt_of_lt_mul (by rw [Nat.mul_comm]; exact hk)
       have hj : k % s < s := Nat.mod_lt _ hs0
       have hk' : k / s * s + k % s = k := by rw [Nat.mul_comm]; exact Nat.div_add_mod k s
       have e1 : (((List.range len).map fun i => (y i).1).flatten)[k]? = (y (k / s)).1[k % s]? := by
        have hsplit : ∃ rest, List.range len = List.range (k / s) ++ (k / s) :: rest := by
         refine ⟨((List.range (len - k / s - 1)).map Nat.succ).map (k / s + ·), ?_⟩
         have h1 : List.range (k / s + (len - k / s)) = List.range (k / s) ++ (List.range (len - k / s)).map (k / s + ·) := List.range_add
         rw [show k / s + (len - k / s) = len by omega] at h1
         have h2 : List.range (len - k / s) = 0 :: (List.range (len - k / s - 1)).map Nat.succ := by
          rw [← List.range_succ_eq_map]; congr 1; omega
         rw [h1, h2]; rfl
        obtain ⟨rest, hsplit⟩ := hsplit
        rw [hsplit, qG, qY, rD (by rw [hfl _ (Nat.le_of_lt hi)]; omega), hfl _ (Nat.le_of_lt hi), List.map_cons, qZ,
         rR (by rw [(hy _ hi).2.2.1]; omega)]
        congr 1; omega
       have hjl : k % s < (y (k / s)).1.length := by rw [(hy _ hi).2.2.1]; exact hj
       have hget : (((List.range len).map fun i => (y i).1).flatten)[k]'(by rw [hfl len (qR _)]; exact hk) = (y (k / s)).1[k % s] := by
        have h1 := qB (l := ((List.range len).map fun i => (y i).1).flatten) (i := k) (by rw [hfl len (qR _)]; exact hk)
        rw [e1, qB hjl] at h1
        exact (Option.some.inj h1).symm
       rw [hget]
       have hc := at' (k / s) (k % s) hi hj
       rw [Nat.add_assoc, hk'] at hc
       have : cs.getD (off + k) undef = (y (k / s)).2.getD (k % s) undef := by rw [qC, hc]; rfl
       rw [this]
       exact (hy _ hi).2.2.2 _ hjl
   ·cases hf
 | st f ih =>
   refine ⟨fun t fuel cs x hf h => ?_, fun n o fs fuel cs hf => by simp [Ty.fitsF] at hf⟩
   simp only [Ty.fits] at hf
   split at hf
   ·rename_i fs ht
    obtain ⟨xs, n, rfl, _, hlen, hxl, hx⟩ := DataW.trod_struct ht h
    obtain ⟨l, hwt, hl, hr⟩ := ih.2 _ _ _ n cs hf hlen (fun f hf' => by
     obtain ⟨i, hi, rfl⟩ := rE.1 hf'
     have h1 := hx i fs.toList[i] (by simp only [Array.length_toList] at hi; simp [hi])
     have hi' : i < xs.length := by rw [hxl]; simpa using hi
     rw [qB hi'] at h1
     exact ⟨_, h1⟩)
    exact ⟨l, hwt, by omega, by simpa using hr⟩
   ·cases hf
 | nil =>
   refine ⟨fun t fuel cs x hf h => by simp [Ty.fits] at hf, fun n o fs fuel cs hf hn _ => ?_⟩
   cases fs with
   | cons f fs => simp [Ty.fitsF] at hf
   | nil =>
     have : o = n := by simpa [Ty.fitsF] using hf
     exact ⟨[], rfl, by simp; omega, fun i h => absurd h (by simp)⟩
 | cons a r iha ihr =>
   refine ⟨fun t fuel cs x hf h => by simp [Ty.fits] at hf, fun n o fs fuel cs hf hn hx => ?_⟩
   cases fs with
   | nil => simp [Ty.fitsF] at hf
   | cons f fs =>
     simp only [Ty.fitsF, qM, decide_eq_true_eq] at hf
     obtain ⟨⟨rfl, hfa⟩, hfr⟩ := hf
     obtain ⟨x, h1⟩ := hx f (by simp)
     obtain ⟨l1, hw1, hl1, hr1⟩ := iha.1 _ _ _ _ hfa h1
     obtain ⟨l2, hw2, hl2, hr2⟩ := ihr.2 _ _ _ fuel cs hfr hn (fun g hg => hx g (by simp [hg]))
     simp only [qL, List.length_drop] at hl1
     refine ⟨l1 ++ l2, ⟨l1, l2, rfl, hw1, hw2⟩, by rw [qD]; omega, fun i h => ?_⟩
     by_cases hi : i < l1.length
     ·rw [List.getElem_append_left hi]
      have := hr1 i hi
      rwa [qA, List.getElem?_take_of_lt (by omega), ← qA] at this
     ·rw [List.getElem_append_right (by omega)]
      have := hr2 (i - l1.length) (by rw [qD] at h; omega)
      rw [qA, List.getElem?_drop] at this ⊢
      rw [qD] at h
      rwa [show f.offset + P.cellsOf f.type + (i - l1.length) = f.offset + i by omega] at this
end
end Go.Ab

/- The bridge, part 2: a law that is a contract is a law of the row's form. -/
namespace Go.Ab
open Go.ChangeShapes Go.WideShapes Go.ChangeAt Go.RowKit

def q09a (P : Program) : List Ty -> List TypeId -> Bool
 | [], [] => true
 | ty :: tys, t :: ts => ty.fits P t && decide (t < P.types.size) && P.readableRec t && q09a P tys ts
 | _, _ => false
def wtL : List Ty -> List T -> Prop
 | [], [] => True
 | ty :: tys, x :: xs => ty.wtV x /\ wtL tys xs
 | _, _ => False

section
variable {H : Type} {enc : TypeId × Value -> H} {P : Program} {w : World} {base : Nat} {held : Bool}

theorem Ty.readV (O : Nat -> Prop) (hO : ∀ b, ¬ O b) {ty : Ty} {t : TypeId} {v : Value} {d : DataW H} {ps : List MemPlace} {w' : World} {r : Reach} {b0 : Nat} (hf : ty.fits P t = true) (hok : Value.okWide P w' r b0 t v)
  (h : DataW.Trod enc P w base (fun _ => true) held t v d ps) : ∃ x, ty.wtV x /\ Rd w O x v := by
 obtain ⟨fuel, h⟩ := h
 obtain ⟨l, hwt, hl, hr⟩ := (Ty.read (P := P) O hO ty).1 t fuel _ _ hf h
 have single : v.cells = #[v] -> ∀ x : T, l = [x] -> Rd w O x v := fun hc x hx => by
  subst hx
  have := hr 0 (by simp)
  rw [hc] at this
  exact this
 cases ty with
 | int k =>
   simp only [Ty.fits] at hf
   split at hf
   ·rename_i k' ht
    obtain ⟨n, rfl⟩ := okWide_int ht hok
    obtain ⟨m, rfl, hw⟩ := hwt
    exact ⟨_, ⟨m, rfl, hw⟩, single rfl _ rfl⟩
   ·cases hf
 | bool =>
   simp only [Ty.fits] at hf
   split at hf
   ·rename_i ht
    obtain ⟨n, rfl⟩ := okWide_bool ht hok
    obtain ⟨m, rfl⟩ := hwt
    exact ⟨_, ⟨m, rfl⟩, single rfl _ rfl⟩
   ·cases hf
 | str =>
   simp only [Ty.fits] at hf
   split at hf
   ·rename_i ht
    obtain ⟨n, rfl⟩ := okWide_string ht hok
    obtain ⟨m, rfl, hw⟩ := hwt
    exact ⟨_, ⟨m, rfl, hw⟩, single rfl _ rfl⟩
   ·cases hf
 | sl s e =>
   simp only [Ty.fits] at hf
   split at hf
   ·rename_i et ht
    obtain ⟨a, len, cap, rfl⟩ := okWide_slice ht hok
    obtain ⟨m, rfl, hw⟩ := hwt
    exact ⟨_, ⟨m, rfl, hw⟩, single rfl _ rfl⟩
   ·cases hf
 | st f =>
   simp only [Ty.fits] at hf
   split at hf
   ·rename_i fs ht
    simp only [Value.okWide, ht] at hok
    obtain ⟨cs, rfl, _, _⟩ := hok
    refine ⟨.agg l, ⟨l, rfl, hwt⟩, ?_⟩
    have := Rd.agg (w := w) (O := O) l cs.toList (by rw [hl]; rfl) hr
    simpa using this
   ·cases hf
 | nil => simp [Ty.fits] at hf
 | cons a r => simp [Ty.fits] at hf

theorem q01h (O : Nat -> Prop) (hO : ∀ b, ¬ O b) {w' : World} {r : Reach} {b0 : Nat} : ∀ {tys : List Ty} {ts : List TypeId} {vs : List Value} {ds : List (DataW H)} {ps : List MemPlace}, q09a P tys ts = true →
  DataW.TrodAll enc P w base (fun _ => true) held ts vs ds ps -> (∀ (j : Nat) (t : TypeId) (v : Value), ts[j]? = some t -> vs[j]? = some v -> Value.okWide P w' r b0 t v) →
  ∃ xs, wtL tys xs /\ vs.length = xs.length /\ ds.length = tys.length /\ ∀ i (h : i < xs.length), Rd w O xs[i] (vs.getD i undef)
 | [], [], vs, ds, ps, _, h, _ => by
   cases vs <;> cases ds <;> simp only [DataW.TrodAll] at h
   exact ⟨[], trivial, rfl, rfl, fun i h => absurd h (by simp)⟩
 | [], _ :: _, vs, ds, ps, hf, h, _ => by simp [q09a] at hf
 | _ :: _, [], vs, ds, ps, hf, h, _ => by simp [q09a] at hf
 | ty :: tys, t :: ts, vs, ds, ps, hf, h, hok => by
   simp only [q09a, qM] at hf
   cases vs with
   | nil => simp [DataW.TrodAll] at h
   | cons v vs =>
     cases ds with
     | nil => simp [DataW.TrodAll] at h
     | cons d ds =>
       obtain ⟨p, q, h1, h2, _⟩ := h
       obtain ⟨x, hx, hr⟩ := Ty.readV O hO hf.1.1.1 (hok 0 t v rfl rfl) h1
       obtain ⟨xs, hxs, hl, hd, hrs⟩ := q01h O hO hf.2 h2 (fun j t v h1 h2 => hok (j + 1) t v (by simpa using h1) (by simpa using h2))
       refine ⟨x :: xs, ⟨hx, hxs⟩, by simp [hl], by simp [hd], fun i hi => ?_⟩
       cases i with
       | zero => exact hr
       | succ i => simpa [qA] using hrs i (by simpa using hi)

theorem q01i {w w' : World} {sp : Nat -> Bool} (hl : laidOutB P = true) : ∀ {tys : List Ty} {ts : List TypeId} {vs : List Value} {ds : List (DataW H)} {ps : List MemPlace}, q09a P tys ts = true →
  DataW.TrodAll enc P w base (fun _ => true) true ts vs ds ps -> (∀ p ∈ ps, w.sameAt w' p /\ sp p.block = true) -> DataW.TrodAll enc P w' base sp true ts vs ds ps
 | [], [], vs, ds, ps, _, h, _ => by
   cases vs <;> cases ds <;> simp only [DataW.TrodAll] at h ⊢
   exact h
 | [], _ :: _, vs, ds, ps, hf, h, _ => by simp [q09a] at hf
 | _ :: _, [], vs, ds, ps, hf, h, _ => by simp [q09a] at hf
 | ty :: tys, t :: ts, vs, ds, ps, hf, h, hs => by
   simp only [q09a, qM, decide_eq_true_eq] at hf
   cases vs with
   | nil => simp [DataW.TrodAll] at h
   | cons v vs =>
     cases ds with
     | nil => simp [DataW.TrodAll] at h
     | cons d ds =>
       obtain ⟨p, q, h1, h2, rfl⟩ := h
       exact ⟨p, q, WideElems.Trod_stays hl hf.1.2 hf.1.1.2 h1 (fun x hx => (hs x (by simp [hx])).1) (fun x hx => (hs x (by simp [hx])).2), q01i hl hf.2 h2 (fun x hx => hs x (by simp [hx])), rfl⟩

theorem q0hc {f : FuncId} {fn : Func} {s : ChangeSpec} {tys : List Ty} {tb : TypeId} {apart fresh handsOn : Bool} (hlaid : laidOutB P = true) (hfit : q09a P tys fn.params.toList = true) (hres : fn.resultTypes = #[tb]) (hbool : P.underlying tb = some .bool)
  (hvars : s.vars = []) (hspec : ∀ (ds : List (DataW H)), ds.length = tys.length -> s.fn H ds = { results := [.lit (.bool true)], args := ds }) (hF : ∀ xs, wtL tys xs -> Pure P f xs (.b true))
  (W : World) (base : Nat) (args : Array Value) (ds gs : List (DataW H)) (before : List MemPlace) (hval : ∀ (j : Nat) t v, fn.params[j]? = some t -> args[j]? = some v -> Value.okWide P W .any base t v)
  (hW : DataW.Whole enc P fn.params.toList s.vars apart W args.toList ds gs before) : Calls P f args W fun e W' => ∃ v, e = .returned v /\ s.post enc P fn apart fresh handsOn false W args v W' := by
 have hW' := hW
 obtain ⟨p, q, hA, hV, rfl, hfz, hnd⟩ := hW
 rw [hvars] at hV
 have hV' := hV
 cases gs with
 | cons _ _ => simp [DataW.TrodVars] at hV
 | nil =>
   simp only [DataW.TrodVars] at hV
   subst hV
   obtain ⟨xs, hwt, hlen, hdl, hr⟩ := q01h (P := P) (fun _ => False) (fun _ h => h) hfit hA (fun j t v h1 h2 => hval j t v (by simpa using h1) (by simpa using h2))
   have hlt : ∀ x ∈ p, x.block < W.heap.size := fun x hx => hW'.lt x (by simp [hx])
   have mem : Mem (fun _ => False) W [] (fun _ => none) (fun _ => []) := ⟨fun i t h => by simp at h, fun _ _ => ⟨rfl, rfl⟩, fun _ _ b h => by simp at h, fun _ => by simp, fun _ b h => by simp at h, fun _ h => h.elim, fun _ _ h => by cases h⟩
   have hO : ∀ b, ¬ Ob (fun _ => False) (fun _ => []) b := fun b h => by
    rcases h with h | ⟨r, h⟩
    ·exact h
    ·simp at h
   have hc := hF xs hwt _ W args.toList _ _ mem (by simpa using hlen) (fun i h => by
    have hi : i < xs.length := by simpa using h
    rw [rQ]
    exact .t ((hr i hi).mono (fun _ _ _ _ _ h => h) (fun b _ _ => hO b)))
   simp only [Array.toArray_toList] at hc
   refine hc.mono ?_
   rintro e W' ⟨v, res, rout, fr, fp', rfl, ⟨rfl, rfl⟩, _, out⟩
   have hv : v = .bool true := by
    cases out.res with
    | rd h => cases h; rfl
   subst hv
   have hs : W.Since W.heap.size W' := ⟨out.os, out.tape, out.output, out.size, fun b hb => out.frame b hb (fun j h => by simp at h)⟩
   refine ⟨_, rfl, ds, [], p ++ [], [], p, [], hW', ?_, ?_, ?_, hs.frame _, fun h => by cases h⟩
   ·rw [List.append_nil, hspec ds hdl, hres]
    exact trodAll_cons_mk (shut_bool hbool _) trodAll_mk0
   ·rw [List.append_nil, hspec ds hdl]
    exact q01i hlaid hfit hA fun x hx => ⟨hs.sameAt (hlt x hx), by simpa using hlt x hx⟩
   ·rw [List.append_nil, hspec ds hdl, hvars]
    exact hV'
end
end Go.Ab

/- The abstract layer, part 21: rows and matrices as data; small facts for the walks. -/
namespace Go.Ab

def ints (l : List Int) : T := .sh 1 (l.map T.i)
def rows (m : List (List Int)) : T := .sh 1 (m.map ints)
def intsO (l : List Int) : T := .arr 1 (l.map T.i)
def q0qa (m : List (List Int)) : T := .arr 1 (m.map intsO)

def rat (r : Int × Int) : T := .agg [T.i r.1, T.i r.2]

def ratC (l : List (Int × Int)) : List T := l.flatMap fun r => [T.i r.1, T.i r.2]
def rats (l : List (Int × Int)) : T := .sh 2 (ratC l)
def q0p1 (l : List (Int × Int)) : T := .arr 2 (ratC l)
theorem q0oy (r : Int × Int) (l : List (Int × Int)) : ratC (r :: l) = T.i r.1 :: T.i r.2 :: ratC l := rfl
theorem q1n8 (l l' : List (Int × Int)) : ratC (l ++ l') = ratC l ++ ratC l' := by simp [ratC]
theorem q0p0 : ∀ l : List (Int × Int), (ratC l).length = l.length * 2
 | [] => rfl
 | r :: l => by rw [q0oy]; simp [q0p0 l]; omega
theorem q0oz (l : List (Int × Int)) : (ratC l).length / 2 = l.length := by rw [q0p0]; omega
theorem q1na : ∀ (l : List (Int × Int)) (i : Nat), (ratC l).drop (i * 2) = ratC (l.drop i)
 | l, 0 => by simp
 | [], i + 1 => by simp [ratC]
 | r :: l, i + 1 => by rw [q0oy, show (i + 1) * 2 = i * 2 + 1 + 1 by omega, List.drop_succ_cons, List.drop_succ_cons, q1na l i]; rfl
theorem q1ng : ∀ (l : List (Int × Int)) (i : Nat), (ratC l).take (i * 2) = ratC (l.take i)
 | l, 0 => by simp [ratC]
 | [], i + 1 => by simp [ratC]
 | r :: l, i + 1 => by rw [q0oy, show (i + 1) * 2 = i * 2 + 1 + 1 by omega, List.take_succ_cons, List.take_succ_cons, q1ng l i]; rfl
theorem q1n9 {l : List (Int × Int)} {i : Nat} {r : Int × Int} (h : l[i]? = some r) : ((ratC l).drop (i * 2)).take 2 = [T.i r.1, T.i r.2] := by
 obtain ⟨hi, rfl⟩ := qK.1 h
 rw [q1na, List.drop_eq_getElem_cons hi, q0oy]; rfl
theorem q1nb {l : List (Int × Int)} {i : Nat} {r : Int × Int} (h : l[i]? = some r) : (ratC l)[i * 2]? = some (T.i r.1) := by
 have := congrArg (·[0]?) (q1n9 h)
 simpa [List.getElem?_take, List.getElem?_drop] using this
theorem q1nc {l : List (Int × Int)} {i : Nat} {r : Int × Int} (h : l[i]? = some r) : (ratC l)[i * 2 + 1]? = some (T.i r.2) := by
 have := congrArg (·[1]?) (q1n9 h)
 simpa [List.getElem?_take, List.getElem?_drop] using this
theorem q0vi : ∀ l : List (Int × Int), T.toShL (ratC l) = ratC l
 | [] => rfl
 | r :: l => by rw [q0oy, T.toShL, T.toShL, q0vi l]; rfl
theorem q0ow (l : List (Int × Int)) : (ratC l).all T.cell = true := by
 rw [rO]; intro t ht; obtain ⟨x, _, h⟩ := List.mem_flatMap.1 ht
 rcases qO.1 h with rfl | h
 ·rfl
 ·rcases qO.1 h with rfl | h
  ·rfl
  ·cases h
theorem q0ox (l : List (Int × Int)) : (ratC l).all T.flat = true := by
 rw [rO]; intro t ht; obtain ⟨x, _, h⟩ := List.mem_flatMap.1 ht
 rcases qO.1 h with rfl | h
 ·rfl
 ·rcases qO.1 h with rfl | h
  ·rfl
  ·cases h
theorem q00j (d k : Nat) (m : List (Int × Int)) : absT d k (q0p1 m) = (.own (rid d k), [(rid d k, q0p1 m)], k + 1) := rfl
theorem q0pu (l : List Int) : rootOf (intsO l) = .live (intsO l) [] := rfl
theorem q0px (l : List (List Int)) : rootOf (q0qa l) = .live (q0qa l) [] := rfl
theorem q0pv (l : List (Int × Int)) : rootOf (q0p1 l) = .live (q0p1 l) [] := rfl
attribute [go_sem] q0oz q0ow q0ox q00j q0pu q0px q0pv q0ps q0pt q0pr

theorem q00s (l : List Int) : (l.map T.i).all T.cell = true := by
 rw [rO]; intro t ht; obtain ⟨x, _, rfl⟩ := qN.1 ht; rfl
theorem q00u (l : List Int) : (l.map T.i).all T.flat = true := by
 rw [rO]; intro t ht; obtain ⟨x, _, rfl⟩ := qN.1 ht; rfl
theorem q00t (m : List (List Int)) : (m.map intsO).all T.cell = true := by
 rw [rO]; intro t ht; obtain ⟨x, _, rfl⟩ := qN.1 ht; rfl

theorem wrap64 {n : Int} (h : -9223372036854775808 <= n) (h' : n < 9223372036854775808) : IntKind.i64.wrap n = n := by
 simp [IntKind.wrap, IntKind.bits, IntKind.signed]
 omega
theorem q0lb {i n : Nat} (h : i < n) (hn : n <= 1000000000000) : IntKind.i64.wrap ((i : Int) + 1) = ((i + 1 : Nat) : Int) := by
 rw [wrap64 (by omega) (by omega)]; rfl
theorem q0xg (S : St) (bor : List Nat) (x : T) : vt S bor x (.t x) = True := by
 cases x <;> simp [vt, vb, maT]
theorem q0ve (i : Nat) : (i : Int).toNat = i := rfl
theorem q0uk {α : Type} {p : α -> Prop} {l : List α} {i : Nat} {x : α} (hx : l[i]? = some x) (h : ∀ y ∈ l.take i, p y) (hp : p x) : ∀ y ∈ l.take (i + 1), p y := by
 intro y hy
 rw [List.take_add_one, hx] at hy
 simp only [Option.toList_some, qI, List.mem_singleton] at hy
 rcases hy with hy | rfl
 ·exact h y hy
 ·exact hp
theorem q0fh (l : List Int) : (intsO l).noSh := by
 simp only [intsO, T.noSh]
 rw [T.noShL_iff]
 intro t ht
 obtain ⟨x, _, rfl⟩ := qN.1 ht
 simp [T.noSh]

section
variable {P : Program} {n : Nat} {S : St}
theorem q006.res {d : Option Nat} {fo : Operand} {ops : List Operand} {K : St -> Prop} {f : FuncId} {cap : List A} {args : List A} {res : T} (hF : Fun P f [] args fun o r => o = [] /\ r = res) (bor : List Nat) (hfo : fnA (S.ev fo) = some (f, cap)) (hcall : ∀ args w, (callFunc f args).run P w = .ok (.enter f args) w)
  (hargs : vaL S [] bor args (ops.map S.ev ++ cap)) (hns : bor = [] ∨ res.noSh) (hk : q00p S d [] [] res K) : q006 P n d fo ops K S := by
 refine q006.use hfo hcall hF [] bor (by simp) trivial (fun q _ => by simp) hargs fun rout res' h => ?_
 obtain ⟨rfl, rfl⟩ := h
 refine ⟨?_, hk⟩
 rcases hns with h | h
 ·exact .inl h
 ·exact .inr ⟨h, trivial⟩
end

section
variable {P : Program} {n : Nat} {S : St}
theorem q006.ref {d : Option Nat} {fo : Operand} {ops : List Operand} {K : St -> Prop} {f : FuncId} {cap : List A} {rin : List T} {args : List A} {rout : List T} {res : T} (hF : Fun P f rin args fun o r => o = rout /\ r = res) (srcs bor : List Nat) (hfo : fnA (S.ev fo) = some (f, cap)) (hcall : ∀ args w, (callFunc f args).run P w = .ok (.enter f args) w)
  (hsn : srcs.Nodup) (hsrc : q0tg S srcs rin) (hsb : ∀ q ∈ bor, q ∉ srcs) (hargs : vaL S srcs bor args (ops.map S.ev ++ cap)) (hns : bor = [] ∨ (res.noSh /\ T.noShL rout)) (hk : q00p S d srcs rout res K) : q006 P n d fo ops K S := by
 refine q006.use hfo hcall hF srcs bor hsn hsrc hsb hargs fun rout' res' h => ?_
 obtain ⟨rfl, rfl⟩ := h
 exact ⟨hns, hk⟩
end
theorem q0vf (l : List Int) : T.toShL (l.map T.i) = l.map T.i := by
 rw [T.toShL_eq_map, List.map_map]; exact rW fun _ _ => rfl
theorem q0fi (l : List Int) : (intsO l).toSh = ints l := by
 simp only [intsO, ints, T.toSh, q0vf]
theorem q17t (m : List (List Int)) : (q0qa m).toSh = rows m := by
 simp only [q0qa, rows, T.toSh, T.toShL_eq_map, List.map_map]
 congr 1
 exact rW fun r _ => q0fi r
theorem q0vg (m : List (List Int)) : T.toShL (m.map intsO) = m.map ints := by
 rw [T.toShL_eq_map, List.map_map]; exact rW fun r _ => q0fi r
theorem q0qb (m : List (List Int)) : (q0qa m).noSh := by
 simp only [q0qa, T.noSh]
 rw [T.noShL_iff]
 intro t ht
 obtain ⟨x, _, rfl⟩ := qN.1 ht
 exact q0fh x
theorem q00k (d k : Nat) (m : List (List Int)) : absT d k (q0qa m) = (.own (rid d k), [(rid d k, q0qa m)], k + 1) := rfl
theorem q00i (d k : Nat) (m : List Int) : absT d k (intsO m) = (.own (rid d k), [(rid d k, intsO m)], k + 1) := rfl

theorem Le.tup2 {a a' b b' : T} (h1 : Le a a') (h2 : Le b b') : Le (.tup [a, b]) (.tup [a', b']) :=
 .tup rfl fun i h h' => match i, h, h' with | 0, _, _ => h1 | 1, _, _ => h2
theorem Fun.le {P : Program} {f : FuncId} {rin : List T} {args : List A} {Q Q' : List T -> T -> Prop} (h : Fun P f rin args Q) (hq : ∀ o r, Q o r -> ∃ r', Le r r' /\ Q' o r') : Fun P f rin args Q' := by
 intro X w vals hs fp hm hl hi
 refine (h X w vals hs fp hm hl hi).mono ?_
 rintro e w' ⟨v, res, rout, fr, fp', rfl, hQ, hlen, out⟩
 obtain ⟨r', hle, hQ'⟩ := hq _ _ hQ
 obtain ⟨fr', ho, hsub⟩ := hle.ow out.res
 have sub : ∀ b ∈ fr', b ∈ fr := fun b hb => hsub.subset hb
 have hO : ∀ b, ¬ Ob' X fp' fr b -> b < w'.heap.size -> ¬ Ob' X fp' fr' b := fun b h _ h' => by
  rcases h' with h' | h'
  ·exact h (.inl h')
  ·exact h (.inr (sub b h'))
 have keep : ∀ p, q009 p w' w' := fun p _ _ _ _ _ h => h
 exact ⟨v, r', rout, fr', fp', rfl, hQ', hlen, fun i t ht => (let ⟨x, hx, hox, hr⟩ := out.root i t ht; ⟨x, hx, hox.mono (keep _) hO (keep _), hr⟩), out.none, ho.mono (keep _) hO (keep _), out.disj, out.nodup, hsub.nodup out.rnodup,
  fun r b hb hbf => out.rdisj r b hb (sub b hbf), out.old, fun b hb => out.rold b (sub b hb), out.os, out.tape, out.output, out.size, out.frame⟩
theorem q0t9 {α : Type} (l : List α) (i : Nat) (x : α) : spl l i [x] = l.set i x := rfl
theorem q0ta {α : Type} (l : List α) (i : Nat) (x y : α) (zs : List α) : spl l i (x :: y :: zs) = l.take i ++ (x :: y :: zs) ++ l.drop (i + (x :: y :: zs).length) := rfl
theorem q06x (P : Program) (n : Nat) (all : Bool) (m : List Nat) (d : Nat) (f : Operand) (ops : List Operand) (K : St -> Prop) (S : St) : coC P n all m (.call (some d) f ops) K S = (all = false /\ q000 P n d f ops m K S) := rfl
theorem q06u (P : Program) (n : Nat) (all : Bool) (m : List Nat) (d : Nat) (zs : List T) (K : St -> Prop) (S : St) : coC P n all m (.alloc d zs) K S = coN (.alloc d zs) K S := rfl
theorem q070 (P : Program) (n : Nat) (all : Bool) (m : List Nat) (d : Nat) (zs : List T) (eb : Nat) (l c : Operand) (K : St -> Prop) (S : St) : coC P n all m (.make d zs eb l c) K S = coN (.make d zs eb l c) K S := rfl
theorem q06v (P : Program) (n : Nat) (all : Bool) (m : List Nat) (d : Nat) (x : Operand) (K : St -> Prop) (S : St) : coC P n all m (.box d x) K S = coN (.box d x) K S := rfl
theorem q06w (P : Program) (n : Nat) (all : Bool) (m : List Nat) (d z len : Nat) (ps : List (Nat × Operand)) (K : St -> Prop) (S : St) : coC P n all m (.bslice d z len ps) K S = coN (.bslice d z len ps) K S := rfl
theorem q0g1 {α : Type} (n : Nat) (a b : α) : (if (0 : Int) <= (n : Int) then a else b) = a := if_pos (Int.natCast_nonneg _)
theorem q0g2 {α : Type} (n : Nat) (a b : α) : (if (0 : Int) <= (n : Int) + 1 then a else b) = a := if_pos (by omega)
attribute [go_sem] q0g1 q0g2
theorem q098 (k q : Nat) : List.filter (fun p : Nat × Nat => decide (p.fst < k) || decide (k + 1 <= p.fst)) [(k, q)] = [] := by
 rw [List.filter_cons_of_neg (by simp)]; rfl
attribute [go_sem] q098 List.set_set absT absL List.filter_nil List.all_cons List.all_nil q0t9 q0ta List.take_succ_cons List.take_zero List.drop_succ_cons List.drop_zero List.set_cons_zero List.set_cons_succ List.length_set List.cons_append List.append_nil Bool.true_and Bool.and_true Bool.false_and
/-! Guards and conditions at constants: one road only. -/
theorem q0di (s : Nat) (d : Option Nat) (K1 K2 : St -> Prop) (S : St) : q0dc (.t (.v (.bool true))) s true d K1 K2 S = K1 { S with env := upd S.env s (.t (.v (.bool true))) } := by simp [q0dc]
theorem q0df (s : Nat) (d : Option Nat) (K1 K2 : St -> Prop) (S : St) : q0dc (.t (.v (.bool false))) s false d K1 K2 S = K1 { S with env := upd S.env s (.t (.v (.bool false))) } := by simp [q0dc]
theorem q0dg (s : Nat) (d : Option Nat) (K1 K2 : St -> Prop) (S : St) : q0dc (.t (.v (.bool false))) s true d K1 K2 S = K2 (St.put { S with env := upd S.env s (.t (.v (.bool false))) } d q0ro) := by simp [q0dc]
theorem q0dh (s : Nat) (d : Option Nat) (K1 K2 : St -> Prop) (S : St) : q0dc (.t (.v (.bool true))) s false d K1 K2 S = K2 (St.put { S with env := upd S.env s (.t (.v (.bool true))) } d q0ro) := by simp [q0dc]
theorem q07o (K1 K2 : St -> Prop) (S : St) : condC (.t (.v (.bool true))) K1 K2 S = K1 S := by simp [condC]
theorem q07n (K1 K2 : St -> Prop) (S : St) : condC (.t (.v (.bool false))) K1 K2 S = K2 S := by simp [condC]
theorem q0dd (b : Bool) (s : Nat) (want : Bool) (d : Option Nat) (K1 K2 : St -> Prop) (S : St) : q0dc (.t (.v (.bool b))) s want d K1 K2 S = ((b = want -> K1 { S with env := upd S.env s (.t (.v (.bool want))) }) /\ (b = !want -> K2 (St.put { S with env := upd S.env s (.t (.v (.bool !want))) } d q0ro))) := rfl
theorem q07l (b : Bool) (K1 K2 : St -> Prop) (S : St) : condC (.t (.v (.bool b))) K1 K2 S = ((b = true -> K1 S) /\ (b = false -> K2 S)) := rfl
theorem q0dj (xs : Array Value) (s : Nat) (want : Bool) (d : Option Nat) (K1 K2 : St -> Prop) (S : St) : q0dc (.t (.v (.tuple xs))) s want d K1 K2 S = K2 (St.put S d q0ro) := rfl
theorem q0dk (s : Nat) (want : Bool) (d : Option Nat) (K1 K2 : St -> Prop) (S : St) : q0dc q0ro s want d K1 K2 S = K2 (St.put S d q0ro) := rfl
attribute [go_sem high] q0dj q0dk q0di q0df q0dg q0dh q07o q07n
attribute [go_sem] Value.oneCell' decide_true bne_self_eq_false true_or List.nil_append q00s q00t q00u Nat.zero_ne_one Nat.add_zero Nat.zero_add cW.eq_1 cW.eq_2 cW.eq_3 cW.eq_4 cW.eq_5 cW.eq_6 cW.eq_7 cW.eq_8 cW.eq_9 cW.eq_10 cW.eq_11 cW.eq_12 q085.eq_1 q085.eq_2 q0g3.eq_1 q0g3.eq_2 valD.eq_1 valD.eq_2 valD.eq_3 valD.eq_4 valD.eq_5 valD.eq_6 CO.dst q0k9 q0k8 q06x q06u q070 q06v q06w coN.eq_1 coN.eq_2 coN.eq_3 coN.eq_4 q0cu.eq_1 q0cu.eq_2 q0jm q0jp q0jj List.any_cons List.any_nil Option.bind_some Bool.or_false Bool.false_or Bool.or_self decide_false kE kR kN kH q07b q071 q073 q074 q07a q072 q079 q075 coV.eq_1 coV.eq_2 coV.eq_3 coV.eq_4 coV.eq_5 coV.eq_6 coV.eq_7 coV.eq_8 coV.eq_9 coV.eq_10 coV.eq_11 coV.eq_12 coV.eq_13 coV.eq_14 coV.eq_15 coV.eq_16 coV.eq_17 coV.eq_18 coV.eq_19 coV.eq_20 coV.eq_21 q0oe q0id q0ip CO.dst opsW.eq_1 opsW.eq_2 opsW.eq_3 coW.eq_1 coW.eq_2 coW.eq_3 coW.eq_4 coW.eq_5 coW.eq_6 coW.eq_7 coW.eq_8 coW.eq_9 coW.eq_10 coW.eq_11 coW.eq_12 coW.eq_13 coW.eq_14 coW.eq_15 coW.eq_16 coW.eq_17 coW.eq_18 coW.eq_19 coW.eq_20 coW.eq_21 coW.eq_22 coW.eq_23 coW.eq_24 coW.eq_25 coW.eq_26 coW.eq_27 coW.eq_28 coW.eq_29 coW.eq_30 coW.eq_31 coW.eq_32 coW.eq_33 q1mo q1ek q1e5 q02h q02f.eq_1 q02f.eq_2 q02f.eq_3 q02i.eq_1 q02i.eq_2 q02i.eq_3 q02e CI.toL.eq_1 CI.toL.eq_2 CO.toL q0og q08n q08l q08j q08m q08k q0dd q07l q0up q0uq q0uo q02b q02c q02a q0j3 q0j4 q0j2 q0o6 beqC q01s aggI q0fj.eq_1 q0fj.eq_2 q0ff.eq_1 q0ff.eq_2 q0fr slcC bndN Option.map_some Option.map_none binW binI unW q08w lenC q0i2 idxC fldC q0i5 q0in q05u.eq_1 q05w.eq_1 q0pb.eq_1 q0p8.eq_1 q0p8.eq_2 q0pd.eq_1 q0pd.eq_2 noLk.eq_1 noLk.eq_2 List.drop_zero Bool.and_false Option.isSome_some Option.isSome_none Bool.true_or Bool.or_true q0il q0tk q0tn q00n q07j q0cw q0d8 q02w q08z q02l boxW makeC q0l5 q01n srcW q015 q018 q07p q0lp mmW retP.eq_1 retP.eq_2 retL q0pj q0d0 q0d1 fnTs q0pz q0nl Root.cells Root.with q0x0 St.of q0ke q0kh enum St.put T.cell T.flat true_and and_true List.map_cons List.map_nil List.length_cons List.length_nil Option.some.injEq forall_eq' List.lookup_nil Bool.not_true Bool.not_false decide_eq_true_eq decide_eq_false_iff_not ne_eq forall_const Bool.true_eq_false Bool.false_eq_true false_implies ite_true ite_false exists_eq_left' List.getElem?_cons_zero List.getElem?_cons_succ and_self qU Option.map_eq_some_iff forall_exists_index and_imp qJ Nat.mul_one Nat.div_one
end Go.Ab

/- The abstract layer, part 33: lists of the walk's rules, each as one rule. -/
set_option linter.defProp false
namespace Go.Ab

attribute [go_sem] List.reduceReplicate Nat.reduceEqDiff Nat.reduceAdd Nat.reduceLeDiff Nat.reduceMul Nat.reduceSub Nat.reduceDiv Int.reduceToNat Nat.reduceLT Int.reduceLT Int.reduceLE reduceCtorEq
attribute [go_sem ↓] reduceIte
def evR := And.intro @forall_apply_eq_imp_iff₂.{1,1} (@q0ve)
def vaR := And.intro @q0xg (And.intro @vaL.eq_1 (And.intro @vaL.eq_2 (And.intro @vaL.eq_3 (And.intro @vtL.eq_1 (And.intro @vtL.eq_2 (And.intro @vtL.eq_3 (And.intro @va.eq_1 (And.intro @va.eq_2 (And.intro @va.eq_3 (And.intro @va.eq_4 (And.intro @va.eq_5 (And.intro @va.eq_6 (And.intro @va.eq_7 (And.intro @va.eq_8 (And.intro @va.eq_9 (And.intro @va.eq_10 (And.intro @va.eq_11 (And.intro @va.eq_12 (And.intro @va.eq_13 (And.intro @vt.eq_1 (And.intro @vt.eq_2 (And.intro @vt.eq_3 (And.intro @vt.eq_4 (And.intro @vt.eq_5 (And.intro @vt.eq_6 (And.intro @vt.eq_7 (And.intro @vt.eq_8 (And.intro @vb.eq_1 (And.intro @vb.eq_2 (And.intro @vb.eq_3 (And.intro @vb.eq_4 (And.intro @vb.eq_5 (And.intro @maT.eq_1 (And.intro @List.cons_append.{0} (And.intro @List.nil_append.{0} (And.intro @List.append_nil.{0} (And.intro @true_or (@or_true))))))))))))))))))))))))))))))))))))))
def rtR := And.intro @qO.{0} (And.intro @List.mem_nil_iff.{0} (And.intro @List.not_mem_nil.{0} (And.intro @or_false (And.intro @false_or (And.intro @exists_eq_left.{1} (And.intro @exists_eq_left'.{1} (And.intro @exists_eq_right'.{1} (And.intro @Root.live.injEq (And.intro @eq_self_iff_true.{1} (And.intro @exists_eq.{1} (@and_true)))))))))))
def agR := And.intro @Int.natCast_zero (And.intro @Int.cast_ofNat_Int (And.intro @Int.natCast_one (And.intro @qR (And.intro @Nat.sub_self (And.intro @List.getElem?_cons_zero.{0} (And.intro @List.getElem?_cons_succ.{0} (And.intro @q0vi (And.intro @q0vf (And.intro @q0vg (And.intro @T.toSh.eq_1 (And.intro @T.toSh.eq_2 (And.intro @T.toSh.eq_3 (And.intro @T.toSh.eq_4 (@T.toSh.eq_5))))))))))))))
def clR := And.intro @List.append_nil.{0} (And.intro @List.cons_append.{0} (And.intro @q00p.eq_1 (And.intro @q00p.eq_2 (And.intro @q00k (And.intro @q00i (And.intro @absT.eq_1 (And.intro @absT.eq_2 (And.intro @absT.eq_3 (And.intro @absT.eq_4 (And.intro @absT.eq_5 (And.intro @absL.eq_1 (And.intro @absL.eq_2 (And.intro @updL.eq_1 (And.intro @updL.eq_2 (And.intro @updS.eq_1 (And.intro @updS.eq_2 (And.intro @q09w.eq_1 (And.intro @q09w.eq_2 (And.intro @rid.eq_1 (And.intro @T.noSh.eq_1 (And.intro @T.noSh.eq_2 (And.intro @T.noSh.eq_3 (And.intro @T.noSh.eq_4 (And.intro @T.noSh.eq_5 (And.intro @T.noSh.eq_6 (And.intro @T.noSh.eq_7 (And.intro @T.noSh.eq_8 (And.intro @T.noShL.eq_1 (And.intro @T.noShL.eq_2 (@Nat.zero_le))))))))))))))))))))))))))))))
def wkR := And.intro @Int.add_zero (And.intro @q08f.eq_1 (And.intro @q08f.eq_2 (And.intro @maA.eq_1 (And.intro @maA.eq_2 (And.intro @maA.eq_3 (And.intro @maA.eq_4 (And.intro @maA.eq_5 (And.intro @maA.eq_6 (And.intro @maA.eq_7 (And.intro @maA.eq_8 (And.intro @maA.eq_9 (And.intro @maA.eq_10 (And.intro @maA.eq_11 (And.intro @maA.eq_12 (And.intro @maA.eq_13 (And.intro @maA.eq_14 (And.intro @maA.eq_15 (And.intro @maT.eq_1 (And.intro @q0x0 (And.intro @and_true (And.intro @true_or (And.intro @or_true (And.intro @List.map_cons.{0,0} (And.intro @List.map_nil.{0,0} (And.intro @Nat.zero_ne_one (And.intro @and_self (And.intro @true_and (And.intro @Int.natCast_zero (And.intro @Int.cast_ofNat_Int (@Int.ofNat_zero))))))))))))))))))))))))))))))
def wrR := And.intro @piOf.eq_1 (And.intro @List.zip_cons_cons.{0,0} (And.intro @List.zip_nil_right.{0,0} (And.intro @List.lookup_cons.{0,0} (And.intro @List.lookup_nil.{0,0} (And.intro @beq_self_eq_true.{0} (And.intro @q0py.eq_1 (And.intro @q0py.eq_2 (And.intro @q0py.eq_3 (And.intro @q0py.eq_4 (And.intro @q0kh.eq_1 (And.intro @q0kh.eq_2 (And.intro @q0ke.eq_1 (@q0ke.eq_2)))))))))))))
def srR := And.intro @q0ps (And.intro @q0pt (And.intro @q0pr (And.intro @q0tg.eq_1 (And.intro @q0tg.eq_2 (And.intro @q0tg.eq_3 (And.intro @updL.eq_1 (And.intro @updL.eq_2 (And.intro @updS.eq_1 (And.intro @updS.eq_2 (And.intro @q0x0 (And.intro @q0kh.eq_1 (And.intro @q0kh.eq_2 (@and_true)))))))))))))
def aR' := And.intro @agR (And.intro @vaR (And.intro @rtR (And.intro @ints.eq_1 (And.intro @rows.eq_1 (And.intro @rat.eq_1 (And.intro @rats.eq_1 (And.intro @q0p1.eq_1 (And.intro @intsO.eq_1 (@q0qa.eq_1)))))))))
def eR' := And.intro @evR (And.intro @ints.eq_1 (And.intro @rows.eq_1 (And.intro @rat.eq_1 (@rats.eq_1))))
def sR' := And.intro @srR (And.intro @ints.eq_1 (And.intro @rows.eq_1 (And.intro @intsO.eq_1 (@q0qa.eq_1))))
def wR' := And.intro @wkR (And.intro @wrR (And.intro @ints.eq_1 (@rows.eq_1)))
def cR' := And.intro @clR (And.intro @evR (@rat.eq_1))
end Go.Ab

/- The bridge, part 6: words of the text that names a program's order. -/
namespace Go.Ab

theorem q0uy : ( "finals" : String).toList = ([102, 105, 110, 97, 108, 115].map Char.ofNat) := String.toList_ofList
theorem q0v9 : ( "reflectrows" : String).toList = ([114, 101, 102, 108, 101, 99, 116, 114, 111, 119, 115].map Char.ofNat) := String.toList_ofList
theorem q0v2 : ( "leanrows" : String).toList = ([108, 101, 97, 110, 114, 111, 119, 115].map Char.ofNat) := String.toList_ofList
theorem q0v4 : ( "onebuild" : String).toList = ([111, 110, 101, 98, 117, 105, 108, 100].map Char.ofNat) := String.toList_ofList
theorem q0v7 : ( "publicsums" : String).toList = ([112, 117, 98, 108, 105, 99, 115, 117, 109, 115].map Char.ofNat) := String.toList_ofList
theorem q0ux : ( "eqguard" : String).toList = ([101, 113, 103, 117, 97, 114, 100].map Char.ofNat) := String.toList_ofList
theorem q0v6 : ( "ownunsafe" : String).toList = ([111, 119, 110, 117, 110, 115, 97, 102, 101].map Char.ofNat) := String.toList_ofList
theorem q0v3 : ( "libbeside" : String).toList = ([108, 105, 98, 98, 101, 115, 105, 100, 101].map Char.ofNat) := String.toList_ofList
theorem q0v5 : ( "ownbeside" : String).toList = ([111, 119, 110, 98, 101, 115, 105, 100, 101].map Char.ofNat) := String.toList_ofList
theorem q0v8 : ( "reflbeside" : String).toList = ([114, 101, 102, 108, 98, 101, 115, 105, 100, 101].map Char.ofNat) := String.toList_ofList
theorem q0ut : ( "aliases" : String).toList = ([97, 108, 105, 97, 115, 101, 115].map Char.ofNat) := String.toList_ofList
theorem q0us : ( "afterinit" : String).toList = ([97, 102, 116, 101, 114, 105, 110, 105, 116].map Char.ofNat) := String.toList_ofList
theorem q0uv : ( "crcplain" : String).toList = ([99, 114, 99, 112, 108, 97, 105, 110].map Char.ofNat) := String.toList_ofList
theorem q0va : ( "roadunsafe" : String).toList = ([114, 111, 97, 100, 117, 110, 115, 97, 102, 101].map Char.ofNat) := String.toList_ofList
theorem q0uz : ( "fmthandon" : String).toList = ([102, 109, 116, 104, 97, 110, 100, 111, 110].map Char.ofNat) := String.toList_ofList
theorem q0uw : ( "cut" : String).toList = ([99, 117, 116].map Char.ofNat) := String.toList_ofList
theorem q0v0 : ( "gc" : String).toList = ([103, 99].map Char.ofNat) := String.toList_ofList
theorem q0vb : ( "spec" : String).toList = ([115, 112, 101, 99].map Char.ofNat) := String.toList_ofList
theorem q0uu : ( "carried" : String).toList = ([99, 97, 114, 114, 105, 101, 100].map Char.ofNat) := String.toList_ofList
theorem q0vc : ( "stop" : String).toList = ([115, 116, 111, 112].map Char.ofNat) := String.toList_ofList
theorem q0v1 : ( "harness" : String).toList = ([104, 97, 114, 110, 101, 115, 115].map Char.ofNat) := String.toList_ofList
def cutL : List Char := ([99, 117, 116].map Char.ofNat)
theorem q0tv (ws : List (List Char)) : stripLifts liftWords (cutL :: ws) = ([], cutL :: ws) := by
 have no : ∀ (o : String) (os : List String) (l : List Char), o.toList = l -> (cutL == l) = false -> stripLifts (o :: os) (cutL :: ws) = stripLifts os (cutL :: ws) := fun o os l h1 h2 => by
  show (if cutL == o.toList then _ else _) = _
  rw [h1, h2]; rfl
 unfold liftWords
 rw [no _ _ _ q0uy (by decide), no _ _ _ q0v9 (by decide), no _ _ _ q0v2 (by decide), no _ _ _ q0v4 (by decide), no _ _ _ q0v7 (by decide), no _ _ _ q0ux (by decide), no _ _ _ q0v6 (by decide), no _ _ _ q0v3 (by decide), no _ _ _ q0v5 (by decide), no _ _ _ q0v8 (by decide), no _ _ _ q0ut (by decide), no _ _ _ q0us (by decide), no _ _ _ q0uv (by decide), no _ _ _ q0va (by decide), no _ _ _ q0uz (by decide)]
 rfl
theorem q0xl {r : List Char} : ∀ {w : List Char}, (∀ c ∈ w, c ≠ Char.ofNat 32) -> wordsSigns (w ++ Char.ofNat 32 :: r) = w :: wordsSigns r
 | [], _ => by
   show wordsSigns (Char.ofNat 32 :: r) = _
   rfl
 | c :: w, h => by
   have ih := q0xl (r := r) (w := w) fun d hd => h d (by simp [hd])
   show wordsSigns (c :: (w ++ Char.ofNat 32 :: r)) = _
   rw [wordsSigns, ih]
   exact fun he => h c (by simp) he
theorem q0xm {s : String} {w1 w2 w3 r : List Char} (hs : s = String.ofList (w1 ++ Char.ofNat 32 :: (w2 ++ Char.ofNat 32 :: (w3 ++ Char.ofNat 32 :: r)))) (h1 : (w1.all fun c => c != Char.ofNat 32) = true) (h2 : (w2.all fun c => c != Char.ofNat 32) = true) (h3 : (w3.all fun c => c != Char.ofNat 32) = true)
  (hh : (w1 == ([104, 97, 114, 110, 101, 115, 115].map Char.ofNat)) = true) (hsum : isSumSigns w2 = true) : behindMainWord (wordsSigns s.toList) = w3 :: wordsSigns r := by
 have g : ∀ w : List Char, (w.all fun c => c != Char.ofNat 32) = true -> ∀ c ∈ w, c ≠ Char.ofNat 32 := fun w h c hc => by
  have := rO.1 h c hc
  simpa using this
 rw [hs, String.toList_ofList, q0xl (g w1 h1), q0xl (g w2 h2), q0xl (g w3 h3)]
 show (if (w1 == "harness".toList || w1 == "ownmain".toList) && isSumSigns w2 then w3 :: wordsSigns r else w1 :: w2 :: w3 :: wordsSigns r) = _
 rw [q0v1, hh, hsum]; rfl
theorem q0k3 {P : Program} (hw : ∃ ws, behindMainWord (wordsSigns P.initOrder.toList) = cutL :: ws) (h1 : P.laysLater = false) (h2 : P.bearsReflect = false) (h3 : P.doorFits [] = true) : P.mayEnter = true := by
 obtain ⟨ws, h⟩ := hw
 unfold Program.mayEnter
 rw [h]
 simp only [q0tv, q0v0, q0vb, q0uu, q0uw, q0vc, h1, h2, h3]
 rfl
theorem q0i4 {P : Program} (hw : ∃ ws, behindMainWord (wordsSigns P.initOrder.toList) = cutL :: ws) : P.liftsFinal = false := by
 obtain ⟨ws, h⟩ := hw
 unfold Program.liftsFinal Program.headLifts
 rw [h]
 simp only [q0tv, q0v0, q0uu, q0uw]
 rfl
theorem q0jf {P : Program} (hw : ∃ ws, behindMainWord (wordsSigns P.initOrder.toList) = cutL :: ws) : P.make = some .cut := by
 obtain ⟨ws, h⟩ := hw
 unfold Program.make
 rw [h]
 simp only [q0v0, q0vb, q0uy, q0uu, q0uw]
 rfl
end Go.Ab

/- Facts of the seat's program, for the claims' closed facts. -/
namespace Go.Proofs.YtjeefbiiagflhaaGreat
open Go.ChangeShapes Go.WideShapes Go.ChangeAt Go.RowKit Go.Ab

set_option maxRecDepth 100000 in
theorem Tryz.initSigns : Tryz.prog.initOrder = String.ofList (([104, 97, 114, 110, 101, 115, 115].map Char.ofNat) ++ Char.ofNat 32 :: (([55, 50, 101, 55, 101, 102, 49, 48, 98, 57, 57, 98, 55, 55, 51, 54, 100, 51, 97, 55, 50, 55, 98, 51, 53, 54, 56, 48, 101, 52, 100, 49, 102, 100, 52, 51, 48, 52, 98, 101, 50, 99, 50, 101, 56, 54, 53, 49, 97, 50, 49, 99, 54, 53, 102, 100, 53, 99, 53, 97, 97, 49, 49, 102].map Char.ofNat) ++ Char.ofNat 32 :: (([99, 117, 116].map Char.ofNat) ++ Char.ofNat 32 :: ([97, 116, 32, 108, 111, 111, 112, 46, 101, 120, 97, 109, 112, 108, 101, 47, 103, 48, 48, 57, 49, 48, 47, 108, 97, 119, 115, 46, 70, 110, 69, 120, 97, 99, 116, 70, 97, 115, 116, 69, 113, 117, 105, 116, 105, 101, 115, 32, 108, 111, 111, 112, 46, 101, 120, 97, 109, 112, 108, 101, 47, 103, 48, 48, 57, 49, 48, 47, 108, 97, 119, 115, 46, 70, 110, 70, 97, 115, 116].map Char.ofNat)))) := by kernel_rfl
set_option maxRecDepth 100000 in
theorem Tryz.initWords : ∃ ws, behindMainWord (wordsSigns Tryz.prog.initOrder.toList) = cutL :: ws := ⟨_, q0xm Tryz.initSigns (by kernel_rfl) (by kernel_rfl) (by kernel_rfl) (by kernel_rfl) (by kernel_rfl)⟩
theorem Tryz.laysF : Tryz.prog.laysLater = false := by kernel_rfl
theorem Tryz.bearsF : Tryz.prog.bearsReflect = false := by kernel_rfl
theorem Tryz.doorT : Tryz.prog.doorFits [] = true := by kernel_rfl
theorem Tryz.mayEnterT : Tryz.prog.mayEnter = true := q0k3 Tryz.initWords Tryz.laysF Tryz.bearsF Tryz.doorT
theorem Tryz.liftsF : Tryz.prog.liftsFinal = false := q0i4 Tryz.initWords
theorem Tryz.makeC : Tryz.prog.make = some .cut := q0jf Tryz.initWords
theorem Tryz.heardT : Tryz.prog.stopsHeard = true := by kernel_rfl
theorem Tryz.laidOutT : laidOutB Tryz.prog = true := by kernel_rfl
theorem Tryz.mapsRowedT : mapsRowed Tryz.prog = true := by kernel_rfl
end Go.Proofs.YtjeefbiiagflhaaGreat

/- The abstract layer, part 51: slices.Grow of nil: cap, append of zeros, a slice cut to nothing. -/
namespace Go.Ab
section
variable {P : Program} {n : Nat} {S : St} {K : St -> Prop}
theorem q1m5 {o : Oper} {t e : TypeId} {d : Nat} {x : Operand} (ht : P.underlying t = some (.slice e)) (ho : o.op = .call { callee := .builtin .cap, args := #[x], argTypes := #[t] }) (hdst : o.dst = some d) (hd : d < n) (hx : S.ev x = .t (.v (.slice none 0 0))) (k : K (S.put (some d) (.i 0))) : OpW P n o S K := by
 refine OpW.val (x := .i 0) hdst hd (fun X w0 O0 a w hs fp g => ?_) k
 have h1 := g.ev x; rw [hx] at h1; have h1 := h1.v_inv
 exact ⟨_, by simp [execOp, ho, resolve, invoke, builtin, h1, Builtin.cap_, run_underlying ht, goInt, Sem.run_bind, Result.andThen], .t (.v _)⟩
theorem q1nz (w : World) (t u ty e : TypeId) (i : TypeInfo) (z : Value) (kk : IntKind) (ht : P.underlying t = some (.slice e)) (hu : P.underlying u = some (.int kk)) (hi : P.info? e = some i) (hz : i.zero = some z) (hsz : i.size = 1) (hby : i.bytes <= 8)
  (m : Nat) (h0 : 0 < m) (h1 : m <= 10000000) :
  (Builtin.append_ #[t, u] ty #[.slice none 0 0, .int .i64 m]).run P w =
   .ok (.slice (some ⟨w.heap.size, 0, none⟩) m (grownCap w m 0 e)) (w.drew.alloc (.cells (Builtin.zeroCells z.cells m ++ Builtin.zeroCells z.cells (grownCap w m 0 e - m)) e)) := by
 have hn : m ≠ 0 := by omega
 have hw : IntKind.i64.wrap (m : Int) = m := wrap64 (by omega) (by omega)
 have h63' : ¬ (9223372036854775807 < (m : Int)) := by omega
 have hle : m * i.bytes <= 10000000 * 8 := Nat.mul_le_mul h1 hby
 have h48' : ¬ (281474976710656 < Builtin.nextslicecap m 0 * i.bytes) := by rw [nextslicecap_zero h0]; omega
 have h48'' : ¬ (281474976710656 < (m : Int) * (i.bytes : Int)) := by
  have : ((m * i.bytes : Nat) : Int) <= 80000000 := by omega
  rw [Int.natCast_mul] at this; omega
 have hneg : ¬ ((m : Int) < 0) := by omega
 simp [Builtin.append_, run_underlying ht, run_underlying hu, sizeOf, typeInfo, zeroValue, hi, hz, hsz, Builtin.lenOf, hn, h63', h48', h48'', hneg, hw, asInt, asIntOf, Question.forced, run_firstCells_none, newRow, grownCap]
theorem q1m3 {o : Oper} {t u e : TypeId} {d : Nat} {x y : Operand} {i : TypeInfo} {z : Value} {kk : IntKind} (ht : P.underlying t = some (.slice e)) (hu : P.underlying u = some (.int kk)) (hi : P.info? e = some i) (hz : i.zero = some z) (hzs : z.cells.size = 1) (hsz : i.size = 1) (hby : i.bytes <= 8) {m : Nat} (h0 : 0 < m) (h1 : m <= 10000000)
  (ho : o.op = .call { callee := .builtin .append, args := #[x, y], argTypes := #[t, u] }) (hdst : o.dst = some d) (hd : d < n) (hx : S.ev x = .t (.v (.slice none 0 0))) (hy : S.ev y = .i m) (hfree : S.roots d = .free)
  (k : K { env := upd S.env d (.own d), roots := upd S.roots d (.live (.arr 1 (List.replicate m .any)) []) }) : OpW P n o S K := by
 intro X w0 O0 a w hs fp g Q
 have hx1 := g.ev x; rw [hx] at hx1; have hx1 := hx1.v_inv
 have hy1 := g.ev y; rw [hy] at hy1; have hy1 := hy1.v_inv
 have hr := q1nz (P := P) w t u o.type e i z kk ht hu hi hz hsz hby m h0 h1
 have hcap := grownCap_ge w m 0 e
 have hcm : grownCap w m 0 e <= maxLen := grownCap_le_maxLen w m 0 e (by simp [maxLen]; omega)
 have hrun : (execOp a.eval o).run P w = .ok (.value (.slice (some ⟨w.heap.size, 0, none⟩) m (grownCap w m 0 e))) (w.drew.alloc (.cells (Builtin.zeroCells z.cells m ++ Builtin.zeroCells z.cells (grownCap w m 0 e - m)) e)) := by
  simp [execOp, ho, resolve, invoke, builtin, hx1, hy1, hr, Sem.run_bind, Result.andThen]
 have g2 := g.newRow (Inter.refl S fp) (ts := List.replicate m .any) (vs := (Builtin.zeroCells z.cells m ++ Builtin.zeroCells z.cells (grownCap w m 0 e - m)).toList) (gs := List.replicate m []) (by simp) (fun j hj => by
   rw [List.getElem_replicate]
   have hj' : j < m := by simpa using hj
   rw [qA (l := List.replicate m []), rM, if_pos hj']
   exact .rd (.any _)) (by simp) (by simp) hfree hd (Builtin.zeroCells z.cells m ++ Builtin.zeroCells z.cells (grownCap w m 0 e - m)) e (fun j _ => by rw [qC, qA, Array.getElem?_toList]) (.arr 1 (List.replicate m .any)) (.slice (some ⟨w.heap.size, 0, none⟩) m (grownCap w m 0 e)) rfl
  (w.drew.alloc (.cells (Builtin.zeroCells z.cells m ++ Builtin.zeroCells z.cells (grownCap w m 0 e - m)) e)) rfl rfl rfl rfl
  (fun w' O' hb hr => .arr 1 _ _ m (grownCap w m 0 e) _ e _ hb (by simp) hcap hcm (by simp [size_zeroCells, hzs]; omega) (by simp) hr)
 unfold Oper.wp
 rw [hrun, Oper.upon_value, hdst]
 simp only [List.flatten_replicate_nil] at g2
 exact ⟨_, _, _, g2, k⟩
def q19w (P : Program) (t u : TypeId) : Bool :=
 match P.underlying t, P.underlying u with
 | some (.slice e), some (.int _) => (match P.info? e with | some i => (match i.zero with | some z => z.cells.size == 1 && i.size == 1 && decide (i.bytes <= 8) | none => false) | none => false)
 | _, _ => false
theorem q1m4 {o : Oper} {t u : TypeId} {d : Nat} {x y : Operand} (hok : q19w P t u = true) {m : Nat} (h0 : 0 < m) (h1 : m <= 10000000)
  (ho : o.op = .call { callee := .builtin .append, args := #[x, y], argTypes := #[t, u] }) (hdst : o.dst = some d) (hd : d < n) (hx : S.ev x = .t (.v (.slice none 0 0))) (hy : S.ev y = .i m) (hfree : S.roots d = .free)
  (k : K { env := upd S.env d (.own d), roots := upd S.roots d (.live (.arr 1 (List.replicate m .any)) []) }) : OpW P n o S K := by
 unfold q19w at hok
 split at hok
 ·rename_i e kk h2 h3
  split at hok
  ·rename_i i h4
   split at hok
   ·rename_i z h5
    simp only [qM, beq_iff_eq, decide_eq_true_eq] at hok
    exact q1m3 h2 h3 h4 h5 hok.1.1 hok.1.2 hok.2 h0 h1 ho hdst hd hx hy hfree k
   ·cases hok
  ·cases hok
 ·cases hok
theorem q1m7 {o : Oper} {t e : TypeId} {d r : Nat} {x y : Operand} {l : List T} (ht : P.underlying t = some (.slice e)) (hz : q0wn P e = some 1) (ho : o.op = .slice t x none (some y) none) (hdst : o.dst = some d) (hd : d < n) (hl : l ≠ [])
  (hx : S.ev x = .own r) (hr : S.roots r = .live (.arr 1 l) []) (hy : S.ev y = .i 0) (hfree : S.roots d = .free) (hdr : d ≠ r)
  (k : K { env := upd S.env d (.own d), roots := upd (upd S.roots r .dead) d (.live (.arr 1 []) []) }) : OpW P n o S K := by
 intro X w0 O0 a w hs fp g Q
 have hx1 := g.ev x; rw [hx] at hx1; have hx1 := hx1.own_inv
 have hy1 := g.ev y; rw [hy] at hy1; have hy1 := hy1.v_inv
 rcases g.arr hr with ⟨_, rfl, _⟩ | ⟨b, len, cap, cs, e', fps, hh, hb, hlen, hc, hm, hsz, hf, hr', hfp, hle, hlk⟩
 ·exact (hl rfl).elim
 rw [hh] at hx1
 have hx1 := Option.some.inj hx1
 have hrun : (execOp a.eval o).run P w = .ok (.value (.slice (some ⟨b, 0, none⟩) 0 cap)) w := by
  have hs := q0qv (P := P) ht hz (some ⟨b, 0, none⟩) len cap (lo := none) (hi := some (.int .i64 ((0 : Nat) : Int))) (i := 0) (j := 0) (.inl ⟨rfl, rfl⟩) (.inr ⟨_, rfl⟩) (qR _) (Nat.zero_le _) w
  have e : sliced (some ⟨b, 0, none⟩) 0 0 cap 1 = .slice (some ⟨b, 0, none⟩) 0 cap := by simp [sliced, addr_add]
  rw [e] at hs
  simp [execOp, ho, hy1, ← hx1]
  exact hs ▸ rfl
 have hnone : hs d = none := by
  have := g.root d
  rw [hfree] at this; exact this.1
 have hb' : b ∈ fp r := by rw [hfp]; simp
 have g2 := g.lay ((Inter.refl S fp).kill hr).2.2 d (.arr 1 []) [] (.slice (some ⟨b, 0, none⟩) 0 cap) [b] w (.inl ⟨hnone, by have := g.small; omega⟩) rfl rfl rfl rfl (qR _) (fun _ _ _ => rfl) (by simp)
  (fun b' h' => by
   simp only [List.mem_singleton] at h'
   subst h'
   exact .inl ⟨r, hb', .inr (q0x2 _ _ _)⟩)
  (fun O' hO' => .arr 1 [] b 0 cap cs e' [] hb (by simp) (Nat.zero_le _) hm hsz rfl (fun i h => absurd h (by simp)))
  (by simp)
 unfold Oper.wp
 rw [hrun, Oper.upon_value, hdst]
 have g3 := g2.put hd (x := .own d) (v := .slice (some ⟨b, 0, none⟩) 0 cap) (.own (q0x2 _ _ _))
 exact ⟨_, _, _, g3, k⟩
end
end Go.Ab

/- Five cards: the value of the best five, by counts and by looking at all fives. -/
namespace Go.Ab
/-! Five cards: values as digits to the base 13. -/
def rk (c : Int) : Nat := (c / 4).toNat
def st (c : Int) : Nat := (c % 4).toNat
def q1cv (l : List Int) : Prop := l.Nodup /\ ∀ x ∈ l, 0 <= x /\ x < 52
theorem q1nr {c : Int} (h : 0 <= c /\ c < 52) : rk c < 13 := by unfold rk; omega
theorem q1pz (c : Int) : st c < 4 := by unfold st; omega
theorem q1cz {x y : Int} (hx : 0 <= x /\ x < 52) (hy : 0 <= y /\ y < 52) (h : rk x = rk y) (h' : st x = st y) : x = y := by
 unfold rk at h; unfold st at h'; omega
def kick (a : Nat) (ks : List Nat) : Nat := ks.foldl (fun a k => a * 13 + k) a
theorem q1kh (a : Nat) : kick a [] = a := rfl
theorem q1kf (a k : Nat) (ks : List Nat) : kick a (k :: ks) = kick (a * 13 + k) ks := rfl
theorem q1kg {a b : Nat} : ∀ {xs ys : List Nat}, a < b -> xs.length = ys.length -> (∀ x ∈ xs, x < 13) -> kick a xs < kick b ys := by
 intro xs
 induction xs generalizing a b with
 | nil => intro ys h e _; cases ys with
   | nil => exact h
   | cons y ys => simp at e
 | cons x xs ih =>
   intro ys h e hx
   cases ys with
   | nil => simp at e
   | cons y ys =>
     rw [q1kf, q1kf]
     have := hx x (by simp)
     exact ih (by omega) (by simpa using e) fun z hz => hx z (by simp [hz])
theorem q1lg {α : Type} [DecidableEq α] {xs : List α} : ∀ {ys : List α}, xs.Nodup -> (∀ x ∈ xs, x ∈ ys) -> xs.length <= ys.length := by
 induction xs with
 | nil => simp
 | cons x xs ih =>
   intro ys hn h
   have hx := h x (by simp)
   rw [qX] at hn
   have := ih (ys := ys.erase x) hn.2 fun y hy => by
    have hne : y ≠ x := fun e => hn.1 (e ▸ hy)
    exact (List.mem_erase_of_ne hne).2 (h y (by simp [hy]))
   rw [List.length_erase_of_mem hx] at this
   have := List.length_pos_of_mem hx
   simp only [List.length_cons]; omega
theorem topk : ∀ {L xs : List Nat} {a : Nat}, L.Pairwise (· > ·) -> (∀ x ∈ L, x < 13) -> xs.Nodup -> (∀ x ∈ xs, x ∈ L) -> xs.length <= L.length /\ kick a xs <= kick a (L.take xs.length) := by
 intro L
 induction L with
 | nil =>
   intro xs a _ _ _ h
   cases xs with
   | nil => simp
   | cons x xs => have := h x (by simp); simp at this
 | cons h t ih =>
   intro xs a hp hl hn hs
   have hlen := q1lg hn hs
   refine ⟨hlen, ?_⟩
   cases xs with
   | nil => simp [kick]
   | cons x xs =>
     rw [qX] at hn
     rw [List.pairwise_cons] at hp
     rw [List.length_cons, List.take_succ_cons, q1kf, q1kf]
     by_cases e : x = h
     ·subst e
      refine (ih hp.2 (fun y hy => hl y (by simp [hy])) hn.2 fun y hy => ?_).2
      have := hs y (by simp [hy])
      rcases qO.1 this with e | e
      ·exact absurd (e ▸ hy) hn.1
      ·exact e
     ·have hx : x ∈ t := by
       rcases qO.1 (hs x (by simp)) with e' | e'
       ·exact absurd e' e
       ·exact e'
      have := hp.1 x hx
      refine Nat.le_of_lt (q1kg (by omega) ?_ fun y hy => hl y (hs y (by simp [hy])))
      simp only [List.length_cons] at hlen
      rw [qL]; omega
def q1n4 : List Nat := [12, 11, 10, 9, 8, 7, 6, 5, 4, 3, 2, 1, 0]
theorem q1n7 : q1n4.Pairwise (· > ·) := by decide
theorem q1n6 {r : Nat} : r ∈ q1n4 ↔ r < 13 := by simp [q1n4]; omega
def dsc (m : Nat -> Bool) : List Nat := q1n4.filter m
theorem q1ej (m : Nat -> Bool) : (dsc m).Pairwise (· > ·) := q1n7.filter _
theorem q1eh {m : Nat -> Bool} {r : Nat} : r ∈ dsc m ↔ r < 13 /\ m r = true := by rw [dsc, qV, q1n6]
theorem q1ei (m : Nat -> Bool) : (dsc m).Nodup := (q1ej m).imp fun h => by omega
theorem topM {m : Nat -> Bool} {xs : List Nat} {a : Nat} (hn : xs.Nodup) (h : ∀ x ∈ xs, x < 13 /\ m x = true) : xs.length <= (dsc m).length /\ kick a xs <= kick a ((dsc m).take xs.length) :=
 topk (q1ej m) (fun _ hx => (q1eh.1 hx).1) hn fun x hx => q1eh.2 (h x hx)
def run5 (m : Nat -> Bool) (t : Nat) : Bool := m t && m (t - 1) && m (t - 2) && m (t - 3) && m (t - 4)
def q1rn (m : Nat -> Bool) : Bool := m 0 && m 1 && m 2 && m 3 && m 12
def strT (m : Nat -> Bool) : Option (List Nat) :=
 match [12, 11, 10, 9, 8, 7, 6, 5, 4].find? (run5 m) with
 | some t => some [t, t - 1, t - 2, t - 3, t - 4]
 | none => if q1rn m then some [3, 2, 1, 0, 12] else none
def Con (a b c d e : Nat) : Prop := (a = b + 1 /\ b = c + 1 /\ c = d + 1 /\ d = e + 1) ∨ (a = 3 /\ b = 2 /\ c = 1 /\ d = 0 /\ e = 12)
theorem q1q4 {m : Nat -> Bool} {ks : List Nat} (h : strT m = some ks) : ∃ a b c d e, ks = [a, b, c, d, e] /\ Con a b c d e /\ a < 13 /\ e < 13 /\ m a = true /\ m b = true /\ m c = true /\ m d = true /\ m e = true := by
 unfold strT at h
 split at h
 ·rename_i t ht
  have hm := List.mem_of_find?_eq_some ht
  have hp := List.find?_some ht
  simp only [Option.some.injEq] at h
  simp only [run5, qM] at hp
  have : 4 <= t /\ t < 13 := by simp only [qO, List.not_mem_nil, or_false] at hm; omega
  exact ⟨_, _, _, _, _, h.symm, .inl (by omega), by omega, by omega, hp.1.1.1.1, hp.1.1.1.2, hp.1.1.2, hp.1.2, hp.2⟩
 ·split at h
  ·rename_i hw
   simp only [Option.some.injEq] at h
   simp only [q1rn, qM] at hw
   exact ⟨_, _, _, _, _, h.symm, .inr (by omega), by omega, by omega, hw.1.2, hw.1.1.2, hw.1.1.1.2, hw.1.1.1.1, hw.2⟩
  ·cases h
theorem q1q3 {m : Nat -> Bool} {a b c d e : Nat} (k : Nat) (hc : Con a b c d e) (ha : a < 13) (h : m a = true /\ m b = true /\ m c = true /\ m d = true /\ m e = true) : ∃ ks, strT m = some ks /\ kick k [a, b, c, d, e] <= kick k ks := by
 obtain ⟨h1, h2, h3, h4, h5⟩ := h
 unfold strT
 rcases hc with hc | hc
 ·obtain ⟨rfl, rfl, rfl, rfl⟩ := hc
  have hr : run5 m (e + 1 + 1 + 1 + 1) = true := by
   simp only [run5, qM]
   exact ⟨⟨⟨⟨h1, by simpa using h2⟩, by simpa using h3⟩, by simpa using h4⟩, by simpa using h5⟩
  have key : ∀ L : List Nat, L.Pairwise (· > ·) -> (e + 1 + 1 + 1 + 1) ∈ L -> ∃ t, L.find? (run5 m) = some t /\ e + 1 + 1 + 1 + 1 <= t := by
   intro L
   induction L with
   | nil => simp
   | cons x L ih =>
     intro hw hm
     rw [List.pairwise_cons] at hw
     rw [List.find?_cons]
     cases hx : run5 m x with
     | true =>
       refine ⟨x, rfl, ?_⟩
       rcases qO.1 hm with e' | e'
       ·omega
       ·have := hw.1 _ e'; omega
     | false =>
       rcases qO.1 hm with e' | e'
       ·rw [e', hx] at hr; cases hr
       ·exact ih hw.2 e'
  obtain ⟨t, ht, hle⟩ := key [12, 11, 10, 9, 8, 7, 6, 5, 4] (by decide) (by simp; omega)
  rw [ht]
  refine ⟨_, rfl, ?_⟩
  simp only [kick, List.foldl_cons, List.foldl_nil]
  omega
 ·obtain ⟨rfl, rfl, rfl, rfl, rfl⟩ := hc
  cases hf : [12, 11, 10, 9, 8, 7, 6, 5, 4].find? (run5 m) with
  | some t =>
    have hm := List.mem_of_find?_eq_some hf
    have : 4 <= t /\ t < 13 := by simp only [qO, List.not_mem_nil, or_false] at hm; omega
    refine ⟨_, rfl, ?_⟩
    simp only [kick, List.foldl_cons, List.foldl_nil]
    omega
  | none =>
    have hw : q1rn m = true := by simp [q1rn, *]
    exact ⟨_, by simp only [hw, if_true], qR _⟩
/-! The value of the best five of some cards: out of counts, ranks and the ranks of a flush. -/
structure Sc where
 four : Option Nat
 three : Option Nat
 two : Option Nat
 second : Option Nat
def valR (m : Nat -> Bool) (fs : Option (Nat -> Bool)) (s : Sc) : Nat :=
 match fs.bind strT with
 | some ks => kick 8 ks
 | none => match s.four with
   | some r => kick 7 (r :: r :: r :: r :: (dsc fun x => m x && x != r).take 1)
   | none => match s.three, s.two with
     | some t, some p => kick 6 [t, t, t, p, p]
     | _, _ => match fs with
       | some f => kick 5 ((dsc f).take 5)
       | none => match strT m with
         | some ks => kick 4 ks
         | none => match s.three with
           | some t => kick 3 (t :: t :: t :: (dsc fun x => m x && x != t).take 2)
           | none => match s.two with
             | none => kick 0 ((dsc m).take 5)
             | some p => match s.second with
               | some q => kick 2 (p :: p :: q :: q :: (dsc fun x => m x && x != p && x != q).take 1)
               | none => kick 1 (p :: p :: (dsc fun x => m x && x != p).take 3)
structure ScOK (c : Nat -> Nat) (s : Sc) : Prop where
 f1 : ∀ r, s.four = some r -> r < 13 /\ c r = 4 /\ ∀ r', r' < 13 -> c r' = 4 -> r' <= r
 f0 : s.four = none -> ∀ r, r < 13 -> c r ≠ 4
 t1 : s.four = none -> ∀ t, s.three = some t -> t < 13 /\ c t = 3 /\ ∀ r, r < 13 -> c r = 3 -> r <= t
 t0 : s.four = none -> s.three = none -> ∀ r, r < 13 -> c r ≠ 3
 p1 : s.four = none -> ∀ p, s.two = some p -> p < 13 /\ 2 <= c p /\ s.three ≠ some p /\ ∀ r, r < 13 -> 2 <= c r -> s.three ≠ some r -> r <= p
 p0 : s.four = none -> s.two = none -> ∀ r, r < 13 -> 2 <= c r -> s.three = some r
 q1 : s.four = none -> s.three = none -> ∀ p, s.two = some p -> ∀ q, s.second = some q -> q < 13 /\ 2 <= c q /\ q ≠ p /\ ∀ r, r < 13 -> 2 <= c r -> r ≠ p -> r <= q
 q0 : s.four = none -> s.three = none -> ∀ p, s.two = some p -> s.second = none -> ∀ r, r < 13 -> 2 <= c r -> r = p
def Shp (cat : Nat) (l : List Nat) (same : Prop) : Prop :=
 ∃ a b c d e, l = [a, b, c, d, e] /\ ((cat = 8 /\ same /\ Con a b c d e) ∨ (cat = 7 /\ a = b /\ b = c /\ c = d) ∨ (cat = 6 /\ a = b /\ b = c /\ d = e) ∨ (cat = 5 /\ same) ∨ (cat = 4 /\ Con a b c d e) ∨ (cat = 3 /\ a = b /\ b = c) ∨ (cat = 2 /\ a = b /\ c = d) ∨ (cat = 1 /\ a = b) ∨ cat = 0)
def Wit (l : List Int) (v : Nat) : Prop :=
 ∃ f : List Int, f.Nodup /\ (∀ x ∈ f, x ∈ l) /\ ∃ cat, Shp cat (f.map rk) (∀ x ∈ f, ∀ y ∈ f, st x = st y) /\ v = kick cat (f.map rk)
def cnt (l : List Int) (r : Nat) : Nat := l.countP fun x => rk x == r
def num (l : List Int) (s : Nat) : Nat := l.countP fun x => st x == s
def has (l : List Int) (r : Nat) : Bool := l.any fun x => rk x == r
def hasS (l : List Int) (s r : Nat) : Bool := l.any fun x => st x == s && rk x == r
def q1fe (l : List Int) : Option (Nat -> Bool) := ([0, 1, 2, 3].find? fun s => decide (5 <= num l s)).map (hasS l)
theorem q1ds {l f : List Int} {r : Nat} (hn : f.Nodup) (hs : ∀ x ∈ f, x ∈ l) (h : ∀ x ∈ f, rk x = r) : f.length <= cnt l r := by
 rw [cnt, List.countP_eq_length_filter]
 exact q1lg hn fun x hx => qV.2 ⟨hs x hx, by simpa using h x hx⟩
theorem q1ll {l f : List Int} {s : Nat} (hn : f.Nodup) (hs : ∀ x ∈ f, x ∈ l) (h : ∀ x ∈ f, st x = s) : f.length <= num l s := by
 rw [num, List.countP_eq_length_filter]
 exact q1lg hn fun x hx => qV.2 ⟨hs x hx, by simpa using h x hx⟩
theorem q1io {l : List Int} {r : Nat} : has l r = true ↔ ∃ x ∈ l, rk x = r := by simp [has]
theorem q1in {l : List Int} {s r : Nat} : hasS l s r = true ↔ ∃ x ∈ l, st x = s /\ rk x = r := by simp [hasS]
theorem q1dt {l : List Int} (hl : q1cv l) (r : Nat) : cnt l r <= 4 := by
 rw [cnt, List.countP_eq_length_filter]
 have hn : ((l.filter fun x => rk x == r).map st).Nodup := by
  refine List.pairwise_map.2 ?_
  refine List.Pairwise.imp_of_mem ?_ (hl.1.filter _)
  intro x y hx hy hne e
  simp only [qV, beq_iff_eq] at hx hy
  exact hne (q1cz (hl.2 x hx.1) (hl.2 y hy.1) (by rw [hx.2, hy.2]) e)
 have := q1lg (ys := [0, 1, 2, 3]) hn fun s hs => by
  obtain ⟨x, _, rfl⟩ := qN.1 hs
  have := q1pz x
  simp only [qO, List.not_mem_nil, or_false]; omega
 simpa using this
theorem q1e9 {l : List Int} {p q : Int -> Bool} (h : ∀ x, p x = true -> q x = false) : l.countP p + l.countP q <= l.length := by
 induction l with
 | nil => simp
 | cons x l ih =>
   rw [List.countP_cons, List.countP_cons, List.length_cons]
   have := h x
   split <;> split <;> simp_all <;> omega
theorem q1ln {l : List Int} {s t : Nat} (hlen : l.length <= 9) (h1 : 5 <= num l s) (h2 : 5 <= num l t) : s = t := by
 apply rG
 intro hne
 have := q1e9 (l := l) (p := fun x => st x == s) (q := fun x => st x == t) fun x hx => by
  simp only [beq_iff_eq] at hx ⊢; simp [hx, hne]
 unfold num at h1 h2
 omega
theorem q1fj {l f : List Int} (hlen : l.length <= 9) (hn : f.Nodup) (hs : ∀ x ∈ f, x ∈ l) (hf : 5 <= f.length) (h : ∀ x ∈ f, ∀ y ∈ f, st x = st y) : ∃ g, q1fe l = some g /\ ∀ x ∈ f, g (rk x) = true := by
 obtain ⟨x0, hx0⟩ := List.exists_mem_of_length_pos (show 0 < f.length by omega)
 have h5 : 5 <= num l (st x0) := rA hf (q1ll hn hs fun x hx => h x hx x0 hx0)
 have h4 := q1pz x0
 cases hfd : [0, 1, 2, 3].find? fun s => decide (5 <= num l s) with
 | none =>
   have := List.find?_eq_none.1 hfd (st x0) (by simp only [qO, List.not_mem_nil, or_false]; omega)
   simp at this; omega
 | some s =>
   have h6 := List.find?_some hfd
   have e := q1ln hlen (by simpa using h6) h5
   refine ⟨hasS l s, by rw [q1fe, hfd]; rfl, fun x hx => q1in.2 ⟨x, hs x hx, ?_, rfl⟩⟩
   rw [e]; exact h x hx x0 hx0
theorem q1fg {l : List Int} {g : Nat -> Bool} (h : q1fe l = some g) : ∃ s, g = hasS l s /\ 5 <= num l s := by
 unfold q1fe at h
 cases hfd : [0, 1, 2, 3].find? fun s => decide (5 <= num l s) with
 | none => rw [hfd] at h; cases h
 | some s =>
   rw [hfd] at h
   exact ⟨s, by simpa using h.symm, by simpa using List.find?_some hfd⟩
theorem q1k8 (k a b c d e : Nat) : kick k [a, b, c, d, e] = ((((k * 13 + a) * 13 + b) * 13 + c) * 13 + d) * 13 + e := rfl
theorem q1d0 {k k' : Nat} {xs ys : List Nat} (h : k < k') (hl : xs.length = 5) (hl' : ys.length = 5) (hx : ∀ x ∈ xs, x < 13) : kick k xs <= kick k' ys :=
 Nat.le_of_lt (q1kg h (by rw [hl, hl']) hx)
theorem take_len {m : Nat -> Bool} {k : Nat} (h : k <= (dsc m).length) : ((dsc m).take k).length = k := by rw [qL]; omega
theorem q1e8 {l : List Int} {p q : Int -> Bool} : l.countP (fun x => p x || q x) <= l.countP p + l.countP q := by
 induction l with
 | nil => simp
 | cons x l ih =>
   rw [List.countP_cons, List.countP_cons, List.countP_cons]
   cases p x <;> cases q x <;> simp <;> omega
theorem q1e7 {l : List Int} (p : Int -> Bool) : l.countP p + l.countP (fun x => !p x) = l.length := by
 induction l with
 | nil => simp
 | cons x l ih =>
   rw [List.countP_cons, List.countP_cons, List.length_cons]
   cases p x <;> simp <;> omega
theorem q1mi {l : List Int} (hl : q1cv l) {X : Nat -> Bool} (hc : ∀ r, r < 13 -> X r = false -> cnt l r <= 1) : l.countP (fun x => !X (rk x)) <= (dsc fun r => has l r && !X r).length := by
 rw [List.countP_eq_length_filter]
 have hn : ((l.filter fun x => !X (rk x)).map rk).Nodup := by
  refine List.pairwise_map.2 ?_
  refine List.Pairwise.imp_of_mem ?_ (hl.1.filter _)
  intro x y hx hy hne e
  simp only [qV, Bool.not_eq_true'] at hx hy
  have := q1ds (l := l) (f := [x, y]) (r := rk x) (by simp [hne]) (by simp [hx.1, hy.1]) (by simp [e])
  have := hc (rk x) (q1nr (hl.2 x hx.1)) hx.2
  simp at *; omega
 have := q1lg (ys := dsc fun r => has l r && !X r) hn fun r hr => by
  obtain ⟨x, hx, rfl⟩ := qN.1 hr
  simp only [qV] at hx
  refine q1eh.2 ⟨q1nr (hl.2 x hx.1), ?_⟩
  rw [qM]; exact ⟨q1io.2 ⟨x, hx.1, rfl⟩, hx.2⟩
 simpa using this
theorem q1me {l : List Int} (hl : q1cv l) {X : Nat -> Bool} (h : 1 <= l.countP fun x => !X (rk x)) : 1 <= (dsc fun r => has l r && !X r).length := by
 obtain ⟨x, hx, hp⟩ := List.countP_pos_iff.1 h
 refine List.length_pos_of_mem (a := rk x) (q1eh.2 ⟨q1nr (hl.2 x hx), ?_⟩)
 rw [qM]; exact ⟨q1io.2 ⟨x, hx, rfl⟩, hp⟩
theorem q1fi {l : List Int} (hl : q1cv l) {s : Nat} (h : 5 <= num l s) : 5 <= (dsc (hasS l s)).length := by
 rw [num, List.countP_eq_length_filter] at h
 have hn : ((l.filter fun x => st x == s).map rk).Nodup := by
  refine List.pairwise_map.2 ?_
  refine List.Pairwise.imp_of_mem ?_ (hl.1.filter _)
  intro x y hx hy hne e
  simp only [qV, beq_iff_eq] at hx hy
  exact hne (q1cz (hl.2 x hx.1) (hl.2 y hy.1) e (by rw [hx.2, hy.2]))
 have := q1lg (ys := dsc (hasS l s)) hn fun r hr => by
  obtain ⟨x, hx, rfl⟩ := qN.1 hr
  simp only [qV, beq_iff_eq] at hx
  exact q1eh.2 ⟨q1nr (hl.2 x hx.1), q1in.2 ⟨x, hx.1, hx.2, rfl⟩⟩
 rw [qJ] at this
 omega
inductive View (l : List Int) (s : Sc) : Nat -> List Nat -> Prop
 | v8 (g ks) : q1fe l = some g -> strT g = some ks -> View l s 8 ks
 | v7 (r) : (q1fe l).bind strT = none -> s.four = some r -> View l s 7 (r :: r :: r :: r :: (dsc fun x => has l x && x != r).take 1)
 | v6 (t p) : (q1fe l).bind strT = none -> s.four = none -> s.three = some t -> s.two = some p -> View l s 6 [t, t, t, p, p]
 | v5 (g) : (q1fe l).bind strT = none -> s.four = none -> (s.three = none ∨ s.two = none) -> q1fe l = some g -> View l s 5 ((dsc g).take 5)
 | v4 (ks) : q1fe l = none -> s.four = none -> (s.three = none ∨ s.two = none) -> strT (has l) = some ks -> View l s 4 ks
 | v3 (t) : q1fe l = none -> s.four = none -> s.two = none -> strT (has l) = none -> s.three = some t -> View l s 3 (t :: t :: t :: (dsc fun x => has l x && x != t).take 2)
 | v2 (p q) : q1fe l = none -> s.four = none -> s.three = none -> strT (has l) = none -> s.two = some p -> s.second = some q -> View l s 2 (p :: p :: q :: q :: (dsc fun x => has l x && x != p && x != q).take 1)
 | v1 (p) : q1fe l = none -> s.four = none -> s.three = none -> strT (has l) = none -> s.two = some p -> s.second = none -> View l s 1 (p :: p :: (dsc fun x => has l x && x != p).take 3)
 | v0 : q1fe l = none -> s.four = none -> s.three = none -> strT (has l) = none -> s.two = none -> View l s 0 ((dsc (has l)).take 5)
theorem view (l : List Int) (s : Sc) : ∃ cat ks, valR (has l) (q1fe l) s = kick cat ks /\ View l s cat ks := by
 unfold valR
 cases h8 : (q1fe l).bind strT with
 | some ks =>
   cases hf : q1fe l with
   | none => rw [hf] at h8; cases h8
   | some g => rw [hf] at h8; exact ⟨_, _, rfl, .v8 g ks hf h8⟩
 | none =>
   cases h7 : s.four with
   | some r => exact ⟨_, _, rfl, .v7 r h8 h7⟩
   | none =>
     cases ht : s.three with
     | some t =>
       cases hp : s.two with
       | some p => exact ⟨_, _, rfl, .v6 t p h8 h7 ht hp⟩
       | none =>
         cases hf : q1fe l with
         | some g => exact ⟨_, _, rfl, .v5 g h8 h7 (.inr hp) hf⟩
         | none =>
           cases hst : strT (has l) with
           | some ks => exact ⟨_, _, rfl, .v4 ks hf h7 (.inr hp) hst⟩
           | none => exact ⟨_, _, rfl, .v3 t hf h7 hp hst ht⟩
     | none =>
       cases hf : q1fe l with
       | some g => exact ⟨_, _, rfl, .v5 g h8 h7 (.inl ht) hf⟩
       | none =>
         cases hst : strT (has l) with
         | some ks => exact ⟨_, _, rfl, .v4 ks hf h7 (.inl ht) hst⟩
         | none =>
           cases hp : s.two with
           | none => exact ⟨_, _, rfl, .v0 hf h7 ht hst hp⟩
           | some p =>
             cases hq : s.second with
             | some q => exact ⟨_, _, rfl, .v2 p q hf h7 ht hst hp hq⟩
             | none => exact ⟨_, _, rfl, .v1 p hf h7 ht hst hp hq⟩
theorem q1dx {l : List Int} (hl : q1cv l) {s : Sc} (hs : ScOK (cnt l) s) (h7 : s.four = none) (ht : s.three = none) {r : Nat} (hr : r < 13) : cnt l r <= 2 := by
 have := q1dt hl r
 have := hs.f0 h7 r hr
 have := hs.t0 h7 ht r hr
 omega
theorem q1rl {l : List Int} (hl : q1cv l) (hlen : 5 <= l.length) {s : Sc} (hs : ScOK (cnt l) s) {cat : Nat} {ks : List Nat} (h : View l s cat ks) : ks.length = 5 := by
 cases h with
 | v8 g ks hf h => obtain ⟨a, b, c, d, e, rfl, _⟩ := q1q4 h; rfl
 | v7 r h8 h7 =>
   have := (hs.f1 r h7).2.1
   have hc := q1e7 (l := l) fun x => rk x == r
   have := q1me hl (X := fun x => x == r) (by simp only [cnt] at this; omega)
   simp only [List.length_cons]
   rw [show (fun x => has l x && x != r) = fun x => has l x && !(x == r) from rfl, take_len this]
 | v6 => rfl
 | v5 g h8 h7 h6 hf =>
   obtain ⟨s', rfl, h5⟩ := q1fg hf
   exact take_len (q1fi hl h5)
 | v4 ks hf h7 h6 h => obtain ⟨a, b, c, d, e, rfl, _⟩ := q1q4 h; rfl
 | v3 t hf h7 hp hst ht =>
   have := (hs.t1 h7 t ht).2.1
   have hc := q1e7 (l := l) fun x => rk x == t
   have := q1mi hl (X := fun x => x == t) fun r hr hx => by
    have := hs.p0 h7 hp r hr
    have hne : r ≠ t := by simpa using hx
    apply rG
    intro h2
    have := this (by omega)
    rw [ht] at this
    exact hne (Option.some.inj this).symm
   simp only [List.length_cons]
   rw [show (fun x => has l x && x != t) = fun x => has l x && !(x == t) from rfl, take_len (by simp only [cnt] at *; omega)]
 | v2 p q hf h7 ht hst hp hq =>
   have h1 := q1dx hl hs h7 ht (hs.p1 h7 p hp).1
   have h2 := q1dx hl hs h7 ht (hs.q1 h7 ht p hp q hq).1
   have hc := q1e7 (l := l) fun x => rk x == p || rk x == q
   have ho := q1e8 (l := l) (p := fun x => rk x == p) (q := fun x => rk x == q)
   have := q1me hl (X := fun x => x == p || x == q) (by simp only [cnt] at *; omega)
   simp only [List.length_cons]
   rw [show (fun x => has l x && x != p && x != q) = fun x => has l x && !(x == p || x == q) from funext fun x => by simp [bne, Bool.and_assoc], take_len this]
 | v1 p hf h7 ht hst hp hq =>
   have h1 := q1dx hl hs h7 ht (hs.p1 h7 p hp).1
   have hc := q1e7 (l := l) fun x => rk x == p
   have := q1mi hl (X := fun x => x == p) fun r hr hx => by
    have hne : r ≠ p := by simpa using hx
    apply rG
    intro h2
    exact hne (hs.q0 h7 ht p hp hq r hr (by omega))
   simp only [List.length_cons]
   rw [show (fun x => has l x && x != p) = fun x => has l x && !(x == p) from rfl, take_len (by simp only [cnt] at *; omega)]
 | v0 hf h7 ht hst hp =>
   have hc := q1e7 (l := l) fun x => false
   have := q1mi hl (X := fun x => false) fun r hr hx => by
    apply rG
    intro h2
    have := hs.p0 h7 hp r hr (by omega)
    rw [ht] at this; cases this
   simp only [Bool.not_false, Bool.and_true] at this hc
   have h0 : l.countP (fun _ => false) = 0 := by simp
   have this : l.countP (fun _ => true) <= (dsc (has l)).length := this
   exact take_len (by omega)
section
variable {l : List Int} {s : Sc} {k : Nat} {ks : List Nat}
theorem View.n8 (h : View l s k ks) (hk : k < 8) : (q1fe l).bind strT = none := by
 cases h <;> first | assumption | omega | (rename_i hf _ _ _; rw [hf]; rfl) | (rename_i hf _ _ _ _; rw [hf]; rfl) | (rename_i hf _ _ _ _ _; rw [hf]; rfl)
theorem View.n7 (h : View l s k ks) (hk : k < 7) : s.four = none := by
 cases h <;> first | assumption | omega
theorem View.n6 (h : View l s k ks) (hk : k < 6) : s.three = none ∨ s.two = none := by
 cases h <;> first | assumption | omega | exact .inl ‹_› | exact .inr ‹_›
theorem View.n5 (h : View l s k ks) (hk : k < 5) : q1fe l = none := by
 cases h <;> first | assumption | omega
theorem View.n4 (h : View l s k ks) (hk : k < 4) : strT (has l) = none := by
 cases h <;> first | assumption | omega
theorem View.n3 (h : View l s k ks) (hk : k < 3) : s.three = none := by
 cases h <;> first | assumption | omega
theorem View.n2 (h : View l s k ks) (hk : k < 2) : s.two = none ∨ s.second = none := by
 cases h <;> first | omega | exact .inl ‹_› | exact .inr ‹_›
theorem View.n1 (h : View l s k ks) (hk : k < 1) : s.two = none := by
 cases h <;> first | assumption | omega
end
structure Tup (l : List Int) (a b c d e : Nat) (same : Prop) : Prop where
 la : a < 13
 lb : b < 13
 lc : c < 13
 ld : d < 13
 le : e < 13
 ma : has l a = true
 mb : has l b = true
 mc : has l c = true
 md : has l d = true
 me : has l e = true
 ct : ∀ r, [a, b, c, d, e].count r <= cnt l r
 fl : same -> ∃ g, q1fe l = some g /\ (g a = true /\ g b = true /\ g c = true /\ g d = true /\ g e = true) /\ [a, b, c, d, e].Nodup
theorem q1ea (f : List Int) (r : Nat) : (f.map rk).count r = (f.filter fun x => rk x == r).length := by
 induction f with
 | nil => rfl
 | cons x f ih =>
   rw [List.map_cons, List.count_cons, List.filter_cons, ih]
   split <;> simp_all
theorem q1rb {l f : List Int} (hl : q1cv l) (hlen : l.length <= 9) (hn : f.Nodup) (hm : ∀ x ∈ f, x ∈ l) {a b c d e : Nat} (he : f.map rk = [a, b, c, d, e]) : Tup l a b c d e (∀ x ∈ f, ∀ y ∈ f, st x = st y) := by
 have hr : ∀ r ∈ [a, b, c, d, e], r < 13 /\ has l r = true := by
  intro r h
  rw [← he] at h
  obtain ⟨x, hx, rfl⟩ := qN.1 h
  exact ⟨q1nr (hl.2 x (hm x hx)), q1io.2 ⟨x, hm x hx, rfl⟩⟩
 have hf5 : f.length = 5 := by have := congrArg List.length he; simpa using this
 refine ⟨(hr a (by simp)).1, (hr b (by simp)).1, (hr c (by simp)).1, (hr d (by simp)).1, (hr e (by simp)).1, (hr a (by simp)).2, (hr b (by simp)).2, (hr c (by simp)).2, (hr d (by simp)).2, (hr e (by simp)).2, fun r => ?_, fun hsame => ?_⟩
 ·rw [← he, q1ea]
  exact q1ds (hn.filter _) (fun x hx => hm x (qV.1 hx).1) fun x hx => by simpa using (qV.1 hx).2
 ·obtain ⟨g, hg, hg'⟩ := q1fj hlen hn hm (by omega) hsame
  have hgr : ∀ r ∈ [a, b, c, d, e], g r = true := by
   intro r h
   rw [← he] at h
   obtain ⟨x, hx, rfl⟩ := qN.1 h
   exact hg' x hx
  refine ⟨g, hg, ⟨hgr a (by simp), hgr b (by simp), hgr c (by simp), hgr d (by simp), hgr e (by simp)⟩, ?_⟩
  rw [← he]
  refine List.pairwise_map.2 (List.Pairwise.imp_of_mem ?_ hn)
  intro x y hx hy hne e'
  exact hne (q1cz (hl.2 x (hm x hx)) (hl.2 y (hm y hy)) e' (hsame x hx y hy))
section
variable {l : List Int} {s : Sc} {a b c d e k : Nat} {ks : List Nat} {p : Prop}
theorem tup8 (h : Tup l a b c d e p) (hv : View l s k ks) (hk : k <= 8) (hp : p) (hc : Con a b c d e) : k = 8 /\ kick 8 [a, b, c, d, e] <= kick k ks := by
 obtain ⟨g, hg, hg', _⟩ := h.fl hp
 obtain ⟨ks', hk', hle⟩ := q1q3 (m := g) 8 hc h.la hg'
 rcases qH k 8 with h1 | h1
 ·have := hv.n8 h1
  rw [hg] at this
  have this : strT g = none := this
  rw [hk'] at this; cases this
 ·have : k = 8 := by omega
  subst this
  cases hv with
  | v8 g' _ hf h' =>
    rw [hf] at hg
    obtain rfl := Option.some.inj hg
    rw [h'] at hk'
    obtain rfl := Option.some.inj hk'
    exact ⟨rfl, hle⟩
theorem q1kp {k x y : Nat} {xs ys : List Nat} (h : x < y) (hl : xs.length = ys.length) (hx : ∀ z ∈ xs, z < 13) : kick k (x :: xs) <= kick k (y :: ys) := by
 rw [q1kf, q1kf]; exact Nat.le_of_lt (q1kg (by omega) hl hx)
theorem tup7 (hl : q1cv l) (hs : ScOK (cnt l) s) (h : Tup l a b c d e p) (hv : View l s k ks) (hkl : ks.length = 5) (hk : k <= 7) (e1 : a = b) (e2 : b = c) (e3 : c = d) : k = 7 /\ kick 7 [a, b, c, d, e] <= kick k ks := by
 subst e1 e2 e3
 have h4 := h.ct a
 have h5 := q1dt hl a
 have hne : e ≠ a := fun e' => by simp [e'] at h4; omega
 have h4 : 4 <= cnt l a := by simpa [List.count_cons, hne] using h4
 rcases qH k 7 with h1 | h1
 ·exact absurd (by omega) (hs.f0 (hv.n7 h1) a h.la)
 ·have : k = 7 := by omega
  subst this
  refine ⟨rfl, ?_⟩
  cases hv with
  | v7 r h8 h7 =>
    have := (hs.f1 r h7).2.2 a h.la (by omega)
    have := h.la
    have := h.le
    rcases qH a r with h2 | h2
    ·exact q1kp h2 (by simpa using hkl.symm) (by simp; omega)
    ·obtain rfl : a = r := by omega
     simp only [q1kf _ a]
     exact (topM (m := fun x => has l x && x != a) (xs := [e]) (by simp) (by simp [h.le, h.me, hne])).2
theorem tup6 (hl : q1cv l) (hs : ScOK (cnt l) s) (h : Tup l a b c d e p) (hv : View l s k ks) (hkl : ks.length = 5) (hk : k <= 6) (e1 : a = b) (e2 : b = c) (e3 : d = e) : k = 6 /\ kick 6 [a, b, c, d, e] <= kick k ks := by
 subst e1 e2 e3
 have h4 := h.ct a
 have h4' := h.ct d
 have h5 := q1dt hl a
 have hne : d ≠ a := fun e' => by simp [e'] at h4; omega
 have hne' : a ≠ d := fun e' => hne e'.symm
 have h4 : 3 <= cnt l a := by simpa [List.count_cons, hne] using h4
 have h4' : 2 <= cnt l d := by simpa [List.count_cons, hne'] using h4'
 have h7 := hv.n7 (by omega)
 have h6 := hs.f0 h7 a h.la
 rcases qH k 6 with h1 | h1
 ·exfalso
  rcases hv.n6 h1 with h8 | h8
  ·exact hs.t0 h7 h8 a h.la (by omega)
  ·have e1 := hs.p0 h7 h8 a h.la (by omega)
   have e2 := hs.p0 h7 h8 d h.ld (by omega)
   rw [e1] at e2
   exact hne' (Option.some.inj e2)
 ·have : k = 6 := by omega
  subst this
  refine ⟨rfl, ?_⟩
  cases hv with
  | v6 t q _ _ ht hq =>
    have h8 := (hs.t1 h7 t ht).2.2 a h.la (by omega)
    have h9 := (hs.p1 h7 q hq).2.2.2 d h.ld h4'
    have := h.la
    have := h.ld
    rw [ht] at h9
    rw [q1k8, q1k8]
    rcases qH a t with h2 | h2
    ·omega
    ·obtain rfl : a = t := by omega
     have := h9 (fun e' => hne' (Option.some.inj e'))
     omega
theorem tup5 (h : Tup l a b c d e p) (hv : View l s k ks) (hk : k <= 5) (hp : p) : k = 5 /\ kick 5 [a, b, c, d, e] <= kick k ks := by
 obtain ⟨g, hg, hg', hnd⟩ := h.fl hp
 rcases qH k 5 with h1 | h1
 ·rw [hv.n5 h1] at hg; cases hg
 ·have : k = 5 := by omega
  subst this
  refine ⟨rfl, ?_⟩
  cases hv with
  | v5 g' _ _ _ hf =>
    rw [hf] at hg
    obtain rfl := Option.some.inj hg
    exact (topM (m := g') (xs := [a, b, c, d, e]) hnd (by simp [h.la, h.lb, h.lc, h.ld, h.le, hg'])).2
theorem tup4 (h : Tup l a b c d e p) (hv : View l s k ks) (hk : k <= 4) (hc : Con a b c d e) : k = 4 /\ kick 4 [a, b, c, d, e] <= kick k ks := by
 obtain ⟨ks', hk', hle⟩ := q1q3 (m := has l) 4 hc h.la ⟨h.ma, h.mb, h.mc, h.md, h.me⟩
 rcases qH k 4 with h1 | h1
 ·rw [hv.n4 h1] at hk'; cases hk'
 ·have : k = 4 := by omega
  subst this
  refine ⟨rfl, ?_⟩
  cases hv with
  | v4 _ _ _ _ h' =>
    rw [h'] at hk'
    obtain rfl := Option.some.inj hk'
    exact hle
theorem tup3 (hl : q1cv l) (hs : ScOK (cnt l) s) (h : Tup l a b c d e p) (hv : View l s k ks) (hkl : ks.length = 5) (hk : k <= 3) (e1 : a = b) (e2 : b = c) : k = 3 /\ kick 3 [a, b, c, d, e] <= kick k ks := by
 subst e1 e2
 have h4 := h.ct a
 have h7 := hv.n7 (by omega)
 have h5 := q1dt hl a
 have h6 := hs.f0 h7 a h.la
 have hd : d ≠ a := fun e' => by simp [e', List.count_cons] at h4; omega
 have he : e ≠ a := fun e' => by simp [e', List.count_cons] at h4; omega
 have h4 : 3 <= cnt l a := by simpa [List.count_cons, hd, he] using h4
 rcases qH k 3 with h1 | h1
 ·exact absurd (by omega) (hs.t0 h7 (hv.n3 h1) a h.la)
 ·have : k = 3 := by omega
  subst this
  refine ⟨rfl, ?_⟩
  cases hv with
  | v3 t hf _ hp hst ht =>
    have h8 := (hs.t1 h7 t ht).2.2 a h.la (by omega)
    have hde : d ≠ e := fun e' => by
     have h9 := h.ct d
     subst e'
     have had : a ≠ d := fun e' => hd e'.symm
     have h9 : 2 <= cnt l d := by simpa [List.count_cons, had] using h9
     have e1 := hs.p0 h7 hp a h.la (by omega)
     have e2 := hs.p0 h7 hp d h.ld (by omega)
     rw [e1] at e2
     exact hd (Option.some.inj e2).symm
    have := h.la
    have := h.ld
    have := h.le
    rcases qH a t with h2 | h2
    ·exact q1kp h2 (by simpa using hkl.symm) (by simp; omega)
    ·obtain rfl : a = t := by omega
     simp only [q1kf _ a]
     exact (topM (m := fun x => has l x && x != a) (xs := [d, e]) (by simp [hde]) (by simp [h.ld, h.md, hd, h.le, h.me, he])).2
theorem tup2 (hl : q1cv l) (hs : ScOK (cnt l) s) (h : Tup l a b c d e p) (hv : View l s k ks) (hkl : ks.length = 5) (hk : k <= 2) (e1 : a = b) (e2 : c = d) : k = 2 /\ kick 2 [a, b, c, d, e] <= kick k ks := by
 subst e1 e2
 have h4 := h.ct a
 have h4' := h.ct c
 have h7 := hv.n7 (by omega)
 have ht := hv.n3 (by omega)
 have h5 := q1dx hl hs h7 ht h.la
 have h5' := q1dx hl hs h7 ht h.lc
 have hca : c ≠ a := fun e' => by simp [e', List.count_cons] at h4; omega
 have hac : a ≠ c := fun e' => hca e'.symm
 have hea : e ≠ a := fun e' => by simp [e', hca] at h4; omega
 have hec : e ≠ c := fun e' => by simp [e', hac] at h4'; omega
 have h4 : 2 <= cnt l a := by simpa [List.count_cons, hca, hea] using h4
 have h4' : 2 <= cnt l c := by simpa [List.count_cons, hac, hec] using h4'
 rcases qH k 2 with h1 | h1
 ·exfalso
  rcases hv.n2 h1 with h8 | h8
  ·have := hs.p0 h7 h8 a h.la h4
   rw [ht] at this; cases this
  ·cases hp : s.two with
   | none =>
     have := hs.p0 h7 hp a h.la h4
     rw [ht] at this; cases this
   | some q =>
     have e1 := hs.q0 h7 ht q hp h8 a h.la h4
     have e2 := hs.q0 h7 ht q hp h8 c h.lc h4'
     omega
 ·have : k = 2 := by omega
  subst this
  refine ⟨rfl, ?_⟩
  cases hv with
  | v2 q r hf _ _ hst hq hr =>
    obtain ⟨-, hq2, -, hq3⟩ := hs.p1 h7 q hq
    obtain ⟨-, hr2, hr3, hr4⟩ := hs.q1 h7 ht q hq r hr
    have h8 := hq3 a h.la h4 (by rw [ht]; simp)
    have h8' := hq3 c h.lc h4' (by rw [ht]; simp)
    have := h.la
    have := h.lc
    have := h.le
    rcases qH a q with h2 | h2
    ·exact q1kp h2 (by simpa using hkl.symm) (by simp; omega)
    ·obtain rfl : a = q := by omega
     have h9 := hr4 c h.lc h4' hca
     simp only [q1kf _ a]
     rcases qH c r with h3 | h3
     ·exact q1kp h3 (by simpa using hkl.symm) (by simp; omega)
     ·obtain rfl : c = r := by omega
      simp only [q1kf _ c]
      exact (topM (m := fun x => has l x && x != a && x != c) (xs := [e]) (by simp) (by simp [h.le, h.me, hea, hec])).2
theorem tup1 (hl : q1cv l) (hs : ScOK (cnt l) s) (h : Tup l a b c d e p) (hv : View l s k ks) (hkl : ks.length = 5) (hk : k <= 1) (e1 : a = b) : k = 1 /\ kick 1 [a, b, c, d, e] <= kick k ks := by
 subst e1
 have h4 := h.ct a
 have h7 := hv.n7 (by omega)
 have ht := hv.n3 (by omega)
 have h5 := q1dx hl hs h7 ht h.la
 have hca : c ≠ a := fun e' => by subst e'; simp [List.count_cons] at h4; omega
 have hda : d ≠ a := fun e' => by subst e'; simp [List.count_cons] at h4; omega
 have hea : e ≠ a := fun e' => by subst e'; simp [List.count_cons] at h4; omega
 have h4 : 2 <= cnt l a := by simpa [List.count_cons, hca, hda, hea] using h4
 cases hp : s.two with
 | none =>
   have := hs.p0 h7 hp a h.la h4
   rw [ht] at this; cases this
 | some q =>
   rcases qH k 1 with h1 | h1
   ·rw [hv.n1 h1] at hp; cases hp
   ·have : k = 1 := by omega
    subst this
    have h8 : s.second = none := (hv.n2 (by omega)).resolve_left (by rw [hp]; simp)
    have hq := hs.q0 h7 ht q hp h8
    have haq := hq a h.la h4
    have hcd : c ≠ d := fun e' => by
     have := h.ct c; subst e'
     have := hq c h.lc (by simp [List.count_cons] at this; omega); omega
    have hce : c ≠ e := fun e' => by
     have := h.ct c; subst e'
     have := hq c h.lc (by simp [List.count_cons] at this; omega); omega
    have hde : d ≠ e := fun e' => by
     have := h.ct d; subst e'
     have := hq d h.ld (by simp [List.count_cons] at this; omega); omega
    refine ⟨rfl, ?_⟩
    cases hv with
    | v1 q' hf _ _ hst hq' hr =>
      rw [hp] at hq'
      obtain rfl := Option.some.inj hq'
      subst haq
      simp only [q1kf _ a]
      exact (topM (m := fun x => has l x && x != a) (xs := [c, d, e]) (by simp [hcd, hce, hde]) (by simp [h.lc, h.mc, hca, h.ld, h.md, hda, h.le, h.me, hea])).2
theorem tup0 (hs : ScOK (cnt l) s) (h : Tup l a b c d e p) (hv : View l s k ks) (hk : k <= 0) : kick 0 [a, b, c, d, e] <= kick k ks := by
 have h7 := hv.n7 (by omega)
 have ht := hv.n3 (by omega)
 have hp := hv.n1 (by omega)
 have hone : ∀ r, r < 13 -> cnt l r <= 1 := fun r hr => by
  apply rG
  intro h2
  have := hs.p0 h7 hp r hr (by omega)
  rw [ht] at this; cases this
 have hnd : [a, b, c, d, e].Nodup := by
  refine List.nodup_iff_count.2 fun x => ?_
  rcases qH x 13 with hx | hx
  ·exact rA (h.ct x) (hone x hx)
  ·have h1 := h.la
   have h2 := h.lb
   have h3 := h.lc
   have h4 := h.ld
   have h5 := h.le
   rw [List.count_eq_zero_of_not_mem (by simp; omega)]; omega
 have : k = 0 := by omega
 subst this
 cases hv with
 | v0 => exact (topM (m := has l) (xs := [a, b, c, d, e]) hnd (by simp [h.la, h.lb, h.lc, h.ld, h.le, h.ma, h.mb, h.mc, h.md, h.me])).2
end
theorem q1rp {l : List Int} (hl : q1cv l) (hlen : 5 <= l.length /\ l.length <= 9) {s : Sc} (hs : ScOK (cnt l) s) {v : Nat} (hw : Wit l v) : v <= valR (has l) (q1fe l) s := by
 obtain ⟨k, ks, hv, hview⟩ := view l s
 have hkl := q1rl hl hlen.1 hs hview
 rw [hv]
 obtain ⟨f, hn, hm, cat, ⟨a, b, c, d, e, he, hc⟩, rfl⟩ := hw
 have ht := q1rb hl hlen.2 hn hm he
 rw [he]
 rcases qH cat k with hlt | hge
 ·exact q1d0 hlt rfl hkl (by have := ht.la; have := ht.lb; have := ht.lc; have := ht.ld; have := ht.le; simp; omega)
 ·rcases hc with ⟨rfl, h1, h2⟩ | ⟨rfl, h1, h2, h3⟩ | ⟨rfl, h1, h2, h3⟩ | ⟨rfl, h1⟩ | ⟨rfl, h1⟩ | ⟨rfl, h1, h2⟩ | ⟨rfl, h1, h2⟩ | ⟨rfl, h1⟩ | rfl
  ·exact (tup8 ht hview hge h1 h2).2
  ·exact (tup7 hl hs ht hview hkl hge h1 h2 h3).2
  ·exact (tup6 hl hs ht hview hkl hge h1 h2 h3).2
  ·exact (tup5 ht hview hge h1).2
  ·exact (tup4 ht hview hge h1).2
  ·exact (tup3 hl hs ht hview hkl hge h1 h2).2
  ·exact (tup2 hl hs ht hview hkl hge h1 h2).2
  ·exact (tup1 hl hs ht hview hkl hge h1).2
  ·exact tup0 hs ht hview hge
theorem pick {l : List Int} {q : Int -> Prop} : ∀ {ks : List Nat}, (∀ k ∈ ks, ∃ x ∈ l, rk x = k /\ q x) -> ∃ os : List Int, os.map rk = ks /\ ∀ x ∈ os, x ∈ l /\ q x := by
 intro ks
 induction ks with
 | nil => intro _; exact ⟨[], rfl, by simp⟩
 | cons k ks ih =>
   intro h
   obtain ⟨os, h1, h2⟩ := ih fun k hk => h k (by simp [hk])
   obtain ⟨x, hx, e, hq⟩ := h k (by simp)
   exact ⟨x :: os, by simp [h1, e], by intro y hy; rcases qO.1 hy with hy | hy; exact hy ▸ ⟨hx, hq⟩; exact h2 y hy⟩
theorem q1li {os : List Int} (h : (os.map rk).Nodup) : os.Nodup :=
 (List.pairwise_map.1 h).imp fun {a b} hne (e : a = b) => hne (by rw [e])
theorem grp {l : List Int} (hl : q1cv l) {n r : Nat} (h : n <= cnt l r) : ∃ xs : List Int, xs.Nodup /\ (∀ x ∈ xs, x ∈ l) /\ xs.map rk = List.replicate n r := by
 rw [cnt, List.countP_eq_length_filter] at h
 refine ⟨(l.filter fun x => rk x == r).take n, (hl.1.filter _).sublist (List.take_sublist _ _), fun x hx => (qV.1 (rU hx)).1, ?_⟩
 refine List.eq_replicate_iff.2 ⟨by rw [qJ, qL]; omega, fun k hk => ?_⟩
 obtain ⟨x, hx, rfl⟩ := qN.1 hk
 simpa using (qV.1 (rU hx)).2
theorem q19x {xs os : List Int} (h1 : xs.Nodup) (h2 : os.Nodup) (h : ∀ k ∈ xs.map rk, k ∉ os.map rk) : (xs ++ os).Nodup := by
 refine rC.2 ⟨h1, h2, fun x hx y hy e => ?_⟩
 exact h (rk x) (qN.2 ⟨x, hx, rfl⟩) (qN.2 ⟨y, hy, by rw [e]⟩)
theorem q1qo (m : Nat -> Bool) (n : Nat) : ((dsc m).take n).Nodup := (q1ei m).sublist (List.take_sublist _ _)
theorem q1l9 {m : Nat -> Bool} {n k : Nat} (h : k ∈ (dsc m).take n) : k < 13 /\ m k = true := q1eh.1 (rU h)
theorem q1f3 {ks : List Nat} (h : ks.length = 5) : ∃ a b c d e, ks = [a, b, c, d, e] := by
 match ks, h with
 | [a, b, c, d, e], _ => exact ⟨_, _, _, _, _, rfl⟩
theorem q1i5 {l : List Int} (hl : q1cv l) {n r k : Nat} {m : Nat -> Bool} (h : n <= cnt l r) (hm : ∀ x, m x = true -> has l x = true /\ x ≠ r) : ∃ f : List Int, f.Nodup /\ (∀ x ∈ f, x ∈ l) /\ f.map rk = List.replicate n r ++ (dsc m).take k := by
 obtain ⟨xs, h1, h2, h3⟩ := grp hl h
 obtain ⟨os, h4, h5⟩ := pick (l := l) (q := fun _ => True) (ks := (dsc m).take k) fun y hy => by
  obtain ⟨x, hx, e⟩ := q1io.1 (hm y (q1l9 hy).2).1
  exact ⟨x, hx, e, trivial⟩
 refine ⟨xs ++ os, q19x h1 (q1li (by rw [h4]; exact q1qo _ _)) ?_, ?_, by rw [qG, h3, h4]⟩
 ·rw [h3, h4]
  intro y hy hy'
  exact (hm y (q1l9 hy').2).2 (List.eq_of_mem_replicate hy)
 ·intro x hx
  rcases qI.1 hx with hx | hx
  ·exact h2 x hx
  ·exact (h5 x hx).1
theorem q1ri {l : List Int} (hl : q1cv l) (hlen : 5 <= l.length) {s : Sc} (hs : ScOK (cnt l) s) : Wit l (valR (has l) (q1fe l) s) := by
 obtain ⟨k, ks, hv, hview⟩ := view l s
 have hkl := q1rl hl hlen hs hview
 rw [hv]
 cases hview with
 | v8 g _ hf h =>
   obtain ⟨s', rfl, _⟩ := q1fg hf
   obtain ⟨a, b, c, d, e, rfl, hc, ha, he, h1, h2, h3, h4, h5⟩ := q1q4 h
   obtain ⟨os, h6, h7⟩ := pick (l := l) (q := fun x => st x = s') (ks := [a, b, c, d, e]) fun y hy => by
    have : hasS l s' y = true := by
     simp only [qO, List.not_mem_nil, or_false] at hy
     rcases hy with rfl | rfl | rfl | rfl | rfl <;> assumption
    obtain ⟨x, hx, e1, e2⟩ := q1in.1 this
    exact ⟨x, hx, e2, e1⟩
   refine ⟨os, q1li (by rw [h6]; rcases hc with hc | hc <;> simp <;> omega), fun x hx => (h7 x hx).1, 8, ⟨a, b, c, d, e, h6, .inl ⟨rfl, fun x hx y hy => by rw [(h7 x hx).2, (h7 y hy).2], hc⟩⟩, by rw [h6]⟩
 | v7 r h8 h7 =>
   obtain ⟨f, h1, h2, h3⟩ := q1i5 (l := l) hl (n := 4) (r := r) (k := 1) (m := fun x => has l x && x != r) (by have := (hs.f1 r h7).2.1; omega) (by simp)
   obtain ⟨a, b, c, d, e, he⟩ := q1f3 hkl
   have h3 : f.map rk = r :: r :: r :: r :: (dsc fun x => has l x && x != r).take 1 := h3
   refine ⟨f, h1, h2, 7, ⟨a, b, c, d, e, by rw [h3, he], .inr (.inl ?_)⟩, by rw [h3]⟩
   simp only [List.cons.injEq] at he; omega
 | v6 t p h8 h7 ht hp =>
   obtain ⟨h1, h2, -⟩ := hs.t1 h7 t ht
   obtain ⟨h3, h4, h5, -⟩ := hs.p1 h7 p hp
   have hne : t ≠ p := fun e => h5 (by rw [ht, e])
   obtain ⟨xs, a1, a2, a3⟩ := grp (l := l) hl (n := 3) (r := t) (by omega)
   obtain ⟨os, b1, b2, b3⟩ := grp (l := l) hl (n := 2) (r := p) (by omega)
   refine ⟨xs ++ os, q19x a1 b1 (by rw [a3, b3]; simp [hne]), fun x hx => ?_, 6, ⟨t, t, t, p, p, by rw [qG, a3, b3]; rfl, by omega⟩, by rw [qG, a3, b3]; rfl⟩
   rcases qI.1 hx with hx | hx
   ·exact a2 x hx
   ·exact b2 x hx
 | v5 g h8 h7 h6 hf =>
   obtain ⟨s', rfl, h5⟩ := q1fg hf
   obtain ⟨os, a1, a2⟩ := pick (l := l) (q := fun x => st x = s') (ks := (dsc (hasS l s')).take 5) fun y hy => by
    obtain ⟨x, hx, e1, e2⟩ := q1in.1 (q1l9 hy).2
    exact ⟨x, hx, e2, e1⟩
   obtain ⟨a, b, c, d, e, he⟩ := q1f3 hkl
   exact ⟨os, q1li (by rw [a1]; exact q1qo _ _), fun x hx => (a2 x hx).1, 5, ⟨a, b, c, d, e, by rw [a1, he], by
    right; right; right; left
    exact ⟨rfl, fun x hx y hy => by rw [(a2 x hx).2, (a2 y hy).2]⟩⟩, by rw [a1]⟩
 | v4 _ hf h7 h6 h =>
   obtain ⟨a, b, c, d, e, rfl, hc, ha, he, h1, h2, h3, h4, h5⟩ := q1q4 h
   obtain ⟨os, h6, h7⟩ := pick (l := l) (q := fun x => True) (ks := [a, b, c, d, e]) fun y hy => by
    have : has l y = true := by
     simp only [qO, List.not_mem_nil, or_false] at hy
     rcases hy with rfl | rfl | rfl | rfl | rfl <;> assumption
    obtain ⟨x, hx, e2⟩ := q1io.1 this
    exact ⟨x, hx, e2, trivial⟩
   refine ⟨os, q1li (by rw [h6]; rcases hc with hc | hc <;> simp <;> omega), fun x hx => (h7 x hx).1, 4, ⟨a, b, c, d, e, h6, by right; right; right; right; left; exact ⟨rfl, hc⟩⟩, by rw [h6]⟩
 | v3 t hf h7 hp hst ht =>
   obtain ⟨f, h1, h2, h3⟩ := q1i5 (l := l) hl (n := 3) (r := t) (k := 2) (m := fun x => has l x && x != t) (by have := (hs.t1 h7 t ht).2.1; omega) (by simp)
   obtain ⟨a, b, c, d, e, he⟩ := q1f3 hkl
   have h3 : f.map rk = t :: t :: t :: (dsc fun x => has l x && x != t).take 2 := h3
   refine ⟨f, h1, h2, 3, ⟨a, b, c, d, e, by rw [h3, he], ?_⟩, by rw [h3]⟩
   simp only [List.cons.injEq] at he; omega
 | v2 p q hf h7 ht hst hp hq =>
   obtain ⟨h3, h4, h5, -⟩ := hs.p1 h7 p hp
   obtain ⟨a1, a2, a3, -⟩ := hs.q1 h7 ht p hp q hq
   obtain ⟨xs, b1, b2, b3⟩ := grp (l := l) hl (n := 2) (r := p) (by omega)
   obtain ⟨f, c1, c2, c3⟩ := q1i5 (l := l) hl (n := 2) (r := q) (k := 1) (m := fun x => has l x && x != p && x != q) a2 (fun x hx => by simp at hx; exact ⟨hx.1.1, hx.2⟩)
   obtain ⟨a, b, c, d, e, he⟩ := q1f3 hkl
   have h3 : (xs ++ f).map rk = p :: p :: q :: q :: (dsc fun x => has l x && x != p && x != q).take 1 := by rw [qG, b3, c3]; rfl
   refine ⟨xs ++ f, q19x b1 c1 ?_, fun x hx => ?_, 2, ⟨a, b, c, d, e, by rw [h3, he], ?_⟩, by rw [h3]⟩
   ·rw [b3, c3]
    intro y hy hy'
    have e := List.eq_of_mem_replicate hy
    subst e
    rcases qI.1 hy' with h | h
    ·exact a3 (List.eq_of_mem_replicate h).symm
    ·have := (q1l9 h).2; simp at this
   ·rcases qI.1 hx with hx | hx
    ·exact b2 x hx
    ·exact c2 x hx
   ·simp only [List.cons.injEq] at he; omega
 | v1 p hf h7 ht hst hp hq =>
   obtain ⟨f, h1, h2, h3⟩ := q1i5 (l := l) hl (n := 2) (r := p) (k := 3) (m := fun x => has l x && x != p) (hs.p1 h7 p hp).2.1 (by simp)
   obtain ⟨a, b, c, d, e, he⟩ := q1f3 hkl
   have h3 : f.map rk = p :: p :: (dsc fun x => has l x && x != p).take 3 := h3
   refine ⟨f, h1, h2, 1, ⟨a, b, c, d, e, by rw [h3, he], ?_⟩, by rw [h3]⟩
   simp only [List.cons.injEq] at he; omega
 | v0 hf h7 ht hst hp =>
   obtain ⟨os, a1, a2⟩ := pick (l := l) (q := fun x => True) (ks := (dsc (has l)).take 5) fun y hy => by
    obtain ⟨x, hx, e2⟩ := q1io.1 (q1l9 hy).2
    exact ⟨x, hx, e2, trivial⟩
   obtain ⟨a, b, c, d, e, he⟩ := q1f3 hkl
   exact ⟨os, q1li (by rw [a1]; exact q1qo _ _), fun x hx => (a2 x hx).1, 0, ⟨a, b, c, d, e, by rw [a1, he], by omega⟩, by rw [a1]⟩
/-! The counts, looked through from the greatest rank on. -/
def q1o7 (c : Nat -> Nat) (s : Sc) (r : Nat) : Sc :=
 if c r = 4 /\ s.four = none then { s with four := some r }
 else if 3 <= c r /\ s.three = none then { s with three := some r }
 else if 2 <= c r /\ s.two = none then { s with two := some r }
 else if 2 <= c r /\ s.second = none then { s with second := some r }
 else s
def scan (c : Nat -> Nat) : Sc := q1n4.foldl (q1o7 c) ⟨none, none, none, none⟩
structure ScB (c : Nat -> Nat) (b : Nat) (s : Sc) : Prop where
 f1 : ∀ r, s.four = some r -> b <= r /\ r < 13 /\ c r = 4 /\ ∀ r', r < r' -> r' < 13 -> c r' ≠ 4
 f0 : s.four = none -> ∀ r, b <= r -> r < 13 -> c r ≠ 4
 t1 : s.four = none -> ∀ t, s.three = some t -> b <= t /\ t < 13 /\ c t = 3 /\ ∀ r, t < r -> r < 13 -> c r ≠ 3
 t0 : s.four = none -> s.three = none -> ∀ r, b <= r -> r < 13 -> c r ≠ 3
 p1 : s.four = none -> ∀ p, s.two = some p -> b <= p /\ p < 13 /\ 2 <= c p /\ s.three ≠ some p /\ ∀ r, p < r -> r < 13 -> 2 <= c r -> s.three = some r
 p0 : s.four = none -> s.two = none -> ∀ r, b <= r -> r < 13 -> 2 <= c r -> s.three = some r
 q1 : s.four = none -> s.three = none -> ∀ p, s.two = some p -> ∀ q, s.second = some q -> b <= q /\ q < 13 /\ 2 <= c q /\ q ≠ p /\ ∀ r, q < r -> r < 13 -> 2 <= c r -> r = p
 q0 : s.four = none -> s.three = none -> ∀ p, s.two = some p -> s.second = none -> ∀ r, b <= r -> r < 13 -> 2 <= c r -> r = p
 r0 : s.four = none -> s.three = none -> s.two = none -> s.second = none
theorem q1o9 {c : Nat -> Nat} (hc : ∀ r, c r <= 4) {b : Nat} (hb : b < 13) {s : Sc} (h : ScB c (b + 1) s) : ScB c b (q1o7 c s b) := by
 obtain ⟨four, three, two, second⟩ := s
 obtain ⟨f1, f0, t1, t0, p1, p0, q1, q0, r0⟩ := h
 have hcb := hc b
 unfold q1o7
 simp only at *
 split
 ·constructor <;> simp only <;> grind
 ·split
  ·constructor <;> simp only <;> grind
  ·split
   ·constructor <;> simp only <;> grind
   ·split
    ·constructor <;> simp only <;> grind
    ·constructor <;> simp only <;> grind
theorem q1oc {c : Nat -> Nat} (hc : ∀ r, c r <= 4) : ScOK c (scan c) := by
 have h0 : ScB c 13 ⟨none, none, none, none⟩ := by constructor <;> simp <;> omega
 have h := q1o9 hc (b := 0) (by decide) (q1o9 hc (b := 1) (by decide) (q1o9 hc (b := 2) (by decide) (q1o9 hc (b := 3) (by decide) (q1o9 hc (b := 4) (by decide) (q1o9 hc (b := 5) (by decide) (q1o9 hc (b := 6) (by decide) (q1o9 hc (b := 7) (by decide) (q1o9 hc (b := 8) (by decide) (q1o9 hc (b := 9) (by decide) (q1o9 hc (b := 10) (by decide) (q1o9 hc (b := 11) (by decide) (q1o9 hc (b := 12) (by decide) h0))))))))))))
 change ScB c 0 (scan c) at h
 generalize scan c = s at h
 obtain ⟨f1, f0, t1, t0, p1, p0, q1, q0, r0⟩ := h
 refine ⟨fun r hr => ?_, fun h r hr => f0 h r (by omega) hr, fun h t ht => ?_, fun h ht r hr => t0 h ht r (by omega) hr, fun h p hp => ?_, fun h hp r hr => p0 h hp r (by omega) hr, fun h ht p hp q hq => ?_, fun h ht p hp hq r hr => q0 h ht p hp hq r (by omega) hr⟩
 ·obtain ⟨_, h1, h2, h3⟩ := f1 r hr
  exact ⟨h1, h2, fun r' h4 h5 => Nat.le_of_not_lt fun h6 => h3 r' h6 h4 h5⟩
 ·obtain ⟨_, h1, h2, h3⟩ := t1 h t ht
  exact ⟨h1, h2, fun r' h4 h5 => Nat.le_of_not_lt fun h6 => h3 r' h6 h4 h5⟩
 ·obtain ⟨_, h1, h2, h3, h4⟩ := p1 h p hp
  exact ⟨h1, h2, h3, fun r' h5 h6 h7 => Nat.le_of_not_lt fun h8 => h7 (h4 r' h8 h5 h6)⟩
 ·obtain ⟨_, h1, h2, h3, h4⟩ := q1 h ht p hp q hq
  exact ⟨h1, h2, h3, fun r' h5 h6 h7 => Nat.le_of_not_lt fun h8 => h7 (h4 r' h8 h5 h6)⟩
def valI (l : List Int) : Nat := valR (has l) (q1fe l) (scan (cnt l))
theorem q1rg {l : List Int} (hl : q1cv l) (hlen : 5 <= l.length) : Wit l (valI l) := q1ri hl hlen (q1oc (q1dt hl))
theorem q1re {l : List Int} (hl : q1cv l) (hlen : 5 <= l.length /\ l.length <= 9) {v : Nat} (hw : Wit l v) : v <= valI l := q1rp hl hlen (q1oc (q1dt hl)) hw
/-! The reference's value of five cards. -/
def strS (c : Nat -> Nat) : Option Nat :=
 match [12, 11, 10, 9, 8, 7, 6, 5, 4].find? (run5 fun r => c r == 1) with
 | some t => some t
 | none => if q1rn fun r => c r == 1 then some 3 else none
def grpS (c : Nat -> Nat) (n : Nat) : List Nat := dsc fun r => c r == n
def q1k9 (c : Nat -> Nat) : List Nat :=
 if strS c = some 3 then [3, 2, 1, 0, 12] else (grpS c 4).flatMap (List.replicate 4) ++ ((grpS c 3).flatMap (List.replicate 3) ++ ((grpS c 2).flatMap (List.replicate 2) ++ grpS c 1))
def catS (c : Nat -> Nat) (fl : Bool) : Nat :=
 if (strS c).isSome && fl then 8 else if (grpS c 4).length = 1 then 7 else if (grpS c 3).length = 1 /\ (grpS c 2).length = 1 then 6 else if fl then 5 else if (strS c).isSome then 4
 else if (grpS c 3).length = 1 then 3 else if (grpS c 2).length = 2 then 2 else if (grpS c 2).length = 1 then 1 else 0
def valS (c : Nat -> Nat) (fl : Bool) : Nat := 371293 * catS c fl + kick 0 (q1k9 c)
theorem q1kc (a b : Nat) : ∀ ks : List Nat, kick (a + b) ks = 13 ^ ks.length * a + kick b ks := by
 intro ks
 induction ks generalizing a b with
 | nil => simp [kick]
 | cons k ks ih =>
   rw [q1kf, q1kf, show (a + b) * 13 + k = 13 * a + (b * 13 + k) by omega, ih, List.length_cons, Nat.pow_succ, Nat.mul_assoc]
theorem q1ke {k : Nat} {ks : List Nat} (h : ks.length = 5) : kick k ks = 371293 * k + kick 0 ks := by
 have := q1kc k 0 ks
 rw [h] at this
 exact this
theorem q1ee : ∀ {xs ys : List Nat}, xs.Pairwise (· > ·) -> ys.Pairwise (· > ·) -> (∀ x ∈ xs, x ∈ ys) -> ys.length <= xs.length -> xs = ys := by
 intro xs
 induction xs with
 | nil => intro ys _ _ _ h; exact (rX (by simpa using h)).symm
 | cons x xs ih =>
   intro ys hx hy hs hl
   cases ys with
   | nil => have := hs x (by simp); simp at this
   | cons y ys =>
     rw [List.pairwise_cons] at hx hy
     have hxn : (x :: xs).Nodup := qX.2 ⟨fun h => by have := hx.1 x h; omega, hx.2.imp fun h => by omega⟩
     by_cases e : x = y
     ·subst e
      rw [ih hx.2 hy.2 (fun z hz => ?_) (by simpa using hl)]
      have := hx.1 z hz
      rcases qO.1 (hs z (by simp [hz])) with h | h
      ·omega
      ·exact h
     ·exfalso
      have hxy : x ∈ ys := (qO.1 (hs x (by simp))).resolve_left e
      have h1 := hy.1 x hxy
      have := q1lg (ys := ys) hxn fun z hz => by
       refine (qO.1 (hs z hz)).resolve_left ?_
       rcases qO.1 hz with h | h
       ·omega
       ·have := hx.1 z h; omega
      simp only [List.length_cons] at hl this
      omega
theorem q1ef {xs ys : List Nat} (hx : xs.Pairwise (· > ·)) (hy : ys.Pairwise (· > ·)) (h : ∀ z, z ∈ xs ↔ z ∈ ys) : xs = ys :=
 q1ee hx hy (fun z hz => (h z).1 hz) (q1lg (hy.imp fun h => by omega) fun z hz => (h z).2 hz)
theorem q1qa {l : List Int} : ∀ {rs : List Nat}, rs.Nodup -> (rs.map (cnt l)).sum <= l.length := by
 have key : ∀ rs : List Nat, rs.Nodup -> (rs.map (cnt l)).sum <= l.countP fun x => decide (rk x ∈ rs) := by
  intro rs
  induction rs with
  | nil => simp
  | cons r rs ih =>
    intro hn
    rw [qX] at hn
    rw [List.map_cons, rZ]
    have h1 := ih hn.2
    have h2 : ∀ l : List Int, cnt l r + l.countP (fun x => decide (rk x ∈ rs)) <= l.countP fun x => decide (rk x ∈ r :: rs) := by
     intro l
     induction l with
     | nil => simp [cnt]
     | cons x l ihl =>
       simp only [cnt, List.countP_cons] at ihl ⊢
       by_cases e : rk x = r
       ·have : rk x ∉ rs := e ▸ hn.1
        simp [e, hn.1] at *; omega
       ·by_cases e' : rk x ∈ rs
        ·simp [e, e'] at *; omega
        ·simp [e, e'] at *; omega
    have := h2 l
    omega
 intro rs hn
 exact rA (key rs hn) List.countP_le_length
theorem q1dv {l : List Int} {r : Nat} : has l r = true ↔ 1 <= cnt l r := by
 rw [q1io, cnt, show 1 <= List.countP (fun x => rk x == r) l ↔ 0 < List.countP (fun x => rk x == r) l from Iff.rfl, List.countP_pos_iff]
 simp
theorem q1q9 {c : Nat -> Nat} : ∀ {rs : List Nat}, (∀ r ∈ rs, 1 <= c r) -> rs.length <= (rs.map c).sum := by
 intro rs
 induction rs with
 | nil => simp
 | cons r rs ih =>
   intro h
   have := ih fun x hx => h x (by simp [hx])
   have := h r (by simp)
   simp only [List.length_cons, List.map_cons, rZ]; omega
theorem q1nl {l : List Int} {xs : List Nat} {m : Nat -> Bool} (hx : xs.Nodup) (hm : ∀ x, m x = true -> has l x = true /\ x ∉ xs) : (xs.map (cnt l)).sum + (dsc m).length <= l.length := by
 have := q1qa (l := l) (rs := xs ++ dsc m) (rC.2 ⟨hx, q1ei m, fun x h1 y h2 e => (hm y (q1eh.1 h2).2).2 (e ▸ h1)⟩)
 rw [qG, List.sum_append] at this
 have := q1q9 (c := cnt l) (rs := dsc m) fun r hr => q1dv.1 (hm r (q1eh.1 hr).2).1
 omega
theorem q1i4 {c : Nat -> Nat} {n r : Nat} (hr : r < 13) (h : ∀ x, x < 13 -> (c x = n ↔ x = r)) : grpS c n = [r] := by
 refine q1ef (q1ej _) (by simp) fun z => ?_
 rw [grpS, q1eh, List.mem_singleton, beq_iff_eq]
 exact ⟨fun hz => (h z hz.1).1 hz.2, fun e => ⟨e ▸ hr, (h z (e ▸ hr)).2 e⟩⟩
theorem q1i3 {c : Nat -> Nat} {n : Nat} (h : ∀ x, x < 13 -> c x ≠ n) : grpS c n = [] := by
 refine List.eq_nil_iff_forall_not_mem.2 fun z hz => ?_
 rw [grpS, q1eh, beq_iff_eq] at hz
 exact h z hz.1 hz.2
theorem q1i2 {c : Nat -> Nat} {m : Nat -> Bool} (h : ∀ x, x < 13 -> (c x = 1 ↔ m x = true)) : grpS c 1 = dsc m := by
 refine q1ef (q1ej _) (q1ej _) fun z => ?_
 rw [grpS, q1eh, q1eh, beq_iff_eq]
 exact ⟨fun hz => ⟨hz.1, (h z hz.1).1 hz.2⟩, fun hz => ⟨hz.1, (h z hz.1).2 hz.2⟩⟩
theorem q1qn {l : List Nat} {n : Nat} (h : l.length <= n) : l.take n = l := qQ h
theorem q1lf {l : List Int} (h5 : l.length = 5) {r : Nat} (hr : 2 <= cnt l r) : strS (cnt l) = none /\ strT (has l) = none := by
 have key : ∀ {a b c d e : Nat}, Con a b c d e -> (1 <= cnt l a /\ 1 <= cnt l b /\ 1 <= cnt l c /\ 1 <= cnt l d /\ 1 <= cnt l e) -> False := by
  intro a b c d e hc h
  have hn : [a, b, c, d, e].Nodup := by rcases hc with hc | hc <;> simp <;> omega
  by_cases hm : r ∈ [a, b, c, d, e]
  ·have := q1qa (l := l) hn
   simp only [List.map_cons, List.map_nil, rZ, List.sum_nil] at this
   simp only [qO, List.not_mem_nil, or_false] at hm
   rcases hm with rfl | rfl | rfl | rfl | rfl <;> omega
  ·have := q1qa (l := l) (qX.2 ⟨hm, hn⟩)
   simp only [List.map_cons, List.map_nil, rZ, List.sum_nil] at this
   omega
 constructor
 ·unfold strS
  split
  ·rename_i t ht
   have hp := List.find?_some ht
   have hm := List.mem_of_find?_eq_some ht
   simp only [run5, qM, beq_iff_eq] at hp
   exfalso
   refine key (a := t) (b := t - 1) (c := t - 2) (d := t - 3) (e := t - 4) (.inl ?_) (by omega)
   simp only [qO, List.not_mem_nil, or_false] at hm; omega
  ·split
   ·rename_i hw
    simp only [q1rn, qM, beq_iff_eq] at hw
    exfalso
    exact key (a := 3) (b := 2) (c := 1) (d := 0) (e := 12) (.inr (by omega)) (by omega)
   ·rfl
 ·cases h : strT (has l) with
  | none => rfl
  | some ks =>
    obtain ⟨a, b, c, d, e, rfl, hc, _, _, h1, h2, h3, h4, h5⟩ := q1q4 h
    rw [q1dv] at h1 h2 h3 h4 h5
    exact (key hc ⟨h1, h2, h3, h4, h5⟩).elim
theorem q1ff {l : List Int} (hl : q1cv l) (h5 : l.length = 5) {r : Nat} (hr : 2 <= cnt l r) : q1fe l = none := by
 cases h : q1fe l with
 | none => rfl
 | some g =>
   obtain ⟨s, rfl, hs⟩ := q1fg h
   have h6 := q1fi hl hs
   have h7 := q1qa (l := l) (q1ei (hasS l s))
   have h8 : ∀ x ∈ dsc (hasS l s), 1 <= cnt l x := fun x hx => by
    obtain ⟨y, hy, _, e⟩ := q1in.1 (q1eh.1 hx).2
    exact q1dv.1 (q1io.2 ⟨y, hy, e⟩)
   have h9 := q1q9 h8
   have hrn : r ∉ dsc (hasS l s) := fun hm => by
    obtain ⟨xs, ys, e⟩ := List.append_of_mem hm
    have := q1q9 (c := cnt l) (rs := xs) fun x hx => h8 x (by rw [e]; simp [hx])
    have := q1q9 (c := cnt l) (rs := ys) fun x hx => h8 x (by rw [e]; simp [hx])
    rw [e] at h6 h7
    simp only [qD, List.length_cons, qG, List.map_cons, List.sum_append, rZ] at *
    omega
   have := q1qa (l := l) (qX.2 ⟨hrn, q1ei (hasS l s)⟩)
   simp only [List.map_cons, rZ] at this
   omega
theorem q1f4 {l : List Int} (hl : q1cv l) (h5 : l.length = 5) {r0 : Nat} (hr : 2 <= cnt l r0) (hr0 : r0 < 13) : valS (cnt l) false = valI l /\ q1fe l = none := by
 obtain ⟨s1, s2⟩ := q1lf h5 hr
 have hf := q1ff hl h5 hr
 refine ⟨?_, hf⟩
 have hs := q1oc (q1dt hl)
 obtain ⟨k, ks, hv, hview⟩ := view l (scan (cnt l))
 have hkl := q1rl hl (by omega) hs hview
 rw [valI, hv, q1ke hkl, valS]
 have two : ∀ {x y : Nat}, x ≠ y -> cnt l x + cnt l y <= 5 := fun {x y} h => by
  have := q1qa (l := l) (rs := [x, y]) (by simp [h])
  simp at this; omega
 have three : ∀ {x y z : Nat}, x ≠ y -> x ≠ z -> y ≠ z -> cnt l x + cnt l y + cnt l z <= 5 := fun {x y z} h h' h'' => by
  have := q1qa (l := l) (rs := [x, y, z]) (by simp [h, h', h''])
  simp at this; omega
 have hns : strS (cnt l) ≠ some 3 := by rw [s1]; simp
 rw [catS, q1k9, if_neg hns, s1]
 simp only [Option.isSome_none, Bool.false_and, Bool.false_eq_true, if_false]
 cases hview with
 | v8 g _ h => rw [hf] at h; cases h
 | v5 g _ _ _ h => rw [hf] at h; cases h
 | v4 _ _ _ _ h => rw [s2] at h; cases h
 | v7 r h8 h7 =>
   obtain ⟨h1, h2, _⟩ := hs.f1 r h7
   have hx : ∀ x, x ≠ r -> cnt l x <= 1 := fun x hx => by have := two hx; omega
   have key : ∀ x, x = r /\ cnt l x = 4 ∨ x ≠ r /\ cnt l x <= 1 := fun x => by
    by_cases e : x = r
    ·exact .inl ⟨e, e ▸ h2⟩
    ·exact .inr ⟨e, hx x e⟩
   have g4 : grpS (cnt l) 4 = [r] := q1i4 h1 fun x _ => ⟨fun e => rG fun hx' => by have := hx x hx'; omega, fun e => e ▸ h2⟩
   have g3 : grpS (cnt l) 3 = [] := q1i3 fun x _ e => by have := key x; omega
   have g2 : grpS (cnt l) 2 = [] := q1i3 fun x _ e => by have := key x; omega
   have g1 : grpS (cnt l) 1 = dsc fun x => has l x && x != r := q1i2 fun x _ => by
    rw [qM, bne_iff_ne, q1dv]
    exact ⟨fun e => ⟨by omega, fun e' => by subst e'; omega⟩, fun e => by have := hx x e.2; omega⟩
   have hlen := q1nl (l := l) (xs := [r]) (m := fun x => has l x && x != r) (by simp) (by simp)
   simp only [List.map_cons, List.map_nil, rZ, List.sum_nil] at hlen
   rw [g4, g3, g2, g1, q1qn (by omega)]; rfl
 | v6 t p h8 h7 ht hp =>
   obtain ⟨h1, h2, -⟩ := hs.t1 h7 t ht
   obtain ⟨h3, h4, h6, -⟩ := hs.p1 h7 p hp
   have hne : t ≠ p := fun e => h6 (by rw [ht, e])
   have h9 := two hne
   have hx : ∀ x, x ≠ t -> x ≠ p -> cnt l x = 0 := fun x hx hx' => by have := three hne (fun e => hx e.symm) (fun e => hx' e.symm); omega
   have key : ∀ x, cnt l x = 3 /\ x = t ∨ cnt l x = 2 /\ x = p ∨ cnt l x = 0 /\ x ≠ t /\ x ≠ p := fun x => by
    by_cases e : x = t
    ·subst e; omega
    ·by_cases e' : x = p
     ·subst e'; omega
     ·exact .inr (.inr ⟨hx x e e', e, e'⟩)
   have g4 : grpS (cnt l) 4 = [] := q1i3 fun x _ e => by have := key x; omega
   have g3 : grpS (cnt l) 3 = [t] := q1i4 h1 fun x _ => by have := key x; omega
   have g2 : grpS (cnt l) 2 = [p] := q1i4 h3 fun x _ => by have := key x; omega
   have g1 : grpS (cnt l) 1 = [] := q1i3 fun x _ e => by have := key x; omega
   rw [g4, g3, g2, g1]; rfl
 | v3 t hf' h7 hp hst ht =>
   obtain ⟨h1, h2, -⟩ := hs.t1 h7 t ht
   have hx : ∀ x, x < 13 -> x ≠ t -> cnt l x <= 1 := fun x hx13 hx => rG fun hc => by
    have := hs.p0 h7 hp x hx13 (by omega)
    rw [ht] at this
    exact hx (Option.some.inj this).symm
   have key : ∀ x, x < 13 -> x = t /\ cnt l x = 3 ∨ x ≠ t /\ cnt l x <= 1 := fun x h => by
    by_cases e : x = t
    ·exact .inl ⟨e, e ▸ h2⟩
    ·exact .inr ⟨e, hx x h e⟩
   have g4 : grpS (cnt l) 4 = [] := q1i3 fun x h e => by have := key x h; omega
   have g3 : grpS (cnt l) 3 = [t] := q1i4 h1 fun x h => ⟨fun e => rG fun hx' => by have := hx x h hx'; omega, fun e => e ▸ h2⟩
   have g2 : grpS (cnt l) 2 = [] := q1i3 fun x h e => by have := key x h; omega
   have g1 : grpS (cnt l) 1 = dsc fun x => has l x && x != t := q1i2 fun x h => by
    rw [qM, bne_iff_ne, q1dv]
    exact ⟨fun e => ⟨by omega, fun e' => by subst e'; omega⟩, fun e => by have := hx x h e.2; omega⟩
   have hlen := q1nl (l := l) (xs := [t]) (m := fun x => has l x && x != t) (by simp) (by simp)
   simp only [List.map_cons, List.map_nil, rZ, List.sum_nil] at hlen
   rw [g4, g3, g2, g1, q1qn (by omega)]; rfl
 | v2 p q hf' h7 ht hst hp hq =>
   obtain ⟨h1, h2, -, h3⟩ := hs.p1 h7 p hp
   obtain ⟨h4, h6, h8, -⟩ := hs.q1 h7 ht p hp q hq
   have hqp := h3 q h4 h6 (by rw [ht]; simp)
   have e1 := q1dx hl hs h7 ht h1
   have e2 := q1dx hl hs h7 ht h4
   have hx : ∀ x, x ≠ p -> x ≠ q -> cnt l x <= 1 := fun x hx hx' => by have := three hx hx' (fun e => h8 e.symm); omega
   have key : ∀ x, cnt l x = 2 /\ x = p ∨ cnt l x = 2 /\ x = q ∨ cnt l x <= 1 /\ x ≠ p /\ x ≠ q := fun x => by
    by_cases e : x = p
    ·subst e; omega
    ·by_cases e' : x = q
     ·subst e'; omega
     ·exact .inr (.inr ⟨hx x e e', e, e'⟩)
   have g4 : grpS (cnt l) 4 = [] := q1i3 fun x _ e => by have := key x; omega
   have g3 : grpS (cnt l) 3 = [] := q1i3 fun x _ e => by have := key x; omega
   have g2 : grpS (cnt l) 2 = [p, q] := q1ef (q1ej _) (by simp; omega) fun z => by
    rw [grpS, q1eh, beq_iff_eq]
    simp only [qO, List.not_mem_nil, or_false]
    have := key z; omega
   have g1 : grpS (cnt l) 1 = dsc fun x => has l x && x != p && x != q := q1i2 fun x h => by
    rw [qM, qM, bne_iff_ne, bne_iff_ne, q1dv]
    have := key x; omega
   have hlen := q1nl (l := l) (xs := [p, q]) (m := fun x => has l x && x != p && x != q) (by simp; omega) (by simp; intro x a b c; exact ⟨a, b, c⟩)
   simp only [List.map_cons, List.map_nil, rZ, List.sum_nil] at hlen
   rw [g4, g3, g2, g1, q1qn (by omega)]; rfl
 | v1 p hf' h7 ht hst hp hq =>
   obtain ⟨h1, h2, -, h3⟩ := hs.p1 h7 p hp
   have e1 := q1dx hl hs h7 ht h1
   have hx : ∀ x, x < 13 -> x ≠ p -> cnt l x <= 1 := fun x h hx => rG fun hc => hx (hs.q0 h7 ht p hp hq x h (by omega))
   have key : ∀ x, x < 13 -> x = p /\ cnt l x = 2 ∨ x ≠ p /\ cnt l x <= 1 := fun x h => by
    by_cases e : x = p
    ·exact .inl ⟨e, by subst e; omega⟩
    ·exact .inr ⟨e, hx x h e⟩
   have g4 : grpS (cnt l) 4 = [] := q1i3 fun x h e => by have := key x h; omega
   have g3 : grpS (cnt l) 3 = [] := q1i3 fun x h e => by have := key x h; omega
   have g2 : grpS (cnt l) 2 = [p] := q1i4 h1 fun x h => ⟨fun e => rG fun hx' => by have := hx x h hx'; omega, fun e => by subst e; omega⟩
   have g1 : grpS (cnt l) 1 = dsc fun x => has l x && x != p := q1i2 fun x h => by
    rw [qM, bne_iff_ne, q1dv]
    exact ⟨fun e => ⟨by omega, fun e' => by subst e'; omega⟩, fun e => by have := hx x h e.2; omega⟩
   have hlen := q1nl (l := l) (xs := [p]) (m := fun x => has l x && x != p) (by simp) (by simp)
   simp only [List.map_cons, List.map_nil, rZ, List.sum_nil] at hlen
   rw [g4, g3, g2, g1, q1qn (by omega)]; rfl
 | v0 hf' h7 ht hst hp =>
   have := hs.p0 h7 hp r0 hr0 hr
   rw [ht] at this; cases this
theorem q1f2 {l : List Int} (hl : q1cv l) (h5 : l.length = 5) (hone : ∀ r, r < 13 -> cnt l r <= 1) : valS (cnt l) (q1fe l).isSome = valI l := by
 have hs := q1oc (q1dt hl)
 obtain ⟨k, ks, hv, hview⟩ := view l (scan (cnt l))
 have hkl := q1rl hl (by omega) hs hview
 have g4 : grpS (cnt l) 4 = [] := q1i3 fun x h e => by have := hone x h; omega
 have g3 : grpS (cnt l) 3 = [] := q1i3 fun x h e => by have := hone x h; omega
 have g2 : grpS (cnt l) 2 = [] := q1i3 fun x h e => by have := hone x h; omega
 have g1 : grpS (cnt l) 1 = dsc (has l) := q1i2 fun x h => by rw [q1dv]; have := hone x h; omega
 have hlen := q1nl (l := l) (xs := []) (m := has l) (by simp) (by simp)
 simp only [List.map_nil, List.sum_nil] at hlen
 have heq : ∀ x, x < 13 -> (cnt l x == 1) = has l x := fun x h => by
  have := hone x h
  cases hh : has l x with
  | true => rw [q1dv] at hh; rw [beq_iff_eq]; omega
  | false =>
    rw [beq_eq_false_iff_ne]; intro e
    have : has l x = true := q1dv.2 (by omega)
    rw [hh] at this; cases this
 have hrun : ∀ t ∈ [12, 11, 10, 9, 8, 7, 6, 5, 4], run5 (fun r => cnt l r == 1) t = run5 (has l) t := fun t ht => by
  have : t < 13 := by simp only [qO, List.not_mem_nil, or_false] at ht; omega
  simp only [run5, heq t this, heq (t - 1) (by omega), heq (t - 2) (by omega), heq (t - 3) (by omega), heq (t - 4) (by omega)]
 have hwh : q1rn (fun r => cnt l r == 1) = q1rn (has l) := by
  simp only [q1rn, heq 0 (by omega), heq 1 (by omega), heq 2 (by omega), heq 3 (by omega), heq 12 (by omega)]
 have hfind : [12, 11, 10, 9, 8, 7, 6, 5, 4].find? (run5 fun r => cnt l r == 1) = [12, 11, 10, 9, 8, 7, 6, 5, 4].find? (run5 (has l)) := by
  have key : ∀ L : List Nat, (∀ t ∈ L, run5 (fun r => cnt l r == 1) t = run5 (has l) t) -> L.find? (run5 fun r => cnt l r == 1) = L.find? (run5 (has l)) := by
   intro L
   induction L with
   | nil => intro _; rfl
   | cons a L ih => intro h; rw [List.find?_cons, List.find?_cons, h a (by simp), ih fun t ht => h t (by simp [ht])]
  exact key _ hrun
 -- the kickers
 have hkick : ∀ ks', strT (has l) = some ks' -> q1k9 (cnt l) = ks' /\ (strS (cnt l)).isSome = true := by
  intro ks' h
  rw [q1k9, strS, hfind, hwh]
  unfold strT at h
  split at h
  ·rename_i t ht
   have hm := List.mem_of_find?_eq_some ht
   have hp := List.find?_some ht
   have ht4 : 4 <= t /\ t < 13 := by simp only [qO, List.not_mem_nil, or_false] at hm; omega
   simp only [run5, qM] at hp
   rw [if_neg (by simp; omega), g4, g3, g2, g1]
   simp only [Option.some.injEq] at h
   refine ⟨?_, rfl⟩
   subst h
   refine (q1ee (by simp; omega) (q1ej _) (fun x hx => q1eh.2 ?_) (by simp; omega)).symm
   simp only [qO, List.not_mem_nil, or_false] at hx
   rcases hx with rfl | rfl | rfl | rfl | rfl <;> exact ⟨by omega, by simp [hp]⟩
  ·split at h
   ·rename_i hw
    simp only [Option.some.injEq] at h
    simp only [hw, if_true, Option.isSome_some, and_true]
    exact h
   ·cases h
 have hnone : strT (has l) = none -> strS (cnt l) = none := by
  intro h
  rw [strS, hfind, hwh]
  unfold strT at h
  split at h
  ·cases h
  ·split at h
   ·cases h
   ·rename_i hw
    simp [hw]
 rw [valI, hv, q1ke hkl, valS, catS, g4, g3, g2]
 have hgl : ∀ g, q1fe l = some g -> ∀ x, g x = has l x := fun g hg x => by
  obtain ⟨s, rfl, h6⟩ := q1fg hg
  have hall : ∀ y ∈ l, st y = s := fun y hy => by
   have : l.countP (fun x => st x == s) = l.length := by have := List.countP_le_length (l := l) (p := fun x => st x == s); unfold num at h6; omega
   have := List.countP_eq_length.1 this y hy
   simpa using this
  cases hh : has l x with
  | true => obtain ⟨y, hy, e⟩ := q1io.1 hh; exact q1in.2 ⟨y, hy, hall y hy, e⟩
  | false =>
    cases hb : hasS l s x with
    | false => rfl
    | true => obtain ⟨y, hy, _, e⟩ := q1in.1 hb; have := q1io.2 ⟨y, hy, e⟩; rw [hh] at this; cases this
 have hgl : ∀ g, q1fe l = some g -> g = has l := fun g hg => funext (hgl g hg)
 have nine : ∀ {r}, r < 13 -> cnt l r = 4 -> False := fun h h' => by have := hone _ h; omega
 cases hview with
 | v8 g _ hf h =>
   obtain rfl := hgl g hf
   obtain ⟨a, b⟩ := hkick _ h
   rw [a, b, hf]; rfl
 | v7 r h8 h7 => exact (nine (hs.f1 r h7).1 (hs.f1 r h7).2.1).elim
 | v6 t p h8 h7 ht hp => obtain ⟨h1, h2, -⟩ := hs.t1 h7 t ht; have := hone t h1; omega
 | v5 g h8 h7 h6 hf =>
   obtain rfl := hgl g hf
   rw [hf] at h8
   have h8 : strT (has l) = none := h8
   rw [q1k9, hnone h8, hf, g4, g3, g2, g1, q1qn (by omega)]; rfl
 | v4 _ hf h7 h6 h =>
   obtain ⟨a, b⟩ := hkick _ h
   rw [a, b, hf]; rfl
 | v3 t hf' h7 hp hst ht => obtain ⟨h1, h2, -⟩ := hs.t1 h7 t ht; have := hone t h1; omega
 | v2 p q hf' h7 ht hst hp hq => obtain ⟨h1, h2, -⟩ := hs.p1 h7 p hp; have := hone p h1; omega
 | v1 p hf' h7 ht hst hp hq => obtain ⟨h1, h2, -⟩ := hs.p1 h7 p hp; have := hone p h1; omega
 | v0 hf h7 ht hst hp =>
   rw [q1k9, hnone hst, hf, g4, g3, g2, g1, q1qn (by omega)]; rfl
theorem q1rh {l : List Int} (hl : q1cv l) (h5 : l.length = 5) : valS (cnt l) (q1fe l).isSome = valI l := by
 by_cases h : ∃ r, r < 13 /\ 2 <= cnt l r
 ·obtain ⟨r, h1, h2⟩ := h
  obtain ⟨a, b⟩ := q1f4 hl h5 h2 h1
  rw [b]; exact a
 ·exact q1f2 hl h5 fun r hr => rG fun hc => h ⟨r, hr, by omega⟩
theorem q1fh {l : List Int} (h5 : l.length = 5) {x : Int} (hx : x ∈ l) : (q1fe l).isSome = decide (num l (st x) = 5) := by
 have hle : ∀ s, num l s <= 5 := fun s => by rw [← h5]; exact List.countP_le_length
 cases hf : q1fe l with
 | none =>
   symm
   rw [Option.isSome_none, decide_eq_false_iff_not]
   intro e
   unfold q1fe at hf
   rw [Option.map_eq_none_iff, List.find?_eq_none] at hf
   have := hf (st x) (by have := q1pz x; simp only [qO, List.not_mem_nil, or_false]; omega)
   simp at this; omega
 | some g =>
   obtain ⟨s, _, h6⟩ := q1fg hf
   symm
   rw [Option.isSome_some, decide_eq_true_eq]
   have : l.countP (fun x => st x == s) = l.length := by have := List.countP_le_length (l := l) (p := fun x => st x == s); unfold num at h6; omega
   have h7 := List.countP_eq_length.1 this x hx
   have h7 : st x = s := by simpa using h7
   rw [h7, num, this, h5]
end Go.Ab

/- Five cards and choices of cards, plain. -/
namespace Go.Ab
/-! Ace-to-five values. -/
def lk (c : Int) : Nat := ((c / 4 + 1) % 13).toNat
theorem q1kr (c : Int) : lk c < 13 := by unfold lk; omega
def cntL (l : List Int) (r : Nat) : Nat := l.countP fun x => lk x == r
theorem q1qb {l : List Int} : ∀ {rs : List Nat}, rs.Nodup -> (rs.map (cntL l)).sum <= l.length := by
 have key : ∀ rs : List Nat, rs.Nodup -> (rs.map (cntL l)).sum <= l.countP fun x => decide (lk x ∈ rs) := by
  intro rs
  induction rs with
  | nil => simp
  | cons r rs ih =>
    intro hn
    rw [qX] at hn
    rw [List.map_cons, rZ]
    have h1 := ih hn.2
    have h2 : ∀ l : List Int, cntL l r + l.countP (fun x => decide (lk x ∈ rs)) <= l.countP fun x => decide (lk x ∈ r :: rs) := by
     intro l
     induction l with
     | nil => simp [cntL]
     | cons x l ihl =>
       simp only [cntL, List.countP_cons] at ihl ⊢
       by_cases e : lk x = r
       ·have : lk x ∉ rs := e ▸ hn.1
        simp [e, hn.1] at *; omega
       ·by_cases e' : lk x ∈ rs
        ·simp [e, e'] at *; omega
        ·simp [e, e'] at *; omega
    have := h2 l
    omega
 intro rs hn
 exact rA (key rs hn) List.countP_le_length
def ordS (c : Nat -> Nat) : List Nat := (grpS c 4).flatMap (List.replicate 4) ++ ((grpS c 3).flatMap (List.replicate 3) ++ ((grpS c 2).flatMap (List.replicate 2) ++ grpS c 1))
def patS (c : Nat -> Nat) : Nat := if (grpS c 4).length = 1 then 5 else if (grpS c 3).length = 1 /\ (grpS c 2).length = 1 then 4 else if (grpS c 3).length = 1 then 3 else (grpS c 2).length
def patI (c : Nat -> Nat) : Nat := if (grpS c 4).length ≠ 0 then 5 else if (grpS c 3).length ≠ 0 then 3 + (grpS c 2).length else (grpS c 2).length
theorem q1ms {l : List Int} (h5 : l.length = 5) : patI (cntL l) = patS (cntL l) := by
 have hs : ∀ n, ∀ x ∈ grpS (cntL l) n, cntL l x = n := fun n x hx => by rw [grpS, q1eh] at hx; simpa using hx.2
 have hsum : ∀ n, ∀ rs : List Nat, (∀ x ∈ rs, cntL l x = n) -> (rs.map (cntL l)).sum = n * rs.length := by
  intro n rs
  induction rs with
  | nil => simp
  | cons x rs ih =>
    intro h
    rw [List.map_cons, rZ, ih fun y hy => h y (by simp [hy]), h x (by simp), List.length_cons, Nat.mul_succ]; omega
 have h4 := q1qb (l := l) (q1ei fun r => cntL l r == 4)
 have h4 : 4 * (grpS (cntL l) 4).length <= 5 := by
  rw [← hsum 4 _ (hs 4), ← h5]; exact h4
 have hd : (grpS (cntL l) 3 ++ grpS (cntL l) 2).Nodup := rC.2 ⟨q1ei _, q1ei _, fun x h1 y h2 e => by
  have := hs 3 x h1; have := hs 2 y h2; subst e; omega⟩
 have h32 := q1qb (l := l) hd
 rw [qG, List.sum_append, hsum 3 _ (hs 3), hsum 2 _ (hs 2), h5] at h32
 unfold patI patS
 repeat' split
 all_goals omega
def aceV (l : List Int) : Nat := 371293 * patS (cntL l) + kick 0 (ordS (cntL l))
/-! Choices of cards. -/
def choL : List Int -> Nat -> List (List Int)
 | _, 0 => [[]]
 | [], _ + 1 => []
 | x :: l, k + 1 => (choL l k).map (x :: ·) ++ choL l (k + 1)
theorem q1dd : ∀ {l : List Int} {k : Nat} {s : List Int}, s ∈ choL l k ↔ s.Sublist l /\ s.length = k
 | l, 0, s => by
   rw [choL, List.mem_singleton]
   exact ⟨fun e => by subst e; exact ⟨List.nil_sublist _, rfl⟩, fun h => rX h.2⟩
 | [], k + 1, s => by
   rw [choL]
   refine ⟨fun h => by simp at h, fun h => ?_⟩
   have := List.sublist_nil.1 h.1
   rw [this] at h; simp at h
 | x :: l, k + 1, s => by
   rw [choL, qI, qN, q1dd (l := l) (k := k + 1)]
   constructor
   ·rintro (⟨t, ht, rfl⟩ | h)
    ·obtain ⟨h1, h2⟩ := q1dd.1 ht
     exact ⟨h1.cons_cons x, by simp [h2]⟩
    ·exact ⟨h.1.cons x, h.2⟩
   ·rintro ⟨h1, h2⟩
    cases h1 with
    | cons _ h1 => exact .inr ⟨h1, h2⟩
    | cons_cons _ h1 => exact .inl ⟨_, q1dd.2 ⟨h1, by simpa using h2⟩, rfl⟩
theorem q1de {l : List Int} {k : Nat} (h : l.length < k) : choL l k = [] := by
 refine List.eq_nil_iff_forall_not_mem.2 fun s hs => ?_
 obtain ⟨h1, h2⟩ := q1dd.1 hs
 have := h1.length_le
 omega
theorem q1dc : ∀ (l : List Int) (k : Nat), (choL l k).length <= 2 ^ l.length
 | l, 0 => by rw [choL]; exact Nat.one_le_two_pow
 | [], k + 1 => by simp [choL]
 | x :: l, k + 1 => by
   rw [choL, qD, qJ, List.length_cons, Nat.pow_succ]
   have := q1dc l k
   have := q1dc l (k + 1)
   omega
theorem q1df : ∀ (l : List Int) (k : Nat), (choL l k).length <= (l.length + 1) ^ k
 | l, 0 => by simp [choL]
 | [], k + 1 => by simp [choL]
 | x :: l, k + 1 => by
   rw [choL, qD, qJ, List.length_cons, Nat.pow_succ]
   have h1 := q1df l k
   have h2 := q1df l (k + 1)
   rw [Nat.pow_succ] at h2
   have h3 : (l.length + 1) ^ k <= (l.length + 1 + 1) ^ k := Nat.pow_le_pow_left (by omega) k
   have h4 := Nat.mul_le_mul_right (l.length + 1) h3
   rw [Nat.mul_add (((l.length + 1 + 1)) ^ k) (l.length + 1) 1]
   omega
def q1if (lo hi : Nat) (hole board : List Int) : List (List Int) := (List.range (hi + 1 - lo)).flatMap fun i => (choL hole (lo + i)).flatMap fun a => (choL board (5 - (lo + i))).map (a ++ ·)
theorem q1ig {lo hi : Nat} {hole board : List Int} {h : List Int} : h ∈ q1if lo hi hole board ↔ ∃ n a b, lo <= n /\ n <= hi /\ a.Sublist hole /\ a.length = n /\ b.Sublist board /\ b.length = 5 - n /\ h = a ++ b := by
 unfold q1if
 simp only [List.mem_flatMap, List.mem_range, qN, q1dd]
 constructor
 ·rintro ⟨i, hi', a, ⟨h1, h2⟩, b, ⟨h3, h4⟩, rfl⟩
  exact ⟨lo + i, a, b, by omega, by omega, h1, h2, h3, h4, rfl⟩
 ·rintro ⟨n, a, b, h1, h2, h3, h4, h5, h6, rfl⟩
  exact ⟨n - lo, by omega, a, ⟨h3, by omega⟩, b, ⟨h5, by rw [h6]; congr 1; omega⟩, rfl⟩
def maxF (l : List Int) : Int := l.foldl max (-1)
theorem q1l6 (l : List Int) (x : Int) : maxF (l ++ [x]) = max (maxF l) x := by simp [maxF]
theorem q1fk {l : List Int} : ∀ {m : Int}, m <= l.foldl max m /\ ∀ x ∈ l, x <= l.foldl max m := by
 induction l with
 | nil => intro m; simp
 | cons y l ih =>
   intro m
   have h := ih (m := max m y)
   rw [List.foldl_cons]
   refine ⟨by omega, fun x hx => ?_⟩
   rcases qO.1 hx with rfl | hx
   ·have := h.1; omega
   ·exact h.2 x hx
theorem q1fl {l : List Int} : ∀ {m : Int}, l.foldl max m = m ∨ l.foldl max m ∈ l := by
 induction l with
 | nil => intro m; simp
 | cons y l ih =>
   intro m
   rw [List.foldl_cons]
   rcases ih (m := max m y) with h | h
   ·rw [h]
    by_cases e : m <= y
    ·right; rw [Int.max_eq_right e]; simp
    ·left; rw [Int.max_eq_left (by omega)]
   ·exact .inr (by simp [h])
theorem q1l5 {l : List Int} {v : Int} (h : ∀ x ∈ l, x <= v) (hv : v ∈ l) (h0 : 0 <= v) : maxF l = v := by
 unfold maxF
 have h1 := (q1fk (l := l) (m := -1)).2 v hv
 rcases q1fl (l := l) (m := -1) with h2 | h2
 ·omega
 ·have := h _ h2; omega
theorem q1rq {l l' : List Int} {v : Nat} (h : ∀ x ∈ l, x ∈ l') (hw : Wit l v) : Wit l' v := by
 obtain ⟨f, h1, h2, h3⟩ := hw
 exact ⟨f, h1, fun x hx => h x (h2 x hx), h3⟩
theorem q1lh {xs ys : List Int} (h1 : xs.Nodup) (h2 : ys.Nodup) (h : ∀ x, x ∈ xs ↔ x ∈ ys) : xs.length = ys.length :=
 Nat.le_antisymm (q1lg h1 fun x hx => (h x).1 hx) (q1lg h2 fun x hx => (h x).2 hx)
theorem q1it {hole board : List Int} (hc : q1cv (hole ++ board)) (h2 : hole.length = 2) (h5 : board.length = 5) : maxF ((q1if 0 2 hole board).map fun h => (valI h : Int)) = valI (hole ++ board) := by
 have hl := hc.1
 rw [rC] at hl
 obtain ⟨hn1, hn2, hd⟩ := hl
 have hhand : ∀ h ∈ q1if 0 2 hole board, q1cv h /\ h.length = 5 /\ ∀ x ∈ h, x ∈ hole ++ board := by
  intro h hh
  obtain ⟨n, a, b, _, h3, h4, h6, h7, h8, rfl⟩ := q1ig.1 hh
  have hsub : ∀ x ∈ a ++ b, x ∈ hole ++ board := fun x hx => by
   rcases qI.1 hx with hx | hx
   ·exact qI.2 (.inl (h4.subset hx))
   ·exact qI.2 (.inr (h7.subset hx))
  refine ⟨⟨rC.2 ⟨hn1.sublist h4, hn2.sublist h7, fun x hx y hy => hd x (h4.subset hx) y (h7.subset hy)⟩, fun x hx => hc.2 x (hsub x hx)⟩, by rw [qD]; omega, hsub⟩
 have hlen : (hole ++ board).length = 7 := by rw [qD]; omega
 refine q1l5 (fun x hx => ?_) ?_ (by omega)
 ·obtain ⟨h, hh, rfl⟩ := qN.1 hx
  obtain ⟨h3, h4, h6⟩ := hhand h hh
  have := q1re hc (by omega) (q1rq h6 (q1rg h3 (by omega)))
  omega
 ·obtain ⟨f, f1, f2, f3⟩ := q1rg hc (by omega)
  have f5 : f.length = 5 := by
   obtain ⟨cat, ⟨a, b, c, d, e, he, _⟩, _⟩ := f3
   have := congrArg List.length he
   simpa using this
  have e1 : (hole.filter (· ∈ f)).Sublist hole := List.filter_sublist
  have e2 : (board.filter (· ∈ f)).Sublist board := List.filter_sublist
  have e3 : (hole.filter (· ∈ f) ++ board.filter (· ∈ f)).length = 5 := by
   rw [← f5]
   refine q1lh (rC.2 ⟨hn1.sublist e1, hn2.sublist e2, fun x hx y hy => hd x (e1.subset hx) y (e2.subset hy)⟩) f1 fun x => ?_
   simp only [qI, qV, decide_eq_true_eq]
   exact ⟨fun h => h.elim (·.2) (·.2), fun h => by
    rcases qI.1 (f2 x h) with h' | h'
    ·exact .inl ⟨h', h⟩
    ·exact .inr ⟨h', h⟩⟩
  rw [qD] at e3
  have := e1.length_le
  have hm : hole.filter (· ∈ f) ++ board.filter (· ∈ f) ∈ q1if 0 2 hole board := q1ig.2 ⟨_, _, _, Nat.zero_le _, by omega, e1, rfl, e2, by omega, rfl⟩
  refine qN.2 ⟨_, hm, ?_⟩
  obtain ⟨h3, h4, h6⟩ := hhand _ hm
  have a1 := q1re hc (by omega) (q1rq h6 (q1rg h3 (by omega)))
  have a2 : valI (hole ++ board) <= valI (hole.filter (· ∈ f) ++ board.filter (· ∈ f)) := q1re h3 (by omega) ⟨f, f1, fun x hx => by
   simp only [qI, qV, decide_eq_true_eq]
   rcases qI.1 (f2 x hx) with h' | h'
   ·exact .inl ⟨h', hx⟩
   ·exact .inr ⟨h', hx⟩, f3⟩
  omega
end Go.Ab
