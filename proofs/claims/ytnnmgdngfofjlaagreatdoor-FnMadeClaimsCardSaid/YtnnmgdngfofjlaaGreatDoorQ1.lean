/- The abstract layer, part 15: contracts of functions; how a body proves one. -/
import Derived.ChangeKeysEq
import Derived.Laws.StructEq
import Derived.Laws.Slices
import Derived.WalkSpells
import Derived.Laws.CopyRow
import Derived.Test.YtnnmgdngfofjlaaGreatDoorQ0
set_option linter.unusedSimpArgs false
set_option linter.unusedVariables false
set_option maxRecDepth 20000
namespace Go.Ab

section
variable {P : Program} {X : Nat -> Prop} {w0 : World} {O0 : Fr} {n : Nat} {S : St} {a : Act} {w : World} {hs : Nat -> Option Value} {fp : Nat -> List Nat}
theorem Good.keepRoot (g : Good X w0 O0 n S a w hs fp) (r : Nat) {w' : World} {O' : Nat -> Prop} {hs' : Nat -> Option Value} (hk : q009 (fun b => ¬ Ob X fp b) w w') (hO : ∀ b, ¬ Ob X fp b -> b < w.heap.size -> ¬ O' b)
  (hh : ∀ r y, hs r = some y -> hs' r = some y) (hr' : hs' r = hs r) (hkf : ∀ b ∈ fp r, w'.heap[b]? = w.heap[b]?) : q00d w' O' hs' (S.roots r) (hs' r) (fp r) := by
 have hr := g.root r
 have hrr := g.rooty r
 revert hr
 cases hS : S.roots r with
 | free => rintro ⟨h1, h2⟩; exact ⟨hr'.trans h1, h2⟩
 | dead => exact fun h => h
 | live t' lk' =>
   rintro ⟨y, hy, ho', hlk'⟩
   refine ⟨y, hr'.trans hy, ho'.mono hk hO fun b cs e fz hb hc => by rw [hkf b hb]; exact hc, fun p hp => ?_⟩
   obtain ⟨z, hz, hzd⟩ := hlk' p hp
   refine ⟨z, ?_, hh _ _ hzd⟩
   have hroot := hrr _ _ hS
   generalize hfr : fp r = fr at ho' hkf
   cases ho' with
   | rd hh => cases hh <;> simp [T.rooty] at hroot
   | arrNil => simp [cellOf] at hz
   | arr _ _ b len cap cs e fps hb _ _ _ _ _ _ =>
     simp only [cellOf, World.cell?] at hz ⊢
     rw [hkf b (by simp)]; exact hz
   | box _ b cs e fps hb _ _ _ =>
     simp only [cellOf, World.cell?] at hz ⊢
     rw [hkf b (by simp)]; exact hz
   | bld _ _ _ b p v g hp hb hv =>
     simp only [cellOf, World.cell?] at hz ⊢
     rw [hkf b (by simp)]; exact hz
   | agg => simp [T.rooty] at hroot
   | tup => simp [T.rooty] at hroot

end
structure Mem (X : Nat -> Prop) (w : World) (rin : List T) (hs : Nat -> Option Value) (fp : Nat -> List Nat) : Prop where
 root : ∀ i t, rin[i]? = some t -> ∃ x, hs (1000000000 + i) = some x /\ Ow w (Ob X fp) t x (fp (1000000000 + i)) /\ t.rooty = true
 none : ∀ r, (r < 1000000000 ∨ 1000000000 + rin.length <= r) -> hs r = none /\ fp r = []
 disj : ∀ r r' b, b ∈ fp r -> b ∈ fp r' -> r = r'
 nodup : ∀ r, (fp r).Nodup
 foreign : ∀ r b, b ∈ fp r -> ¬ X b
 xold : ∀ b, X b -> b < w.heap.size
 hdr : ∀ r h, hs r = some h -> h.oneCell' = true

def Ob' (X : Nat -> Prop) (fp : Nat -> List Nat) (fr : List Nat) : Nat -> Prop := fun b => Ob X fp b ∨ b ∈ fr

def rootOf (t : T) : Root := match t with | .any => .dead | t => .live t []
theorem q0pr : rootOf .any = .dead := rfl
theorem q0ps (s : Nat) (l : List T) : rootOf (.arr s l) = .live (.arr s l) [] := rfl
theorem q0pt (l : List T) : rootOf (.box l) = .live (.box l) [] := rfl
theorem q0pw {t : T} (h : t.rooty = true) : rootOf t = .live t [] := by cases t <;> first | rfl | cases h

structure Out (X : Nat -> Prop) (w : World) (hs : Nat -> Option Value) (fp : Nat -> List Nat) (v : Value) (res : T) (rout : List T) (fr : List Nat) (fp' : Nat -> List Nat) (w' : World) : Prop where
 root : ∀ i t, rout[i]? = some t -> ∃ x, hs (1000000000 + i) = some x /\ Ow w' (Ob' X fp' fr) t x (fp' (1000000000 + i)) /\ (t.rooty = true ∨ t = .any)
 none : ∀ r, (r < 1000000000 ∨ 1000000000 + rout.length <= r) -> fp' r = []
 res : Ow w' (Ob' X fp' fr) res v fr
 disj : ∀ r r' b, b ∈ fp' r -> b ∈ fp' r' -> r = r'
 nodup : ∀ r, (fp' r).Nodup
 rnodup : fr.Nodup
 rdisj : ∀ r b, b ∈ fp' r -> b ∉ fr
 old : ∀ r b, b ∈ fp' r -> (∃ j, b ∈ fp j) ∨ w.heap.size <= b
 rold : ∀ b, b ∈ fr -> (∃ j, b ∈ fp j) ∨ w.heap.size <= b
 os : w'.os = w.os
 tape : w'.tape = w.tape
 output : w'.output = w.output
 size : w.heap.size <= w'.heap.size
 frame : ∀ b, b < w.heap.size -> (∀ j, b ∉ fp j) -> w'.heap[b]? = w.heap[b]?

def Fun (P : Program) (f : FuncId) (rin : List T) (args : List A) (Q : List T -> T -> Prop) : Prop :=
 ∀ (X : Nat -> Prop) (w : World) (vals : List Value) (hs : Nat -> Option Value) (fp : Nat -> List Nat), Mem X w rin hs fp -> vals.length = args.length -> (∀ i (h : i < args.length), Is w (Ob X fp) hs args[i] (vals.getD i undef)) →
   Calls P f vals.toArray w fun e w' => ∃ v res rout fr fp', e = .returned v /\ Q rout res /\ rout.length = rin.length /\ Out X w hs fp v res rout fr fp' w'

def FunG (P : Program) (gg : T) (f : FuncId) (rin : List T) (args : List A) (Q : List T -> T -> Prop) : Prop :=
 ∀ (X : Nat -> Prop) (w : World) (vals : List Value) (hs : Nat -> Option Value) (fp : Nat -> List Nat), Mem X w rin hs fp -> vals.length = args.length -> (∀ i (h : i < args.length), Is w (Ob X fp) hs args[i] (vals.getD i undef)) -> Rd w (Ob X fp) gg undef →
   Calls P f vals.toArray w fun e w' => ∃ v res rout fr fp', e = .returned v /\ Q rout res /\ rout.length = rin.length /\ Out X w hs fp v res rout fr fp' w'
theorem Fun.toG {P : Program} {f : FuncId} {rin : List T} {args : List A} {Q : List T -> T -> Prop} (h : Fun P f rin args Q) (gg : T) : FunG P gg f rin args Q := fun X w vals hs fp hm hv hi _ => h X w vals hs fp hm hv hi
theorem FunG.toFun {P : Program} {f : FuncId} {rin : List T} {args : List A} {Q : List T -> T -> Prop} (h : FunG P .any f rin args Q) : Fun P f rin args Q := fun X w vals hs fp hm hv hi => h X w vals hs fp hm hv hi (.any _)

def Pure (P : Program) (f : FuncId) (args : List T) (res : T) : Prop := Fun P f [] (args.map A.t) fun o r => o = [] /\ r = res

def enum {α : Type} : Nat -> List α -> List (Nat × α)
 | _, [] => []
 | k, a :: l => (k, a) :: enum (k + 1) l

def fnTs : List A -> Option (List T)
 | [] => some []
 | .t x :: l => (match fnTs l with | some ts => some (x :: ts) | none => none)
 | _ => none
theorem q09l : ∀ {l : List A} {ts : List T}, fnTs l = some ts -> l = ts.map A.t
 | [], ts, h => by simp only [fnTs, Option.some.injEq] at h; subst h; rfl
 | .t x :: l, ts, h => by
   simp only [fnTs] at h
   split at h
   ·rename_i ts' hts; cases h; rw [q09l hts]; rfl
   ·cases h
 | .own _ :: _, _, h => by simp [fnTs] at h
 | .sub _ _ _ :: _, _, h => by simp [fnTs] at h
 | .ptr _ _ :: _, _, h => by simp [fnTs] at h
 | .agg _ :: _, _, h => by simp [fnTs] at h
 | .tup _ :: _, _, h => by simp [fnTs] at h
 | .fn _ _ :: _, _, h => by simp [fnTs] at h
mutual
def q0d0 (S : St) (a : A) (K : T -> St -> Prop) : Prop :=
 match a with
 | .t c => K c S
 | .own q => (match S.roots q with | .live t [] => K t { S with roots := upd S.roots q .dead } | _ => False)
 | .agg l => q0d1 S l fun ts S' => K (.agg ts) S'
 | .tup l => q0d1 S l fun ts S' => K (.tup ts) S'
 | .fn f cap => (match fnTs cap with | some ts => K (.fn f ts) S | none => False)
 | _ => False
def q0d1 (S : St) (l : List A) (K : List T -> St -> Prop) : Prop :=
 match l with
 | [] => K [] S
 | a :: l => q0d0 S a fun t S1 => q0d1 S1 l fun ts S2 => K (t :: ts) S2
end

def q0pj (P : Program) (S : St) (rv : ResultVar) (K : T -> St -> Prop) : Prop :=
 match rv with
 | .tmp t => q0d0 S (S.env t) K
 | .cell t ty => (match S.env t with
   | .own q => (match S.roots q with
     | .live (.box l) [] => (match q0w0 P ty with
       | some true => q0wn P ty = some l.length /\ K (.agg l) { S with roots := upd S.roots q .dead }
       | some false => (match l with | [c] => K c { S with roots := upd S.roots q .dead } | _ => False)
       | none => False)
     | _ => False)
   | _ => False)

def retL (P : Program) (S : St) (rvs : List ResultVar) (K : List T -> St -> Prop) : Prop :=
 match rvs with
 | [] => K [] S
 | rv :: rvs => q0pj P S rv fun t S1 => retL P S1 rvs fun ts S2 => K (t :: ts) S2

def q0nl (ts : List T) : T := match ts with | [t] => t | ts => .tup ts

def q0pz (S : St) : Nat -> Nat -> (List T -> Prop) -> Prop
 | 0, _, K => K []
 | k + 1, i, K => (match S.roots i with | .live t [] => q0pz S k (i + 1) fun ts => K (t :: ts) | .dead => q0pz S k (i + 1) fun ts => K (.any :: ts) | _ => False)

def retQ (P : Program) (rvs : List ResultVar) (k : Nat) (Q : List T -> T -> Prop) : Exit -> St -> Prop
 | .normal, S | .ret, S => retL P S rvs fun ts S' => q0pz S' k 1000000000 fun rout => ∃ res, Le (q0nl ts) res /\ Q rout res
 | _, _ => False

section
variable {P : Program} {X : Nat -> Prop} {w0 : World} {O0 : Fr} {n : Nat} {S : St} {a : Act} {w : World} {hs : Nat -> Option Value} {fp : Nat -> List Nat}

theorem Inter.kill {S1 : St} {fp1 : Nat -> List Nat} (I : Inter S fp S1 fp1) {q : Nat} {t : T} {lk : List (Nat × Nat)} (h : S1.roots q = .live t lk) :
  S.roots q = .live t lk /\ fp1 q = fp q /\ Inter S fp { S1 with roots := upd S1.roots q .dead } (upd fp1 q []) := by
 have hsame : S.roots q = .live t lk /\ fp1 q = fp q := by
  rcases I.root q with ⟨h1, h2⟩ | ⟨h1, _⟩
  ·exact ⟨by rw [← h1, h], h2⟩
  ·rw [h] at h1; cases h1
 refine ⟨hsame.1, hsame.2, I.env, fun r => ?_⟩
 by_cases hr : r = q
 ·subst hr; exact .inr ⟨q0x2 _ _ _, q0x2 _ _ _, _, _, hsame.1⟩
 ·simp only [q0x1 _ _ _ _ hr]; exact I.root r

def Given (X : Nat -> Prop) (S : St) (w : World) (fp : Nat -> List Nat) (fp1 : Nat -> List Nat) (v : Value) (K : T -> St -> Prop) : Prop :=
 ∃ (t : T) (S2 : St) (fp2 : Nat -> List Nat) (f : List Nat), Inter S fp S2 fp2 /\ K t S2 /\ Ow w (Ob X fp) t v f /\ f.Nodup /\ (∀ b ∈ f, ∃ q, b ∈ fp1 q /\ fp2 q = []) /\ ∀ r, fp2 r = fp1 r ∨ fp2 r = []
def q008 (X : Nat -> Prop) (S : St) (w : World) (fp : Nat -> List Nat) (fp1 : Nat -> List Nat) (vs : List Value) (K : List T -> St -> Prop) : Prop :=
 ∃ (ts : List T) (S2 : St) (fp2 : Nat -> List Nat) (gs : List (List Nat)), Inter S fp S2 fp2 /\ K ts S2 /\ ts.length = vs.length /\ gs.length = vs.length /\ (∀ i (h : i < ts.length), Ow w (Ob X fp) ts[i] (vs.getD i undef) (gs.getD i [])) ∧
   gs.flatten.Nodup /\ (∀ b ∈ gs.flatten, ∃ q, b ∈ fp1 q /\ fp2 q = []) /\ ∀ r, fp2 r = fp1 r ∨ fp2 r = []

theorem q008.cons (g : Good X w0 O0 n S a w hs fp) {S1 : St} {fp1 : Nat -> List Nat} (I : Inter S fp S1 fp1) {v : Value} {vs : List Value} {K : List T -> St -> Prop} {t : T} {fp2 : Nat -> List Nat} {f : List Nat}
  (ho : Ow w (Ob X fp) t v f) (hfn : f.Nodup) (hfs : ∀ b ∈ f, ∃ q, b ∈ fp1 q /\ fp2 q = []) (hmono : ∀ r, fp2 r = fp1 r ∨ fp2 r = []) (hg2 : q008 X S w fp fp2 vs fun ts S3 => K (t :: ts) S3) : q008 X S w fp fp1 (v :: vs) K := by
 obtain ⟨ts, S3, fp3, gs, hI3, hK3, hlt, hlg, hos, hgn, hgs, hm3⟩ := hg2
 have down : ∀ q b, b ∈ fp2 q -> b ∈ fp1 q := fun q b hq => by
  rcases hmono q with h | h <;> rw [h] at hq
  ·exact hq
  ·simp at hq
 have sub : ∀ r b, b ∈ fp1 r -> b ∈ fp r := fun r b hr => by
  rcases I.root r with ⟨_, h⟩ | ⟨_, h, _⟩ <;> rw [h] at hr
  ·exact hr
  ·simp at hr
 refine ⟨t :: ts, S3, fp3, f :: gs, hI3, hK3, by simp [hlt], by simp [hlg], fun i h => ?_, ?_, fun b hb => ?_, fun r => ?_⟩
 ·cases i with
  | zero => simpa only [List.getElem_cons_zero, List.getD_cons_zero] using ho
  | succ i => have := hos i (by simpa using h); simpa only [List.getElem_cons_succ, List.getD_cons_succ] using this
 ·rw [List.flatten_cons, List.nodup_append]
  refine ⟨hfn, hgn, fun b hb b' hb' e => ?_⟩
  subst e
  obtain ⟨q, hq1, hq2⟩ := hfs b hb
  obtain ⟨q', hq1', _⟩ := hgs b hb'
  have := g.disj q q' b (sub q b hq1) (sub q' b (down q' b hq1'))
  subst this
  rw [hq2] at hq1'; simp at hq1'
 ·rw [List.flatten_cons, List.mem_append] at hb
  rcases hb with hb | hb
  ·obtain ⟨q, h1, h2⟩ := hfs b hb
   refine ⟨q, h1, ?_⟩
   rcases hm3 q with h | h
   ·rw [h, h2]
   ·exact h
  ·obtain ⟨q, h1, h2⟩ := hgs b hb; exact ⟨q, down q b h1, h2⟩
 ·rcases hm3 r with h | h
  ·rw [h]; exact hmono r
  ·exact .inr h

mutual
theorem q0d7 (g : Good X w0 O0 n S a w hs fp) : ∀ (x : A) (v : Value) (S1 : St) (fp1 : Nat -> List Nat) (K : T -> St -> Prop), Inter S fp S1 fp1 -> Is w (Ob X fp) hs x v -> q0d0 S1 x K -> Given X S w fp fp1 v K
 | .t c, v, S1, fp1, K, hI, hx, hK => by
   simp only [q0d0] at hK
   cases hx with | t h => exact ⟨c, S1, fp1, [], hI, hK, .rd h, by simp, by simp, fun _ => .inl rfl⟩
 | .own q, v, S1, fp1, K, hI, hx, hK => by
   simp only [q0d0] at hK
   split at hK
   ·rename_i t hq
    obtain ⟨h1, h2, hI2⟩ := hI.kill hq
    have hr := g.root q
    rw [h1] at hr
    obtain ⟨y, hy, ho, _⟩ := hr
    have hv : y = v := by have := hx.own_inv; rw [hy] at this; exact Option.some.inj this
    subst hv
    refine ⟨t, _, _, fp q, hI2, hK, ho, g.nodup q, fun b hb => ⟨q, by rw [h2]; exact hb, q0x2 _ _ _⟩, fun r => ?_⟩
    by_cases h : r = q
    ·subst h; exact .inr (q0x2 _ _ _)
    ·exact .inl (q0x1 _ _ _ _ h)
   ·exact hK.elim
 | .agg l, v, S1, fp1, K, hI, hx, hK => by
   simp only [q0d0] at hK
   obtain ⟨vs, rfl, hl, hr⟩ := hx.agg_inv
   obtain ⟨ts, S2, fp2, gs, h1, h2, h3, h4, h5, h6, h7, h8⟩ := q0d4 g l vs S1 fp1 _ hI hl hr hK
   exact ⟨.agg ts, S2, fp2, gs.flatten, h1, h2, .agg ts vs gs (by omega) (by omega) h5, h6, h7, h8⟩
 | .tup l, v, S1, fp1, K, hI, hx, hK => by
   simp only [q0d0] at hK
   obtain ⟨vs, rfl, hl, hr⟩ := hx.tup_inv
   obtain ⟨ts, S2, fp2, gs, h1, h2, h3, h4, h5, h6, h7, h8⟩ := q0d4 g l vs S1 fp1 _ hI hl hr hK
   exact ⟨.tup ts, S2, fp2, gs.flatten, h1, h2, .tup ts vs gs (by omega) (by omega) h5, h6, h7, h8⟩
 | .sub _ _ _, v, S1, fp1, K, hI, hx, hK => by simp [q0d0] at hK
 | .ptr _ _, v, S1, fp1, K, hI, hx, hK => by simp [q0d0] at hK
 | .fn f cap, v, S1, fp1, K, hI, hx, hK => by
   simp only [q0d0] at hK
   split at hK
   ·rename_i ts hts
    have hc := q09l hts
    subst hc
    cases hx with
    | fn hl hr => exact ⟨.fn f ts, S1, fp1, [], hI, hK, .rd (.fn _ _ _ (by simpa using hl) fun i h => by have := hr i (by simpa using h); rw [List.getElem_map] at this; cases this with | t h => exact h), by simp, by simp, fun _ => .inl rfl⟩
   ·exact hK.elim
theorem q0d4 (g : Good X w0 O0 n S a w hs fp) : ∀ (as : List A) (vs : List Value) (S1 : St) (fp1 : Nat -> List Nat) (K : List T -> St -> Prop), Inter S fp S1 fp1 -> vs.length = as.length →
  (∀ i (h : i < as.length), Is w (Ob X fp) hs as[i] (vs.getD i undef)) -> q0d1 S1 as K -> q008 X S w fp fp1 vs K
 | [], [], S1, fp1, K, hI, hl, hi, hK => by
   simp only [q0d1] at hK
   exact ⟨[], S1, fp1, [], hI, hK, rfl, rfl, fun i h => absurd h (by simp), by simp, by simp, fun _ => .inl rfl⟩
 | [], _ :: _, S1, fp1, K, hI, hl, hi, hK => by simp at hl
 | _ :: _, [], S1, fp1, K, hI, hl, hi, hK => by simp at hl
 | x :: as, v :: vs, S1, fp1, K, hI, hl, hi, hK => by
   simp only [q0d1] at hK
   have hx : Is w (Ob X fp) hs x v := by have := hi 0 (by simp); simpa only [List.getElem_cons_zero, List.getD_cons_zero] using this
   obtain ⟨t, S2, fp2, f, hI2, hK2, ho, hfn, hfs, hmono⟩ := q0d7 g x v S1 fp1 _ hI hx hK
   exact q008.cons g hI ho hfn hfs hmono (q0d4 g as vs S2 fp2 _ hI2 (by simpa using hl) (fun i h => by have := hi (i + 1) (by simpa using h); simpa only [List.getElem_cons_succ, List.getD_cons_succ] using this) hK2)
end

theorem q0pm (g : Good X w0 O0 n S a w hs fp) (rv : ResultVar) {S1 : St} {fp1 : Nat -> List Nat} {K : T -> St -> Prop} (I : Inter S fp S1 fp1) (h : q0pj P S1 rv K) :
  ∃ v, ((match rv with | .tmp t => pure (a.tmps.getD t undef) | .cell c t => (do loadVar t (← asAddr (a.tmps.getD c undef))) : Go.Sem Value)).run P w = .ok v w /\ Given X S w fp fp1 v K := by
 cases rv with
 | tmp t =>
   simp only [q0pj] at h
   have henv := I.env
   rw [henv] at h
   exact ⟨_, rfl, q0d7 g _ _ _ _ _ I (g.env t) h⟩
 | cell c ty =>
   simp only [q0pj] at h
   have henv := I.env
   split at h
   ·rename_i q hq
    rw [henv] at hq
    split at h
    ·rename_i l hr
     obtain ⟨h1, h2, hI2⟩ := I.kill hr
     obtain ⟨b, cs, e, fps, hb, hheap, hl, hf, hro, hfp, _⟩ := g.box h1
     have hc := g.env c; rw [hq] at hc; have hc := hc.own_inv
     rw [hb, Option.some.injEq] at hc
     have hnd := g.nodup q; rw [hfp] at hnd
     have hmono : ∀ r, upd fp1 q [] r = fp1 r ∨ upd fp1 q [] r = [] := fun r => by
      by_cases h : r = q
      ·subst h; exact .inr (q0x2 _ _ _)
      ·exact .inl (q0x1 _ _ _ _ h)
     split at h
     ·rename_i ht
      obtain ⟨hz, hK⟩ := h
      refine ⟨.agg cs, ?_, .agg l, _, _, fps.flatten, hI2, hK, ?_, (List.nodup_cons.1 hnd).2, fun b' hb' => ⟨q, by rw [h2, hfp]; exact List.mem_cons_of_mem _ hb', q0x2 _ _ _⟩, hmono⟩
      ·have := q0qr (P := P) ht hz hheap (o := 0) (by omega)
       simp only [Sem.run_bind, ← hc, asAddr, Sem.run_pure, Result.andThen_ok, this]
       congr 1
       congr 1
       apply Array.ext'
       apply List.ext_getElem (by simp [hl])
       intro i h1 h2
       simp at h1
       simp [Array.getD_eq_getD_getElem?, hl ▸ h1]
      ·have := Ow.agg (w := w) (O := Ob X fp) l cs.toList fps (by simpa using hl.symm) hf (fun i h => by simpa [Array.getD_eq_getD_getElem?, List.getD_eq_getElem?_getD] using hro i h)
       simpa using this
     ·rename_i ht
      split at h
      ·rename_i c'
       have hcs : 0 < cs.size := by rw [← hl]; simp
       refine ⟨cs.getD 0 undef, ?_, c', _, _, fps.getD 0 [], hI2, h, hro 0 (by simp), q0m2 (List.nodup_cons.1 hnd).2, fun b' hb' => ⟨q, by rw [h2, hfp]; exact List.mem_cons_of_mem _ (q0k4 hb'), q0x2 _ _ _⟩, hmono⟩
       simp only [Sem.run_bind, ← hc, asAddr, Sem.run_pure, Result.andThen_ok]
       exact q0qq ht (q060 hheap hcs)
      ·exact h.elim
     ·exact h.elim
    ·exact h.elim
   ·exact h.elim

theorem q0pi (g : Good X w0 O0 n S a w hs fp) : ∀ (rvs : List ResultVar) {S1 : St} {fp1 : Nat -> List Nat} {K : List T -> St -> Prop}, Inter S fp S1 fp1 -> retL P S1 rvs K →
  ∃ vs : List Value, (rvs.mapM (fun | .tmp t => pure (a.tmps.getD t undef) | .cell c t => (do loadVar t (← asAddr (a.tmps.getD c undef))) : ResultVar -> Go.Sem Value)).run P w = .ok vs w /\ q008 X S w fp fp1 vs K
 | [], S1, fp1, K, I, h => ⟨[], by simp, [], S1, fp1, [], I, h, rfl, rfl, fun i h => absurd h (by simp), by simp, by simp, fun _ => .inl rfl⟩
 | rv :: rvs, S1, fp1, K, I, h => by
   simp only [retL] at h
   obtain ⟨v, hv, hg⟩ := q0pm g rv I h
   obtain ⟨t, S2, fp2, f, hI2, hK2, ho, hfn, hfs, hmono⟩ := hg
   obtain ⟨vs, hvs, hg2⟩ := q0pi g rvs hI2 hK2
   refine ⟨v :: vs, ?_, q008.cons g I ho hfn hfs hmono hg2⟩
   rw [List.mapM_cons, Sem.run_bind]
   rw [show (Go.Sem.run P _ w) = Result.ok v w from hv, Result.andThen_ok, Sem.run_bind, hvs]
   rfl

theorem q0q2 : ∀ {k i : Nat} {K : List T -> Prop}, q0pz S k i K -> ∃ rout : List T, K rout /\ rout.length = k /\ ∀ j (h : j < rout.length), S.roots (i + j) = .live rout[j] [] ∨ (S.roots (i + j) = .dead /\ rout[j] = .any)
 | 0, i, K, h => ⟨[], h, rfl, fun j h => absurd h (by simp)⟩
 | k + 1, i, K, h => by
   simp only [q0pz] at h
   split at h
   ·rename_i t ht
    obtain ⟨rout, h1, h2, h3⟩ := q0q2 h
    refine ⟨t :: rout, h1, by simp [h2], fun j hj => ?_⟩
    cases j with
    | zero => exact .inl (by simpa using ht)
    | succ j =>
      have := h3 j (by simpa using hj)
      rw [show i + (j + 1) = i + 1 + j by omega]
      simpa using this
   ·rename_i ht
    obtain ⟨rout, h1, h2, h3⟩ := q0q2 h
    refine ⟨.any :: rout, h1, by simp [h2], fun j hj => ?_⟩
    cases j with
    | zero => exact .inr ⟨by simpa using ht, rfl⟩
    | succ j =>
      have := h3 j (by simpa using hj)
      rw [show i + (j + 1) = i + 1 + j by omega]
      simpa using this
   ·exact h.elim

theorem q0kf : ∀ (l : List A) (k i : Nat), q0ke (enum k l) i = if k <= i then (l[i - k]?).getD (.t .any) else .t .any
 | [], k, i => by simp [enum, q0ke]
 | a :: l, k, i => by
   simp only [enum, q0ke, q0x0]
   by_cases h : i = k
   ·subst h; simp
   ·rw [if_neg h, q0kf l (k + 1) i]
    by_cases h1 : k <= i
    ·rw [if_pos (by omega), if_pos h1, show i - k = (i - (k + 1)) + 1 by omega, List.getElem?_cons_succ]
    ·rw [if_neg (by omega), if_neg h1]
theorem q0ki : ∀ (l : List T) (k i : Nat), q0kh (enum k l) i = if k <= i then (match l[i - k]? with | some t => .live t [] | none => .free) else .free
 | [], k, i => by simp [enum, q0kh]
 | a :: l, k, i => by
   simp only [enum, q0kh, q0x0]
   by_cases h : i = k
   ·subst h; simp
   ·rw [if_neg h, q0ki l (k + 1) i]
    by_cases h1 : k <= i
    ·rw [if_pos (by omega), if_pos h1, show i - k = (i - (k + 1)) + 1 by omega, List.getElem?_cons_succ]
    ·rw [if_neg (by omega), if_neg h1]

theorem Good.outside {X : Nat -> Prop} {w0 : World} {O0 : Fr} {a : Act} {w : World} {hs : Nat -> Option Value} {fp : Nat -> List Nat} {S : St} (g : Good X w0 O0 n S a w hs fp) {w' : World} {E : Nat -> Prop} (hE : ∀ b, E b -> (X b ∨ ∀ cs e fz, w.heap[b]? ≠ some (.cells cs e fz)) /\ (w0.heap.size <= b ∨ O0 b))
  (hsame : ∀ b, b < w.heap.size -> ¬ E b -> w'.heap[b]? = w.heap[b]?) (hsz : w.heap.size <= w'.heap.size) (hos : w'.os = w.os) (htp : w'.tape = w.tape) (hout : w'.output = w.output) (hm : q00a O0.mkp O0.own a.defers w0 w') : Good X w0 O0 n S a w' hs fp := by
 have hk : q009 (fun b => ¬ Ob X fp b) w w' := fun b cs e fz hn hb => by
  rw [hsame b (Array.getElem?_eq_some_iff.1 hb).1 fun h => ?_]
  ·exact hb
  ·rcases (hE b h).1 with h1 | h1
   ·exact hn (.inl h1)
   ·exact h1 _ _ _ hb
 have hkf : ∀ r, ∀ b ∈ fp r, w'.heap[b]? = w.heap[b]? := fun r b hb => hsame b (g.lt hb) fun h => by
  rcases (hE b h).1 with h1 | h1
  ·exact g.foreign r b hb h1
  ·obtain ⟨cs, e, fz, hc⟩ := g.cells hb; exact h1 _ _ _ hc
 exact ⟨g.size, hm, fun i => (g.env i).mono hk (fun b h _ => h) (fun _ _ h => h), fun r => g.keepRoot r hk (fun b h _ => h) (fun _ _ h => h) rfl (hkf r), g.disj, g.nodup, g.foreign, fun b h => Nat.lt_of_lt_of_le (g.xold b h) hsz, g.xout, g.mine,
  ⟨hos.trans g.hist.os, htp.trans g.hist.tape, hout.trans g.hist.output, Nat.le_trans g.hist.size hsz, fun b hb hn => by
   rw [hsame b (Nat.lt_of_lt_of_le hb g.hist.size) fun h => by
    rcases (hE b h).2 with h2 | h2
    ·omega
    ·exact hn h2]; exact g.hist.block b hb hn⟩, g.rooty, g.hdr, g.small, g.pin⟩
theorem Good.shut {X : Nat -> Prop} {w0 : World} {O0 : Fr} {tm : Array Value} {w : World} {hs : Nat -> Option Value} {fp : Nat -> List Nat} {S : St} (g : Good X w0 O0 n S { tmps := tm, defers := [] } w hs fp) (D : Nat) (hD : w.heap[D]? = some (.deferred (some []))) (h0 : w0.heap.size <= D ∨ O0 D) : Good X w0 O0 n S { tmps := tm, defers := [] } (w.putObj D (.deferred none)) hs fp :=
 g.outside (E := fun b => b = D) (fun b h => by subst h; exact ⟨.inr (fun cs e fz h => by rw [hD] at h; cases h), h0⟩) (fun b _ h => World.putObj_heap_other h) (by simp) rfl rfl rfl (q00a.nil _ _ _ _)
theorem q0hw {fn : Func} {tm : Array Value} {R : Ending -> World -> Prop} {w : World} (h : ∃ v, (results fn tm).run P w = .ok v w /\ R (.returned v) w) : LeavesInM Fence.wide 0 P fn tm R [] .returning w := h
theorem Fun.introG {f : FuncId} {fn : Func} {c : Code} {rin : List T} {args : List A} {Q : List T -> T -> Prop} (gg : T) (hf : P.funcs[f]? = some fn) (hb : fn.body = some c) (hn : fn.ntmps = n) (ha : args.length <= n) (hsm : n <= 100000)
  (h : Sem P n c (retQ P fn.results.toList rin.length Q) (St.of ((1000000, .t gg) :: enum 0 args) (enum 1000000000 rin))) : FunG P gg f rin args Q := by
 intro X w vals hs fp hm hv hi hgg
 refine callsIn_wide.1 (callsIn_of_wp_marks (F := Fence.wide) (n := 0) hf hb trivial ?_)
 have g : Good X w ⟨fun b => ∃ j, b ∈ fp j, hs, True⟩ n (St.of ((1000000, .t gg) :: enum 0 args) (enum 1000000000 rin)) { tmps := vals.toArray ++ Array.replicate (fn.ntmps - vals.toArray.size) undef, defers := [] } w hs fp := by
  refine ⟨by simp; omega, q00a.nil _ _ _ _, fun i => ?_, fun r => ?_, hm.disj, hm.nodup, hm.foreign, hm.xold, fun b hX _ ⟨j, hj⟩ => hm.foreign j b hj hX, fun r b hb => .inl ⟨r, hb⟩, ⟨rfl, rfl, rfl, Nat.le_refl _, fun _ _ _ => rfl⟩, fun r t lk hr => ?_, hm.hdr, hsm, fun _ _ _ h => h⟩
  ·show Is _ _ _ (upd (q0ke (enum 0 args)) 1000000 (.t gg) i) _
   by_cases hgi : i = 1000000
   ·subst hgi
    rw [q0x2, show (vals.toArray ++ Array.replicate (fn.ntmps - vals.toArray.size) undef).getD 1000000 undef = undef from by
     rw [Array.getD_eq_getD_getElem?, Array.getElem?_eq_none (by simp; omega)]; rfl]
    exact .t hgg
   rw [q0x1 _ _ _ _ hgi, q0kf]
   simp only [Nat.zero_le, if_true, Nat.sub_zero]
   by_cases hia : i < args.length
   ·have := hi i hia
    have e : (vals.toArray ++ Array.replicate (fn.ntmps - vals.toArray.size) undef).getD i undef = vals.getD i undef := by
     simp [Array.getD_eq_getD_getElem?, List.getD_eq_getElem?_getD, Array.getElem?_append, hv, hia]
    rw [e, List.getElem?_eq_getElem hia]; exact this
   ·rw [List.getElem?_eq_none (by omega)]; exact .t (.any _)
  ·show q00d _ _ _ (q0kh (enum 1000000000 rin) r) _ _
   rw [q0ki]
   by_cases hr0 : 1000000000 <= r
   ·rw [if_pos hr0]
    by_cases hr : r - 1000000000 < rin.length
    ·rw [List.getElem?_eq_getElem hr]
     obtain ⟨x, hx, ho, hrt⟩ := hm.root (r - 1000000000) _ (List.getElem?_eq_getElem hr)
     rw [show 1000000000 + (r - 1000000000) = r by omega] at hx ho
     exact ⟨x, hx, ho, fun p hp => by simp at hp⟩
    ·rw [List.getElem?_eq_none (by omega)]
     exact hm.none r (.inr (by omega))
   ·rw [if_neg hr0]; exact hm.none r (.inl (by omega))
  ·have hr : q0kh (enum 1000000000 rin) r = .live t lk := hr
   rw [q0ki] at hr
   split at hr
   ·split at hr
    ·rename_i t' ht
     cases hr
     obtain ⟨_, _, _, hrt⟩ := hm.root _ _ ht
     exact hrt
    ·cases hr
   ·cases hr
 refine wpIn_mono (h X w _ _ w hs fp g none (q00c.no _ _) (fun _ _ => trivial)) fun e a' w' ⟨⟨S', hs', fp', g', q⟩, _⟩ => ?_
 have key1 : ∀ {a' : Act} {w' : World}, Good X w ⟨fun b => ∃ j, b ∈ fp j, hs, True⟩ n S' a' w' hs' fp' -> retQ P fn.results.toList rin.length Q .ret S' -> ∃ v, (results fn a'.tmps).run P w' = .ok v w' /\ ∃ v' res rout fr fp'', Ending.returned v = .returned v' /\ Q rout res /\ rout.length = rin.length /\ Out X w hs fp v' res rout fr fp'' w' := by
  intro a' w' g' q
  simp only [retQ] at q
  obtain ⟨vs, hvs, ts, S2, fp2, gs, I, hK, hlt, hlg, hos, hgn, hgs, hmono⟩ := q0pi g' fn.results.toList (Inter.refl S' fp') q
  obtain ⟨rout, ⟨res, hle, hQ⟩, hrl, hrr⟩ := q0q2 hK
  -- the results as one value, which owns what its parts own
  have hpack : ∃ v, (results fn a'.tmps).run P w' = .ok v w' /\ ∃ f, Ow w' (Ob X fp') (q0nl ts) v f /\ f.Sublist gs.flatten := by
   have hm : (fn.results.mapM (fun | .tmp t => pure (a'.tmps.getD t undef) | .cell c t => (do loadVar t (← asAddr (a'.tmps.getD c undef))) : ResultVar -> Go.Sem Value)).run P w' = .ok vs.toArray w' := by
    rw [Array.mapM_eq_mapM_toList, Sem.run_map]
    rw [show (Go.Sem.run P _ w') = Result.ok vs w' from hvs]
    rfl
   have hrun : (results fn a'.tmps).run P w' = .ok (if h : vs.toArray.size = 1 then vs.toArray[0] else .tuple vs.toArray) w' := by
    unfold results
    rw [Sem.run_bind]
    exact congrArg (fun (r : Result (Array Value)) => r.andThen fun a w' => Go.Sem.run P (pure (if h : a.size = 1 then a[0] else Value.tuple a) : Go.Sem Value) w') hm
   refine ⟨_, hrun, ?_⟩
   match vs, ts, gs, hlt, hlg, hos with
   | [v], [t], [f], _, _, hos =>
     refine ⟨f, ?_, by simp⟩
     have := hos 0 (by simp)
     simpa [q0nl] using this
   | [], ts, gs, hlt, hlg, hos =>
     have h1 : ts = [] := List.eq_nil_of_length_eq_zero hlt
     subst h1
     exact ⟨gs.flatten, by simpa [q0nl] using Ow.tup (w := w') (O := Ob X fp') [] [] gs rfl (by simpa using hlg) (fun i h => absurd h (by simp)), List.Sublist.refl _⟩
   | v1 :: v2 :: vs, ts, gs, hlt, hlg, hos =>
     have h1 : ¬ (v1 :: v2 :: vs).toArray.size = 1 := by simp
     rw [dif_neg h1]
     have h2 : q0nl ts = .tup ts := by
      match ts, hlt with
      | _ :: _ :: _, _ => rfl
     rw [h2]
     exact ⟨gs.flatten, Ow.tup ts _ gs (by omega) (by omega) hos, List.Sublist.refl _⟩
  obtain ⟨v, hv', f, hof, hfsub⟩ := hpack
  obtain ⟨fr, hor, hfr⟩ := hle.ow hof
  refine ⟨v, hv', v, res, rout, fr, fun r => if 1000000000 <= r /\ r < 1000000000 + rin.length then fp2 r else [], rfl, hQ, hrl, ?_⟩
  have hin : ∀ r b, b ∈ (if 1000000000 <= r /\ r < 1000000000 + rin.length then fp2 r else []) -> b ∈ fp2 r := fun r b hb => by
   split at hb
   ·exact hb
   ·simp at hb
  have hin' : ∀ r b, b ∈ fp2 r -> b ∈ fp' r := fun r b hb => by
   rcases I.root r with ⟨_, h⟩ | ⟨_, h, _⟩ <;> rw [h] at hb
   ·exact hb
   ·simp at hb
  have hfr' : ∀ b, b ∈ fr -> ∃ q, b ∈ fp' q /\ fp2 q = [] := fun b hb => hgs b (hfsub.subset (hfr.subset hb))
  have hO : ∀ b, ¬ Ob X fp' b -> b < w'.heap.size -> ¬ Ob' X (fun r => if 1000000000 <= r /\ r < 1000000000 + rin.length then fp2 r else []) fr b := by
   rintro b h1 _ ((h | ⟨r, hr⟩) | h)
   ·exact h1 (.inl h)
   ·exact h1 (.inr ⟨r, hin' r b (hin r b hr)⟩)
   ·obtain ⟨q, hq, _⟩ := hfr' b h; exact h1 (.inr ⟨q, hq⟩)
  refine ⟨fun i t hi => ?_, fun r hr => ?_, hor.mono (fun _ _ _ _ _ h => h) hO (fun _ _ _ _ _ h => h), fun r r' b h h' => g'.disj r r' b (hin' r b (hin r b h)) (hin' r' b (hin r' b h')), fun r => ?_, hfr.nodup (hfsub.nodup hgn), fun r b h h' => ?_, fun r b h => ?_, fun b h => ?_,
   g'.hist.os, g'.hist.tape, g'.hist.output, g'.hist.size, fun b hb hn => g'.hist.block b hb fun ⟨j, hj⟩ => hn j hj⟩
  ·obtain ⟨hil, rfl⟩ := List.getElem?_eq_some_iff.1 hi
   rcases hrr i hil with h1 | ⟨h1, h0⟩
   case inr =>
    obtain ⟨x, hx, _⟩ := hm.root i _ (List.getElem?_eq_getElem (by omega))
    refine ⟨x, hx, ?_, .inr h0⟩
    rw [h0, if_pos (by omega)]
    have h3 : fp2 (1000000000 + i) = [] := by
     rcases I.root (1000000000 + i) with ⟨h3, h4⟩ | ⟨_, h4, _⟩
     ·rw [h1] at h3
      have h5 := g'.root (1000000000 + i)
      rw [← h3] at h5
      rw [h4]; exact h5
     ·exact h4
    rw [h3]; exact .rd (.any _)
   have h2 : S'.roots (1000000000 + i) = .live rout[i] [] /\ fp2 (1000000000 + i) = fp' (1000000000 + i) := by
    rcases I.root (1000000000 + i) with ⟨h3, h4⟩ | ⟨h3, _⟩ <;> rw [h1] at h3
    ·exact ⟨h3.symm, h4⟩
    ·cases h3
   have h5 := g'.root (1000000000 + i)
   rw [h2.1] at h5
   obtain ⟨x, hx, ho, _⟩ := h5
   refine ⟨x, g'.pin _ _ (by omega) hx, ?_, .inl (g'.rooty _ _ _ h2.1)⟩
   rw [if_pos (by omega), h2.2]
   exact ho.mono (fun _ _ _ _ _ h => h) hO (fun _ _ _ _ _ h => h)
  ·rw [if_neg (by omega)]
  ·split
   ·rcases I.root r with ⟨_, h⟩ | ⟨_, h, _⟩ <;> rw [h]
    ·exact g'.nodup r
    ·simp
   ·simp
  ·obtain ⟨q, hq, hq0⟩ := hfr' b h'
   have h2 := hin r b h
   have := g'.disj q r b hq (hin' r b h2)
   subst this
   rw [hq0] at h2; simp at h2
  ·exact g'.mine r b (hin' r b (hin r b h))
  ·obtain ⟨q, hq, _⟩ := hfr' b h; exact g'.mine q b hq
 have key2 : ∀ (Ds : List Nat) (tm : Array Value) (w1 : World), Ds.Nodup -> (∀ D ∈ Ds, (w.heap.size <= D ∨ ∃ j, D ∈ fp j) /\ w1.heap[D]? = some (.deferred (some []))) -> Good X w ⟨fun b => ∃ j, b ∈ fp j, hs, True⟩ n S' { tmps := tm, defers := [] } w1 hs' fp' -> retQ P fn.results.toList rin.length Q .ret S' →
   LeavesInM Fence.wide 0 P fn tm (fun e w' => ∃ v res rout fr fp', e = .returned v /\ Q rout res /\ rout.length = rin.length /\ Out X w hs fp v res rout fr fp' w') (Ds.map fun D => { target := .collected D, args := #[] }) .returning w1 := by
  intro Ds
  induction Ds with
  | nil => intro tm w1 _ _ g1 q; exact q0hw (key1 (a' := { tmps := tm, defers := [] }) g1 q)
  | cons D Ds ih =>
    intro tm w1 hd1 hd3 g1 q
    have hD := hd3 D (by simp)
    refine ⟨by simp, .inl ⟨D, w1.putObj D (.deferred none), rfl, run_takeDeferred hD.2, ih tm _ (List.nodup_cons.1 hd1).2 (fun D' hD' => ?_) (g1.shut D hD.2 hD.1) q⟩⟩
    have h1 := hd3 D' (by simp [hD'])
    refine ⟨h1.1, ?_⟩
    have hne : D' ≠ D := fun e => (List.nodup_cons.1 hd1).1 (by rw [← e]; exact hD')
    rw [World.putObj_heap_other hne]; exact h1.2
 have key : retQ P fn.results.toList rin.length Q .ret S' -> LeavesInM Fence.wide 0 P fn a'.tmps (fun e w' => ∃ v res rout fr fp', e = .returned v /\ Q rout res /\ rout.length = rin.length /\ Out X w hs fp v res rout fr fp' w') a'.defers .returning w' := fun q => by
  obtain ⟨Ds, hd1, hd2, hd3, _⟩ := g'.defers
  rw [hd2]
  exact key2 Ds a'.tmps w' hd1 hd3 { g' with defers := q00a.nil _ _ _ _ } q
 cases e with
 | normal => exact key q
 | ret => exact key q
 | _ => exact q.elim
theorem Fun.intro {f : FuncId} {fn : Func} {c : Code} {rin : List T} {args : List A} {Q : List T -> T -> Prop} (hf : P.funcs[f]? = some fn) (hb : fn.body = some c) (hn : fn.ntmps = n) (ha : args.length <= n) (hsm : n <= 100000)
  (h : Sem P n c (retQ P fn.results.toList rin.length Q) (St.of (enum 0 args) (enum 1000000000 rin))) : Fun P f rin args Q := by
 refine (Fun.introG .any hf hb hn ha hsm ?_).toFun
 have e : St.of ((1000000, .t .any) :: enum 0 args) (enum 1000000000 rin) = St.of (enum 0 args) (enum 1000000000 rin) := by
  simp only [St.of, q0ke]
  congr 1
  funext i
  by_cases hi : i = 1000000
  ·subst hi
   rw [q0x2, q0kf, if_pos (by omega), List.getElem?_eq_none (by omega)]; rfl
  ·rw [q0x1 _ _ _ _ hi]
 rw [e]; exact h

end
end Go.Ab

/- The abstract layer, part 16: calls by contract. -/
namespace Go.Ab

mutual
def T.toSh : T -> T
 | .arr s l => .sh s (T.toShL l)
 | .box l => .pin (T.toShL l) 0
 | .agg l => .agg (T.toShL l)
 | .tup l => .tup (T.toShL l)
 | .bld _ _ _ => .any
 | t => t
def T.toShL : List T -> List T
 | [] => []
 | t :: l => T.toSh t :: T.toShL l
end
theorem T.toShL_length : ∀ l : List T, (T.toShL l).length = l.length
 | [] => rfl
 | t :: l => by simp [T.toShL, T.toShL_length l]
theorem T.toShL_get : ∀ (l : List T) (i : Nat) (h : i < (T.toShL l).length), (T.toShL l)[i] = (l[i]'(by rwa [T.toShL_length] at h)).toSh
 | t :: l, 0, h => rfl
 | t :: l, i + 1, h => by simpa [T.toShL] using T.toShL_get l i (by simpa [T.toShL] using h)
theorem T.toShL_eq_map : ∀ l : List T, T.toShL l = l.map T.toSh
 | [] => rfl
 | t :: l => by simp [T.toShL, T.toShL_eq_map l]

theorem Rd.toSh {w : World} {O O' : Nat -> Prop} (hO : ∀ b, ¬ O b -> b < w.heap.size -> ¬ O' b) {t : T} {x : Value} (h : Rd w O t x) : Rd w O' t.toSh x := by
 induction h with
 | any x => exact .any x
 | v x => exact .v x
 | shNil s => exact .shNil s
 | shZ s ad cap => exact .shZ s ad cap
 | sh s l b off len cap cs e fz hn hb hsz hl hc hr ih => exact .sh s l b off len cap cs e fz (hO b hn (Array.getElem?_eq_some_iff.1 hb).1) hb hsz hl hc fun i h => (hr i h).mono (fun _ _ _ _ _ h => h) hO
 | pin l off b o cs e fz hn hb hsz hr ih => exact .pin l off b o cs e fz (hO b hn (Array.getElem?_eq_some_iff.1 hb).1) hb hsz fun i h => (hr i h).mono (fun _ _ _ _ _ h => h) hO
 | fn f cap vs hl hr ih => exact .fn f cap vs hl fun i h => (hr i h).mono (fun _ _ _ _ _ h => h) hO
 | agg l vs hl hr ih => exact .agg _ vs (by rw [T.toShL_length]; exact hl) fun i h => by rw [T.toShL_get]; exact ih i _
 | tup l vs hl hr ih => exact .tup _ vs (by rw [T.toShL_length]; exact hl) fun i h => by rw [T.toShL_get]; exact ih i _
 | glob b vs x e fz hn hb => exact .glob b vs x e fz (hO b hn (Array.getElem?_eq_some_iff.1 hb).1) hb

theorem Ow.toSh {w : World} {O O' : Nat -> Prop} {t : T} {x : Value} {fp : List Nat} (h : Ow w O t x fp) (hO : ∀ b, ¬ O b -> b < w.heap.size -> ¬ O' b) (hf : ∀ b ∈ fp, ¬ O' b) : Rd w O' t.toSh x := by
 induction h with
 | rd h => exact h.toSh hO
 | arrNil s => exact .shNil s
 | arr s l b len cap cs e fps hb hl hc hm hsz hfl hr ih =>
   refine .sh s _ b 0 len cap cs e (0, 0) (hf b (by simp)) hb ?_ (by rw [T.toShL_length]; exact hl) hc fun i h => ?_
   ·rw [T.toShL_length, hl, hsz, Nat.zero_add]; exact Nat.mul_le_mul_right _ hc
   ·rw [T.toShL_get, Nat.zero_add]
    exact ih i _ fun b' hb' => hf b' (List.mem_cons_of_mem _ (q0k4 hb'))
 | box l b cs e fps hb hl hfl hr ih =>
   refine .pin _ 0 b 0 cs e (0, 0) (hf b (by simp)) hb (by rw [T.toShL_length]; omega) fun i h => ?_
   rw [T.toShL_get, Nat.zero_add]
   exact ih i _ fun b' hb' => hf b' (List.mem_cons_of_mem _ (q0k4 hb'))
 | agg l vs fps hl hfl hr ih =>
   refine .agg _ vs (by rw [T.toShL_length]; exact hl) fun i h => ?_
   rw [T.toShL_get]; exact ih i _ fun b' hb' => hf b' (q0k4 hb')
 | tup l vs fps hl hfl hr ih =>
   refine .tup _ vs (by rw [T.toShL_length]; exact hl) fun i h => ?_
   rw [T.toShL_get]; exact ih i _ fun b' hb' => hf b' (q0k4 hb')
 | bld => exact .any _

def vb (S : St) (bor : List Nat) (x : T) (a : A) : Prop :=
 match a with
 | .t y => maT x y
 | .own q => q ∈ bor /\ ∃ t, S.roots q = .live t [] /\ x = t.toSh
 | .sub q off m => q ∈ bor /\ ∃ s l, S.roots q = .live (.arr s l) [] /\ off + m * s <= l.length /\ x = .sh s (((T.toShL l).drop off).take (m * s))
 | .ptr q off => q ∈ bor /\ ∃ l, (S.roots q).cells = some (l, []) /\ 0 < l.length /\ x = .pin (T.toShL l) off
 | _ => False

mutual
def vt (S : St) (bor : List Nat) : T -> A -> Prop
 | .any, _ => True
 | .agg xs, a => (match a with | .agg as => vtL S bor xs as | .t y => T.agg xs = y | _ => False)
 | .fn f xs, a => (match a with | .fn f' as => f = f' /\ vtL S bor xs as | .t y => T.fn f xs = y | _ => False)
 | x, a => vb S bor x a
def vtL (S : St) (bor : List Nat) : List T -> List A -> Prop
 | [], as => as = []
 | x :: xs, as => (match as with | a :: as => vt S bor x a /\ vtL S bor xs as | [] => False)
end

mutual
def va (S : St) (srcs bor : List Nat) : A -> A -> Prop
 | .t x, a => vt S bor x a
 | .own j, a => (match a with | .own q => 1000000000 <= j /\ srcs[j - 1000000000]? = some q | _ => False)
 | .sub j o m, a => (match a with | .sub q o' m' => 1000000000 <= j /\ srcs[j - 1000000000]? = some q /\ o = o' /\ m = m' | _ => False)
 | .ptr j o, a => (match a with | .ptr q o' => 1000000000 <= j /\ srcs[j - 1000000000]? = some q /\ o = o' | _ => False)
 | .agg l, a => (match a with | .agg l' => vaL S srcs bor l l' | _ => False)
 | .tup l, a => (match a with | .tup l' => vaL S srcs bor l l' | _ => False)
 | .fn f l, a => (match a with | .fn f' l' => f = f' /\ vaL S srcs bor l l' | _ => False)
def vaL (S : St) (srcs bor : List Nat) : List A -> List A -> Prop
 | [], l => l = []
 | a :: l, l' => (match l' with | b :: l' => va S srcs bor a b /\ vaL S srcs bor l l' | [] => False)
end

section
variable {X : Nat -> Prop} {w0 : World} {O0 : Fr} {n : Nat} {S : St} {a : Act} {w : World} {hs : Nat -> Option Value} {fp : Nat -> List Nat} {srcs bor : List Nat} {O' : Nat -> Prop} {hs' : Nat -> Option Value}

theorem q0j5 (vs : List Value) (i : Nat) : vs.getD (i + 1) undef = vs.tail.getD i undef := by cases vs <;> simp [List.getD_eq_getElem?_getD]

theorem q0xe (g : Good X w0 O0 n S a w hs fp) (hO : ∀ b, ¬ Ob X fp b -> b < w.heap.size -> ¬ O' b) (hb : ∀ q ∈ bor, ∀ b ∈ fp q, ¬ O' b) {x : T} {y : A} {v : Value} (hx : Is w (Ob X fp) hs y v)
  (h : vb S bor x y) : Rd w O' x v := by
 cases y with
 | t y => cases hx with | t hx => exact (q0j9 h hx).mono (fun _ _ _ _ _ h => h) hO
 | own q =>
   obtain ⟨hq, t, ht, rfl⟩ := h
   have hr := g.root q
   rw [ht] at hr
   obtain ⟨z, hz, ho, _⟩ := hr
   have hz' := hx.own_inv
   rw [hz, Option.some.injEq] at hz'
   subst hz'
   exact ho.toSh hO (hb q hq)
 | sub q off m =>
   obtain ⟨hq, s, l, hr, hle, rfl⟩ := h
   rcases g.arr hr with ⟨hv, rfl, hfp, _⟩ | ⟨b, len, cap, cs, e, fps, hv, hheap, hl, hcap, hm, hsz, hf, hro, hfp, hlle, _⟩
   ·cases hx with
    | sub hr _ => rw [hv] at hr; cases hr
    | subZ hr => rw [hv] at hr; cases hr
    | subNil _ => simpa [T.toShL] using Rd.shNil s
   ·cases hx with
    | sub hr hc =>
      rw [hv] at hr; cases hr
      refine .sh s _ b off m _ cs e (0, 0) (hb q hq b (by rw [hfp]; simp)) hheap (by simp [T.toShL_length]; omega) (by simp [T.toShL_length]; omega) hc fun i hi => ?_
      have hi' : off + i < l.length := by simp [T.toShL_length] at hi; omega
      have e1 : (((T.toShL l).drop off).take (m * s))[i] = (l[off + i]).toSh := by simp [T.toShL_get]
      rw [e1]
      exact (hro (off + i) hi').toSh hO fun b' hb' => hb q hq b' (by rw [hfp]; exact List.mem_cons_of_mem _ (q0k4 hb'))
    | subZ hr =>
      simp only [Nat.zero_mul, List.take_zero]
      rw [hv] at hr; cases hr
      exact .sh s [] b 0 0 _ cs e (0, 0) (hb q hq b (by rw [hfp]; simp)) hheap (by simp) (by simp) (Nat.zero_le _) fun i hi => absurd hi (by simp)
    | subNil hr => rw [hv] at hr; cases hr
 | ptr q off =>
   obtain ⟨hq, l, hr, hl0, rfl⟩ := h
   obtain ⟨b, y, cs, e, fps, hy, hyb, hheap, hle, hf, hro, hfp, _⟩ := g.block hr hl0
   have hv := g.ptr_block hy hyb hx
   subst hv
   have := Rd.pin (w := w) (O := O') (T.toShL l) off b 0 cs e (0, 0) (hb q hq b (by rw [hfp]; simp)) hheap (by rw [T.toShL_length]; omega) (fun i hi => by
    rw [T.toShL_get, Nat.zero_add]
    exact (hro i (by rwa [T.toShL_length] at hi)).toSh hO fun b' hb' => hb q hq b' (by rw [hfp]; exact List.mem_cons_of_mem _ (q0k4 hb')))
   rwa [Nat.zero_add] at this
 | agg _ => exact h.elim
 | tup _ => exact h.elim
 | fn _ _ => exact h.elim

mutual
theorem q0xf (g : Good X w0 O0 n S a w hs fp) (hO : ∀ b, ¬ Ob X fp b -> b < w.heap.size -> ¬ O' b) (hb : ∀ q ∈ bor, ∀ b ∈ fp q, ¬ O' b) :
  ∀ (x : T) (y : A) {v : Value}, vt S bor x y -> Is w (Ob X fp) hs y v -> Rd w O' x v
 | .any, y, v, h, hx => .any _
 | .v _, y, v, h, hx => q0xe g hO hb hx (by simpa only [vt] using h)
 | .sh _ _, y, v, h, hx => q0xe g hO hb hx (by simpa only [vt] using h)
 | .arr _ _, y, v, h, hx => q0xe g hO hb hx (by simpa only [vt] using h)
 | .box _, y, v, h, hx => q0xe g hO hb hx (by simpa only [vt] using h)
 | .pin _ _, y, v, h, hx => q0xe g hO hb hx (by simpa only [vt] using h)
 | .tup _, y, v, h, hx => q0xe g hO hb hx (by simpa only [vt] using h)
 | .glob _ _, y, v, h, hx => q0xe g hO hb hx (by simpa only [vt] using h)
 | .bld _ _ _, y, v, h, hx => q0xe g hO hb hx (by simpa only [vt] using h)
 | .agg xs, y, v, h, hx => by
   cases y with
   | agg as =>
     simp only [vt] at h
     obtain ⟨vs, rfl, hl, hr⟩ := hx.agg_inv
     obtain ⟨h1, h2⟩ := q0xd g hO hb xs as h hr
     exact .agg xs vs (by omega) h2
   | t y =>
     simp only [vt] at h
     subst h
     cases hx with | t hx => exact hx.mono (fun _ _ _ _ _ h => h) hO
   | _ => simp [vt] at h
 | .fn f xs, y, v, h, hx => by
   cases y with
   | fn f' as =>
     simp only [vt] at h
     obtain ⟨rfl, h⟩ := h
     cases hx with | fn hl hr =>
     obtain ⟨h1, h2⟩ := q0xd g hO hb xs as h hr
     exact .fn f xs _ (by omega) h2
   | t y =>
     simp only [vt] at h
     subst h
     cases hx with | t hx => exact hx.mono (fun _ _ _ _ _ h => h) hO
   | _ => simp [vt] at h
theorem q0xd (g : Good X w0 O0 n S a w hs fp) (hO : ∀ b, ¬ Ob X fp b -> b < w.heap.size -> ¬ O' b) (hb : ∀ q ∈ bor, ∀ b ∈ fp q, ¬ O' b) :
  ∀ (xs : List T) (as : List A) {vs : List Value}, vtL S bor xs as -> (∀ i (h : i < as.length), Is w (Ob X fp) hs as[i] (vs.getD i undef)) -> xs.length = as.length /\ ∀ i (h : i < xs.length), Rd w O' xs[i] (vs.getD i undef)
 | [], as, vs, h, hx => by simp only [vtL] at h; subst h; exact ⟨rfl, fun i h => absurd h (by simp)⟩
 | x :: xs, [], vs, h, hx => by simp only [vtL] at h
 | x :: xs, b :: as, vs, h, hx => by
   simp only [vtL] at h
   have h0 := q0xf g hO hb x b h.1 (by have := hx 0 (by simp); simpa only [List.getElem_cons_zero] using this)
   obtain ⟨h1, h2⟩ := q0xd g hO hb xs as (vs := vs.tail) h.2 (fun i hi => by
    have := hx (i + 1) (by simpa using hi)
    rw [q0j5] at this
    simpa only [List.getElem_cons_succ] using this)
   refine ⟨by simp [h1], fun i hi => ?_⟩
   cases i with
   | zero => simpa only [List.getElem_cons_zero] using h0
   | succ i => rw [q0j5]; simpa only [List.getElem_cons_succ] using h2 i (by simpa using hi)
end

mutual
theorem q0x7 (g : Good X w0 O0 n S a w hs fp) (hO : ∀ b, ¬ Ob X fp b -> b < w.heap.size -> ¬ O' b) (hb : ∀ q ∈ bor, ∀ b ∈ fp q, ¬ O' b) (hh : ∀ i q, srcs[i]? = some q -> hs' (1000000000 + i) = hs q) :
  ∀ (a' y : A) {v : Value}, va S srcs bor a' y -> Is w (Ob X fp) hs y v -> Is w O' hs' a' v
 | .t x, y, v, h, hx => by simp only [va] at h; exact .t (q0xf g hO hb x y h hx)
 | .own j, y, v, h, hx => by
   cases y with
   | own q =>
     simp only [va] at h
     have := hh _ _ h.2
     rw [show 1000000000 + (j - 1000000000) = j by omega] at this
     cases hx with | own hr => exact .own (this.trans hr)
   | _ => simp [va] at h
 | .sub j o m, y, v, h, hx => by
   cases y with
   | sub q o' m' =>
     simp only [va] at h
     obtain ⟨h0, h1, rfl, rfl⟩ := h
     have := hh _ _ h1
     rw [show 1000000000 + (j - 1000000000) = j by omega] at this
     cases hx with
     | sub hr hc => exact .sub (this.trans hr) hc
     | subZ hr => exact .subZ (this.trans hr)
     | subNil hr => exact .subNil (this.trans hr)
   | _ => simp [va] at h
 | .ptr j o, y, v, h, hx => by
   cases y with
   | ptr q o' =>
     simp only [va] at h
     obtain ⟨h0, h1, rfl⟩ := h
     have := hh _ _ h1
     rw [show 1000000000 + (j - 1000000000) = j by omega] at this
     cases hx with
     | ptrS hr => exact .ptrS (this.trans hr)
     | ptrP hr => exact .ptrP (this.trans hr)
   | _ => simp [va] at h
 | .agg l, y, v, h, hx => by
   cases y with
   | agg l' =>
     simp only [va] at h
     cases hx with | agg hl hr => obtain ⟨h1, h2⟩ := q0x6 g hO hb hh l l' h hr; exact .agg (by omega) h2
   | _ => simp [va] at h
 | .tup l, y, v, h, hx => by
   cases y with
   | tup l' =>
     simp only [va] at h
     cases hx with | tup hl hr => obtain ⟨h1, h2⟩ := q0x6 g hO hb hh l l' h hr; exact .tup (by omega) h2
   | _ => simp [va] at h
 | .fn f l, y, v, h, hx => by
   cases y with
   | fn f' l' =>
     simp only [va] at h
     obtain ⟨rfl, h⟩ := h
     cases hx with | fn hl hr => obtain ⟨h1, h2⟩ := q0x6 g hO hb hh l l' h hr; exact .fn (by omega) h2
   | _ => simp [va] at h
theorem q0x6 (g : Good X w0 O0 n S a w hs fp) (hO : ∀ b, ¬ Ob X fp b -> b < w.heap.size -> ¬ O' b) (hb : ∀ q ∈ bor, ∀ b ∈ fp q, ¬ O' b) (hh : ∀ i q, srcs[i]? = some q -> hs' (1000000000 + i) = hs q) :
  ∀ (l l' : List A) {vs : List Value}, vaL S srcs bor l l' -> (∀ i (h : i < l'.length), Is w (Ob X fp) hs l'[i] (vs.getD i undef)) -> l.length = l'.length /\ ∀ i (h : i < l.length), Is w O' hs' l[i] (vs.getD i undef)
 | [], l', vs, h, hx => by simp only [vaL] at h; subst h; exact ⟨rfl, fun i h => absurd h (by simp)⟩
 | a' :: l, [], vs, h, hx => by simp only [vaL] at h
 | a' :: l, b :: l', vs, h, hx => by
   simp only [vaL] at h
   have h0 := q0x7 g hO hb hh a' b h.1 (by have := hx 0 (by simp); simpa only [List.getElem_cons_zero] using this)
   obtain ⟨h1, h2⟩ := q0x6 g hO hb hh l l' (vs := vs.tail) h.2 (fun i hi => by
    have := hx (i + 1) (by simpa using hi)
    rw [q0j5] at this
    simpa only [List.getElem_cons_succ] using this)
   refine ⟨by simp [h1], fun i hi => ?_⟩
   cases i with
   | zero => simpa only [List.getElem_cons_zero] using h0
   | succ i => rw [q0j5]; simpa only [List.getElem_cons_succ] using h2 i (by simpa using hi)
end
end

def rid (d k : Nat) : Nat := if k = 0 then d else 1000 * (d + 1) + k

mutual
def absT (d : Nat) : Nat -> T -> A × List (Nat × T) × Nat
 | k, .arr s l => (.own (rid d k), [(rid d k, .arr s l)], k + 1)
 | k, .box l => (.own (rid d k), [(rid d k, .box l)], k + 1)
 | k, .bld ty e bs => (.own (rid d k), [(rid d k, .bld ty e bs)], k + 1)
 | k, .agg l => ((.agg (absL d k l).1), (absL d k l).2.1, (absL d k l).2.2)
 | k, .tup l => ((.tup (absL d k l).1), (absL d k l).2.1, (absL d k l).2.2)
 | k, t => (.t t, [], k)
def absL (d : Nat) : Nat -> List T -> List A × List (Nat × T) × Nat
 | k, [] => ([], [], k)
 | k, t :: l => ((absT d k t).1 :: (absL d (absT d k t).2.2 l).1, (absT d k t).2.1 ++ (absL d (absT d k t).2.2 l).2.1, (absL d (absT d k t).2.2 l).2.2)
end

def updL (f : Nat -> Root) : List (Nat × T) -> Nat -> Root
 | [] => f
 | (j, t) :: l => upd (updL f l) j (.live t [])

def updS (f : Nat -> Root) : List Nat -> List T -> Nat -> Root
 | q :: qs, t :: ts => upd (updS f qs ts) q (rootOf t)
 | _, _ => f

def q09w (S : St) : List (Nat × T) -> Prop
 | [] => True
 | (j, _) :: l => S.roots j = .free /\ q09w S l

def q00p (S : St) (d : Option Nat) (srcs : List Nat) (rout : List T) (res : T) (K : St -> Prop) : Prop :=
 match d with
 | some d => q09w S (absT d 0 res).2.1 /\ (absT d 0 res).2.2 <= 1000 /\ K { env := upd S.env d (absT d 0 res).1, roots := updL (updS S.roots srcs rout) (absT d 0 res).2.1 }
 | none => K { env := S.env, roots := updS S.roots srcs rout }
end Go.Ab

/- The abstract layer, part 17: the state behind a call. -/
namespace Go.Ab

mutual
def T.noSh : T -> Prop
 | .sh _ _ => False
 | .pin _ _ => False
 | .glob _ _ => False
 | .arr _ l => T.noShL l
 | .box l => T.noShL l
 | .fn _ l => T.noShL l
 | .agg l => T.noShL l
 | .tup l => T.noShL l
 | _ => True
def T.noShL : List T -> Prop
 | [] => True
 | t :: l => T.noSh t /\ T.noShL l
end
theorem T.noShL_iff : ∀ l : List T, T.noShL l ↔ ∀ t ∈ l, t.noSh
 | [] => by simp [T.noShL]
 | t :: l => by simp [T.noShL, T.noShL_iff l]

theorem Rd.noSh {w : World} {O O' : Nat -> Prop} {t : T} {x : Value} (h : Rd w O t x) (hn : t.noSh) : Rd w O' t x := by
 induction h with
 | any x => exact .any x
 | v x => exact .v x
 | shNil s => exact hn.elim
 | shZ s ad cap => exact hn.elim
 | sh => exact hn.elim
 | pin => exact hn.elim
 | fn f cap vs hl hr ih => exact .fn f cap vs hl fun i h => ih i h ((T.noShL_iff cap).1 hn _ (List.getElem_mem _))
 | agg l vs hl hr ih => exact .agg l vs hl fun i h => ih i h ((T.noShL_iff l).1 hn _ (List.getElem_mem _))
 | tup l vs hl hr ih => exact .tup l vs hl fun i h => ih i h ((T.noShL_iff l).1 hn _ (List.getElem_mem _))
 | glob => exact hn.elim
theorem Ow.noSh {w : World} {O O' : Nat -> Prop} {t : T} {x : Value} {fp : List Nat} (h : Ow w O t x fp) (hn : t.noSh) : Ow w O' t x fp := by
 induction h with
 | rd h => exact .rd (h.noSh hn)
 | arrNil s => exact .arrNil s
 | arr s l b len cap cs e fps hb hl hc hm hsz hfl hr ih => exact .arr s l b len cap cs e fps hb hl hc hm hsz hfl fun i h => ih i h ((T.noShL_iff l).1 hn _ (List.getElem_mem _))
 | box l b cs e fps hb hl hfl hr ih => exact .box l b cs e fps hb hl hfl fun i h => ih i h ((T.noShL_iff l).1 hn _ (List.getElem_mem _))
 | agg l vs fps hl hfl hr ih => exact .agg l vs fps hl hfl fun i h => ih i h ((T.noShL_iff l).1 hn _ (List.getElem_mem _))
 | tup l vs fps hl hfl hr ih => exact .tup l vs fps hl hfl fun i h => ih i h ((T.noShL_iff l).1 hn _ (List.getElem_mem _))
 | bld ty e bs b p v g hp hb hv => exact .bld ty e bs b p v g hp hb hv

theorem q0pp {d j k : Nat} (h : rid d j = rid d k) : j = k := by
 unfold rid at h; split at h <;> split at h <;> omega

structure Pieces (w : World) (O : Nat -> Prop) (d k k' : Nat) (rs : List (Nat × T)) (xs : List Value) (fs : List (List Nat)) (f : List Nat) : Prop where
 xl : xs.length = rs.length
 fl : fs.length = rs.length
 ow : ∀ i (h : i < rs.length), Ow w O rs[i].2 (xs.getD i undef) (fs.getD i []) /\ rs[i].2.rooty = true
 sub : fs.flatten.Sublist f
 le : k' = k + rs.length
 ids : ∀ i (h : i < rs.length), rs[i].1 = rid d (k + i)

section
variable {w : World} {O : Nat -> Prop}

theorem Pieces.append {d k k1 k2 : Nat} {rs1 rs2 : List (Nat × T)} {xs1 xs2 : List Value} {fs1 fs2 : List (List Nat)} {f1 f2 : List Nat} (h1 : Pieces w O d k k1 rs1 xs1 fs1 f1) (h2 : Pieces w O d k1 k2 rs2 xs2 fs2 f2) :
  Pieces w O d k k2 (rs1 ++ rs2) (xs1 ++ xs2) (fs1 ++ fs2) (f1 ++ f2) := by
 refine ⟨by simp [h1.xl, h2.xl], by simp [h1.fl, h2.fl], fun i h => ?_, ?_, by rw [h2.le, h1.le]; simp; omega, fun i h => ?_⟩
 ·by_cases hi : i < rs1.length
  ·rw [List.getElem_append_left hi, List.getD_eq_getElem?_getD, List.getElem?_append_left (by rw [h1.xl]; exact hi), List.getD_eq_getElem?_getD, List.getElem?_append_left (by rw [h1.fl]; exact hi)]
   have := h1.ow i hi
   rwa [List.getD_eq_getElem?_getD, List.getD_eq_getElem?_getD] at this
  ·have hlt : i - rs1.length < rs2.length := by simp at h; omega
   rw [List.getElem_append_right (by omega), List.getD_eq_getElem?_getD, List.getElem?_append_right (by rw [h1.xl]; omega), List.getD_eq_getElem?_getD, List.getElem?_append_right (by rw [h1.fl]; omega), h1.xl, h1.fl]
   have := h2.ow (i - rs1.length) hlt
   rwa [List.getD_eq_getElem?_getD, List.getD_eq_getElem?_getD] at this
 ·rw [List.flatten_append]; exact List.Sublist.append h1.sub h2.sub
 ·by_cases hi : i < rs1.length
  ·rw [List.getElem_append_left hi]; exact h1.ids i hi
  ·have hlt : i - rs1.length < rs2.length := by simp at h; omega
   rw [List.getElem_append_right (by omega), h2.ids _ hlt, h1.le]
   congr 1; omega

theorem Pieces.single {d k : Nat} {t : T} {x : Value} {f : List Nat} (h : Ow w O t x f) (hrt : t.rooty = true) : Pieces w O d k (k + 1) [(rid d k, t)] [x] [f] f := by
 refine ⟨rfl, rfl, fun i hi => ?_, by simp, rfl, fun i hi => ?_⟩
 ·have : i = 0 := by simpa using hi
  subst this; exact ⟨h, hrt⟩
 ·have : i = 0 := by simpa using hi
  subst this; rfl

mutual
theorem q00l (d : Nat) : ∀ (t : T) (k : Nat) {x : Value} {f : List Nat}, Ow w O t x f -> ∃ (xs : List Value) (fs : List (List Nat)), Pieces w O d k (absT d k t).2.2 (absT d k t).2.1 xs fs f ∧
  ∀ hs' : Nat -> Option Value, (∀ i (h : i < (absT d k t).2.1.length), hs' (absT d k t).2.1[i].1 = some (xs.getD i undef)) -> Is w O hs' (absT d k t).1 x
 | .arr s l, k, x, f, h => ⟨[x], [f], Pieces.single h rfl, fun hs' hh => .own (hh 0 (by simp [absT]))⟩
 | .box l, k, x, f, h => ⟨[x], [f], Pieces.single h rfl, fun hs' hh => .own (hh 0 (by simp [absT]))⟩
 | .any, k, x, f, h => ⟨[], [], ⟨rfl, rfl, fun i hi => absurd hi (by simp [absT]), List.nil_sublist _, rfl, fun i hi => absurd hi (by simp [absT])⟩, fun hs' hh => .t (.any _)⟩
 | .v y, k, x, f, h => ⟨[], [], ⟨rfl, rfl, fun i hi => absurd hi (by simp [absT]), List.nil_sublist _, rfl, fun i hi => absurd hi (by simp [absT])⟩, fun hs' hh => .t (h.flat_rd rfl).1⟩
 | .sh s l, k, x, f, h => ⟨[], [], ⟨rfl, rfl, fun i hi => absurd hi (by simp [absT]), List.nil_sublist _, rfl, fun i hi => absurd hi (by simp [absT])⟩, fun hs' hh => .t (h.flat_rd rfl).1⟩
 | .pin l o, k, x, f, h => ⟨[], [], ⟨rfl, rfl, fun i hi => absurd hi (by simp [absT]), List.nil_sublist _, rfl, fun i hi => absurd hi (by simp [absT])⟩, fun hs' hh => .t (h.flat_rd rfl).1⟩
 | .fn g l, k, x, f, h => ⟨[], [], ⟨rfl, rfl, fun i hi => absurd hi (by simp [absT]), List.nil_sublist _, rfl, fun i hi => absurd hi (by simp [absT])⟩, fun hs' hh => .t (h.flat_rd rfl).1⟩
 | .glob b vs, k, x, f, h => ⟨[], [], ⟨rfl, rfl, fun i hi => absurd hi (by simp [absT]), List.nil_sublist _, rfl, fun i hi => absurd hi (by simp [absT])⟩, fun hs' hh => .t (by cases h with | rd h => exact h)⟩
 | .bld t e bs, k, x, f, h => ⟨[x], [f], Pieces.single h rfl, fun hs' hh => .own (hh 0 (by simp [absT]))⟩
 | .agg l, k, x, f, h => by
   have key : ∀ (vs : List Value) (fps : List (List Nat)), vs.length = l.length -> fps.length = l.length -> (∀ i (h : i < l.length), Ow w O l[i] (vs.getD i undef) (fps.getD i [])) -> fps.flatten.Sublist f -> x = .agg vs.toArray →
     ∃ (xs : List Value) (fs : List (List Nat)), Pieces w O d k (absT d k (.agg l)).2.2 (absT d k (.agg l)).2.1 xs fs f ∧
       ∀ hs' : Nat -> Option Value, (∀ i (h : i < (absT d k (.agg l)).2.1.length), hs' (absT d k (.agg l)).2.1[i].1 = some (xs.getD i undef)) -> Is w O hs' (absT d k (.agg l)).1 x := by
    intro vs fps hl hf hr hsub hx
    obtain ⟨xs, fs, hp, hi⟩ := q00g d l k hl hf hr
    refine ⟨xs, fs, ⟨hp.xl, hp.fl, hp.ow, hp.sub.trans hsub, hp.le, hp.ids⟩, fun hs' hh => ?_⟩
    obtain ⟨h1, h2⟩ := hi hs' hh
    rw [hx]; exact .agg (by omega) h2
   cases h with
   | rd h => cases h with | agg _ vs hl hr => exact key vs (List.replicate l.length []) hl (by simp) (q0nk hr) (by simp) rfl
   | agg _ vs fps hl hf hr => exact key vs fps hl hf hr (List.Sublist.refl _) rfl
 | .tup l, k, x, f, h => by
   have key : ∀ (vs : List Value) (fps : List (List Nat)), vs.length = l.length -> fps.length = l.length -> (∀ i (h : i < l.length), Ow w O l[i] (vs.getD i undef) (fps.getD i [])) -> fps.flatten.Sublist f -> x = .tuple vs.toArray →
     ∃ (xs : List Value) (fs : List (List Nat)), Pieces w O d k (absT d k (.tup l)).2.2 (absT d k (.tup l)).2.1 xs fs f ∧
       ∀ hs' : Nat -> Option Value, (∀ i (h : i < (absT d k (.tup l)).2.1.length), hs' (absT d k (.tup l)).2.1[i].1 = some (xs.getD i undef)) -> Is w O hs' (absT d k (.tup l)).1 x := by
    intro vs fps hl hf hr hsub hx
    obtain ⟨xs, fs, hp, hi⟩ := q00g d l k hl hf hr
    refine ⟨xs, fs, ⟨hp.xl, hp.fl, hp.ow, hp.sub.trans hsub, hp.le, hp.ids⟩, fun hs' hh => ?_⟩
    obtain ⟨h1, h2⟩ := hi hs' hh
    rw [hx]; exact .tup (by omega) h2
   cases h with
   | rd h => cases h with | tup _ vs hl hr => exact key vs (List.replicate l.length []) hl (by simp) (q0nk hr) (by simp) rfl
   | tup _ vs fps hl hf hr => exact key vs fps hl hf hr (List.Sublist.refl _) rfl
theorem q00g (d : Nat) : ∀ (l : List T) (k : Nat) {vs : List Value} {fps : List (List Nat)}, vs.length = l.length -> fps.length = l.length -> (∀ i (h : i < l.length), Ow w O l[i] (vs.getD i undef) (fps.getD i [])) →
  ∃ (xs : List Value) (fs : List (List Nat)), Pieces w O d k (absL d k l).2.2 (absL d k l).2.1 xs fs fps.flatten ∧
    ∀ hs' : Nat -> Option Value, (∀ i (h : i < (absL d k l).2.1.length), hs' (absL d k l).2.1[i].1 = some (xs.getD i undef)) -> (absL d k l).1.length = l.length /\ ∀ i (h : i < (absL d k l).1.length), Is w O hs' (absL d k l).1[i] (vs.getD i undef)
 | [], k, vs, fps, hv, hf, hr => ⟨[], [], ⟨rfl, rfl, fun i hi => absurd hi (by simp [absL]), List.nil_sublist _, rfl, fun i hi => absurd hi (by simp [absL])⟩, fun hs' hh => ⟨rfl, fun i h => absurd h (by simp [absL])⟩⟩
 | t :: l, k, [], fps, hv, hf, hr => by simp at hv
 | t :: l, k, v :: vs, [], hv, hf, hr => by simp at hf
 | t :: l, k, v :: vs, f :: fps, hv, hf, hr => by
   obtain ⟨xs1, fs1, hp1, hi1⟩ := q00l d t k (by have := hr 0 (by simp); simpa only [List.getElem_cons_zero, List.getD_cons_zero] using this)
   obtain ⟨xs2, fs2, hp2, hi2⟩ := q00g d l (absT d k t).2.2 (vs := vs) (fps := fps) (by simpa using hv) (by simpa using hf)
    (fun i h => by have := hr (i + 1) (by simpa using h); simpa only [List.getElem_cons_succ, List.getD_cons_succ] using this)
   refine ⟨xs1 ++ xs2, fs1 ++ fs2, by simpa only [absL, List.flatten_cons] using hp1.append hp2, fun hs' hh => ?_⟩
   simp only [absL] at hh ⊢
   have g1 := hi1 hs' fun i h => by
    have := hh i (by simp; omega)
    rw [List.getElem_append_left h, List.getD_eq_getElem?_getD, List.getElem?_append_left (by rw [hp1.xl]; exact h)] at this
    rw [this, List.getD_eq_getElem?_getD]
   obtain ⟨g2, g3⟩ := hi2 hs' fun i h => by
    have := hh ((absT d k t).2.1.length + i) (by simp; omega)
    rw [List.getElem_append_right (by omega), List.getD_eq_getElem?_getD, List.getElem?_append_right (by rw [hp1.xl]; omega), hp1.xl] at this
    simp only [Nat.add_sub_cancel_left] at this
    rw [this, List.getD_eq_getElem?_getD]
   refine ⟨by simp [g2], fun i h => ?_⟩
   cases i with
   | zero => simpa only [List.getElem_cons_zero, List.getD_cons_zero] using g1
   | succ i => have := g3 i (by simpa using h); simpa only [List.getElem_cons_succ, List.getD_cons_succ] using this
end

theorem q0wy {f : Nat -> Root} : ∀ {rs : List (Nat × T)} {r : Nat}, (∃ i, ∃ h : i < rs.length, rs[i].1 = r /\ updL f rs r = .live rs[i].2 []) ∨ ((∀ i (h : i < rs.length), rs[i].1 ≠ r) /\ updL f rs r = f r)
 | [], r => .inr ⟨fun i h => absurd h (by simp), rfl⟩
 | (j, t) :: rs, r => by
   by_cases h : r = j
   ·subst h; exact .inl ⟨0, by simp, rfl, by simp [updL, q0x2]⟩
   ·rcases q0wy (f := f) (rs := rs) (r := r) with ⟨i, hi, h1, h2⟩ | ⟨h1, h2⟩
    ·exact .inl ⟨i + 1, by simpa using hi, by simpa using h1, by simp only [updL, q0x1 _ _ _ _ h, List.getElem_cons_succ]; exact h2⟩
    ·refine .inr ⟨fun i hi => ?_, by simp only [updL, q0x1 _ _ _ _ h]; exact h2⟩
     cases i with
     | zero => simpa using Ne.symm h
     | succ i => simpa using h1 i (by simpa using hi)
theorem q0wz {f : Nat -> Root} : ∀ {srcs : List Nat} {ts : List T} {r : Nat}, srcs.length = ts.length -> (∃ i, ∃ h : i < srcs.length, ∃ h' : i < ts.length, srcs[i] = r /\ updS f srcs ts r = rootOf ts[i]) ∨ ((∀ i (h : i < srcs.length), srcs[i] ≠ r) /\ updS f srcs ts r = f r)
 | [], [], r, _ => .inr ⟨fun i h => absurd h (by simp), rfl⟩
 | [], _ :: _, r, h => by simp at h
 | _ :: _, [], r, h => by simp at h
 | q :: srcs, t :: ts, r, hl => by
   by_cases h : r = q
   ·subst h; exact .inl ⟨0, by simp, by simp, rfl, by simp [updS, q0x2]⟩
   ·rcases q0wz (f := f) (srcs := srcs) (ts := ts) (r := r) (by simpa using hl) with ⟨i, hi, hi', h1, h2⟩ | ⟨h1, h2⟩
    ·exact .inl ⟨i + 1, by simpa using hi, by simpa using hi', by simpa using h1, by simp only [updS, q0x1 _ _ _ _ h, List.getElem_cons_succ]; exact h2⟩
    ·refine .inr ⟨fun i hi => ?_, by simp only [updS, q0x1 _ _ _ _ h]; exact h2⟩
     cases i with
     | zero => simpa using Ne.symm h
     | succ i => simpa using h1 i (by simpa using hi)
theorem q09y {S : St} : ∀ {rs : List (Nat × T)}, q09w S rs -> ∀ i (h : i < rs.length), S.roots rs[i].1 = .free
 | [], _, i, h => absurd h (by simp)
 | (j, t) :: rs, hf, 0, h => hf.1
 | (j, t) :: rs, hf, i + 1, h => q09y (rs := rs) hf.2 i (by simpa using h)
end
end Go.Ab

/- The abstract layer, part 18: the rule for a call. -/
namespace Go.Ab

section
variable {P : Program} {X : Nat -> Prop} {w0 : World} {O0 : Fr} {n : Nat} {S : St} {a : Act} {w : World} {hs : Nat -> Option Value} {fp : Nat -> List Nat}

def q0tg (S : St) : List Nat -> List T -> Prop
 | [], [] => True
 | q :: qs, t :: ts => S.roots q = .live t [] /\ q0tg S qs ts
 | _, _ => False

theorem q0th : ∀ {qs : List Nat} {ts : List T}, q0tg S qs ts -> qs.length = ts.length /\ ∀ i (h : i < qs.length) (h' : i < ts.length), S.roots qs[i] = .live ts[i] []
 | [], [], _ => ⟨rfl, fun i h => absurd h (by simp)⟩
 | [], _ :: _, h => by simp [q0tg] at h
 | _ :: _, [], h => by simp [q0tg] at h
 | q :: qs, t :: ts, h => by
   obtain ⟨h1, h2⟩ := q0th h.2
   refine ⟨by simp [h1], fun i hi hi' => ?_⟩
   cases i with
   | zero => exact h.1
   | succ i => exact h2 i (by simpa using hi) (by simpa using hi')

theorem q0iz {α : Type} : ∀ {ks : List Nat} {vs : List α}, ks.length = vs.length -> ks.Nodup -> ∀ i (h : i < ks.length) (h' : i < vs.length), (ks.zip vs).lookup ks[i] = some vs[i]
 | [], _, _, _, i, h, _ => absurd h (by simp)
 | _ :: _, [], h, _, _, _, _ => by simp at h
 | k :: ks, v :: vs, hl, hn, i, h, h' => by
   cases i with
   | zero => simp
   | succ i =>
     have hne : (ks[i]'(by simpa using h) == k) = false := by
      have := (List.nodup_cons.1 hn).1
      simp only [beq_eq_false_iff_ne]
      rintro e; exact this (e ▸ List.getElem_mem _)
     simp only [List.getElem_cons_succ, List.zip_cons_cons, List.lookup_cons, hne]
     exact q0iz (by simpa using hl) (List.nodup_cons.1 hn).2 i _ _
theorem q0j0 {α : Type} : ∀ {ks : List Nat} {vs : List α} {r : Nat}, r ∉ ks -> (ks.zip vs).lookup r = none
 | [], _, _, _ => by simp
 | _ :: _, [], _, _ => by simp
 | k :: ks, v :: vs, r, h => by
   have h1 : (r == k) = false := by simpa using fun e => h (by simp [e])
   simp only [List.zip_cons_cons, List.lookup_cons, h1]
   exact q0j0 fun hm => h (List.mem_cons_of_mem _ hm)

theorem Good.after0 (g : Good X w0 O0 n S a w hs fp) {srcs : List Nat} (hsn : srcs.Nodup) {rin rout : List T} (hsrc : q0tg S srcs rin) (hrl : rout.length = rin.length) {v : Value} {res : T} {fr : List Nat} {fp' : Nat -> List Nat} {w' : World} {Xc : Nat -> Prop} {hsc : Nat -> Option Value} {fpc : Nat -> List Nat}
  (hhc : ∀ i q, srcs[i]? = some q -> hsc (1000000000 + i) = hs q) (hfc : ∀ j b, b ∈ fpc j -> ∃ q, q ∈ srcs /\ b ∈ fp q)
  (out : Out Xc w hsc fpc v res rout fr fp' w') {ON : Nat -> Prop} (hON : ∀ b, ON b ↔ X b ∨ (∃ q, q ∉ srcs /\ b ∈ fp q) ∨ (∃ j, b ∈ fp' j) ∨ b ∈ fr)
  (hroot : ∀ i t, rout[i]? = some t -> ∃ x, hsc (1000000000 + i) = some x /\ Ow w' ON t x (fp' (1000000000 + i)) /\ (t.rooty = true ∨ t = .any))
  {dd : Nat} {rs : List (Nat × T)} {xs : List Value} {fs : List (List Nat)} (hp : Pieces w' ON dd 0 rs.length rs xs fs fr) (hfree : q09w S rs) (hsmall : ∀ i (h : i < rs.length), rs[i].1 < 1000000000) :
  ∃ hs' fp'', Good X w0 O0 n { env := S.env, roots := updL (updS S.roots srcs rout) rs } a w' hs' fp'' /\ (∀ i (h : i < rs.length), hs' rs[i].1 = some (xs.getD i Go.undef)) /\ (∀ b, ¬ ON b -> ¬ Ob X fp'' b) := by
 obtain ⟨hsl, hsg⟩ := q0th hsrc
 have hsrl : srcs.length = rout.length := by omega
 have hframe : ∀ b, b < w.heap.size -> (∀ q ∈ srcs, b ∉ fp q) -> w'.heap[b]? = w.heap[b]? := fun b hb h => out.frame b hb fun j hj => by
  obtain ⟨q, hq, hbq⟩ := hfc j b hj; exact h q hq hbq
 have hk : q009 (fun b => ¬ Ob X fp b) w w' := fun b cs e fz hn hb => by
  rw [hframe b (Array.getElem?_eq_some_iff.1 hb).1 fun q _ hq => hn (.inr ⟨q, hq⟩)]; exact hb
 have hkf : ∀ r, r ∉ srcs -> ∀ b ∈ fp r, w'.heap[b]? = w.heap[b]? := fun r hr b hb => hframe b (g.lt hb) fun q hq hbq => hr (by have := g.disj r q b hb hbq; rw [this]; exact hq)
 have hold : ∀ j b, b ∈ fp' j -> (∃ q, q ∈ srcs /\ b ∈ fp q) ∨ w.heap.size <= b := fun j b hb => (out.old j b hb).imp (fun ⟨j, hj⟩ => hfc j b hj) id
 have hrold : ∀ b, b ∈ fr -> (∃ q, q ∈ srcs /\ b ∈ fp q) ∨ w.heap.size <= b := fun b hb => (out.rold b hb).imp (fun ⟨j, hj⟩ => hfc j b hj) id
 have hids : (rs.map (·.1)).Nodup := by
  refine List.pairwise_iff_getElem.2 fun i j hi hj hij => ?_
  rw [List.getElem_map, List.getElem_map, hp.ids i (by simpa using hi), hp.ids j (by simpa using hj)]
  intro e; have := q0pp e; omega
 have hidm : ∀ i (h : i < rs.length), rs[i].1 ∈ rs.map (·.1) := fun i h => List.mem_map.2 ⟨rs[i], List.getElem_mem _, rfl⟩
 have hidfree : ∀ r ∈ rs.map (·.1), S.roots r = .free := fun r hr => by
  obtain ⟨p, hpm, rfl⟩ := List.mem_map.1 hr
  obtain ⟨i, hi, rfl⟩ := List.mem_iff_getElem.1 hpm
  exact q09y hfree i hi
 have hsrclive : ∀ q ∈ srcs, ∃ t, S.roots q = .live t [] := fun q hq => by
  obtain ⟨i, hi, rfl⟩ := List.mem_iff_getElem.1 hq
  exact ⟨_, hsg i hi (by omega)⟩
 have hsrcid : ∀ q ∈ srcs, q ∉ rs.map (·.1) := fun q hq hm => by
  obtain ⟨t, ht⟩ := hsrclive q hq
  rw [hidfree q hm] at ht; cases ht
 let hs' : Nat -> Option Value := fun r => match ((rs.map (·.1)).zip xs).lookup r with | some x => some x | none => hs r
 let fp'' : Nat -> List Nat := fun r => match ((rs.map (·.1)).zip fs).lookup r with | some f => f | none => match (srcs.zip (List.range srcs.length)).lookup r with | some i => fp' (1000000000 + i) | none => fp r
 have hsA : ∀ i (h : i < rs.length), hs' rs[i].1 = some (xs.getD i Go.undef) := fun i h => by
  have := q0iz (ks := rs.map (·.1)) (vs := xs) (by simp [hp.xl]) hids i (by simpa using h) (by rw [hp.xl]; exact h)
  simp only [List.getElem_map] at this
  simp only [hs', this]
  rw [List.getD_eq_getElem?_getD, List.getElem?_eq_getElem (by rw [hp.xl]; exact h)]; rfl
 have hsB : ∀ r, r ∉ rs.map (·.1) -> hs' r = hs r := fun r h => by simp only [hs', q0j0 h]
 have fpA : ∀ i (h : i < rs.length), fp'' rs[i].1 = fs.getD i [] := fun i h => by
  have := q0iz (ks := rs.map (·.1)) (vs := fs) (by simp [hp.fl]) hids i (by simpa using h) (by rw [hp.fl]; exact h)
  simp only [List.getElem_map] at this
  simp only [fp'', this]
  rw [List.getD_eq_getElem?_getD, List.getElem?_eq_getElem (by rw [hp.fl]; exact h)]; rfl
 have fpB : ∀ i (h : i < srcs.length), fp'' srcs[i] = fp' (1000000000 + i) := fun i h => by
  have h1 := q0j0 (vs := fs) (hsrcid _ (List.getElem_mem h))
  have h2 := q0iz (ks := srcs) (vs := List.range srcs.length) (by simp) hsn i h (by simpa using h)
  simp only [List.getElem_range] at h2
  simp only [fp'', h1, h2]
 have fpC : ∀ r, r ∉ rs.map (·.1) -> r ∉ srcs -> fp'' r = fp r := fun r h1 h2 => by simp only [fp'', q0j0 h1, q0j0 h2]
 have hh : ∀ r y, hs r = some y -> hs' r = some y := fun r y h => by
  by_cases hm : r ∈ rs.map (·.1)
  ·have := g.root r
   rw [hidfree r hm] at this
   rw [this.1] at h; cases h
  ·rw [hsB r hm]; exact h
 -- three kinds of roots
 have kinds : ∀ r, (∃ i, ∃ h : i < rs.length, r = rs[i].1) ∨ (∃ i, ∃ h : i < srcs.length, r = srcs[i]) ∨ (r ∉ rs.map (·.1) /\ r ∉ srcs) := fun r => by
  by_cases h1 : r ∈ rs.map (·.1)
  ·obtain ⟨p, hpm, rfl⟩ := List.mem_map.1 h1
   obtain ⟨i, hi, rfl⟩ := List.mem_iff_getElem.1 hpm
   exact .inl ⟨i, hi, rfl⟩
  ·by_cases h2 : r ∈ srcs
   ·obtain ⟨i, hi, rfl⟩ := List.mem_iff_getElem.1 h2; exact .inr (.inl ⟨i, hi, rfl⟩)
   ·exact .inr (.inr ⟨h1, h2⟩)
 have where_ : ∀ r b, b ∈ fp'' r -> (∃ i, ∃ h : i < rs.length, r = rs[i].1 /\ b ∈ fs.getD i [] /\ b ∈ fr) ∨ (∃ i, ∃ h : i < srcs.length, r = srcs[i] /\ b ∈ fp' (1000000000 + i)) ∨ (r ∉ rs.map (·.1) /\ r ∉ srcs /\ b ∈ fp r) := fun r b hb => by
  rcases kinds r with ⟨i, h, rfl⟩ | ⟨i, h, rfl⟩ | ⟨h1, h2⟩
  ·rw [fpA i h] at hb; exact .inl ⟨i, h, rfl, hb, hp.sub.subset (q0k4 hb)⟩
  ·rw [fpB i h] at hb; exact .inr (.inl ⟨i, h, rfl, hb⟩)
  ·rw [fpC r h1 h2] at hb; exact .inr (.inr ⟨h1, h2, hb⟩)
 have hOO : ∀ b, ¬ ON b -> ¬ Ob X fp'' b := by
  rintro b h1 (h | ⟨r, hr⟩)
  ·exact h1 ((hON b).2 (.inl h))
  ·rcases where_ r b hr with ⟨i, h, rfl, _, h2⟩ | ⟨i, h, rfl, h2⟩ | ⟨h2, h3, h4⟩
   ·exact h1 ((hON b).2 (.inr (.inr (.inr h2))))
   ·exact h1 ((hON b).2 (.inr (.inr (.inl ⟨_, h2⟩))))
   ·exact h1 ((hON b).2 (.inr (.inl ⟨r, h3, h4⟩)))
 have hO : ∀ b, ¬ Ob X fp b -> b < w.heap.size -> ¬ Ob X fp'' b := by
  rintro b h1 hlt (h | ⟨r, hr⟩)
  ·exact h1 (.inl h)
  ·rcases where_ r b hr with ⟨i, h, rfl, _, h2⟩ | ⟨i, h, rfl, h2⟩ | ⟨h2, h3, h4⟩
   ·rcases hrold b h2 with ⟨q, _, hq⟩ | h2
    ·exact h1 (.inr ⟨q, hq⟩)
    ·omega
   ·rcases hold _ b h2 with ⟨q, _, hq⟩ | h2
    ·exact h1 (.inr ⟨q, hq⟩)
    ·omega
   ·exact h1 (.inr ⟨r, h4⟩)
 -- a block of an untouched root is in no part that the call has left
 have apart : ∀ r b, r ∉ srcs -> b ∈ fp r -> (∀ j, b ∉ fp' j) /\ b ∉ fr := fun r b hr hb => by
  refine ⟨fun j hj => ?_, fun hf => ?_⟩
  ·rcases hold j b hj with ⟨q, hq, hbq⟩ | h
   ·have := g.disj r q b hb hbq; exact hr (this ▸ hq)
   ·have := g.lt hb; omega
  ·rcases hrold b hf with ⟨q, hq, hbq⟩ | h
   ·have := g.disj r q b hb hbq; exact hr (this ▸ hq)
   ·have := g.lt hb; omega
 have hfsn : fs.flatten.Nodup := hp.sub.nodup out.rnodup
 refine ⟨hs', fp'', ⟨g.size, g.defers.keep fun D _ hD => by rw [hframe D (Array.getElem?_eq_some_iff.1 hD).1 fun q _ hq => (g.notMark hD q hq).elim]; exact hD, fun i => (g.env i).mono hk hO hh, fun r => ?_, fun r r' b hr hr' => ?_, fun r => ?_, fun r b hb => ?_, fun b hX => Nat.lt_of_lt_of_le (g.xold b hX) out.size, g.xout, fun r b hb => ?_, ?_, fun r t lk hr => ?_, fun r y hr => ?_, g.small, fun r y hr0 hr => ?_⟩, hsA, hOO⟩
 ·show q00d _ _ _ (updL (updS S.roots srcs rout) rs r) _ _
  rcases q0wy (f := updS S.roots srcs rout) (rs := rs) (r := r) with ⟨i, hi, rfl, h2⟩ | ⟨h1, h2⟩
  ·rw [h2, hsA i hi, fpA i hi]
   exact ⟨_, rfl, (hp.ow i hi).1.mono (fun _ _ _ _ _ h => h) (fun b h _ => hOO b h) (fun _ _ _ _ _ h => h), fun p hp => by simp at hp⟩
  ·have hr1 : r ∉ rs.map (·.1) := fun hm => by
    obtain ⟨p, hpm, rfl⟩ := List.mem_map.1 hm
    obtain ⟨i, hi, rfl⟩ := List.mem_iff_getElem.1 hpm
    exact h1 i hi rfl
   rw [h2]
   rcases q0wz (f := S.roots) (r := r) hsrl with ⟨i, hi, hi', rfl, h4⟩ | ⟨h3, h4⟩
   ·rw [h4, hsB _ hr1, fpB i hi]
    obtain ⟨x, hx, ho, hrt⟩ := hroot i _ (List.getElem?_eq_getElem hi')
    rw [hhc i _ (List.getElem?_eq_getElem hi)] at hx
    rcases hrt with hrt | hrt
    case inr =>
     rw [hrt] at ho ⊢
     show fp' (1000000000 + i) = []
     generalize fp' (1000000000 + i) = f at ho
     cases ho; rfl
    rw [q0pw hrt]
    exact ⟨x, hx, ho.mono (fun _ _ _ _ _ h => h) (fun b h _ => hOO b h) (fun _ _ _ _ _ h => h), fun p hp => by simp at hp⟩
   ·have hr2 : r ∉ srcs := fun hm => by
     obtain ⟨i, hi, rfl⟩ := List.mem_iff_getElem.1 hm
     exact h3 i hi rfl
    rw [h4, fpC r hr1 hr2]
    exact g.keepRoot r hk hO hh (hsB r hr1) (hkf r hr2)
 ·rcases where_ r b hr with ⟨i, h, rfl, h1, h2⟩ | ⟨i, h, rfl, h2⟩ | ⟨h1, h2, h3⟩ <;> rcases where_ r' b hr' with ⟨j, h', rfl, h1', h2'⟩ | ⟨j, h', rfl, h2'⟩ | ⟨h1', h2', h3'⟩
  ·by_cases hij : i = j
   ·subst hij; rfl
   ·exfalso
    have hi' : i < fs.length := by rw [hp.fl]; exact h
    have hj' : j < fs.length := by rw [hp.fl]; exact h'
    have := q0m3 hfsn h1
    refine this (List.mem_flatten.2 ⟨fs[j], ?_, ?_⟩)
    ·have : (fs.set i [])[j]? = some fs[j] := by rw [List.getElem?_set_ne hij]; exact List.getElem?_eq_getElem hj'
     exact List.mem_of_getElem? this
    ·rwa [List.getD_eq_getElem?_getD, List.getElem?_eq_getElem hj'] at h1'
  ·exact (out.rdisj _ b h2' h2).elim
  ·exact ((apart r' b h2' h3').2 h2).elim
  ·exact (out.rdisj _ b h2 h2').elim
  ·have := out.disj _ _ b h2 h2'
   have : i = j := by omega
   subst this; rfl
  ·exact ((apart r' b h2' h3').1 _ h2).elim
  ·exact ((apart r b h2 h3).2 h2').elim
  ·exact ((apart r b h2 h3).1 _ h2').elim
  ·exact g.disj r r' b h3 h3'
 ·rcases kinds r with ⟨i, h, rfl⟩ | ⟨i, h, rfl⟩ | ⟨h1, h2⟩
  ·rw [fpA i h]; exact q0m2 hfsn
  ·rw [fpB i h]; exact out.nodup _
  ·rw [fpC r h1 h2]; exact g.nodup r
 ·have key : (∃ q, q ∈ srcs /\ b ∈ fp q) ∨ w.heap.size <= b -> ¬ X b := by
   rintro (⟨q, _, hq⟩ | h)
   ·exact g.foreign q b hq
   ·intro hX; have := g.xold b hX; omega
  rcases where_ r b hb with ⟨i, h, rfl, _, h2⟩ | ⟨i, h, rfl, h2⟩ | ⟨h2, h3, h4⟩
  ·exact key (hrold b h2)
  ·exact key (hold _ b h2)
  ·exact g.foreign r b h4
 ·have key : (∃ q, q ∈ srcs /\ b ∈ fp q) ∨ w.heap.size <= b -> O0 b ∨ w0.heap.size <= b := by
   rintro (⟨q, _, hq⟩ | h)
   ·exact g.mine q b hq
   ·right; have := g.hist.size; omega
  rcases where_ r b hb with ⟨i, h, rfl, _, h2⟩ | ⟨i, h, rfl, h2⟩ | ⟨h2, h3, h4⟩
  ·exact key (hrold b h2)
  ·exact key (hold _ b h2)
  ·exact g.mine r b h4
 ·refine ⟨out.os.trans g.hist.os, out.tape.trans g.hist.tape, out.output.trans g.hist.output, Nat.le_trans g.hist.size out.size, fun b hb hn => ?_⟩
  rw [hframe b (Nat.lt_of_lt_of_le hb g.hist.size) fun q _ hq => ?_]
  ·exact g.hist.block b hb hn
  ·rcases g.mine q b hq with h | h
   ·exact hn h
   ·omega
 ·have hr : updL (updS S.roots srcs rout) rs r = .live t lk := hr
  rcases q0wy (f := updS S.roots srcs rout) (rs := rs) (r := r) with ⟨i, hi, rfl, h2⟩ | ⟨h1, h2⟩ <;> rw [h2] at hr
  ·cases hr; exact (hp.ow i hi).2
  ·rcases q0wz (f := S.roots) (r := r) hsrl with ⟨i, hi, hi', rfl, h4⟩ | ⟨h3, h4⟩ <;> rw [h4] at hr
   ·obtain ⟨_, _, _, hrt⟩ := hroot i _ (List.getElem?_eq_getElem hi')
    rcases hrt with hrt | hrt
    ·rw [q0pw hrt] at hr; cases hr; exact hrt
    ·rw [hrt] at hr; cases hr
   ·exact g.rooty r t lk hr
 ·rcases kinds r with ⟨i, h, rfl⟩ | h
  ·rw [hsA i h, Option.some.injEq] at hr
   rw [← hr]
   have h1 := hp.ow i h
   refine h1.1.oneCell ?_
   have := h1.2
   cases hrs : rs[i].2 <;> rw [hrs] at this <;> simp [T.rooty, T.cell] at this ⊢
  ·have hr1 : r ∉ rs.map (·.1) := by
    rcases h with ⟨i, h, rfl⟩ | ⟨h, _⟩
    ·exact hsrcid _ (List.getElem_mem _)
    ·exact h
   rw [hsB r hr1] at hr; exact g.hdr r y hr
 ·rcases kinds r with ⟨i, h, rfl⟩ | h
  ·have := hsmall i h; omega
  ·have hr1 : r ∉ rs.map (·.1) := by
    rcases h with ⟨i, h, rfl⟩ | ⟨h, _⟩
    ·exact hsrcid _ (List.getElem_mem _)
    ·exact h
   rw [hsB r hr1] at hr; exact g.pin r y hr0 hr

def fnA : A -> Option (Nat × List A)
 | .fn f cap => some (f, cap)
 | .t (.fn f cap) => some (f, cap.map A.t)
 | _ => none
theorem q09k {w : World} {O : Nat -> Prop} {hs : Nat -> Option Value} {x : A} {f : Nat} {cap : List A} {v : Value} (hx : fnA x = some (f, cap)) (h : Is w O hs x v) : Is w O hs (.fn f cap) v := by
 unfold fnA at hx
 split at hx
 ·cases hx; exact h
 ·cases hx
  cases h with
  | t h =>
    cases h with
    | fn _ _ _ hl hr => exact .fn (by simpa using hl) fun i hi => by rw [List.getElem_map]; exact .t (hr i (by simpa using hi))
 ·cases hx

theorem OpW.callG {gg : T} (hgg : gg = .any ∨ S.env 1000000 = .t gg) {o : Oper} {fo : Operand} {as : Array Operand} {ats : Array TypeId} {K : St -> Prop} (ho : o.op = .call { callee := .value fo, args := as, argTypes := ats }) (hd : ∀ k, o.dst = some k -> k < n)
  {f : FuncId} {cap : List A} (hfo : fnA (S.ev fo) = some (f, cap)) (hcall : ∀ args w, (callFunc f args).run P w = .ok (.enter f args) w) {rin : List T} {args : List A} {Q : List T -> T -> Prop} (hF : FunG P gg f rin args Q)
  (srcs bor : List Nat) (hsn : srcs.Nodup) (hsrc : q0tg S srcs rin) (hsb : ∀ q ∈ bor, q ∉ srcs) (hargs : vaL S srcs bor args (as.toList.map S.ev ++ cap))
  (hk : ∀ rout res, Q rout res -> (bor = [] ∨ (res.noSh /\ T.noShL rout)) /\ q00p S o.dst srcs rout res K) : OpW P n o S K := by
 intro X w0 O0 a w hs fp g QQ
 obtain ⟨hsl, hsg⟩ := q0th hsrc
 -- the arguments as values
 have hf := q09k hfo (g.ev fo)
 obtain ⟨caps, hfv, hcl, hci⟩ : ∃ caps : List Value, a.eval fo = .func (.func f) #[] caps.toArray /\ caps.length = cap.length /\ ∀ i (h : i < cap.length), Is w (Ob X fp) hs cap[i] (caps.getD i Go.undef) := by
  generalize a.eval fo = vf at hf
  cases hf with | fn hl hr => exact ⟨_, rfl, hl, hr⟩
 let vals : List Value := as.toList.map a.eval ++ caps
 have hvals : ∀ i (h : i < (as.toList.map S.ev ++ cap).length), Is w (Ob X fp) hs (as.toList.map S.ev ++ cap)[i] (vals.getD i Go.undef) := by
  intro i h
  by_cases hi : i < as.toList.length
  ·rw [List.getElem_append_left (by simpa using hi), List.getD_eq_getElem?_getD, List.getElem?_append_left (by simpa using hi), List.getElem?_map, List.getElem?_eq_getElem hi]
   simp only [List.getElem_map, Option.map_some, Option.getD_some]
   exact g.ev _
  ·have hi2 : i - as.toList.length < cap.length := by simp at h hi ⊢; omega
   rw [List.getElem_append_right (by simpa using hi), List.getD_eq_getElem?_getD, List.getElem?_append_right (by simpa using hi)]
   have := hci (i - as.toList.length) hi2
   simpa [List.getD_eq_getElem?_getD] using this
 have hrun : (execOp a.eval o).run P w = .ok (.enter f vals.toArray) w := by
  have e : (as.map a.eval ++ caps.toArray) = vals.toArray := by
   apply Array.ext'; simp [vals]
  simp only [execOp, ho, resolve, hfv, Deferred.ofValue, Sem.run_bind, Sem.run_pure, Result.andThen_ok, invoke]
  rw [show (#[] ++ as.map a.eval : Array Value) = as.map a.eval by simp, e]
  exact hcall _ w
 -- the callee's view
 let Xc : Nat -> Prop := fun b => X b ∨ ∃ q, q ∉ srcs /\ q ∉ bor /\ b ∈ fp q
 let hsc : Nat -> Option Value := fun r => if 1000000000 <= r then (srcs[r - 1000000000]?).bind hs else none
 let fpc : Nat -> List Nat := fun r => if 1000000000 <= r then ((srcs[r - 1000000000]?).map fp).getD [] else []
 have hhc : ∀ i q, srcs[i]? = some q -> hsc (1000000000 + i) = hs q := fun i q h => by
  simp only [hsc]; rw [if_pos (by omega), Nat.add_sub_cancel_left, h]; rfl
 have hfci : ∀ i q, srcs[i]? = some q -> fpc (1000000000 + i) = fp q := fun i q h => by
  simp only [fpc]; rw [if_pos (by omega), Nat.add_sub_cancel_left, h]; rfl
 have hfc' : ∀ j b, b ∈ fpc j -> ∃ i q, srcs[i]? = some q /\ j = 1000000000 + i /\ b ∈ fp q := fun j b hb => by
  simp only [fpc] at hb
  split at hb
  ·cases hq : srcs[j - 1000000000]? with
   | none => rw [hq] at hb; simp at hb
   | some q => rw [hq] at hb; exact ⟨j - 1000000000, q, hq, by omega, by simpa using hb⟩
  ·simp at hb
 have hfc : ∀ j b, b ∈ fpc j -> ∃ q, q ∈ srcs /\ b ∈ fp q := fun j b hb => by
  obtain ⟨i, q, h1, _, h2⟩ := hfc' j b hb; exact ⟨q, List.mem_of_getElem? h1, h2⟩
 have hOc : ∀ b, Ob Xc fpc b -> Ob X fp b := by
  rintro b ((h | ⟨q, _, _, h⟩) | ⟨j, hj⟩)
  ·exact .inl h
  ·exact .inr ⟨q, h⟩
  ·obtain ⟨q, _, h⟩ := hfc j b hj; exact .inr ⟨q, h⟩
 have hO1 : ∀ b, ¬ Ob X fp b -> b < w.heap.size -> ¬ Ob Xc fpc b := fun b h _ h2 => h (hOc b h2)
 have hbor : ∀ q ∈ bor, ∀ b ∈ fp q, ¬ Ob Xc fpc b := by
  rintro q hq b hb ((h | ⟨q', h1, h2, h3⟩) | ⟨j, hj⟩)
  ·exact g.foreign q b hb h
  ·have := g.disj q q' b hb h3; exact h2 (this ▸ hq)
  ·obtain ⟨q', h1, h2⟩ := hfc j b hj
   have := g.disj q q' b hb h2
   exact hsb q hq (this ▸ h1)
 have hm : Mem Xc w rin hsc fpc := by
  refine ⟨fun i t hi => ?_, fun r hr => ?_, fun r r' b h h' => ?_, fun r => ?_, fun r b h => ?_, fun b h => ?_, fun r y h => ?_⟩
  ·obtain ⟨hil, rfl⟩ := List.getElem?_eq_some_iff.1 hi
   have hq := List.getElem?_eq_getElem (l := srcs) (i := i) (by omega)
   have hroot := g.root srcs[i]
   have hlive := hsg i (by omega) hil
   rw [hlive] at hroot
   obtain ⟨x, hx, ho', _⟩ := hroot
   refine ⟨x, by rw [hhc i _ hq]; exact hx, ?_, g.rooty _ _ _ hlive⟩
   rw [hfci i _ hq]
   exact ho'.mono (fun _ _ _ _ _ h => h) hO1 (fun _ _ _ _ _ h => h)
  ·simp only [hsc, fpc]
   by_cases h1 : 1000000000 <= r
   ·rw [if_pos h1, if_pos h1, List.getElem?_eq_none (by omega)]; exact ⟨rfl, rfl⟩
   ·rw [if_neg h1, if_neg h1]; exact ⟨rfl, rfl⟩
  ·obtain ⟨i, q, h1, rfl, h2⟩ := hfc' r b h
   obtain ⟨i', q', h1', rfl, h2'⟩ := hfc' r' b h'
   have := g.disj q q' b h2 h2'
   subst this
   obtain ⟨hi1, e1⟩ := List.getElem?_eq_some_iff.1 h1
   obtain ⟨hi2, e2⟩ := List.getElem?_eq_some_iff.1 h1'
   rcases Nat.lt_trichotomy i i' with h | h | h
   ·exact (List.pairwise_iff_getElem.1 hsn i i' hi1 hi2 h (e1.trans e2.symm)).elim
   ·rw [h]
   ·exact (List.pairwise_iff_getElem.1 hsn i' i hi2 hi1 h (e2.trans e1.symm)).elim
  ·simp only [fpc]
   split
   ·cases srcs[r - 1000000000]? with
    | none => simp
    | some q => simpa using g.nodup q
   ·simp
  ·rintro (hX | ⟨q', h1, _, h3⟩)
   ·obtain ⟨q, _, h2⟩ := hfc r b h; exact g.foreign q b h2 hX
   ·obtain ⟨q, hq, h2⟩ := hfc r b h
    have := g.disj q q' b h2 h3
    exact h1 (this ▸ hq)
  ·rcases h with h | ⟨q, _, _, h⟩
   ·exact g.xold b h
   ·exact g.lt h
  ·simp only [hsc] at h
   split at h
   ·cases hq : srcs[r - 1000000000]? with
    | none => rw [hq] at h; cases h
    | some q => rw [hq] at h; exact g.hdr q y h
   ·cases h
 obtain ⟨hal, hai⟩ := q0x6 (hs' := hsc) g hO1 hbor hhc args _ hargs hvals
 have hggc : Rd w (Ob Xc fpc) gg Go.undef := by
  rcases hgg with rfl | h
  ·exact .any _
  ·have h1 := g.env 1000000
   rw [h, show a.tmps.getD 1000000 Go.undef = Go.undef from by
    rw [Array.getD_eq_getD_getElem?, Array.getElem?_eq_none (by rw [g.size]; have := g.small; omega)]; rfl] at h1
   cases h1 with | t h2 => exact h2.mono (fun _ _ _ _ _ h => h) hO1
 have hcalls := hF Xc w vals hsc fpc hm (by simp only [vals, List.length_append, List.length_map] at hal ⊢; rw [hcl]; exact hal.symm) hai hggc
 unfold Oper.wp
 rw [hrun, Oper.upon_enter]
 refine hcalls.mono ?_
 rintro e w' ⟨v, res, rout, fr, fp', rfl, hQ, hrl, out⟩
 obtain ⟨hns, hK⟩ := hk rout res hQ
 -- what may not be read as shared behind the call
 let ON : Nat -> Prop := fun b => X b ∨ (∃ q, q ∉ srcs /\ b ∈ fp q) ∨ (∃ j, b ∈ fp' j) ∨ b ∈ fr
 have conv : ∀ (t : T) (x : Value) (ff : List Nat), (bor = [] ∨ t.noSh) -> Ow w' (Ob' Xc fp' fr) t x ff -> Ow w' ON t x ff := by
  intro t x ff h ho'
  rcases h with h | h
  ·refine ho'.mono (fun _ _ _ _ _ h => h) (fun b h1 _ h2 => h1 ?_) (fun _ _ _ _ _ h => h)
   rcases h2 with h2 | ⟨q, h2, h3⟩ | ⟨j, h2⟩ | h2
   ·exact .inl (.inl (.inl h2))
   ·exact .inl (.inl (.inr ⟨q, h2, by rw [h]; simp, h3⟩))
   ·exact .inl (.inr ⟨j, h2⟩)
   ·exact .inr h2
  ·exact ho'.noSh h
 have hroot : ∀ i t, rout[i]? = some t -> ∃ x, hsc (1000000000 + i) = some x /\ Ow w' ON t x (fp' (1000000000 + i)) /\ (t.rooty = true ∨ t = .any) := fun i t hi => by
  obtain ⟨x, hx, ho', hrt⟩ := out.root i t hi
  exact ⟨x, hx, conv t x _ (hns.imp id fun h => (T.noShL_iff rout).1 h.2 _ (List.mem_of_getElem? hi)) ho', hrt⟩
 have hres := conv res v fr (hns.imp id fun h => h.1) out.res
 cases hdst : o.dst with
 | none =>
   rw [hdst] at hK
   obtain ⟨hs', fp'', g', _, _⟩ := g.after0 hsn hsrc hrl hhc hfc out (ON := ON) (fun b => Iff.rfl) hroot (dd := 0) (rs := []) (xs := []) (fs := []) ⟨rfl, rfl, fun i h => absurd h (by simp), List.nil_sublist _, rfl, fun i h => absurd h (by simp)⟩ trivial (fun i h => absurd h (by simp))
   exact ⟨_, hs', fp'', g', hK⟩
 | some d =>
   rw [hdst] at hK
   obtain ⟨hfree, hcount, hK⟩ := hK
   have hdn : @LT.lt Nat instLTNat d n := hd d hdst
   have hn5 : n <= 100000 := g.small
   obtain ⟨xs, fs, hp, hi⟩ := q00l d res 0 hres
   have hcnt : (absT d 0 res).2.2 = (absT d 0 res).2.1.length := by rw [hp.le]; omega
   obtain ⟨hs', fp'', g', hA, hOO⟩ := g.after0 hsn hsrc hrl hhc hfc out (ON := ON) (fun b => Iff.rfl) hroot (dd := d) (rs := (absT d 0 res).2.1) (xs := xs) (fs := fs) ⟨hp.xl, hp.fl, hp.ow, hp.sub, by omega, hp.ids⟩ hfree (fun i h => by
    rw [hp.ids i h]
    unfold rid; split
    ·omega
    ·have : i < 1000 := by omega
     have : 1000 * (d + 1) <= 1000 * 100000 := Nat.mul_le_mul_left _ (by omega)
     omega)
   have his := (hi hs' hA).mono (O' := Ob X fp'') (fun _ _ _ _ _ h => h) (fun b h _ => hOO b h) (fun _ _ h => h)
   exact ⟨_, hs', fp'', g'.put hdn his, hK⟩
theorem OpW.call {o : Oper} {fo : Operand} {as : Array Operand} {ats : Array TypeId} {K : St -> Prop} (ho : o.op = .call { callee := .value fo, args := as, argTypes := ats }) (hd : ∀ k, o.dst = some k -> k < n)
  {f : FuncId} {cap : List A} (hfo : fnA (S.ev fo) = some (f, cap)) (hcall : ∀ args w, (callFunc f args).run P w = .ok (.enter f args) w) {rin : List T} {args : List A} {Q : List T -> T -> Prop} (hF : Fun P f rin args Q)
  (srcs bor : List Nat) (hsn : srcs.Nodup) (hsrc : q0tg S srcs rin) (hsb : ∀ q ∈ bor, q ∉ srcs) (hargs : vaL S srcs bor args (as.toList.map S.ev ++ cap))
  (hk : ∀ rout res, Q rout res -> (bor = [] ∨ (res.noSh /\ T.noShL rout)) /\ q00p S o.dst srcs rout res K) : OpW P n o S K :=
 OpW.callG (.inl rfl) ho hd hfo hcall (hF.toG .any) srcs bor hsn hsrc hsb hargs hk

end
end Go.Ab

/- The abstract layer, part 27: equality of structs of numbers, a slice held against nil, slice expressions. -/
namespace Go.Ab

def q0fe (P : Program) : Nat -> List Field -> Bool
 | _, [] => true
 | o, f :: fs => (f.name != "_") && P.plainKey f.type && (match P.underlying f.type with | some (.int .i64) => true | _ => false) && decide (f.offset = o) && q0fe P (o + 1) fs
def q0wi (P : Program) (t : TypeId) : Option Nat :=
 match P.underlying t with
 | some (.struct fs) => if q0fe P 0 fs.toList && !P.stoodInHeld t && !P.eqGuardType P.depth t then some fs.size else none
 | _ => none

def q0fj : List T -> Option (List Int)
 | [] => some []
 | .v (.int .i64 n) :: l => (q0fj l).map (n :: ·)
 | _ => none
def q0ff : List A -> Option (List Int)
 | [] => some []
 | .t (.v (.int .i64 n)) :: l => (q0ff l).map (n :: ·)
 | _ => none
def aggI (a : A) : Option (List Int) :=
 match a with
 | .t (.agg l) => q0fj l
 | .agg l => q0ff l
 | _ => none

section
variable {P : Program} {w : World} {O : Nat -> Prop} {hs : Nat -> Option Value}

theorem q0fk : ∀ {l : List T} {ns : List Int} {vs : List Value}, q0fj l = some ns -> vs.length = l.length -> (∀ i (h : i < l.length), Rd w O l[i] (vs.getD i undef)) -> vs = ns.map (Value.int .i64)
 | [], ns, vs, h, hl, _ => by
   simp only [q0fj, Option.some.injEq] at h; subst h
   simpa using hl
 | .v (.int .i64 n) :: l, ns, vs, h, hl, hr => by
   simp only [q0fj, Option.map_eq_some_iff] at h
   obtain ⟨ns', h1, rfl⟩ := h
   cases vs with
   | nil => simp at hl
   | cons v vs =>
     have h0 := hr 0 (by simp)
     have : v = .int .i64 n := by cases h0; rfl
     subst this
     rw [q0fk (vs := vs) h1 (by simpa using hl) (fun i hi => hr (i + 1) (by simpa using hi))]
     rfl
theorem q0fg : ∀ {l : List A} {ns : List Int} {vs : List Value}, q0ff l = some ns -> vs.length = l.length -> (∀ i (h : i < l.length), Is w O hs l[i] (vs.getD i undef)) -> vs = ns.map (Value.int .i64)
 | [], ns, vs, h, hl, _ => by
   simp only [q0ff, Option.some.injEq] at h; subst h
   simpa using hl
 | .t (.v (.int .i64 n)) :: l, ns, vs, h, hl, hr => by
   simp only [q0ff, Option.map_eq_some_iff] at h
   obtain ⟨ns', h1, rfl⟩ := h
   cases vs with
   | nil => simp at hl
   | cons v vs =>
     have h0 := hr 0 (by simp)
     have : v = .int .i64 n := h0.v_inv
     subst this
     rw [q0fg (vs := vs) h1 (by simpa using hl) (fun i hi => hr (i + 1) (by simpa using hi))]
     rfl
theorem q00r {a : A} {v : Value} {ns : List Int} (h : aggI a = some ns) (hi : Is w O hs a v) : v = .agg (ns.map (Value.int .i64)).toArray := by
 unfold aggI at h
 split at h
 ·obtain ⟨vs, rfl, hl, hr⟩ := hi.tagg_inv
  rw [q0fk (w := w) (O := O) h hl (fun i h => by cases hr i h with | t h => exact h)]
 ·obtain ⟨vs, rfl, hl, hr⟩ := hi.agg_inv
  rw [q0fg h hl hr]
 ·cases h

theorem q0qn (d : Nat) {xs ys : List Int} : ∀ (fs : List Field) (o : Nat), q0fe P o fs = true -> o + fs.length = xs.length -> o + fs.length = ys.length →
  (Op.eqFields (d + 1) (xs.map (Value.int .i64)).toArray (ys.map (Value.int .i64)).toArray fs).run P w = .ok (decide (xs.drop o = ys.drop o)) w
 | [], o, _, h1, h2 => by
   simp only [List.length_nil, Nat.add_zero] at h1 h2
   rw [List.drop_of_length_le (by omega), List.drop_of_length_le (by omega)]
   simp [Op.eqFields]
 | f :: fs, o, h, h1, h2 => by
   simp only [q0fe, Bool.and_eq_true, decide_eq_true_eq, bne_iff_ne, ne_eq] at h
   obtain ⟨⟨⟨⟨hn, hp⟩, hu⟩, rfl⟩, hfs⟩ := h
   have hu' : P.underlying f.type = some (.int .i64) := by
    revert hu; split
    ·rename_i hh; intro _; exact hh
    ·intro hh; cases hh
   simp only [List.length_cons] at h1 h2
   have hx : f.offset < xs.length := by omega
   have hy : f.offset < ys.length := by omega
   have p1 := run_part_plain (P := P) (w := w) hp (xs := (xs.map (Value.int .i64)).toArray) (off := f.offset) (v := .int .i64 xs[f.offset]) (by simp [hx])
   have p2 := run_part_plain (P := P) (w := w) hp (xs := (ys.map (Value.int .i64)).toArray) (off := f.offset) (v := .int .i64 ys[f.offset]) (by simp [hy])
   have p3 : (Op.equalIn (d + 1) f.type (.int .i64 xs[f.offset]) (.int .i64 ys[f.offset])).run P w = .ok (xs[f.offset] == ys[f.offset]) w := by
    simp [Op.equalIn, run_underlying hu']
   have ih := q0qn (xs := xs) (ys := ys) d fs (f.offset + 1) hfs (by omega) (by omega)
   simp only [Op.eqFields, hn, ne_eq, not_false_eq_true, if_true, Sem.run_bind, p1, p2, p3, Result.andThen_ok]
   have hd : decide (xs.drop f.offset = ys.drop f.offset) = (decide (xs[f.offset] = ys[f.offset]) && decide (xs.drop (f.offset + 1) = ys.drop (f.offset + 1))) := by
    rw [List.drop_eq_getElem_cons hx, List.drop_eq_getElem_cons hy]
    simp only [List.cons.injEq, Bool.decide_and]
   rw [hd]
   by_cases e : xs[f.offset] = ys[f.offset]
   ·simp only [e, beq_self_eq_true, Bool.not_true, Bool.false_eq_true, if_false, decide_true, Bool.true_and]
    exact ih
   ·simp [e]

theorem q0qp {t : TypeId} {n : Nat} (ht : q0wi P t = some n) {xs ys : List Int} (h1 : xs.length = n) (h2 : ys.length = n) :
  (Op.equal t (.agg (xs.map (Value.int .i64)).toArray) (.agg (ys.map (Value.int .i64)).toArray)).run P w = .ok (decide (xs = ys)) w /\ P.eqGuardType P.depth t = false := by
 unfold q0wi at ht
 split at ht
 ·rename_i fs hu
  split at ht
  ·rename_i hc
   simp only [Bool.and_eq_true, Bool.not_eq_true'] at hc
   have hfs : P.fieldsOf t = fs := by simp [Program.fieldsOf, hu]
   cases ht
   have key : ∀ d, (Op.equalIn (d + 2) t (.agg (xs.map (Value.int .i64)).toArray) (.agg (ys.map (Value.int .i64)).toArray)).run P w = .ok (decide (xs = ys)) w := fun d => by
    rw [show d + 2 = (d + 1) + 1 from rfl, run_equalIn_struct w (d + 1) t _ _ (by rw [hfs]; exact hu) hc.1.2, hfs]
    exact q0qn d fs.toList 0 hc.1.1 (by simpa using h1.symm) (by simpa using h2.symm)
   exact ⟨key 9998, hc.2⟩
  ·cases ht
 ·cases ht

variable {n : Nat} {S : St} {K : St -> Prop}
def q01s (ne : Bool) (m : Nat) (x y : A) (K : A -> Prop) : Prop :=
 match aggI x, aggI y with
 | some a, some b => a.length = m /\ b.length = m /\ K (.v (.bool (if ne then !decide (a = b) else decide (a = b))))
 | _, _ => False
theorem q0mi {o : Oper} {d m : Nat} {ne : Bool} {t u : TypeId} {x y : Operand} (ht : q0wi P t = some m) (ho : o.op = .binOp (if ne then .neq else .eql) t x y u) (hdst : o.dst = some d) (hd : d < n) (k : q01s ne m (S.ev x) (S.ev y) (putK S d K)) : OpW P n o S K := by
 unfold q01s at k
 split at k
 ·rename_i xs ys hx hy
  obtain ⟨hx2, hy2, k⟩ := k
  refine OpW.val (x := .t (.v (.bool (if ne then !decide (xs = ys) else decide (xs = ys))))) hdst hd (fun X w0 O0 a w hs fp g => ?_) k
  have h1 := q00r hx (g.ev x)
  have h2 := q00r hy (g.ev y)
  obtain ⟨h3, h4⟩ := q0qp (w := w) ht hx2 hy2
  refine ⟨_, ?_, .t (.v _)⟩
  cases ne <;> simp [execOp, ho, h1, h2, eqGuard, binOp, h3, h4]
 ·exact k.elim

def q0fr (ne : Bool) (x : A) (S : St) (K : A -> Prop) : Prop :=
 match x with
 | .t (.v (.slice none 0 0)) => K (.v (.bool (!ne)))
 | .t (.sh _ l) => ∀ b : Bool, (b = true -> l = []) -> K (.v (.bool (if ne then !b else b)))
 | .own r => (match S.roots r with | .live (.arr _ l) _ => ∀ b : Bool, (b = true -> l = []) -> K (.v (.bool (if ne then !b else b))) | _ => False)
 | _ => False
end

section
variable {P : Program} {n : Nat} {S : St} {K : St -> Prop}

theorem q0qs {t e : TypeId} (ht : P.underlying t = some (.slice e)) (ne : Bool) (v : Option Addr) (l c : Nat) (w : World) :
  (binOp (if ne then .neq else .eql) t (.slice v l c) (.slice none 0 0)).run P w = .ok (.bool (if ne then !v.isNone else v.isNone)) w := by
 have := run_equal_slice_nil (P := P) w t e v l c ht
 cases ne <;> simp [binOp, this]

theorem q0mw {o : Oper} {d : Nat} {ne : Bool} {t u : TypeId} {x : Operand} (ht : (q0w9 P t).isSome = true) (ho : o.op = .binOp (if ne then .neq else .eql) t x (.const (.slice none 0 0)) u) (hdst : o.dst = some d) (hd : d < n)
  (k : q0fr ne (S.ev x) S (putK S d K)) : OpW P n o S K := by
 obtain ⟨e, he⟩ := Option.isSome_iff_exists.1 ht
 have hu := q0wa he
 have run : ∀ (a : Act) (w : World) v l c, a.eval x = .slice v l c -> (execOp a.eval o).run P w = .ok (.value (.bool (if ne then !v.isNone else v.isNone))) w := fun a w v l c hv => by
  have h2 : a.eval (.const (.slice none 0 0)) = .slice none 0 0 := rfl
  have h1 := q0qs (P := P) hu ne v l c w
  cases ne <;> simp at h1 <;> simp [execOp, ho, hv, h2, eqGuard, h1]
 have go : ∀ (l : List T), (∀ b : Bool, (b = true -> l = []) -> putK S d K (.v (.bool (if ne then !b else b)))) →
   (∀ X w0 O0 a w hs fp, Good X w0 O0 n S a w hs fp -> (a.eval x = .slice none 0 0 /\ l = []) ∨ ∃ ad m c, a.eval x = .slice (some ad) m c) -> OpW P n o S K := by
  intro l hall hcase X w0 O0 a w hs fp g Q
  unfold Oper.wp
  rcases hcase X w0 O0 a w hs fp g with ⟨hv, hl⟩ | ⟨ad, m, c, hv⟩
  ·rw [run a w _ _ _ hv, Oper.upon_value, hdst]
   have := hall true (fun _ => hl)
   exact ⟨_, hs, fp, g.put hd (.t (.v _)), this⟩
  ·rw [run a w _ _ _ hv, Oper.upon_value, hdst]
   have := hall false (fun h => by cases h)
   exact ⟨_, hs, fp, g.put hd (.t (.v _)), this⟩
 unfold q0fr at k
 split at k
 ·rename_i hx
  refine OpW.val hdst hd (fun X w0 O0 a w hs fp g => ?_) k
  have h1 := g.ev x; rw [hx] at h1
  refine ⟨_, run a w _ _ _ h1.v_inv, ?_⟩
  cases ne <;> exact .t (.v _)
 ·rename_i s l hx
  refine go l k fun X w0 O0 a w hs fp g => ?_
  have h1 := g.ev x; rw [hx] at h1
  rcases h1.sh_inv with ⟨hv, rfl⟩ | ⟨ad, cap, hv, rfl⟩ | ⟨b, off, len, cap, cs, e, fz, hv, _⟩
  ·exact .inl ⟨hv, rfl⟩
  ·exact .inr ⟨_, _, _, hv⟩
  ·exact .inr ⟨_, _, _, hv⟩
 ·rename_i r hx
  split at k
  ·rename_i s l lk hr
   refine go l k fun X w0 O0 a w hs fp g => ?_
   have h1 := g.ev x; rw [hx] at h1; have h1 := h1.own_inv
   rcases g.arr hr with ⟨hv, rfl, _⟩ | ⟨b, len, cap, cs, e, fps, hv, _⟩
   ·rw [hv, Option.some.injEq] at h1; exact .inl ⟨h1.symm, rfl⟩
   ·rw [hv, Option.some.injEq] at h1; exact .inr ⟨_, _, _, h1.symm⟩
  ·exact k.elim
 ·exact k.elim

def bndN (x : Option A) (d : Nat) : Option Nat :=
 match x with
 | none => some d
 | some (.t (.v (.int _ i))) => if 0 <= i then some i.toNat else none
 | _ => none

def slcC (z : Nat) (x : A) (lo hi : Option A) (S : St) (K : A -> Prop) : Prop :=
 match x with
 | .t (.v (.slice none 0 0)) => bndN lo 0 = some 0 /\ bndN hi 0 = some 0 /\ K (.t (.v (.slice none 0 0)))
 | .t (.sh s l) => (match bndN lo 0, bndN hi (l.length / z) with | some i, some j => s = z /\ i <= j /\ j * z <= l.length /\ K (.t (.sh s ((l.drop (i * z)).take ((j - i) * z)))) | _, _ => False)
 | .own r => (match S.roots r with
   | .live (.arr s l) _ => (match bndN lo 0, bndN hi (l.length / z) with | some i, some j => s = z /\ i <= j /\ j * z <= l.length /\ K (.sub r (i * z) (j - i)) | _, _ => False)
   | _ => False)
 | _ => False

theorem q02d {P : Program} {a : Act} {w : World} {O : Nat -> Prop} {hs : Nat -> Option Value} {S : St} (hev : ∀ x : Operand, Is w O hs (S.ev x) (a.eval x)) {lo : Option Operand} {d i : Nat} (h : bndN (lo.map S.ev) d = some i) :
  (lo = none /\ i = d) ∨ ∃ x k, lo = some x /\ a.eval x = .int k (i : Nat) := by
 cases lo with
 | none => simp only [bndN, Option.map_none, Option.some.injEq] at h; exact .inl ⟨rfl, h.symm⟩
 | some x =>
   refine .inr ?_
   simp only [Option.map_some] at h
   unfold bndN at h
   split at h
   ·rename_i h'; cases h'
   ·rename_i h'
    simp only [Option.some.injEq] at h'
    have h2 := hev x
    rw [h'] at h2
    split at h
    ·rename_i h0
     cases h
     exact ⟨x, _, rfl, by rw [h2.v_inv, Int.toNat_of_nonneg h0]⟩
    ·cases h
   ·cases h

theorem q0qv {t e : TypeId} (ht : P.underlying t = some (.slice e)) {z : Nat} (hz : q0wn P e = some z) (v : Option Addr) (l c : Nat) {lo hi : Option Value} {i j : Nat} (hlo : (lo = none /\ i = 0) ∨ ∃ k, lo = some (.int k (i : Nat)))
  (hhi : (hi = none /\ j = l) ∨ ∃ k, hi = some (.int k (j : Nat))) (hij : i <= j) (hjc : j <= c) (w : World) : (Instr.sliceAt t (.slice v l c) lo hi none).run P w = .ok (sliced v i j c z) w := by
 have he : P.elem t = e := by simp [Program.elem, ht]
 have ht' : P.underlying t = some (.slice (P.elem t)) := by rw [he, ht]
 have hs : (sizeOf (P.elem t)).run P w = .ok z w := by rw [he]; exact q0wo hz w
 rw [run_sliceAt_slice (w := w) t _ _ _ _ ht']
 rw [run_slice_any w t v l c ht']
 have hb : (Instr.sliceBounds true l c lo hi none).run P w = .ok (i, j, c) w := by
  rcases hlo with ⟨rfl, rfl⟩ | ⟨k, rfl⟩ <;> rcases hhi with ⟨rfl, rfl⟩ | ⟨k', rfl⟩ <;> simp [Instr.sliceBounds, Instr.sliceBound, asIntOf, hij, hjc, Sem.run_bind, Result.andThen]
 rw [hb]
 simp [hs, Result.andThen]

theorem q0n9 {o : Oper} {d z : Nat} {t : TypeId} {x : Operand} {lo hi : Option Operand} (hz0 : 0 < z) (hz : tyEs P t = some z) (ho : o.op = .slice t x lo hi none) (hdst : o.dst = some d) (hd : d < n)
  (k : slcC z (S.ev x) (lo.map S.ev) (hi.map S.ev) S (putK S d K)) : OpW P n o S K := by
 unfold tyEs at hz
 obtain ⟨e, he, hz⟩ := Option.bind_eq_some_iff.1 hz
 have hu := q0wa he
 have run : ∀ {X w0 O0 a w hs fp}, Good X w0 O0 n S a w hs fp -> ∀ {v : Option Addr} {l c i j d1 d2 : Nat}, a.eval x = .slice v l c -> d1 = 0 -> d2 = l -> bndN (lo.map S.ev) d1 = some i -> bndN (hi.map S.ev) d2 = some j -> i <= j -> j <= c →
   (execOp a.eval o).run P w = .ok (.value (sliced v i j c z)) w := by
  intro X w0 O0 a w hs fp g v l c i j d1 d2 hv e1 e2 h1 h2 hij hjc
  subst e1 e2
  have l1 := q02d (P := P) g.ev h1
  have l2 := q02d (P := P) g.ev h2
  have := q0qv hu hz v d2 c (lo := lo.map a.eval) (hi := hi.map a.eval) (i := i) (j := j) (by
   rcases l1 with ⟨rfl, h⟩ | ⟨y, kk, rfl, h⟩
   ·exact .inl ⟨rfl, h⟩
   ·exact .inr ⟨kk, by simp [h]⟩) (by
   rcases l2 with ⟨rfl, h⟩ | ⟨y, kk, rfl, h⟩
   ·exact .inl ⟨rfl, h⟩
   ·exact .inr ⟨kk, by simp [h]⟩) hij hjc w
  simp [execOp, ho, hv, this]
 unfold slcC at k
 split at k
 ·rename_i hx
  obtain ⟨h1, h2, hK⟩ := k
  refine OpW.val hdst hd (fun X w0 O0 a w hs fp g => ?_) hK
  have hv := g.ev x; rw [hx] at hv; have hv := hv.v_inv
  exact ⟨_, run g hv rfl rfl h1 h2 (Nat.le_refl _) (Nat.le_refl _), by simp [sliced]; exact .t (.v _)⟩
 ·rename_i s l hx
  split at k
  ·rename_i i j h1 h2
   obtain ⟨rfl, hij, hjl, hK⟩ := k
   refine OpW.val hdst hd (fun X w0 O0 a w hs fp g => ?_) hK
   have hv0 := g.ev x; rw [hx] at hv0
   rcases hv0.sh_inv with ⟨hv, rfl⟩ | ⟨ad, cap, hv, rfl⟩ | ⟨b, off, len, cap, cs, e', fz, hv, hO, hb, hsz, hl, hc, hr⟩
   ·have hj : j = 0 := by
     rcases Nat.eq_zero_or_pos j with h | h
     ·exact h
     ·have := Nat.mul_le_mul h hz0; simp at hjl; omega
    subst hj
    obtain rfl : i = 0 := by omega
    refine ⟨_, run g hv rfl (by simp) h1 h2 (Nat.le_refl _) (Nat.le_refl _), ?_⟩
    simp only [sliced, if_true, Nat.sub_self, Nat.zero_mul, List.take_zero]
    exact .t (.shNil _)
   ·have hj : j = 0 := by
     rcases Nat.eq_zero_or_pos j with h | h
     ·exact h
     ·have := Nat.mul_le_mul h hz0; simp at hjl; omega
    subst hj
    obtain rfl : i = 0 := by omega
    refine ⟨_, run g hv rfl (by simp) h1 h2 (Nat.le_refl _) (Nat.zero_le _), ?_⟩
    simp only [sliced, Nat.sub_self, Nat.zero_mul, List.take_zero]
    split <;> exact .t (.shZ _ _ _)
   ·have hln : l.length / s = len := by rw [hl, Nat.mul_div_cancel _ hz0]
    have hjn : j <= len := by rw [hl] at hjl; exact Nat.le_of_mul_le_mul_right hjl hz0
    refine ⟨_, run g hv rfl hln h1 h2 hij (by omega), ?_⟩
    simp only [sliced]
    split
    ·obtain rfl : i = j := by omega
     simp only [Nat.sub_self, Nat.zero_mul, List.take_zero]
     exact .t (.shZ _ _ _)
    ·simp only [Option.map_some, addr_add]
     have h3 : i * s + (j - i) * s = j * s := by rw [← Nat.add_mul]; congr 1; omega
     refine .t (.sh s _ b (off + i * s) (j - i) _ cs e' fz hO hb (by simp; omega) (by simp; omega) (by omega) fun k hk => ?_)
     have hk' : i * s + k < l.length := by simp at hk; omega
     have e1 : ((l.drop (i * s)).take ((j - i) * s))[k] = l[i * s + k] := by simp
     rw [e1, Nat.add_assoc]
     exact hr _ hk'
  ·exact k.elim
 ·rename_i r hx
  split at k
  ·rename_i s l lk hr
   split at k
   ·rename_i i j h1 h2
    obtain ⟨rfl, hij, hjl, hK⟩ := k
    refine OpW.val hdst hd (fun X w0 O0 a w hs fp g => ?_) hK
    have hv := g.ev x; rw [hx] at hv; have hv := hv.own_inv
    rcases g.arr hr with ⟨hh, rfl, _⟩ | ⟨b, len, cap, cs, e', fps, hh, hb, hl, hc, _⟩
    ·have hj : j = 0 := by
      rcases Nat.eq_zero_or_pos j with h | h
      ·exact h
      ·have := Nat.mul_le_mul h hz0; simp at hjl; omega
     subst hj
     obtain rfl : i = 0 := by omega
     have hv' : a.eval x = .slice none 0 0 := by rw [hh, Option.some.injEq] at hv; exact hv.symm
     refine ⟨_, run g hv' rfl (by simp) h1 h2 (Nat.le_refl _) (Nat.le_refl _), ?_⟩
     simp only [sliced, if_true, Nat.sub_self, Nat.zero_mul]
     exact .subNil hh
    ·have hv' : a.eval x = .slice (some ⟨b, 0, none⟩) len cap := by rw [hh, Option.some.injEq] at hv; exact hv.symm
     have hln : l.length / s = len := by rw [hl, Nat.mul_div_cancel _ hz0]
     have hjn : j <= len := by rw [hl] at hjl; exact Nat.le_of_mul_le_mul_right hjl hz0
     refine ⟨_, run g hv' rfl hln h1 h2 hij (by omega), ?_⟩
     simp only [sliced]
     split
     ·obtain rfl : i = j := by omega
      simp only [Nat.sub_self]
      exact .subZ hh
     ·simp only [Option.map_some, addr_add, Nat.zero_add]
      exact .sub hh (by omega)
   ·exact k.elim
  ·exact k.elim
 ·exact k.elim

def q02e : A -> T
 | .t c => c
 | _ => .any
def q02i : Nat -> List A -> List (Nat × Nat)
 | _, [] => []
 | i, .own q :: l => (i, q) :: q02i (i + 1) l
 | i, _ :: l => q02i (i + 1) l
def q02f : List A -> Bool
 | [] => true
 | .t c :: l => c.cell && q02f l
 | .own _ :: l => q02f l
 | _ :: _ => false
def q02h (x : A) (d : Nat) (S : St) (K : St -> Prop) : Prop :=
 match q07j x with
 | some as => q02f as = true /\ S.roots d = .free /\ K { env := upd S.env d (.own d), roots := upd S.roots d (.live (.box (as.map q02e)) (q02i 0 as)) }
 | none => False
theorem q02j : ∀ {as : List A} {i : Nat} {p : Nat × Nat}, p ∈ q02i i as -> ∃ j, p.1 = i + j /\ as[j]? = some (.own p.2)
 | [], i, p, h => by simp [q02i] at h
 | .own q :: l, i, p, h => by
   simp only [q02i, List.mem_cons] at h
   rcases h with rfl | h
   ·exact ⟨0, rfl, rfl⟩
   ·obtain ⟨j, h1, h2⟩ := q02j h
    exact ⟨j + 1, by omega, by simpa using h2⟩
 | .t _ :: l, i, p, h => by
   simp only [q02i] at h
   obtain ⟨j, h1, h2⟩ := q02j h
   exact ⟨j + 1, by omega, by simpa using h2⟩
 | .sub _ _ _ :: l, i, p, h => by
   simp only [q02i] at h
   obtain ⟨j, h1, h2⟩ := q02j h
   exact ⟨j + 1, by omega, by simpa using h2⟩
 | .ptr _ _ :: l, i, p, h => by
   simp only [q02i] at h
   obtain ⟨j, h1, h2⟩ := q02j h
   exact ⟨j + 1, by omega, by simpa using h2⟩
 | .agg _ :: l, i, p, h => by
   simp only [q02i] at h
   obtain ⟨j, h1, h2⟩ := q02j h
   exact ⟨j + 1, by omega, by simpa using h2⟩
 | .tup _ :: l, i, p, h => by
   simp only [q02i] at h
   obtain ⟨j, h1, h2⟩ := q02j h
   exact ⟨j + 1, by omega, by simpa using h2⟩
 | .fn _ _ :: l, i, p, h => by
   simp only [q02i] at h
   obtain ⟨j, h1, h2⟩ := q02j h
   exact ⟨j + 1, by omega, by simpa using h2⟩
theorem q02g : ∀ {as : List A}, q02f as = true -> ∀ i (h : i < as.length), (∃ c, as[i] = .t c) ∨ ∃ q, as[i] = .own q
 | .t c :: l, hk, i, h => by
   simp only [q02f, Bool.and_eq_true] at hk
   cases i with
   | zero => exact .inl ⟨c, rfl⟩
   | succ i => exact q02g hk.2 i (by simpa using h)
 | .own q :: l, hk, i, h => by
   simp only [q02f] at hk
   cases i with
   | zero => exact .inr ⟨q, rfl⟩
   | succ i => exact q02g hk i (by simpa using h)
theorem Good.relink {X : Nat -> Prop} {w0 : World} {O0 : Fr} {a : Act} {w : World} {hs : Nat -> Option Value} {fp : Nat -> List Nat} (g : Good X w0 O0 n S a w hs fp) {d : Nat} {t : T} {lk0 lk : List (Nat × Nat)} {x : Value} (hr : S.roots d = .live t lk0) (hx : hs d = some x)
  (hl : ∀ p ∈ lk, ∃ y, cellOf w x p.1 = some y /\ hs p.2 = some y) : Good X w0 O0 n { S with roots := upd S.roots d (.live t lk) } a w hs fp := by
 refine ⟨g.size, g.defers, g.env, fun r => ?_, g.disj, g.nodup, g.foreign, g.xold, g.xout, g.mine, g.hist, fun r t' lk' h => ?_, g.hdr, g.small, g.pin⟩
 ·by_cases h : r = d
  ·subst h
   have h0 := g.root r
   rw [hr] at h0
   obtain ⟨y, hy, ho, _⟩ := h0
   show q00d _ _ _ (upd S.roots r (.live t lk) r) _ _
   rw [q0x2]
   rw [hx] at hy; cases hy
   exact ⟨x, hx, ho, hl⟩
  ·show q00d _ _ _ (upd S.roots d (.live t lk) r) _ _
   rw [q0x1 _ _ _ _ h]; exact g.root r
 ·have h : upd S.roots d (.live t lk) r = .live t' lk' := h
  by_cases hrd : r = d
  ·subst hrd; rw [q0x2] at h; cases h; exact g.rooty r _ _ hr
  ·rw [q0x1 _ _ _ _ hrd] at h; exact g.rooty r _ _ h
theorem q0ml {o : Oper} {t : TypeId} {d : Nat} {x : Operand} (ho : o.op = .box t x) (hdst : o.dst = some d) (hd : d < n) (k : q02h (S.ev x) d S K) : OpW P n o S K := by
 unfold q02h at k
 split at k
 ·rename_i as hc
  obtain ⟨hok, hfree, hK⟩ := k
  intro X w0 O0 a w hs fp g Q
  obtain ⟨hcs, hci⟩ := q07k g.hdr (g.ev x) hc
  have hlen : (a.eval x).cells.toList.length = as.length := by simpa using hcs
  have hci' : ∀ i (h : i < as.length), Is w (Ob X fp) hs as[i] ((a.eval x).cells.toList.getD i undef) := fun i h => by simpa [Array.getD_eq_getD_getElem?, List.getD_eq_getElem?_getD] using hci i h
  have hrun : (execOp a.eval o).run P w = .ok (.value (.pointer (some ⟨w.heap.size, 0, none⟩))) (w.alloc (.cells (a.eval x).cells t)) := by
   simp [execOp, ho, Instr.box, newVar, newRow]
  have hnone : hs d = none := by have := g.root d; rw [hfree] at this; exact this.1
  have g2 := g.newRow (Inter.refl S fp) (ts := as.map q02e) (vs := (a.eval x).cells.toList) (gs := List.replicate as.length []) (by simp) (fun i h => by
    have h' : i < as.length := by simpa using h
    rw [List.getElem_map, List.getD_eq_getElem?_getD (l := List.replicate _ _), List.getElem?_replicate, if_pos h']
    have hi := hci' i h'
    rcases q02g hok i h' with ⟨c, e⟩ | ⟨q, e⟩
    ·rw [e] at hi ⊢
     cases hi with | t hr => exact .rd hr
    ·rw [e]; exact .rd (.any _)) (by simp) (by simp) hfree hd (a.eval x).cells t (fun i h => by simp [Array.getD_eq_getD_getElem?, List.getD_eq_getElem?_getD]) (.box (as.map q02e)) (.pointer (some ⟨w.heap.size, 0, none⟩)) rfl
   (w.alloc (.cells (a.eval x).cells t)) rfl rfl rfl rfl
   (fun w' O' hb hr => .box _ _ _ _ _ hb (by simpa using hlen.symm) (by simp) hr)
  have g3 := g2.relink (d := d) (lk := q02i 0 as) (q0x2 _ _ _) (q0x2 _ _ _) (fun p hp => by
   obtain ⟨j, h1, h2⟩ := q02j hp
   obtain ⟨hj, he⟩ := List.getElem?_eq_some_iff.1 h2
   have hi := hci' j hj
   rw [he] at hi
   have hq := hi.own_inv
   have hne : p.2 ≠ d := fun e => by rw [e, hnone] at hq; cases hq
   refine ⟨(a.eval x).cells.toList.getD j undef, ?_, by rw [q0x1 _ _ _ _ hne]; exact hq⟩
   have hj2 : j < (a.eval x).cells.toList.length := by omega
   have hb : (w.alloc (.cells (a.eval x).cells t)).heap[w.heap.size]? = some (.cells (a.eval x).cells t (0, 0)) := by
    show (w.heap.push _)[w.heap.size]? = _
    simp
   have := q060 hb (show j < (a.eval x).cells.size by simpa using hj2)
   rw [h1]
   simp only [cellOf, Nat.zero_add]
   rw [this]
   simp [Array.getD_eq_getD_getElem?, List.getD_eq_getElem?_getD])
  unfold Oper.wp
  rw [hrun, Oper.upon_value, hdst]
  refine ⟨_, _, _, g3, ?_⟩
  have e : upd (upd S.roots d (.live (.box (as.map q02e)) [])) d (.live (.box (as.map q02e)) (q02i 0 as)) = upd S.roots d (.live (.box (as.map q02e)) (q02i 0 as)) := by
   funext r; by_cases h : r = d
   ·subst h; rw [q0x2, q0x2]
   ·rw [q0x1 _ _ _ _ h, q0x1 _ _ _ _ h, q0x1 _ _ _ _ h]
  rw [e]
  exact hK
 ·exact k.elim
end
end Go.Ab

/- The abstract layer, part 33: fields and elements of values; copy. -/
namespace Go.Ab
def q1mo (off : Nat) (x : A) (K : A -> Prop) : Prop :=
 match x with
 | .t (.agg l) => ∃ c, l[off]? = some c /\ K (.t c)
 | _ => False
def q1ek (len : Nat) (x y : A) (K : A -> Prop) : Prop :=
 match x, y with
 | .t (.agg l), .t (.v (.int _ i)) => 0 <= i /\ i < len /\ ∃ c, l[i.toNat]? = some c /\ K (.t c)
 | _, _ => False
def q1e5 (x y : A) (d : Nat) (K : St -> Prop) (S : St) : Prop :=
 match x, y with
 | .own q, .t (.sh 1 m) => (match S.roots q with
   | .live (.arr 1 l) [] => (m.all T.cell) = true /\ 0 < m.length /\ m.length <= l.length /\ K { env := upd S.env d (.i m.length), roots := upd S.roots q (.live (.arr 1 (m ++ l.drop m.length)) []) }
   | _ => False)
 | _, _ => False
section
variable {P : Program} {n : Nat} {S : St} {K : St -> Prop} {X : Nat -> Prop} {w0 : World} {O0 : Fr} {a : Act} {w : World} {hs : Nat -> Option Value} {fp : Nat -> List Nat}
theorem q1o3 {t : TypeId} (h : q0w0 P t = some false) {cs : Array Value} {off : Nat} {v : Value} (hc : cs[off]? = some v) (w : World) : (part t cs off).run P w = .ok v w := by
 simp [part, q0w1 h, hc, Sem.run_bind, Result.andThen]
theorem q1m9 {o : Oper} {t : TypeId} {d f off z : Nat} {x : Operand} (hf : q0wc P t f = some (off, z, false)) (ho : o.op = .field t x f) (hdst : o.dst = some d) (hd : d < n) (k : q1mo off (S.ev x) (putK S d K)) : OpW P n o S K := by
 unfold q1mo at k
 split at k
 ·rename_i l hx
  obtain ⟨c, hc, hK⟩ := k
  refine OpW.val (x := .t c) hdst hd (fun X w0 O0 a w hs fp g => ?_) hK
  have h1 := g.ev x; rw [hx] at h1
  obtain ⟨vs, hv, hl, hr⟩ := h1.tagg_inv
  obtain ⟨hi, rfl⟩ := List.getElem?_eq_some_iff.1 hc
  obtain ⟨fs, fd, hu, hfd, hoff, hsz, hag⟩ := q0wd hf
  have hv' : vs.toArray[off]? = some (vs.getD off undef) := by simp [List.getD_eq_getElem?_getD, List.getElem?_eq_getElem (show off < vs.length by omega)]
  refine ⟨vs.getD off undef, ?_, hr off hi⟩
  have hp := q1o3 (P := P) hag hv' w
  simp [execOp, ho, hv, Instr.field, run_underlying hu, hfd, hoff, asAgg, hp, Sem.run_bind, Result.andThen]
 ·exact k.elim
theorem q1m8 {o : Oper} {t : TypeId} {d len : Nat} {x y : Operand} {e : TypeId} (ht : P.underlying t = some (.array len e)) (hz : q0wn P e = some 1) (hag : q0w0 P e = some false) (ho : o.op = .index t x y) (hdst : o.dst = some d) (hd : d < n) (k : q1ek len (S.ev x) (S.ev y) (putK S d K)) : OpW P n o S K := by
 unfold q1ek at k
 split at k
 ·rename_i l kk i hx hy
  obtain ⟨h0, h1, c, hc, hK⟩ := k
  refine OpW.val (x := .t c) hdst hd (fun X w0 O0 a w hs fp g => ?_) hK
  have hx1 := g.ev x; rw [hx] at hx1
  have hy1 := g.ev y; rw [hy] at hy1; have hy1 := hy1.v_inv
  obtain ⟨vs, hv, hl, hr⟩ := hx1.tagg_inv
  obtain ⟨hi, rfl⟩ := List.getElem?_eq_some_iff.1 hc
  have hv' : vs.toArray[i.toNat]? = some (vs.getD i.toNat undef) := by simp [List.getD_eq_getElem?_getD, List.getElem?_eq_getElem (show i.toNat < vs.length by omega)]
  refine ⟨vs.getD i.toNat undef, ?_, hr _ hi⟩
  have hp := q1o3 (P := P) hag hv' w
  have hzr := q0wo hz w
  simp [execOp, ho, hv, hy1, Instr.index, run_underlying ht, asIntOf, h0, h1, hzr, hp, Sem.run_bind, Result.andThen]
 ·exact k.elim

theorem q1m6 {o : Oper} {t t2 : TypeId} {d : Nat} {x y : Operand} {e : TypeId} (ht : q0w9 P t = some e) (hz : q0wn P e = some 1) (ho : o.op = .call { callee := .builtin .copy, args := #[x, y], argTypes := #[t, t2] }) (hdst : o.dst = some d) (hd : d < n) (k : q1e5 (S.ev x) (S.ev y) d K S) : OpW P n o S K := by
 unfold q1e5 at k
 split at k
 ·rename_i q m hx hy
  split at k
  ·rename_i l hq
   obtain ⟨hcell, hm0, hml, hK⟩ := k
   intro X w0 O0 a w hs fp g Q
   rcases g.arr hq with ⟨_, rfl, _⟩ | ⟨b, len, cap, cs, e', fps, hx1, hb, hl, hc, hmx, hsz, hf, hr, hfp, hle, hlk⟩
   ·simp only [List.length_nil] at hml; omega
   have hxv := g.ev x; rw [hx] at hxv
   have hxv := hxv.own_inv
   rw [hx1] at hxv
   have hxv := (Option.some.inj hxv).symm
   have hyv := g.ev y; rw [hy] at hyv
   obtain ⟨ad, mc, hyv, vs, hvl, hvc, hvr⟩ : ∃ ad mc, a.eval y = .slice (some ad) m.length mc /\ ∃ vs : List Value, vs.length = m.length /\ (∀ j v, vs[j]? = some v -> w.cell? (ad.add j) = some v) /\ ∀ j (h : j < m.length), Rd w (Ob X fp) m[j] (vs.getD j undef) := by
    cases hyv with
    | t hyv =>
      generalize a.eval y = yv at hyv
      cases hyv with
      | shNil => simp at hm0
      | shZ => simp at hm0
      | sh s l' b2 off len2 cap2 cs2 e2 fz hn hb2 hsz2 hl2 hc2 hr2 =>
        have hlen2 : len2 = m.length := by omega
        subst hlen2
        refine ⟨⟨b2, off, none⟩, cap2, rfl, (List.range m.length).map fun j => cs2.getD (off + j) undef, by simp, fun j v hj => ?_, fun j h => ?_⟩
        ·rw [List.getElem?_map, Option.map_eq_some_iff] at hj
         obtain ⟨j', hj', rfl⟩ := hj
         obtain ⟨hjl, rfl⟩ := List.getElem?_eq_some_iff.1 hj'
         simp only [List.length_range] at hjl
         have : off + j < cs2.size := by omega
         rw [addr_add, cell_of_row w b2 (off + j) cs2 e2 fz hb2]
         simp [Array.getD_eq_getD_getElem?, this]
        ·have := hr2 j h
         simpa [List.getD_eq_getElem?_getD, h] using this
   obtain ⟨ie, hie, hies⟩ := q0wp hz
   have hone : ∀ v ∈ vs, v.oneCell' = true := fun v hv => by
    obtain ⟨j, hj, rfl⟩ := List.mem_iff_getElem.1 hv
    have h1 := hvr j (by omega)
    rw [List.getD_eq_getElem?_getD, List.getElem?_eq_getElem hj] at h1
    exact (Ow.rd h1).oneCell (List.all_eq_true.1 hcell _ (List.getElem_mem _))
   have hmin : vs.length = Nat.min m.length len := by rw [hvl]; simp [Nat.min_def]; omega
   have hrun := run_copy_row (P := P) w t t2 o.type e b 0 len cap ad m.length mc cs e' vs (q0wa ht) (by rw [hie]; simp [hies]) hb hmin hvc (by omega) hone
   have hrun' : (execOp a.eval o).run P w = .ok (.value (.int .i64 m.length)) (w.setRow b (vs ++ cs.toList.drop vs.length).toArray) := by
    simp only [execOp, ho, resolve, invoke, builtin, Sem.run_bind, Sem.run_pure, Result.andThen_ok, List.map_cons, List.map_nil, hxv, hyv]
    simp [hxv, hyv, hrun, goInt, hvl, Sem.run_bind, Result.andThen]
   have hother : ∀ k, k ≠ b -> (w.setRow b (vs ++ cs.toList.drop vs.length).toArray).heap[k]? = w.heap[k]? := fun k hk => setRow_other w b k _ hk
   have hnew : (w.setRow b (vs ++ cs.toList.drop vs.length).toArray).heap[b]? = some (.cells (vs ++ cs.toList.drop vs.length).toArray e' (0, 0)) := setRow_heap w b cs _ e' _ hb
   have hnd : (b :: fps.flatten).Nodup := by rw [← hfp]; exact g.nodup q
   have hnf : (List.replicate m.length ([] : List Nat) ++ fps.drop m.length).flatten.Sublist fps.flatten := by
    rw [List.flatten_append, show (List.replicate m.length ([] : List Nat)).flatten = [] from by simp, List.nil_append]
    have e : fps.flatten = (fps.take m.length).flatten ++ (fps.drop m.length).flatten := by rw [← List.flatten_append, List.take_append_drop]
    rw [e]; exact List.sublist_append_right _ _
   have hcl : cs.toList.length = cs.size := Array.length_toList
   have hkeep : q009 (fun b => ¬ Ob X fp b) w (w.setRow b (vs ++ cs.toList.drop vs.length).toArray) := fun b' cs' e' fz' hn hb' => by
    rw [hother b' (fun h => hn (.inr ⟨q, by rw [hfp, h]; simp⟩))]; exact hb'
   have g2 := g.lay (Inter.refl S fp) q (.arr 1 (m ++ l.drop m.length)) [] (.slice (some ⟨b, 0, none⟩) len cap) (b :: (List.replicate m.length ([] : List Nat) ++ fps.drop m.length).flatten) (w.setRow b (vs ++ cs.toList.drop vs.length).toArray) (.inr hx1) rfl rfl rfl rfl (by simp)
    (fun b' hb' hq' => hother b' fun h => (hq' q (by rw [hfp, h]; simp)).1 rfl)
    (List.nodup_cons.2 ⟨fun hm' => (List.nodup_cons.1 hnd).1 (hnf.subset hm'), (List.nodup_cons.1 hnd).2.sublist hnf⟩)
    (fun b' hb' => by
     left
     refine ⟨q, ?_, .inl rfl⟩
     rw [hfp]
     rcases List.mem_cons.1 hb' with rfl | hb'
     ·simp
     ·exact List.mem_cons_of_mem _ (hnf.subset hb'))
    (fun O' hO => by
     have key : ∀ (t : T) (u : Value) (f : List Nat), Ow w (Ob X fp) t u f -> b ∉ f -> Ow (w.setRow b (vs ++ cs.toList.drop vs.length).toArray) O' t u f := fun t u f h hbf =>
      h.mono hkeep hO fun b' cs' e' fz' hb' hc' => by rw [hother b' (fun h => hbf (h ▸ hb'))]; exact hc'
     refine .arr 1 _ b len cap _ e' _ hnew (by simp; omega) hc hmx (by simp; omega) (by simp; omega) fun i hi => ?_
     have hil : i < l.length := by simp at hi; omega
     by_cases him : i < m.length
     ·have e1 : (m ++ l.drop m.length)[i] = m[i] := List.getElem_append_left him
      have e2 : (vs ++ cs.toList.drop vs.length).toArray.getD i undef = vs.getD i undef := by
       simp [Array.getD_eq_getD_getElem?, List.getD_eq_getElem?_getD, List.getElem?_append, show i < vs.length by omega]
      have e3 : (List.replicate m.length ([] : List Nat) ++ fps.drop m.length).getD i [] = [] := by
       rw [List.getD_eq_getElem?_getD, List.getElem?_append_left (by simpa using him), List.getElem?_replicate, if_pos him]; rfl
      rw [e1, e2, e3]
      exact key _ _ _ (.rd (hvr i him)) (by simp)
     ·have e1 : (m ++ l.drop m.length)[i] = l[i] := by
       rw [List.getElem_append_right (by omega), List.getElem_drop]; congr 1; omega
      have e2 : (vs ++ cs.toList.drop vs.length).toArray.getD i undef = cs.getD i undef := by
       simp only [Array.getD_eq_getD_getElem?, List.getElem?_toArray]
       rw [List.getElem?_append_right (by omega), List.getElem?_drop, show vs.length + (i - vs.length) = i by omega, Array.getElem?_toList]
      have e3 : (List.replicate m.length ([] : List Nat) ++ fps.drop m.length).getD i [] = fps.getD i [] := by
       rw [List.getD_eq_getElem?_getD, List.getElem?_append_right (by simp; omega), List.getElem?_drop, List.length_replicate, show m.length + (i - m.length) = i by omega, List.getD_eq_getElem?_getD]
      rw [e1, e2, e3]
      exact key _ _ _ (hr i hil) fun hm' => (List.nodup_cons.1 hnd).1 (q0k4 hm'))
    (fun p hp => by simp at hp)
   have g3 := g2.put hd (x := .i m.length) (v := .int .i64 m.length) (.t (.v _))
   unfold Oper.wp
   rw [hrun', Oper.upon_value, hdst]
   exact ⟨_, _, _, g3, hK⟩
  ·exact k.elim
 ·exact k.elim
end
end Go.Ab

/- The abstract layer, part 54: a row of bytes as a text. -/
namespace Go.Ab
def bytT : List T -> Option (List UInt8)
 | [] => some []
 | .v (.int .u8 n) :: l => (bytT l).map (UInt8.ofNat n.toNat :: ·)
 | _ => none
def q25p : List Value -> Option (List UInt8)
 | [] => some []
 | .int .u8 n :: l => (q25p l).map (UInt8.ofNat n.toNat :: ·)
 | _ => none
theorem q219 {w : World} {O : Nat -> Prop} : ∀ (l : List T) (vs : List Value) (bs : List UInt8), bytT l = some bs -> vs.length = l.length -> (∀ i (h : i < l.length), ∃ f, Ow w O l[i] (vs.getD i undef) f) -> q25p vs = some bs
 | [], vs, bs, h, hl, _ => by
   have : vs = [] := List.eq_nil_of_length_eq_zero hl
   subst this; exact h
 | t :: l, [], bs, h, hl, _ => by simp at hl
 | t :: l, v :: vs, bs, h, hl, hr => by
   match t, h with
   | .v (.int .u8 n), h =>
     simp only [bytT, Option.map_eq_some_iff] at h
     obtain ⟨bs', h1, rfl⟩ := h
     obtain ⟨f, h0⟩ := hr 0 (by simp)
     have hv : v = .int .u8 n := by
      have h2 := (h0.flat_rd rfl).1
      cases h2; rfl
     subst hv
     have ih := q219 l vs bs' h1 (by simpa using hl) fun i hi => by
      have := hr (i + 1) (by simpa using hi)
      simpa using this
     simp only [q25p, ih, Option.map_some]
theorem q24r {P : Program} {w : World} {F : Value -> ByteArray -> Go.Sem (ForInStep ByteArray)} (hF : ∀ n s, F (.int .u8 n) s = pure (ForInStep.yield (s.push (UInt8.ofNat n.toNat)))) : ∀ (l : List Value) (bs : List UInt8) (acc : ByteArray), q25p l = some bs →
  (forIn l acc F).run P w = .ok ⟨acc.data ++ bs.toArray⟩ w
 | [], bs, acc, h => by
   simp only [q25p, Option.some.injEq] at h; subst h
   simp
 | c :: l, bs, acc, h => by
   match c, h with
   | .int .u8 n, h =>
     simp only [q25p, Option.map_eq_some_iff] at h
     obtain ⟨bs', h1, rfl⟩ := h
     have ih := q24r (P := P) (w := w) hF l bs' (acc.push (UInt8.ofNat n.toNat)) h1
     simp only [List.forIn_cons, hF, Sem.run_bind, Sem.run_pure, Result.andThen_ok]
     rw [ih]
     congr 2
     simp [ByteArray.push]
theorem run_bytesToString {P : Program} {w : World} {b len cap : Nat} {vs : List Value} {bs : List UInt8} (hv : q25p vs = some bs) (hl : vs.length = len) (hc : ∀ j, j < len -> w.cell? ⟨b, j, none⟩ = some (vs.getD j undef)) :
  (Conv.bytesToString (.slice (some ⟨b, 0, none⟩) len cap)).run P w = .ok (.string ⟨bs.toArray⟩) w := by
 have h1 := run_loadCells (P := P) (w := w) ⟨b, 0, none⟩ len (fun i => vs.getD i undef) (fun j hj => by rw [addr_add, Nat.zero_add]; exact hc j hj)
 have e : ((List.range len).map fun i => vs.getD i undef) = vs := by
  refine List.ext_getElem (by simp [hl]) fun i h1 h2 => ?_
  simp [List.getD_eq_getElem?_getD, h2]
 simp only [Conv.bytesToString, Sem.run_bind]
 rw [h1]
 simp only [Result.andThen_ok]
 rw [e, List.forIn_toArray, q24r (fun n s => rfl) vs bs .empty hv]
 simp [ByteArray.empty, ByteArray.emptyWithCapacity]; rfl
theorem q24s {P : Program} {s t e : TypeId} (h1 : P.underlying s = some (.slice e)) (h2 : P.underlying e = some (.int .u8)) (h3 : P.underlying t = some .string) {w : World} {b len cap : Nat} {vs : List Value} {bs : List UInt8} (hv : q25p vs = some bs) (hl : vs.length = len) (hc : ∀ j, j < len -> w.cell? ⟨b, j, none⟩ = some (vs.getD j undef)) :
  (convert s t (.slice (some ⟨b, 0, none⟩) len cap)).run P w = .ok (.string ⟨bs.toArray⟩) w := by
 have u1 := run_underlying h1
 have u2 := run_underlying h2
 have u3 := run_underlying h3
 simp only [convert, Sem.run_bind, u1, u2, u3, Result.andThen_ok]
 exact run_bytesToString hv hl hc
def strC (x : A) (S : St) (K : A -> Prop) : Prop :=
 match x with
 | .own r => (match S.roots r with | .live (.arr 1 l) _ => (match bytT l with | some bs => K (.v (.string ⟨bs.toArray⟩)) | none => False) | _ => False)
 | _ => False
def q267 (P : Program) (s : TypeId) : Bool := match P.underlying s with | some (.slice e) => (match P.underlying e with | some (.int .u8) => true | _ => false) | _ => false
theorem q268 {P : Program} {s : TypeId} (h : q267 P s = true) : ∃ e, P.underlying s = some (.slice e) /\ P.underlying e = some (.int .u8) := by
 unfold q267 at h
 split at h
 ·rename_i e he
  split at h
  ·rename_i he2; exact ⟨e, he, he2⟩
  ·cases h
 ·cases h
section
variable {P : Program} {n : Nat} {S : St} {K : St -> Prop}
theorem q24g {o : Oper} {d : Nat} {s t : TypeId} {x : Operand} (hs : q267 P s = true) (ht : q0wq P t = true) (ho : o.op = .convert s t x) (hdst : o.dst = some d) (hd : d < n) (k : strC (S.ev x) S (putK S d K)) : OpW P n o S K := by
 obtain ⟨e, h1, h2⟩ := q268 hs
 have h3 : P.underlying t = some .string := by unfold q0wq at ht; split at ht <;> first | assumption | cases ht
 unfold strC at k
 split at k
 ·rename_i r hx
  split at k
  ·rename_i l lk hr
   split at k
   ·rename_i bs hbs
    refine OpW.val hdst hd (fun X w0 O0 a w hs fp g => ?_) k
    have hv := g.ev x
    rw [hx] at hv
    have hv := hv.own_inv
    have hroot := g.root r
    rw [hr] at hroot
    obtain ⟨y, hy, hO, _⟩ := hroot
    rw [hv, Option.some.injEq] at hy
    subst hy
    refine ⟨.string ⟨bs.toArray⟩, ?_, .t (.v _)⟩
    have key : ∀ v f, Ow w (Ob X fp) (.arr 1 l) v f -> (convert s t v).run P w = .ok (.string ⟨bs.toArray⟩) w := by
     intro v f h
     cases h with
     | rd h => cases h
     | arrNil =>
       simp only [bytT, Option.some.injEq] at hbs
       subst hbs
       simp only [convert, Sem.run_bind, run_underlying h1, run_underlying h2, run_underlying h3, Result.andThen_ok]
       rfl
     | arr _ _ b len cap cs e' fps hb hl hc hm hsz hf hr2 =>
       have hl : l.length = len := by omega
       have hlen : (cs.toList.take len).length = len := by simp; omega
       have hget : ∀ j, j < len -> (cs.toList.take len).getD j undef = cs.getD j undef := fun j hj => by
        rw [List.getD_eq_getElem?_getD, List.getElem?_take, if_pos hj, Array.getElem?_toList, Array.getD_eq_getD_getElem?]
       refine q24s h1 h2 h3 (vs := cs.toList.take len) ?_ hlen fun j hj => ?_
       ·exact q219 l _ bs hbs (by omega) fun i hi => ⟨_, by rw [hget i (by omega)]; exact hr2 i hi⟩
       ·rw [hget j hj]; exact q060 hb (by omega)
    have hrun := key _ _ hO
    simp [execOp, ho, hrun]
   ·exact k.elim
  ·exact k.elim
 ·exact k.elim
end
end Go.Ab

/- The abstract layer, part 19: code in a compact form, with the types' facts already looked up, and what it does to a state. -/
namespace Go.Ab

inductive CO where
 | move (d : Nat) (x : Operand)
 | pick (d : Nat) (c x y : Operand)
 | bin (d : Nat) (op : BinOp) (x y : Operand)
 | beq (d : Nat) (ne : Bool) (x y : Operand)
 | un (d : Nat) (op : UnOp) (x : Operand)
 | extract (d : Nat) (x : Operand) (i : Nat)
 | lenS (d : Nat) (x : Operand)
 | lenT (d : Nat) (x : Operand)
 | idx (d z : Nat) (x y : Operand)
 | fld (d off : Nat) (x : Operand)
 | load1 (d : Nat) (x : Operand)
 | loadN (d z : Nat) (x : Operand)
 | store (z : Nat) (x v : Operand)
 | alloc (d : Nat) (zs : List T)
 | box (d : Nat) (x : Operand)
 | build (d : Nat) (zs : List T) (pl : List (Nat × Nat)) (parts : List (Nat × Operand))
 | bslice (d z len : Nat) (parts : List (Nat × Operand))
 | make (d : Nat) (zs : List T) (eb : Nat) (l c : Operand)
 | app (d z eb : Nat) (b x : Operand)
 | conv (d : Nat) (k : IntKind) (x : Operand)
 | nilc (d : Nat) (x : Operand)
 | mkf (d f : Nat) (caps : List Operand)
 | mm (d : Nat) (mx : Bool) (x y : Operand)
 | call (d : Option Nat) (f : Operand) (args : List Operand)
 | bad (d : Option Nat)
 | beqS (d : Nat) (ne : Bool) (m : Nat) (x y : Operand)
 | isNil (d : Nat) (ne : Bool) (x : Operand)
 | slc (d z : Nat) (x : Operand) (lo hi : Option Operand)
 | idxA (d len z : Nat) (x y : Operand)
 | boxL (d : Nat) (x : Operand)
 | fldV (d off : Nat) (x : Operand)
 | idxV (d len : Nat) (x y : Operand)
 | copyS (d : Nat) (x y : Operand)
 | strB (d : Nat) (x : Operand)

def CO.dst : CO -> Option Nat
 | .move d _ | .pick d _ _ _ | .bin d _ _ _ | .beq d _ _ _ | .un d _ _ | .extract d _ _ | .lenS d _ | .lenT d _ | .idx d _ _ _ | .fld d _ _ | .load1 d _ | .loadN d _ _ | .alloc d _ | .box d _ | .build d _ _ _ | .bslice d _ _ _ | .make d _ _ _ _
 | .app d _ _ _ _ | .conv d _ _ | .nilc d _ | .mkf d _ _ | .mm d _ _ _ | .beqS d _ _ _ _ | .isNil d _ _ | .slc d _ _ _ _ | .idxA d _ _ _ _ | .boxL d _ | .fldV d _ _ | .idxV d _ _ _ | .copyS d _ _ | .strB d _ => some d
 | .store _ _ _ => none
 | .call d _ _ => d
 | .bad d => d

def q0w5 (P : Program) (t : TypeId) : Bool := match P.underlying t with | some .bool => true | _ => false
theorem q0w6 {P : Program} {t : TypeId} (h : q0w5 P t = true) : P.underlying t = some .bool := by
 unfold q0w5 at h
 split at h
 ·rename_i h1; exact h1
 ·cases h

def q0vo (P : Program) (d : Option Nat) (c : Call) : Option CO :=
 match c.callee with
 | .value f => some (.call d f c.args.toList)
 | .builtin .len => (match d, c.args.toList, c.argTypes.toList with
   | some d, [x], [t] => if q0wq P t then some (.lenT d x) else if (q0w9 P t).isSome then some (.lenS d x) else none
   | _, _, _ => none)
 | .builtin .append => (match d, c.args.toList, c.argTypes.toList with
   | some d, [b, x], [t, t'] => if t = t' then (match q0w9 P t, tyEs P t, tyEb P t with
     | some e, some z, some eb => (match q0ws P e with
       | some zs => if q0wn P e = some zs.length /\ 0 < z /\ 0 < eb then some (.app d z eb b x) else none
       | none => none)
     | _, _, _ => none) else none
   | _, _, _ => none)
 | .builtin .max => (match d, c.args.toList with
   | some d, [x, y] => some (.mm d true x y)
   | _, _ => none)
 | .builtin .min => (match d, c.args.toList with
   | some d, [x, y] => some (.mm d false x y)
   | _, _ => none)
 | .builtin .copy => (match d, c.args.toList, c.argTypes.toList with
   | some d, [x, y], [t, _] => (match q0w9 P t with
     | some e => if q0wn P e = some 1 then some (.copyS d x y) else none
     | none => none)
   | _, _, _ => none)
 | _ => none

def trD (P : Program) (d : Nat) : Op -> Option CO
 | .move x => some (.move d x)
 | .assign x => some (.move d x)
 | .pick c x y => some (.pick d c x y)
 | .binOp op t x y _ => if (q0wg P t).isSome || q0wq P t then some (.bin d op x y) else if q0w5 P t then (match op with | .eql => some (.beq d false x y) | .neq => some (.beq d true x y) | _ => none) else
   (match q0wi P t with
   | some m => (match op with | .eql => some (.beqS d false m x y) | .neq => some (.beqS d true m x y) | _ => none)
   | none => if (q0w9 P t).isSome then (match op, y with | .eql, .const (.slice none 0 0) => some (.isNil d false x) | .neq, .const (.slice none 0 0) => some (.isNil d true x) | _, _ => none) else none)
 | .unOp op _ x => some (.un d op x)
 | .extract x i => some (.extract d x i)
 | .indexAddr t x y => (match tyEs P t with | some z => if 0 < z then some (.idx d z x y) else none | none => (match q0w3 P t with | some p => some (.idxA d p.1 p.2 x y) | none => none))
 | .fieldAddr t x f => (match q0wc P t f with | some (off, z, _) => if 0 < z then some (.fld d off x) else none | none => none)
 | .load t x => (match q0w0 P t, q0wn P t with
   | some false, _ => some (.load1 d x)
   | some true, some z => if 0 < z then some (.loadN d z x) else none
   | _, _ => none)
 | .alloc t => (match q265 P t with | some e => some (.alloc d [.bld t e []]) | none => (match q0ws P t with | some zs => some (.alloc d zs) | none => none))
 | .box _ x => some (.box d x)
 | .build t parts => (match q0ws P t, q0we P t with | some zs, some pl => some (.build d zs pl parts.toList) | some zs, none => (match q0w3 P t with | some p => some (.build d zs ((List.range p.1).map fun i => (i * p.2, p.2)) parts.toList) | none => none) | _, _ => none)
 | .buildSlice t len parts => (match q0w9 P t, tyEs P t with
   | some e, some z => if (q0ws P e).isSome /\ 0 < z /\ len * z <= 16777216 then some (.bslice d z len parts.toList) else none
   | _, _ => none)
 | .makeSlice t l c => (match q0w9 P t with
   | some e => (match q0ws P e, q0w7 P e, q0wn P e with
     | some zs, some eb, some z => if z = zs.length /\ 0 < eb then some (.make d zs eb l c) else none
     | _, _, _ => none)
   | none => none)
 | .convert s t x => (match q0wg P s, q0wg P t with | some _, some k => some (.conv d k x) | _, _ => if q267 P s && q0wq P t then some (.strB d x) else none)
 | .nilCheck x => some (.nilc d x)
 | .field t x f => (match q0wc P t f with | some (off, _, false) => some (.fldV d off x) | _ => none)
 | .index t x y => (match P.underlying t with | some (.array len e) => if q0wn P e = some 1 /\ q0w0 P e = some false then some (.idxV d len x y) else none | _ => none)
 | .slice t x lo hi none => (match tyEs P t with | some z => if 0 < z then some (.slc d z x lo hi) else none | none => none)
 | .makeFunc (.func f) bs cap => (match bs.toList with | [] => some (.mkf d f cap.toList) | _ => none)
 | .call c => q0vo P (some d) c
 | _ => none

def trN (P : Program) : Op -> Option CO
 | .store t x v => (match q0wn P t with | some z => if 0 < z then some (.store z x v) else none | none => none)
 | .call c => q0vo P none c
 | _ => none

def trO (P : Program) (n : Nat) (o : Oper) : Option CO :=
 match o.dst with
 | some d => if d < n then some ((trD P d o.op).getD (.bad (some d))) else none
 | none => some ((trN P o.op).getD (.bad none))

-- what they do
def q0o6 (c x y : A) (K : A -> Prop) : Prop :=
 match c with
 | .t (.v (.bool b)) => (b = true -> K x) /\ (b = false -> K y)
 | _ => False
def beqC (ne : Bool) (x y : A) (K : A -> Prop) : Prop :=
 match x, y with
 | .t (.v (.bool a)), .t (.v (.bool b)) => K (.v (.bool (if ne then a != b else a == b)))
 | _, _ => False
def lenC (x : A) (S : St) (K : A -> Prop) : Prop :=
 match x with
 | .t (.v (.slice none 0 0)) => K (.v (.int .i64 0))
 | .t (.sh s l) => 0 < s /\ K (.v (.int .i64 ((l.length / s : Nat) : Int)))
 | .own r => (match S.roots r with | .live (.arr s l) _ => 0 < s /\ K (.v (.int .i64 ((l.length / s : Nat) : Int))) | _ => False)
 | .sub _ _ m => K (.v (.int .i64 (m : Nat)))
 | _ => False
def q0i2 (x : A) (K : A -> Prop) : Prop :=
 match x with
 | .t (.v (.string s)) => K (.v (.int .i64 s.size))
 | _ => False
def idxC (z : Nat) (x i : A) (S : St) (K : A -> Prop) : Prop :=
 match i with
 | .t (.v (.int _ iv)) => 0 <= iv /\ (match x with
   | .t (.sh s l) => s = z /\ (iv.toNat + 1) * z <= l.length /\ K (.t (.pin l (iv.toNat * z)))
   | .own r => (match S.roots r with | .live (.arr s l) _ => s = z /\ (iv.toNat + 1) * z <= l.length /\ K (.ptr r (iv.toNat * z)) | _ => False)
   | .sub r off m => iv.toNat < m /\ K (.ptr r (off + iv.toNat * z))
   | _ => False)
 | _ => False
def fldC (off : Nat) (x : A) (S : St) (K : A -> Prop) : Prop :=
 match x with
 | .t (.pin l o) => K (.t (.pin l (o + off)))
 | .ptr r o => K (.ptr r (o + off))
 | .own r => (match S.roots r with | .live (.box _) _ => K (.ptr r off) | _ => False)
 | _ => False
def q0i5 (x : A) (d : Nat) (K : St -> Prop) (S : St) : Prop :=
 match x with
 | .t (.pin l off) => off < l.length /\ ∀ c, l[off]? = some c -> K { S with env := upd S.env d (.t c) }
 | .ptr r off => (match (S.roots r).cells with
   | some (l, lk) => off < l.length /\ (match lk.lookup off with
     | some q => K { S with env := upd S.env d (.own q) }
     | none => ∀ c, l[off]? = some c -> q0il S r off d l lk c K)
   | none => False)
 | .own r => (match S.roots r with
   | .live (.box l) lk => 0 < l.length /\ (match lk.lookup 0 with
     | some q => K { S with env := upd S.env d (.own q) }
     | none => ∀ c, l[0]? = some c -> q0il S r 0 d l lk c K)
   | _ => False)
 | _ => False
def q0p8 (lk : List (Nat × Nat)) : Nat -> List T -> List A
 | _, [] => []
 | off, c :: l => (match lk.lookup off with | some q => .own q | none => .t c) :: q0p8 lk (off + 1) l
def q0pd (lk : List (Nat × Nat)) : Nat -> List T -> Bool
 | _, [] => true
 | off, c :: l => ((lk.lookup off).isSome || c.flat) && q0pd lk (off + 1) l
def noLk (off z : Nat) : List (Nat × Nat) -> Bool
 | [] => true
 | p :: lk => (decide (p.1 < off) || decide (off + z <= p.1)) && noLk off z lk
def q0pb (z d r off : Nat) (K : St -> Prop) (S : St) : Prop :=
 match (S.roots r).cells with
 | some (l, lk) => off + z <= l.length /\ q0pd lk off ((l.drop off).take z) = true /\ K { S with env := upd S.env d (.agg (q0p8 lk off ((l.drop off).take z))) }
 | none => False
def q0ne (r off d : Nat) (K : St -> Prop) : Nat -> St -> Prop
 | 0, S => K S
 | k + 1, S => match (S.roots r).cells with
   | some (l, lk) => (match lk.lookup (off + k), l[off + k]? with
     | none, some (.arr s l') => S.roots (rid d (k + 1)) = .free /\ q0ne r off d K k { S with roots := upd (upd S.roots r ((S.roots r).with (l.set (off + k) .any) ((off + k, rid d (k + 1)) :: lk))) (rid d (k + 1)) (.live (.arr s l') []) }
     | none, some (.box l') => S.roots (rid d (k + 1)) = .free /\ q0ne r off d K k { S with roots := upd (upd S.roots r ((S.roots r).with (l.set (off + k) .any) ((off + k, rid d (k + 1)) :: lk))) (rid d (k + 1)) (.live (.box l') []) }
     | _, _ => q0ne r off d K k S)
   | none => False
def q05u (l : List T) (lk : List (Nat × Nat)) (r off z d : Nat) (K : St -> Prop) (S : St) : Prop :=
 if (((l.drop off).take z).all T.flat && noLk off z lk) = true then K { S with env := upd S.env d (.t (.agg ((l.drop off).take z))) }
 else if q0pd lk off ((l.drop off).take z) = true then K { S with env := upd S.env d (.agg (q0p8 lk off ((l.drop off).take z))) }
 else z < 1000 /\ q0ne r off d (q0pb z d r off K) z S
def q0in (z : Nat) (x : A) (d : Nat) (K : St -> Prop) (S : St) : Prop :=
 match x with
 | .t (.pin l off) => off + z <= l.length /\ K { S with env := upd S.env d (.t (.agg ((l.drop off).take z))) }
 | .ptr r off => (match (S.roots r).cells with
   | some (l, lk) => off + z <= l.length /\ q05u l lk r off z d K S
   | none => False)
 | .own r => (match S.roots r with
   | .live (.box l) lk => z <= l.length /\ q05u l lk r 0 z d K S
   | _ => False)
 | _ => False
def q0tk (z : Nat) (x v : A) (K : St -> Prop) (S : St) : Prop :=
 match q00n S x, q07j v with
 | some (r, off), some as => as.length = z /\ q0cw S as (q0tm r off z K)
 | _, _ => False
def q02w (zs : List T) (pl : List (Nat × Nat)) (parts : List (Nat × A)) (K : A -> Prop) : Prop :=
 match q08z (fun i => pl[i]?) (zs.map .t) parts with
 | some as => K (.agg as)
 | none => False
def q02l (z len d : Nat) (parts : List (Nat × A)) (K : St -> Prop) (S : St) : Prop :=
 match q08z (fun i => some (i * z, z)) (List.replicate (len * z) (.t .any)) parts with
 | some as => q0cw S as (newK d (.arr z) K)
 | none => False
def makeC (zs : List T) (eb : Nat) (l c : A) (d : Nat) (K : St -> Prop) (S : St) : Prop :=
 match l, c with
 | .t (.v (.int _ m)), .t (.v (.int _ m')) => m' = m /\ 0 <= m /\ m * eb <= 281474976710656 /\ newK d (.arr zs.length) K (made zs m.toNat) S
 | _, _ => False
def q07p (k : IntKind) (x : A) (K : A -> Prop) : Prop :=
 match x with
 | .t (.v (.int _ m)) => K (.v (.int k (k.wrap m)))
 | _ => False

def q006 (P : Program) (n : Nat) (d : Option Nat) (f : Operand) (as : List Operand) (K : St -> Prop) (S : St) : Prop :=
 ∀ (o : Oper) (ts : Array TypeId), o.op = .call { callee := .value f, args := as.toArray, argTypes := ts } -> o.dst = d -> (∀ k, d = some k -> k < n) -> OpW P n o S K

def coW (P : Program) (n : Nat) : CO -> (St -> Prop) -> St -> Prop
 | .move d x, K, S => putK S d K (S.ev x)
 | .pick d c x y, K, S => q0o6 (S.ev c) (S.ev x) (S.ev y) (putK S d K)
 | .bin d op x y, K, S => binW op (S.ev x) (S.ev y) (putK S d K)
 | .beq d ne x y, K, S => beqC ne (S.ev x) (S.ev y) (putK S d K)
 | .un d op x, K, S => unW op (S.ev x) (putK S d K)
 | .extract d x i, K, S => q08w (S.ev x) i (putK S d K)
 | .lenS d x, K, S => lenC (S.ev x) S (putK S d K)
 | .lenT d x, K, S => q0i2 (S.ev x) (putK S d K)
 | .idx d z x y, K, S => idxC z (S.ev x) (S.ev y) S (putK S d K)
 | .fld d off x, K, S => fldC off (S.ev x) S (putK S d K)
 | .load1 d x, K, S => q0i5 (S.ev x) d K S
 | .loadN d z x, K, S => q0in z (S.ev x) d K S
 | .store z x v, K, S => q0tk z (S.ev x) (S.ev v) K S
 | .alloc d zs, K, S => newK d q248 K zs S
 | .box d x, K, S => boxW (S.ev x) d S K
 | .build d zs pl parts, K, S => q02w zs pl (parts.map fun p => (p.1, S.ev p.2)) (putK S d K)
 | .bslice d z len parts, K, S => q02l z len d (parts.map fun p => (p.1, S.ev p.2)) K S
 | .make d zs eb l c, K, S => makeC zs eb (S.ev l) (S.ev c) d K S
 | .app d z eb b x, K, S => q01n S (S.ev b) z (q014 (S.ev x) d z eb K)
 | .conv d k x, K, S => q07p k (S.ev x) (putK S d K)
 | .strB d x, K, S => strC (S.ev x) S (putK S d K)
 | .nilc d x, K, S => q0lp (S.ev x) S (putK S d K)
 | .mkf d f caps, K, S => putK S d K (.fn f (caps.map S.ev))
 | .mm d mx x y, K, S => mmW mx (S.ev x) (S.ev y) (putK S d K)
 | .call d f as, K, S => q006 P n d f as K S
 | .bad _, K, S => False
 | .beqS d ne m x y, K, S => q01s ne m (S.ev x) (S.ev y) (putK S d K)
 | .isNil d ne x, K, S => q0fr ne (S.ev x) S (putK S d K)
 | .slc d z x lo hi, K, S => slcC z (S.ev x) (lo.map S.ev) (hi.map S.ev) S (putK S d K)
 | .idxA d len z x y, K, S => arrC len z (S.ev x) (S.ev y) S (putK S d K)
 | .boxL d x, K, S => q02h (S.ev x) d S K
 | .fldV d off x, K, S => q1mo off (S.ev x) (putK S d K)
 | .idxV d len x y, K, S => q1ek len (S.ev x) (S.ev y) (putK S d K)
 | .copyS d x y, K, S => q1e5 (S.ev x) (S.ev y) d K S

section
variable {P : Program} {n : Nat} {S : St} {K : St -> Prop}

theorem q0pa (lk : List (Nat × Nat)) : ∀ (off : Nat) (l : List T), (q0p8 lk off l).length = l.length
 | _, [] => rfl
 | off, c :: l => by simp [q0p8, q0pa lk (off + 1) l]
theorem q0p9 {lk : List (Nat × Nat)} : ∀ {off : Nat} {l : List T} {i : Nat} (h : i < l.length), (q0p8 lk off l)[i]? = some (match lk.lookup (off + i) with | some q => .own q | none => .t l[i])
 | off, c :: l, 0, h => by simp [q0p8]
 | off, c :: l, i + 1, h => by
   have h' : i < l.length := by simpa using h
   have := q0p9 (lk := lk) (off := off + 1) h'
   rw [show off + 1 + i = off + (i + 1) by omega] at this
   simpa [q0p8] using this
theorem q0pe {lk : List (Nat × Nat)} : ∀ {off : Nat} {l : List T} {i : Nat} (h : i < l.length), q0pd lk off l = true -> lk.lookup (off + i) = none -> l[i].flat = true
 | off, c :: l, 0, h, hk, hn => by
   simp only [q0pd, Bool.and_eq_true, Bool.or_eq_true] at hk
   rw [Nat.add_zero] at hn
   rcases hk.1 with h1 | h1
   ·rw [hn] at h1; cases h1
   ·exact h1
 | off, c :: l, i + 1, h, hk, hn => by
   simp only [q0pd, Bool.and_eq_true] at hk
   have h' : i < l.length := by simpa using h
   exact q0pe (off := off + 1) h' hk.2 (by rw [show off + 1 + i = off + (i + 1) by omega]; exact hn)
theorem q0n8 {o : Oper} {d z : Nat} {t : TypeId} {x : Operand} (ho : o.op = .load t x) (hdst : o.dst = some d) (hd : d < n) (ht : q0w0 P t = some true) (hz : q0wn P t = some z) {r off : Nat} {l : List T} {lk : List (Nat × Nat)}
  (hr : (S.roots r).cells = some (l, lk)) (hx : ∀ X w0 O0 a w hs fp, Good X w0 O0 n S a w hs fp -> Is w (Ob X fp) hs (.ptr r off) (a.eval x)) (hz0 : 0 < z) (hlt : off + z <= l.length)
  (hfl : q0pd lk off ((l.drop off).take z) = true) (hK : K { S with env := upd S.env d (.agg (q0p8 lk off ((l.drop off).take z))) }) : OpW P n o S K := by
 refine OpW.val (x := .agg (q0p8 lk off ((l.drop off).take z))) hdst hd (fun X w0 O0 a w hs fp g => ?_) hK
 obtain ⟨b, y, cs, e, fps, hy, hyb, hb, hle, hf, hro, hfp, hlk, _⟩ := g.block hr (show off < l.length by omega)
 have hv := g.ptr_block hy hyb (hx X w0 O0 a w hs fp g)
 have hln : ((l.drop off).take z).length = z := by simp; omega
 refine ⟨_, q08t ho ht hz hv hb (by omega), .agg (by simp [q0pa]; omega) fun i hi => ?_⟩
 rw [q0pa] at hi
 have hi' : i < z := by omega
 have hg := q0p9 (lk := lk) (off := off) hi
 have hi2 : i < (q0p8 lk off ((l.drop off).take z)).length := by rw [q0pa]; exact hi
 rw [List.getElem?_eq_getElem hi2, Option.some.injEq] at hg
 rw [hg]
 have hgv : ((List.range z).map fun i => cs.getD (off + i) undef).getD i undef = cs.getD (off + i) undef := by simp [List.getD_eq_getElem?_getD, hi']
 rw [hgv]
 split
 ·rename_i q hq
  obtain ⟨v, hv1, hv2⟩ := hlk _ (q0iy hq)
  have hc := q060 hb (show off + i < cs.size by omega)
  rw [hc] at hv1
  cases hv1
  exact .own hv2
 ·rename_i hq
  have hfi := q0pe hi hfl hq
  have e1 : ((l.drop off).take z)[i] = l[off + i]'(by omega) := by simp
  rw [e1] at hfi ⊢
  exact .t ((hro (off + i) (by omega)).flat_rd hfi).1
theorem OpW.unfold {o : Oper} {r off d : Nat} {l : List T} {lk : List (Nat × Nat)} {c : T} (hr : (S.roots r).cells = some (l, lk)) (hc : l[off]? = some c) (hfree : S.roots d = .free) (hd : n <= 100000 -> d < 1000000000) (hrt : c.rooty = true)
  (h : OpW P n o { S with roots := upd (upd S.roots r ((S.roots r).with (l.set off .any) ((off, d) :: lk))) d (.live c []) } K) : OpW P n o S K := fun X w0 O0 a w hs fp g Q => by
 obtain ⟨hs', fp', v, g', _⟩ := g.unfold hr hc hfree (hd g.small) hrt
 exact h X w0 O0 a w hs' fp' g' Q
def Keep (r : Nat) (S S' : St) : Prop := S'.env = S.env /\ (∃ l lk, (S'.roots r).cells = some (l, lk)) /\ ((∃ l lk, S.roots r = .live (.box l) lk) -> ∃ l lk, S'.roots r = .live (.box l) lk)
theorem Keep.ev {r : Nat} {S S' : St} (h : Keep r S S') (x : Operand) : S'.ev x = S.ev x := by
 have := h.1
 cases x <;> simp only [St.ev, this]
theorem q0n5 {o : Oper} {r off d : Nat} {S0 : St} {K' : St -> Prop} (hd : d < n) (hK : ∀ S, Keep r S0 S -> K' S -> OpW P n o S K) : ∀ (k : Nat) (S : St), k < 1000 -> Keep r S0 S -> q0ne r off d K' k S -> OpW P n o S K
 | 0, S, _, hc, h => hK S hc h
 | k + 1, S, hk, hc, h => by
   obtain ⟨l, lk, hr⟩ := hc.2.1
   have small : n <= 100000 -> rid d (k + 1) < 1000000000 := fun hn => by unfold rid; rw [if_neg (by omega)]; omega
   rw [q0ne] at h
   simp only [hr] at h
   have key : ∀ c, l[off + k]? = some c -> c.rooty = true -> S.roots (rid d (k + 1)) = .free -> q0ne r off d K' k { S with roots := upd (upd S.roots r ((S.roots r).with (l.set (off + k) .any) ((off + k, rid d (k + 1)) :: lk))) (rid d (k + 1)) (.live c []) } -> OpW P n o S K := fun c hcc hrt hfree h => by
    have hne : rid d (k + 1) ≠ r := fun e => by rw [e] at hfree; rw [hfree] at hr; simp [Root.cells] at hr
    refine OpW.unfold hr hcc hfree small hrt (q0n5 hd hK k _ (by omega) ⟨hc.1, ?_, fun hb => ?_⟩ h)
    ·simp only [q0x1 _ _ _ _ (Ne.symm hne), q0x2]
     rcases Root.cells_spec hr with ⟨s, h1⟩ | h1 <;> rw [h1] <;> exact ⟨_, _, rfl⟩
    ·obtain ⟨l1, lk1, h1⟩ := hc.2.2 hb
     simp only [q0x1 _ _ _ _ (Ne.symm hne), q0x2]
     rw [h1]; exact ⟨_, _, rfl⟩
   split at h
   ·rename_i h1 h2; exact key _ h2 rfl h.1 h.2
   ·rename_i h1 h2; exact key _ h2 rfl h.1 h.2
   ·exact q0n5 hd hK k S (by omega) hc h
theorem q0mq {o : Oper} {d z : Nat} {t : TypeId} {x : Operand} (ho : o.op = .load t x) (hdst : o.dst = some d) (hd : d < n) (ht : q0w0 P t = some true) (hz : q0wn P t = some z) {r off : Nat} {l : List T} {lk : List (Nat × Nat)}
  (hr : (S.roots r).cells = some (l, lk)) (hx : ∀ S', Keep r S S' -> ∀ X w0 O0 a w hs fp, Good X w0 O0 n S' a w hs fp -> Is w (Ob X fp) hs (.ptr r off) (a.eval x)) (hz0 : 0 < z) (hlt : off + z <= l.length)
  (k : q05u l lk r off z d K S) : OpW P n o S K := by
 have hk0 : Keep r S S := ⟨rfl, ⟨_, _, hr⟩, fun h => h⟩
 unfold q05u at k
 split at k
 ·rename_i h
  rw [Bool.and_eq_true] at h
  exact q0mp ho hdst hd ht hz hr (hx S hk0) hz0 hlt ⟨h.1, k⟩
 ·split at k
  ·rename_i h
   exact q0n8 ho hdst hd ht hz hr (hx S hk0) hz0 hlt h k
  ·refine q0n5 hd (fun S' hS' h => ?_) z S k.1 hk0 k.2
   unfold q0pb at h
   split at h
   ·rename_i l' lk' hr'
    exact q0n8 ho hdst hd ht hz hr' (hx S' hS') hz0 h.1 h.2.1 h.2.2
   ·exact h.elim
theorem q0mz {o : Oper} {d z : Nat} {t : TypeId} {x : Operand} (ho : o.op = .load t x) (hdst : o.dst = some d) (hd : d < n) (ht : q0w0 P t = some true) (hz : q0wn P t = some z) (hz0 : 0 < z) (k : q0in z (S.ev x) d K S) : OpW P n o S K := by
 unfold q0in at k
 split at k
 ·rename_i hx
  refine q0my ho hdst hd ?_
  unfold q0iw
  rw [ht]; simp only [hz]; rw [hx]; exact ⟨k.1, fun _ h => h ▸ k.2⟩
 ·rename_i hx
  split at k
  ·rename_i hr
   exact q0mq ho hdst hd ht hz hr (fun S' hS' X w0 O0 a w hs fp g => by have := g.ev x; rw [hS'.ev x, hx] at this; exact this) hz0 k.1 k.2
  ·exact k.elim
 ·rename_i r hx
  split at k
  ·rename_i l lk hr
   refine q0mq (r := r) (off := 0) (l := l) (lk := lk) ho hdst hd ht hz (by rw [hr]; rfl) (fun S' hS' X w0 O0 a w hs fp g => ?_) hz0 (by omega) k.2
   obtain ⟨l', lk', hr'⟩ := hS'.2.2 ⟨_, _, hr⟩
   have h1 := g.ev x; rw [hS'.ev x, hx] at h1; have h1 := h1.own_inv
   obtain ⟨b, cs, e, fps, hb, _⟩ := g.box hr'
   rw [hb, Option.some.injEq] at h1
   rw [← h1]; exact .ptrP hb
  ·exact k.elim
 ·exact k.elim

theorem q0n7 {o : Oper} {d : Nat} {c x y : Operand} (ho : o.op = .pick c x y) (hdst : o.dst = some d) (hd : d < n) (k : q0o6 (S.ev c) (S.ev x) (S.ev y) (putK S d K)) : OpW P n o S K := by
 unfold q0o6 at k
 split at k
 ·rename_i b hc
  refine q0n6 ho hdst hd hc ?_
  cases b
  ·exact k.2 rfl
  ·exact k.1 rfl
 ·exact k.elim

theorem run_equal_bool {t : TypeId} (ht : P.underlying t = some .bool) (a b : Bool) (w : World) : (Op.equal t (.bool a) (.bool b)).run P w = .ok (a == b) w := by
 have key : ∀ d, (Op.equalIn (d + 1) t (.bool a) (.bool b)).run P w = .ok (a == b) w := fun d => by simp [Op.equalIn, run_underlying ht]
 exact key 9999

theorem q0mh {o : Oper} {d : Nat} {ne : Bool} {t u : TypeId} {x y : Operand} (ht : P.underlying t = some .bool) (ho : o.op = .binOp (if ne then .neq else .eql) t x y u) (hdst : o.dst = some d) (hd : d < n) (k : beqC ne (S.ev x) (S.ev y) (putK S d K)) : OpW P n o S K := by
 unfold beqC at k
 split at k
 ·rename_i a1 b1 hx hy
  refine OpW.val (x := .t (.v (.bool (if ne then a1 != b1 else a1 == b1)))) hdst hd (fun X w0 O0 a w hs fp g => ?_) k
  have h1 := g.ev x; rw [hx] at h1; have h1 := h1.v_inv
  have h2 := g.ev y; rw [hy] at h2; have h2 := h2.v_inv
  refine ⟨.bool (if ne then a1 != b1 else a1 == b1), ?_, .t (.v _)⟩
  cases ne <;> simp [execOp, ho, h1, h2, eqGuard, binOp, run_equal_bool ht, bne]
 ·exact k.elim

theorem q0vd {α : Type} {a : Array α} {l : List α} (h : a.toList = l) : a = l.toArray := by subst h; simp

theorem q0vq {o : Oper} {c : Call} {co : CO} (ho : o.op = .call c) (hd : ∀ k, o.dst = some k -> k < n) (h : q0vo P o.dst c = some co) (k : coW P n co K S) : OpW P n o S K := by
 obtain ⟨callee, args, ats⟩ := c
 unfold q0vo at h
 split at h
 ·rename_i f hf
  cases h
  simp only at hf
  refine k o ats (by rw [ho]; simp [hf]) rfl hd
 ·rename_i hf
  simp only at hf
  split at h
  ·rename_i d x t hdst hx ht
   have e : o.op = .call { callee := .builtin .len, args := #[x], argTypes := #[t] } := by rw [ho, hf]; simp only at hx ht; rw [q0vd hx, q0vd ht]
   split at h
   ·rename_i hs
    cases h
    refine q0mx e hdst (hd _ hdst) ?_
    simp only [coW] at k
    unfold q0i2 at k
    split at k
    ·rename_i s hx'; rw [hx']; exact ⟨hs, k⟩
    ·exact k.elim
   ·split at h
    ·rename_i hs
     cases h
     refine q0mx e hdst (hd _ hdst) ?_
     simp only [coW] at k
     unfold lenC at k
     split at k
     ·rename_i hx'; rw [hx']; exact ⟨hs, k⟩
     ·rename_i hx'; rw [hx']; exact ⟨hs, k⟩
     ·rename_i hx'; rw [hx']; exact ⟨hs, k⟩
     ·rename_i hx'; rw [hx']; exact ⟨hs, k⟩
     ·exact k.elim
    ·cases h
  ·cases h
 ·rename_i hf
  simp only at hf
  split at h
  ·rename_i d b x t t' hdst hx ht
   split at h
   ·rename_i htt
    subst htt
    have e : o.op = .call { callee := .builtin .append, args := #[b, x], argTypes := #[t, t] } := by rw [ho, hf]; simp only at hx ht; rw [q0vd hx, q0vd ht]
    split at h
    ·rename_i e0 z eb he hz heb
     split at h
     ·rename_i zs hzs
      split at h
      ·rename_i hc
       cases h
       refine q0mg (u := 0) e hdst (hd _ hdst) he ⟨zs, hzs, hc.1⟩ ?_
       unfold q01a
       rw [hz, heb]
       exact ⟨hc.2.1, hc.2.2, k⟩
      ·cases h
     ·cases h
    ·cases h
   ·cases h
  ·cases h
 ·rename_i hf
  simp only at hf
  split at h
  ·rename_i d x y hdst hx
   cases h
   exact q0n2 (mx := true) (by rw [ho, hf]; simp only at hx; rw [q0vd hx]; rfl) hdst (hd _ hdst) k
  ·cases h
 ·rename_i hf
  simp only at hf
  split at h
  ·rename_i d x y hdst hx
   cases h
   exact q0n2 (mx := false) (by rw [ho, hf]; simp only at hx; rw [q0vd hx]; rfl) hdst (hd _ hdst) k
  ·cases h
 ·rename_i hf
  simp only at hf
  split at h
  ·rename_i d x y t t2 hdst hx ht
   split at h
   ·rename_i e he
    split at h
    ·rename_i hz
     cases h
     exact q1m6 he hz (by rw [ho, hf]; simp only at hx ht; rw [q0vd hx, q0vd ht]) hdst (hd _ hdst) k
    ·cases h
   ·cases h
  ·cases h
 ·cases h

theorem q0vs {o : Oper} {d : Nat} {co : CO} (hdst : o.dst = some d) (hd : d < n) (h : trD P d o.op = some co) (k : coW P n co K S) : OpW P n o S K := by
 generalize hop : o.op = op at h
 unfold trD at h
 split at h
 ·cases h; exact q0n3 (.inl hop) hdst hd k
 ·cases h; exact q0n3 (.inr hop) hdst hd k
 ·cases h; exact q0n7 hop hdst hd k
 ·split at h
  ·cases h; exact q0mj hop hdst hd k
  ·split at h
   ·rename_i ht
    have ht' := q0w6 ht
    split at h
    ·cases h; exact q0mh (ne := false) ht' hop hdst hd k
    ·cases h; exact q0mh (ne := true) ht' hop hdst hd k
    ·cases h
   ·split at h
    ·rename_i m hm
     split at h
     ·cases h; exact q0mi (ne := false) hm hop hdst hd k
     ·cases h; exact q0mi (ne := true) hm hop hdst hd k
     ·cases h
    ·split at h
     ·rename_i he
      split at h
      ·cases h; exact q0mw (ne := false) he hop hdst hd k
      ·cases h; exact q0mw (ne := true) he hop hdst hd k
      ·cases h
     ·cases h
 ·cases h; exact q0nc hop hdst hd k
 ·cases h; exact q0ms hop hdst hd k
 ·split at h
  ·rename_i z hz
   split at h
   ·rename_i hz0
    cases h
    refine q0mu hop hdst hd ?_
    simp only [coW] at k
    unfold idxC at k
    unfold q0fc
    split at k
    ·rename_i hy
     rw [hy]
     refine ⟨k.1, ?_⟩
     have k2 := k.2
     rw [hz]
     simp only
     split at k2
     ·rename_i hx; rw [hx]; exact ⟨k2.1, k2.2.1, hz0, k2.2.2⟩
     ·rename_i hx
      rw [hx]
      simp only
      split at k2
      ·rename_i hr; rw [hr]; exact ⟨k2.1, k2.2.1, hz0, k2.2.2⟩
      ·exact k2.elim
     ·rename_i hx; rw [hx]; exact k2
     ·exact k2.elim
    ·exact k.elim
   ·cases h
  ·split at h
   ·rename_i p hp
    cases h
    exact q0mv hp hop hdst hd k
   ·cases h
 ·split at h
  ·rename_i off z ag hf
   split at h
   ·rename_i hz0
    cases h
    refine q0mt hop hdst hd ?_
    unfold q08y
    rw [hf]
    exact ⟨hz0, k⟩
   ·cases h
  ·cases h
 ·split at h
  ·rename_i ht
   cases h
   refine q0my hop hdst hd ?_
   unfold q0iw
   rw [ht]
   exact k
  ·rename_i z ht hz
   split at h
   ·rename_i hz0
    cases h
    exact q0mz hop hdst hd ht hz hz0 k
   ·cases h
  ·cases h
 ·split at h
  ·rename_i e hz
   cases h
   refine q0mf hop hdst hd ?_
   unfold q00v
   rw [hz]; exact k
  rename_i hnb
  split at h
  ·rename_i zs hz
   cases h
   refine q0mf hop hdst hd ?_
   unfold q00v
   rw [hnb, hz]; exact k
  ·cases h
 ·cases h; exact q0mk hop hdst hd k
 ·split at h
  ·rename_i zs pl hz hf
   cases h
   refine q0mm hop hdst hd ?_
   unfold q02z
   rw [hz]
   have e : ∀ t', q0we P t' = some pl -> q0wl P t' = fun i => pl[i]? := fun t' h' => by funext i; simp [q0wl, h']
   rw [e _ hf]
   exact ⟨.inl (by rw [hf]; rfl), k⟩
  ·rename_i zs hz hf
   split at h
   ·rename_i p hp
    cases h
    refine q0mm hop hdst hd ?_
    obtain ⟨e, hu, hze⟩ := q0w4 (z := p.2) (len := p.1) hp
    obtain ⟨i, hi, hiz⟩ := q0wp hze
    have ha := show (match P.underlying _ with | some (.array _ e) => (P.info? e).map (·.size) | _ => none) = some p.2 by rw [hu]; simp only [hi, Option.map_some, hiz]
    change q0w2 P _ = some p.2 at ha
    unfold q02z
    rw [hz]
    refine ⟨.inr (by rw [ha]; rfl), ?_⟩
    simp only [coW] at k
    unfold q02w at k
    split at k
    ·rename_i as has
     rw [q090 (fun i x hix => ?_) _ _ _ has]
     ·exact k
     ·simp only [q0wl, hf, ha, Option.map_some]
      rw [List.getElem?_map] at hix
      cases hr : (List.range p.1)[i]? with
      | none => rw [hr] at hix; cases hix
      | some j =>
        rw [hr] at hix
        have := (List.getElem?_eq_some_iff.1 hr).2
        simp at this
        subst this
        exact hix
    ·exact k.elim
   ·cases h
  ·cases h
 ·split at h
  ·rename_i e z he hz
   split at h
   ·rename_i hc
    cases h
    refine q0mn hop hdst hd he hc.1 ?_
    unfold q02y
    rw [hz]
    exact ⟨hc.2.2, hc.2.1, k⟩
   ·cases h
  ·cases h
 ·split at h
  ·rename_i e he
   split at h
   ·rename_i zs eb z hzs heb hz
    split at h
    ·rename_i hc
     cases h
     refine q0n0 hop hdst hd he (fun zs' h' => ?_) ?_
     ·rw [hzs] at h'; cases h'; rw [hz, hc.1]
     ·unfold q0je
      simp only [coW] at k
      unfold makeC at k
      split at k
      ·rename_i hl hcc
       rw [he, hl, hcc]
       refine ⟨k.1, k.2.1, ?_⟩
       simp only [hzs, heb]
       exact ⟨hc.2, k.2.2⟩
      ·exact k.elim
    ·cases h
   ·cases h
  ·cases h
 ·split at h
  ·rename_i h1 h2
   cases h
   refine q0mr hop hdst hd ?_
   unfold q07r
   simp only [coW] at k
   unfold q07p at k
   split at k
   ·rename_i hx; rw [h1, h2, hx]; exact k
   ·exact k.elim
  ·split at h
   ·rename_i hst
    cases h
    rw [Bool.and_eq_true] at hst
    exact q24g hst.1 hst.2 hop hdst hd k
   ·cases h
 ·cases h; exact q0n4 hop hdst hd k
 ·split at h
  ·rename_i off z hf
   cases h
   exact q1m9 hf hop hdst hd k
  ·cases h
 ·split at h
  ·rename_i len e hu
   split at h
   ·rename_i hc
    cases h
    exact q1m8 hu hc.1 hc.2 hop hdst hd k
   ·cases h
  ·cases h
 ·split at h
  ·rename_i z hz
   split at h
   ·rename_i hz0
    cases h
    exact q0n9 hz0 hz hop hdst hd k
   ·cases h
  ·cases h
 ·split at h
  ·rename_i hb
   cases h
   exact q0n1 (by rw [hop, q0vd hb]) hdst hd k
  ·cases h
 ·rw [← hdst] at h
  exact q0vq hop (fun k hk => by rw [hdst] at hk; cases hk; exact hd) h k
 ·cases h

theorem q0vu {o : Oper} {co : CO} (hdst : o.dst = none) (h : trN P o.op = some co) (k : coW P n co K S) : OpW P n o S K := by
 generalize hop : o.op = op at h
 unfold trN at h
 split at h
 ·split at h
  ·rename_i z hz
   split at h
   ·cases h
    refine q0na hop hdst ?_
    simp only [coW] at k
    unfold q0tk at k
    unfold q0tq
    split at k
    ·rename_i h1 h2; rw [h1, hz, h2]; exact k
    ·exact k.elim
   ·cases h
  ·cases h
 ·rw [← hdst] at h
  exact q0vq hop (fun k hk => by rw [hdst] at hk; cases hk) h k
 ·cases h

theorem q0vv {o : Oper} {co : CO} (h : trO P n o = some co) (k : coW P n co K S) : OpW P n o S K := by
 unfold trO at h
 split at h
 ·rename_i d hd
  split at h
  ·rename_i hn
   cases hc : trD P d o.op with
   | none => rw [hc] at h; cases h; exact k.elim
   | some c' => rw [hc] at h; cases h; exact q0vs hd hn hc k
  ·cases h
 ·rename_i hd
  cases hc : trN P o.op with
  | none => rw [hc] at h; cases h; exact k.elim
  | some c' => rw [hc] at h; cases h; exact q0vu hd hc k

def CO.toL : CO -> CO
 | .box d x => .boxL d x
 | c => c
theorem q0vp {d : Option Nat} {c : Call} {e : Nat} {x : Operand} : q0vo P d c ≠ some (.box e x) := by
 intro h
 unfold q0vo at h
 split at h
 ·cases h
 ·split at h
  ·split at h
   ·cases h
   ·split at h <;> cases h
  ·cases h
 ·split at h
  ·split at h
   ·split at h
    ·split at h
     ·split at h <;> cases h
     ·cases h
    ·cases h
   ·cases h
  ·cases h
 ·split at h <;> cases h
 ·split at h <;> cases h
 ·split at h
  ·split at h
   ·split at h <;> cases h
   ·cases h
  ·cases h
 ·cases h
theorem q0vr {d e : Nat} {op : Op} {x : Operand} (h : trD P d op = some (.box e x)) : ∃ t, op = .box t x /\ e = d := by
 unfold trD at h
 split at h
 case h_11 t y => cases h; exact ⟨t, rfl, rfl⟩
 all_goals first
  | (exact absurd h q0vp)
  | (cases h; done)
  | (repeat' (split at h)) <;> first | (cases h; done) | (exact absurd h q0vp)
theorem q0vw {o : Oper} {co : CO} (h : trO P n o = some co) (k : coW P n co.toL K S) : OpW P n o S K := by
 cases co with
 | box e x =>
   unfold trO at h
   split at h
   ·rename_i d hd
    split at h
    ·rename_i hn
     cases hc : trD P d o.op with
     | none => rw [hc] at h; cases h
     | some c' =>
       rw [hc] at h; cases h
       obtain ⟨t, ht, rfl⟩ := q0vr hc
       exact q0ml ht hd hn k
    ·cases h
   ·cases hc : trN P o.op with
    | none => rw [hc] at h; cases h
    | some c' =>
      rw [hc] at h; cases h
      unfold trN at hc
      split at hc
      ·(repeat' (split at hc)) <;> cases hc
      ·exact absurd hc q0vp
      ·cases hc
 | _ => exact q0vv h k
end
end Go.Ab

/- The abstract layer, part 20: the items of a region in compact form. -/
namespace Go.Ab

inductive CI where
 | o (c : CO)
 | g (s : Nat) (want : Bool) (d : Option Nat) (c : CO)

def trI (P : Program) (n : Nat) (ops : Array Oper) (o : Oper) : Option CI :=
 match trO P n o with
 | some c => (match o.guard with
   | none => some (.o c)
   | some (j, want) => (match ops[j]? with
     | some oj => (match oj.dst, o.dst with
       | some s, some d => if d < n then some (.g s want (some d) c) else none
       | some s, none => some (.g s want none c)
       | _, _ => none)
     | none => none))
 | none => none
def dfr : Op -> Bool
 | .defer _ => true
 | _ => false
theorem q081 {op : Op} (h : dfr op = false) : ∀ c, op ≠ .defer c := fun c e => by rw [e] at h; cases h
def trR (P : Program) (n : Nat) (ops : Array Oper) : List Oper -> Option (List CI)
 | [] => some []
 | o :: l => (match trI P n ops o, trR P n ops l, dfr o.op with
   | some c, some cl, false => some (c :: cl)
   | _, _, _ => none)
theorem q0vx {P : Program} {n : Nat} {ops : Array Oper} : ∀ {l : List Oper} {cl : List CI}, trR P n ops l = some cl -> ∀ o ∈ l, dfr o.op = false
 | [], _, _ => by simp
 | o :: l, cl, h => by
   simp only [trR] at h
   split at h
   ·rename_i c cl' hc hcl hdf
    intro o' ho'
    rcases List.mem_cons.1 ho' with rfl | ho'
    ·exact hdf
    ·exact q0vx hcl o' ho'
   ·cases h
def q0dc (x : A) (s : Nat) (want : Bool) (d : Option Nat) (K1 K2 : St -> Prop) (S : St) : Prop :=
 match x with
 | .t (.v (.bool b)) => (b = want -> K1 { S with env := upd S.env s (.t (.v (.bool want))) }) /\ (b = !want -> K2 (St.put { S with env := upd S.env s (.t (.v (.bool !want))) } d q0ro))
 | .t (.v (.tuple _)) => K2 (St.put S d q0ro)
 | _ => False
def condC (x : A) (K1 K2 : St -> Prop) (S : St) : Prop :=
 match x with
 | .t (.v (.bool b)) => (b = true -> K1 S) /\ (b = false -> K2 S)
 | _ => False
def opsW (P : Program) (n : Nat) : List CI -> (St -> Prop) -> St -> Prop
 | [], K, S => K S
 | .o c :: l, K, S => coW P n c (opsW P n l K) S
 | .g s want d c :: l, K, S => q0dc (S.env s) s want d (coW P n c (opsW P n l K)) (opsW P n l K) S

section
variable {P : Program} {n : Nat} {S : St}

theorem q08g (e : Nat -> A) (s : Nat) (a : A) (h : e s = a) : upd e s a = e := by
 funext i
 by_cases hi : i = s
 ·subst hi; simp [q0x2, h]
 ·simp [q0x1 _ _ _ _ hi]

theorem q0nh {ops : Array Oper} {K : St -> Prop} : ∀ (l : List Oper) (k : Nat) (cl : List CI) (S : St), ops.toList.drop k = l -> trR P n ops l = some cl -> opsW P n cl K S -> q00b P n ops (List.range' k l.length) S K
 | [], k, cl, S, _, h, hW => by
   simp only [trR, Option.some.injEq] at h
   subst h
   exact .nil hW
 | o :: l, k, cl, S, hd, h, hW => by
   have ho : ops[k]? = some o := by
    have : (ops.toList.drop k)[0]? = some o := by rw [hd]; rfl
    rw [List.getElem?_drop] at this
    simpa using this
   have hd' : ops.toList.drop (k + 1) = l := by rw [← List.drop_drop, hd]; rfl
   simp only [trR] at h
   split at h
   ·rename_i c cl' hc hcl hdf
    cases h
    have rest : ∀ S', opsW P n cl' K S' -> q00b P n ops (List.range' (k + 1) l.length) S' K := fun S' hS' => q0nh l (k + 1) cl' S' hd' hcl hS'
    have mono : ∀ {S'}, OpW P n o S' (opsW P n cl' K) -> OpW P n o S' fun S'' => q00b P n ops (List.range' (k + 1) l.length) S'' K := fun {S'} h X w0 O0 a w hs fp g Q =>
     Go.Oper.wp_mono (fun a' w' ⟨S'', hs', fp', g', k'⟩ => ⟨S'', hs', fp', g', rest S'' k'⟩) (h X w0 O0 a w hs fp g Q)
    simp only [List.length_cons, List.range'_succ]
    simp only [trI] at hc
    split at hc
    ·rename_i co hco
     split at hc
     ·rename_i hg
      cases hc
      exact .cons ho hg (mono (q0vv hco hW))
     ·rename_i j want hg
      split at hc
      ·rename_i oj hoj
       have core : ∀ s d, oj.dst = some s -> o.dst = d -> (∀ k, d = some k -> k < n) -> opsW P n (.g s want d co :: cl') K S -> q00b P n ops (k :: List.range' (k + 1) l.length) S K := by
        intro s d hs hdd hdn hW
        simp only [opsW] at hW
        unfold q0dc at hW
        split at hW
        ·rename_i b hb
         refine q00b.guard ho hg hoj hs hb (fun k hk => hdn k (hdd ▸ hk)) (fun e => ?_) (fun e => ?_)
         ·have h1 := hW.1 e
          rw [q08g _ _ _ (by rw [hb, e])] at h1
          exact mono (q0vv hco h1)
         ·have e' : b = !want := by cases b <;> cases want <;> simp_all
          have h1 := hW.2 e'
          rw [q08g _ _ _ (by rw [hb, e'])] at h1
          rw [hdd]
          exact rest _ h1
        ·rename_i xs hb
         refine q00b.guardU ho hg hoj hs hb (fun k hk => hdn k (hdd ▸ hk)) ?_
         rw [hdd]
         exact rest _ hW
        ·exact hW.elim
       split at hc
       ·rename_i s d hs hdd
        split at hc
        ·rename_i hdn
         cases hc
         exact core s (some d) hs hdd (fun k hk => by cases hk; exact hdn) hW
        ·cases hc
       ·rename_i s hs hdd
        cases hc
        exact core s none hs hdd (fun k hk => by cases hk) hW
       ·cases hc
      ·cases hc
    ·cases hc
   ·cases h

def CI.toL : CI -> CI
 | .o c => .o c.toL
 | .g s w d c => .g s w d c.toL
theorem q0ni {ops : Array Oper} {K : St -> Prop} : ∀ (l : List Oper) (k : Nat) (cl : List CI) (S : St), ops.toList.drop k = l -> trR P n ops l = some cl -> opsW P n (cl.map CI.toL) K S -> q00b P n ops (List.range' k l.length) S K
 | [], k, cl, S, _, h, hW => by
   simp only [trR, Option.some.injEq] at h
   subst h
   exact .nil hW
 | o :: l, k, cl, S, hd, h, hW => by
   have ho : ops[k]? = some o := by
    have : (ops.toList.drop k)[0]? = some o := by rw [hd]; rfl
    rw [List.getElem?_drop] at this
    simpa using this
   have hd' : ops.toList.drop (k + 1) = l := by rw [← List.drop_drop, hd]; rfl
   simp only [trR] at h
   split at h
   ·rename_i c cl' hc hcl hdf
    cases h
    have rest : ∀ S', opsW P n (cl'.map CI.toL) K S' -> q00b P n ops (List.range' (k + 1) l.length) S' K := fun S' hS' => q0ni l (k + 1) cl' S' hd' hcl hS'
    have mono : ∀ {S'}, OpW P n o S' (opsW P n (cl'.map CI.toL) K) -> OpW P n o S' fun S'' => q00b P n ops (List.range' (k + 1) l.length) S'' K := fun {S'} h X w0 O0 a w hs fp g Q =>
     Go.Oper.wp_mono (fun a' w' ⟨S'', hs', fp', g', k'⟩ => ⟨S'', hs', fp', g', rest S'' k'⟩) (h X w0 O0 a w hs fp g Q)
    simp only [List.length_cons, List.range'_succ]
    simp only [trI] at hc
    split at hc
    ·rename_i co hco
     split at hc
     ·rename_i hg
      cases hc
      exact .cons ho hg (mono (q0vw hco hW))
     ·rename_i j want hg
      split at hc
      ·rename_i oj hoj
       have core : ∀ s d, oj.dst = some s -> o.dst = d -> (∀ k, d = some k -> k < n) -> opsW P n (.g s want d co.toL :: cl'.map CI.toL) K S -> q00b P n ops (k :: List.range' (k + 1) l.length) S K := by
        intro s d hs hdd hdn hW
        simp only [opsW] at hW
        unfold q0dc at hW
        split at hW
        ·rename_i b hb
         refine q00b.guard ho hg hoj hs hb (fun k hk => hdn k (hdd ▸ hk)) (fun e => ?_) (fun e => ?_)
         ·have h1 := hW.1 e
          rw [q08g _ _ _ (by rw [hb, e])] at h1
          exact mono (q0vw hco h1)
         ·have e' : b = !want := by cases b <;> cases want <;> simp_all
          have h1 := hW.2 e'
          rw [q08g _ _ _ (by rw [hb, e'])] at h1
          rw [hdd]
          exact rest _ h1
        ·rename_i xs hb
         refine q00b.guardU ho hg hoj hs hb (fun k hk => hdn k (hdd ▸ hk)) ?_
         rw [hdd]
         exact rest _ hW
        ·exact hW.elim
       split at hc
       ·rename_i s d hs hdd
        split at hc
        ·rename_i hdn
         cases hc
         exact core s (some d) hs hdd (fun k hk => by cases hk; exact hdn) hW
        ·cases hc
       ·rename_i s hs hdd
        cases hc
        exact core s none hs hdd (fun k hk => by cases hk) hW
       ·cases hc
      ·cases hc
    ·cases hc
   ·cases h

end
end Go.Ab
