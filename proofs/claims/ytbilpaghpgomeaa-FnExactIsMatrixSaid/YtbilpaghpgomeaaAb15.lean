/- The abstract layer, part 15: contracts of functions; how a body proves one. -/
import Derived.Test.YtbilpaghpgomeaaAb14
set_option linter.unusedSimpArgs false
set_option linter.unusedVariables false
namespace Go.Ab

/-- Memory in which the roots rin lie. -/
structure Mem (X : Nat → Prop) (w : World) (rin : List T) (hs : Nat → Option Value) (fp : Nat → List Nat) : Prop where
  root : ∀ i t, rin[i]? = some t → ∃ x, hs (1000000000 + i) = some x ∧ Ow w (Ob X fp) t x (fp (1000000000 + i)) ∧ t.rooty = true
  none : ∀ r, (r < 1000000000 ∨ 1000000000 + rin.length ≤ r) → hs r = none ∧ fp r = []
  disj : ∀ r r' b, b ∈ fp r → b ∈ fp r' → r = r'
  nodup : ∀ r, (fp r).Nodup
  foreign : ∀ r b, b ∈ fp r → ¬ X b
  xold : ∀ b, X b → b < w.heap.size
  hdr : ∀ r h, hs r = some h → h.oneCell' = true

def Ob' (X : Nat → Prop) (fp : Nat → List Nat) (fr : List Nat) : Nat → Prop := fun b => Ob X fp b ∨ b ∈ fr

/-- What a call has left. -/
structure Out (X : Nat → Prop) (w : World) (hs : Nat → Option Value) (fp : Nat → List Nat) (v : Value) (res : T) (rout : List T) (fr : List Nat) (fp' : Nat → List Nat) (w' : World) : Prop where
  root : ∀ i t, rout[i]? = some t → ∃ x, hs (1000000000 + i) = some x ∧ Ow w' (Ob' X fp' fr) t x (fp' (1000000000 + i)) ∧ t.rooty = true
  none : ∀ r, (r < 1000000000 ∨ 1000000000 + rout.length ≤ r) → fp' r = []
  res : Ow w' (Ob' X fp' fr) res v fr
  disj : ∀ r r' b, b ∈ fp' r → b ∈ fp' r' → r = r'
  nodup : ∀ r, (fp' r).Nodup
  rnodup : fr.Nodup
  rdisj : ∀ r b, b ∈ fp' r → b ∉ fr
  old : ∀ r b, b ∈ fp' r → (∃ j, b ∈ fp j) ∨ w.heap.size ≤ b
  rold : ∀ b, b ∈ fr → (∃ j, b ∈ fp j) ∨ w.heap.size ≤ b
  os : w'.os = w.os
  tape : w'.tape = w.tape
  output : w'.output = w.output
  size : w.heap.size ≤ w'.heap.size
  frame : ∀ b, b < w.heap.size → (∀ j, b ∉ fp j) → w'.heap[b]? = w.heap[b]?

/-- The contract: called in memory with the roots rin, with these arguments, f returns; Q of the roots' contents and of the result. -/
def Fun (P : Program) (f : FuncId) (rin : List T) (args : List A) (Q : List T → T → Prop) : Prop :=
  ∀ (X : Nat → Prop) (w : World) (vals : List Value) (hs : Nat → Option Value) (fp : Nat → List Nat), Mem X w rin hs fp → vals.length = args.length → (∀ i (h : i < args.length), Is w (Ob X fp) hs args[i] (vals.getD i undef)) →
    Calls P f vals.toArray w fun e w' => ∃ v res rout fr fp', e = .returned v ∧ Q rout res ∧ rout.length = rin.length ∧ Out X w hs fp v res rout fr fp' w'

/-- A function that only computes: by-value arguments, a result. -/
def Pure (P : Program) (f : FuncId) (args : List T) (res : T) : Prop := Fun P f [] (args.map A.t) fun o r => o = [] ∧ r = res

def enum {α : Type} : Nat → List α → List (Nat × α)
  | _, [] => []
  | k, a :: l => (k, a) :: enum (k + 1) l

mutual
def giveT (S : St) (a : A) (K : T → St → Prop) : Prop :=
  match a with
  | .t c => K c S
  | .own q => (match S.roots q with | .live t [] => K t { S with roots := upd S.roots q .dead } | _ => False)
  | .agg l => giveTL S l fun ts S' => K (.agg ts) S'
  | .tup l => giveTL S l fun ts S' => K (.tup ts) S'
  | _ => False
def giveTL (S : St) (l : List A) (K : List T → St → Prop) : Prop :=
  match l with
  | [] => K [] S
  | a :: l => giveT S a fun t S1 => giveTL S1 l fun ts S2 => K (t :: ts) S2
end

def retOne (P : Program) (S : St) (rv : ResultVar) (K : T → St → Prop) : Prop :=
  match rv with
  | .tmp t => giveT S (S.env t) K
  | .cell t ty => (match S.env t with
    | .own q => (match S.roots q with
      | .live (.box l) [] => (match tyAgg P ty with
        | some true => tySize P ty = some l.length ∧ K (.agg l) { S with roots := upd S.roots q .dead }
        | some false => (match l with | [c] => K c { S with roots := upd S.roots q .dead } | _ => False)
        | none => False)
      | _ => False)
    | _ => False)

def retL (P : Program) (S : St) (rvs : List ResultVar) (K : List T → St → Prop) : Prop :=
  match rvs with
  | [] => K [] S
  | rv :: rvs => retOne P S rv fun t S1 => retL P S1 rvs fun ts S2 => K (t :: ts) S2

def packT (ts : List T) : T := match ts with | [t] => t | ts => .tup ts

def routW (S : St) : Nat → Nat → (List T → Prop) → Prop
  | 0, _, K => K []
  | k + 1, i, K => (match S.roots i with | .live t [] => routW S k (i + 1) fun ts => K (t :: ts) | _ => False)

def retQ (P : Program) (rvs : List ResultVar) (k : Nat) (Q : List T → T → Prop) : Exit → St → Prop
  | .normal, S | .ret, S => retL P S rvs fun ts S' => routW S' k 1000000000 fun rout => ∃ res, Le (packT ts) res ∧ Q rout res
  | _, _ => False

section
variable {P : Program} {X : Nat → Prop} {w0 : World} {O0 : Fr} {n : Nat} {S : St} {a : Act} {w : World} {hs : Nat → Option Value} {fp : Nat → List Nat}

theorem Inter.kill {S1 : St} {fp1 : Nat → List Nat} (I : Inter S fp S1 fp1) {q : Nat} {t : T} {lk : List (Nat × Nat)} (h : S1.roots q = .live t lk) :
    S.roots q = .live t lk ∧ fp1 q = fp q ∧ Inter S fp { S1 with roots := upd S1.roots q .dead } (upd fp1 q []) := by
  have hsame : S.roots q = .live t lk ∧ fp1 q = fp q := by
    rcases I.root q with ⟨h1, h2⟩ | ⟨h1, _⟩
    · exact ⟨by rw [← h1, h], h2⟩
    · rw [h] at h1; cases h1
  refine ⟨hsame.1, hsame.2, I.env, fun r => ?_⟩
  by_cases hr : r = q
  · subst hr; exact .inr ⟨upd_self _ _ _, upd_self _ _ _, _, _, hsame.1⟩
  · simp only [upd_other _ _ _ _ hr]; exact I.root r

/-- What giving yields. -/
def Given (X : Nat → Prop) (S : St) (w : World) (fp : Nat → List Nat) (fp1 : Nat → List Nat) (v : Value) (K : T → St → Prop) : Prop :=
  ∃ (t : T) (S2 : St) (fp2 : Nat → List Nat) (f : List Nat), Inter S fp S2 fp2 ∧ K t S2 ∧ Ow w (Ob X fp) t v f ∧ f.Nodup ∧ (∀ b ∈ f, ∃ q, b ∈ fp1 q ∧ fp2 q = []) ∧ ∀ r, fp2 r = fp1 r ∨ fp2 r = []
def GivenL (X : Nat → Prop) (S : St) (w : World) (fp : Nat → List Nat) (fp1 : Nat → List Nat) (vs : List Value) (K : List T → St → Prop) : Prop :=
  ∃ (ts : List T) (S2 : St) (fp2 : Nat → List Nat) (gs : List (List Nat)), Inter S fp S2 fp2 ∧ K ts S2 ∧ ts.length = vs.length ∧ gs.length = vs.length ∧ (∀ i (h : i < ts.length), Ow w (Ob X fp) ts[i] (vs.getD i undef) (gs.getD i [])) ∧
    gs.flatten.Nodup ∧ (∀ b ∈ gs.flatten, ∃ q, b ∈ fp1 q ∧ fp2 q = []) ∧ ∀ r, fp2 r = fp1 r ∨ fp2 r = []

theorem GivenL.cons (g : Good X w0 O0 n S a w hs fp) {S1 : St} {fp1 : Nat → List Nat} (I : Inter S fp S1 fp1) {v : Value} {vs : List Value} {K : List T → St → Prop} {t : T} {fp2 : Nat → List Nat} {f : List Nat}
    (ho : Ow w (Ob X fp) t v f) (hfn : f.Nodup) (hfs : ∀ b ∈ f, ∃ q, b ∈ fp1 q ∧ fp2 q = []) (hmono : ∀ r, fp2 r = fp1 r ∨ fp2 r = []) (hg2 : GivenL X S w fp fp2 vs fun ts S3 => K (t :: ts) S3) : GivenL X S w fp fp1 (v :: vs) K := by
  obtain ⟨ts, S3, fp3, gs, hI3, hK3, hlt, hlg, hos, hgn, hgs, hm3⟩ := hg2
  have down : ∀ q b, b ∈ fp2 q → b ∈ fp1 q := fun q b hq => by
    rcases hmono q with h | h <;> rw [h] at hq
    · exact hq
    · simp at hq
  have sub : ∀ r b, b ∈ fp1 r → b ∈ fp r := fun r b hr => by
    rcases I.root r with ⟨_, h⟩ | ⟨_, h, _⟩ <;> rw [h] at hr
    · exact hr
    · simp at hr
  refine ⟨t :: ts, S3, fp3, f :: gs, hI3, hK3, by simp [hlt], by simp [hlg], fun i h => ?_, ?_, fun b hb => ?_, fun r => ?_⟩
  · cases i with
    | zero => simpa only [List.getElem_cons_zero, List.getD_cons_zero] using ho
    | succ i => have := hos i (by simpa using h); simpa only [List.getElem_cons_succ, List.getD_cons_succ] using this
  · rw [List.flatten_cons, List.nodup_append]
    refine ⟨hfn, hgn, fun b hb b' hb' e => ?_⟩
    subst e
    obtain ⟨q, hq1, hq2⟩ := hfs b hb
    obtain ⟨q', hq1', _⟩ := hgs b hb'
    have := g.disj q q' b (sub q b hq1) (sub q' b (down q' b hq1'))
    subst this
    rw [hq2] at hq1'; simp at hq1'
  · rw [List.flatten_cons, List.mem_append] at hb
    rcases hb with hb | hb
    · obtain ⟨q, h1, h2⟩ := hfs b hb
      refine ⟨q, h1, ?_⟩
      rcases hm3 q with h | h
      · rw [h, h2]
      · exact h
    · obtain ⟨q, h1, h2⟩ := hgs b hb; exact ⟨q, down q b h1, h2⟩
  · rcases hm3 r with h | h
    · rw [h]; exact hmono r
    · exact .inr h

mutual
theorem giveT_spec (g : Good X w0 O0 n S a w hs fp) : ∀ (x : A) (v : Value) (S1 : St) (fp1 : Nat → List Nat) (K : T → St → Prop), Inter S fp S1 fp1 → Is w (Ob X fp) hs x v → giveT S1 x K → Given X S w fp fp1 v K
  | .t c, v, S1, fp1, K, hI, hx, hK => by
    simp only [giveT] at hK
    cases hx with | t h => exact ⟨c, S1, fp1, [], hI, hK, .rd h, by simp, by simp, fun _ => .inl rfl⟩
  | .own q, v, S1, fp1, K, hI, hx, hK => by
    simp only [giveT] at hK
    split at hK
    · rename_i t hq
      obtain ⟨h1, h2, hI2⟩ := hI.kill hq
      have hr := g.root q
      rw [h1] at hr
      obtain ⟨y, hy, ho, _⟩ := hr
      have hv : y = v := by have := hx.own_inv; rw [hy] at this; exact Option.some.inj this
      subst hv
      refine ⟨t, _, _, fp q, hI2, hK, ho, g.nodup q, fun b hb => ⟨q, by rw [h2]; exact hb, upd_self _ _ _⟩, fun r => ?_⟩
      by_cases h : r = q
      · subst h; exact .inr (upd_self _ _ _)
      · exact .inl (upd_other _ _ _ _ h)
    · exact hK.elim
  | .agg l, v, S1, fp1, K, hI, hx, hK => by
    simp only [giveT] at hK
    obtain ⟨vs, rfl, hl, hr⟩ := hx.agg_inv
    obtain ⟨ts, S2, fp2, gs, h1, h2, h3, h4, h5, h6, h7, h8⟩ := giveTL_spec g l vs S1 fp1 _ hI hl hr hK
    exact ⟨.agg ts, S2, fp2, gs.flatten, h1, h2, .agg ts vs gs (by omega) (by omega) h5, h6, h7, h8⟩
  | .tup l, v, S1, fp1, K, hI, hx, hK => by
    simp only [giveT] at hK
    obtain ⟨vs, rfl, hl, hr⟩ := hx.tup_inv
    obtain ⟨ts, S2, fp2, gs, h1, h2, h3, h4, h5, h6, h7, h8⟩ := giveTL_spec g l vs S1 fp1 _ hI hl hr hK
    exact ⟨.tup ts, S2, fp2, gs.flatten, h1, h2, .tup ts vs gs (by omega) (by omega) h5, h6, h7, h8⟩
  | .sub _ _ _, v, S1, fp1, K, hI, hx, hK => by simp [giveT] at hK
  | .ptr _ _, v, S1, fp1, K, hI, hx, hK => by simp [giveT] at hK
  | .fn _ _, v, S1, fp1, K, hI, hx, hK => by simp [giveT] at hK
theorem giveTL_spec (g : Good X w0 O0 n S a w hs fp) : ∀ (as : List A) (vs : List Value) (S1 : St) (fp1 : Nat → List Nat) (K : List T → St → Prop), Inter S fp S1 fp1 → vs.length = as.length →
    (∀ i (h : i < as.length), Is w (Ob X fp) hs as[i] (vs.getD i undef)) → giveTL S1 as K → GivenL X S w fp fp1 vs K
  | [], [], S1, fp1, K, hI, hl, hi, hK => by
    simp only [giveTL] at hK
    exact ⟨[], S1, fp1, [], hI, hK, rfl, rfl, fun i h => absurd h (by simp), by simp, by simp, fun _ => .inl rfl⟩
  | [], _ :: _, S1, fp1, K, hI, hl, hi, hK => by simp at hl
  | _ :: _, [], S1, fp1, K, hI, hl, hi, hK => by simp at hl
  | x :: as, v :: vs, S1, fp1, K, hI, hl, hi, hK => by
    simp only [giveTL] at hK
    have hx : Is w (Ob X fp) hs x v := by have := hi 0 (by simp); simpa only [List.getElem_cons_zero, List.getD_cons_zero] using this
    obtain ⟨t, S2, fp2, f, hI2, hK2, ho, hfn, hfs, hmono⟩ := giveT_spec g x v S1 fp1 _ hI hx hK
    exact GivenL.cons g hI ho hfn hfs hmono (giveTL_spec g as vs S2 fp2 _ hI2 (by simpa using hl) (fun i h => by have := hi (i + 1) (by simpa using h); simpa only [List.getElem_cons_succ, List.getD_cons_succ] using this) hK2)
end

theorem retOne_spec (g : Good X w0 O0 n S a w hs fp) (rv : ResultVar) {S1 : St} {fp1 : Nat → List Nat} {K : T → St → Prop} (I : Inter S fp S1 fp1) (h : retOne P S1 rv K) :
    ∃ v, ((match rv with | .tmp t => pure (a.tmps.getD t undef) | .cell c t => (do loadVar t (← asAddr (a.tmps.getD c undef))) : Go.Sem Value)).run P w = .ok v w ∧ Given X S w fp fp1 v K := by
  cases rv with
  | tmp t =>
    simp only [retOne] at h
    have henv := I.env
    rw [henv] at h
    exact ⟨_, rfl, giveT_spec g _ _ _ _ _ I (g.env t) h⟩
  | cell c ty =>
    simp only [retOne] at h
    have henv := I.env
    split at h
    · rename_i q hq
      rw [henv] at hq
      split at h
      · rename_i l hr
        obtain ⟨h1, h2, hI2⟩ := I.kill hr
        obtain ⟨b, cs, e, fps, hb, hheap, hl, hf, hro, hfp, _⟩ := g.box h1
        have hc := g.env c; rw [hq] at hc; have hc := hc.own_inv
        rw [hb, Option.some.injEq] at hc
        have hnd := g.nodup q; rw [hfp] at hnd
        have hmono : ∀ r, upd fp1 q [] r = fp1 r ∨ upd fp1 q [] r = [] := fun r => by
          by_cases h : r = q
          · subst h; exact .inr (upd_self _ _ _)
          · exact .inl (upd_other _ _ _ _ h)
        split at h
        · rename_i ht
          obtain ⟨hz, hK⟩ := h
          refine ⟨.agg cs, ?_, .agg l, _, _, fps.flatten, hI2, hK, ?_, (List.nodup_cons.1 hnd).2, fun b' hb' => ⟨q, by rw [h2, hfp]; exact List.mem_cons_of_mem _ hb', upd_self _ _ _⟩, hmono⟩
          · have := run_loadVarN (P := P) ht hz hheap (o := 0) (by omega)
            simp only [Sem.run_bind, ← hc, asAddr, Sem.run_pure, Result.andThen_ok, this]
            congr 1
            congr 1
            apply Array.ext'
            apply List.ext_getElem (by simp [hl])
            intro i h1 h2
            simp at h1
            simp [Array.getD_eq_getD_getElem?, hl ▸ h1]
          · have := Ow.agg (w := w) (O := Ob X fp) l cs.toList fps (by simpa using hl.symm) hf (fun i h => by simpa [Array.getD_eq_getD_getElem?, List.getD_eq_getElem?_getD] using hro i h)
            simpa using this
        · rename_i ht
          split at h
          · rename_i c'
            have hcs : 0 < cs.size := by rw [← hl]; simp
            refine ⟨cs.getD 0 undef, ?_, c', _, _, fps.getD 0 [], hI2, h, hro 0 (by simp), nodup_getD (List.nodup_cons.1 hnd).2, fun b' hb' => ⟨q, by rw [h2, hfp]; exact List.mem_cons_of_mem _ (mem_flatten_getD hb'), upd_self _ _ _⟩, hmono⟩
            simp only [Sem.run_bind, ← hc, asAddr, Sem.run_pure, Result.andThen_ok]
            exact run_loadVar1 ht (cells_at hheap hcs)
          · exact h.elim
        · exact h.elim
      · exact h.elim
    · exact h.elim

theorem retL_spec (g : Good X w0 O0 n S a w hs fp) : ∀ (rvs : List ResultVar) {S1 : St} {fp1 : Nat → List Nat} {K : List T → St → Prop}, Inter S fp S1 fp1 → retL P S1 rvs K →
    ∃ vs : List Value, (rvs.mapM (fun | .tmp t => pure (a.tmps.getD t undef) | .cell c t => (do loadVar t (← asAddr (a.tmps.getD c undef))) : ResultVar → Go.Sem Value)).run P w = .ok vs w ∧ GivenL X S w fp fp1 vs K
  | [], S1, fp1, K, I, h => ⟨[], by simp, [], S1, fp1, [], I, h, rfl, rfl, fun i h => absurd h (by simp), by simp, by simp, fun _ => .inl rfl⟩
  | rv :: rvs, S1, fp1, K, I, h => by
    simp only [retL] at h
    obtain ⟨v, hv, hg⟩ := retOne_spec g rv I h
    obtain ⟨t, S2, fp2, f, hI2, hK2, ho, hfn, hfs, hmono⟩ := hg
    obtain ⟨vs, hvs, hg2⟩ := retL_spec g rvs hI2 hK2
    refine ⟨v :: vs, ?_, GivenL.cons g I ho hfn hfs hmono hg2⟩
    rw [List.mapM_cons, Sem.run_bind]
    rw [show (Go.Sem.run P _ w) = Result.ok v w from hv, Result.andThen_ok, Sem.run_bind, hvs]
    rfl

theorem rout_spec : ∀ {k i : Nat} {K : List T → Prop}, routW S k i K → ∃ rout : List T, K rout ∧ rout.length = k ∧ ∀ j (h : j < rout.length), S.roots (i + j) = .live rout[j] []
  | 0, i, K, h => ⟨[], h, rfl, fun j h => absurd h (by simp)⟩
  | k + 1, i, K, h => by
    simp only [routW] at h
    split at h
    · rename_i t ht
      obtain ⟨rout, h1, h2, h3⟩ := rout_spec h
      refine ⟨t :: rout, h1, by simp [h2], fun j hj => ?_⟩
      cases j with
      | zero => simpa using ht
      | succ j =>
        have := h3 j (by simpa using hj)
        rw [show i + (j + 1) = i + 1 + j by omega]
        simpa using this
    · exact h.elim

theorem mkEnv_enum : ∀ (l : List A) (k i : Nat), mkEnv (enum k l) i = if k ≤ i then (l[i - k]?).getD (.t .any) else .t .any
  | [], k, i => by simp [enum, mkEnv]
  | a :: l, k, i => by
    simp only [enum, mkEnv, upd_apply]
    by_cases h : i = k
    · subst h; simp
    · rw [if_neg h, mkEnv_enum l (k + 1) i]
      by_cases h1 : k ≤ i
      · rw [if_pos (by omega), if_pos h1, show i - k = (i - (k + 1)) + 1 by omega, List.getElem?_cons_succ]
      · rw [if_neg (by omega), if_neg h1]
theorem mkRoots_enum : ∀ (l : List T) (k i : Nat), mkRoots (enum k l) i = if k ≤ i then (match l[i - k]? with | some t => .live t [] | none => .free) else .free
  | [], k, i => by simp [enum, mkRoots]
  | a :: l, k, i => by
    simp only [enum, mkRoots, upd_apply]
    by_cases h : i = k
    · subst h; simp
    · rw [if_neg h, mkRoots_enum l (k + 1) i]
      by_cases h1 : k ≤ i
      · rw [if_pos (by omega), if_pos h1, show i - k = (i - (k + 1)) + 1 by omega, List.getElem?_cons_succ]
      · rw [if_neg (by omega), if_neg h1]

theorem Fun.intro {f : FuncId} {fn : Func} {c : Code} {rin : List T} {args : List A} {Q : List T → T → Prop} (hf : P.funcs[f]? = some fn) (hb : fn.body = some c) (hn : fn.ntmps = n) (ha : args.length ≤ n) (hsm : n ≤ 100000)
    (h : Sem P n c (retQ P fn.results.toList rin.length Q) (St.of (enum 0 args) (enum 1000000000 rin))) : Fun P f rin args Q := by
  intro X w vals hs fp hm hv hi
  refine calls_of_wp hf hb ?_
  have g : Good X w ⟨fun b => ∃ j, b ∈ fp j, hs⟩ n (St.of (enum 0 args) (enum 1000000000 rin)) { tmps := vals.toArray ++ Array.replicate (fn.ntmps - vals.toArray.size) undef, defers := [] } w hs fp := by
    refine ⟨by simp; omega, rfl, fun i => ?_, fun r => ?_, hm.disj, hm.nodup, hm.foreign, hm.xold, fun b hX ⟨j, hj⟩ => hm.foreign j b hj hX, fun r b hb => .inl ⟨r, hb⟩, ⟨rfl, rfl, rfl, Nat.le_refl _, fun _ _ _ => rfl⟩, fun r t lk hr => ?_, hm.hdr, hsm, fun _ _ _ h => h⟩
    · show Is _ _ _ (mkEnv (enum 0 args) i) _
      rw [mkEnv_enum]
      simp only [Nat.zero_le, if_true, Nat.sub_zero]
      by_cases hia : i < args.length
      · have := hi i hia
        have e : (vals.toArray ++ Array.replicate (fn.ntmps - vals.toArray.size) undef).getD i undef = vals.getD i undef := by
          simp [Array.getD_eq_getD_getElem?, List.getD_eq_getElem?_getD, Array.getElem?_append, hv, hia]
        rw [e, List.getElem?_eq_getElem hia]; exact this
      · rw [List.getElem?_eq_none (by omega)]; exact .t (.any _)
    · show RootOK _ _ _ (mkRoots (enum 1000000000 rin) r) _ _
      rw [mkRoots_enum]
      by_cases hr0 : 1000000000 ≤ r
      · rw [if_pos hr0]
        by_cases hr : r - 1000000000 < rin.length
        · rw [List.getElem?_eq_getElem hr]
          obtain ⟨x, hx, ho, hrt⟩ := hm.root (r - 1000000000) _ (List.getElem?_eq_getElem hr)
          rw [show 1000000000 + (r - 1000000000) = r by omega] at hx ho
          exact ⟨x, hx, ho, fun p hp => by simp at hp⟩
        · rw [List.getElem?_eq_none (by omega)]
          exact hm.none r (.inr (by omega))
      · rw [if_neg hr0]; exact hm.none r (.inl (by omega))
    · have hr : mkRoots (enum 1000000000 rin) r = .live t lk := hr
      rw [mkRoots_enum] at hr
      split at hr
      · split at hr
        · rename_i t' ht
          cases hr
          obtain ⟨_, _, _, hrt⟩ := hm.root _ _ ht
          exact hrt
        · cases hr
      · cases hr
  refine wp_mono (h X w _ _ w hs fp g) fun e a' w' ⟨S', hs', fp', g', q⟩ => ?_
  have key : retQ P fn.results.toList rin.length Q .ret S' → a'.defers = [] ∧ ∃ v, (results fn a'.tmps).run P w' = .ok v w' ∧ ∃ v' res rout fr fp'', Ending.returned v = .returned v' ∧ Q rout res ∧ rout.length = rin.length ∧ Out X w hs fp v' res rout fr fp'' w' := by
    intro q
    refine ⟨g'.defers, ?_⟩
    simp only [retQ] at q
    obtain ⟨vs, hvs, ts, S2, fp2, gs, I, hK, hlt, hlg, hos, hgn, hgs, hmono⟩ := retL_spec g' fn.results.toList (Inter.refl S' fp') q
    obtain ⟨rout, ⟨res, hle, hQ⟩, hrl, hrr⟩ := rout_spec hK
    -- the results as one value, which owns what its parts own
    have hpack : ∃ v, (results fn a'.tmps).run P w' = .ok v w' ∧ ∃ f, Ow w' (Ob X fp') (packT ts) v f ∧ f.Sublist gs.flatten := by
      have hm : (fn.results.mapM (fun | .tmp t => pure (a'.tmps.getD t undef) | .cell c t => (do loadVar t (← asAddr (a'.tmps.getD c undef))) : ResultVar → Go.Sem Value)).run P w' = .ok vs.toArray w' := by
        rw [Array.mapM_eq_mapM_toList, Sem.run_map]
        rw [show (Go.Sem.run P _ w') = Result.ok vs w' from hvs]
        rfl
      have hrun : (results fn a'.tmps).run P w' = .ok (if h : vs.toArray.size = 1 then vs.toArray[0] else .tuple vs.toArray) w' := by
        unfold results
        rw [Sem.run_bind]
        exact congrArg (fun (r : Result (Array Value)) => r.andThen fun a w' => Go.Sem.run P (pure (if h : a.size = 1 then a[0] else Value.tuple a) : Go.Sem Value) w') hm
      refine ⟨_, hrun, ?_⟩
      match vs, ts, gs, hlt, hlg, hos with
      | [v], [t], [f], _, _, hos =>
        refine ⟨f, ?_, by simp⟩
        have := hos 0 (by simp)
        simpa [packT] using this
      | [], ts, gs, hlt, hlg, hos =>
        have h1 : ts = [] := List.eq_nil_of_length_eq_zero hlt
        subst h1
        exact ⟨gs.flatten, by simpa [packT] using Ow.tup (w := w') (O := Ob X fp') [] [] gs rfl (by simpa using hlg) (fun i h => absurd h (by simp)), List.Sublist.refl _⟩
      | v1 :: v2 :: vs, ts, gs, hlt, hlg, hos =>
        have h1 : ¬ (v1 :: v2 :: vs).toArray.size = 1 := by simp
        rw [dif_neg h1]
        have h2 : packT ts = .tup ts := by
          match ts, hlt with
          | _ :: _ :: _, _ => rfl
        rw [h2]
        exact ⟨gs.flatten, Ow.tup ts _ gs (by omega) (by omega) hos, List.Sublist.refl _⟩
    obtain ⟨v, hv', f, hof, hfsub⟩ := hpack
    obtain ⟨fr, hor, hfr⟩ := hle.ow hof
    refine ⟨v, hv', v, res, rout, fr, fun r => if 1000000000 ≤ r ∧ r < 1000000000 + rin.length then fp2 r else [], rfl, hQ, hrl, ?_⟩
    have hin : ∀ r b, b ∈ (if 1000000000 ≤ r ∧ r < 1000000000 + rin.length then fp2 r else []) → b ∈ fp2 r := fun r b hb => by
      split at hb
      · exact hb
      · simp at hb
    have hin' : ∀ r b, b ∈ fp2 r → b ∈ fp' r := fun r b hb => by
      rcases I.root r with ⟨_, h⟩ | ⟨_, h, _⟩ <;> rw [h] at hb
      · exact hb
      · simp at hb
    have hfr' : ∀ b, b ∈ fr → ∃ q, b ∈ fp' q ∧ fp2 q = [] := fun b hb => hgs b (hfsub.subset (hfr.subset hb))
    have hO : ∀ b, ¬ Ob X fp' b → b < w'.heap.size → ¬ Ob' X (fun r => if 1000000000 ≤ r ∧ r < 1000000000 + rin.length then fp2 r else []) fr b := by
      rintro b h1 _ ((h | ⟨r, hr⟩) | h)
      · exact h1 (.inl h)
      · exact h1 (.inr ⟨r, hin' r b (hin r b hr)⟩)
      · obtain ⟨q, hq, _⟩ := hfr' b h; exact h1 (.inr ⟨q, hq⟩)
    refine ⟨fun i t hi => ?_, fun r hr => ?_, hor.mono (fun _ _ _ _ _ h => h) hO (fun _ _ _ _ _ h => h), fun r r' b h h' => g'.disj r r' b (hin' r b (hin r b h)) (hin' r' b (hin r' b h')), fun r => ?_, hfr.nodup (hfsub.nodup hgn), fun r b h h' => ?_, fun r b h => ?_, fun b h => ?_,
      g'.hist.os, g'.hist.tape, g'.hist.output, g'.hist.size, fun b hb hn => g'.hist.block b hb fun ⟨j, hj⟩ => hn j hj⟩
    · obtain ⟨hil, rfl⟩ := List.getElem?_eq_some_iff.1 hi
      have h1 := hrr i hil
      have h2 : S'.roots (1000000000 + i) = .live rout[i] [] ∧ fp2 (1000000000 + i) = fp' (1000000000 + i) := by
        rcases I.root (1000000000 + i) with ⟨h3, h4⟩ | ⟨h3, _⟩ <;> rw [h1] at h3
        · exact ⟨h3.symm, h4⟩
        · cases h3
      have h5 := g'.root (1000000000 + i)
      rw [h2.1] at h5
      obtain ⟨x, hx, ho, _⟩ := h5
      refine ⟨x, g'.pin _ _ (by omega) hx, ?_, g'.rooty _ _ _ h2.1⟩
      rw [if_pos (by omega), h2.2]
      exact ho.mono (fun _ _ _ _ _ h => h) hO (fun _ _ _ _ _ h => h)
    · rw [if_neg (by omega)]
    · split
      · rcases I.root r with ⟨_, h⟩ | ⟨_, h, _⟩ <;> rw [h]
        · exact g'.nodup r
        · simp
      · simp
    · obtain ⟨q, hq, hq0⟩ := hfr' b h'
      have h2 := hin r b h
      have := g'.disj q r b hq (hin' r b h2)
      subst this
      rw [hq0] at h2; simp at h2
    · exact g'.mine r b (hin' r b (hin r b h))
    · obtain ⟨q, hq, _⟩ := hfr' b h; exact g'.mine q b hq
  cases e with
  | normal => exact key q
  | ret => exact key q
  | _ => exact q.elim
end
end Go.Ab
