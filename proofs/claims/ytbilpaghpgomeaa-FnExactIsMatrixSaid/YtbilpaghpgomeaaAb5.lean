/- The abstract layer, part 5: giving parts of roots away; a root is laid or laid anew. -/
import Derived.Test.YtbilpaghpgomeaaAb4
set_option linter.unusedSimpArgs false
set_option linter.unusedVariables false
namespace Go.Ab

/-- A state on the way: some roots of S have been given away. -/
structure Inter (S : St) (fp : Nat → List Nat) (S' : St) (fp' : Nat → List Nat) : Prop where
  env : S'.env = S.env
  root : ∀ r, (S'.roots r = S.roots r ∧ fp' r = fp r) ∨ (S'.roots r = .dead ∧ fp' r = [] ∧ ∃ t lk, S.roots r = .live t lk)

theorem Inter.refl (S : St) (fp : Nat → List Nat) : Inter S fp S fp := ⟨rfl, fun _ => .inl ⟨rfl, rfl⟩⟩

def giveW (S : St) (a : A) (K : T → St → Prop) : Prop :=
  match a with
  | .t c => c.cell = true ∧ K c S
  | .own q => (match S.roots q with | .live t [] => K t { S with roots := upd S.roots q .dead } | _ => False)
  | _ => False

def giveL (S : St) : List A → (List T → St → Prop) → Prop
  | [], K => K [] S
  | a :: as, K => giveW S a fun t S1 => giveL S1 as fun ts S2 => K (t :: ts) S2

section
variable {P : Program} {X : Nat → Prop} {w0 : World} {O0 : Fr} {n : Nat} {S : St} {a : Act} {w : World} {hs : Nat → Option Value} {fp : Nat → List Nat}

theorem giveL_spec (g : Good X w0 O0 n S a w hs fp) : ∀ (as : List A) (vs : List Value) (S1 : St) (fp1 : Nat → List Nat) (K : List T → St → Prop), Inter S fp S1 fp1 → vs.length = as.length →
    (∀ i (h : i < as.length), Is w (Ob X fp) hs as[i] (vs.getD i undef)) → giveL S1 as K →
    ∃ (ts : List T) (S2 : St) (fp2 : Nat → List Nat) (gs : List (List Nat)), Inter S fp S2 fp2 ∧ K ts S2 ∧ ts.length = as.length ∧ gs.length = as.length ∧ (∀ i (h : i < ts.length), Ow w (Ob X fp) ts[i] (vs.getD i undef) (gs.getD i [])) ∧
      (∀ t ∈ ts, t.cell = true) ∧ gs.flatten.Nodup ∧ (∀ b ∈ gs.flatten, ∃ q, b ∈ fp1 q ∧ fp2 q = []) ∧ (∀ r, fp1 r = [] → fp2 r = [])
  | [], vs, S1, fp1, K, hI, hl, hi, hK => ⟨[], S1, fp1, [], hI, hK, rfl, rfl, fun i h => absurd h (by simp), by simp, by simp, by simp, fun _ h => h⟩
  | x :: as, vs, S1, fp1, K, hI, hl, hi, hK => by
    match vs, hl with
    | v :: vs, hl =>
    have hx : Is w (Ob X fp) hs x v := hi 0 (by simp)
    have hi' : ∀ i (h : i < as.length), Is w (Ob X fp) hs as[i] (vs.getD i undef) := fun i h => by have := hi (i + 1) (by simpa using h); simpa only [List.getElem_cons_succ, List.getD_cons_succ] using this
    have hl' : vs.length = as.length := by simpa using hl
    -- the head is given: what it is, which footprint, what stays
    have head : ∃ (t : T) (S2 : St) (fp2 : Nat → List Nat) (f : List Nat), Inter S fp S2 fp2 ∧ giveL S2 as (fun ts S3 => K (t :: ts) S3) ∧ Ow w (Ob X fp) t v f ∧ t.cell = true ∧ f.Nodup ∧ (∀ b ∈ f, ∃ q, b ∈ fp1 q ∧ fp2 q = []) ∧
        (∀ r, fp2 r = fp1 r ∨ fp2 r = []) := by
      simp only [giveL, giveW] at hK
      split at hK
      · rename_i c _
        cases hx with
        | t h => exact ⟨c, S1, fp1, [], hI, hK.2, .rd h, hK.1, by simp, by simp, fun _ => .inl rfl⟩
      · rename_i q _
        split at hK
        · rename_i t hq
          have hsame : S.roots q = .live t [] ∧ fp1 q = fp q := by
            rcases hI.root q with ⟨h1, h2⟩ | ⟨h1, _⟩
            · exact ⟨by rw [← h1, hq], h2⟩
            · rw [hq] at h1; cases h1
          have hr := g.root q
          rw [hsame.1] at hr
          obtain ⟨y, hy, ho, _⟩ := hr
          have hv : y = v := by have := hx.own_inv; rw [hy] at this; exact Option.some.inj this
          subst hv
          have hrt := g.rooty q t [] hsame.1
          refine ⟨t, { S1 with roots := upd S1.roots q .dead }, upd fp1 q [], fp q, ⟨hI.env, fun r => ?_⟩, hK, ho, by cases t <;> simp [T.rooty] at hrt <;> rfl, g.nodup q, fun b hb => ⟨q, by rw [hsame.2]; exact hb, upd_self _ _ _⟩, fun r => ?_⟩
          · by_cases h : r = q
            · subst h; exact .inr ⟨upd_self _ _ _, upd_self _ _ _, t, [], hsame.1⟩
            · simp only [upd_other _ _ _ _ h]; exact hI.root r
          · by_cases h : r = q
            · subst h; exact .inr (upd_self _ _ _)
            · exact .inl (upd_other _ _ _ _ h)
        · exact hK.elim
      · exact hK.elim
    obtain ⟨t, S2, fp2, f, hI2, hK2, ho, hc, hfn, hfs, hmono⟩ := head
    obtain ⟨ts, S3, fp3, gs, hI3, hK3, hlt, hlg, hos, hcs, hgn, hgs, hm3⟩ := giveL_spec g as vs S2 fp2 _ hI2 hl' hi' hK2
    refine ⟨t :: ts, S3, fp3, f :: gs, hI3, hK3, by simp [hlt], by simp [hlg], fun i h => ?_, fun u hu => ?_, ?_, fun b hb => ?_, fun r hr => ?_⟩
    · cases i with
      | zero => simpa using ho
      | succ i => simpa using hos i (by simpa using h)
    · rcases List.mem_cons.1 hu with rfl | hu
      · exact hc
      · exact hcs u hu
    · rw [List.flatten_cons, List.nodup_append]
      refine ⟨hfn, hgn, fun b hb b' hb' e => ?_⟩
      subst e
      obtain ⟨q, hq1, hq2⟩ := hfs b hb
      obtain ⟨q', hq1', _⟩ := hgs b hb'
      -- b lies in fp1 q and in fp2 q': both roots are the same one, which is spent
      have h2 : b ∈ fp1 q' := by
        rcases hmono q' with h | h <;> rw [h] at hq1'
        · exact hq1'
        · simp at hq1'
      have sub : ∀ r, b ∈ fp1 r → b ∈ fp r := fun r hr => by
        rcases hI.root r with ⟨_, h⟩ | ⟨_, h, _⟩ <;> rw [h] at hr
        · exact hr
        · simp at hr
      have : q = q' := g.disj q q' b (sub q hq1) (sub q' h2)
      subst this
      rw [hq2] at hq1'; simp at hq1'
    · rw [List.flatten_cons, List.mem_append] at hb
      rcases hb with hb | hb
      · obtain ⟨q, h1, h2⟩ := hfs b hb
        exact ⟨q, h1, hm3 q h2⟩
      · obtain ⟨q, h1, h2⟩ := hgs b hb
        refine ⟨q, ?_, h2⟩
        rcases hmono q with h | h <;> rw [h] at h1
        · exact h1
        · simp at h1
    · refine hm3 r ?_
      rcases hmono r with h | h
      · rw [h, hr]
      · exact h

/-- A root is laid, or laid anew: at d, with the header x. Memory has changed in its own old blocks and in blocks of roots that were given away. -/
theorem Good.lay (g : Good X w0 O0 n S a w hs fp) {S2 : St} {fp2 : Nat → List Nat} (I : Inter S fp S2 fp2) (d : Nat) (t : T) (lk : List (Nat × Nat)) (x : Value) (f : List Nat) (w' : World)
    (hx : (hs d = none ∧ d < 1000000000) ∨ hs d = some x) (hrt : t.rooty = true) (hos : w'.os = w.os) (htp : w'.tape = w.tape) (hout : w'.output = w.output) (hsz : w.heap.size ≤ w'.heap.size)
    (hkeep : ∀ b, b < w.heap.size → (∀ q, b ∈ fp q → q ≠ d ∧ fp2 q ≠ []) → w'.heap[b]? = w.heap[b]?)
    (hf : f.Nodup) (hfs : ∀ b ∈ f, (∃ q, b ∈ fp q ∧ (q = d ∨ fp2 q = [])) ∨ w.heap.size ≤ b)
    (ho : ∀ O', (∀ b, ¬ Ob X fp b → b < w.heap.size → ¬ O' b) → Ow w' O' t x f)
    (hlk : ∀ p ∈ lk, ∃ y, cellOf w' x p.1 = some y ∧ hs p.2 = some y) :
    Good X w0 O0 n { env := S2.env, roots := upd S2.roots d (.live t lk) } a w' (upd hs d (some x)) (upd fp2 d f) := by
  have fsub : ∀ r b, b ∈ fp2 r → b ∈ fp r ∧ fp2 r = fp r ∧ S2.roots r = S.roots r := fun r b hr => by
    rcases I.root r with ⟨h1, h⟩ | ⟨_, h, _⟩
    · exact ⟨by rw [← h]; exact hr, h, h1⟩
    · rw [h] at hr; simp at hr
  have hh : ∀ r y, hs r = some y → upd hs d (some x) r = some y := by
    intro r y hr
    by_cases h : r = d
    · subst h; rw [upd_self]; rcases hx with ⟨h, _⟩ | h <;> rw [h] at hr
      · cases hr
      · exact hr
    · rw [upd_other _ _ _ _ h]; exact hr
  have sub : ∀ r b, b ∈ upd fp2 d f r → (∃ q, b ∈ fp q) ∨ w.heap.size ≤ b := by
    intro r b hb
    by_cases h : r = d
    · subst h; rw [upd_self] at hb
      rcases hfs b hb with ⟨q, hq, _⟩ | h
      · exact .inl ⟨q, hq⟩
      · exact .inr h
    · rw [upd_other _ _ _ _ h] at hb; exact .inl ⟨r, (fsub r b hb).1⟩
  have hO : ∀ b, ¬ Ob X fp b → b < w.heap.size → ¬ Ob X (upd fp2 d f) b := by
    rintro b hn hlt (h | ⟨r, hr⟩)
    · exact hn (.inl h)
    · rcases sub r b hr with ⟨q, hq⟩ | h
      · exact hn (.inr ⟨q, hq⟩)
      · omega
  have hk : Keeps (fun b => ¬ Ob X fp b) w w' := fun b cs e fz hn hb => by
    rw [hkeep b (Array.getElem?_eq_some_iff.1 hb).1 (fun q hq => (hn (.inr ⟨q, hq⟩)).elim)]; exact hb
  have disj0 : ∀ r b, r ≠ d → b ∈ f → b ∈ fp2 r → False := by
    intro r b hrd hb hr
    obtain ⟨h1, h2, _⟩ := fsub r b hr
    rcases hfs b hb with ⟨q, hq, hqd⟩ | h
    · have := g.disj q r b hq h1
      subst this
      rcases hqd with rfl | hqd
      · exact hrd rfl
      · rw [hqd] at hr; simp at hr
    · have := g.lt h1; omega
  refine ⟨g.size, g.defers, fun i => ?_, fun r => ?_, ?_, fun r => ?_, fun r b hb => ?_, g.xold, g.xout, fun r b hb => ?_, ?_, fun r t' lk' hr => ?_, fun r y hr => ?_, g.small, fun r y hr0 hr => ?_⟩
  · show Is _ _ _ (S2.env i) _
    rw [I.env]; exact (g.env i).mono hk hO hh
  · by_cases h : r = d
    · subst h
      simp only [upd_self]
      exact ⟨x, rfl, ho _ hO, fun p hp => by obtain ⟨y, hy, hyd⟩ := hlk p hp; exact ⟨y, hy, hh _ _ hyd⟩⟩
    · simp only [upd_other _ _ _ _ h]
      rcases I.root r with ⟨h1, h2⟩ | ⟨h1, h2, _⟩
      · rw [h1, h2]
        have hr := g.root r
        have hrr := g.rooty r
        revert hr
        cases hS : S.roots r with
        | free => exact fun h => h
        | dead => exact fun h => h
        | live t' lk' =>
          rintro ⟨y, hy, ho', hlk'⟩
          have hkeepf : ∀ b, b ∈ fp r → w'.heap[b]? = w.heap[b]? := fun b hb => hkeep b (g.lt hb) fun q hq => by
            have := g.disj q r b hq hb
            subst this
            exact ⟨h, by rw [h2]; exact List.ne_nil_of_mem hb⟩
          refine ⟨y, hy, ho'.mono hk hO fun b cs e fz hb hc => by rw [hkeepf b hb]; exact hc, fun p hp => ?_⟩
          obtain ⟨z, hz, hzd⟩ := hlk' p hp
          refine ⟨z, ?_, hh _ _ hzd⟩
          have hroot := hrr _ _ hS
          generalize hfr : fp r = fr at ho' hkeepf
          cases ho' with
          | rd hh => cases hh <;> simp [T.rooty] at hroot
          | arrNil => simp [cellOf] at hz
          | arr _ _ b len cap cs e fps hb _ _ _ _ _ _ =>
            simp only [cellOf, World.cell?] at hz ⊢
            rw [hkeepf b (by simp)]; exact hz
          | box _ b cs e fps hb _ _ _ =>
            simp only [cellOf, World.cell?] at hz ⊢
            rw [hkeepf b (by simp)]; exact hz
          | agg => simp [T.rooty] at hroot
          | tup => simp [T.rooty] at hroot
      · rw [h1, h2]; rfl
  · intro r r' b hr hr'
    by_cases h : r = d <;> by_cases h' : r' = d
    · rw [h, h']
    · subst h; rw [upd_self] at hr; rw [upd_other _ _ _ _ h'] at hr'; exact (disj0 r' b h' hr hr').elim
    · subst h'; rw [upd_self] at hr'; rw [upd_other _ _ _ _ h] at hr; exact (disj0 r b h hr' hr).elim
    · rw [upd_other _ _ _ _ h] at hr; rw [upd_other _ _ _ _ h'] at hr'
      exact g.disj r r' b (fsub r b hr).1 (fsub r' b hr').1
  · by_cases h : r = d
    · subst h; rw [upd_self]; exact hf
    · rw [upd_other _ _ _ _ h]
      rcases I.root r with ⟨_, h2⟩ | ⟨_, h2, _⟩ <;> rw [h2]
      · exact g.nodup r
      · simp
  · rcases sub r b hb with ⟨q, hq⟩ | h
    · exact g.foreign q b hq
    · intro hX
      have := g.xold b hX; have := g.hist.size; omega
  · rcases sub r b hb with ⟨q, hq⟩ | h
    · exact g.mine q b hq
    · right; have := g.hist.size; omega
  · refine ⟨hos.trans g.hist.os, htp.trans g.hist.tape, hout.trans g.hist.output, Nat.le_trans g.hist.size hsz, fun b hb hn => ?_⟩
    rw [hkeep b (Nat.lt_of_lt_of_le hb g.hist.size) fun q hq => ?_]
    · exact g.hist.block b hb hn
    · rcases g.mine q b hq with h | h
      · exact (hn h).elim
      · omega
  · by_cases h : r = d
    · subst h; simp only [upd_self, Root.live.injEq] at hr; rw [← hr.1]; exact hrt
    · simp only [upd_other _ _ _ _ h] at hr
      rcases I.root r with ⟨h1, _⟩ | ⟨h1, _⟩ <;> rw [h1] at hr
      · exact g.rooty r t' lk' hr
      · cases hr
  · by_cases h : r = d
    · subst h
      rw [upd_self, Option.some.injEq] at hr
      rw [← hr]
      exact (ho _ hO).oneCell (by revert hrt; cases t <;> simp [T.rooty, T.cell])
    · rw [upd_other _ _ _ _ h] at hr; exact g.hdr r y hr
  · by_cases h : r = d
    · subst h
      rw [upd_self] at hr
      rcases hx with ⟨_, h⟩ | h
      · omega
      · exact g.pin r y hr0 (h.trans hr)
    · rw [upd_other _ _ _ _ h] at hr; exact g.pin r y hr0 hr
end
end Go.Ab
