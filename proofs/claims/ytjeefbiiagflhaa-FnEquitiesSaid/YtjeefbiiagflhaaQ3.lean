/- The abstract layer, part 43: a range over a function inside an iterator's own frame. -/
import Derived.Test.YtjeefbiiagflhaaQ2
set_option linter.unusedSimpArgs false
set_option linter.unusedVariables false
set_option maxRecDepth 20000
namespace Go.Ab
section
variable {P : Program} {n : Nat} {J : JT} {mkp : Prop} {m : Option Nat} {B X : Nat -> Prop} {a : Act} {W W' : World} {hs : Nat -> Option Value} {fp : Nat -> List Nat} {l : Nat} {ys : List T}

theorem YOK.ownB (hJ : Cl P l ys J) {S : St} {E0 B2 B2' : Nat -> Prop} (y : YOK J mkp n S m B (fun c => E0 c ∨ B2 c) X a W hs fp) (hm : OwnMv B2 B2' W W') (h0 : ∀ c, B2 c -> ¬ E0 c) (hk : ∀ c, B2 c -> ¬ q1kx a c) :
    ∃ B', YOK J mkp n S m B' (fun c => E0 c ∨ B2' c) X a W' hs fp /\ (∀ c, B' c -> B c ∨ W.heap.size <= c) /\ (∀ c, B c -> B' c) := by
  have hsz := hm.size
  have hO : ∀ c, frO a hs fp mkp c -> c < W.heap.size := fun c h => (y.bx c (y.ob c h)).2
  refine ⟨fun c => B c ∨ (W.heap.size <= c /\ c < W'.heap.size), ⟨?_, ?_, fun c h => ?_, fun c h => ?_, fun c h => .inl (y.ob c h)⟩, fun c h => h.imp id (·.1), fun c h => .inl h⟩
  · refine y.g.world rfl (fun c cs e fz hn hc => ?_) (fun r c hc => hm.same c (y.g.lt hc) fun h => y.g.foreign r c hc (.inl (.inr h))) (fun c h => ?_) (fun c h => ?_) (fun c h hc ho => ?_) ⟨rfl, rfl, rfl, Nat.le_refl _, fun _ _ _ => rfl⟩ (fun r c hc => .inl (.inl ⟨r, hc⟩)) ?_
    · rw [hm.same c (Array.getElem?_eq_some_iff.1 hc).1 fun h => hn (.inl (.inl (.inr h)))]; exact hc
    · rcases h with (h | h) | h
      · exact .inl (.inl (.inl h))
      · exact (hm.grow c h).imp (fun h => .inl (.inr h)) id
      · exact .inl (.inr h)
    · rcases h with (h | h) | h
      · have := y.g.xold c (.inl (.inl h)); omega
      · exact hm.lt c h
      · have := y.g.xold c (.inr h); omega
    · have h1 := hO c ho
      rcases h with (h | h) | h
      · exact y.g.xout c (.inl (.inl h)) h1 ho
      · rcases hm.grow c h with h2 | h2
        · exact y.g.xout c (.inl (.inr h2)) h1 ho
        · omega
      · exact y.g.xout c (.inr h) h1 ho
    · obtain ⟨Ds, h1, h2, h3, h4⟩ := y.g.defers
      refine ⟨Ds, h1, h2, fun D hD => ?_, h4⟩
      have hmD : q1kx a D := by unfold q1kx; rw [h2]; exact List.mem_map.2 ⟨D, hD, rfl⟩
      exact ⟨.inr (.inr hmD), by rw [hm.same D (Array.getElem?_eq_some_iff.1 (h3 D hD).2).1 fun h => hk D h hmD]; exact (h3 D hD).2⟩
  · refine hJ.own y.j (fun c h => (y.bx c h).1) ⟨hsz, fun c hc hn => hm.same c hc fun h => hn (y.eb c (.inr h)), fun c h => h.imp id (·.1), fun c h => ?_, hm.os, hm.tape, hm.output⟩
    rcases h with h | h
    · have := (y.bx c h).2; omega
    · exact h.2
  · rcases h with h | h
    · exact .inl (y.eb c (.inl h))
    · rcases hm.grow c h with h1 | h1
      · exact .inl (y.eb c (.inr h1))
      · exact .inr ⟨h1, hm.lt c h⟩
  · rcases h with h | h
    · exact ⟨(y.bx c h).1, by have := (y.bx c h).2; omega⟩
    · exact ⟨fun hx => by have := y.g.xold c (.inr hx); omega, h.2⟩

def J2 (J : JT) (mkp : Prop) (n : Nat) (mk : Nat -> St) (M : Nat -> Option Nat) (len : Nat) (Q : Exit -> St -> Option Nat -> Prop) (E X0 B0 O0 : Nat -> Prop) (hs0 : Nat -> Option Value) (W0 : World) (s2 l2 : Nat) (rec : Loop) (a1 : Act) : JT := fun B2 X2 mm Wc =>
  (∀ c, B2 c -> s2 <= c) /\ s2 <= Wc.heap.size /\ ∃ Bc Xc S m hsc fpc, (∀ c, X2 c ↔ Xc c ∨ c = l2 ∨ ∃ j, c ∈ fpc j) /\ StepY X0 Xc B0 Bc O0 (frO a1 hsc fpc mkp) hs0 hsc W0 Wc /\ YOK J mkp n S m Bc (fun c => (E c ∨ c = l2) ∨ B2 c) Xc a1 Wc hsc fpc ∧
    match mm with
    | some k => k <= len /\ S = mk k /\ m = M k /\ Wc.heap[l2]? = some (.loop rec)
    | none => ∃ j, Wc.heap[l2]? = some (.loop { rec with state := .done, pending := some j }) /\ q1k7 Q j S m

theorem q1k5 (hJ : Cl P l ys J) {mk : Nat -> St} {M : Nat -> Option Nat} {ys2 : List T} {Q : Exit -> St -> Option Nat -> Prop} {E X0 B0 O0 : Nat -> Prop} {hs0 : Nat -> Option Value} {W0 : World} {s2 l2 : Nat} {rec : Loop} {a1 : Act} {p : Nat} {ca cb : Code}
    (hl20 : W0.heap.size <= l2) (hl2s : l2 < s2) (hEs : ∀ c, E c -> c < s2) (hmks : ∀ c, q1kx a1 c -> c < s2) (hs2 : W0.heap.size <= s2) (e1 : rec.state = .ready) (e2 : rec.pending = none) (e4 : rec.tmps = a1.tmps) (e5 : rec.params = #[p]) (e6 : rec.assign = ca) (e7 : rec.body = cb)
    {srcs bor : List Nat} {rin : Nat -> List T} {sl : Nat -> List (Nat × A)} (hsn : srcs.Nodup) (hsb : ∀ q ∈ bor, q ∉ srcs) (hsrc : ∀ i, i < ys2.length -> q0tg (mk i) srcs (rin i)) (hp : p < n)
    (hsl : ∀ i, i < ys2.length -> ∀ s ∈ sl i, s.1 ≠ p /\ va (mk i) srcs bor s.2 ((mk i).env s.1))
    (round : ∀ i (h : i < ys2.length), SemY P n J False ca (fun e S1 m1 => e = .normal /\ SemY P n J False cb (rndY n (mk i) (mk (i + 1)) (M (i + 1)) srcs (rin i).length Q) S1 m1) (St.of ((p, .t ys2[i]) :: sl i) (enum 1000000000 (rin i))) (M i)) :
    Cl P l2 ys2 (J2 J mkp n mk M ys2.length Q E X0 B0 O0 hs0 W0 s2 l2 rec a1) := by
  refine ⟨?_, ?_⟩
  · rintro B2 B2' X2 mm Wc Wc' ⟨hb2, hsz, Bc, Xc, S, m, hsc, fpc, hX2, st, y, hmm⟩ hdis hm
    obtain ⟨B', y', hB1, hB2⟩ := y.ownB hJ hm (fun c h h0 => by
      have := hb2 c h
      rcases h0 with h0 | h0
      · have := hEs c h0; omega
      · omega) (fun c h h0 => by have := hb2 c h; have := hmks c h0; omega)
    have hl2B : ¬ B2 l2 := fun h => by have := hb2 l2 h; omega
    refine ⟨fun c h => ?_, by have := hm.size; omega, B', Xc, S, m, hsc, fpc, hX2, ⟨by have := hm.size; have := st.size; omega, fun c hc hx ho => ?_, st.gx, fun c h => ?_, fun c h => hB2 c (st.bm c h), st.go, st.hd⟩, y', ?_⟩
    · rcases hm.grow c h with h1 | h1
      · exact hb2 c h1
      · omega
    · rw [hm.same c (by have := st.size; omega) fun h => by have := hb2 c h; omega]
      exact st.kp c hc hx ho
    · rcases hB1 c h with h1 | h1
      · exact st.gb c h1
      · exact .inr (Nat.le_trans st.size h1)
    · cases mm with
      | some k =>
        obtain ⟨h1, h2, h3, h4⟩ := hmm
        exact ⟨h1, h2, h3, (hm.same l2 (Array.getElem?_eq_some_iff.1 h4).1 hl2B).trans h4⟩
      | none =>
        obtain ⟨j, h1, h2⟩ := hmm
        exact ⟨j, (hm.same l2 (Array.getElem?_eq_some_iff.1 h1).1 hl2B).trans h1, h2⟩
  · rintro B2 X2 i yv v Wc ⟨hb2, hsz, Bc, Xc, S, m, hsc, fpc, hX2, st, y, hle, rfl, rfl, hl⟩ hyi hdis hy
    obtain ⟨hi, rfl⟩ := List.getElem?_eq_some_iff.1 hyi
    have hyl := run_yield (P := P) (args := #[v]) hl (by rw [e5]; rfl)
    rw [e5, e4, e6, e7, show ((#[p] : Array Tmp).zip #[v]).foldl (fun tmps (t, a) => tmps.setIfInBounds t a) a1.tmps = a1.tmps.setIfInBounds p v by simp] at hyl
    refine ⟨_, _, _, _, hyl, (y.round hJ (.inr rfl) hl e1 e2 hsn hsb (hsrc i hi) hp (hsl i hi) (fun c h h0 => by
      have := hb2 c h
      rcases h0 with h0 | h0
      · have := hEs c h0; omega
      · omega) hy (round i hi)).mono ?_⟩
    rintro e W' ⟨b, rfl, B', X', S', m', hs', fp', y', r, hbb⟩
    have hszW := r.size
    have hO : ∀ c, frO a1 hs' fp' mkp c -> frO a1 hsc fpc mkp c ∨ Wc.heap.size <= c := fun c h => by
      rcases h with ⟨j, hj⟩ | h
      · rcases r.go j c hj with h1 | h1
        · exact .inl (.inl h1)
        · exact .inr h1
      · exact .inl (.inr h)
    refine ⟨b, fun c => X' c ∨ c = l2 ∨ ∃ j, c ∈ fp' j, rfl, ⟨hb2, by omega, B', X', S', m', hs', fp', fun c => Iff.rfl, ⟨by have := st.size; omega, fun c hc hx ho => ?_, fun c h => ?_, fun c h => ?_, fun c h => r.bm c (st.bm c h), fun c h => ?_, fun rr h hr hh => st.hd rr h hr (r.hd rr h hr hh)⟩, y', ?_⟩, ⟨hszW, fun c hc hx => ?_, fun c h => ?_, fun c h => ?_⟩⟩
    · have h1 := st.size
      rw [r.kp c (by omega) (fun h => ?_) (by omega) (fun j hj => ?_)]
      · exact st.kp c hc hx ho
      · rcases st.gx c h with h2 | h2
        · exact hx h2
        · omega
      · rcases st.go c (.inl ⟨j, hj⟩) with h2 | h2
        · exact ho h2
        · omega
    · rcases r.gx c h with h1 | h1
      · exact st.gx c h1
      · exact .inr (Nat.le_trans st.size h1)
    · rcases r.gb c h with h1 | h1
      · exact st.gb c h1
      · exact .inr (Nat.le_trans st.size h1)
    · rcases hO c h with h1 | h1
      · exact st.go c h1
      · exact .inr (Nat.le_trans st.size h1)
    · cases b with
      | true =>
        simp only [if_true] at hbb ⊢
        exact ⟨hi, hbb.1, hbb.2.1, hbb.2.2⟩
      | false =>
        simp only [Bool.false_eq_true, if_false] at hbb ⊢
        exact hbb
    · have hx' : ¬ (Xc c ∨ c = l2 ∨ ∃ j, c ∈ fpc j) := fun h => hx ((hX2 c).2 h)
      exact r.kp c hc (fun h => hx' (.inl h)) (fun h => hx' (.inr (.inl h))) fun j hj => hx' (.inr (.inr ⟨j, hj⟩))
    · rcases h with h | h | ⟨j, hj⟩
      · exact (r.gx c h).imp (fun h => (hX2 c).2 (.inl h)) id
      · exact .inl ((hX2 c).2 (.inr (.inl h)))
      · exact (r.go j c hj).imp (fun h => (hX2 c).2 (.inr (.inr h))) id
    · rcases h with h | h | ⟨j, hj⟩
      · exact y'.g.xold c (.inr h)
      · subst h; omega
      · exact y'.g.lt hj

theorem SemY.range (hJ : Cl P l ys J) {S : St} {gop : Operand} {p : Nat} {ca cb : Code} {Q : Exit -> St -> Option Nat -> Prop} {gf : FuncId} {cap ys2 : List T} (hcallf : ∀ args w, (callFunc gf args).run P w = .ok (.enter gf args) w) (hit : q19j P gf cap ys2)
    (mk : Nat -> St) (M : Nat -> Option Nat) (srcs bor : List Nat) (rin : Nat -> List T) (sl : Nat -> List (Nat × A)) (hw : Weak n S (mk 0)) (hM : M 0 = m) (hg : fnA ((mk 0).ev gop) = some (gf, cap.map A.t)) (hsn : srcs.Nodup) (hsb : ∀ q ∈ bor, q ∉ srcs)
    (hsrc : ∀ i, i < ys2.length -> q0tg (mk i) srcs (rin i)) (hp : p < n) (hsl : ∀ i, i < ys2.length -> ∀ s ∈ sl i, s.1 ≠ p /\ va (mk i) srcs bor s.2 ((mk i).env s.1))
    (round : ∀ i (h : i < ys2.length), SemY P n J False ca (fun e S1 m1 => e = .normal /\ SemY P n J False cb (rndY n (mk i) (mk (i + 1)) (M (i + 1)) srcs (rin i).length Q) S1 m1) (St.of ((p, .t ys2[i]) :: sl i) (enum 1000000000 (rin i))) (M i))
    (done : Q .normal (mk ys2.length) (M ys2.length)) : SemY P n J mkp (.rangeFunc gop #[p] ca cb) Q S m := by
  intro B E X a W hs fp y ro hro hmk0
  obtain ⟨hs0, fp0, g0⟩ := hw _ _ _ _ _ _ _ y.g
  refine wpIn_rangeFunc fun fn _ => ?_
  obtain ⟨l2, mark, w2, rec, henter, ⟨e1, e2, e3, e4, e5, e6, e7⟩, hl2, hext, hlw, hl2s, hmk⟩ := q1n2 (P := P) y.g (y.rnd hro) (hmk0 rfl) fn p ca cb
  obtain ⟨capv, hev, hcl, hcr⟩ := g0.caps hg
  have hw02 : W.heap.size <= w2.heap.size := hext.size
  have g2 : Good (fun c => (E c ∨ c = l2) ∨ X c) W (frO a hs fp mkp) n (mk 0) { a with defers := mark ++ a.defers } w2 hs0 fp0 := by
    have := g0.ext hext (X' := fun c => (E c ∨ c = l2) ∨ X c) (fun c h => by
      rcases h with (h | rfl) | h
      · exact .inl (.inl h)
      · exact .inr ⟨hlw, hl2s⟩
      · exact .inl (.inr h))
    exact { this with defers := hmk }
  have hev1 : ({ a with defers := mark ++ a.defers } : Act).eval gop = .func (.func gf) #[] capv.toArray := hev
  generalize ha1 : ({ a with defers := mark ++ a.defers } : Act) = a1 at g2 hev1 ⊢
  have htm : rec.tmps = a1.tmps := by rw [e4, ← ha1]
  have hd1 : ∀ c, q1kx a1 c -> ¬ (E c ∨ c = l2) := by
    rintro c h (hE | rfl)
    · have h1 := y.g.xold c (.inl hE)
      rcases (q1kz g2 h).1 with h2 | h2
      · omega
      · exact y.g.xout c (.inl hE) h1 h2
    · have := (q1kz g2 h).2
      rw [hl2] at this; cases this
  obtain ⟨B1, y1, s1⟩ := y.nextE hJ (E' := fun c => E c ∨ c = l2) (fun c h => .inl h) (fun c h => h.imp id fun h => by omega) g2 hd1
  have hmks : ∀ c, q1kx a1 c -> c < w2.heap.size := fun c h => (Array.getElem?_eq_some_iff.1 (q1kz g2 h).2).1
  have hcl2 := q1k5 (mkp := mkp) (Q := Q) (M := M) (E := E) (X0 := X) (B0 := B) (O0 := frO a hs fp mkp) (hs0 := hs) (W0 := W) (s2 := w2.heap.size) (ys2 := ys2) hJ hlw hl2s (fun c h => by have := y.g.xold c (.inl h); omega) hmks hw02 e1 e2 htm e5 e6 e7 hsn hsb hsrc hp hsl round
  have hX2 : ∀ c, (X c ∨ c = l2 ∨ ∃ j, c ∈ fp0 j) -> c < w2.heap.size := fun c h => by
    rcases h with h | h | ⟨j, hj⟩
    · have := y.g.xold c (.inr h); omega
    · omega
    · have := g0.lt hj; omega
  refine ⟨l2, mark, w2, { target := .fn (.func gf) capv.toArray, args := #[.func (.yield l2) #[] #[]] }, w2, gf, #[.func (.yield l2) #[] #[]] ++ capv.toArray, w2, henter, ?_, fun f' _ => q0ou ro f', ?_, q0ot, q0os ?_⟩
  · simp only [resolve, hev]
    simp [go_sem]
  · simp [invoke, go_sem, hcallf]
  rw [ha1]
  refine (hit (fun c => X c ∨ c = l2 ∨ ∃ j, c ∈ fp0 j) w2 capv hcl hX2 (fun i h => ?_) l2 _ hcl2 ?_).mono ?_
  · refine (g2.caps' hg hev1 i h).mono (fun _ _ _ _ _ h => h) fun c hc _ hc2 => hc ?_
    rcases hc2 with h1 | h1 | h1
    · exact .inl (.inr h1)
    · exact .inl (.inl (.inr h1))
    · exact .inr h1
  · refine ⟨fun c h => h.elim, Nat.le_refl _, B1, X, mk 0, m, hs0, fp0, fun c => Iff.rfl, s1, ?_, Nat.zero_le _, rfl, hM.symm, hl2⟩
    have e : (fun c => (E c ∨ c = l2) ∨ False) = fun c => E c ∨ c = l2 := funext fun c => propext ⟨fun h => h.elim id False.elim, .inl⟩
    rw [e]; exact y1
  · have drop : ∀ {Bc Xc : Nat -> Prop} {S m hsc fpc} {B2 : Nat -> Prop} {Wc}, YOK J mkp n S m Bc (fun c => (E c ∨ c = l2) ∨ B2 c) Xc a1 Wc hsc fpc -> YOK J mkp n S m Bc E Xc a1 Wc hsc fpc := fun {Bc Xc S m hsc fpc B2 Wc} yy =>
      ⟨yy.g.world rfl (fun _ _ _ _ _ h => h) (fun _ _ _ => rfl) (fun c h => .inl (h.elim (fun h => .inl (.inl (.inl h))) .inr)) (fun c h => yy.g.xold c (h.elim (fun h => .inl (.inl (.inl h))) .inr)) (fun c h hc => yy.g.xout c (h.elim (fun h => .inl (.inl (.inl h))) .inr) hc) yy.g.hist yy.g.mine yy.g.defers, yy.j, fun c h => yy.eb c (.inl (.inl h)), yy.bx, yy.ob⟩
    have fin : ∀ {Bc Xc : Nat -> Prop} {S m hsc fpc} {B2 : Nat -> Prop} {Wc} (r : Loop) (o : Obj), (∀ c, B2 c -> w2.heap.size <= c) -> StepY X Xc B Bc (frO a hs fp mkp) (frO a1 hsc fpc mkp) hs hsc W Wc -> YOK J mkp n S m Bc (fun c => (E c ∨ c = l2) ∨ B2 c) Xc a1 Wc hsc fpc -> Wc.heap[l2]? = some (.loop r) →
        YOK J mkp n S m Bc E Xc a1 (Wc.putObj l2 o) hsc fpc /\ StepY X Xc B Bc (frO a hs fp mkp) (frO a1 hsc fpc mkp) hs hsc W (Wc.putObj l2 o) := fun {Bc Xc S m hsc fpc B2 Wc} r o _ st yy hl =>
      ⟨drop (yy.putE hJ (.inl (.inr rfl)) (fun D hD e => by have := (q1kz yy.g hD).2; rw [e, hl] at this; cases this) o), by rw [World.putObj_size]; exact st.size, fun c hc hx ho => by rw [World.putObj_heap_other (by omega)]; exact st.kp c hc hx ho, st.gx, st.gb, st.bm, st.go, st.hd⟩
    rintro e Wc ⟨⟨v, rfl⟩, B2, X2, (⟨hb2, _, Bc, Xc, S1, m1, hsc, fpc, _, st, yy, hle, rfl, rfl, hl⟩ | ⟨hb2, _, Bc, Xc, S1, m1, hsc, fpc, _, st, yy, j, hl, hq⟩)⟩
    · obtain ⟨yE, sE⟩ := fin _ (.loop { rec with state := .exhausted, pending := none }) hb2 st yy hl
      exact ⟨none, _, by have := run_endLoop (P := P) hl (by rw [e1]; simp); rw [e2] at this; exact this, _, _, _, _, _, _, yE, sE, done⟩
    · obtain ⟨yE, sE⟩ := fin _ (.loop { ({ rec with state := .done, pending := some j } : Loop) with state := .exhausted }) hb2 st yy hl
      refine ⟨some j, _, run_endLoop (P := P) hl (by simp), ?_⟩
      rcases hq with ⟨rfl, hq⟩ | ⟨id, rfl, hq⟩
      · exact wpIn_ret ⟨_, _, _, _, _, _, yE, sE, hq⟩
      · exact wpIn_exit ⟨_, _, _, _, _, _, yE, sE, hq⟩
end
end Go.Ab

/- The abstract layer, part 44: the call of yield, in regions in order and in regions that draw their order. -/
namespace Go.Ab
section
variable {P : Program} {n : Nat} {J : JT} {mkp : Prop} {S : St} {m : Option Nat} {B E X : Nat -> Prop} {a : Act} {W : World} {hs : Nat -> Option Value} {fp : Nat -> List Nat} {l : Nat} {ys : List T}

theorem YOK.moved {X' : Nat -> Prop} {W' : World} {m' : Option Nat} (y : YOK J mkp n S m B E X a W hs fp) (hm : Moves X X' W W') (hj : J B X' m' W') : YOK J mkp n S m' B E X' a W' hs fp /\ StepY X X' B B (frO a hs fp mkp) (frO a hs fp mkp) hs hs W W' := by
  have hsz := hm.size
  have hB : ∀ c, B c -> W'.heap[c]? = W.heap[c]? := fun c h => hm.same c (y.bx c h).2 (y.bx c h).1
  have hnX : ∀ c, B c -> ¬ X' c := fun c h h' => by
    rcases hm.grow c h' with h1 | h1
    · exact (y.bx c h).1 h1
    · have := (y.bx c h).2; omega
  refine ⟨⟨?_, hj, y.eb, fun c h => ⟨hnX c h, by have := (y.bx c h).2; omega⟩, y.ob⟩, ⟨hsz, fun c hc hx _ => hm.same c hc hx, hm.grow, fun c h => .inl h, fun c h => h, fun c h => .inl h, fun _ _ _ h => h⟩⟩
  refine y.g.world rfl (fun c cs e fz hn hc => ?_) (fun r c hc => hB c (y.ob c (.inl ⟨r, hc⟩))) (fun c h => ?_) (fun c h => ?_) (fun c h hc ho => ?_) ⟨rfl, rfl, rfl, Nat.le_refl _, fun _ _ _ => rfl⟩ (fun r c hc => .inl (.inl ⟨r, hc⟩)) ?_
  · rw [hm.same c (Array.getElem?_eq_some_iff.1 hc).1 fun h => hn (.inl (.inr h))]; exact hc
  · rcases h with h | h
    · exact .inl (.inl h)
    · exact (hm.grow c h).imp .inr id
  · rcases h with h | h
    · have := y.g.xold c (.inl h); omega
    · exact hm.lt c h
  · rcases h with h | h
    · exact y.g.xout c (.inl h) (y.g.xold c (.inl h)) ho
    · exact hnX c (y.ob c ho) h
  · obtain ⟨Ds, h1, h2, h3, h4⟩ := y.g.defers
    refine ⟨Ds, h1, h2, fun D hD => ?_, h4⟩
    have hmD : q1kx a D := by unfold q1kx; rw [h2]; exact List.mem_map.2 ⟨D, hD, rfl⟩
    exact ⟨.inr (.inr hmD), by rw [hB D (y.ob D (.inr hmD))]; exact (h3 D hD).2⟩

theorem q1ru (hJ : Cl P l ys J) {ops : Array Oper} {i k d q : Nat} {o : Oper} {f x : Operand} {t : T} {ro : Option Nat} {Q : Exit -> Act -> World -> Prop} {K : Act -> World -> Prop} (ho : ops[i]? = some o) (htr : trI P n ops o = some (.o (.call (some d) f [x]))) (hdf : dfr o.op = false) (y : YOK J mkp n S (some k) B E X a W hs fp)
    (hf : S.ev f = .t (.v (.func (.yield l) #[] #[]))) (hx : S.ev x = .own q) (hr : S.roots q = .live t []) (hn : t.noSh) (hk : ys[k]? = some t.toSh) (hd : d < n)
    (hK : ∀ b X' W', YOK J mkp n (S.put d (.t (.v (.bool b)))) (if b then some (k + 1) else none) B E X' (a.put (some d) (.bool b)) W' hs fp -> StepY X X' B B (frO a hs fp mkp) (frO (a.put (some d) (.bool b)) hs fp mkp) hs hs W W' -> K (a.put (some d) (.bool b)) W') :
    wpOpIn (rF ro) 0 P ops Q i K a W := by
  obtain ⟨htr, hg⟩ := q1r7 htr
  have hw : Region.wanted o (yielded ops a.tmps) = true := by simp [Region.wanted, hg]
  unfold wpOpIn
  simp only [ho, hw, if_true]
  have ev := y.g.ev f
  rw [hf] at ev
  have ev := ev.v_inv
  have hroot := y.g.root q
  rw [hr] at hroot
  obtain ⟨v, hv, how, _⟩ := hroot
  have ex := y.g.ev x
  rw [hx] at ex
  have ex := ex.own_inv
  rw [hv] at ex
  have ex : v = a.eval x := Option.some.inj ex
  have hrd : Rd W (fun c => ¬ B c) t.toSh v := (how.noSh hn (O' := fun c => ¬ B c)).toSh (fun c h1 _ => h1) fun c hc h => h (y.ob c (.inl ⟨q, hc⟩))
  · obtain ⟨fn, tm, as, bd, hyl, hrnd⟩ := hJ.yield y.j hk y.bx hrd
    rw [ex] at hyl
    have hrun := q1o5 (ρ := a.eval) htr ev hyl
    unfold Oper.wpIn
    refine ⟨fun f' _ => q0ou ro f', ?_⟩
    rw [Oper.semAt_eq _ _ _ (q081 hdf), hrun, Oper.uponIn_round]
    refine ⟨q0ot, ?_⟩
    have hro : RoundIn (rF ro) (0 - 1) P l fn tm as bd W fun e W' => ∃ b X', e = .returned (.bool b) /\ J B X' (if b then some (k + 1) else none) W' /\ Moves X X' W W' := by
      cases ro with
      | none => exact hrnd
      | some l' => exact ⟨hrnd.1, fun c cs hroom => hrnd.2 c cs hroom⟩
    refine hro.mono ?_
    rintro e W' ⟨b, X', rfl, hj, hm⟩
    obtain ⟨y', s'⟩ := y.moved hm hj
    have hdst := (q1r8 htr).1
    rw [hdst]
    refine hK b X' W' ⟨?_, y'.j, y'.eb, y'.bx, y'.ob⟩ s'
    exact y'.g.put hd (.t (.v _))
end
end Go.Ab

/- The abstract layer, part 45: regions that call yield. -/
namespace Go.Ab
section
variable {P : Program} {n : Nat} {J : JT} {mkp : Prop} {S : St} {m : Option Nat} {B E X : Nat -> Prop} {a : Act} {W : World} {hs : Nat -> Option Value} {fp : Nat -> List Nat} {l : Nat} {ys : List T}

theorem q1m2 {F : Fence} {k : Nat} {o : Oper} {a : Act} {w : World} {K : Act -> World -> Prop} {Q Q' : Exit -> Act -> World -> Prop} (hq : ∀ c a w, Q (.panic c) a w -> Q' (.panic c) a w) (hl : LetsOut Q -> LetsOut Q') (hh : o.wpIn F k P a w K Q) : o.wpIn F k P a w K Q' := by
  unfold Oper.wpIn at *
  refine ⟨hh.1, ?_⟩
  have hh := hh.2
  generalize (o.semAt F.round a.eval).run P w = r at *
  cases r with
  | ok x w' =>
    cases x <;> simp only [Oper.uponIn] at hh ⊢ <;>
      first
        | exact hh
        | exact ⟨hh.1, CallsIn.mono hh.2 (fun e w'' he => by cases e <;> first | exact hq _ _ _ he | exact hl he | exact he)⟩
        | exact ⟨hh.1, RoundIn.mono hh.2 (fun e w'' he => by cases e <;> first | exact hq _ _ _ he | exact hl he | exact he)⟩
  | halt x w' => cases x <;> simp only [Oper.uponIn] at hh ⊢ <;> first | exact hq _ _ _ hh | exact hh
theorem q1mt {X : Nat -> Prop} {w0 : World} {O0 : Fr} {ops : Array Oper} {i : Nat} {o : Oper} {ci : CI} {Kc : St -> Prop} {ro : Option Nat} {Q : Exit -> Act -> World -> Prop} {K : Act -> World -> Prop} (ho : ops[i]? = some o) (hc : trI P n ops o = some ci) (hdf : dfr o.op = false) (hW : opsW P n [ci] Kc S) (g : Good X w0 O0 n S a W hs fp)
    (hK : ∀ S' a' W' hs' fp', Good X w0 O0 n S' a' W' hs' fp' -> Kc S' -> K a' W') : wpOpIn (rF ro) 0 P ops Q i K a W := by
  have h := q0g7 (Q := fun _ _ _ => False) ho hc hW g
  unfold wpOp at h
  unfold wpOpIn
  simp only [ho] at h ⊢
  split at h
  · rename_i hw
    rw [if_pos hw]
    rcases h with h | ⟨_, _, _, h⟩
    · exact Oper.wpIn_mono (fun a' w' ⟨S', hs', fp', g', k'⟩ => hK S' a' w' hs' fp' g' k') (q1m2 (fun _ _ _ h => h.elim) (fun ⟨_, _, h⟩ => h.elim) (q0nd (q081 hdf) h))
    · exact h.elim
  · rename_i hw
    rw [if_neg hw]
    obtain ⟨S', hs', fp', g', k'⟩ := h
    exact ⟨fun f _ => q0ou ro f, hK S' _ _ hs' fp' g' k'⟩

theorem q1ma {c : CI} {cl : List CI} {K : St -> Prop} {S : St} (h : opsW P n (c :: cl) K S) : opsW P n [c] (opsW P n cl K) S := by
  cases c <;> exact h
theorem opsY {X : Nat -> Prop} {w0 : World} {O0 : Fr} {ops : Array Oper} {ro : Option Nat} {Q : Exit -> Act -> World -> Prop} {K : St -> Prop} {rest : List Nat} : ∀ (cl : List CI) (k : Nat) (S : St) (a : Act) (W : World) (hs : Nat -> Option Value) (fp : Nat -> List Nat),
    (∀ i (h : i < cl.length), ∃ o, ops[k + i]? = some o /\ trI P n ops o = some cl[i] /\ dfr o.op = false) -> opsW P n cl K S -> Good X w0 O0 n S a W hs fp -> (∀ S' a' W' hs' fp', Good X w0 O0 n S' a' W' hs' fp' -> K S' -> wpOpsIn (rF ro) 0 P ops Q rest a' W') →
    wpOpsIn (rF ro) 0 P ops Q (List.range' k cl.length ++ rest) a W
  | [], k, S, a, W, hs, fp, _, hW, g, hK => hK S a W hs fp g hW
  | c :: cl, k, S, a, W, hs, fp, ht, hW, g, hK => by
    obtain ⟨o, ho, htr, hdf⟩ := ht 0 (by simp)
    rw [List.length_cons, List.range'_succ, List.cons_append, wpOpsIn_cons]
    refine q1mt ho htr hdf (q1ma hW) g fun S' a' W' hs' fp' g' k' => ?_
    refine opsY cl (k + 1) S' a' W' hs' fp' (fun i h => ?_) k' g' hK
    have := ht (i + 1) (by simpa using h)
    rw [show k + 1 + i = k + (i + 1) by omega]
    exact this

def q1rv (n l : Nat) (ys : List T) (f x : Operand) (d : Nat) (m : Option Nat) (R : Bool -> Option Nat -> St -> Prop) (S1 : St) : Prop :=
  ∃ q t k, S1.ev f = .t (.v (.func (.yield l) #[] #[])) /\ S1.ev x = .own q /\ S1.roots q = .live t [] /\ t.noSh /\ m = some k /\ ys[k]? = some t.toSh /\ d < n /\ ∀ b : Bool, R b (if b then some (k + 1) else none) (S1.put d (.t (.v (.bool b))))

theorem q1ra {ops : Array Oper} {cl : List CI} (h : trR P n ops ops.toList = some cl) : ops.size = cl.length /\ ∀ i (h : i < cl.length), ∃ o, ops[i]? = some o /\ trI P n ops o = some cl[i] /\ dfr o.op = false := by
  obtain ⟨hl, hg⟩ := q0vy h
  have hd := q0vx h
  refine ⟨by rw [hl]; simp, fun i hi => ⟨ops.toList[i], ?_, hg i (by omega) hi, hd _ (List.getElem_mem _)⟩⟩
  rw [← Array.getElem?_toList]; exact List.getElem?_eq_getElem (by omega)

theorem q1rx (hJ : Cl P l ys J) {ops : Array Oper} {k d : Nat} {f x : Operand} {post : List CI} {ro : Option Nat} {Q : Exit -> St -> Option Nat -> Prop} {S : St} {a : Act} {W : World} {hs : Nat -> Option Value} {fp : Nat -> List Nat} {B E X : Nat -> Prop}
    {Qf : Exit -> Act -> World -> Prop} (hQf : ∀ S' m' B' X' a' W' hs' fp', YOK J mkp n S' m' B' E X' a' W' hs' fp' -> StepY X X' B B' (frO a hs fp mkp) (frO a' hs' fp' mkp) hs hs' W W' -> Q .normal S' m' -> Qf .normal a' W')
    (hk : ∃ o, ops[k]? = some o /\ trI P n ops o = some (.o (.call (some d) f [x])) /\ dfr o.op = false) (hpost : ∀ i (h : i < post.length), ∃ o, ops[k + 1 + i]? = some o /\ trI P n ops o = some post[i] /\ dfr o.op = false)
    (h : q1rv n l ys f x d m (fun _ m' S2 => opsW P n post (fun S3 => Q .normal S3 m') S2) S) (y : YOK J mkp n S m B E X a W hs fp) :
    wpOpsIn (rF ro) 0 P ops Qf (k :: List.range' (k + 1) post.length) a W := by
  obtain ⟨o, ho, htr, hdf⟩ := hk
  obtain ⟨q, t, kk, hf, hx, hr, hns, rfl, hys, hd, hb⟩ := h
  rw [wpOpsIn_cons]
  refine q1ru hJ ho htr hdf y hf hx hr hns hys hd fun b X' W' y' s' => ?_
  have := opsY (P := P) (n := n) (ops := ops) (ro := ro) (Q := Qf) (rest := []) post (k + 1) _ _ _ _ _ hpost (hb b) y'.g fun S3 a3 W3 hs3 fp3 g3 hq => by
    obtain ⟨B3, y3, s3⟩ := y'.next hJ g3
    exact hQf _ _ _ _ _ _ _ _ y3 (s'.trans s3) hq
  simpa using this

theorem q19l.yreg (hJ : Cl P l ys J) {pre post : List CI} {d : Nat} {f x : Operand} {Q : Exit -> St -> Option Nat -> Prop} (h : opsW P n pre (q1rv n l ys f x d m fun _ m' S2 => opsW P n post (fun S3 => Q .normal S3 m') S2) S) : q19l P n J mkp (.reg (pre ++ .o (.call (some d) f [x]) :: post)) Q S m := fun H code hc _ => by
  obtain ⟨id, ops, rfl, hops⟩ := q1r3 hc
  obtain ⟨hsz, hat⟩ := q1ra hops
  intro B E X a W hs fp y ro hro _
  refine wpIn_region ?_
  have hlen : (pre ++ CI.o (.call (some d) f [x]) :: post).length = pre.length + 1 + post.length := by simp; omega
  rw [hsz, hlen, List.range_eq_range', show List.range' 0 (pre.length + 1 + post.length) = List.range' 0 pre.length ++ pre.length :: List.range' (pre.length + 1) post.length by
    rw [show pre.length + 1 + post.length = pre.length + (post.length + 1) by omega, ← List.range'_append_1, List.range'_succ]; simp]
  refine opsY pre 0 S a W hs fp (fun i h => ?_) h y.g fun S1 a1 W1 hs1 fp1 g1 hy => ?_
  · obtain ⟨o, h1, h2, h3⟩ := hat i (by rw [hlen]; omega)
    rw [List.getElem_append_left h] at h2
    exact ⟨o, by rw [Nat.zero_add]; exact h1, h2, h3⟩
  · obtain ⟨B1, y1, s1⟩ := y.next hJ g1
    refine q1rx hJ (Q := Q) (fun S' m' B' X' a' W' hs' fp' y' s' q => ⟨S', m', B', X', hs', fp', y', s1.trans s', q⟩) ?_ (fun i h => ?_) hy y1
    · obtain ⟨o, h1, h2, h3⟩ := hat pre.length (by rw [hlen]; omega)
      refine ⟨o, h1, ?_, h3⟩
      rw [h2, List.getElem_append_right (Nat.le_refl _)]; simp
    · obtain ⟨o, h1, h2, h3⟩ := hat (pre.length + 1 + i) (by rw [hlen]; omega)
      refine ⟨o, h1, ?_, h3⟩
      rw [h2, List.getElem_append_right (by omega)]
      simp only [show pre.length + 1 + i - pre.length = i + 1 by omega, List.getElem_cons_succ]
end
end Go.Ab

/- The abstract layer, part 46: regions that draw their order and end by a call of yield. -/
namespace Go.Ab
section
variable {P : Program} {n : Nat} {J : JT} {mkp : Prop} {S : St} {m : Option Nat} {w0 : World} {O0 : Fr} {X : Nat -> Prop} {ys : List T}

theorem q19v {ds : List Nat} {ops : Array Oper} {l : List (DK × CI)} {afl afp anc : List (List Nat)} {ro : Option Nat} (F : DrawFacts ds l afp anc) (haf : afl = afOf ops) (hafp : ∀ i, i < l.length -> afp.getD i [] = afl.getD i []) (hafn : ∀ i, l.length <= i -> afp.getD i [] = [])
    (hsz : l.length <= ops.size) (htr : ∀ i (h : i < l.length), ∃ o, ops[i]? = some o /\ trI P n ops o = some l[i].2 /\ dfr o.op = false)
    (htail : ∀ (D : Nat -> Prop), closed afl D -> ∀ i, l.length <= i -> i < ops.size -> (∀ j ∈ afl.getD i [], D j) -> ∀ j, j < l.length -> D j)
    {v : Nat -> A} {Dl : Nat -> List (Nat × Root)} {R0 : Nat -> Root} {e0 : Nat -> A} (hloc : ∀ i (h : i < l.length), LocAt P n l[i].1 l[i].2 ⟨q08c l v e0 i, rtA Dl R0 i⟩ (v i) (Dl i)) (C : Chg l Dl R0)
    {Q : Exit -> Act -> World -> Prop} {tail : Nat} (hQ : ∀ S a w hs fp, Good X w0 O0 n S a w hs fp -> S = ⟨q08c l v e0 l.length, rtA Dl R0 l.length⟩ -> ∀ (fuel : Nat) (listed : Array Bool), tail <= fuel -> listed.size = ops.size -> (∀ j, j < l.length -> listed.getD j false = true) -> (∀ j, l.length <= j -> j < ops.size -> listed.getD j false = false) -> wpAnyIn (rF ro) 0 P .any ops Q fuel listed a w) :
    ∀ (fuel : Nat) (listed : Array Bool) (S : St) (a : Act) (w : World) (hs : Nat -> Option Value) (fp : Nat -> List Nat), Good X w0 O0 n S a w hs fp -> listed.size = ops.size -> ((List.range l.length).filter fun j => !listed.getD j false).length + tail <= fuel -> (∀ j, l.length <= j -> j < ops.size -> listed.getD j false = false) →
      closed afl (fun j => listed.getD j false = true) -> AtD l v Dl R0 e0 (fun j => listed.getD j false) S -> wpAnyIn (rF ro) 0 P .any ops Q fuel listed a w := by
  have gt : ∀ {listed : Array Bool} {j : Nat}, listed.size = ops.size -> j < ops.size -> (listed.getD j true = false ↔ ¬ listed.getD j false = true) := fun {listed j} h1 h2 => by
    have : j < listed.size := by omega
    simp [this]
  have haff : ∀ i o, ops[i]? = some o -> ∀ j, j ∈ afl.getD i [] ↔ ∃ e ∈ o.after, Region.binds .any e = true /\ e.on = j := by
    intro i o ho j
    have : (afOf ops).getD i [] = (o.after.toList.filter (Region.binds .any)).map (·.on) := by
      rw [afOf, List.getD_eq_getElem?_getD, List.getElem?_map]
      have : ops.toList[i]? = some o := by simpa using ho
      rw [this]; rfl
    rw [haf, this, List.mem_map]
    constructor
    · rintro ⟨e, he, rfl⟩
      obtain ⟨h1, h2⟩ := List.mem_filter.1 he
      exact ⟨e, by simpa using h1, h2, rfl⟩
    · rintro ⟨e, he, hb, rfl⟩
      exact ⟨e, List.mem_filter.2 ⟨by simpa using he, hb⟩, rfl⟩
  have fin : ∀ (fuel : Nat) (listed : Array Bool) (S : St) (a : Act) (w : World) (hs : Nat -> Option Value) (fp : Nat -> List Nat), Good X w0 O0 n S a w hs fp -> tail <= fuel -> listed.size = ops.size -> AtD l v Dl R0 e0 (fun j => listed.getD j false) S -> (∀ j, l.length <= j -> j < ops.size -> listed.getD j false = false) -> (∀ j, j < l.length -> listed.getD j false = true) -> wpAnyIn (rF ro) 0 P .any ops Q fuel listed a w := by
    intro fuel listed S a w hs fp g hfu hls hAt hno hall
    refine hQ S a w hs fp g ?_ fuel listed hfu hls hall hno
    obtain ⟨hE, hR⟩ := hAt
    have h1 : S.roots = rtA Dl R0 l.length := by
      rw [hR]
      have : ∀ k, k <= l.length -> rtD Dl R0 (fun j => listed.getD j false) k = rtA Dl R0 k := by
        intro k
        induction k with
        | zero => intro _; rfl
        | succ k ih =>
          intro hk
          show (if listed.getD k false = true then apR (Dl k) _ else _) = _
          rw [if_pos (hall k (by omega)), ih (by omega), q0qg]
      exact this _ (Nat.le_refl _)
    have h2 : S.env = q08c l v e0 l.length := by
      funext s
      obtain ⟨ha, hb⟩ := q08e (v := v) (e0 := e0) F.dst s l.length (Nat.le_refl _)
      by_cases hex : ∃ j, j < l.length /\ q08b l j = some s
      · obtain ⟨j, hj, hjs⟩ := hex
        rw [ha j hj hjs, (hE s).1 j hj (hall j hj) hjs]
      · rw [hb fun j hj hjs => hex ⟨j, hj, hjs⟩, (hE s).2 fun j hj _ hjs => hex ⟨j, hj, hjs⟩]
    rw [← h1, ← h2]
  have closedP : ∀ {D : Nat -> Prop}, closed afl D -> closed afp D := fun {D} h i hi j hj => by
    rcases Nat.lt_or_ge i l.length with h1 | h1
    · rw [hafp i h1] at hj; exact h i hi j hj
    · rw [hafn i h1] at hj; simp at hj
  intro fuel
  induction fuel with
  | zero =>
    intro listed S a w hs fp g hls hcnt hno hcl hAt
    have hall : ∀ j, j < l.length -> listed.getD j false = true := fun j hj => by
      have h0 := List.eq_nil_of_length_eq_zero (show ((List.range l.length).filter fun j => !listed.getD j false).length = 0 by omega)
      have := List.filter_eq_nil_iff.1 h0 j (List.mem_range.2 hj)
      simpa using this
    exact fin 0 listed S a w hs fp g (by omega) hls hAt hno hall
  | succ fuel ih =>
    intro listed S a w hs fp g hls hcnt hno hcl hAt
    by_cases hall : ∀ j, j < l.length -> listed.getD j false = true
    · exact fin _ listed S a w hs fp g (by omega) hls hAt hno hall
    · have hne : ∀ (listed : Array Bool), listed.size = ops.size -> closed afl (fun j => listed.getD j false = true) -> (¬ ∀ j, j < l.length -> listed.getD j false = true) -> Region.ready .any ops listed ≠ [] := by
        intro listed hls hcl hnall hr
        refine hnall fun j => ?_
        induction j using Nat.strongRecOn with
        | _ j ihj =>
          intro hj
          refine Decidable.byContradiction fun hn => ?_
          obtain ⟨o, ho, _⟩ := htr j hj
          have : j ∈ Region.ready .any ops listed := by
            refine mem_ready.2 ⟨(gt hls (by omega)).2 hn, o, ho, fun e he hb => ?_⟩
            have hmem := (haff j o ho e.on).2 ⟨e, he, hb, rfl⟩
            rw [← hafp j hj] at hmem
            have hlt := F.fwd j hj _ hmem
            exact ihj _ hlt (by omega)
          rw [hr] at this
          cases this
      refine ⟨fun hr => (hne listed hls hcl hall hr).elim, fun i hi => ?_⟩
      obtain ⟨hun, o, ho, hready⟩ := mem_ready.1 hi
      have hiO : i < ops.size := (Array.getElem?_eq_some_iff.1 ho).1
      have hafi : ∀ j ∈ afl.getD i [], listed.getD j false = true := fun j hj => by
        obtain ⟨e, he, hb, rfl⟩ := (haff i o ho j).1 hj
        exact hready e he hb
      have hil : i < l.length := by
        refine Decidable.byContradiction fun hn => hall ?_
        exact htail _ hcl i (by omega) hiO hafi
      have hDi := (gt hls hiO).1 hun
      have hord := q0nj (D := fun j => listed.getD j false) F (closedP hcl) hil hDi (fun j hj => hafi j (by rw [← hafp i hil]; exact hj))
      obtain ⟨h1, h2, h4, h3⟩ := hAt.step C hil (F.self i hil) hDi hord
      obtain ⟨o', ho', htri, hdf⟩ := htr i hil
      rw [ho] at ho'; cases ho'
      have hgi : l[i]? = some l[i] := List.getElem?_eq_getElem hil
      have hrd : rdAt l i = l[i].2.reads := by simp [rdAt, hgi]
      have hka : kAt l i = l[i].1 := by simp [kAt, hgi]
      have hda : q08b l i = l[i].2.dst := by simp [q08b, hgi]
      rw [hrd] at h1; rw [hka] at h2 h4; rw [hda] at h3
      have hW := (hloc i hil).run S.env S.roots (fun S' => S' = ⟨putE S.env l[i].2.dst (v i), apR (Dl i) S.roots⟩) h1 h2 h4 rfl
      refine q1mt (Q := Q) ho htri hdf (show opsW P n [l[i].2] _ S from hW) g fun S' a' w' hs' fp' g' hS' => ?_
      subst hS'
      have hset : ∀ j, (listed.setIfInBounds i true).getD j false = true ↔ (listed.getD j false = true ∨ j = i) := fun j => by
        by_cases hji : j = i
        · subst hji; simp [show j < listed.size by omega]
        · rw [getD_set_ne false (Ne.symm hji)]; simp [hji]
      refine ih _ _ a' w' hs' fp' g' (by simp [hls]) ?_ ?_ ?_ ?_
      · have e : ((List.range l.length).filter fun j => !(listed.setIfInBounds i true).getD j false) = ((List.range l.length).filter fun j => !listed.getD j false).filter fun j => j != i := by
          rw [List.filter_filter]
          refine List.filter_congr fun j _ => ?_
          by_cases hji : j = i
          · subst hji; have := (hset j).2 (.inr rfl); rw [this]; simp
          · rw [getD_set_ne false (Ne.symm hji)]; simp [hji]
        rw [e]
        have : (((List.range l.length).filter fun j => !listed.getD j false).filter fun j => j != i).length < ((List.range l.length).filter fun j => !listed.getD j false).length := by
          rw [List.length_filter_lt_length_iff_exists]
          exact ⟨i, List.mem_filter.2 ⟨List.mem_range.2 hil, by simpa using hDi⟩, by simp⟩
        omega
      · intro j h5 h6
        rw [getD_set_ne false (by omega)]; exact hno j h5 h6
      · intro j hj k hk
        refine (hset k).2 (.inl ?_)
        rcases (hset j).1 hj with h | rfl
        · exact hcl j h k hk
        · exact hafi k hk
      · have e : (fun j => (listed.setIfInBounds i true).getD j false) = fun j => listed.getD j false || j == i := by
          funext j
          have := hset j
          by_cases hji : j = i
          · subst hji; simp [show j < listed.size by omega]
          · rw [getD_set_ne false (Ne.symm hji)]; simp [hji]
        rw [e]; exact h3
end
end Go.Ab

/- The abstract layer, part 47: the rule for a drawn region that ends by a call of yield. -/
namespace Go.Ab
theorem DrawFacts.pfx {ds : List Nat} {l tl : List (DK × CI)} {af anc : List (List Nat)} (F : DrawFacts ds (l ++ tl) af anc) : DrawFacts ds l (af.take l.length) anc := by
  have hg : ∀ i, i < l.length -> (l ++ tl)[i]? = l[i]? := fun i h => List.getElem?_append_left h
  have hr : ∀ i, i < l.length -> rdAt (l ++ tl) i = rdAt l i := fun i h => by simp only [rdAt, hg i h]
  have hd : ∀ i, i < l.length -> q08b (l ++ tl) i = q08b l i := fun i h => by simp only [q08b, hg i h]
  have hk : ∀ i, i < l.length -> kAt (l ++ tl) i = kAt l i := fun i h => by simp only [kAt, hg i h]
  have ha : ∀ i, i < l.length -> (af.take l.length).getD i [] = af.getD i [] := fun i h => by
    rw [List.getD_eq_getElem?_getD, List.getD_eq_getElem?_getD, List.getElem?_take, if_pos h]
  have hlt : ∀ {i}, i < l.length -> i < (l ++ tl).length := fun h => by rw [List.length_append]; omega
  have hp : ∀ i j, i < l.length -> j < l.length -> q0nm (l ++ tl) i j = q0nm l i j := fun i j h h' => by
    simp only [q0nm, hk i h, hk j h', hd i h, hd j h', hr i h, hr j h']
  refine ⟨?_, fun i j h h' hne s hs => ?_, fun i h j hj => ?_, fun i h => F.afwd i (hlt h), fun i h j hj => ?_, fun p hp => F.item p (List.mem_append_left _ hp), fun i h s hs => ?_, fun i j h h' hne => ?_, fun i h hc d hdd => ?_, fun i h hc d hdd => ?_⟩
  · rw [List.length_take, F.afl, List.length_append]; omega
  · rw [← hd i h] at hs; rw [← hd j h']; exact F.dst i j (hlt h) (hlt h') hne s hs
  · rw [ha i h] at hj; exact F.fwd i (hlt h) j hj
  · rw [ha i h]; exact F.ancs i (hlt h) j hj
  · rw [← hr i h] at hs; rw [← hd i h]; exact F.self i (hlt h) s hs
  · have := F.ind i j (hlt h) (hlt h') hne
    rw [hr i h, hd j h', hp j i h' h, hp i j h h'] at this
    exact this
  · rw [← hk i h] at hc; rw [← hd i h] at hdd; exact F.small i (hlt h) hc d hdd
  · rw [← hk i h] at hc; rw [← hd i h] at hdd; exact F.makers i (hlt h) hc d hdd
section
variable {P : Program} {n : Nat} {J : JT} {mkp : Prop} {S : St} {m : Option Nat} {lY : Nat} {ys : List T}
theorem q1d5 {ds : List Nat} {l : List (DK × CI)} {af anc : List (List Nat)} (F : DrawFacts ds l af anc) {v : Nat -> A} {Dl : Nat -> List (Nat × Root)} (h2 : ∀ i (h : i < l.length), LocAt P n l[i].1 l[i].2 ⟨q08c l v S.env i, rtA Dl S.roots i⟩ (v i) (Dl i)) (hds : q0ji ds S.roots = S.roots) : Chg l Dl S.roots := by
  have hk : ∀ {i} (hi : i < l.length), kAt l i = l[i].1 := fun {i} hi => by simp [kAt, List.getElem?_eq_getElem hi]
  have hd : ∀ {i} (hi : i < l.length), q08b l i = l[i].2.dst := fun {i} hi => by simp [q08b, List.getElem?_eq_getElem hi]
  exact ⟨fun i hi r hr => by rw [hk hi, hd hi]; exact (h2 i hi).keys r hr, fun i hi hr => (h2 i hi).isR (by rw [← hk hi]; exact hr), fun i hi hr r hkr => by rw [hd hi]; exact (h2 i hi).isC (by rw [← hk hi]; exact hr) r hkr, fun i hi W m hW r hkr => by rw [hd hi]; exact (h2 i hi).isH W m (by rw [← hk hi]; exact hW) r hkr,
    F.dst, F.small, fun i hi hc d hdd r hr => by rw [← hds]; exact q0jk (F.makers i hi hc d hdd) hr,
    fun i hi => by
      rw [hk hi, hd hi]
      have := F.item l[i] (List.getElem_mem hi)
      revert this
      rcases l[i] with ⟨k, c⟩
      cases c <;> simp only [q0g6, Bool.and_eq_true, beq_iff_eq, CI.dst] <;> intro h
      · exact h.2
      · rw [h.2]; exact h.1.2⟩

theorem SemY.ydraw (hJ : Cl P lY ys J) {H : Hints} {id : Nat} {ops : Array Oper} {ds : List Nat} {l : List (DK × CI)} {k1 k2 : DK} {d : Nat} {f x : Operand} {c2 : CI} {Q : Exit -> St -> Option Nat -> Prop} (hdr : q0vt P n H id ops = some (ds, l ++ [(k1, .o (.call (some d) f [x])), (k2, c2)])) (hchk : ychk (.region id ops true) = true)
    (hds : q0ji ds S.roots = S.roots) (h : q085 P n l (q1rv n lY ys f x d m fun _ m' S2 => opsW P n [c2] (fun S3 => Q .normal S3 m') S2) S) : SemY P n J mkp (.region id ops true) Q S m := by
  unfold q0vt at hdr
  split at hdr <;> (try split at hdr) <;> (try cases hdr)
  rename_i l' hl hcond
  obtain ⟨hm, hlen, hok⟩ := hcond
  obtain ⟨h1, h2⟩ := q0vy hl
  have hdf := q0vx hl
  simp only [Option.some.injEq] at hdr
  have hd2 : (q084 P n H id ops l').2 = l ++ [(k1, CI.o (.call (some d) f [x])), (k2, c2)] := by rw [hdr]
  have hd1 : (q084 P n H id ops l').1 = ds := by rw [hdr]
  have hci : ∀ i (hi : i < l'.length), ∃ hi' : i < (l ++ [(k1, CI.o (.call (some d) f [x])), (k2, c2)]).length, (l ++ [(k1, CI.o (.call (some d) f [x])), (k2, c2)])[i].2 = l'[i] := fun i hi => by
    have e : i < (q084 P n H id ops l').2.length := by omega
    refine ⟨by rw [← hd2]; exact e, ?_⟩
    simp only [← hd2]
    simp [q084]
  rw [hd1, hd2] at hok
  have F := q083 hok
  rw [hd2] at hlen
  have hlen2 : l'.length = l.length + 2 := by rw [← hlen]; simp
  have hsz : ops.size = l.length + 2 := by rw [← hlen2, h1]; simp
  have hat : ∀ i (hi : i < l.length + 2), ∃ o, ops[i]? = some o /\ (∃ c, (l ++ [(k1, CI.o (.call (some d) f [x])), (k2, c2)])[i]? = some c /\ trI P n ops o = some c.2) /\ dfr o.op = false := fun i hi => by
    have hi' : i < ops.toList.length := by simp; omega
    obtain ⟨h3, h4⟩ := hci i (by omega)
    refine ⟨ops.toList[i], by rw [← Array.getElem?_toList]; exact List.getElem?_eq_getElem hi', ⟨_, List.getElem?_eq_getElem h3, ?_⟩, hdf _ (List.getElem_mem _)⟩
    rw [h2 i hi' (by omega), h4]
  have hk : ∃ o, ops[l.length]? = some o /\ trI P n ops o = some (.o (.call (some d) f [x])) /\ dfr o.op = false := by
    obtain ⟨o, h3, ⟨c, h4, h5⟩, h6⟩ := hat l.length (by omega)
    rw [List.getElem?_append_right (Nat.le_refl _), Nat.sub_self] at h4
    simp only [List.getElem?_cons_zero, Option.some.injEq] at h4
    rw [← h4] at h5
    exact ⟨o, h3, h5, h6⟩
  have hk2 : ∃ o, ops[l.length + 1]? = some o /\ trI P n ops o = some c2 /\ dfr o.op = false := by
    obtain ⟨o, h3, ⟨c, h4, h5⟩, h6⟩ := hat (l.length + 1) (by omega)
    rw [List.getElem?_append_right (by omega), show l.length + 1 - l.length = 1 by omega] at h4
    simp only [List.getElem?_cons_succ, List.getElem?_cons_zero, Option.some.injEq] at h4
    rw [← h4] at h5
    exact ⟨o, h3, h5, h6⟩
  -- what the check says
  have htl : q1qm ops = true := by
    have hy : q1jx ops = true := by
      obtain ⟨o, h3, h4, _⟩ := hk
      obtain ⟨h5, c, h6, h7, _⟩ := (fun h => q1r8 (q1r7 h).1) h4
      unfold q1jx
      rw [hsz, Nat.add_sub_cancel, h3]
      simp [h6, h7]
    simpa [ychk, hy] using hchk
  simp only [q1qm, Bool.and_eq_true, List.all_eq_true, List.mem_range, List.contains_iff_mem, hsz, Nat.add_sub_cancel] at htl
  obtain ⟨⟨_, t1⟩, t2⟩ := htl
  have FP := F.pfx
  have hfl : (l ++ [(k1, CI.o (.call (some d) f [x])), (k2, c2)]).length = l.length + 2 := by simp
  have hancK : ∀ (D : Nat -> Prop), closed (afOf ops) D -> (∀ j ∈ (afOf ops).getD l.length [], D j) -> ∀ j, j < l.length -> D j := fun D hD haf j hj =>
    q00x (m := l.length + 2) (fun i hi => F.fwd i (by rw [hfl]; exact hi)) (fun i hi => F.ancs i (by rw [hfl]; exact hi)) hD l.length (by omega) haf j (t1 j hj)
  obtain ⟨v, Dl, q2, q3⟩ := q087 l S FP.item h
  intro B E X a W hs fp y ro hro _
  refine wpIn_region_draw fun t => ?_
  simp only [Region.schedule, hm, Bool.true_or, if_true]
  refine wpAnyIn_sound ops.size t _ a _ ?_
  have hfalse : ∀ j, (Array.replicate ops.size false).getD j false = false := fun j => by
    by_cases hj : j < ops.size <;> simp [hj]
  have hno : ∀ j, ¬ (Array.replicate ops.size false).getD j false = true := fun j h => by rw [hfalse] at h; cases h
  refine q19v (afl := afOf ops) (afp := (afOf ops).take l.length) (tail := 2) FP rfl (fun i hi => by rw [List.getD_eq_getElem?_getD, List.getD_eq_getElem?_getD, List.getElem?_take, if_pos hi]) (fun i hi => by rw [List.getD_eq_getElem?_getD, List.getElem?_take, if_neg (by omega)]; rfl) (by omega) (fun i hi => ?_) (fun D hD i h3 h4 h5 => ?_) q2 (q1d5 FP q2 hds) ?_ _ _ S a _ hs fp (y.g.drawn _) (by simp) ?_ (fun j _ _ => hfalse j) (fun i hi => (hno i hi).elim) ⟨fun s => ⟨fun j _ hj _ => (hno j hj).elim, fun _ => rfl⟩, ?_⟩
  · obtain ⟨o, h3, ⟨c, h4, h5⟩, h6⟩ := hat i (by omega)
    rw [List.getElem?_append_left hi, List.getElem?_eq_getElem hi] at h4
    rw [← Option.some.inj h4] at h5
    exact ⟨o, h3, h5, h6⟩
  · rcases Nat.lt_or_ge l.length i with h6 | h6
    · have e : i = l.length + 1 := by omega
      subst e
      exact hancK D hD (hD _ (h5 _ t2))
    · have e : i = l.length := by omega
      subst e
      exact hancK D hD h5
  · -- behind the pfx
    intro S1 a1 W1 hs1 fp1 g1 hS1 fuel listed hfu hls hall hnl
    subst hS1
    obtain ⟨B1, y1, s1⟩ := y.next hJ g1
    obtain ⟨q, tt, kk, hf, hx, hr, hns, rfl, hys, hdn, hb⟩ := q3
    obtain ⟨fuel, rfl⟩ : ∃ fu, fuel = fu + 2 := ⟨fuel - 2, by omega⟩
    have haff : ∀ i o, ops[i]? = some o -> ∀ j, j ∈ (afOf ops).getD i [] ↔ ∃ e ∈ o.after, Region.binds .any e = true /\ e.on = j := by
      intro i o ho j
      have : (afOf ops).getD i [] = (o.after.toList.filter (Region.binds .any)).map (·.on) := by
        rw [afOf, List.getD_eq_getElem?_getD, List.getElem?_map]
        have : ops.toList[i]? = some o := by simpa using ho
        rw [this]; rfl
      rw [this, List.mem_map]
      constructor
      · rintro ⟨e, he, rfl⟩
        obtain ⟨h1, h2⟩ := List.mem_filter.1 he
        exact ⟨e, by simpa using h1, h2, rfl⟩
      · rintro ⟨e, he, hb, rfl⟩
        exact ⟨e, List.mem_filter.2 ⟨by simpa using he, hb⟩, rfl⟩
    have ready1 : ∀ i, i ∈ Region.ready .any ops listed ↔ i = l.length := fun i => by
      rw [mem_ready]
      constructor
      · rintro ⟨h3, o, h4, h5⟩
        have hi : i < ops.size := (Array.getElem?_eq_some_iff.1 h4).1
        rcases Nat.lt_trichotomy i l.length with h6 | h6 | h6
        · have := hall i h6
          simp [show i < listed.size by omega] at this h3
          rw [this] at h3; cases h3
        · exact h6
        · have e : i = l.length + 1 := by omega
          subst e
          obtain ⟨e, he, hbd, hon⟩ := (haff _ o h4 _).1 t2
          have := h5 e he hbd
          rw [hon, hnl l.length (Nat.le_refl _) (by omega)] at this; cases this
      · rintro rfl
        obtain ⟨o, h3, h4, h5⟩ := hk
        have hun : listed.getD l.length true = false := by
          have := hnl l.length (Nat.le_refl _) (by omega)
          simp [show l.length < listed.size by omega] at this ⊢; exact this
        refine ⟨hun, o, h3, fun e he hbd => hall _ (F.fwd l.length (by rw [hfl]; omega) _ ((haff _ o h3 _).2 ⟨e, he, hbd, rfl⟩))⟩
    refine ⟨fun hr0 => (by have := (ready1 l.length).2 rfl; rw [hr0] at this; cases this), fun i hi => ?_⟩
    obtain rfl := (ready1 i).1 hi
    obtain ⟨o, ho, htr, hdfo⟩ := hk
    refine q1ru hJ ho htr hdfo y1 hf hx hr hns hys hdn fun b X' W' y' s' => ?_
    have hl2 : ∀ j, (listed.setIfInBounds l.length true).getD j false = true ↔ (listed.getD j false = true ∨ j = l.length) := fun j => by
      by_cases hji : j = l.length
      · subst hji; simp [show l.length < listed.size by omega]
      · rw [getD_set_ne false (Ne.symm hji)]; simp [hji]
    obtain ⟨o2, ho2, htr2, hdf2⟩ := hk2
    have ready2 : ∀ i, i ∈ Region.ready .any ops (listed.setIfInBounds l.length true) ↔ i = l.length + 1 := fun i => by
      rw [mem_ready]
      constructor
      · rintro ⟨h3, o, h4, h5⟩
        have hi : i < ops.size := (Array.getElem?_eq_some_iff.1 h4).1
        rcases Nat.lt_or_ge i (l.length + 1) with h6 | h6
        · have : (listed.setIfInBounds l.length true).getD i false = true := (hl2 i).2 (by
            rcases Nat.lt_or_ge i l.length with h7 | h7
            · exact .inl (hall i h7)
            · exact .inr (by omega))
          simp [show i < listed.size by omega] at this h3
          rw [this] at h3; cases h3
        · omega
      · rintro rfl
        refine ⟨?_, o2, ho2, fun e he hbd => (hl2 _).2 ?_⟩
        · have := hnl (l.length + 1) (by omega) (by omega)
          rw [getD_set_ne true (by omega)]
          simp [show l.length + 1 < listed.size by omega] at this ⊢; exact this
        · have := F.fwd (l.length + 1) (by rw [hfl]; omega) _ ((haff _ o2 ho2 _).2 ⟨e, he, hbd, rfl⟩)
          rcases Nat.lt_or_ge e.on l.length with h7 | h7
          · exact .inl (hall _ h7)
          · exact .inr (by omega)
    refine ⟨fun hr0 => (by have := (ready2 (l.length + 1)).2 rfl; rw [hr0] at this; cases this), fun i hi => ?_⟩
    obtain rfl := (ready2 i).1 hi
    refine q1mt ho2 htr2 hdf2 (hb b) y'.g fun S3 a3 W3 hs3 fp3 g3 hq => ?_
    obtain ⟨B3, y3, s3⟩ := y'.next hJ g3
    refine wpAnyIn_done ?_ ⟨S3, _, B3, X', hs3, fp3, y3, s1.trans (s'.trans s3), hq⟩ fuel
    refine List.eq_nil_iff_forall_not_mem.2 fun j hj => ?_
    obtain ⟨h3, o4, h4, _⟩ := mem_ready.1 hj
    have hj2 : j < ops.size := (Array.getElem?_eq_some_iff.1 h4).1
    have : ((listed.setIfInBounds l.length true).setIfInBounds (l.length + 1) true).getD j false = true := by
      by_cases hji : j = l.length + 1
      · subst hji; simp [show l.length + 1 < listed.size by omega]
      · rw [getD_set_ne false (Ne.symm hji)]
        refine (hl2 j).2 ?_
        rcases Nat.lt_or_ge j l.length with h7 | h7
        · exact .inl (hall _ h7)
        · exact .inr (by omega)
    simp [show j < listed.size by omega] at this h3
    rw [this] at h3; cases h3
  · refine Nat.le_trans (Nat.add_le_add_right (Nat.le_trans (List.length_filter_le _ _) (by simp; exact Nat.le_refl _)) 2) (by omega)
  · have : ∀ k, rtD Dl S.roots (fun j => (Array.replicate ops.size false).getD j false) k = S.roots := by
      intro k
      induction k with
      | zero => rfl
      | succ k ih =>
        show (if (Array.replicate ops.size false).getD k false = true then apR (Dl k) _ else _) = _
        rw [if_neg (hno k), ih]
    exact (this _).symm
theorem q19l.ydraw (hJ : Cl P lY ys J) {ds : List Nat} {l : List (DK × CI)} {k1 k2 : DK} {d : Nat} {f x : Operand} {c2 : CI} {Q : Exit -> St -> Option Nat -> Prop} (hds : q0ji ds S.roots = S.roots) (h : q085 P n l (q1rv n lY ys f x d m fun _ m' S2 => opsW P n [c2] (fun S3 => Q .normal S3 m') S2) S) :
    q19l P n J mkp (.draw ds (l ++ [(k1, .o (.call (some d) f [x])), (k2, c2)])) Q S m := fun H code hc hchk => by
  obtain ⟨id, ops, H', rfl, hdr⟩ : ∃ id ops H', code = .region id ops true /\ q0vt P n H' id ops = some (ds, l ++ [(k1, .o (.call (some d) f [x])), (k2, c2)]) := by
    unfold trC at hc
    split at hc <;> (try split at hc) <;> (try split at hc) <;> (try (first | cases hc; done | skip))
    all_goals first
      | (simp only [Option.some.injEq, CC.draw.injEq] at hc
         obtain ⟨h1, h2⟩ := hc
         exact ⟨_, _, H, rfl, by rw [‹q0vt P n H _ _ = _›, ← h1, ← h2]⟩)
      | cases hc
  exact SemY.ydraw hJ hdr hchk hds h
end
end Go.Ab

/- The abstract layer, part 48: what is owed by an iterator, out of its code; ranges over such iterators. -/
namespace Go.Ab
section
variable {P : Program} {n : Nat} {H : Hints}
def q1jy (len : Nat) : Exit -> St -> Option Nat -> Prop
  | .normal, _, m => m = some len ∨ m = none
  | .ret, _, m => m = some len ∨ m = none
  | _, _, _ => False
theorem q19j.of {f : FuncId} {fn : Func} {code : Code} {c : CC} (hf : P.funcs[f]? = some fn) (hb : fn.body = some code) (hn : fn.ntmps = n) (hres : fn.results = #[]) (hc : trC P n H code = some c) (hchk : ychk code = true) {cap ys : List T} (hsm : n <= 100000) (hcn : cap.length < n)
    (body : ∀ (l : Nat) (J : JT), Cl P l ys J -> q19l P n J True c (q1jy ys.length) (St.of (enum 0 (A.v (.func (.yield l) #[] #[]) :: cap.map A.t)) []) (some 0)) : q19j P f cap ys := by
  intro X w capv hcl hX hcap l J hJ hj0
  have hbody := body l J hJ H code hc hchk
  generalize hyv : (Value.func (.yield l) #[] #[]) = yv at *
  let R : Ending -> World -> Prop := fun e W' => (∃ v, e = .returned v) /\ ∃ B X', J B X' (some ys.length) W' ∨ J B X' none W'
  have hend : ∀ (Ds : List Nat) (tm : Array Value) (B X' : Nat -> Prop) (W : World), Ds.Nodup -> (∀ D ∈ Ds, B D /\ W.heap[D]? = some (.deferred (some []))) -> (∀ c, B c -> ¬ X' c /\ c < W.heap.size) -> (J B X' (some ys.length) W ∨ J B X' none W) -> LeavesInM Fence.wide 0 P fn tm R (Ds.map fun D => { target := .collected D, args := #[] }) .returning W := by
    intro Ds
    induction Ds with
    | nil =>
      intro tm B X' W _ _ _ hj
      refine q0hw ⟨.tuple #[], ?_, ⟨_, rfl⟩, B, X', hj⟩
      unfold results
      rw [hres]
      simp [Sem.run_pure, Sem.run_bind]
    | cons D Ds ih =>
      intro tm B X' W hd hDs hbx hj
      obtain ⟨hDB, hD⟩ := hDs D (by simp)
      refine ⟨by simp, .inl ⟨D, W.putObj D (.deferred none), rfl, run_takeDeferred hD, ih tm B X' _ (List.nodup_cons.1 hd).2 (fun D' hD' => ?_) (fun c h => by simpa using hbx c h) ?_⟩⟩
      · have hne : D' ≠ D := fun e => (List.nodup_cons.1 hd).1 (e ▸ hD')
        exact ⟨(hDs D' (by simp [hD'])).1, by rw [World.putObj_heap_other hne]; exact (hDs D' (by simp [hD'])).2⟩
      · have hm : OwnMv B B W (W.putObj D (.deferred none)) := ⟨by simp, fun c _ h => World.putObj_heap_other fun e => h (e ▸ hDB), fun c h => .inl h, fun c h => by simpa using (hbx c h).2, rfl, rfl, rfl⟩
        exact hj.imp (fun h => hJ.own h (fun c h => (hbx c h).1) hm) fun h => hJ.own h (fun c h => (hbx c h).1) hm
  refine callsIn_wide.1 (callsIn_of_wp_marks (F := Fence.wide) (n := 0) hf hb trivial ?_)
  generalize hA : ({ tmps := #[yv] ++ capv.toArray ++ Array.replicate (fn.ntmps - (#[yv] ++ capv.toArray).size) Go.undef, defers := [] } : Act) = ac
  have hsize : ac.tmps.size = n := by rw [← hA]; simp; omega
  have hA0 : ac.tmps.getD 0 Go.undef = yv := by rw [← hA]; simp [Array.getD_eq_getD_getElem?, Array.getElem?_append]
  have hAc : ∀ i, i < capv.length -> ac.tmps.getD (i + 1) Go.undef = capv.getD i Go.undef := fun i hi => by
    rw [← hA]
    simp [Array.getD_eq_getD_getElem?, List.getD_eq_getElem?_getD, Array.getElem?_append, hi]
  have hAd : ac.defers = [] := by rw [← hA]
  have g0 : Good (fun c => False ∨ X c) w (frO ac (fun _ => none) (fun _ => []) True) n (St.of (enum 0 (A.v yv :: cap.map A.t)) []) ac w (fun _ => none) (fun _ => []) := by
    have hm : Mem (fun c => False ∨ X c) w [] (fun _ => none) (fun _ => []) := ⟨fun i t h => by simp at h, fun r _ => ⟨rfl, rfl⟩, fun r r' b h => by simp at h, fun _ => List.nodup_nil, fun r b h => by simp at h, fun b h => hX b (h.elim False.elim id), fun r h hr => by cases hr⟩
    have := hm.good (n := n) (mkp := True) (tm := ac.tmps) (l := enum 0 (A.v yv :: cap.map A.t)) hsize hsm fun s hs => by
      obtain ⟨i, hi, rfl⟩ := q1l8 hs
      rw [Nat.zero_add]
      cases i with
      | zero =>
        show Is _ _ _ (A.v yv) (ac.tmps.getD 0 Go.undef)
        rw [hA0]; exact .t (.v _)
      | succ i =>
        have hi' : i < cap.length := by simpa using hi
        show Is _ _ _ ((A.v yv :: cap.map A.t)[i + 1]) (ac.tmps.getD (i + 1) Go.undef)
        rw [List.getElem_cons_succ, List.getElem_map, hAc i (by omega)]
        exact .t ((hcap i hi').mono (fun _ _ _ _ _ h => h) fun x hx _ h => by
          rcases h with h | ⟨r, h⟩
          · exact hx (h.elim False.elim id)
          · simp at h)
    have := this.rebase fun c h => absurd h (q1ky rfl c)
    rw [show ac = { tmps := ac.tmps, defers := [] } by rw [← hAd]]
    exact this
  have y0 : YOK J True n (St.of (enum 0 (A.v yv :: cap.map A.t)) []) (some 0) (fun _ => False) (fun _ => False) X ac w (fun _ => none) (fun _ => []) :=
    ⟨g0, hj0, fun c h => h, fun c h => h.elim, fun c h => by
      rcases h with ⟨j, h⟩ | h
      · simp at h
      · exact q1ky hAd c h⟩
  refine wpIn_mono (hbody _ _ X ac w _ _ y0 none (fun l' e => by cases e) (fun _ _ => trivial)) ?_
  rintro e a' W' ⟨S', m', B', X', hs', fp', y', _, q⟩
  obtain ⟨Ds, d1, d2, d3, _⟩ := y'.g.defers
  have hfin : (m' = some ys.length ∨ m' = none) -> LeavesInM Fence.wide 0 P fn a'.tmps R a'.defers .returning W' := fun hm => by
    rw [d2]
    refine hend Ds a'.tmps B' X' W' d1 (fun D hD => ⟨y'.ob D (.inr (by unfold q1kx; rw [d2]; exact List.mem_map.2 ⟨D, hD, rfl⟩)), (d3 D hD).2⟩) y'.bx ?_
    rcases hm with rfl | rfl
    · exact .inl y'.j
    · exact .inr y'.j
  cases e with
  | normal => exact hfin q
  | ret => exact hfin q
  | _ => exact q.elim
end
end Go.Ab

/- The abstract layer, part 49: ranges over iterators, in functions. -/
namespace Go.Ab
def rndE (Sm Sn : St) (NI : Prop) (srcs : List Nat) (k : Nat) (Q : Exit -> St -> Prop) : Exit -> St -> Prop
  | .normal, S' => q0pz S' k 1000000000 fun rout => T.noShL rout /\ NI /\ setS Sm srcs rout = Sn
  | .ret, S' => q0pz S' k 1000000000 fun rout => T.noShL rout /\ Q .ret (setS Sm srcs rout)
  | .exit id, S' => q0pz S' k 1000000000 fun rout => T.noShL rout /\ Q (.exit id) (setS Sm srcs rout)
  | _, _ => False
section
variable {P : Program} {w0 : World} {O0 : Fr} {n : Nat} {S : St} {a : Act} {W W' : World} {hs : Nat -> Option Value} {fp : Nat -> List Nat} {X : Nat -> Prop}

theorem Good.backW (g : Good X w0 O0 n S a W hs fp) {srcs : List Nat} {rin rout : List T} (hsn : srcs.Nodup) (hsrc : q0tg S srcs rin) (hrl : rout.length = rin.length)
    {fp' : Nat -> List Nat} {hsc : Nat -> Option Value} (hsz : W.heap.size <= W'.heap.size) (hkp : ∀ c, c < W.heap.size -> (∀ q ∈ srcs, c ∉ fp q) -> W'.heap[c]? = W.heap[c]?) (hos : W'.os = W.os) (htp : W'.tape = W.tape) (hou : W'.output = W.output)
    (hhc : ∀ i q, srcs[i]? = some q -> hsc (1000000000 + i) = hs q)
    (hroot : ∀ i t, rout[i]? = some t -> ∃ x, hsc (1000000000 + i) = some x /\ Ow W' (fun _ => False) t x (fp' (1000000000 + i)) /\ (t.rooty = true ∨ t = .any))
    (hdj : ∀ r r' b, b ∈ fp' r -> b ∈ fp' r' -> r = r') (hnd : ∀ r, (fp' r).Nodup) (hold : ∀ j b, b ∈ fp' j -> (∃ q, q ∈ srcs /\ b ∈ fp q) ∨ W.heap.size <= b) (hns : T.noShL rout) :
    ∃ fp'', Good X w0 O0 n (setS S srcs rout) a W' hs fp'' /\ ∀ r b, b ∈ fp'' r -> (∃ i, i < srcs.length /\ b ∈ fp' (1000000000 + i)) ∨ b ∈ fp r := by
  obtain ⟨hsrl, hsg⟩ := q0th hsrc
  let fp'' : Nat -> List Nat := fun r => match (srcs.zip (List.range srcs.length)).lookup r with | some i => fp' (1000000000 + i) | none => fp r
  have fpB : ∀ i (h : i < srcs.length), fp'' srcs[i] = fp' (1000000000 + i) := fun i h => by
    have h2 := q0iz (ks := srcs) (vs := List.range srcs.length) (by simp) hsn i h (by simpa using h)
    simp only [List.getElem_range] at h2
    simp only [fp'', h2]
  have fpC : ∀ r, r ∉ srcs -> fp'' r = fp r := fun r h2 => by simp only [fp'', q0j0 h2]
  have kinds : ∀ r, (∃ i, ∃ h : i < srcs.length, r = srcs[i]) ∨ r ∉ srcs := fun r => by
    by_cases h2 : r ∈ srcs
    · obtain ⟨i, hi, rfl⟩ := List.mem_iff_getElem.1 h2; exact .inl ⟨i, hi, rfl⟩
    · exact .inr h2
  have where_ : ∀ r b, b ∈ fp'' r -> (∃ i, ∃ h : i < srcs.length, r = srcs[i] /\ b ∈ fp' (1000000000 + i)) ∨ (r ∉ srcs /\ b ∈ fp r) := fun r b hb => by
    rcases kinds r with ⟨i, h, rfl⟩ | h2
    · rw [fpB i h] at hb; exact .inl ⟨i, h, rfl, hb⟩
    · rw [fpC r h2] at hb; exact .inr ⟨h2, hb⟩
  have hk : q009 (fun b => ¬ Ob X fp b) W W' := fun b cs e fz hn hb => by
    rw [hkp b (Array.getElem?_eq_some_iff.1 hb).1 fun q _ hq => hn (.inr ⟨q, hq⟩)]; exact hb
  have hkf : ∀ r, r ∉ srcs -> ∀ c ∈ fp r, W'.heap[c]? = W.heap[c]? := fun r hr c hc => hkp c (g.lt hc) fun q hq hcq => hr (by have := g.disj r q c hc hcq; exact this ▸ hq)
  have hO : ∀ b, ¬ Ob X fp b -> b < W.heap.size -> ¬ Ob X fp'' b := by
    rintro b h1 hlt (h | ⟨r, hr⟩)
    · exact h1 (.inl h)
    · rcases where_ r b hr with ⟨i, h, rfl, h2⟩ | ⟨h3, h4⟩
      · rcases hold _ b h2 with ⟨q, _, hq⟩ | h2
        · exact h1 (.inr ⟨q, hq⟩)
        · omega
      · exact h1 (.inr ⟨r, h4⟩)
  have apart : ∀ r b, r ∉ srcs -> b ∈ fp r -> ∀ j, b ∉ fp' j := fun r b hr hb j hj => by
    rcases hold j b hj with ⟨q, hq, hbq⟩ | h
    · have := g.disj r q b hb hbq; exact hr (this ▸ hq)
    · have := g.lt hb; omega
  refine ⟨fp'', ⟨g.size, g.defers.keep fun D _ hD => ?_, fun i => (g.env i).mono hk hO (fun _ _ h => h), fun r => ?_, fun r r' b hr hr' => ?_, fun r => ?_, fun r b hb => ?_, fun b h => Nat.lt_of_lt_of_le (g.xold b h) hsz, g.xout, fun r b hb => ?_, ⟨hos.trans g.hist.os, htp.trans g.hist.tape, hou.trans g.hist.output, Nat.le_trans g.hist.size hsz, fun b hb hn => ?_⟩, fun r t lk hr => ?_, g.hdr, g.small, g.pin⟩, fun r b hb => ?_⟩
  · rw [hkp D (Array.getElem?_eq_some_iff.1 hD).1 fun q _ hq => g.notMark hD q hq]; exact hD
  · show q00d _ _ _ (updS S.roots srcs rout r) _ _
    rcases q0wz (f := S.roots) (r := r) (show srcs.length = rout.length by omega) with ⟨i, hi, hi', rfl, h4⟩ | ⟨h3, h4⟩
    · rw [h4, fpB i hi]
      obtain ⟨x, hx, ho, hrt⟩ := hroot i _ (List.getElem?_eq_getElem hi')
      rw [hhc i _ (List.getElem?_eq_getElem hi)] at hx
      rcases hrt with hrt | hrt
      case inr =>
        rw [hrt] at ho ⊢
        show fp' (1000000000 + i) = []
        generalize fp' (1000000000 + i) = f at ho
        cases ho; rfl
      rw [q0pw hrt]
      exact ⟨x, hx, ho.noSh ((T.noShL_iff rout).1 hns _ (List.getElem_mem hi')), fun p hp => by simp at hp⟩
    · have hr2 : r ∉ srcs := fun hm => by
        obtain ⟨i, hi, rfl⟩ := List.mem_iff_getElem.1 hm
        exact h3 i hi rfl
      rw [h4, fpC r hr2]
      exact g.keepRoot r hk hO (fun _ _ h => h) rfl (hkf r hr2)
  · rcases where_ r b hr with ⟨i, h, rfl, h2⟩ | ⟨h2, h3⟩ <;> rcases where_ r' b hr' with ⟨j, h', rfl, h2'⟩ | ⟨h2', h3'⟩
    · have := hdj _ _ b h2 h2'
      have : i = j := by omega
      subst this; rfl
    · exact (apart r' b h2' h3' _ h2).elim
    · exact (apart r b h2 h3 _ h2').elim
    · exact g.disj r r' b h3 h3'
  · rcases kinds r with ⟨i, h, rfl⟩ | h2
    · rw [fpB i h]; exact hnd _
    · rw [fpC r h2]; exact g.nodup r
  · rcases where_ r b hb with ⟨i, h, rfl, h2⟩ | ⟨h2, h3⟩
    · rcases hold _ b h2 with ⟨q, _, hq⟩ | h4
      · exact g.foreign q b hq
      · intro hX; have := g.xold b hX; omega
    · exact g.foreign r b h3
  · rcases where_ r b hb with ⟨i, h, rfl, h2⟩ | ⟨h2, h3⟩
    · rcases hold _ b h2 with ⟨q, _, hq⟩ | h4
      · exact g.mine q b hq
      · exact .inr (Nat.le_trans g.hist.size h4)
    · exact g.mine r b h3
  · rw [hkp b (Nat.lt_of_lt_of_le hb g.hist.size) fun q _ hq => ?_]
    · exact g.hist.block b hb hn
    · rcases g.mine q b hq with h | h
      · exact hn h
      · omega
  · have hr : updS S.roots srcs rout r = .live t lk := hr
    rcases q0wz (f := S.roots) (r := r) (show srcs.length = rout.length by omega) with ⟨i, hi, hi', rfl, h4⟩ | ⟨h3, h4⟩
    · rw [h4] at hr
      obtain ⟨x, hx, ho, hrt⟩ := hroot i _ (List.getElem?_eq_getElem hi')
      rcases hrt with hrt | hrt
      · rw [q0pw hrt] at hr; cases hr; exact hrt
      · rw [hrt] at hr; cases hr
    · rw [h4] at hr; exact g.rooty r t lk hr
  · rcases where_ r b hb with ⟨i, h, rfl, h2⟩ | ⟨h2, h3⟩
    · exact .inl ⟨i, h, h2⟩
    · exact .inr h3

theorem q1ny {XP B : Nat -> Prop} {Sm Sn : St} (gW : Good (fun c => XP c ∨ B c) w0 O0 n Sm a W hs fp) {l : Nat} {rec : Loop} (hl : W.heap[l]? = some (.loop rec)) (hready : rec.state = .ready) (hpend : rec.pending = none)
    (hl0 : w0.heap.size <= l) (hXl : XP l) (hBX : ∀ c, B c -> ¬ XP c) {fn : FuncId} {srcs bor : List Nat} {rin : List T} {sl : List (Nat × A)} {p : Nat} {y : T} {v : Value} {ca cb : Code} {Q : Exit -> St -> Prop} {NI : Prop} (hsn : srcs.Nodup) (hsb : ∀ q ∈ bor, q ∉ srcs) (hsrc : q0tg Sm srcs rin) (hp : p < n)
    (hsl : ∀ s ∈ sl, s.1 ≠ p /\ va Sm srcs bor s.2 (Sm.env s.1)) (hy : Rd W (fun c => ¬ B c) y v)
    (round : Sem P n ca (fun e S1 => e = .normal /\ Sem P n cb (rndE Sm Sn NI srcs rin.length Q) S1) (St.of ((p, .t y) :: sl) (enum 1000000000 rin))) :
    RoundIn Fence.wide 0 P l fn (a.tmps.setIfInBounds p v) ca cb W fun e W' => ∃ b, e = .returned (.bool b) /\ ∃ S' fp', Good (fun c => XP c ∨ B c) w0 O0 n S' a W' hs fp' /\ W.heap.size <= W'.heap.size /\ (∀ c, c < W.heap.size -> c ≠ l -> (∀ j, c ∉ fp j) -> W'.heap[c]? = W.heap[c]?) /\ (∀ j c, c ∈ fp' j -> (∃ i, c ∈ fp i) ∨ W.heap.size <= c) ∧
      (if b then NI /\ S' = Sn /\ W'.heap[l]? = some (.loop rec) else ∃ j, W'.heap[l]? = some (.loop { rec with state := .done, pending := some j }) /\ q1k6 Q j S') := by
  obtain ⟨Xc, hsc, fpc, hXc, hhc, hfc, hm, hva⟩ := gW.enter (X' := XP) (fun c h => .inl h) (bor := bor) hsn hsrc hsb
  have hlW := (Array.getElem?_eq_some_iff.1 hl).1
  have hXcl : Xc l := (hXc l).2 (.inl hXl)
  have hlf : ∀ j, l ∉ fpc j := fun j hj => by obtain ⟨q, _, hq⟩ := hfc j l hj; exact gW.foreign q l hq (.inl hXl)
  have hbO : ∀ c, B c -> ¬ Ob Xc fpc c := by
    rintro c hB (h | ⟨j, hj⟩)
    · rcases (hXc c).1 h with h | ⟨q, _, _, hq⟩
      · exact hBX c hB h
      · exact gW.foreign q c hq (.inr hB)
    · obtain ⟨q, _, hq⟩ := hfc j c hj; exact gW.foreign q c hq (.inr hB)
  have hsz : (a.tmps.setIfInBounds p v).size = n := by simp [gW.size]
  have gR : Good Xc W ⟨fun c => ∃ j, c ∈ fpc j, hsc, False⟩ n (St.of ((p, .t y) :: sl) (enum 1000000000 rin)) { tmps := a.tmps.setIfInBounds p v, defers := [] } W hsc fpc := by
    refine hm.good hsz gW.small fun s hs => ?_
    rcases List.mem_cons.1 hs with rfl | hs
    · show Is _ _ _ (.t y) ((a.tmps.setIfInBounds p v).getD p undef)
      rw [q1ok (by rw [gW.size]; exact hp)]
      exact .t (hy.mono (fun _ _ _ _ _ h => h) fun c hc _ => hbO c (Classical.not_not.1 hc))
    · obtain ⟨h1, h2⟩ := hsl s hs
      rw [q1oj h1]
      exact hva _ _ h2 (gW.env s.1)
  have hrnd : q00c (some l) W ⟨fun c => ∃ j, c ∈ fpc j, hsc, False⟩ := fun l' e => by cases e; exact ⟨hlW, fun ⟨j, hj⟩ => hlf j hj, _, hl⟩
  refine roundIn_of_wpIn trivial (wpIn_mono (round Xc W _ _ W hsc fpc gR (some l) hrnd (fun _ h => by cases h)) ?_)
  rintro e a₁ w₁ ⟨⟨S1, hs1, fp1, g1, rfl, hS1⟩, _⟩
  have hl1 : w₁.heap[l]? = some (.loop rec) := (g1.hist.block l hlW fun ⟨j, hj⟩ => hlf j hj).trans hl
  refine ⟨_, run_beginRound hl1 hready, ?_⟩
  have hWb : (W.putObj l (.loop { rec with state := .busy })).heap[l]? = some (.loop { rec with state := .busy }) := World.putObj_heap_same hlW
  have g2 : Good Xc (W.putObj l (.loop { rec with state := .busy })) ⟨fun c => ∃ j, c ∈ fpc j, hsc, False⟩ n S1 a₁ (w₁.putObj l (.loop { rec with state := .busy })) hs1 fp1 := by
    have hlt1 := (Array.getElem?_eq_some_iff.1 hl1).1
    refine g1.world rfl (fun c cs e fz hn hc => ?_) (fun r c hc => World.putObj_heap_other fun e => g1.foreign r c hc (e ▸ hXcl)) (fun c h => .inl h) (fun c h => by rw [World.putObj_size]; exact g1.xold c h) (fun c h hc => by rw [World.putObj_size] at hc; exact g1.xout c h hc)
      ⟨g1.hist.os, g1.hist.tape, g1.hist.output, by simp [g1.hist.size], fun c hc hn => ?_⟩ (fun r c hc => by rw [World.putObj_size]; exact g1.mine r c hc) ?_
    · rw [World.putObj_heap_other (show c ≠ l from fun e => hn (.inl (by rw [e]; exact hXcl)))]; exact hc
    · rw [World.putObj_size] at hc
      by_cases e : c = l
      · subst e; rw [World.putObj_heap_same hlt1, hWb]
      · rw [World.putObj_heap_other e, World.putObj_heap_other e]; exact g1.hist.block c hc hn
    · rw [g1.defers.none (fun h => h)]; exact q00a.nil _ _ _ _
  have hrnd2 : q00c (some l) (W.putObj l (.loop { rec with state := .busy })) ⟨fun c => ∃ j, c ∈ fpc j, hsc, False⟩ := fun l' e => by cases e; exact ⟨by simpa using hlW, fun ⟨j, hj⟩ => hlf j hj, _, hWb⟩
  refine wpIn_mono (hS1 Xc _ _ a₁ _ hs1 fp1 g2 (some l) hrnd2 (fun _ h => by cases h)) ?_
  rintro e a3 W3 ⟨⟨S', hs3, fp3, g3, q⟩, _⟩
  have hl3 : W3.heap[l]? = some (.loop { rec with state := .busy }) := (g3.hist.block l (by simpa using hlW) fun ⟨j, hj⟩ => hlf j hj).trans hWb
  have hlt3 := (Array.getElem?_eq_some_iff.1 hl3).1
  have hsz3 := g3.hist.size
  rw [World.putObj_size] at hsz3
  have hl4 : (W3.putObj l (.loop rec)).heap[l]? = some (.loop rec) := World.putObj_heap_same hlt3
  have kpT : ∀ c, c < W.heap.size -> (∀ j, c ∉ fpc j) -> (W3.putObj l (.loop rec)).heap[c]? = W.heap[c]? := fun c hc hf => by
    by_cases e : c = l
    · rw [e, hl4, hl]
    · rw [World.putObj_heap_other e, g3.hist.block c (by simpa using hc) fun ⟨j, hj⟩ => hf j hj, World.putObj_heap_other e]
  have goT : ∀ j c, c ∈ fp3 j -> (∃ q, q ∈ srcs /\ c ∈ fp q) ∨ W.heap.size <= c := fun j c h => by
    rcases g3.mine j c h with ⟨i, hi⟩ | h1
    · exact .inl (hfc i c hi)
    · rw [World.putObj_size] at h1; exact .inr h1
  have g4 : ∀ r b, b ∈ fp3 r -> (W3.putObj l (.loop rec)).heap[b]? = W3.heap[b]? := fun r b hb => World.putObj_heap_other fun e => g3.foreign r b hb (e ▸ hXcl)
  have hrc : srcs.length = rin.length := (q0th hsrc).1
  have fin : ∀ {K : List T -> Prop}, q0pz S' rin.length 1000000000 (fun rout => T.noShL rout /\ K rout) -> ∃ rout fp5, K rout /\ Good (fun c => XP c ∨ B c) w0 O0 n (setS Sm srcs rout) a (W3.putObj l (.loop rec)) hs fp5 /\ ∀ j c, c ∈ fp5 j -> (∃ i, c ∈ fp i) ∨ W.heap.size <= c := by
    intro K h
    obtain ⟨rout, ⟨hns, hK⟩, hrl, hrr⟩ := q0q2 h
    let fpo : Nat -> List Nat := fun r => if 1000000000 <= r /\ r < 1000000000 + rin.length then fp3 r else []
    have hin : ∀ r b, b ∈ fpo r -> b ∈ fp3 r := fun r b hb => by
      simp only [fpo] at hb
      split at hb
      · exact hb
      · simp at hb
    obtain ⟨fp5, g5, hf5⟩ := gW.backW (W' := W3.putObj l (.loop rec)) (rin := rin) (rout := rout) (fp' := fpo) (hsc := hsc) hsn hsrc hrl (by rw [World.putObj_size]; omega)
      (fun c hc hq => kpT c hc fun j hj => by obtain ⟨q, h1, h2⟩ := hfc j c hj; exact hq q h1 h2) g3.hist.os g3.hist.tape g3.hist.output
      hhc (fun i t hi => by
        obtain ⟨hil, rfl⟩ := List.getElem?_eq_some_iff.1 hi
        have hpo : fpo (1000000000 + i) = fp3 (1000000000 + i) := if_pos ⟨by omega, by omega⟩
        rw [hpo]
        have h5 := g3.root (1000000000 + i)
        rcases hrr i hil with h1 | ⟨h1, h0⟩
        · rw [h1] at h5
          obtain ⟨x, hx, ho, _⟩ := h5
          have ho2 := ho.noSh ((T.noShL_iff rout).1 hns _ (List.getElem_mem hil)) (O' := fun c => c = l)
          have ho3 := ho2.mono (w' := W3.putObj l (.loop rec)) (O' := fun c => c = l) (fun b cs e fz hn hb => by rw [World.putObj_heap_other hn]; exact hb) (fun b h _ => h) (fun b cs e fz hb hc => by rw [g4 _ b hb]; exact hc)
          exact ⟨x, g3.pin _ _ (by omega) hx, ho3.noSh ((T.noShL_iff rout).1 hns _ (List.getElem_mem hil)), .inl (g3.rooty _ _ _ h1)⟩
        · rw [h1] at h5
          have h3 : fp3 (1000000000 + i) = [] := h5
          obtain ⟨x, hx, _⟩ := hm.root i _ (List.getElem?_eq_getElem (by omega))
          refine ⟨x, hx, ?_, .inr h0⟩
          rw [h3, h0]; exact .rd (.any _))
      (fun r r' b h h' => g3.disj r r' b (hin r b h) (hin r' b h')) (fun r => by
        simp only [fpo]
        split
        · exact g3.nodup r
        · simp)
      (fun j b hb => goT j b (hin j b hb)) hns
    refine ⟨rout, fp5, hK, g5, fun j c h => ?_⟩
    rcases hf5 j c h with ⟨i, _, h1⟩ | h1
    · rcases goT _ c (hin _ _ h1) with ⟨q, _, hq⟩ | h2
      · exact .inl ⟨q, hq⟩
      · exact .inr h2
    · exact .inl ⟨j, h1⟩
  have hdone : ∀ j, (W3.putObj l (.loop rec)).putObj l (.loop { rec with state := .done, pending := some j }) = W3.putObj l (.loop { rec with state := .done, pending := some j }) := fun j => by
    simp [World.putObj]
  have kpF : ∀ c, c < W.heap.size -> (∀ j, c ∉ fp j) -> (W3.putObj l (.loop rec)).heap[c]? = W.heap[c]? := fun c hc hf => kpT c hc fun j hj => by obtain ⟨q, _, hq⟩ := hfc j c hj; exact hf q hq
  have stop : ∀ j {K : List T -> Prop}, q0pz S' rin.length 1000000000 (fun rout => T.noShL rout /\ K rout) -> (∀ rout, K rout -> q1k6 Q j (setS Sm srcs rout)) -> ∃ v w', (Instr.endRound l (some j)).run P W3 = .ok v w' /\ ∃ b, Ending.returned v = .returned (.bool b) /\ ∃ S' fp', Good (fun c => XP c ∨ B c) w0 O0 n S' a w' hs fp' /\ W.heap.size <= w'.heap.size /\ (∀ c, c < W.heap.size -> c ≠ l -> (∀ j, c ∉ fp j) -> w'.heap[c]? = W.heap[c]?) /\ (∀ j c, c ∈ fp' j -> (∃ i, c ∈ fp i) ∨ W.heap.size <= c) ∧
      (if b then NI /\ S' = Sn /\ w'.heap[l]? = some (.loop rec) else ∃ j, w'.heap[l]? = some (.loop { rec with state := .done, pending := some j }) /\ q1k6 Q j S') := by
    intro j K h hK
    obtain ⟨rout, fp5, hk, g5, hgo⟩ := fin h
    refine ⟨_, _, run_endRound (P := P) (some j) hl3, false, rfl, setS Sm srcs rout, fp5, ?_, by rw [World.putObj_size]; omega, fun c hc hcl hf => ?_, hgo, ?_⟩
    · have := g5.record (X' := fun c => XP c ∨ B c) (fun c h => h) hl4 hl0 (.inl hXl) (.loop { rec with state := .done, pending := some j })
      rw [hdone] at this; exact this
    · have := kpF c hc hf
      rw [World.putObj_heap_other hcl] at this
      rw [World.putObj_heap_other hcl]; exact this
    · simp only [Bool.false_eq_true, if_false]
      exact ⟨j, World.putObj_heap_same hlt3, hK rout hk⟩
  cases e with
  | normal =>
    obtain ⟨rout, fp5, ⟨hni, hwk⟩, g5, hgo⟩ := fin q
    have hend := run_endRound (P := P) none hl3
    have erec : ({ ({ rec with state := .busy } : Loop) with state := if (none : Option Code).isNone then .ready else .done, pending := none } : Loop) = rec := by
      cases rec; simp_all
    rw [erec] at hend
    refine ⟨_, _, hend, true, rfl, _, fp5, g5, by rw [World.putObj_size]; omega, fun c hc _ hf => kpF c hc hf, hgo, ?_⟩
    simp only [if_true]
    exact ⟨hni, hwk, hl4⟩
  | ret => exact stop .ret q fun rout h => .inl ⟨rfl, h⟩
  | exit id => exact stop (.exit id) q fun rout h => .inr ⟨id, rfl, h⟩
  | goto t => exact q.elim
  | panic ch => exact q.elim
  | outgrown => exact q.elim
end
end Go.Ab

/- The abstract layer, part 50: the rule for a range over an iterator that ranges itself. -/
namespace Go.Ab
section
variable {P : Program} {w0 : World} {O0 : Fr} {n : Nat} {S : St} {a : Act} {W W' : World} {hs : Nat -> Option Value} {fp : Nat -> List Nat} {X : Nat -> Prop}
theorem Good.ownC {B B' : Nat -> Prop} (g : Good (fun c => X c ∨ B c) w0 O0 n S a W hs fp) (hm : OwnMv B B' W W') (h0 : ∀ c, B c -> w0.heap.size <= c) (hk : ∀ c, B c -> ¬ q1kx a c) (hB0 : ∀ c, B' c -> w0.heap.size <= c) : Good (fun c => X c ∨ B' c) w0 O0 n S a W' hs fp := by
  have hsz := hm.size
  refine g.world rfl (fun c cs e fz hn hc => ?_) (fun r c hc => hm.same c (g.lt hc) fun h => g.foreign r c hc (.inr h)) (fun c h => ?_) (fun c h => ?_) (fun c h hc ho => ?_) ⟨hm.os.trans g.hist.os, hm.tape.trans g.hist.tape, hm.output.trans g.hist.output, Nat.le_trans g.hist.size hsz, fun c hc hn => ?_⟩ g.mine ?_
  · rw [hm.same c (Array.getElem?_eq_some_iff.1 hc).1 fun h => hn (.inl (.inr h))]; exact hc
  · rcases h with h | h
    · exact .inl (.inl h)
    · exact (hm.grow c h).imp .inr id
  · rcases h with h | h
    · have := g.xold c (.inl h); omega
    · exact hm.lt c h
  · rcases h with h | h
    · exact g.xout c (.inl h) hc ho
    · have := hB0 c h; omega
  · rw [hm.same c (Nat.lt_of_lt_of_le hc g.hist.size) fun h => by have := h0 c h; omega]; exact g.hist.block c hc hn
  · obtain ⟨Ds, h1, h2, h3, h4⟩ := g.defers
    refine ⟨Ds, h1, h2, fun D hD => ⟨(h3 D hD).1, ?_⟩, h4⟩
    have hmD : q1kx a D := by unfold q1kx; rw [h2]; exact List.mem_map.2 ⟨D, hD, rfl⟩
    rw [hm.same D (Array.getElem?_eq_some_iff.1 (h3 D hD).2).1 fun h => hk D h hmD]; exact (h3 D hD).2

theorem Sem.rangeY {gop : Operand} {p : Nat} {ca cb : Code} {Q : Exit -> St -> Prop} {gf : FuncId} {cap ys : List T} (hcallf : ∀ args w, (callFunc gf args).run P w = .ok (.enter gf args) w) (hit : q19j P gf cap ys)
    (mk : Nat -> St) (Inv : Nat -> Prop) (hinv : Inv 0) (srcs bor : List Nat) (rin : Nat -> List T) (sl : Nat -> List (Nat × A)) (hw : Weak n S (mk 0)) (hg : fnA ((mk 0).ev gop) = some (gf, cap.map A.t)) (hsn : srcs.Nodup) (hsb : ∀ q ∈ bor, q ∉ srcs)
    (hsrc : ∀ i, i < ys.length -> q0tg (mk i) srcs (rin i)) (hp : p < n) (hsl : ∀ i, i < ys.length -> ∀ s ∈ sl i, s.1 ≠ p /\ va (mk i) srcs bor s.2 ((mk i).env s.1))
    (round : ∀ i (h : i < ys.length), Inv i -> Sem P n ca (fun e S1 => e = .normal /\ Sem P n cb (rndE (mk i) (mk (i + 1)) (Inv (i + 1)) srcs (rin i).length Q) S1) (St.of ((p, .t ys[i]) :: sl i) (enum 1000000000 (rin i))))
    (done : Inv ys.length -> Q .normal (mk ys.length)) : Sem P n (.rangeFunc gop #[p] ca cb) Q S := by
  intro X w0 O0 a w hs fp g ro hro hmk0
  obtain ⟨hs0, fp0, g0⟩ := hw X w0 O0 a w hs fp g
  refine wpIn_rangeFunc fun fn _ => ?_
  obtain ⟨l, mark, w2, rec, henter, ⟨e1, e2, e3, e4, e5, e6, e7⟩, hl2, hext, hlw, hl2s, hmk⟩ := q1n2 (P := P) g hro (hmk0 rfl) fn p ca cb
  obtain ⟨capv, hev, hcl, hcr⟩ := g0.caps hg
  have hl0 : w0.heap.size <= l := Nat.le_trans g.hist.size hlw
  have hw02 : w0.heap.size <= w2.heap.size := Nat.le_trans g.hist.size hext.size
  have g2 : Good (fun c => X c ∨ c = l) w0 O0 n (mk 0) { a with defers := mark ++ a.defers } w2 hs0 fp0 := by
    have := g0.ext hext (X' := fun c => X c ∨ c = l) (fun c h => by
      rcases h with h | rfl
      · exact .inl h
      · exact .inr ⟨hlw, hl2s⟩)
    exact { this with defers := hmk }
  have hev1 : ({ a with defers := mark ++ a.defers } : Act).eval gop = .func (.func gf) #[] capv.toArray := hev
  have hsm : Same (dstC (.rangeFunc gop #[p] ca cb)) a { a with defers := mark ++ a.defers } := fun s _ => rfl
  generalize ha1 : ({ a with defers := mark ++ a.defers } : Act) = a1 at g2 hev1 hsm ⊢
  have htm : rec.tmps = a1.tmps := by rw [e4, ← ha1]
  have hmks : ∀ c, q1kx a1 c -> c < w2.heap.size := fun c h => (Array.getElem?_eq_some_iff.1 (q1kz g2 h).2).1
  refine ⟨l, mark, w2, { target := .fn (.func gf) capv.toArray, args := #[.func (.yield l) #[] #[]] }, w2, gf, #[.func (.yield l) #[] #[]] ++ capv.toArray, w2, henter, ?_, fun f' _ => q0ou ro f', ?_, q0ot, q0os ?_⟩
  · simp only [resolve, hev]
    simp [go_sem]
  · simp [invoke, go_sem, hcallf]
  rw [ha1]
  let J : JT := fun B X2 mm Wc => (∀ c, B c -> w2.heap.size <= c) /\ w2.heap.size <= Wc.heap.size /\ ∃ S fp, (∀ c, X2 c ↔ X c ∨ c = l ∨ ∃ j, c ∈ fp j) /\ Good (fun c => (X c ∨ c = l) ∨ B c) w0 O0 n S a1 Wc hs0 fp ∧
    match mm with
    | some k => k <= ys.length /\ Inv k /\ S = mk k /\ Wc.heap[l]? = some (.loop rec)
    | none => ∃ j, Wc.heap[l]? = some (.loop { rec with state := .done, pending := some j }) /\ q1k6 Q j S
  have hcl2 : Cl P l ys J := by
    refine ⟨?_, ?_⟩
    · rintro B B' X2 mm Wc Wc' ⟨hb2, hsz, S1, fp1, hX2, gg, hmm⟩ hdis hm
      have hlB : ¬ B l := fun h => by have := hb2 l h; omega
      have hB' : ∀ c, B' c -> w2.heap.size <= c := fun c h => by
        rcases hm.grow c h with h1 | h1
        · exact hb2 c h1
        · omega
      refine ⟨hB', by have := hm.size; omega, S1, fp1, hX2, gg.ownC hm (fun c h => by have := hb2 c h; omega) (fun c h h1 => by have := hb2 c h; have := hmks c h1; omega) (fun c h => by have := hB' c h; omega), ?_⟩
      cases mm with
      | some k =>
        obtain ⟨h1, h2, h3, h4⟩ := hmm
        exact ⟨h1, h2, h3, (hm.same l (Array.getElem?_eq_some_iff.1 h4).1 hlB).trans h4⟩
      | none =>
        obtain ⟨j, h1, h2⟩ := hmm
        exact ⟨j, (hm.same l (Array.getElem?_eq_some_iff.1 h1).1 hlB).trans h1, h2⟩
    · rintro B X2 i yv v Wc ⟨hb2, hsz, S1, fp1, hX2, gg, hle, hI, rfl, hl⟩ hyi hdis hy
      obtain ⟨hi, rfl⟩ := List.getElem?_eq_some_iff.1 hyi
      have hyl := run_yield (P := P) (args := #[v]) hl (by rw [e5]; rfl)
      rw [e5, htm, e6, e7, show ((#[p] : Array Tmp).zip #[v]).foldl (fun tmps (t, a) => tmps.setIfInBounds t a) a1.tmps = a1.tmps.setIfInBounds p v by simp] at hyl
      refine ⟨_, _, _, _, hyl, (q1ny gg hl e1 e2 hl0 (.inr rfl) (fun c hB hX => (hdis c hB).1 ((hX2 c).2 (hX.imp id .inl))) hsn hsb (hsrc i hi) hp (hsl i hi) hy (round i hi hI)).mono ?_⟩
      rintro e W' ⟨b, rfl, S', fp', g', hszW, hkp, hgo, hbb⟩
      refine ⟨b, fun c => X c ∨ c = l ∨ ∃ j, c ∈ fp' j, rfl, ⟨hb2, by omega, S', fp', fun c => Iff.rfl, g', ?_⟩, ⟨hszW, fun c hc hx => ?_, fun c h => ?_, fun c h => ?_⟩⟩
      · cases b with
        | true =>
          simp only [if_true] at hbb ⊢
          exact ⟨hi, hbb.1, hbb.2.1, hbb.2.2⟩
        | false =>
          simp only [Bool.false_eq_true, if_false] at hbb ⊢
          exact hbb
      · exact hkp c hc (fun h => hx ((hX2 c).2 (.inr (.inl h)))) fun j hj => hx ((hX2 c).2 (.inr (.inr ⟨j, hj⟩)))
      · rcases h with h | h | ⟨j, hj⟩
        · exact .inl ((hX2 c).2 (.inl h))
        · exact .inl ((hX2 c).2 (.inr (.inl h)))
        · exact (hgo j c hj).imp (fun h => (hX2 c).2 (.inr (.inr h))) id
      · rcases h with h | h | ⟨j, hj⟩
        · exact g'.xold c (.inl (.inl h))
        · subst h; omega
        · exact g'.lt hj
  refine (hit (fun c => X c ∨ c = l ∨ ∃ j, c ∈ fp0 j) w2 capv hcl (fun c h => ?_) (fun i h => ?_) l J hcl2 ?_).mono ?_
  · rcases h with h | h | ⟨j, hj⟩
    · exact g2.xold c (.inl h)
    · omega
    · exact g2.lt hj
  · refine (g2.caps' hg hev1 i h).mono (fun _ _ _ _ _ h => h) fun c hc _ hc2 => hc ?_
    rcases hc2 with h1 | h1 | h1
    · exact .inl (.inl h1)
    · exact .inl (.inr h1)
    · exact .inr h1
  · refine ⟨fun c h => h.elim, Nat.le_refl _, mk 0, fp0, fun c => Iff.rfl, ?_, Nat.zero_le _, hinv, rfl, hl2⟩
    have e : (fun c => (X c ∨ c = l) ∨ False) = fun c => X c ∨ c = l := funext fun c => propext ⟨fun h => h.elim id False.elim, .inl⟩
    rw [e]; exact g2
  · rintro e Wc ⟨⟨v, rfl⟩, B, X2, (⟨hb2, _, S1, fp1, _, gg, hle, hI, rfl, hl⟩ | ⟨hb2, _, S1, fp1, _, gg, j, hl, hq⟩)⟩
    · refine ⟨none, _, by have := run_endLoop (P := P) hl (by rw [e1]; simp); rw [e2] at this; exact this, ⟨mk ys.length, hs0, fp1, ?_, done hI⟩, hsm⟩
      exact gg.record (fun c h => .inl (.inl h)) hl hl0 (.inl (.inr rfl)) _
    · refine ⟨some j, _, run_endLoop (P := P) hl (by simp), ?_⟩
      have gE := gg.record (X' := X) (fun c h => .inl (.inl h)) hl hl0 (.inl (.inr rfl)) (.loop { ({ rec with state := .done, pending := some j } : Loop) with state := .exhausted })
      rcases hq with ⟨rfl, hQ⟩ | ⟨id, rfl, hQ⟩
      · exact wpIn_ret ⟨⟨S1, hs0, fp1, gE, hQ⟩, hsm⟩
      · exact wpIn_exit ⟨⟨S1, hs0, fp1, gE, hQ⟩, hsm⟩
theorem SemC.rangeY {gop : Operand} {p : Nat} {ca cb : CC} {Q : Exit -> St -> Prop} {gf : FuncId} {cap ys : List T} (hcallf : ∀ args w, (callFunc gf args).run P w = .ok (.enter gf args) w) (hit : q19j P gf cap ys)
    (mk : Nat -> St) (Inv : Nat -> Prop) (hinv : Inv 0) (srcs bor : List Nat) (rin : Nat -> List T) (sl : Nat -> List (Nat × A)) (hw : Weak n S (mk 0)) (hg : fnA ((mk 0).ev gop) = some (gf, cap.map A.t)) (hsn : srcs.Nodup) (hsb : ∀ q ∈ bor, q ∉ srcs)
    (hsrc : ∀ i, i < ys.length -> q0tg (mk i) srcs (rin i)) (hp : p < n) (hsl : ∀ i, i < ys.length -> ∀ s ∈ sl i, s.1 ≠ p /\ va (mk i) srcs bor s.2 ((mk i).env s.1))
    (round : ∀ i (h : i < ys.length), Inv i -> cW P n ca (fun e S1 => e = .normal /\ cW P n cb (rndE (mk i) (mk (i + 1)) (Inv (i + 1)) srcs (rin i).length Q) S1) (St.of ((p, .t ys[i]) :: sl i) (enum 1000000000 (rin i))))
    (done : Inv ys.length -> Q .normal (mk ys.length)) : SemC P n (.rng gop [p] ca cb) Q S := by
  intro H code hc
  unfold trC at hc
  split at hc <;> (try split at hc) <;> (try split at hc) <;> (try cases hc)
  rename_i g' ps x y _ _ a b ha hb
  simp only [Option.some.injEq, CC.rng.injEq] at hc
  obtain ⟨rfl, hps, rfl, rfl⟩ := hc
  have hps : ps = #[p] := by rw [← Array.toArray_toList (xs := ps), hps]
  subst hps
  exact Sem.rangeY hcallf hit mk Inv hinv srcs bor rin sl hw hg hsn hsb hsrc hp hsl (fun i h hI => (q031 _ _ _ (round i h hI) _ _ ha).mono fun e S1 hq => ⟨hq.1, q031 _ _ _ hq.2 _ _ hb⟩) done
theorem q19l.range {J : JT} {mkp : Prop} {m : Option Nat} {l : Nat} {ys : List T} (hJ : Cl P l ys J) {gop : Operand} {p : Nat} {ca cb : CC} {Q : Exit -> St -> Option Nat -> Prop} {gf : FuncId} {cap ys2 : List T} (hcallf : ∀ args w, (callFunc gf args).run P w = .ok (.enter gf args) w) (hit : q19j P gf cap ys2)
    (mk : Nat -> St) (M : Nat -> Option Nat) (srcs bor : List Nat) (rin : Nat -> List T) (sl : Nat -> List (Nat × A)) (hw : Weak n S (mk 0)) (hM : M 0 = m) (hg : fnA ((mk 0).ev gop) = some (gf, cap.map A.t)) (hsn : srcs.Nodup) (hsb : ∀ q ∈ bor, q ∉ srcs)
    (hsrc : ∀ i, i < ys2.length -> q0tg (mk i) srcs (rin i)) (hp : p < n) (hsl : ∀ i, i < ys2.length -> ∀ s ∈ sl i, s.1 ≠ p /\ va (mk i) srcs bor s.2 ((mk i).env s.1))
    (round : ∀ i (h : i < ys2.length), cW P n ca (fun e S1 => e = .normal /\ q19l P n J False cb (rndY n (mk i) (mk (i + 1)) (M (i + 1)) srcs (rin i).length Q) S1 (M i)) (St.of ((p, .t ys2[i]) :: sl i) (enum 1000000000 (rin i))))
    (done : Q .normal (mk ys2.length) (M ys2.length)) : q19l P n J mkp (.rng gop [p] ca cb) Q S m := by
  intro H code hc hk
  unfold trC at hc
  split at hc <;> (try split at hc) <;> (try split at hc) <;> (try cases hc)
  rename_i g' ps x y _ _ a b ha hb
  simp only [Option.some.injEq, CC.rng.injEq] at hc
  obtain ⟨rfl, hps, rfl, rfl⟩ := hc
  have hps : ps = #[p] := by rw [← Array.toArray_toList (xs := ps), hps]
  subst hps
  simp only [ychk, Bool.and_eq_true] at hk
  exact SemY.range hJ hcallf hit mk M srcs bor rin sl hw hM hg hsn hsb hsrc hp hsl (fun i h => Sem.toY hJ ((q031 _ _ _ (round i h) _ _ ha).mono fun e S1 hq => ⟨hq.1, hq.2 _ _ hb hk.2⟩)) done
end
end Go.Ab

/- The abstract layer, part 28: links between roots at the head of a loop; roots that are given away as data that is only read. -/
namespace Go.Ab

theorem Weak.refl (n : Nat) (S : St) : Weak n S S := fun X w0 O0 a w hs fp g => ⟨hs, fp, g⟩
theorem Weak.trans {n : Nat} {S S1 S2 : St} (h : Weak n S S1) (h' : Weak n S1 S2) : Weak n S S2 := fun X w0 O0 a w hs fp g => by
  obtain ⟨hs1, fp1, g1⟩ := h X w0 O0 a w hs fp g
  exact h' X w0 O0 a w hs1 fp1 g1

theorem Weak.open {n : Nat} {S : St} (r o d : Nat) {l : List T} {lk : List (Nat × Nat)} {c : T} (h : (S.roots r).cells = some (l, lk)) (hc : l[o]? = some c) (hd : S.roots d = .free) (hdn : d < 1000000000) (hrt : c.rooty = true) :
    Weak n S { S with roots := upd (upd S.roots r ((S.roots r).with (l.set o .any) ((o, d) :: lk))) d (.live c []) } := fun X w0 O0 a w hs fp g => by
  obtain ⟨hs', fp', v, g', _⟩ := g.unfold h hc hd hdn hrt
  exact ⟨hs', fp', g'⟩
def q0rg (q : Nat) (t : T) : A -> A
  | .own q' => if q' = q then .t t.toSh else .own q'
  | a => a
theorem Weak.share {n : Nat} {S : St} (q : Nat) {t : T} (hq : S.roots q = .live t []) : Weak n S ⟨fun i => q0rg q t (S.env i), upd S.roots q .dead⟩ := by
  intro X w0 O0 a w hs fp g
  have hroot := g.root q
  rw [hq] at hroot
  obtain ⟨x, hx, ho, _⟩ := hroot
  have hsub : ∀ r b, b ∈ upd fp q [] r -> r ≠ q /\ b ∈ fp r := fun r b hb => by
    by_cases hr : r = q
    · subst hr; rw [q0x2] at hb; simp at hb
    · rw [q0x1 _ _ _ _ hr] at hb; exact ⟨hr, hb⟩
  have hO : ∀ b, ¬ Ob X fp b -> b < w.heap.size -> ¬ Ob X (upd fp q []) b := fun b h _ h' => by
    rcases h' with h' | ⟨r, hr⟩
    · exact h (.inl h')
    · exact h (.inr ⟨r, (hsub r b hr).2⟩)
  have hk : ∀ p, q009 p w w := fun p _ _ _ _ _ h => h
  have hq0 : ∀ b ∈ fp q, ¬ Ob X (upd fp q []) b := fun b hb h => by
    rcases h with h | ⟨r, hr⟩
    · exact g.foreign q b hb h
    · obtain ⟨h1, h2⟩ := hsub r b hr; exact h1 (g.disj r q b h2 hb)
  refine ⟨hs, upd fp q [], g.size, g.defers, fun i => ?_, fun r => ?_, fun r r' b h h' => g.disj r r' b (hsub r b h).2 (hsub r' b h').2, fun r => ?_, fun r b h => g.foreign r b (hsub r b h).2, g.xold, g.xout, fun r b h => g.mine r b (hsub r b h).2, g.hist, fun r t lk h => ?_, g.hdr, g.small, g.pin⟩
  · have hi := g.env i
    show Is w (Ob X (upd fp q [])) hs (q0rg q t (S.env i)) _
    generalize S.env i = y at hi
    cases y with
    | own q' =>
      simp only [q0rg]
      split
      · rename_i he
        subst he
        have := hi.own_inv
        rw [hx, Option.some.injEq] at this
        rw [← this]
        exact .t (ho.toSh hO hq0)
      · exact hi.mono (hk _) hO (fun _ _ h => h)
    | _ => exact hi.mono (hk _) hO (fun _ _ h => h)
  · by_cases hr : r = q
    · subst hr
      show q00d w _ hs (upd S.roots r .dead r) (hs r) (upd fp r [] r)
      rw [q0x2, q0x2]; rfl
    · show q00d w _ hs (upd S.roots q .dead r) (hs r) (upd fp q [] r)
      rw [q0x1 _ _ _ _ hr, q0x1 _ _ _ _ hr]
      exact g.keepRoot r (hk _) hO (fun _ _ h => h) rfl (fun b _ => rfl)
  · by_cases hr : r = q
    · subst hr; rw [q0x2]; simp
    · rw [q0x1 _ _ _ _ hr]; exact g.nodup r
  · have h : upd S.roots q .dead r = .live t lk := h
    by_cases hr : r = q
    · subst hr; rw [q0x2] at h; cases h
    · rw [q0x1 _ _ _ _ hr] at h; exact g.rooty r t lk h

end Go.Ab

/- The abstract layer, part 29: calls whose result is not determined, but of a known shape. -/
namespace Go.Ab

section
variable {P : Program} {n : Nat} {S : St}
theorem q006.exi {α : Type} {F : α -> T} {G : α -> List T} {Φ : α -> Prop} {d : Option Nat} {fo : Operand} {ops : List Operand} {K : St -> Prop} {f : FuncId} {cap : List A} {rin : List T} {args : List A} (hF : Fun P f rin args fun o r => ∃ x, o = G x /\ r = F x /\ Φ x) (srcs bor : List Nat) (hfo : fnA (S.ev fo) = some (f, cap)) (hcall : ∀ args w, (callFunc f args).run P w = .ok (.enter f args) w)
    (hsn : srcs.Nodup) (hsrc : q0tg S srcs rin) (hsb : ∀ q ∈ bor, q ∉ srcs) (hargs : vaL S srcs bor args (ops.map S.ev ++ cap)) (hns : bor = [] ∨ ∀ x, (F x).noSh /\ T.noShL (G x)) (hk : ∀ x, Φ x -> q00p S d srcs (G x) (F x) K) : q006 P n d fo ops K S := by
  refine q006.use hfo hcall hF srcs bor hsn hsrc hsb hargs fun rout res h => ?_
  obtain ⟨x, rfl, rfl, hx⟩ := h
  refine ⟨?_, hk x hx⟩
  rcases hns with h | h
  · exact .inl h
  · exact .inr (h x)
end
end Go.Ab

/- The abstract layer, part 30: rules that keep the simplifier out of continuations (printed by congr.py). -/
namespace Go.Ab

@[congr] theorem q0ng {a0 : _} {a1 : _} {a2 : _} {a3 : _} {a4 : _} {a4' : _} (h4 : a4 = a4') : opsW a0 a1 a2 a3 a4 = opsW a0 a1 a2 a3 a4' := by subst_vars; rfl
@[congr] theorem q07i {a0 : _} {a1 : _} {a2 : _} {a3 : _} {a4 : _} {a4' : _} (h4 : a4 = a4') : coW a0 a1 a2 a3 a4 = coW a0 a1 a2 a3 a4' := by subst_vars; rfl
@[congr] theorem q030 {a0 : _} {a1 : _} {a2 : _} {a3 : _} {a4 : _} {a4' : _} (h4 : a4 = a4') : cW a0 a1 a2 a3 a4 = cW a0 a1 a2 a3 a4' := by subst_vars; rfl
@[congr] theorem q07m {a0 : _} {a0' : _} {a1 : _} {a2 : _} {a3 : _} {a3' : _} (h0 : a0 = a0') (h3 : a3 = a3') : condC a0 a1 a2 a3 = condC a0' a1 a2 a3' := by subst_vars; rfl
@[congr] theorem q0de {a0 : _} {a0' : _} {a1 : _} {a2 : _} {a3 : _} {a4 : _} {a5 : _} {a6 : _} {a6' : _} (h0 : a0 = a0') (h6 : a6 = a6') : q0dc a0 a1 a2 a3 a4 a5 a6 = q0dc a0' a1 a2 a3 a4 a5 a6' := by subst_vars; rfl
@[congr] theorem q0un {a0 : _} {a1 : _} {a2 : _} {a2' : _} {a3 : _} {a3' : _} (h2 : a2 = a2') (h3 : a3 = a3') : q0um a0 a1 a2 a3 = q0um a0 a1 a2' a3' := by subst_vars; rfl
@[congr] theorem q029 {a0 : _} {a1 : _} {a2 : _} {a2' : _} {a3 : _} {a3' : _} (h2 : a2 = a2') (h3 : a3 = a3') : q028 a0 a1 a2 a3 = q028 a0 a1 a2' a3' := by subst_vars; rfl
@[congr] theorem q0oh {a0 : _} {a0' : _} {a1 : _} {a2 : _} {a3 : _} {a3' : _} (h0 : a0 = a0') (h3 : a3 = a3') : putK a0 a1 a2 a3 = putK a0' a1 a2 a3' := by subst_vars; rfl
@[congr] theorem q0o7 {a0 : _} {a0' : _} {a1 : _} {a1' : _} {a2 : _} {a2' : _} {a3 : _} (h0 : a0 = a0') (h1 : a1 = a1') (h2 : a2 = a2') : q0o6 a0 a1 a2 a3 = q0o6 a0' a1' a2' a3 := by subst_vars; rfl
@[congr] theorem q01r {a0 : _} {a1 : _} {a1' : _} {a2 : _} {a2' : _} {a3 : _} (h1 : a1 = a1') (h2 : a2 = a2') : beqC a0 a1 a2 a3 = beqC a0 a1' a2' a3 := by subst_vars; rfl
@[congr] theorem q0hx {a0 : _} {a0' : _} {a1 : _} {a1' : _} {a2 : _} (h0 : a0 = a0') (h1 : a1 = a1') : lenC a0 a1 a2 = lenC a0' a1' a2 := by subst_vars; rfl
@[congr] theorem q0i3 {a0 : _} {a0' : _} {a1 : _} (h0 : a0 = a0') : q0i2 a0 a1 = q0i2 a0' a1 := by subst_vars; rfl
@[congr] theorem q0e1 {a0 : _} {a1 : _} {a1' : _} {a2 : _} {a2' : _} {a3 : _} {a3' : _} {a4 : _} (h1 : a1 = a1') (h2 : a2 = a2') (h3 : a3 = a3') : idxC a0 a1 a2 a3 a4 = idxC a0 a1' a2' a3' a4 := by subst_vars; rfl
@[congr] theorem q09g {a0 : _} {a1 : _} {a1' : _} {a2 : _} {a2' : _} {a3 : _} (h1 : a1 = a1') (h2 : a2 = a2') : fldC a0 a1 a2 a3 = fldC a0 a1' a2' a3 := by subst_vars; rfl
@[congr] theorem q01j {a0 : _} {a1 : _} {a2 : _} {a2' : _} {a3 : _} {a3' : _} {a4 : _} {a4' : _} {a5 : _} (h2 : a2 = a2') (h3 : a3 = a3') (h4 : a4 = a4') : arrC a0 a1 a2 a3 a4 a5 = arrC a0 a1 a2' a3' a4' a5 := by subst_vars; rfl
@[congr] theorem q0i6 {a0 : _} {a0' : _} {a1 : _} {a2 : _} {a3 : _} {a3' : _} (h0 : a0 = a0') (h3 : a3 = a3') : q0i5 a0 a1 a2 a3 = q0i5 a0' a1 a2 a3' := by subst_vars; rfl
@[congr] theorem q0im {a0 : _} {a0' : _} {a1 : _} {a1' : _} {a2 : _} {a2' : _} {a3 : _} {a4 : _} {a4' : _} {a5 : _} {a5' : _} {a6 : _} {a6' : _} {a7 : _} (h0 : a0 = a0') (h1 : a1 = a1') (h2 : a2 = a2') (h4 : a4 = a4') (h5 : a5 = a5') (h6 : a6 = a6') : q0il a0 a1 a2 a3 a4 a5 a6 a7 = q0il a0' a1' a2' a3 a4' a5' a6' a7 := by subst_vars; rfl
@[congr] theorem q0io {a0 : _} {a1 : _} {a1' : _} {a2 : _} {a3 : _} {a4 : _} {a4' : _} (h1 : a1 = a1') (h4 : a4 = a4') : q0in a0 a1 a2 a3 a4 = q0in a0 a1' a2 a3 a4' := by subst_vars; rfl
@[congr] theorem q05v {a0 : _} {a0' : _} {a1 : _} {a1' : _} {a2 : _} {a2' : _} {a3 : _} {a3' : _} {a4 : _} {a5 : _} {a6 : _} {a7 : _} {a7' : _} (h0 : a0 = a0') (h1 : a1 = a1') (h2 : a2 = a2') (h3 : a3 = a3') (h7 : a7 = a7') : q05u a0 a1 a2 a3 a4 a5 a6 a7 = q05u a0' a1' a2' a3' a4 a5 a6 a7' := by subst_vars; rfl
@[congr] theorem q0pc {a0 : _} {a1 : _} {a2 : _} {a2' : _} {a3 : _} {a3' : _} {a4 : _} {a5 : _} {a5' : _} (h2 : a2 = a2') (h3 : a3 = a3') (h5 : a5 = a5') : q0pb a0 a1 a2 a3 a4 a5 = q0pb a0 a1 a2' a3' a4 a5' := by subst_vars; rfl
@[congr] theorem q0nf {a0 : _} {a0' : _} {a1 : _} {a1' : _} {a2 : _} {a3 : _} {a4 : _} {a4' : _} {a5 : _} {a5' : _} (h0 : a0 = a0') (h1 : a1 = a1') (h4 : a4 = a4') (h5 : a5 = a5') : q0ne a0 a1 a2 a3 a4 a5 = q0ne a0' a1' a2 a3 a4' a5' := by subst_vars; rfl
@[congr] theorem q1mp {a0 : _} {a1 : _} {a1' : _} {a2 : _} (h1 : a1 = a1') : q1mo a0 a1 a2 = q1mo a0 a1' a2 := by subst_vars; rfl
@[congr] theorem q1el {a0 : _} {a1 : _} {a1' : _} {a2 : _} {a2' : _} {a3 : _} (h1 : a1 = a1') (h2 : a2 = a2') : q1ek a0 a1 a2 a3 = q1ek a0 a1' a2' a3 := by subst_vars; rfl
@[congr] theorem q1e6 {a0 : _} {a0' : _} {a1 : _} {a1' : _} {a2 : _} {a3 : _} {a4 : _} {a4' : _} (h0 : a0 = a0') (h1 : a1 = a1') (h4 : a4 = a4') : q1e5 a0 a1 a2 a3 a4 = q1e5 a0' a1' a2 a3 a4' := by subst_vars; rfl
@[congr] theorem q0tl {a0 : _} {a1 : _} {a1' : _} {a2 : _} {a2' : _} {a3 : _} {a4 : _} {a4' : _} (h1 : a1 = a1') (h2 : a2 = a2') (h4 : a4 = a4') : q0tk a0 a1 a2 a3 a4 = q0tk a0 a1' a2' a3 a4' := by subst_vars; rfl
@[congr] theorem q0to {a0 : _} {a0' : _} {a1 : _} {a1' : _} {a2 : _} {a3 : _} {a4 : _} {a4' : _} {a5 : _} {a5' : _} (h0 : a0 = a0') (h1 : a1 = a1') (h4 : a4 = a4') (h5 : a5 = a5') : q0tm a0 a1 a2 a3 a4 a5 = q0tm a0' a1' a2 a3 a4' a5' := by subst_vars; rfl
@[congr] theorem q0cx {a0 : _} {a0' : _} {a1 : _} {a1' : _} {a2 : _} (h0 : a0 = a0') (h1 : a1 = a1') : q0cw a0 a1 a2 = q0cw a0' a1' a2 := by subst_vars; rfl
@[congr] theorem q0d9 {a0 : _} {a0' : _} {a1 : _} {a1' : _} {a2 : _} (h0 : a0 = a0') (h1 : a1 = a1') : q0d8 a0 a1 a2 = q0d8 a0' a1' a2 := by subst_vars; rfl
@[congr] theorem q0l6 {a0 : _} {a1 : _} {a2 : _} {a3 : _} {a3' : _} {a4 : _} {a4' : _} (h3 : a3 = a3') (h4 : a4 = a4') : newK a0 a1 a2 a3 a4 = newK a0 a1 a2 a3' a4' := by subst_vars; rfl
@[congr] theorem q02k {a0 : _} {a0' : _} {a1 : _} {a2 : _} {a2' : _} {a3 : _} (h0 : a0 = a0') (h2 : a2 = a2') : boxW a0 a1 a2 a3 = boxW a0' a1 a2' a3 := by subst_vars; rfl
@[congr] theorem q02x {a0 : _} {a1 : _} {a2 : _} {a2' : _} {a3 : _} (h2 : a2 = a2') : q02w a0 a1 a2 a3 = q02w a0 a1 a2' a3 := by subst_vars; rfl
@[congr] theorem q02m {a0 : _} {a1 : _} {a2 : _} {a3 : _} {a3' : _} {a4 : _} {a5 : _} {a5' : _} (h3 : a3 = a3') (h5 : a5 = a5') : q02l a0 a1 a2 a3 a4 a5 = q02l a0 a1 a2 a3' a4 a5' := by subst_vars; rfl
@[congr] theorem q0jd {a0 : _} {a1 : _} {a2 : _} {a2' : _} {a3 : _} {a3' : _} {a4 : _} {a5 : _} {a6 : _} {a6' : _} (h2 : a2 = a2') (h3 : a3 = a3') (h6 : a6 = a6') : makeC a0 a1 a2 a3 a4 a5 a6 = makeC a0 a1 a2' a3' a4 a5 a6' := by subst_vars; rfl
@[congr] theorem q01o {a0 : _} {a0' : _} {a1 : _} {a1' : _} {a2 : _} {a3 : _} (h0 : a0 = a0') (h1 : a1 = a1') : q01n a0 a1 a2 a3 = q01n a0' a1' a2 a3 := by subst_vars; rfl
@[congr] theorem q016 {a0 : _} {a0' : _} {a1 : _} {a2 : _} {a3 : _} {a4 : _} {a5 : _} {a5' : _} {a6 : _} {a6' : _} (h0 : a0 = a0') (h5 : a5 = a5') (h6 : a6 = a6') : q014 a0 a1 a2 a3 a4 a5 a6 = q014 a0' a1 a2 a3 a4 a5' a6' := by subst_vars; rfl
@[congr] theorem q019 {a0 : _} {a1 : _} {a2 : _} {a3 : _} {a4 : _} {a4' : _} {a5 : _} {a5' : _} {a6 : _} {a6' : _} (h4 : a4 = a4') (h5 : a5 = a5') (h6 : a6 = a6') : q017 a0 a1 a2 a3 a4 a5 a6 = q017 a0 a1 a2 a3 a4' a5' a6' := by subst_vars; rfl
@[congr] theorem q0td {a0 : _} {a0' : _} {a1 : _} {a1' : _} {a2 : _} {a3 : _} (h0 : a0 = a0') (h1 : a1 = a1') : srcW a0 a1 a2 a3 = srcW a0' a1' a2 a3 := by subst_vars; rfl
@[congr] theorem q07q {a0 : _} {a1 : _} {a1' : _} {a2 : _} (h1 : a1 = a1') : q07p a0 a1 a2 = q07p a0 a1' a2 := by subst_vars; rfl
@[congr] theorem q0lq {a0 : _} {a0' : _} {a1 : _} {a1' : _} {a2 : _} (h0 : a0 = a0') (h1 : a1 = a1') : q0lp a0 a1 a2 = q0lp a0' a1' a2 := by subst_vars; rfl
@[congr] theorem q0kk {a0 : _} {a1 : _} {a1' : _} {a2 : _} {a2' : _} {a3 : _} (h1 : a1 = a1') (h2 : a2 = a2') : mmW a0 a1 a2 a3 = mmW a0 a1' a2' a3 := by subst_vars; rfl
@[congr] theorem q0fs {a0 : _} {a1 : _} {a1' : _} {a2 : _} {a2' : _} {a3 : _} (h1 : a1 = a1') (h2 : a2 = a2') : q0fr a0 a1 a2 a3 = q0fr a0 a1' a2' a3 := by subst_vars; rfl
@[congr] theorem q0rp {a0 : _} {a1 : _} {a1' : _} {a2 : _} {a2' : _} {a3 : _} {a3' : _} {a4 : _} {a4' : _} {a5 : _} (h1 : a1 = a1') (h2 : a2 = a2') (h3 : a3 = a3') (h4 : a4 = a4') : slcC a0 a1 a2 a3 a4 a5 = slcC a0 a1' a2' a3' a4' a5 := by subst_vars; rfl
@[congr] theorem q01t {a0 : _} {a1 : _} {a2 : _} {a2' : _} {a3 : _} {a3' : _} {a4 : _} (h2 : a2 = a2') (h3 : a3 = a3') : q01s a0 a1 a2 a3 a4 = q01s a0 a1 a2' a3' a4 := by subst_vars; rfl
@[congr] theorem q025 {a0 : _} {a1 : _} {a1' : _} {a2 : _} {a2' : _} {a3 : _} (h1 : a1 = a1') (h2 : a2 = a2') : binW a0 a1 a2 a3 = binW a0 a1' a2' a3 := by subst_vars; rfl
@[congr] theorem q023 {a0 : _} {a1 : _} {a2 : _} {a2' : _} {a3 : _} {a3' : _} {a4 : _} (h2 : a2 = a2') (h3 : a3 = a3') : binI a0 a1 a2 a3 a4 = binI a0 a1 a2' a3' a4 := by subst_vars; rfl
@[congr] theorem q0ww {a0 : _} {a1 : _} {a1' : _} {a2 : _} (h1 : a1 = a1') : unW a0 a1 a2 = unW a0 a1' a2 := by subst_vars; rfl
@[congr] theorem q08x {a0 : _} {a0' : _} {a1 : _} {a2 : _} (h0 : a0 = a0') : q08w a0 a1 a2 = q08w a0' a1 a2 := by subst_vars; rfl
@[congr] theorem q00q {a0 : _} {a0' : _} {a1 : _} {a2 : _} {a3 : _} {a3' : _} {a4 : _} {a4' : _} {a5 : _} (h0 : a0 = a0') (h3 : a3 = a3') (h4 : a4 = a4') : q00p a0 a1 a2 a3 a4 a5 = q00p a0' a1 a2 a3' a4' a5 := by subst_vars; rfl
@[congr] theorem q007 {a0 : _} {a1 : _} {a2 : _} {a3 : _} {a4 : _} {a5 : _} {a6 : _} {a6' : _} (h6 : a6 = a6') : q006 a0 a1 a2 a3 a4 a5 a6 = q006 a0 a1 a2 a3 a4 a5 a6' := by subst_vars; rfl
@[congr] theorem q00e {a0 : _} {a1 : _} {a2 : _} {a3 : _} {a4 : _} {a4' : _} (h4 : a4 = a4') : SemC a0 a1 a2 a3 a4 = SemC a0 a1 a2 a3 a4' := by subst_vars; rfl
@[congr] theorem q086 {a0 : _} {a1 : _} {a2 : _} {a3 : _} {a4 : _} {a4' : _} (h4 : a4 = a4') : q085 a0 a1 a2 a3 a4 = q085 a0 a1 a2 a3 a4' := by subst_vars; rfl
@[congr] theorem q0g4 {a0 : _} {a1 : _} {a2 : _} {a3 : _} {a4 : _} {a5 : _} {a5' : _} (h5 : a5 = a5') : q0g3 a0 a1 a2 a3 a4 a5 = q0g3 a0 a1 a2 a3 a4 a5' := by subst_vars; rfl
@[congr] theorem q0x8 {a0 : _} {a1 : _} {a2 : _} {a3 : _} {a4 : _} {a5 : _} {a5' : _} (h5 : a5 = a5') : valD a0 a1 a2 a3 a4 a5 = valD a0 a1 a2 a3 a4 a5' := by subst_vars; rfl
@[congr] theorem q07d {a0 : _} {a1 : _} {a2 : _} {a3 : _} {a3' : _} {a4 : _} {a4' : _} {a5 : _} (h3 : a3 = a3') (h4 : a4 = a4') : coV a0 a1 a2 a3 a4 a5 = coV a0 a1 a2 a3' a4' a5 := by subst_vars; rfl
@[congr] theorem q06y {a0 : _} {a1 : _} {a2 : _} {a3 : _} {a4 : _} {a5 : _} {a6 : _} {a6' : _} (h6 : a6 = a6') : coC a0 a1 a2 a3 a4 a5 a6 = coC a0 a1 a2 a3 a4 a5 a6' := by subst_vars; rfl
@[congr] theorem q076 {a0 : _} {a1 : _} {a2 : _} {a3 : _} {a4 : _} {a4' : _} (h4 : a4 = a4') : coH a0 a1 a2 a3 a4 = coH a0 a1 a2 a3 a4' := by subst_vars; rfl
@[congr] theorem q07c {a0 : _} {a1 : _} {a2 : _} {a2' : _} (h2 : a2 = a2') : coN a0 a1 a2 = coN a0 a1 a2' := by subst_vars; rfl
@[congr] theorem q005 {a0 : _} {a1 : _} {a2 : _} {a3 : _} {a4 : _} {a4' : _} {a5 : _} {a5' : _} {a6 : _} (h4 : a4 = a4') (h5 : a5 = a5') : q004 a0 a1 a2 a3 a4 a5 a6 = q004 a0 a1 a2 a3 a4' a5' a6 := by subst_vars; rfl
@[congr] theorem q001 {a0 : _} {a1 : _} {a2 : _} {a3 : _} {a4 : _} {a5 : _} {a6 : _} {a7 : _} {a7' : _} (h7 : a7 = a7') : q000 a0 a1 a2 a3 a4 a5 a6 a7 = q000 a0 a1 a2 a3 a4 a5 a6 a7' := by subst_vars; rfl
@[congr] theorem q003 {a0 : _} {a1 : _} {a2 : _} {a3 : _} {a4 : _} {a5 : _} {a6 : _} {a6' : _} (h6 : a6 = a6') : q002 a0 a1 a2 a3 a4 a5 a6 = q002 a0 a1 a2 a3 a4 a5 a6' := by subst_vars; rfl
@[congr] theorem q0is {a0 : _} {a1 : _} {a1' : _} {a2 : _} {a2' : _} {a3 : _} (h1 : a1 = a1') (h2 : a2 = a2') : q0ip a0 a1 a2 a3 = q0ip a0 a1' a2' a3 := by subst_vars; rfl
@[congr] theorem q0ig {a0 : _} {a0' : _} {a1 : _} {a1' : _} {a2 : _} (h0 : a0 = a0') (h1 : a1 = a1') : q0id a0 a1 a2 = q0id a0' a1' a2 := by subst_vars; rfl
@[congr] theorem q05y {a0 : _} {a0' : _} {a1 : _} {a1' : _} {a2 : _} {a2' : _} {a3 : _} {a4 : _} (h0 : a0 = a0') (h1 : a1 = a1') (h2 : a2 = a2') : q05w a0 a1 a2 a3 a4 = q05w a0' a1' a2' a3 a4 := by subst_vars; rfl
@[congr] theorem q0of {a0 : _} {a0' : _} {a1 : _} {a2 : _} {a3 : _} {a3' : _} (h0 : a0 = a0') (h3 : a3 = a3') : putD a0 a1 a2 a3 = putD a0' a1 a2 a3' := by subst_vars; rfl
@[congr] theorem q0pn {a0 : _} {a1 : _} {a2 : _} {a3 : _} {a4 : _} {a4' : _} {a5 : _} {a5' : _} (h4 : a4 = a4') (h5 : a5 = a5') : retP a0 a1 a2 a3 a4 a5 = retP a0 a1 a2 a3 a4' a5' := by subst_vars; rfl
@[congr] theorem q0pg {a0 : _} {a1 : _} {a1' : _} {a2 : _} {a3 : _} (h1 : a1 = a1') : retL a0 a1 a2 a3 = retL a0 a1' a2 a3 := by subst_vars; rfl
@[congr] theorem q0pk {a0 : _} {a1 : _} {a1' : _} {a2 : _} {a3 : _} (h1 : a1 = a1') : q0pj a0 a1 a2 a3 = q0pj a0 a1' a2 a3 := by subst_vars; rfl
@[congr] theorem q0d5 {a0 : _} {a0' : _} {a1 : _} {a1' : _} {a2 : _} (h0 : a0 = a0') (h1 : a1 = a1') : q0d0 a0 a1 a2 = q0d0 a0' a1' a2 := by subst_vars; rfl
@[congr] theorem q0d2 {a0 : _} {a0' : _} {a1 : _} {a1' : _} {a2 : _} (h0 : a0 = a0') (h1 : a1 = a1') : q0d1 a0 a1 a2 = q0d1 a0' a1' a2 := by subst_vars; rfl
@[congr] theorem q0q0 {a0 : _} {a0' : _} {a1 : _} {a2 : _} {a3 : _} (h0 : a0 = a0') : q0pz a0 a1 a2 a3 = q0pz a0' a1 a2 a3 := by subst_vars; rfl

theorem q09t {α : Type} {l : List α} {i : Nat} {c : α} (h : l[i]? = some c) (P : α -> Prop) : (∀ c', l[i]? = some c' -> P c') = P c := by
  rw [h]; simp

end Go.Ab

/- The abstract layer, part 31: reads of single cells whose value is known. -/
namespace Go.Ab

theorem q09u {α : Type} {l : List α} {i : Nat} {d : α} {P : α -> Prop} : (i < l.length /\ ∀ c, l[i]? = some c -> P c) = (i < l.length /\ P (l[i]?.getD d)) := by
  refine propext ⟨fun h => ⟨h.1, ?_⟩, fun h => ⟨h.1, fun c hc => ?_⟩⟩
  · have := h.2 _ (List.getElem?_eq_getElem h.1)
    rw [List.getElem?_eq_getElem h.1]; exact this
  · have := h.2; rw [hc] at this; exact this
theorem q0i9 {l : List T} {off d : Nat} {K : St -> Prop} {S : St} : q0i5 (.t (.pin l off)) d K S = (off < l.length /\ K { S with env := upd S.env d (.t (l[off]?.getD .any)) }) := q09u (P := fun c => K { S with env := upd S.env d (.t c) })
def q0ic (r off d : Nat) (K : St -> Prop) (S : St) (x : Option (List T × List (Nat × Nat))) : Prop := match x with
  | some (l, lk) => off < l.length /\ (match lk.lookup off with
      | some q => K { S with env := upd S.env d (.own q) }
      | none => q0il S r off d l lk (l[off]?.getD .any) K)
  | none => False
theorem q0ia {r off d : Nat} {K : St -> Prop} {S : St} : q0i5 (.ptr r off) d K S = q0ic r off d K S (S.roots r).cells := by
  show (match (S.roots r).cells with
    | some (l, lk) => off < l.length /\ (match lk.lookup off with
      | some q => K { S with env := upd S.env d (.own q) }
      | none => ∀ c, l[off]? = some c -> q0il S r off d l lk c K)
    | none => False) = _
  unfold q0ic
  cases (S.roots r).cells with
  | none => rfl
  | some x =>
    obtain ⟨l, lk⟩ := x
    show (off < l.length /\ (match lk.lookup off with
      | some q => K { S with env := upd S.env d (.own q) }
      | none => ∀ c, l[off]? = some c -> q0il S r off d l lk c K)) = (off < l.length /\ (match lk.lookup off with
      | some q => K { S with env := upd S.env d (.own q) }
      | none => q0il S r off d l lk (l[off]?.getD .any) K))
    cases lk.lookup off with
    | some q => rfl
    | none => exact q09u (P := fun c => q0il S r off d l lk c K)
def q0ib (r d : Nat) (K : St -> Prop) (S : St) (x : Root) : Prop := match x with
  | .live (.box l) lk => 0 < l.length /\ (match lk.lookup 0 with
      | some q => K { S with env := upd S.env d (.own q) }
      | none => q0il S r 0 d l lk (l[0]?.getD .any) K)
  | _ => False
theorem q0i8 {r d : Nat} {K : St -> Prop} {S : St} : q0i5 (.own r) d K S = q0ib r d K S (S.roots r) := by
  show (match S.roots r with
    | .live (.box l) lk => 0 < l.length /\ (match lk.lookup 0 with
      | some q => K { S with env := upd S.env d (.own q) }
      | none => ∀ c, l[0]? = some c -> q0il S r 0 d l lk c K)
    | _ => False) = _
  unfold q0ib
  cases S.roots r with
  | live t lk =>
    cases t with
    | box l =>
      show (0 < l.length /\ (match lk.lookup 0 with
        | some q => K { S with env := upd S.env d (.own q) }
        | none => ∀ c, l[0]? = some c -> q0il S r 0 d l lk c K)) = (0 < l.length /\ (match lk.lookup 0 with
        | some q => K { S with env := upd S.env d (.own q) }
        | none => q0il S r 0 d l lk (l[0]?.getD .any) K))
      cases lk.lookup 0 with
      | some q => rfl
      | none => exact q09u (P := fun c => q0il S r 0 d l lk c K)
    | _ => rfl
  | _ => rfl
theorem q0ij {l : List T} {off : Nat} {S : St} {K : A -> Prop} : q0id (.t (.pin l off)) S K = (off < l.length /\ K (.t (l[off]?.getD .any))) := q09u (P := fun c => K (.t c))
def q0if (off : Nat) (K : A -> Prop) (x : Option (List T × List (Nat × Nat))) : Prop := match x with
  | some (l, lk) => off < l.length /\ (match lk.lookup off with
      | some q => K (.own q)
      | none => (l[off]?.getD T.any).flat = true /\ K (.t (l[off]?.getD .any)))
  | none => False
theorem q0ik {r off : Nat} {S : St} {K : A -> Prop} : q0id (.ptr r off) S K = q0if off K (S.roots r).cells := by
  show (match (S.roots r).cells with
    | some (l, lk) => off < l.length /\ (match lk.lookup off with
      | some q => K (.own q)
      | none => ∀ c : T, l[off]? = some c -> c.flat = true /\ K (.t c))
    | none => False) = _
  unfold q0if
  cases (S.roots r).cells with
  | none => rfl
  | some x =>
    obtain ⟨l, lk⟩ := x
    show (off < l.length /\ (match lk.lookup off with
      | some q => K (.own q)
      | none => ∀ c : T, l[off]? = some c -> c.flat = true /\ K (.t c))) = (off < l.length /\ (match lk.lookup off with
      | some q => K (.own q)
      | none => (l[off]?.getD T.any).flat = true /\ K (.t (l[off]?.getD .any))))
    cases lk.lookup off with
    | some q => rfl
    | none => exact q09u (P := fun c : T => c.flat = true /\ K (.t c))
def q0ie (K : A -> Prop) (x : Root) : Prop := match x with
  | .live (.box l) lk => 0 < l.length /\ (match lk.lookup 0 with
      | some q => K (.own q)
      | none => (l[0]?.getD T.any).flat = true /\ K (.t (l[0]?.getD .any)))
  | _ => False
theorem q0ii {r : Nat} {S : St} {K : A -> Prop} : q0id (.own r) S K = q0ie K (S.roots r) := by
  show (match S.roots r with
    | .live (.box l) lk => 0 < l.length /\ (match lk.lookup 0 with
      | some q => K (.own q)
      | none => ∀ c : T, l[0]? = some c -> c.flat = true /\ K (.t c))
    | _ => False) = _
  unfold q0ie
  cases S.roots r with
  | live t lk =>
    cases t with
    | box l =>
      show (0 < l.length /\ (match lk.lookup 0 with
        | some q => K (.own q)
        | none => ∀ c : T, l[0]? = some c -> c.flat = true /\ K (.t c))) = (0 < l.length /\ (match lk.lookup 0 with
        | some q => K (.own q)
        | none => (l[0]?.getD T.any).flat = true /\ K (.t (l[0]?.getD .any))))
      cases lk.lookup 0 with
      | some q => rfl
      | none => exact q09u (P := fun c : T => c.flat = true /\ K (.t c))
    | _ => rfl
  | _ => rfl
section
variable {S : St} {K : A -> Prop}
def lenO (K : A -> Prop) : Root -> Prop
  | .live (.arr s l) _ => 0 < s /\ K (.v (.int .i64 ((l.length / s : Nat) : Int)))
  | _ => False
theorem q0hy : lenC (.t (.v (.slice none 0 0))) S K = K (.v (.int .i64 0)) := rfl
theorem q0i0 {s : Nat} {l : List T} : lenC (.t (.sh s l)) S K = (0 < s /\ K (.v (.int .i64 ((l.length / s : Nat) : Int)))) := rfl
theorem q0hz {r : Nat} : lenC (.own r) S K = lenO K (S.roots r) := by
  show (match S.roots r with | .live (.arr s l) _ => 0 < s /\ K (.v (.int .i64 ((l.length / s : Nat) : Int))) | _ => False) = _
  cases S.roots r with
  | live t lk => cases t <;> rfl
  | _ => rfl
theorem q0i1 {r off m : Nat} : lenC (.sub r off m) S K = K (.v (.int .i64 (m : Nat))) := rfl
def idxO (z r : Nat) (iv : Int) (K : A -> Prop) : Root -> Prop
  | .live (.arr s l) _ => s = z /\ (iv.toNat + 1) * z <= l.length /\ K (.ptr r (iv.toNat * z))
  | _ => False
theorem q0e3 {z s : Nat} {l : List T} {k : IntKind} {iv : Int} : idxC z (.t (.sh s l)) (.t (.v (.int k iv))) S K = (0 <= iv /\ s = z /\ (iv.toNat + 1) * z <= l.length /\ K (.t (.pin l (iv.toNat * z)))) := rfl
theorem q0e2 {z r : Nat} {k : IntKind} {iv : Int} : idxC z (.own r) (.t (.v (.int k iv))) S K = (0 <= iv /\ idxO z r iv K (S.roots r)) := by
  show (0 <= iv /\ (match S.roots r with | .live (.arr s l) _ => s = z /\ (iv.toNat + 1) * z <= l.length /\ K (.ptr r (iv.toNat * z)) | _ => False)) = _
  cases S.roots r with
  | live t lk => cases t <;> rfl
  | _ => rfl
theorem q0e4 {z r off m : Nat} {k : IntKind} {iv : Int} : idxC z (.sub r off m) (.t (.v (.int k iv))) S K = (0 <= iv /\ iv.toNat < m /\ K (.ptr r (off + iv.toNat * z))) := rfl
def fldO (r off : Nat) (K : A -> Prop) : Root -> Prop
  | .live (.box _) _ => K (.ptr r off)
  | _ => False
theorem q09i {off o : Nat} {l : List T} : fldC off (.t (.pin l o)) S K = K (.t (.pin l (o + off))) := rfl
theorem q09j {off o r : Nat} : fldC off (.ptr r o) S K = K (.ptr r (o + off)) := rfl
theorem q09h {off r : Nat} : fldC off (.own r) S K = fldO r off K (S.roots r) := by
  show (match S.roots r with | .live (.box _) _ => K (.ptr r off) | _ => False) = _
  cases S.roots r with
  | live t lk => cases t <;> rfl
  | _ => rfl
def arrO (z r : Nat) (iv : Int) (K : A -> Prop) : Root -> Prop
  | .live (.box _) _ => K (.ptr r (iv.toNat * z))
  | _ => False
theorem q01l {len z o : Nat} {l : List T} {k : IntKind} {iv : Int} : arrC len z (.t (.pin l o)) (.t (.v (.int k iv))) S K = (0 <= iv /\ iv < len /\ K (.t (.pin l (o + iv.toNat * z)))) := rfl
theorem q01m {len z r o : Nat} {k : IntKind} {iv : Int} : arrC len z (.ptr r o) (.t (.v (.int k iv))) S K = (0 <= iv /\ iv < len /\ K (.ptr r (o + iv.toNat * z))) := rfl
theorem q01k {len z r : Nat} {k : IntKind} {iv : Int} : arrC len z (.own r) (.t (.v (.int k iv))) S K = (0 <= iv /\ iv < len /\ arrO z r iv K (S.roots r)) := by
  show (0 <= iv /\ iv < len /\ (match S.roots r with | .live (.box _) _ => K (.ptr r (iv.toNat * z)) | _ => False)) = _
  cases S.roots r with
  | live t lk => cases t <;> rfl
  | _ => rfl
def q0ir (off z : Nat) (K : A -> Prop) : Option (List T × List (Nat × Nat)) -> Prop
  | some (l, lk) => off + z <= l.length /\ q05w l lk off z K
  | none => False
def q0iq (z : Nat) (K : A -> Prop) : Root -> Prop
  | .live (.box l) lk => z <= l.length /\ q05w l lk 0 z K
  | _ => False
theorem q0iu {z off : Nat} {l : List T} : q0ip z (.t (.pin l off)) S K = (off + z <= l.length /\ K (.t (.agg ((l.drop off).take z)))) := rfl
theorem q0iv {z r off : Nat} : q0ip z (.ptr r off) S K = q0ir off z K (S.roots r).cells := by
  show (match (S.roots r).cells with
    | some (l, lk) => off + z <= l.length /\ q05w l lk off z K
    | none => False) = _
  unfold q0ir
  cases (S.roots r).cells <;> rfl
theorem q0it {z r : Nat} : q0ip z (.own r) S K = q0iq z K (S.roots r) := by
  show (match S.roots r with
    | .live (.box l) lk => z <= l.length /\ q05w l lk 0 z K
    | _ => False) = _
  cases S.roots r with
  | live t lk => cases t <;> rfl
  | _ => rfl
end
/- In texts that take q0i5 out of go_sem (inside a section), these rules stand for it: a read whose place is not known is not unfolded. -/
attribute [go_sem] q01l q01m q01k arrO q0i9 q0ia q0ic q0i8 q0ib q0ij q0ik q0if q0ii q0ie q0hy q0i0 q0hz q0i1 lenO q0e3 q0e2 q0e4 idxO q09i q09j q09h fldO q0iu q0iv q0it q0ir q0iq Option.getD_some
end Go.Ab

/- The abstract layer, part 32: what a cell of a root owns becomes data that is only read. -/
namespace Go.Ab

theorem Weak.shareJoin {n : Nat} {S : St} (r o d : Nat) {t : T} {l : List T} {lk : List (Nat × Nat)} (hd : S.roots d = .live t []) (hr : (S.roots r).cells = some (l, lk)) (hne : d ≠ r) (hc : l[o]? = some .any) (hlk : (o, d) ∈ lk) :
    Weak n S ⟨fun i => q0rg d t (S.env i), upd (upd S.roots d .dead) r ((S.roots r).with (l.set o t.toSh) (lk.filter fun p => p.1 < o || o + 1 <= p.1))⟩ := by
  intro X w0 O0 a w hs fp g
  obtain ⟨ho, hany⟩ := List.getElem?_eq_some_iff.1 hc
  have hroot := g.root d
  rw [hd] at hroot
  obtain ⟨x, hx, hox, _⟩ := hroot
  have hsub : ∀ q b, b ∈ upd fp d [] q -> q ≠ d /\ b ∈ fp q := fun q b hb => by
    by_cases hq : q = d
    · subst hq; rw [q0x2] at hb; simp at hb
    · rw [q0x1 _ _ _ _ hq] at hb; exact ⟨hq, hb⟩
  have hO : ∀ b, ¬ Ob X fp b -> b < w.heap.size -> ¬ Ob X (upd fp d []) b := fun b h _ h' => by
    rcases h' with h' | ⟨q, hq⟩
    · exact h (.inl h')
    · exact h (.inr ⟨q, (hsub q b hq).2⟩)
  have hk : ∀ p, q009 p w w := fun p _ _ _ _ _ h => h
  have hd0 : ∀ b ∈ fp d, ¬ Ob X (upd fp d []) b := fun b hb h => by
    rcases h with h | ⟨q, hq⟩
    · exact g.foreign d b hb h
    · obtain ⟨h1, h2⟩ := hsub q b hq; exact h1 (g.disj q d b h2 hb)
  refine ⟨hs, upd fp d [], g.size, g.defers, fun i => ?_, fun q => ?_, fun q q' b h h' => g.disj q q' b (hsub q b h).2 (hsub q' b h').2, fun q => ?_, fun q b h => g.foreign q b (hsub q b h).2, g.xold, g.xout, fun q b h => g.mine q b (hsub q b h).2, g.hist, fun q t' lk' h => ?_, g.hdr, g.small, g.pin⟩
  · have hi := g.env i
    show Is w (Ob X (upd fp d [])) hs (q0rg d t (S.env i)) _
    generalize S.env i = y at hi
    cases y with
    | own q' =>
      simp only [q0rg]
      split
      · rename_i he
        subst he
        have := hi.own_inv
        rw [hx, Option.some.injEq] at this
        rw [← this]
        exact .t (hox.toSh hO hd0)
      · exact hi.mono (hk _) hO (fun _ _ h => h)
    | _ => exact hi.mono (hk _) hO (fun _ _ h => h)
  · show q00d w _ hs (upd (upd S.roots d .dead) r _ q) (hs q) (upd fp d [] q)
    by_cases hq : q = r
    · subst hq
      rw [q0x2, q0x1 _ _ _ _ (Ne.symm hne)]
      obtain ⟨b, xr, cs, e, fps, hxr, hxb, hb, hle, hf, hrr, hfp, hl, hmk⟩ := g.block hr ho
      obtain ⟨y, hy1, hy2⟩ := hl _ hlk
      rw [hx] at hy2; cases hy2
      have hcell := q060 hb (show o < cs.size by omega)
      rw [hcell] at hy1; cases hy1
      rw [hxr, hfp]
      refine hmk w _ _ cs _ _ _ hb rfl (by simp) (by simpa using hf) (fun i hi => ?_) (fun p hp => hl p ((List.mem_filter.1 hp).1))
      have hi' : i < l.length := by simpa using hi
      by_cases hio : o = i
      · subst hio
        simp only [List.getElem_set_self]
        have h1 := hrr o ho
        rw [hany] at h1
        generalize fps.getD o [] = f at h1
        cases h1
        exact .rd (hox.toSh hO hd0)
      · simp only [List.getElem_set_ne hio]
        exact (hrr i hi').mono (hk _) hO (hk _)
    · rw [q0x1 _ _ _ _ hq]
      by_cases hqd : q = d
      · subst hqd; rw [q0x2, q0x2]; rfl
      · rw [q0x1 _ _ _ _ hqd, q0x1 _ _ _ _ hqd]
        exact g.keepRoot q (hk _) hO (fun _ _ h => h) rfl (fun b _ => rfl)
  · by_cases hq : q = d
    · subst hq; rw [q0x2]; simp
    · rw [q0x1 _ _ _ _ hq]; exact g.nodup q
  · have h : upd (upd S.roots d .dead) r ((S.roots r).with (l.set o t.toSh) (lk.filter fun p => p.1 < o || o + 1 <= p.1)) q = .live t' lk' := h
    by_cases hq : q = r
    · subst hq
      rw [q0x2] at h
      rcases Root.cells_spec hr with ⟨s, h1⟩ | h1 <;> rw [h1] at h <;> cases h <;> rfl
    · rw [q0x1 _ _ _ _ hq] at h
      by_cases hqd : q = d
      · subst hqd; rw [q0x2] at h; cases h
      · rw [q0x1 _ _ _ _ hqd] at h; exact g.rooty q t' lk' h
theorem q09e {fps : List (List Nat)} {o : Nat} {f : List Nat} (ho : o < fps.length) (h0 : fps.getD o [] = []) : ∃ A B : List Nat, fps.flatten = A ++ B /\ (fps.set o f).flatten = A ++ (f ++ B) := by
  refine ⟨(fps.take o).flatten, (fps.drop (o + 1)).flatten, ?_, ?_⟩
  · conv => lhs; rw [← List.take_append_drop o fps, List.drop_eq_getElem_cons ho]
    rw [List.flatten_append, List.flatten_cons]
    have : fps[o] = [] := by rw [List.getD_eq_getElem?_getD, List.getElem?_eq_getElem ho] at h0; exact h0
    rw [this]; rfl
  · rw [List.set_eq_take_append_cons_drop, if_pos ho, List.flatten_append, List.flatten_cons]
theorem Weak.close {n : Nat} {S : St} (r o d : Nat) {t : T} {l : List T} {lk : List (Nat × Nat)} (hd : S.roots d = .live t []) (hr : (S.roots r).cells = some (l, lk)) (hne : d ≠ r) (hc : l[o]? = some .any) (hlk : (o, d) ∈ lk) :
    Weak n S ⟨S.env, upd (upd S.roots d .dead) r ((S.roots r).with (l.set o t) (lk.filter fun p => p.1 < o || o + 1 <= p.1))⟩ := by
  intro X w0 O0 a w hs fp g
  obtain ⟨ho, hany⟩ := List.getElem?_eq_some_iff.1 hc
  have hroot := g.root d
  rw [hd] at hroot
  obtain ⟨x, hx, hox, _⟩ := hroot
  obtain ⟨b, xr, cs, e, fps, hxr, hxb, hb, hle, hf, hrr, hfp, hl, hmk⟩ := g.block hr ho
  obtain ⟨y, hy1, hy2⟩ := hl _ hlk
  rw [hx] at hy2; cases hy2
  have hcell := q060 hb (show o < cs.size by omega)
  rw [hcell] at hy1; cases hy1
  have h0 : fps.getD o [] = [] := by
    have h1 := hrr o ho
    rw [hany] at h1
    generalize fps.getD o [] = f at h1
    cases h1; rfl
  obtain ⟨A, B, e1, e2⟩ := q09e (f := fp d) (show o < fps.length by omega) h0
  have hnr := g.nodup r
  rw [hfp, e1] at hnr
  have hdr : ∀ b' ∈ fp d, b' ≠ b /\ b' ∉ A /\ b' ∉ B := fun b' hb' => by
    have key : ∀ z ∈ fp r, z ≠ b' := fun z hz he => by subst he; exact hne (g.disj d r z hb' hz)
    rw [hfp, e1] at key
    exact ⟨fun h => key b (by simp) h.symm, fun h => key b' (by simp [h]) rfl, fun h => key b' (by simp [h]) rfl⟩
  let fp' := upd (upd fp d []) r (b :: (fps.set o (fp d)).flatten)
  have er : fp' r = b :: (A ++ (fp d ++ B)) := by show upd _ _ _ _ = _; rw [q0x2, e2]
  have ed : fp' d = [] := by show upd _ _ _ _ = _; rw [q0x1 _ _ _ _ hne, q0x2]
  have eo : ∀ q, q ≠ r -> q ≠ d -> fp' q = fp q := fun q h1 h2 => by show upd _ _ _ _ = _; rw [q0x1 _ _ _ _ h1, q0x1 _ _ _ _ h2]
  have sub : ∀ q b', b' ∈ fp' q -> (q = r /\ (b' ∈ fp r ∨ b' ∈ fp d)) ∨ (q ≠ r /\ q ≠ d /\ b' ∈ fp q) := fun q b' hq => by
    by_cases h1 : q = r
    · subst h1
      refine .inl ⟨rfl, ?_⟩
      rw [er] at hq
      rw [hfp, e1]
      simp only [List.mem_cons, List.mem_append] at hq ⊢
      rcases hq with h | h | h | h
      · exact .inl (.inl h)
      · exact .inl (.inr (.inl h))
      · exact .inr h
      · exact .inl (.inr (.inr h))
    · by_cases h2 : q = d
      · subst h2; rw [ed] at hq; simp at hq
      · rw [eo q h1 h2] at hq; exact .inr ⟨h1, h2, hq⟩
  have hOb : Ob X fp' = Ob X fp := funext fun b' => propext ⟨fun h => by
    rcases h with h | ⟨q, hq⟩
    · exact .inl h
    · rcases sub q b' hq with ⟨rfl, h | h⟩ | ⟨_, _, h⟩
      · exact .inr ⟨_, h⟩
      · exact .inr ⟨_, h⟩
      · exact .inr ⟨_, h⟩, fun h => by
    rcases h with h | ⟨q, hq⟩
    · exact .inl h
    · refine .inr ?_
      by_cases h1 : q = r
      · subst h1
        refine ⟨q, ?_⟩
        rw [er]
        rw [hfp, e1] at hq
        simp only [List.mem_cons, List.mem_append] at hq ⊢
        rcases hq with h | h | h
        · exact .inl h
        · exact .inr (.inl h)
        · exact .inr (.inr (.inr h))
      · by_cases h2 : q = d
        · subst h2
          refine ⟨r, ?_⟩
          rw [er]; simp [hq]
        · exact ⟨q, by rw [eo q h1 h2]; exact hq⟩⟩
  have back : ∀ q b', b' ∈ fp' q -> ∃ q', b' ∈ fp q' := fun q b' h => by
    rcases sub q b' h with ⟨rfl, h | h⟩ | ⟨_, _, h⟩ <;> exact ⟨_, h⟩
  refine ⟨hs, fp', g.size, g.defers, fun i => ?_, fun q => ?_, fun q q' b' h h' => ?_, fun q => ?_, fun q b' h => ?_, g.xold, g.xout, fun q b' h => ?_, g.hist, fun q t' lk' h => ?_, g.hdr, g.small, g.pin⟩
  · rw [hOb]; exact g.env i
  · rw [hOb]
    show q00d w _ hs (upd (upd S.roots d .dead) r _ q) (hs q) (fp' q)
    by_cases hq : q = r
    · subst hq
      rw [q0x2, er, ← e2, hxr]
      refine hmk w _ _ cs _ _ _ hb rfl (by simp) (by simpa using hf) (fun i hi => ?_) (fun p hp => hl p (List.mem_filter.1 hp).1)
      have hi' : i < l.length := by simpa using hi
      by_cases hio : o = i
      · subst hio
        simp only [List.getElem_set_self]
        rw [q0r1 (by omega)]
        exact hox
      · simp only [List.getElem_set_ne hio]
        rw [q0r0 hio]
        exact hrr i hi'
    · rw [q0x1 _ _ _ _ hq]
      by_cases hqd : q = d
      · subst hqd; rw [q0x2, ed]; rfl
      · rw [q0x1 _ _ _ _ hqd, eo q hq hqd]; exact g.root q
  · rcases sub q b' h with ⟨rfl, h1⟩ | ⟨h1, h2, h3⟩ <;> rcases sub q' b' h' with ⟨rfl, h1'⟩ | ⟨h1', h2', h3'⟩
    · rfl
    · rcases h1 with h1 | h1
      · exact (h1' (g.disj _ _ b' h3' h1)).elim
      · exact (h2' (g.disj _ _ b' h3' h1)).elim
    · rcases h1' with h1' | h1'
      · exact (h1 (g.disj _ _ b' h3 h1')).elim
      · exact (h2 (g.disj _ _ b' h3 h1')).elim
    · exact g.disj _ _ b' h3 h3'
  · by_cases hq : q = r
    · subst hq
      rw [er]
      obtain ⟨n1, n2⟩ := List.nodup_cons.1 hnr
      obtain ⟨n3, n4, n5⟩ := List.nodup_append.1 n2
      refine List.nodup_cons.2 ⟨fun hm => ?_, List.nodup_append.2 ⟨n3, List.nodup_append.2 ⟨g.nodup d, n4, fun z hz z' hz' e => ?_⟩, fun z hz z' hz' e => ?_⟩⟩
      · simp only [List.mem_append] at hm n1
        rcases hm with h | h | h
        · exact n1 (.inl h)
        · exact (hdr b h).1 rfl
        · exact n1 (.inr h)
      · subst e; exact (hdr z hz).2.2 hz'
      · subst e
        rcases List.mem_append.1 hz' with h | h
        · exact (hdr z h).2.1 hz
        · exact n5 z hz z h rfl
    · by_cases hqd : q = d
      · subst hqd; rw [ed]; simp
      · rw [eo q hq hqd]; exact g.nodup q
  · obtain ⟨q', h'⟩ := back q b' h; exact g.foreign q' b' h'
  · obtain ⟨q', h'⟩ := back q b' h; exact g.mine q' b' h'
  · have h : upd (upd S.roots d .dead) r ((S.roots r).with (l.set o t) (lk.filter fun p => p.1 < o || o + 1 <= p.1)) q = .live t' lk' := h
    by_cases hq : q = r
    · subst hq
      rw [q0x2] at h
      rcases Root.cells_spec hr with ⟨s, h1⟩ | h1 <;> rw [h1] at h <;> cases h <;> rfl
    · rw [q0x1 _ _ _ _ hq] at h
      by_cases hqd : q = d
      · subst hqd; rw [q0x2] at h; cases h
      · rw [q0x1 _ _ _ _ hqd] at h; exact g.rooty q t' lk' h
end Go.Ab

/- The abstract layer, part 37: the one opened child of a box goes back. -/
namespace Go.Ab
theorem Weak.close1 {n : Nat} {S : St} (r o d : Nat) {t : T} {l : List T} (hd : S.roots d = .live t []) (hr : (S.roots r).cells = some (l, [(o, d)])) (hne : d ≠ r) (hc : l[o]? = some .any) :
    Weak n S ⟨S.env, upd (upd S.roots d .dead) r ((S.roots r).with (l.set o t) [])⟩ := by
  have h := Weak.close (n := n) r o d hd hr hne hc (by simp)
  have e : ([(o, d)] : List (Nat × Nat)).filter (fun p => decide (p.1 < o) || decide (o + 1 <= p.1)) = [] := by
    rw [List.filter_cons_of_neg (by simp), List.filter_nil]
  rw [e] at h
  exact h
end Go.Ab

/- The abstract layer, part 52: a slot's root given away where parts of it lie in slots. -/
namespace Go.Ab

def q1th (q : Nat) (t : T) : A -> A
  | .own q' => if q' = q then .t t.toSh else .own q'
  | .sub q' off m => match t with
    | .arr s l => if q' = q /\ 0 < l.length /\ off + m * s <= l.length then .t (.sh s (((T.toShL l).drop off).take (m * s))) else .sub q' off m
    | _ => .sub q' off m
  | a => a
theorem Weak.shareS {n : Nat} {S : St} (q : Nat) {t : T} (hq : S.roots q = .live t []) : Weak n S ⟨fun i => q1th q t (S.env i), upd S.roots q .dead⟩ := by
  intro X w0 O0 a w hs fp g
  have hroot := g.root q
  rw [hq] at hroot
  obtain ⟨x, hx, ho, _⟩ := hroot
  have hsub : ∀ r b, b ∈ upd fp q [] r -> r ≠ q /\ b ∈ fp r := fun r b hb => by
    by_cases hr : r = q
    · subst hr; rw [q0x2] at hb; simp at hb
    · rw [q0x1 _ _ _ _ hr] at hb; exact ⟨hr, hb⟩
  have hO : ∀ b, ¬ Ob X fp b -> b < w.heap.size -> ¬ Ob X (upd fp q []) b := fun b h _ h' => by
    rcases h' with h' | ⟨r, hr⟩
    · exact h (.inl h')
    · exact h (.inr ⟨r, (hsub r b hr).2⟩)
  have hk : ∀ p, q009 p w w := fun p _ _ _ _ _ h => h
  have hq0 : ∀ b ∈ fp q, ¬ Ob X (upd fp q []) b := fun b hb h => by
    rcases h with h | ⟨r, hr⟩
    · exact g.foreign q b hb h
    · obtain ⟨h1, h2⟩ := hsub r b hr; exact h1 (g.disj r q b h2 hb)
  refine ⟨hs, upd fp q [], g.size, g.defers, fun i => ?_, fun r => ?_, fun r r' b h h' => g.disj r r' b (hsub r b h).2 (hsub r' b h').2, fun r => ?_, fun r b h => g.foreign r b (hsub r b h).2, g.xold, g.xout, fun r b h => g.mine r b (hsub r b h).2, g.hist, fun r t lk h => ?_, g.hdr, g.small, g.pin⟩
  · have key : ∀ (y : A) (v : Value), Is w (Ob X fp) hs y v -> Is w (Ob X (upd fp q [])) hs (q1th q t y) v := by
      intro y v hi
      have hi' := hi.mono (hk _) hO (fun _ _ h => h)
      cases y with
      | own q' =>
        simp only [q1th]
        split
        · rename_i he
          subst he
          have := hi.own_inv
          rw [hx, Option.some.injEq] at this
          rw [← this]
          exact .t (ho.toSh hO hq0)
        · exact hi'
      | sub q' off m =>
        cases t with
        | arr s l =>
          simp only [q1th]
          split
          · rename_i hc
            obtain ⟨he, hl0, hol⟩ := hc
            subst he
            refine .t ?_
            obtain ⟨F, ho2, hq2⟩ : ∃ F, Ow w (Ob X fp) (.arr s l) x F /\ ∀ b ∈ F, ¬ Ob X (upd fp q' []) b := ⟨_, ho, hq0⟩
            cases ho2 with
            | rd h => cases h
            | arrNil => exact absurd hl0 (by simp)
            | arr _ _ b len cap cs e fps hb hlen hc hm hsz hf hr =>
              cases hi with
              | sub hr' hc' =>
                rw [hx] at hr'; cases hr'
                refine .sh s _ b off m _ cs e (0, 0) (hq2 b (by simp)) hb (by simp [T.toShL_length]; have := Nat.mul_le_mul_right s hc; omega) (by simp [T.toShL_length]; omega) hc' fun i hi2 => ?_
                have hi3 : off + i < l.length := by simp [T.toShL_length] at hi2; omega
                have e1 : (((T.toShL l).drop off).take (m * s))[i] = (l[off + i]).toSh := by simp [T.toShL_get]
                rw [e1]
                exact (hr (off + i) hi3).toSh hO fun b' hb' => hq2 b' (List.mem_cons_of_mem _ (q0k4 hb'))
              | subZ hr' =>
                simp only [Nat.zero_mul, List.take_zero]
                rw [hx] at hr'; cases hr'
                exact .sh s [] b 0 0 _ cs e (0, 0) (hq2 b (by simp)) hb (by simp) (by simp) (Nat.zero_le _) fun i hi => absurd hi (by simp)
              | subNil hr' => rw [hx] at hr'; cases hr'
          · exact hi'
        | _ => exact hi'
      | _ => exact hi'
    exact key _ _ (g.env i)
  · by_cases hr : r = q
    · subst hr
      show q00d w _ hs (upd S.roots r .dead r) (hs r) (upd fp r [] r)
      rw [q0x2, q0x2]; rfl
    · show q00d w _ hs (upd S.roots q .dead r) (hs r) (upd fp q [] r)
      rw [q0x1 _ _ _ _ hr, q0x1 _ _ _ _ hr]
      exact g.keepRoot r (hk _) hO (fun _ _ h => h) rfl (fun b _ => rfl)
  · by_cases hr : r = q
    · subst hr; rw [q0x2]; simp
    · rw [q0x1 _ _ _ _ hr]; exact g.nodup r
  · have h : upd S.roots q .dead r = .live t lk := h
    by_cases hr : r = q
    · subst hr; rw [q0x2] at h; cases h
    · rw [q0x1 _ _ _ _ hr] at h; exact g.rooty r t lk h
end Go.Ab
