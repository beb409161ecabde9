/- Contracts: drawn trees, part 2: random trees, exactly. -/
import Derived.Test.YtkmmkgpnlmdcfaaQ5
set_option linter.unusedSimpArgs false
set_option linter.unusedVariables false
set_option maxRecDepth 20000
namespace Go.Ab
open Go.Proofs
def rndN : Nat -> Nat
  | 0 => 1
  | d + 1 => 1 + 3 * rndN d
theorem q11g : ∀ d, d + 1 <= rndN d
  | 0 => Nat.le_refl _
  | d + 1 => by have := q11g d; rw [rndN]; omega
def q11b (cs : List Int) (l : List Nd) (z : Int × (Nat × Int)) : List Nd × (Nat × Int) :=
  if 0 <= IntKind.i64.wrap ((q10m cs z.2 3).1 - 1) then (l ++ [⟨2, z.1, (q10m cs (q10m cs z.2 3).2 6).1, IntKind.i64.wrap ((q10m cs z.2 3).1 - 1), []⟩], (q10m cs (q10m cs z.2 3).2 6).2)
  else (l ++ [⟨2, z.1, z.1, IntKind.i64.wrap ((q10m cs z.2 3).1 - 1), []⟩], (q10m cs z.2 3).2)
def q11j (f : List Nd × (Nat × Int) -> List Nd × (Nat × Int)) (s : (List Nd × (Nat × Int)) × List Int) : (List Nd × (Nat × Int)) × List Int := (f (s.1.1, s.1.2), s.2 ++ [(s.1.1.length : Int)])
def q11e (f : List Nd × (Nat × Int) -> List Nd × (Nat × Int)) (s : (List Nd × (Nat × Int)) × List Int) : Nat -> (List Nd × (Nat × Int)) × List Int
  | 0 => s
  | k + 1 => q11j f (q11e f s k)
def q11m (l : List Nd) (i : Nat) (ch : List Int) : List Nd := match l[i]? with | some z => l.set i ⟨z.p, z.a, z.b, z.f, ch⟩ | none => l
def q11a (cs : List Int) (l : List Nd) (paid : Int) (b : Nat × Int) : (List Nd × (Nat × Int)) × List Int := ((l ++ [⟨(q10m cs b 2).1, paid, paid, -1, []⟩], (q10m cs (q10m cs b 2).2 3).2), [])
def q11h (cs : List Int) (f : List Nd × (Nat × Int) -> List Nd × (Nat × Int)) (l : List Nd) (paid : Int) (b : Nat × Int) : List Nd × (Nat × Int) :=
  (q11m (q11e f (q11a cs l paid b) (1 + (q10m cs (q10m cs b 2).2 3).1).toNat).1.1 l.length (q11e f (q11a cs l paid b) (1 + (q10m cs (q10m cs b 2).2 3).1).toNat).2, (q11e f (q11a cs l paid b) (1 + (q10m cs (q10m cs b 2).2 3).1).toNat).1.2)
def rndF (cs : List Int) : Nat -> List Nd × (Nat × Int) -> List Nd × (Nat × Int)
  | 0, s => q11b cs s.1 (q10m cs s.2 6)
  | d + 1, s => if 30 < s.1.length then q11b cs s.1 (q10m cs s.2 6)
    else if 0 < s.1.length then (if (q10m cs (q10m cs s.2 6).2 3).1 = 0 then q11b cs s.1 ((q10m cs s.2 6).1, (q10m cs (q10m cs s.2 6).2 3).2) else q11h cs (rndF cs d) s.1 (q10m cs s.2 6).1 (q10m cs (q10m cs s.2 6).2 3).2)
    else q11h cs (rndF cs d) s.1 (q10m cs s.2 6).1 (q10m cs s.2 6).2
def grown (b : Nat) (l : List Nd) (x : List Nd × (Nat × Int)) : Prop := q0rx (l.length + b) x.1 /\ l.length < x.1.length /\ q0qx x.2
theorem mem8 {l : List Nd} {z : Nd} (h : ∀ x ∈ l, x.ch.length <= 8) (hz : z.ch.length <= 8) : ∀ x ∈ l ++ [z], x.ch.length <= 8 := by
  intro x hx
  rcases List.mem_append.1 hx with hx | hx
  · exact h x hx
  · simp at hx; rw [hx]; exact hz
theorem q11c {cs : List Int} (hl : cs.length <= 100000000000) {l : List Nd} (hs : ∀ x ∈ l, x.ch.length <= 8) {z : Int × (Nat × Int)} (hz : q0qx z.2) : grown 1 l (q11b cs l z) := by
  have h3 := q10o (cs := cs) hl hz 3
  have h6 := q10o (cs := cs) hl h3 6
  unfold q11b
  split
  · exact ⟨⟨by simp, mem8 hs (by simp)⟩, by simp, h6⟩
  · exact ⟨⟨by simp, mem8 hs (by simp)⟩, by simp, h3⟩
theorem q11f {f : List Nd × (Nat × Int) -> List Nd × (Nat × Int)} {b : Nat} {s : (List Nd × (Nat × Int)) × List Int} (hs : ∀ x ∈ s.1.1, x.ch.length <= 8) (hb : q0qx s.1.2) (hc : s.2 = []) (B : Nat) : ∀ k, k <= 3 -> s.1.1.length + k * b <= B -> (∀ m e, q0qx e -> (∀ x ∈ m, x.ch.length <= 8) -> m.length + b <= B -> grown b m (f (m, e))) →
    (q11e f s k).1.1.length <= s.1.1.length + k * b /\ (∀ x ∈ (q11e f s k).1.1, x.ch.length <= 8) /\ s.1.1.length <= (q11e f s k).1.1.length /\ q0qx (q11e f s k).1.2 /\ (q11e f s k).2.length = k
  | 0, _, _, _ => by
    simp only [q11e]
    exact ⟨by omega, hs, Nat.le_refl _, hb, by rw [hc]; rfl⟩
  | k + 1, hk, hB, hf => by
    have e : (k + 1) * b = k * b + b := by rw [Nat.add_mul]; omega
    obtain ⟨h1, h2, h3, h4, h5⟩ := q11f hs hb hc B k (by omega) (by omega) hf
    obtain ⟨g1, g2, g3⟩ := hf (q11e f s k).1.1 (q11e f s k).1.2 h4 h2 (by omega)
    simp only [q11e, q11j]
    refine ⟨?_, g1.2, by have := g2; omega, g3, by simp [h5]⟩
    have := g1.1
    rw [e]; omega
theorem q11n {b : Nat} {l : List Nd} (h : q0rx b l) (i : Nat) {ch : List Int} (hc : ch.length <= 8) : q0rx b (q11m l i ch) /\ (q11m l i ch).length = l.length := by
  unfold q11m
  split
  · exact ⟨q11s h _ _ hc, by rw [List.length_set]⟩
  · exact ⟨h, rfl⟩
theorem q11i {cs : List Int} (hl : cs.length <= 100000000000) {f : List Nd × (Nat × Int) -> List Nd × (Nat × Int)} {b B : Nat} (hf : ∀ m e, q0qx e -> (∀ x ∈ m, x.ch.length <= 8) -> m.length + b <= B -> grown b m (f (m, e))) {l : List Nd} (hs : ∀ x ∈ l, x.ch.length <= 8) {paid : Int} {e : Nat × Int} (he : q0qx e) (hB : l.length + 1 + 3 * b <= B) : grown (1 + 3 * b) l (q11h cs f l paid e) := by
  have h2 := q10o (cs := cs) hl he 2
  have h3 := q10o (cs := cs) hl h2 3
  have hb3 := q10n (cs := cs) (a := (q10m cs e 2).2) (n := 3) (by omega)
  obtain ⟨K, hK⟩ : ∃ K : Nat, (1 + (q10m cs (q10m cs e 2).2 3).1).toNat = K := ⟨_, rfl⟩
  have hK3 : 1 <= K /\ K <= 3 := by omega
  have hKb : K * b <= 3 * b := Nat.mul_le_mul_right _ hK3.2
  obtain ⟨q1, q2, q3, q4, q5⟩ := q11f (s := q11a cs l paid e) (b := b) (f := f) (mem8 hs (by simp)) h3 rfl B K hK3.2 (by simp [q11a]; omega) hf
  have hlen : (q11a cs l paid e).1.1.length = l.length + 1 := by simp [q11a]
  rw [hlen] at q1 q3
  unfold q11h
  rw [hK]
  have hsm : q0rx (l.length + (1 + 3 * b)) (q11e f (q11a cs l paid e) K).1.1 := ⟨by omega, q2⟩
  obtain ⟨s1, s2⟩ := q11n hsm l.length (ch := (q11e f (q11a cs l paid e) K).2) (by omega)
  exact ⟨s1, by show l.length < (q11m _ _ _).length; rw [s2]; omega, q4⟩
theorem q11d {cs : List Int} (hl : cs.length <= 100000000000) : ∀ (d : Nat) (l : List Nd) (a : Nat × Int), q0qx a -> (∀ x ∈ l, x.ch.length <= 8) -> grown (rndN d) l (rndF cs d (l, a))
  | 0, l, a, ha, hs => q11c hl hs (q10o hl ha 6)
  | d + 1, l, a, ha, hs => by
    have h6 := q10o (cs := cs) hl ha 6
    have h3 := q10o (cs := cs) hl h6 3
    have up : ∀ x, grown 1 l x -> grown (rndN (d + 1)) l x := fun x h => ⟨⟨by have := h.1.1; rw [rndN]; omega, h.1.2⟩, h.2⟩
    have hf : ∀ m e, q0qx e -> (∀ x ∈ m, x.ch.length <= 8) -> m.length + rndN d <= l.length + 1 + 3 * rndN d -> grown (rndN d) m (rndF cs d (m, e)) := fun m e he hm _ => q11d hl d m e he hm
    rw [rndF]
    split
    · exact up _ (q11c hl hs h6)
    · split
      · split
        · exact up _ (q11c hl hs h3)
        · exact q11i hl hf hs h3 (Nat.le_refl _)
      · exact q11i hl hf hs h6 (Nat.le_refl _)
section
attribute [-go_sem] q0i5 q0id fldC lenC idxC q0ip
theorem q126 (cs : List Int) (hc : q161 cs) (hl : cs.length <= 100000000000) (B : Nat) (hB0 : B <= 1000) : ∀ (d : Nat) (l : List Nd) (a : Nat × Int), q0qx a -> q0rx B l -> l.length + rndN d <= B →
    Fun Try.prog 199 [.box [bytes cs, .i a.1, .i a.2], q0m0 l] [.own 1000000000, .own 1000000001, .t (.i d)] fun o res => o = [.box [bytes cs, .i (rndF cs d (l, a)).2.1, .i (rndF cs d (l, a)).2.2], .any] /\ res = q0m0 (rndF cs d (l, a)).1 := by
  intro d l a ha hs hb
  refine Fun.le (Q := fun o res => o = [.box [bytes cs, .i (rndF cs d (l, a)).2.1, .i (rndF cs d (l, a)).2.2], .any] /\ (res = q0m0 (rndF cs d (l, a)).1 ∨ ∃ p q f, (rndF cs d (l, a)).1 = l ++ [⟨2, p, q, f, []⟩] /\ res = .arr 5 (chunk q0lv l ++ [.i 2, .i p, .i q, .i f, .v (.slice none 0 0)]))) ?_ ?_
  rotate_left
  · rintro o res ⟨rfl, rfl | ⟨p, q, f, e, rfl⟩⟩
    · exact ⟨_, .refl _, rfl, rfl⟩
    · refine ⟨q0m0 (rndF cs d (l, a)).1, ?_, rfl, rfl⟩
      rw [e, q0m0, q067]
      exact LeL.arr (LeL.append (.refl _) (LeL.cons (.refl _) (LeL.cons (.refl _) (LeL.cons (.refl _) (LeL.cons (.refl _) (LeL.cons (.nilArr 1) (.refl _)))))))
  have hnl : (chunk q0lv l).length / 5 = l.length := q06a q0lw (by decide) l
  have hnl5 : (chunk q0lv l).length = l.length * 5 := q06d q0lw l
  have hl1 := hs.1
  match d, hb with
  | 0, hb =>
    refine q0zs (by simp) ?_
    simp -implicitDefEqProofs only [go_sem, evR, ints, rows, rat, rats, q0yn, q0m0, hnl, hnl5, (show (((0 : Nat) : Int) == 0) = true from rfl)]
    refine q006.ref (q10p cs hc hl a ha 6 (by omega)) [1000000000] [] rfl Try.call126 (by simp) ?_ (by simp) ?_ (.inl rfl) ?_
    · simp -implicitDefEqProofs only [srR, Nat.reduceEqDiff, ↓reduceIte, ints, rows, intsO, q0qa]
    · simp -implicitDefEqProofs only [agR, Nat.reduceLeDiff, Nat.reduceSub, vaR, go_sem, ints, rows, rat, rats, q0p1, rtR, intsO, q0qa]
    simp -implicitDefEqProofs only [clR, Nat.reduceLeDiff, go_sem, evR, rat]
    have hs2 := q10o (cs := cs) hl ha 6
    generalize hz : q10m cs a 6 = z at hs2 ⊢
    obtain ⟨paid, b⟩ := z
    simp only [] at hs2 ⊢
    refine ⟨fun h => absurd h (by decide), fun _ => ?_⟩
    refine q006.ref (q10p cs hc hl b hs2 3 (by omega)) [1000000000] [] rfl Try.call126 (by simp) ?_ (by simp) ?_ (.inl rfl) ?_
    · simp -implicitDefEqProofs only [srR, Nat.reduceEqDiff, ↓reduceIte, ints, rows, intsO, q0qa]
    · simp -implicitDefEqProofs only [agR, Nat.reduceLeDiff, Nat.reduceSub, vaR, go_sem, ints, rows, rat, rats, q0p1, rtR, intsO, q0qa]
    simp -implicitDefEqProofs only [clR, Nat.reduceLeDiff, go_sem, evR, rat]
    have hs3 := q10o (cs := cs) hl hs2 3
    generalize hz3 : q10m cs b 3 = z at hs3 ⊢
    obtain ⟨f, b3⟩ := z
    simp only [] at hs3 ⊢
    have hF := (show rndF cs 0 (l, a) = q11b cs l (paid, b) by rw [rndF, hz])
    refine ⟨fun h => ?_, fun h => ?_⟩
    · refine q006.ref (q10p cs hc hl b3 hs3 6 (by omega)) [1000000000] [] rfl Try.call126 (by simp) ?_ (by simp) ?_ (.inl rfl) ?_
      · simp -implicitDefEqProofs only [srR, Nat.reduceEqDiff, ↓reduceIte, ints, rows, intsO, q0qa]
      · simp -implicitDefEqProofs only [agR, Nat.reduceLeDiff, Nat.reduceSub, vaR, go_sem, ints, rows, rat, rats, q0p1, rtR, intsO, q0qa]
      simp -implicitDefEqProofs only [clR, Nat.reduceLeDiff, go_sem, evR, rat]
      have hE : q11b cs l (paid, b) = (l ++ [⟨2, paid, (q10m cs b3 6).1, IntKind.i64.wrap (f - 1), []⟩], (q10m cs b3 6).2) := by
        simp only [q11b, hz3]; exact if_pos h
      rw [hF, hE]
      exact ⟨by omega, rfl, .inr ⟨paid, _, _, rfl, rfl⟩⟩
    · have hE : q11b cs l (paid, b) = (l ++ [⟨2, paid, paid, IntKind.i64.wrap (f - 1), []⟩], b3) := by
        simp only [q11b, hz3]; exact if_neg h
      rw [hF, hE]
      exact ⟨by omega, rfl, .inr ⟨paid, _, _, rfl, rfl⟩⟩
  | d + 1, hb =>
    have hB := hb
    have hdg := q11g d
    simp only [rndN] at hB
    have hd0 : (((d + 1 : Nat) : Int) == 0) = false := by simp; omega
    refine q0zs (by simp) ?_
    simp -implicitDefEqProofs only [go_sem, evR, ints, rows, rat, rats, q0yn, q0m0, hnl, hnl5, hd0]
    refine q006.ref (q10p cs hc hl a ha 6 (by omega)) [1000000000] [] rfl Try.call126 (by simp) ?_ (by simp) ?_ (.inl rfl) ?_
    · simp -implicitDefEqProofs only [srR, Nat.reduceEqDiff, ↓reduceIte, ints, rows, intsO, q0qa]
    · simp -implicitDefEqProofs only [agR, Nat.reduceLeDiff, Nat.reduceSub, vaR, go_sem, ints, rows, rat, rats, q0p1, rtR, intsO, q0qa]
    simp -implicitDefEqProofs only [clR, Nat.reduceLeDiff, go_sem, evR, rat, hd0, hnl]
    have hs2 := q10o (cs := cs) hl ha 6
    generalize hz : q10m cs a 6 = z at hs2 ⊢
    obtain ⟨paid, b⟩ := z
    simp only [] at hs2 ⊢
    refine ⟨fun h30 => ⟨fun h0 => ?_, fun h0 => ?_⟩, fun h30 => ?_⟩
    · refine q006.ref (q10p cs hc hl b hs2 3 (by omega)) [1000000000] [] rfl Try.call126 (by simp) ?_ (by simp) ?_ (.inl rfl) ?_
      · simp -implicitDefEqProofs only [srR, Nat.reduceEqDiff, ↓reduceIte, ints, rows, intsO, q0qa]
      · simp -implicitDefEqProofs only [agR, Nat.reduceLeDiff, Nat.reduceSub, vaR, go_sem, ints, rows, rat, rats, q0p1, rtR, intsO, q0qa]
      simp -implicitDefEqProofs only [clR, Nat.reduceLeDiff, go_sem, evR, rat]
      have hsd := q10o (cs := cs) hl hs2 3
      generalize hzd : q10m cs b 3 = z at hsd ⊢
      obtain ⟨k, bd⟩ := z
      simp only [] at hsd ⊢
      refine ⟨fun hk => ?_, fun hk => ?_⟩
      · refine q006.ref (q10p cs hc hl bd hsd 3 (by omega)) [1000000000] [] rfl Try.call126 (by simp) ?_ (by simp) ?_ (.inl rfl) ?_
        · simp -implicitDefEqProofs only [srR, Nat.reduceEqDiff, ↓reduceIte, ints, rows, intsO, q0qa]
        · simp -implicitDefEqProofs only [agR, Nat.reduceLeDiff, Nat.reduceSub, vaR, go_sem, ints, rows, rat, rats, q0p1, rtR, intsO, q0qa]
        simp -implicitDefEqProofs only [clR, Nat.reduceLeDiff, go_sem, evR, rat]
        have hs3 := q10o (cs := cs) hl hsd 3
        generalize hz3 : q10m cs bd 3 = z at hs3 ⊢
        obtain ⟨f, b3⟩ := z
        simp only [] at hs3 ⊢
        have hF := (show rndF cs (d + 1) (l, a) = q11b cs l (paid, bd) by rw [rndF, if_neg (show ¬ 30 < l.length by omega), if_pos (show 0 < l.length by omega), hz]; simp only [hzd]; exact if_pos (by simpa using hk))
        refine ⟨fun h => ?_, fun h => ?_⟩
        · refine q006.ref (q10p cs hc hl b3 hs3 6 (by omega)) [1000000000] [] rfl Try.call126 (by simp) ?_ (by simp) ?_ (.inl rfl) ?_
          · simp -implicitDefEqProofs only [srR, Nat.reduceEqDiff, ↓reduceIte, ints, rows, intsO, q0qa]
          · simp -implicitDefEqProofs only [agR, Nat.reduceLeDiff, Nat.reduceSub, vaR, go_sem, ints, rows, rat, rats, q0p1, rtR, intsO, q0qa]
          simp -implicitDefEqProofs only [clR, Nat.reduceLeDiff, go_sem, evR, rat]
          have hE : q11b cs l (paid, bd) = (l ++ [⟨2, paid, (q10m cs b3 6).1, IntKind.i64.wrap (f - 1), []⟩], (q10m cs b3 6).2) := by
            simp only [q11b, hz3]; exact if_pos h
          rw [hF, hE]
          exact ⟨by omega, rfl, .inr ⟨paid, _, _, rfl, rfl⟩⟩
        · have hE : q11b cs l (paid, bd) = (l ++ [⟨2, paid, paid, IntKind.i64.wrap (f - 1), []⟩], b3) := by
            simp only [q11b, hz3]; exact if_neg h
          rw [hF, hE]
          exact ⟨by omega, rfl, .inr ⟨paid, _, _, rfl, rfl⟩⟩
      · refine q006.ref (q10p cs hc hl bd hsd 2 (by omega)) [1000000000] [] rfl Try.call126 (by simp) ?_ (by simp) ?_ (.inl rfl) ?_
        · simp -implicitDefEqProofs only [srR, Nat.reduceEqDiff, ↓reduceIte, ints, rows, intsO, q0qa]
        · simp -implicitDefEqProofs only [agR, Nat.reduceLeDiff, Nat.reduceSub, vaR, go_sem, ints, rows, rat, rats, q0p1, rtR, intsO, q0qa]
        simp -implicitDefEqProofs only [clR, Nat.reduceLeDiff, go_sem, evR, rat, List.length_append, List.length_cons, List.length_nil, hnl5]
        have hs3 := q10o (cs := cs) hl hsd 2
        have hb4 := q10n (cs := cs) (a := (q10m cs bd 2).2) (n := 3) (by omega)
        have hs4 := q10o (cs := cs) hl hs3 3
        have hF := (show rndF cs (d + 1) (l, a) = q11h cs (rndF cs d) l paid bd by rw [rndF, if_neg (show ¬ 30 < l.length by omega), if_pos (show 0 < l.length by omega), hz]; simp only [hzd]; exact if_neg (by simpa using hk))
        obtain ⟨K, hK⟩ : ∃ K : Nat, (1 + (q10m cs (q10m cs bd 2).2 3).1).toNat = K := ⟨_, rfl⟩
        have hKi : 1 + (q10m cs (q10m cs bd 2).2 3).1 = (K : Int) := by omega
        have hK3 : 1 <= K /\ K <= 3 := by omega
        have hnode : q11h cs (rndF cs d) l paid bd = (q11m (q11e (rndF cs d) (q11a cs l paid bd) K).1.1 l.length (q11e (rndF cs d) (q11a cs l paid bd) K).2, (q11e (rndF cs d) (q11a cs l paid bd) K).1.2) := by rw [q11h, hK]
        have hloop := fun i (hi : i <= K) => q11f (s := q11a cs l paid bd) (b := rndN d) (f := rndF cs d) (mem8 hs.2 (by simp)) hs4 rfl B i (by omega) (by have := Nat.mul_le_mul_right (rndN d) (show i <= 3 by omega); simp [q11a]; omega) (fun m e he hm _ => q11d hl d m e he hm)
        refine ⟨by omega, ?_⟩
        refine q006.weak (Weak.le 56 (t' := q0m0 (l ++ [⟨(q10m cs bd 2).1, paid, paid, -1, []⟩])) rfl ?_ rfl) ?_
        · rw [q0m0, q067]
          exact LeL.arr (LeL.append (.refl _) (LeL.cons (.refl _) (LeL.cons (.refl _) (LeL.cons (.refl _) (LeL.cons (.refl _) (LeL.cons (.nilArr 1) (.refl _)))))))
        refine q006.ref (q10p cs hc hl (q10m cs bd 2).2 hs3 3 (by omega)) [1000000000] [] rfl Try.call126 (by simp) ?_ (by simp) ?_ (.inl rfl) ?_
        · simp -implicitDefEqProofs only [srR, Nat.reduceEqDiff, ↓reduceIte, ints, rows, intsO, q0qa]
        · simp -implicitDefEqProofs only [agR, Nat.reduceLeDiff, Nat.reduceSub, vaR, go_sem, ints, rows, rat, rats, q0p1, rtR, intsO, q0qa]
        simp -implicitDefEqProofs only [clR, Nat.reduceLeDiff, go_sem, evR, rat]
        have hwq : IntKind.i64.wrap (1 + (q10m cs (q10m cs bd 2).2 3).1) = (K : Int) := by rw [wrap64 (by omega) (by omega)]; exact hKi
        have hwd : IntKind.i64.wrap (((d + 1 : Nat) : Int) - 1) = (d : Int) := by rw [wrap64 (by omega) (by omega)]; omega
        have hL0 : q11e (rndF cs d) (q11a cs l paid bd) 0 = ((l ++ [⟨(q10m cs bd 2).1, paid, paid, -1, []⟩], (q10m cs (q10m cs bd 2).2 3).2), []) := rfl
        have hLs : ∀ i, q11e (rndF cs d) (q11a cs l paid bd) (i + 1) = q11j (rndF cs d) (q11e (rndF cs d) (q11a cs l paid bd) i) := fun i => rfl
        have hl0 : (q11a cs l paid bd).1.1.length = l.length + 1 := by simp [q11a]
        generalize hLL : q11e (rndF cs d) (q11a cs l paid bd) = L at hL0 hLs hnode hloop
        refine SemC.loopR (σ := Nat) (fun i => St.ofD [(0, .own 1000000000), (1, .own 196), (2, .t (.i ((d + 1 : Nat) : Int))), (7, .t (.i l.length)), (10, .own 197), (11, .t (.i ((K : Int) - i)))] [(1000000000, .box [bytes cs, .i (L i).1.2.1, .i (L i).1.2.2]), (196, q0m0 (L i).1.1), (197, intsO (L i).2)] 1000000001) (fun i => i <= K) (fun i => 3 - i) 0 (Weak.ofD _ _ _ [some 1000000000, some 56, some 57] (by simp) (by simp) rfl ?_ ?_) (by omega) fun i hi R hn' hr he => ?_
        · simp -implicitDefEqProofs only [ints, rows, Nat.reduceBEq, wkR, Nat.reduceEqDiff, ↓reduceIte, wrR, hwq, Int.sub_zero, Int.natCast_zero, Int.cast_ofNat_Int, show l.length * 5 / 5 = l.length by omega]
        · rw [hL0]; exact ⟨⟨_, rfl, .refl _⟩, rfl, ⟨_, rfl, .refl _⟩, rfl, ⟨_, rfl, .refl _⟩, rfl, trivial⟩
        obtain ⟨i1, i2, i3, i4, i5⟩ := hloop i hi
        rw [hl0] at i1 i3
        have hi3 := Nat.mul_le_mul_right (rndN d) (show i <= 3 by omega)
        have hml : (chunk q0lv (L i).1.1).length / 5 = (L i).1.1.length := q06a q0lw (by decide) _
        have hml5 : (chunk q0lv (L i).1.1).length = (L i).1.1.length * 5 := q06d q0lw _
        rcases Nat.lt_or_ge i K with h9 | h9
        · simp -implicitDefEqProofs only [go_sem, evR, ints, rows, rat, rats, q0m0, intsO, hml, hml5, decide_eq_true (show 0 < (K : Int) - (i : Int) by omega), List.length_map]
          have hi4 := Nat.mul_le_mul_right (rndN d) (show i + 1 <= 3 by omega)
          rw [Nat.add_mul, Nat.one_mul] at hi4
          refine ⟨by omega, ?_⟩
          simp only [hwd]
          have hrec := q126 cs hc hl B hB0 d (L i).1.1 (L i).1.2 i4 ⟨by omega, i2⟩ (by omega)
          simp only [q0m0] at hrec
          refine q006.ref hrec [1000000000, 196] [] rfl Try.call199 (by simp) ?_ (by simp) ?_ (.inl rfl) ?_
          · simp -implicitDefEqProofs only [srR, Nat.reduceEqDiff, ↓reduceIte, ints, rows, intsO, q0qa]
          · simp -implicitDefEqProofs only [agR, Nat.reduceLeDiff, Nat.reduceSub, vaR, go_sem, ints, rows, rat, rats, q0p1, rtR, intsO, q0qa]
          simp -implicitDefEqProofs only [clR, Nat.reduceLeDiff, go_sem, evR, rat]
          refine hn' _ (i + 1) (Weak.ofD _ _ _ [some 1000000000, some 74, some 69] (by simp) (by simp) rfl ?_ ?_) (by omega) (by omega)
          · simp -implicitDefEqProofs only [ints, rows, Nat.reduceBEq, wkR, Nat.reduceEqDiff, ↓reduceIte, wrR, show IntKind.i64.wrap ((K : Int) - (i : Int) - 1) = (K : Int) - ((i + 1 : Nat) : Int) by rw [wrap64 (by omega) (by omega)]; omega]
          · rw [hLs]
            refine ⟨⟨_, rfl, .refl _⟩, rfl, ⟨_, rfl, .refl _⟩, rfl, ⟨_, rfl, ?_⟩, rfl, trivial⟩
            simp only [q11j, intsO, List.map_append, List.map_cons, List.map_nil, show (L i).1.1.length * 5 / 5 = (L i).1.1.length by omega]; exact .refl _
        · simp -implicitDefEqProofs only [go_sem, evR, ints, rows, rat, rats, q0m0, intsO, hml, hml5, decide_eq_false (show ¬ 0 < (K : Int) - (i : Int) by omega), List.length_map]
          refine he _ _ ?_
          simp -implicitDefEqProofs only [go_sem, evR, ints, rows, rat, rats, q0m0, intsO, hml, hml5]
          obtain rfl : i = K := by omega
          obtain ⟨z, hz⟩ : ∃ z, (L i).1.1[l.length]? = some z := ⟨_, List.getElem?_eq_getElem (by omega)⟩
          refine ⟨by omega, by omega, by omega, ?_⟩
          rw [hF, hnode]
          refine ⟨rfl, .inl ?_⟩
          simp only [q11m, hz]
          rw [← q0yv (L i).1.1 l.length z _ hz]; rfl
    · refine q006.ref (q10p cs hc hl b hs2 2 (by omega)) [1000000000] [] rfl Try.call126 (by simp) ?_ (by simp) ?_ (.inl rfl) ?_
      · simp -implicitDefEqProofs only [srR, Nat.reduceEqDiff, ↓reduceIte, ints, rows, intsO, q0qa]
      · simp -implicitDefEqProofs only [agR, Nat.reduceLeDiff, Nat.reduceSub, vaR, go_sem, ints, rows, rat, rats, q0p1, rtR, intsO, q0qa]
      simp -implicitDefEqProofs only [clR, Nat.reduceLeDiff, go_sem, evR, rat, List.length_append, List.length_cons, List.length_nil, hnl5]
      have hs3 := q10o (cs := cs) hl hs2 2
      have hb4 := q10n (cs := cs) (a := (q10m cs b 2).2) (n := 3) (by omega)
      have hs4 := q10o (cs := cs) hl hs3 3
      have hF := (show rndF cs (d + 1) (l, a) = q11h cs (rndF cs d) l paid b by rw [rndF, if_neg (show ¬ 30 < l.length by omega), if_neg (show ¬ 0 < l.length by omega), hz])
      obtain ⟨K, hK⟩ : ∃ K : Nat, (1 + (q10m cs (q10m cs b 2).2 3).1).toNat = K := ⟨_, rfl⟩
      have hKi : 1 + (q10m cs (q10m cs b 2).2 3).1 = (K : Int) := by omega
      have hK3 : 1 <= K /\ K <= 3 := by omega
      have hnode : q11h cs (rndF cs d) l paid b = (q11m (q11e (rndF cs d) (q11a cs l paid b) K).1.1 l.length (q11e (rndF cs d) (q11a cs l paid b) K).2, (q11e (rndF cs d) (q11a cs l paid b) K).1.2) := by rw [q11h, hK]
      have hloop := fun i (hi : i <= K) => q11f (s := q11a cs l paid b) (b := rndN d) (f := rndF cs d) (mem8 hs.2 (by simp)) hs4 rfl B i (by omega) (by have := Nat.mul_le_mul_right (rndN d) (show i <= 3 by omega); simp [q11a]; omega) (fun m e he hm _ => q11d hl d m e he hm)
      refine ⟨by omega, ?_⟩
      refine q006.weak (Weak.le 56 (t' := q0m0 (l ++ [⟨(q10m cs b 2).1, paid, paid, -1, []⟩])) rfl ?_ rfl) ?_
      · rw [q0m0, q067]
        exact LeL.arr (LeL.append (.refl _) (LeL.cons (.refl _) (LeL.cons (.refl _) (LeL.cons (.refl _) (LeL.cons (.refl _) (LeL.cons (.nilArr 1) (.refl _)))))))
      refine q006.ref (q10p cs hc hl (q10m cs b 2).2 hs3 3 (by omega)) [1000000000] [] rfl Try.call126 (by simp) ?_ (by simp) ?_ (.inl rfl) ?_
      · simp -implicitDefEqProofs only [srR, Nat.reduceEqDiff, ↓reduceIte, ints, rows, intsO, q0qa]
      · simp -implicitDefEqProofs only [agR, Nat.reduceLeDiff, Nat.reduceSub, vaR, go_sem, ints, rows, rat, rats, q0p1, rtR, intsO, q0qa]
      simp -implicitDefEqProofs only [clR, Nat.reduceLeDiff, go_sem, evR, rat]
      have hwq : IntKind.i64.wrap (1 + (q10m cs (q10m cs b 2).2 3).1) = (K : Int) := by rw [wrap64 (by omega) (by omega)]; exact hKi
      have hwd : IntKind.i64.wrap (((d + 1 : Nat) : Int) - 1) = (d : Int) := by rw [wrap64 (by omega) (by omega)]; omega
      have hL0 : q11e (rndF cs d) (q11a cs l paid b) 0 = ((l ++ [⟨(q10m cs b 2).1, paid, paid, -1, []⟩], (q10m cs (q10m cs b 2).2 3).2), []) := rfl
      have hLs : ∀ i, q11e (rndF cs d) (q11a cs l paid b) (i + 1) = q11j (rndF cs d) (q11e (rndF cs d) (q11a cs l paid b) i) := fun i => rfl
      have hl0 : (q11a cs l paid b).1.1.length = l.length + 1 := by simp [q11a]
      generalize hLL : q11e (rndF cs d) (q11a cs l paid b) = L at hL0 hLs hnode hloop
      refine SemC.loopR (σ := Nat) (fun i => St.ofD [(0, .own 1000000000), (1, .own 196), (2, .t (.i ((d + 1 : Nat) : Int))), (7, .t (.i l.length)), (10, .own 197), (11, .t (.i ((K : Int) - i)))] [(1000000000, .box [bytes cs, .i (L i).1.2.1, .i (L i).1.2.2]), (196, q0m0 (L i).1.1), (197, intsO (L i).2)] 1000000001) (fun i => i <= K) (fun i => 3 - i) 0 (Weak.ofD _ _ _ [some 1000000000, some 56, some 57] (by simp) (by simp) rfl ?_ ?_) (by omega) fun i hi R hn' hr he => ?_
      · simp -implicitDefEqProofs only [ints, rows, Nat.reduceBEq, wkR, Nat.reduceEqDiff, ↓reduceIte, wrR, hwq, Int.sub_zero, Int.natCast_zero, Int.cast_ofNat_Int, show l.length * 5 / 5 = l.length by omega]
      · rw [hL0]; exact ⟨⟨_, rfl, .refl _⟩, rfl, ⟨_, rfl, .refl _⟩, rfl, ⟨_, rfl, .refl _⟩, rfl, trivial⟩
      obtain ⟨i1, i2, i3, i4, i5⟩ := hloop i hi
      rw [hl0] at i1 i3
      have hi3 := Nat.mul_le_mul_right (rndN d) (show i <= 3 by omega)
      have hml : (chunk q0lv (L i).1.1).length / 5 = (L i).1.1.length := q06a q0lw (by decide) _
      have hml5 : (chunk q0lv (L i).1.1).length = (L i).1.1.length * 5 := q06d q0lw _
      rcases Nat.lt_or_ge i K with h9 | h9
      · simp -implicitDefEqProofs only [go_sem, evR, ints, rows, rat, rats, q0m0, intsO, hml, hml5, decide_eq_true (show 0 < (K : Int) - (i : Int) by omega), List.length_map]
        have hi4 := Nat.mul_le_mul_right (rndN d) (show i + 1 <= 3 by omega)
        rw [Nat.add_mul, Nat.one_mul] at hi4
        refine ⟨by omega, ?_⟩
        simp only [hwd]
        have hrec := q126 cs hc hl B hB0 d (L i).1.1 (L i).1.2 i4 ⟨by omega, i2⟩ (by omega)
        simp only [q0m0] at hrec
        refine q006.ref hrec [1000000000, 196] [] rfl Try.call199 (by simp) ?_ (by simp) ?_ (.inl rfl) ?_
        · simp -implicitDefEqProofs only [srR, Nat.reduceEqDiff, ↓reduceIte, ints, rows, intsO, q0qa]
        · simp -implicitDefEqProofs only [agR, Nat.reduceLeDiff, Nat.reduceSub, vaR, go_sem, ints, rows, rat, rats, q0p1, rtR, intsO, q0qa]
        simp -implicitDefEqProofs only [clR, Nat.reduceLeDiff, go_sem, evR, rat]
        refine hn' _ (i + 1) (Weak.ofD _ _ _ [some 1000000000, some 74, some 69] (by simp) (by simp) rfl ?_ ?_) (by omega) (by omega)
        · simp -implicitDefEqProofs only [ints, rows, Nat.reduceBEq, wkR, Nat.reduceEqDiff, ↓reduceIte, wrR, show IntKind.i64.wrap ((K : Int) - (i : Int) - 1) = (K : Int) - ((i + 1 : Nat) : Int) by rw [wrap64 (by omega) (by omega)]; omega]
        · rw [hLs]
          refine ⟨⟨_, rfl, .refl _⟩, rfl, ⟨_, rfl, .refl _⟩, rfl, ⟨_, rfl, ?_⟩, rfl, trivial⟩
          simp only [q11j, intsO, List.map_append, List.map_cons, List.map_nil, show (L i).1.1.length * 5 / 5 = (L i).1.1.length by omega]; exact .refl _
      · simp -implicitDefEqProofs only [go_sem, evR, ints, rows, rat, rats, q0m0, intsO, hml, hml5, decide_eq_false (show ¬ 0 < (K : Int) - (i : Int) by omega), List.length_map]
        refine he _ _ ?_
        simp -implicitDefEqProofs only [go_sem, evR, ints, rows, rat, rats, q0m0, intsO, hml, hml5]
        obtain rfl : i = K := by omega
        obtain ⟨z, hz⟩ : ∃ z, (L i).1.1[l.length]? = some z := ⟨_, List.getElem?_eq_getElem (by omega)⟩
        refine ⟨by omega, by omega, by omega, ?_⟩
        rw [hF, hnode]
        refine ⟨rfl, .inl ?_⟩
        simp only [q11m, hz]
        rw [← q0yv (L i).1.1 l.length z _ hz]; rfl
    · refine q006.ref (q10p cs hc hl b hs2 3 (by omega)) [1000000000] [] rfl Try.call126 (by simp) ?_ (by simp) ?_ (.inl rfl) ?_
      · simp -implicitDefEqProofs only [srR, Nat.reduceEqDiff, ↓reduceIte, ints, rows, intsO, q0qa]
      · simp -implicitDefEqProofs only [agR, Nat.reduceLeDiff, Nat.reduceSub, vaR, go_sem, ints, rows, rat, rats, q0p1, rtR, intsO, q0qa]
      simp -implicitDefEqProofs only [clR, Nat.reduceLeDiff, go_sem, evR, rat]
      have hs3 := q10o (cs := cs) hl hs2 3
      generalize hz3 : q10m cs b 3 = z at hs3 ⊢
      obtain ⟨f, b3⟩ := z
      simp only [] at hs3 ⊢
      have hF := (show rndF cs (d + 1) (l, a) = q11b cs l (paid, b) by rw [rndF, if_pos (show 30 < l.length by omega), hz])
      refine ⟨fun h => ?_, fun h => ?_⟩
      · refine q006.ref (q10p cs hc hl b3 hs3 6 (by omega)) [1000000000] [] rfl Try.call126 (by simp) ?_ (by simp) ?_ (.inl rfl) ?_
        · simp -implicitDefEqProofs only [srR, Nat.reduceEqDiff, ↓reduceIte, ints, rows, intsO, q0qa]
        · simp -implicitDefEqProofs only [agR, Nat.reduceLeDiff, Nat.reduceSub, vaR, go_sem, ints, rows, rat, rats, q0p1, rtR, intsO, q0qa]
        simp -implicitDefEqProofs only [clR, Nat.reduceLeDiff, go_sem, evR, rat]
        have hE : q11b cs l (paid, b) = (l ++ [⟨2, paid, (q10m cs b3 6).1, IntKind.i64.wrap (f - 1), []⟩], (q10m cs b3 6).2) := by
          simp only [q11b, hz3]; exact if_pos h
        rw [hF, hE]
        exact ⟨by omega, rfl, .inr ⟨paid, _, _, rfl, rfl⟩⟩
      · have hE : q11b cs l (paid, b) = (l ++ [⟨2, paid, paid, IntKind.i64.wrap (f - 1), []⟩], b3) := by
          simp only [q11b, hz3]; exact if_neg h
        rw [hF, hE]
        exact ⟨by omega, rfl, .inr ⟨paid, _, _, rfl, rfl⟩⟩
end

def q0yp : CC :=
 (.seq (.reg [.o (.alloc 2 [.v (.slice none 0 0), .v (.slice none 0 0), .v (.slice none 0 0)])])
 ((.seq (.reg [.o (.move 5 (sl 0)),
 .o (.call (some 6) (cf 222) [(sl 5)]),
 .o (.alloc 3 [.v (.slice none 0 0), .v (.slice none 0 0), .v (.slice none 0 0)]),
 .o (.store 3 (sl 3) (sl 6))])
 ((.seq (.reg [.o (.move 7 (sl 0)),
 .o (.fld 8 1 (sl 3)),
 .o (.load1 9 (sl 8)),
 .o (.lenS 10 (sl 9)),
 .o (.call (some 11) (cf 126) [(sl 7), (sl 10)]),
 .o (.move 4 (sl 11))])
 ((.seq (.seq (.reg [.o (.move 12 (sl 0)),
 .o (.call (some 13) (cf 126) [(sl 12), (ci 24)])])
 ((.block 0 (.seq (.reg [.o (.bin 15 .eql (sl 13) (ci 0)),
 .o (.move 14 (sl 15))])
 ((.cond (sl 14) (.weak (.draw [22] [(.r false [1000000000, 23, 22], .o (.fld 16 1 (sl 3))),
 (.r false [1000000000, 23, 22], .o (.load1 17 (sl 16))),
 (.r false [1000000000, 23, 22], .o (.move 18 (sl 4))),
 (.r false [1000000000, 23, 22], .o (.idx 19 1 (sl 17) (sl 18))),
 (.r false [1000000000, 23, 22], .o (.load1 20 (sl 19))),
 (kR, .o (.move 21 (sl 0))),
 (kN, .o (.bslice 22 1 4 [(0, (ci (-1))), (1, (ci 0)), (2, (ci 9)), (3, (ci 10))])),
 (.h (some [1000000000, 22]) [], .o (.call (some 23) (cf 147) [(sl 21), (sl 22)])),
 (kR, .o (.idx 24 1 (sl 20) (ci 0))),
 (kH, .o (.store 1 (sl 24) (sl 23)))]))
 (.seq (.reg [.o (.bin 26 .eql (sl 13) (ci 1)),
 .o (.move 25 (sl 26))])
 ((.cond (sl 25) (.weak (.draw [33] [(.r false [1000000000, 34, 33], .o (.fld 27 2 (sl 3))),
 (.r false [1000000000, 34, 33], .o (.load1 28 (sl 27))),
 (.r false [1000000000, 34, 33], .o (.move 29 (sl 4))),
 (.r false [1000000000, 34, 33], .o (.idx 30 1 (sl 28) (sl 29))),
 (.r false [1000000000, 34, 33], .o (.load1 31 (sl 30))),
 (kR, .o (.move 32 (sl 0))),
 (kN, .o (.bslice 33 1 2 [(0, (ci (-2))), (1, (ci 2))])),
 (.h (some [1000000000, 33]) [], .o (.call (some 34) (cf 147) [(sl 32), (sl 33)])),
 (kR, .o (.idx 35 1 (sl 31) (ci 0))),
 (kH, .o (.store 1 (sl 35) (sl 34)))]))
 (.seq (.reg [.o (.bin 37 .eql (sl 13) (ci 2)),
 .o (.move 36 (sl 37))])
 ((.cond (sl 36) (.seq (.weak (.draw [] [(kR, .o (.fld 38 0 (sl 3))),
 (kR, .o (.loadN 39 1 (sl 38))),
 (kR, .o (.fld 40 1 (sl 3))),
 (kR, .o (.load1 41 (sl 40))),
 (kR, .o (.fld 42 2 (sl 3))),
 (kR, .o (.load1 43 (sl 42))),
 (kR, .o (.slc 44 1 (sl 43) (some (ci 1)) none)),
 (kR, .o (.build 45 [.v (.slice none 0 0), .v (.slice none 0 0), .v (.slice none 0 0)] [(0, 1), (1, 1), (2, 1)] [(0, (sl 39)), (1, (sl 41)), (2, (sl 44))])),
 (kH, .o (.store 3 (sl 2) (sl 45)))]))
 (.ret))
 (.seq (.reg [.o (.bin 47 .eql (sl 13) (ci 3)),
 .o (.move 46 (sl 47))])
 ((.cond (sl 46) (.seq (.weak (.draw [] [(kR, .o (.move 48 (sl 0))),
 (.h (some [1000000000]) [], .o (.call (some 49) (cf 223) [(sl 48)])),
 (.r false [1000000000, 49], .o (.fld 50 1 (sl 3))),
 (.r false [1000000000, 49], .o (.load1 51 (sl 50))),
 (.r false [1000000000, 49], .o (.fld 52 2 (sl 3))),
 (.r false [1000000000, 49], .o (.load1 53 (sl 52))),
 (kR, .o (.build 54 [.v (.slice none 0 0), .v (.slice none 0 0), .v (.slice none 0 0)] [(0, 1), (1, 1), (2, 1)] [(0, (sl 49)), (1, (sl 51)), (2, (sl 53))])),
 (kH, .o (.store 3 (sl 2) (sl 54)))]))
 (.ret))
 .skip)))))))))))))))
 ((.seq (.weak (.reg [.o (.loadN 55 3 (sl 3)),
 .o (.store 3 (sl 2) (sl 55))]))
 (.ret))))))))))
theorem q0zu {rin : List T} {args : List A} {Q : List T -> T -> Prop} (ha : args.length <= 56) (h : cW Try.prog 56 q0yp (retP Try.prog [.cell 2 35] rin.length Q) (St.of (enum 0 args) (enum 1000000000 rin))) :
    Fun Try.prog 190 rin args Q :=
  Fun.of (H := ⟨[(5, 0, .r false [1000000000, 23, 22]), (5, 1, .r false [1000000000, 23, 22]), (5, 2, .r false [1000000000, 23, 22]), (5, 3, .r false [1000000000, 23, 22]), (5, 4, .r false [1000000000, 23, 22]), (5, 7, .h (some [1000000000, 22]) []), (7, 0, .r false [1000000000, 34, 33]), (7, 1, .r false [1000000000, 34, 33]), (7, 2, .r false [1000000000, 34, 33]), (7, 3, .r false [1000000000, 34, 33]), (7, 4, .r false [1000000000, 34, 33]), (7, 7, .h (some [1000000000, 33]) []), (11, 2, .r false [1000000000, 49]), (11, 3, .r false [1000000000, 49]), (11, 4, .r false [1000000000, 49]), (11, 5, .r false [1000000000, 49]), (11, 1, .h (some [1000000000]) [])], [5, 7, 9, 11, 12]⟩) Try.func190 rfl rfl rfl (by kernel_rfl) ha (by decide) h

def q0ys : CC :=
 (.seq (.reg [.o (.alloc 2 [.v (.slice none 0 0), .v (.slice none 0 0), .v (.slice none 0 0)])])
 ((.seq (.seq (.reg [.o (.move 7 (sl 0)),
 .o (.call (some 8) (cf 126) [(sl 7), (ci 6)])])
 ((.block 0 (.seq (.reg [.o (.bin 10 .eql (sl 8) (ci 0)),
 .o (.move 9 (sl 10))])
 ((.cond (sl 9) (.seq (.reg [.o (.call (some 11) (cf 127) []),
 .o (.store 3 (sl 2) (sl 11))])
 (.ret))
 (.seq (.reg [.o (.bin 13 .eql (sl 8) (ci 1)),
 .o (.move 12 (sl 13))])
 ((.cond (sl 12) (.seq (.reg [.o (.move 14 (sl 0)),
 .o (.call (some 15) (cf 227) [(sl 14)]),
 .o (.move 16 (sl 0)),
 .o (.call (some 17) (cf 126) [(sl 16), (ci 2)]),
 .o (.bin 18 .add (ci 2) (sl 17)),
 .o (.call (some 19) (cf 185) [(sl 15), (sl 18), (cb true)]),
 .o (.store 3 (sl 2) (sl 19))])
 (.ret))
 .skip)))))))))
 ((.seq (.reg [.o (.move 20 (sl 0)),
 .o (.call (some 21) (cf 126) [(sl 20), (ci 3)]),
 .o (.bin 22 .add (ci 1) (sl 21)),
 .o (.move 3 (sl 22))])
 ((.seq (.reg [.o (.move 23 (sl 0)),
 .o (.call (some 24) (cf 227) [(sl 23)]),
 .o (.move 25 (sl 3)),
 .o (.call (some 26) (cf 185) [(sl 24), (sl 25), (cb true)]),
 .o (.alloc 4 [.v (.slice none 0 0), .v (.slice none 0 0), .v (.slice none 0 0)]),
 .o (.store 3 (sl 4) (sl 26))])
 ((.seq (.seq (.reg [.o (.move 5 (ci 0))])
 ((.block 1 (.loop (.seq (.seq (.reg [.o (.move 27 (sl 5)),
 .o (.move 28 (sl 3)),
 .o (.bin 29 .lss (sl 27) (sl 28))])
 ((.cond (sl 29) .skip
 (.exit 1))))
 ((.seq (.block 2 (.seq (.reg [.o (.move 6 (ci 0))])
 ((.block 3 (.loop (.seq (.seq (.reg [.o (.move 32 (sl 6)),
 .o (.move 33 (sl 3)),
 .o (.bin 34 .lss (sl 32) (sl 33))])
 ((.cond (sl 34) .skip
 (.exit 3))))
 ((.seq (.block 4 (.seq (.weak (.draw [] [(.r false [1000000000, 44], .o (.fld 37 1 (sl 4))),
 (.r false [1000000000, 44], .o (.load1 38 (sl 37))),
 (.r false [1000000000, 44], .o (.move 39 (sl 5))),
 (.r false [1000000000, 44], .o (.idx 40 1 (sl 38) (sl 39))),
 (.r false [1000000000, 44], .o (.load1 41 (sl 40))),
 (.r false [1000000000, 44], .o (.move 42 (sl 6))),
 (kR, .o (.move 43 (sl 0))),
 (.h (some [1000000000]) [], .o (.call (some 44) (cf 126) [(sl 43), (ci 4)])),
 (kR, .o (.idx 45 1 (sl 41) (sl 42))),
 (kH, .o (.store 1 (sl 45) (sl 44)))]))
 ((.seq (.reg [.o (.move 46 (sl 0)),
 .o (.call (some 47) (cf 126) [(sl 46), (ci 4)]),
 .o (.bin 48 .eql (sl 47) (ci 0))])
 ((.cond (sl 48) (.weak (.draw [] [(.r false [1000000000, 56], .o (.fld 49 2 (sl 4))),
 (.r false [1000000000, 56], .o (.load1 50 (sl 49))),
 (.r false [1000000000, 56], .o (.move 51 (sl 5))),
 (.r false [1000000000, 56], .o (.idx 52 1 (sl 50) (sl 51))),
 (.r false [1000000000, 56], .o (.load1 53 (sl 52))),
 (.r false [1000000000, 56], .o (.move 54 (sl 6))),
 (kR, .o (.move 55 (sl 0))),
 (.h (some [1000000000]) [], .o (.call (some 56) (cf 126) [(sl 55), (ci 3)])),
 (kR, .o (.bin 57 .sub (sl 56) (ci 1))),
 (kR, .o (.idx 58 1 (sl 53) (sl 54))),
 (kH, .o (.store 1 (sl 58) (sl 57)))]))
 .skip))))))
 ((.reg [.o (.move 35 (sl 6)),
 .o (.bin 36 .add (sl 35) (ci 1)),
 .o (.move 6 (sl 36))]))))))))))
 ((.reg [.o (.move 30 (sl 5)),
 .o (.bin 31 .add (sl 30) (ci 1)),
 .o (.move 5 (sl 31))])))))))))
 ((.seq (.weak (.draw [] [(kR, .o (.fld 59 1 (sl 4))),
 (kR, .o (.load1 60 (sl 59))),
 (kR, .o (.idx 61 1 (sl 60) (ci 0))),
 (kR, .o (.load1 62 (sl 61))),
 (kR, .o (.fld 63 1 (sl 4))),
 (kR, .o (.load1 64 (sl 63))),
 (kR, .o (.idx 65 1 (sl 64) (ci 0))),
 (kR, .o (.load1 66 (sl 65))),
 (kR, .o (.idx 67 1 (sl 66) (ci 0))),
 (kR, .o (.load1 68 (sl 67))),
 (kR, .o (.mm 69 true (ci 1) (sl 68))),
 (kR, .o (.idx 70 1 (sl 62) (ci 0))),
 (kH, .o (.store 1 (sl 70) (sl 69)))]))
 ((.seq (.weak (.reg [.o (.loadN 71 3 (sl 4)),
 .o (.store 3 (sl 2) (sl 71))]))
 (.ret))))))))))))))
theorem q0zx {rin : List T} {args : List A} {Q : List T -> T -> Prop} (ha : args.length <= 72) (h : cW Try.prog 72 q0ys (retP Try.prog [.cell 2 35] rin.length Q) (St.of (enum 0 args) (enum 1000000000 rin))) :
    Fun Try.prog 222 rin args Q :=
  Fun.of (H := ⟨[(14, 0, .r false [1000000000, 44]), (14, 1, .r false [1000000000, 44]), (14, 2, .r false [1000000000, 44]), (14, 3, .r false [1000000000, 44]), (14, 4, .r false [1000000000, 44]), (14, 5, .r false [1000000000, 44]), (14, 7, .h (some [1000000000]) []), (16, 0, .r false [1000000000, 56]), (16, 1, .r false [1000000000, 56]), (16, 2, .r false [1000000000, 56]), (16, 3, .r false [1000000000, 56]), (16, 4, .r false [1000000000, 56]), (16, 5, .r false [1000000000, 56]), (16, 7, .h (some [1000000000]) [])], [14, 16, 17, 18]⟩) Try.func222 rfl rfl rfl (by kernel_rfl) ha (by decide) h

def q0yl : CC :=
 (.seq (.reg [.o (.alloc 2 [.v (.slice none 0 0)])])
 ((.seq (.reg [.o (.move 5 (sl 0)),
 .o (.call (some 6) (cf 227) [(sl 5)]),
 .o (.alloc 3 [.v (.slice none 0 0)]),
 .o (.store 1 (sl 3) (sl 6))])
 ((.seq (.reg [.o (.move 7 (sl 0)),
 .o (.fld 8 0 (sl 3)),
 .o (.load1 9 (sl 8)),
 .o (.lenS 10 (sl 9)),
 .o (.call (some 11) (cf 126) [(sl 7), (sl 10)]),
 .o (.move 4 (sl 11))])
 ((.seq (.seq (.reg [.o (.move 12 (sl 0)),
 .o (.call (some 13) (cf 126) [(sl 12), (ci 30)])])
 ((.block 0 (.seq (.reg [.o (.bin 15 .eql (sl 13) (ci 0)),
 .o (.move 14 (sl 15))])
 ((.cond (sl 14) (.draw [20] [(.r false [1000000000, 21, 20], .o (.fld 16 0 (sl 3))),
 (.r false [1000000000, 21, 20], .o (.load1 17 (sl 16))),
 (.r false [1000000000, 21, 20], .o (.move 18 (sl 4))),
 (kR, .o (.move 19 (sl 0))),
 (kN, .o (.bslice 20 1 5 [(0, (ci (-1))), (1, (ci 0)), (2, (ci 1)), (3, (ci 2)), (4, (ci 3))])),
 (.h (some [1000000000, 20]) [], .o (.call (some 21) (cf 147) [(sl 19), (sl 20)])),
 (kR, .o (.idx 22 5 (sl 17) (sl 18))),
 (kR, .o (.fld 23 0 (sl 22))),
 (kH, .o (.store 1 (sl 23) (sl 21)))])
 (.seq (.reg [.o (.bin 25 .eql (sl 13) (ci 1)),
 .o (.move 24 (sl 25))])
 ((.cond (sl 24) (.draw [30] [(.r false [1000000000, 31, 30], .o (.fld 26 0 (sl 3))),
 (.r false [1000000000, 31, 30], .o (.load1 27 (sl 26))),
 (.r false [1000000000, 31, 30], .o (.move 28 (sl 4))),
 (kR, .o (.move 29 (sl 0))),
 (kN, .o (.bslice 30 1 4 [(0, (ci (-1))), (1, (ci 0)), (2, (ci 100)), (3, (ci 101))])),
 (.h (some [1000000000, 30]) [], .o (.call (some 31) (cf 147) [(sl 29), (sl 30)])),
 (kR, .o (.idx 32 5 (sl 27) (sl 28))),
 (kR, .o (.fld 33 1 (sl 32))),
 (kH, .o (.store 1 (sl 33) (sl 31)))])
 (.seq (.reg [.o (.bin 35 .eql (sl 13) (ci 2)),
 .o (.move 34 (sl 35))])
 ((.cond (sl 34) (.draw [40] [(.r false [1000000000, 41, 40], .o (.fld 36 0 (sl 3))),
 (.r false [1000000000, 41, 40], .o (.load1 37 (sl 36))),
 (.r false [1000000000, 41, 40], .o (.move 38 (sl 4))),
 (kR, .o (.move 39 (sl 0))),
 (kN, .o (.bslice 40 1 4 [(0, (ci (-2))), (1, (ci (-1))), (2, (ci 0)), (3, (ci 2))])),
 (.h (some [1000000000, 40]) [], .o (.call (some 41) (cf 147) [(sl 39), (sl 40)])),
 (kR, .o (.idx 42 5 (sl 37) (sl 38))),
 (kR, .o (.fld 43 3 (sl 42))),
 (kH, .o (.store 1 (sl 43) (sl 41)))])
 (.seq (.reg [.o (.bin 45 .eql (sl 13) (ci 3)),
 .o (.move 44 (sl 45))])
 ((.cond (sl 44) (.reg [.o (.fld 46 0 (sl 3)),
 .o (.load1 47 (sl 46)),
 .o (.bslice 48 1 2 [(0, (ci 1)), (1, (ci 1))]),
 .o (.idx 49 5 (sl 47) (ci 0)),
 .o (.fld 50 4 (sl 49)),
 .o (.store 1 (sl 50) (sl 48))])
 (.seq (.reg [.o (.bin 52 .eql (sl 13) (ci 4)),
 .o (.move 51 (sl 52))])
 ((.cond (sl 51) (.seq (.weak (.reg [.o (.fld 53 0 (sl 3)),
 .o (.load1 54 (sl 53)),
 .o (.move 55 (sl 4)),
 .o (.slc 56 5 (sl 54) none (some (sl 55))),
 .o (.build 57 [.v (.slice none 0 0)] [(0, 1)] [(0, (sl 56))]),
 .o (.store 1 (sl 2) (sl 57))]))
 (.ret))
 (.seq (.reg [.o (.bin 59 .eql (sl 13) (ci 5)),
 .o (.move 58 (sl 59))])
 ((.cond (sl 58) (.seq (.weak (.draw [] [(.h (some []) [72], .o (.bslice 60 5 0 [])),
 (.r false [60, 63, 72], .o (.fld 61 0 (sl 3))),
 (.r false [60, 63, 72], .o (.load1 62 (sl 61))),
 (.h (some [60]) [72], .o (.app 63 5 56 (sl 60) (sl 62))),
 (.r false [60, 63, 72], .o (.fld 64 0 (sl 3))),
 (.r false [60, 63, 72], .o (.load1 65 (sl 64))),
 (.r false [60, 63, 72], .o (.fld 66 0 (sl 3))),
 (.r false [60, 63, 72], .o (.load1 67 (sl 66))),
 (.r false [60, 63, 72], .o (.lenS 68 (sl 67))),
 (.r false [60, 63, 72], .o (.bin 69 .sub (sl 68) (ci 1))),
 (.r false [60, 63, 72], .o (.idx 70 5 (sl 65) (sl 69))),
 (.r false [60, 63, 72], .o (.loadN 71 5 (sl 70))),
 (.h (some []) [60, 63], .o (.bslice 72 5 1 [(0, (sl 71))])),
 (kH, .o (.app 73 5 56 (sl 63) (sl 72))),
 (kR, .o (.build 74 [.v (.slice none 0 0)] [(0, 1)] [(0, (sl 73))])),
 (kH, .o (.store 1 (sl 2) (sl 74)))]))
 (.ret))
 .skip)))))))))))))))))))))
 ((.seq (.weak (.reg [.o (.loadN 75 1 (sl 3)),
 .o (.store 1 (sl 2) (sl 75))]))
 (.ret))))))))))
theorem q0zq {rin : List T} {args : List A} {Q : List T -> T -> Prop} (ha : args.length <= 76) (h : cW Try.prog 76 q0yl (retP Try.prog [.cell 2 33] rin.length Q) (St.of (enum 0 args) (enum 1000000000 rin))) :
    Fun Try.prog 223 rin args Q :=
  Fun.of (H := ⟨[(5, 0, .r false [1000000000, 21, 20]), (5, 1, .r false [1000000000, 21, 20]), (5, 2, .r false [1000000000, 21, 20]), (5, 5, .h (some [1000000000, 20]) []), (7, 0, .r false [1000000000, 31, 30]), (7, 1, .r false [1000000000, 31, 30]), (7, 2, .r false [1000000000, 31, 30]), (7, 5, .h (some [1000000000, 30]) []), (9, 0, .r false [1000000000, 41, 40]), (9, 1, .r false [1000000000, 41, 40]), (9, 2, .r false [1000000000, 41, 40]), (9, 5, .h (some [1000000000, 40]) []), (15, 0, .h (some []) [72]), (15, 3, .h (some [60]) [72]), (15, 12, .h (some []) [60, 63]), (15, 1, .r false [60, 63, 72]), (15, 2, .r false [60, 63, 72]), (15, 4, .r false [60, 63, 72]), (15, 5, .r false [60, 63, 72]), (15, 6, .r false [60, 63, 72]), (15, 7, .r false [60, 63, 72]), (15, 8, .r false [60, 63, 72]), (15, 9, .r false [60, 63, 72]), (15, 10, .r false [60, 63, 72]), (15, 11, .r false [60, 63, 72])], [13, 15, 16]⟩) Try.func223 rfl rfl rfl (by kernel_rfl) ha (by decide) h

section
attribute [-go_sem] q0i5 q0id fldC lenC idxC q0ip q0lp
theorem q127 (cs : List Int) (hc : q161 cs) (hl : cs.length <= 100000000000) (a : Nat × Int) (ha : q0qx a) : ∃ x : List Nd × (Nat × Int), (q0rx 100 x.1 /\ 0 < x.1.length /\ q0qx x.2) /\ Fun Try.prog 227 [.box [bytes cs, .i a.1, .i a.2]] [.own 1000000000] fun o r => o = [.box [bytes cs, .i x.2.1, .i x.2.2]] /\ r = .agg [q0m0 x.1] := by
  have hs1 := q10o (cs := cs) hl ha 5
  by_cases q0 : (q10m cs a 5).1 = 0
  · obtain ⟨g1, g2, g3⟩ := q11d (cs := cs) hl 3 [] (q10m cs a 5).2 hs1 (by simp)
    refine ⟨rndF cs 3 ([], (q10m cs a 5).2), ⟨⟨Nat.le_trans g1.1 (by decide), g1.2⟩, by simpa using g2, g3⟩, ?_⟩
    refine q0zt (by simp) ?_
    simp -implicitDefEqProofs only [go_sem, evR, ints, rows, rat, rats, q0yo]
    refine q006.ref (q10p cs hc hl a ha 5 (by omega)) [1000000000] [] rfl Try.call126 (by simp) ?_ (by simp) ?_ (.inl rfl) ?_
    · simp -implicitDefEqProofs only [srR, Nat.reduceEqDiff, ↓reduceIte, ints, rows, intsO, q0qa]
    · simp -implicitDefEqProofs only [agR, Nat.reduceLeDiff, Nat.reduceSub, vaR, go_sem, ints, rows, rat, rats, q0p1, rtR, intsO, q0qa]
    simp -implicitDefEqProofs only [clR, Nat.reduceLeDiff, go_sem, evR, rat]
    generalize q10m cs a 5 = z at q0 hs1 ⊢
    obtain ⟨k, b⟩ := z
    simp only [] at q0 hs1 ⊢
    refine ⟨fun h0 => ?_, fun h0 => absurd h0 (by simp [q0])⟩
    have hp := q126 cs hc hl 1000 (by omega) 3 [] b hs1 ⟨by simp, by simp⟩ (by decide)
    simp only [q0m0, q06e, show ((3 : Nat) : Int) = 3 from rfl] at hp
    refine q006.ref hp [1000000000, 12] [] rfl Try.call199 (by simp) ?_ (by simp) ?_ (.inl rfl) ?_
    · simp -implicitDefEqProofs only [srR, Nat.reduceEqDiff, ↓reduceIte, ints, rows, intsO, q0qa]
    · simp -implicitDefEqProofs only [agR, Nat.reduceLeDiff, Nat.reduceSub, vaR, go_sem, ints, rows, rat, rats, q0p1, rtR, intsO, q0qa]
    simp -implicitDefEqProofs only [clR, Nat.reduceLeDiff, go_sem, evR, rat]
    rfl
  · by_cases q1 : (q10m cs a 5).1 = 1
    · have hs2 := q10o (cs := cs) hl hs1 4
      have hb2 := q10n (cs := cs) (a := (q10m cs a 5).2) (n := 4) (by omega)
      have hs3 := q10o (cs := cs) hl hs2 5
      have hb3 := q10n (cs := cs) (a := (q10m cs (q10m cs a 5).2 4).2) (n := 5) (by omega)
      obtain ⟨l', h1', h2', hp⟩ := q11u (q10m cs (q10m cs a 5).2 4).1 (1 + (q10m cs (q10m cs (q10m cs a 5).2 4).2 5).1) 1 (by omega) (by omega) (by omega) (by omega) (by omega)
      refine ⟨(l', (q10m cs (q10m cs (q10m cs a 5).2 4).2 5).2), ⟨h1', h2', hs3⟩, ?_⟩
      refine q0zt (by simp) ?_
      simp -implicitDefEqProofs only [go_sem, evR, ints, rows, rat, rats, q0yo]
      refine q006.ref (q10p cs hc hl a ha 5 (by omega)) [1000000000] [] rfl Try.call126 (by simp) ?_ (by simp) ?_ (.inl rfl) ?_
      · simp -implicitDefEqProofs only [srR, Nat.reduceEqDiff, ↓reduceIte, ints, rows, intsO, q0qa]
      · simp -implicitDefEqProofs only [agR, Nat.reduceLeDiff, Nat.reduceSub, vaR, go_sem, ints, rows, rat, rats, q0p1, rtR, intsO, q0qa]
      simp -implicitDefEqProofs only [clR, Nat.reduceLeDiff, go_sem, evR, rat]
      generalize q10m cs a 5 = z at *
      obtain ⟨k, b⟩ := z
      simp only [] at q0 q1 hs1 hs2 hb2 hs3 hb3 hp ⊢
      refine ⟨fun h0 => absurd h0 (by simp [q0]), fun h0 => ⟨fun h1 => ?_, fun h1 => absurd h1 (by simp [q1])⟩⟩
      refine q006.ref (q10p cs hc hl b hs1 4 (by omega)) [1000000000] [] rfl Try.call126 (by simp) ?_ (by simp) ?_ (.inl rfl) ?_
      · simp -implicitDefEqProofs only [srR, Nat.reduceEqDiff, ↓reduceIte, ints, rows, intsO, q0qa]
      · simp -implicitDefEqProofs only [agR, Nat.reduceLeDiff, Nat.reduceSub, vaR, go_sem, ints, rows, rat, rats, q0p1, rtR, intsO, q0qa]
      simp -implicitDefEqProofs only [clR, Nat.reduceLeDiff, go_sem, evR, rat]
      generalize q10m cs b 4 = z at *
      obtain ⟨p, b2⟩ := z
      simp only [] at hs2 hb2 hs3 hb3 hp ⊢
      refine q006.ref (q10p cs hc hl b2 hs2 5 (by omega)) [1000000000] [] rfl Try.call126 (by simp) ?_ (by simp) ?_ (.inl rfl) ?_
      · simp -implicitDefEqProofs only [srR, Nat.reduceEqDiff, ↓reduceIte, ints, rows, intsO, q0qa]
      · simp -implicitDefEqProofs only [agR, Nat.reduceLeDiff, Nat.reduceSub, vaR, go_sem, ints, rows, rat, rats, q0p1, rtR, intsO, q0qa]
      simp -implicitDefEqProofs only [clR, Nat.reduceLeDiff, go_sem, evR, rat]
      generalize q10m cs b2 5 = z at *
      obtain ⟨q, b3⟩ := z
      simp only [] at hs3 hb3 hp ⊢
      rw [wrap64 (n := 1 + q) (by omega) (by omega)]
      simp only [show ((1 : Nat) : Int) = 1 from rfl, q0m0] at hp
      refine q006.res hp [] rfl Try.call184 ?_ (.inl rfl) ?_
      · simp -implicitDefEqProofs only [agR, Nat.reduceLeDiff, Nat.reduceSub, vaR, go_sem, ints, rows, rat, rats, q0p1, rtR, intsO, q0qa]
      simp -implicitDefEqProofs only [clR, Nat.reduceLeDiff, go_sem, evR, rat, opR, Nat.reduceBEq]
      rfl
    · have hs2 := q10o (cs := cs) hl hs1 3
      have hb2 := q10n (cs := cs) (a := (q10m cs a 5).2) (n := 3) (by omega)
      have hs3 := q10o (cs := cs) hl hs2 4
      have hb3 := q10n (cs := cs) (a := (q10m cs (q10m cs a 5).2 3).2) (n := 4) (by omega)
      obtain ⟨l', h1', h2', hp⟩ := q11u (1 + (q10m cs (q10m cs a 5).2 3).1) (1 + (q10m cs (q10m cs (q10m cs a 5).2 3).2 4).1) 0 (by omega) (by omega) (by omega) (by omega) (by omega)
      refine ⟨(l', (q10m cs (q10m cs (q10m cs a 5).2 3).2 4).2), ⟨h1', h2', hs3⟩, ?_⟩
      refine q0zt (by simp) ?_
      simp -implicitDefEqProofs only [go_sem, evR, ints, rows, rat, rats, q0yo]
      refine q006.ref (q10p cs hc hl a ha 5 (by omega)) [1000000000] [] rfl Try.call126 (by simp) ?_ (by simp) ?_ (.inl rfl) ?_
      · simp -implicitDefEqProofs only [srR, Nat.reduceEqDiff, ↓reduceIte, ints, rows, intsO, q0qa]
      · simp -implicitDefEqProofs only [agR, Nat.reduceLeDiff, Nat.reduceSub, vaR, go_sem, ints, rows, rat, rats, q0p1, rtR, intsO, q0qa]
      simp -implicitDefEqProofs only [clR, Nat.reduceLeDiff, go_sem, evR, rat]
      generalize q10m cs a 5 = z at *
      obtain ⟨k, b⟩ := z
      simp only [] at q0 q1 hs1 hs2 hb2 hs3 hb3 hp ⊢
      refine ⟨fun h0 => absurd h0 (by simp [q0]), fun h0 => ⟨fun h1 => absurd h1 (by simp [q1]), fun h1 => ?_⟩⟩
      refine q006.ref (q10p cs hc hl b hs1 3 (by omega)) [1000000000] [] rfl Try.call126 (by simp) ?_ (by simp) ?_ (.inl rfl) ?_
      · simp -implicitDefEqProofs only [srR, Nat.reduceEqDiff, ↓reduceIte, ints, rows, intsO, q0qa]
      · simp -implicitDefEqProofs only [agR, Nat.reduceLeDiff, Nat.reduceSub, vaR, go_sem, ints, rows, rat, rats, q0p1, rtR, intsO, q0qa]
      simp -implicitDefEqProofs only [clR, Nat.reduceLeDiff, go_sem, evR, rat]
      generalize q10m cs b 3 = z at *
      obtain ⟨p, b2⟩ := z
      simp only [] at hs2 hb2 hs3 hb3 hp ⊢
      refine q006.ref (q10p cs hc hl b2 hs2 4 (by omega)) [1000000000] [] rfl Try.call126 (by simp) ?_ (by simp) ?_ (.inl rfl) ?_
      · simp -implicitDefEqProofs only [srR, Nat.reduceEqDiff, ↓reduceIte, ints, rows, intsO, q0qa]
      · simp -implicitDefEqProofs only [agR, Nat.reduceLeDiff, Nat.reduceSub, vaR, go_sem, ints, rows, rat, rats, q0p1, rtR, intsO, q0qa]
      simp -implicitDefEqProofs only [clR, Nat.reduceLeDiff, go_sem, evR, rat]
      generalize q10m cs b2 4 = z at *
      obtain ⟨q, b3⟩ := z
      simp only [] at hs3 hb3 hp ⊢
      rw [wrap64 (n := 1 + p) (by omega) (by omega), wrap64 (n := 1 + q) (by omega) (by omega)]
      simp only [show ((0 : Nat) : Int) = 0 from rfl, q0m0] at hp
      refine q006.res hp [] rfl Try.call184 ?_ (.inl rfl) ?_
      · simp -implicitDefEqProofs only [agR, Nat.reduceLeDiff, Nat.reduceSub, vaR, go_sem, ints, rows, rat, rats, q0p1, rtR, intsO, q0qa]
      simp -implicitDefEqProofs only [clR, Nat.reduceLeDiff, go_sem, evR, rat, opR, Nat.reduceBEq]
      rfl
theorem q10r (l : List Nd) : (T.arr 5 (chunk q0lu l)).toSh = nodes l := by
  simp only [nodes, T.toSh, T.toShL_eq_map, chunk, List.map_flatMap]
  rfl
theorem q12g (l : List Nd) : T.toShL (chunk q0lv l) = chunk q0lu l := by
  have h := q0m1 l
  rw [q0m0, nodes, T.toSh] at h
  injection h
theorem q12h (l : List Nd) : T.toShL (chunk q0lu l) = chunk q0lu l := by
  have h := q10r l
  rw [nodes, T.toSh] at h
  injection h
theorem q0y2 (l : List Nd) : (chunk q0lu l).all T.cell = true := by
  rw [List.all_eq_true]
  intro t ht
  simp only [chunk, List.mem_flatMap] at ht
  obtain ⟨x, _, hx⟩ := ht
  simp only [q0lu, List.mem_cons, List.not_mem_nil, or_false] at hx
  rcases hx with rfl | rfl | rfl | rfl | rfl <;> rfl
theorem q0yx : ∀ (l : List Nd) (i : Nat) (x : Nd) (v : Int), l[i]? = some x -> (chunk q0lv l).set (i * 5) (.i v) = chunk q0lv (l.set i ⟨v, x.a, x.b, x.f, x.ch⟩)
  | [], i, x, v, h => by simp at h
  | a :: l, 0, x, v, h => by
    simp at h; subst h
    rw [q069, List.set_cons_zero, q069]; rfl
  | a :: l, i + 1, x, v, h => by
    rw [q069, List.set_append_right _ _ (by rw [q0lw]; omega), q0lw, show (i + 1) * 5 - 5 = i * 5 by omega, q0yx l i x v (by simpa using h), List.set_cons_succ, q069]
theorem q0yu : ∀ (l : List Nd) (i : Nat) (x : Nd) (v : Int), l[i]? = some x -> (chunk q0lv l).set (i * 5 + 1) (.i v) = chunk q0lv (l.set i ⟨x.p, v, x.b, x.f, x.ch⟩)
  | [], i, x, v, h => by simp at h
  | a :: l, 0, x, v, h => by
    simp at h; subst h
    rw [q069, List.set_cons_zero, q069]; rfl
  | a :: l, i + 1, x, v, h => by
    rw [q069, List.set_append_right _ _ (by rw [q0lw]; omega), q0lw, show (i + 1) * 5 + 1 - 5 = i * 5 + 1 by omega, q0yu l i x v (by simpa using h), List.set_cons_succ, q069]
theorem q0yw : ∀ (l : List Nd) (i : Nat) (x : Nd) (v : Int), l[i]? = some x -> (chunk q0lv l).set (i * 5 + 3) (.i v) = chunk q0lv (l.set i ⟨x.p, x.a, x.b, v, x.ch⟩)
  | [], i, x, v, h => by simp at h
  | a :: l, 0, x, v, h => by
    simp at h; subst h
    rw [q069, List.set_cons_zero, q069]; rfl
  | a :: l, i + 1, x, v, h => by
    rw [q069, List.set_append_right _ _ (by rw [q0lw]; omega), q0lw, show (i + 1) * 5 + 3 - 5 = i * 5 + 3 by omega, q0yw l i x v (by simpa using h), List.set_cons_succ, q069]
theorem q11t {b : Nat} {l : List Nd} (h : q0rx b l) {i : Nat} {x : Nd} (hx : l[i]? = some x) (p a c f : Int) : q0rx b (l.set i ⟨p, a, c, f, x.ch⟩) := q11s h i _ (h.2 x (List.mem_of_getElem? hx))
def q0z4 (b : Bool) (l : List Nd) : T := .agg [if b then nodes l else .arr 5 (chunk q0lu l)]
def tdF (cs : List Int) (l : List Nd) (k : Nat) (q : Int) (c : Nat × Int) : (List Nd × Bool) × (Nat × Int) :=
  match l[k]? with
  | none => ((l, true), c)
  | some z =>
    if q = 0 then ((l.set k ⟨(q115 cs c [-1, 0, 1, 2, 3]).1, z.a, z.b, z.f, z.ch⟩, true), (q115 cs c [-1, 0, 1, 2, 3]).2)
    else if q = 1 then ((l.set k ⟨z.p, (q115 cs c [-1, 0, 100, 101]).1, z.b, z.f, z.ch⟩, true), (q115 cs c [-1, 0, 100, 101]).2)
    else if q = 2 then ((l.set k ⟨z.p, z.a, z.b, (q115 cs c [-2, -1, 0, 2]).1, z.ch⟩, true), (q115 cs c [-2, -1, 0, 2]).2)
    else if q = 3 then ((q11m l 0 [1, 1], true), c)
    else if q = 4 then ((l.take k, true), c)
    else if q = 5 then ((l ++ l[l.length - 1]?.toList, false), c)
    else ((l, true), c)
theorem q12f {cs : List Int} (hl : cs.length <= 100000000000) {l : List Nd} (h : q0rx 100 l) (k : Nat) (q : Int) {c : Nat × Int} (hc : q0qx c) : q0rx 101 (tdF cs l k q c).1.1 /\ q0qx (tdF cs l k q c).2 := by
  have hs : q0rx 101 l := ⟨by have := h.1; omega, h.2⟩
  unfold tdF
  cases hz : l[k]? with
  | none => exact ⟨hs, hc⟩
  | some z =>
    (try simp only [])
    split
    · exact ⟨q11t hs hz _ _ _ _, q116 hl hc _⟩
    split
    · exact ⟨q11t hs hz _ _ _ _, q116 hl hc _⟩
    split
    · exact ⟨q11t hs hz _ _ _ _, q116 hl hc _⟩
    split
    · exact ⟨(q11n hs 0 (by simp)).1, hc⟩
    split
    · exact ⟨⟨by show (l.take k).length <= 101; rw [List.length_take]; have := hs.1; omega, fun x hx => hs.2 x (List.mem_of_mem_take hx)⟩, hc⟩
    split
    · refine ⟨⟨?_, fun x hx => ?_⟩, hc⟩
      · have := h.1
        show (l ++ l[l.length - 1]?.toList).length <= 101
        rw [List.length_append]
        have : l[l.length - 1]?.toList.length <= 1 := by cases l[l.length - 1]? <;> simp
        omega
      · rcases List.mem_append.1 hx with hx | hx
        · exact hs.2 x hx
        · cases hg : l[l.length - 1]? with
          | none => rw [hg] at hx; simp at hx
          | some y => rw [hg] at hx; simp at hx; rw [hx]; exact hs.2 _ (List.mem_of_getElem? hg)
    · exact ⟨hs, hc⟩
theorem q122 (cs : List Int) (hc : q161 cs) (hl : cs.length <= 100000000000) (a : Nat × Int) (ha : q0qx a) : ∃ x : (List Nd × Bool) × (Nat × Int), (q0rx 101 x.1.1 /\ q0qx x.2) /\ Fun Try.prog 223 [.box [bytes cs, .i a.1, .i a.2]] [.own 1000000000] fun o r => o = [.box [bytes cs, .i x.2.1, .i x.2.2]] /\ r = q0z4 x.1.2 x.1.1 := by
  obtain ⟨⟨l, e⟩, ⟨hx1, hx2, hx3⟩, hV⟩ := q127 cs hc hl a ha
  (try simp only [] at hx1 hx2 hx3 hV)
  refine ⟨tdF cs l (q10m cs e l.length).1.toNat (q10m cs (q10m cs e l.length).2 30).1 (q10m cs (q10m cs e l.length).2 30).2, q12f hl hx1 _ _ (q10o hl (q10o hl hx3 _) _), ?_⟩
  refine q0zq (by simp) ?_
  simp -implicitDefEqProofs only [go_sem, evR, ints, rows, rat, rats, q0yl]
  simp only [q0m0] at hV
  refine q006.ref hV [1000000000] [] rfl Try.call227 (by simp) ?_ (by simp) ?_ (.inl rfl) ?_
  · simp -implicitDefEqProofs only [srR, Nat.reduceEqDiff, ↓reduceIte, ints, rows, intsO, q0qa]
  · simp -implicitDefEqProofs only [agR, Nat.reduceLeDiff, Nat.reduceSub, vaR, go_sem, ints, rows, rat, rats, q0p1, rtR, intsO, q0qa]
  simp -implicitDefEqProofs only [clR, Nat.reduceLeDiff, go_sem, evR, rat]
  have hl1 := hx1.1
  have hnl : (chunk q0lv l).length / 5 = l.length := q06a q0lw (by decide) l
  have hnl5 : (chunk q0lv l).length = l.length * 5 := q06d q0lw l
  rw [hnl]
  refine q006.ref (q10p cs hc hl e hx3 l.length (by omega)) [1000000000] [] rfl Try.call126 (by simp) ?_ (by simp) ?_ (.inl rfl) ?_
  · simp -implicitDefEqProofs only [srR, Nat.reduceEqDiff, ↓reduceIte, ints, rows, intsO, q0qa]
  · simp -implicitDefEqProofs only [agR, Nat.reduceLeDiff, Nat.reduceSub, vaR, go_sem, ints, rows, rat, rats, q0p1, rtR, intsO, q0qa]
  simp -implicitDefEqProofs only [clR, Nat.reduceLeDiff, go_sem, evR, rat]
  have hs1 := q10o (cs := cs) hl hx3 l.length
  have hb1 := q10n (cs := cs) (a := e) (n := l.length) (by omega)
  generalize q10m cs e l.length = z at hs1 hb1 ⊢
  obtain ⟨k, b⟩ := z
  simp only [] at hs1 hb1 ⊢
  obtain ⟨k, rfl⟩ : ∃ n : Nat, k = n := ⟨k.toNat, by omega⟩
  rw [Int.toNat_natCast]
  refine q006.ref (q10p cs hc hl b hs1 30 (by omega)) [1000000000] [] rfl Try.call126 (by simp) ?_ (by simp) ?_ (.inl rfl) ?_
  · simp -implicitDefEqProofs only [srR, Nat.reduceEqDiff, ↓reduceIte, ints, rows, intsO, q0qa]
  · simp -implicitDefEqProofs only [agR, Nat.reduceLeDiff, Nat.reduceSub, vaR, go_sem, ints, rows, rat, rats, q0p1, rtR, intsO, q0qa]
  simp -implicitDefEqProofs only [clR, Nat.reduceLeDiff, go_sem, evR, rat, List.lookup_cons, beq_self_eq_true]
  have hs2 := q10o (cs := cs) hl hs1 30
  generalize q10m cs b 30 = z at hs2 ⊢
  obtain ⟨q, c⟩ := z
  simp only [] at hs2 ⊢
  obtain ⟨z0, hz0⟩ : ∃ z, l[k]? = some z := ⟨_, List.getElem?_eq_getElem (by omega)⟩
  have hsm : q0rx 101 l := ⟨by omega, hx1.2⟩
  refine ⟨fun q0 => ?_, fun q0 => ⟨fun q1 => ?_, fun q1 => ⟨fun q2 => ?_, fun q2 => ⟨fun q3 => ?_, fun q3 => ⟨fun q4 => ?_, fun q4 => ⟨fun q5 => ?_, fun q5 => ?_⟩⟩⟩⟩⟩⟩
  · have hp := q117 cs hc hl c hs2 [-1, 0, 1, 2, 3] (by simp) (by simp)
    simp only [intsO, List.map_cons, List.map_nil] at hp
    refine q002.ref hp [1000000000, 20] [] rfl Try.call147 (by simp) ?_ (by simp) (fun e R' hR => ?_) (.inl rfl) ?_
    · simp -implicitDefEqProofs only [srR, Nat.reduceEqDiff, ↓reduceIte, ints, rows, intsO, q0qa]
    · simp -implicitDefEqProofs only [agR, Nat.reduceLeDiff, Nat.reduceSub, vaR, go_sem, ints, rows, rat, rats, q0p1, rtR, intsO, q0qa]
    simp -implicitDefEqProofs only [clR, Nat.reduceLeDiff, go_sem, evR, rat]
    have hs3 := q116 (cs := cs) hl hs2 [-1, 0, 1, 2, 3]
    generalize hpk : q115 cs c [-1, 0, 1, 2, 3] = z at hs3 ⊢
    obtain ⟨v, d⟩ := z
    simp only [] at hs3 ⊢
    refine ⟨?_, ((q09v.refl _ _ _).upd _ (.inl (by simp))).upd _ (.inl (by simp))⟩
    simp -implicitDefEqProofs only [go_sem, evR, ints, rows, rat, rats, hnl5]
    refine ⟨by omega, by omega, by omega, ?_⟩
    rw [q0yx l k z0 v hz0]
    refine ⟨_, Weak.trans (Weak.close1 3 0 9 rfl rfl (by decide) rfl) (Weak.trans (Weak.share 3 rfl) (Weak.of [(0, .own 1000000000), (2, .own 2), (3, .t (.pin [nodes (l.set k ⟨v, z0.a, z0.b, z0.f, z0.ch⟩)] 0)), (4, .t (.i k))] [(1000000000, .box [bytes cs, .i d.1, .i d.2]), (2, .box [.v (.slice none 0 0)])] [some 1000000000, some 2] (by simp) (by simp) ?_ ?_)), ?_⟩
    · simp -implicitDefEqProofs only [ints, rows, Nat.reduceBEq, wkR, Nat.reduceEqDiff, ↓reduceIte, wrR, q0rg, T.toSh, T.toShL, q12g, nodes, List.set_cons_zero]
    · exact ⟨⟨_, rfl, .refl _⟩, rfl, ⟨_, rfl, .refl _⟩, rfl, trivial⟩
    simp -implicitDefEqProofs only [go_sem, evR, ints, rows, rat, rats, nodes]
    have hT : tdF cs l k q c = (((l.set k ⟨v, z0.a, z0.b, z0.f, z0.ch⟩), true), d) := by simp only [tdF, hz0, hpk]; exact if_pos (by simpa using q0)
    rw [hT]; exact ⟨rfl, rfl⟩
  · have hp := q117 cs hc hl c hs2 [-1, 0, 100, 101] (by simp) (by simp)
    simp only [intsO, List.map_cons, List.map_nil] at hp
    refine q002.ref hp [1000000000, 30] [] rfl Try.call147 (by simp) ?_ (by simp) (fun e R' hR => ?_) (.inl rfl) ?_
    · simp -implicitDefEqProofs only [srR, Nat.reduceEqDiff, ↓reduceIte, ints, rows, intsO, q0qa]
    · simp -implicitDefEqProofs only [agR, Nat.reduceLeDiff, Nat.reduceSub, vaR, go_sem, ints, rows, rat, rats, q0p1, rtR, intsO, q0qa]
    simp -implicitDefEqProofs only [clR, Nat.reduceLeDiff, go_sem, evR, rat]
    have hs3 := q116 (cs := cs) hl hs2 [-1, 0, 100, 101]
    generalize hpk : q115 cs c [-1, 0, 100, 101] = z at hs3 ⊢
    obtain ⟨v, d⟩ := z
    simp only [] at hs3 ⊢
    refine ⟨?_, ((q09v.refl _ _ _).upd _ (.inl (by simp))).upd _ (.inl (by simp))⟩
    simp -implicitDefEqProofs only [go_sem, evR, ints, rows, rat, rats, hnl5]
    refine ⟨by omega, by omega, by omega, ?_⟩
    rw [q0yu l k z0 v hz0]
    refine ⟨_, Weak.trans (Weak.close1 3 0 9 rfl rfl (by decide) rfl) (Weak.trans (Weak.share 3 rfl) (Weak.of [(0, .own 1000000000), (2, .own 2), (3, .t (.pin [nodes (l.set k ⟨z0.p, v, z0.b, z0.f, z0.ch⟩)] 0)), (4, .t (.i k))] [(1000000000, .box [bytes cs, .i d.1, .i d.2]), (2, .box [.v (.slice none 0 0)])] [some 1000000000, some 2] (by simp) (by simp) ?_ ?_)), ?_⟩
    · simp -implicitDefEqProofs only [ints, rows, Nat.reduceBEq, wkR, Nat.reduceEqDiff, ↓reduceIte, wrR, q0rg, T.toSh, T.toShL, q12g, nodes, List.set_cons_zero]
    · exact ⟨⟨_, rfl, .refl _⟩, rfl, ⟨_, rfl, .refl _⟩, rfl, trivial⟩
    simp -implicitDefEqProofs only [go_sem, evR, ints, rows, rat, rats, nodes]
    have hT : tdF cs l k q c = (((l.set k ⟨z0.p, v, z0.b, z0.f, z0.ch⟩), true), d) := by simp only [tdF, hz0, hpk]; rw [if_neg (by simpa using q0)]; exact if_pos (by simpa using q1)
    rw [hT]; exact ⟨rfl, rfl⟩
  · have hp := q117 cs hc hl c hs2 [-2, -1, 0, 2] (by simp) (by simp)
    simp only [intsO, List.map_cons, List.map_nil] at hp
    refine q002.ref hp [1000000000, 40] [] rfl Try.call147 (by simp) ?_ (by simp) (fun e R' hR => ?_) (.inl rfl) ?_
    · simp -implicitDefEqProofs only [srR, Nat.reduceEqDiff, ↓reduceIte, ints, rows, intsO, q0qa]
    · simp -implicitDefEqProofs only [agR, Nat.reduceLeDiff, Nat.reduceSub, vaR, go_sem, ints, rows, rat, rats, q0p1, rtR, intsO, q0qa]
    simp -implicitDefEqProofs only [clR, Nat.reduceLeDiff, go_sem, evR, rat]
    have hs3 := q116 (cs := cs) hl hs2 [-2, -1, 0, 2]
    generalize hpk : q115 cs c [-2, -1, 0, 2] = z at hs3 ⊢
    obtain ⟨v, d⟩ := z
    simp only [] at hs3 ⊢
    refine ⟨?_, ((q09v.refl _ _ _).upd _ (.inl (by simp))).upd _ (.inl (by simp))⟩
    simp -implicitDefEqProofs only [go_sem, evR, ints, rows, rat, rats, hnl5]
    refine ⟨by omega, by omega, by omega, ?_⟩
    rw [q0yw l k z0 v hz0]
    refine ⟨_, Weak.trans (Weak.close1 3 0 9 rfl rfl (by decide) rfl) (Weak.trans (Weak.share 3 rfl) (Weak.of [(0, .own 1000000000), (2, .own 2), (3, .t (.pin [nodes (l.set k ⟨z0.p, z0.a, z0.b, v, z0.ch⟩)] 0)), (4, .t (.i k))] [(1000000000, .box [bytes cs, .i d.1, .i d.2]), (2, .box [.v (.slice none 0 0)])] [some 1000000000, some 2] (by simp) (by simp) ?_ ?_)), ?_⟩
    · simp -implicitDefEqProofs only [ints, rows, Nat.reduceBEq, wkR, Nat.reduceEqDiff, ↓reduceIte, wrR, q0rg, T.toSh, T.toShL, q12g, nodes, List.set_cons_zero]
    · exact ⟨⟨_, rfl, .refl _⟩, rfl, ⟨_, rfl, .refl _⟩, rfl, trivial⟩
    simp -implicitDefEqProofs only [go_sem, evR, ints, rows, rat, rats, nodes]
    have hT : tdF cs l k q c = (((l.set k ⟨z0.p, z0.a, z0.b, v, z0.ch⟩), true), d) := by simp only [tdF, hz0, hpk]; rw [if_neg (by simpa using q0), if_neg (by simpa using q1)]; exact if_pos (by simpa using q2)
    rw [hT]; exact ⟨rfl, rfl⟩
  · obtain ⟨z1, hz1⟩ : ∃ z, l[0]? = some z := ⟨_, List.getElem?_eq_getElem (by omega)⟩
    have hch := q0yv l 0 z1 [1, 1] hz1
    simp only [Nat.zero_mul, Nat.zero_add, intsO, List.map_cons, List.map_nil] at hch
    refine ⟨by omega, by omega, ?_⟩
    simp -implicitDefEqProofs only [go_sem, evR, ints, rows, rat, rats, hch]
    refine ⟨_, Weak.trans (Weak.close1 3 0 9 rfl rfl (by decide) rfl) (Weak.trans (Weak.share 3 rfl) (Weak.of [(0, .own 1000000000), (2, .own 2), (3, .t (.pin [nodes (l.set 0 ⟨z1.p, z1.a, z1.b, z1.f, [1, 1]⟩)] 0)), (4, .t (.i k))] [(1000000000, .box [bytes cs, .i c.1, .i c.2]), (2, .box [.v (.slice none 0 0)])] [some 1000000000, some 2] (by simp) (by simp) ?_ ?_)), ?_⟩
    · simp -implicitDefEqProofs only [ints, rows, Nat.reduceBEq, wkR, Nat.reduceEqDiff, ↓reduceIte, wrR, q0rg, T.toSh, T.toShL, q12g, nodes, List.set_cons_zero]
    · exact ⟨⟨_, rfl, .refl _⟩, rfl, ⟨_, rfl, .refl _⟩, rfl, trivial⟩
    simp -implicitDefEqProofs only [go_sem, evR, ints, rows, rat, rats, nodes]
    have hT : tdF cs l k q c = ((l.set 0 ⟨z1.p, z1.a, z1.b, z1.f, [1, 1]⟩, true), c) := by simp only [tdF, hz0]; rw [if_neg (by simpa using q0), if_neg (by simpa using q1), if_neg (by simpa using q2), if_pos (by simpa using q3)]; simp only [q11m, hz1]
    rw [hT]; exact ⟨rfl, rfl⟩
  · refine ⟨_, Weak.trans (Weak.close1 3 0 9 rfl rfl (by decide) rfl) (Weak.trans (Weak.share 3 rfl) (Weak.of [(0, .own 1000000000), (2, .own 2), (3, .t (.pin [nodes l] 0)), (4, .t (.i k))] [(1000000000, .box [bytes cs, .i c.1, .i c.2]), (2, .box [.v (.slice none 0 0)])] [some 1000000000, some 2] (by simp) (by simp) ?_ ?_)), ?_⟩
    · simp -implicitDefEqProofs only [ints, rows, Nat.reduceBEq, wkR, Nat.reduceEqDiff, ↓reduceIte, wrR, q0rg, T.toSh, T.toShL, q12g, nodes, List.set_cons_zero]
    · exact ⟨⟨_, rfl, .refl _⟩, rfl, ⟨_, rfl, .refl _⟩, rfl, trivial⟩
    simp -implicitDefEqProofs only [go_sem, evR, ints, rows, rat, rats, nodes]
    have hT : tdF cs l k q c = ((l.take k, true), c) := by simp only [tdF, hz0]; rw [if_neg (by simpa using q0), if_neg (by simpa using q1), if_neg (by simpa using q2), if_neg (by simpa using q3)]; exact if_pos (by simpa using q4)
    rw [hT]
    refine ⟨by omega, by rw [q0l0]; omega, rfl, ?_⟩
    rw [q0z4, Nat.sub_zero, q0yy q0lx]; rfl
  · refine ⟨_, Weak.trans (Weak.close1 3 0 9 rfl rfl (by decide) rfl) (Weak.trans (Weak.share 3 rfl) (Weak.of [(0, .own 1000000000), (2, .own 2), (3, .t (.pin [nodes l] 0)), (4, .t (.i k))] [(1000000000, .box [bytes cs, .i c.1, .i c.2]), (2, .box [.v (.slice none 0 0)])] [some 1000000000, some 2] (by simp) (by simp) ?_ ?_)), ?_⟩
    · simp -implicitDefEqProofs only [ints, rows, Nat.reduceBEq, wkR, Nat.reduceEqDiff, ↓reduceIte, wrR, q0rg, T.toSh, T.toShL, q12g, nodes, List.set_cons_zero]
    · exact ⟨⟨_, rfl, .refl _⟩, rfl, ⟨_, rfl, .refl _⟩, rfl, trivial⟩
    obtain ⟨z1, hz1⟩ : ∃ z, l[l.length - 1]? = some z := ⟨_, List.getElem?_eq_getElem (by omega)⟩
    have hw : IntKind.i64.wrap ((l.length : Int) - 1) = ((l.length - 1 : Nat) : Int) := by rw [wrap64 (by omega) (by omega)]; omega
    simp -implicitDefEqProofs only [go_sem, evR, ints, rows, rat, rats, nodes, q0l0, hw, q0kw hz1, q0y2, show l.length * 5 / 5 = l.length by omega]
    refine ⟨⟨by omega, ⟨by omega, by omega, by omega, rfl, ?_, (q09v.refl _ _ _).upd _ (.inr rfl)⟩, ((q09v.refl _ _ _).upd _ (.inl (by simp))).upd _ (.inr rfl)⟩, (q09v.refl _ _ _).upd _ (.inr rfl)⟩
    generalize hR : q0k5 [60, 63] _ _ = R
    have h63 : R 63 = .live (.arr 5 (chunk q0lu l)) [] := by rw [← hR]; rfl
    have h73 : R 73 = .free := by rw [← hR]; rfl
    rw [h63, h73]
    have hT : tdF cs l k q c = ((l ++ [z1], false), c) := by simp only [tdF, hz0]; rw [if_neg (by simpa using q0), if_neg (by simpa using q1), if_neg (by simpa using q2), if_neg (by simpa using q3), if_neg (by simpa using q4), if_pos (by simpa using q5), hz1]; rfl
    rw [hT]
    refine ⟨rfl, by rw [q0l0]; omega, rfl, rfl, ?_⟩
    simp only [q0z4, q067]; rfl
  · refine ⟨_, Weak.trans (Weak.close1 3 0 9 rfl rfl (by decide) rfl) (Weak.trans (Weak.share 3 rfl) (Weak.of [(0, .own 1000000000), (2, .own 2), (3, .t (.pin [nodes l] 0)), (4, .t (.i k))] [(1000000000, .box [bytes cs, .i c.1, .i c.2]), (2, .box [.v (.slice none 0 0)])] [some 1000000000, some 2] (by simp) (by simp) ?_ ?_)), ?_⟩
    · simp -implicitDefEqProofs only [ints, rows, Nat.reduceBEq, wkR, Nat.reduceEqDiff, ↓reduceIte, wrR, q0rg, T.toSh, T.toShL, q12g, nodes, List.set_cons_zero]
    · exact ⟨⟨_, rfl, .refl _⟩, rfl, ⟨_, rfl, .refl _⟩, rfl, trivial⟩
    simp -implicitDefEqProofs only [go_sem, evR, ints, rows, rat, rats, nodes]
    have hT : tdF cs l k q c = ((l, true), c) := by simp only [tdF, hz0]; rw [if_neg (by simpa using q0), if_neg (by simpa using q1), if_neg (by simpa using q2), if_neg (by simpa using q3), if_neg (by simpa using q4), if_neg (by simpa using q5)]
    rw [hT]; exact ⟨rfl, rfl⟩
end
section
attribute [-go_sem] q0i5 q0id fldC lenC idxC q0ip q0lp
theorem q12a (l : List Nd) (hl : q0rx 1000 l) : Fun Try.prog 219 [] [.t (q0vz l)] fun o r => o = [] /\ r = .agg [q0m0 l] := by
  refine q0zw (by simp) ?_
  simp -implicitDefEqProofs only [go_sem, evR, ints, rows, rat, rats, q0yr, q0vz, nodes]
  refine SemC.loopR (σ := Nat) (fun i => St.of [(1, .own 1), (2, .own 2), (3, .own 96), (4, .t (.i i))] [(1, .box [nodes l]), (2, .box [.v (.slice none 0 0)]), (96, q0m0 (l.take i))]) (fun i => i <= l.length) (fun i => l.length - i) 0 (Weak.of _ _ [some 1, some 2, some 6] (by simp) (by simp) ?_ ?_) (by simp) fun i hi R hn hr he => ?_
  · simp -implicitDefEqProofs only [ints, rows, Nat.reduceBEq, wkR, Nat.reduceEqDiff, ↓reduceIte, wrR, nodes]
  · exact ⟨⟨_, rfl, .refl _⟩, rfl, ⟨_, rfl, .refl _⟩, rfl, ⟨_, rfl, .refl _⟩, rfl, trivial⟩
  have hl1 := hl.1
  rcases Nat.lt_or_ge i l.length with h9 | h9
  · obtain ⟨x, hx⟩ : ∃ x, l[i]? = some x := ⟨_, List.getElem?_eq_getElem h9⟩
    have hxl := hl.2 x (List.mem_of_getElem? hx)
    have hnt : (chunk q0lv (l.take i)).length = i * 5 := by rw [q06d q0lw, List.length_take, Nat.min_eq_left (by omega)]
    simp -implicitDefEqProofs only [go_sem, evR, ints, rows, rat, rats, nodes, q0m0, decide_eq_true (show (i : Int) < (l.length : Int) by omega), q0kw hx]
    refine ⟨by omega, by rw [q0l0]; omega, by rw [q0l0]; omega, ?_⟩
    have hp := q0s5 x.ch (by omega)
    simp only [ints, intsO] at hp
    refine q006.res hp [] rfl Try.call167 ?_ (.inl rfl) ?_
    · simp -implicitDefEqProofs only [agR, Nat.reduceLeDiff, Nat.reduceSub, vaR, go_sem, ints, rows, rat, rats, q0p1, rtR, intsO, q0qa]
    simp -implicitDefEqProofs only [clR, Nat.reduceLeDiff, go_sem, evR, rat, opR, Nat.reduceBEq, hnt]
    refine ⟨by omega, hn _ (i + 1) (Weak.of _ _ [some 1, some 2, some 26] (by simp) (by simp) ?_ ?_) (by omega) (by omega)⟩
    · simp -implicitDefEqProofs only [ints, rows, Nat.reduceBEq, wkR, Nat.reduceEqDiff, ↓reduceIte, wrR, nodes, q0lb h9 (by omega)]
    · refine ⟨⟨_, rfl, .refl _⟩, rfl, ⟨_, rfl, .refl _⟩, rfl, ⟨_, rfl, ?_⟩, rfl, trivial⟩
      rw [q0m0, q0uj hx, q067]; exact .refl _
  · simp -implicitDefEqProofs only [go_sem, evR, ints, rows, rat, rats, nodes, decide_eq_false (show ¬ (i : Int) < (l.length : Int) by omega)]
    refine he _ _ ?_
    simp -implicitDefEqProofs only [go_sem, evR, ints, rows, rat, rats, q0m0]
    rw [List.take_of_length_le (by omega)]
theorem q121 (x y : Int) : Fun Try.prog 218 [] [.t (.i x), .t (.i y)] fun o r => ∃ z : Int, o = [] /\ r = .i z /\ (-1 <= z /\ z <= 1) := by
  refine q0zp (by simp) ?_
  simp -implicitDefEqProofs only [go_sem, evR, ints, rows, rat, rats, q0yk]
  refine ⟨fun h => ?_, fun h => ⟨fun h1 => ?_, fun h1 => ?_⟩⟩
  · exact ⟨_, rfl, by omega, by omega⟩
  · exact ⟨_, rfl, by omega, by omega⟩
  · exact ⟨_, rfl, by omega, by omega⟩
def q11q (g : Gm) : Prop := q0rx 101 g.nd /\ g.w.length <= 4 /\ (∀ r ∈ g.w, r.length <= 4) /\ g.v.length <= 4 /\ ∀ r ∈ g.v, r.length <= 4
theorem q11k {m : List (List Int)} {r : List Int} {k : Nat} (h : ∀ x ∈ m, x.length = k) (hr : r.length = k) : ∀ x ∈ m ++ [r], x.length = k := by
  intro x hx
  rcases List.mem_append.1 hx with hx | hx
  · exact h x hx
  · simp at hx; rw [hx]; exact hr
theorem q129 (l : List Nd) (hl : q0rx 101 l) (k : Nat) (hk : k <= 4) (ag : Bool) : Fun Try.prog 185 [] [.t (q0vz l), .t (.i k), .t (.b ag)] fun o r => ∃ g : Gm, o = [] /\ r = q0cg g /\ (g.nd = l /\ g.w.length = k /\ (∀ r ∈ g.w, r.length = k) /\ g.v.length = k /\ ∀ r ∈ g.v, r.length = k) := by
  refine q0zv (by simp) ?_
  simp -implicitDefEqProofs only [go_sem, evR, ints, rows, rat, rats, q0yq, q0vz, nodes]
  refine SemC.loopR (σ := List (List Int) × List (List Int)) (fun s => St.of [(1, .t (.i k)), (2, .t (.b ag)), (3, .own 3), (6, .own 6), (7, .own 96), (8, .own 97), (9, .t (.i s.1.length))] [(3, .box [nodes l]), (6, .box [.v (.slice none 0 0), .v (.slice none 0 0), .v (.slice none 0 0)]), (96, q0qa s.1), (97, q0qa s.2)]) (fun s => s.1.length <= k /\ s.2.length = s.1.length /\ (∀ r ∈ s.1, r.length = k) /\ ∀ r ∈ s.2, r.length = k) (fun s => k - s.1.length) ([], []) (Weak.of _ _ [some 3, some 6, some 13, some 14] (by simp) (by simp) ?_ ?_) (by simp) fun s hI R hn hr he => ?_
  · simp -implicitDefEqProofs only [ints, rows, Nat.reduceBEq, wkR, Nat.reduceEqDiff, ↓reduceIte, wrR, nodes, List.length_nil]
  · exact ⟨⟨_, rfl, .refl _⟩, rfl, ⟨_, rfl, .refl _⟩, rfl, ⟨_, rfl, .refl _⟩, rfl, ⟨_, rfl, .refl _⟩, rfl, trivial⟩
  obtain ⟨w, v⟩ := s
  obtain ⟨i1, i2, i3, i4⟩ := hI
  (try simp only [] at i1 i2 i3 i4)
  rcases Nat.lt_or_ge w.length k with h9 | h9
  · simp -implicitDefEqProofs only [go_sem, evR, ints, rows, rat, rats, nodes, q0qa, decide_eq_true (show (w.length : Int) < (k : Int) by omega)]
    refine SemC.loopR (σ := List Int × List Int) (fun s => St.of [(1, .t (.i k)), (2, .t (.b ag)), (3, .own 3), (6, .own 6), (7, .own 96), (8, .own 97), (9, .t (.i w.length)), (10, .own 98), (11, .own 99), (12, .t (.i s.1.length))] [(3, .box [nodes l]), (6, .box [.v (.slice none 0 0), .v (.slice none 0 0), .v (.slice none 0 0)]), (96, q0qa w), (97, q0qa v), (98, intsO s.1), (99, intsO s.2)]) (fun s => s.1.length <= k /\ s.2.length = s.1.length) (fun s => k - s.1.length) ([], []) (Weak.of _ _ [some 3, some 6, some 96, some 97, some 20, some 21] (by simp) (by simp) ?_ ?_) (by simp) fun s hI R2 hn2 hr2 he2 => ?_
    · simp -implicitDefEqProofs only [ints, rows, Nat.reduceBEq, wkR, Nat.reduceEqDiff, ↓reduceIte, wrR, nodes, List.length_nil]
    · exact ⟨⟨_, rfl, .refl _⟩, rfl, ⟨_, rfl, .refl _⟩, rfl, ⟨_, rfl, .refl _⟩, rfl, ⟨_, rfl, .refl _⟩, rfl, ⟨_, rfl, .refl _⟩, rfl, ⟨_, rfl, .refl _⟩, rfl, trivial⟩
    obtain ⟨p, q⟩ := s
    obtain ⟨j1, j2⟩ := hI
    (try simp only [] at j1 j2)
    rcases Nat.lt_or_ge p.length k with h8 | h8
    · simp -implicitDefEqProofs only [go_sem, evR, ints, rows, rat, rats, nodes, q0qa, intsO, decide_eq_true (show (p.length : Int) < (k : Int) by omega)]
      refine ⟨fun _ => ⟨fun _ => ⟨by omega, ?_⟩, fun _ => ⟨by omega, ?_⟩⟩, fun _ => ⟨by omega, ?_⟩⟩
      · refine q006.exi (q121 (w.length : Int) (p.length : Int)) [] [] rfl Try.call218 (by simp) ?_ (by simp) ?_ (.inl rfl) (fun z hz => ?_)
        · simp -implicitDefEqProofs only [srR, Nat.reduceEqDiff, ↓reduceIte, ints, rows, intsO, q0qa]
        · simp -implicitDefEqProofs only [agR, Nat.reduceLeDiff, Nat.reduceSub, vaR, go_sem, ints, rows, rat, rats, q0p1, rtR, intsO, q0qa]
        simp -implicitDefEqProofs only [clR, Nat.reduceLeDiff, go_sem, evR, rat, intsO]
        refine ⟨by omega, hn2 _ (p ++ [0], q ++ [z]) (Weak.of _ _ [some 3, some 6, some 96, some 97, some 36, some 45] (by simp) (by simp) ?_ ?_) ⟨by simp; omega, by simp; omega⟩ (by simp; omega)⟩
        · simp -implicitDefEqProofs only [ints, rows, Nat.reduceBEq, wkR, Nat.reduceEqDiff, ↓reduceIte, wrR, nodes, q0lb h8 (by omega), List.length_append, List.length_cons, List.length_nil]
        · refine ⟨⟨_, rfl, .refl _⟩, rfl, ⟨_, rfl, .refl _⟩, rfl, ⟨_, rfl, .refl _⟩, rfl, ⟨_, rfl, .refl _⟩, rfl, ⟨_, rfl, ?_⟩, rfl, ⟨_, rfl, ?_⟩, rfl, trivial⟩
          · simp only [intsO, List.map_append, List.map_cons, List.map_nil]; exact .refl _
          · simp only [intsO, List.map_append, List.map_cons, List.map_nil]; exact .refl _
      · refine q006.exi (q121 (w.length : Int) (p.length : Int)) [] [] rfl Try.call218 (by simp) ?_ (by simp) ?_ (.inl rfl) (fun z hz => ?_)
        · simp -implicitDefEqProofs only [srR, Nat.reduceEqDiff, ↓reduceIte, ints, rows, intsO, q0qa]
        · simp -implicitDefEqProofs only [agR, Nat.reduceLeDiff, Nat.reduceSub, vaR, go_sem, ints, rows, rat, rats, q0p1, rtR, intsO, q0qa]
        simp -implicitDefEqProofs only [clR, Nat.reduceLeDiff, go_sem, evR, rat, intsO]
        refine ⟨by omega, hn2 _ (p ++ [1], q ++ [z]) (Weak.of _ _ [some 3, some 6, some 96, some 97, some 39, some 45] (by simp) (by simp) ?_ ?_) ⟨by simp; omega, by simp; omega⟩ (by simp; omega)⟩
        · simp -implicitDefEqProofs only [ints, rows, Nat.reduceBEq, wkR, Nat.reduceEqDiff, ↓reduceIte, wrR, nodes, q0lb h8 (by omega), List.length_append, List.length_cons, List.length_nil]
        · refine ⟨⟨_, rfl, .refl _⟩, rfl, ⟨_, rfl, .refl _⟩, rfl, ⟨_, rfl, .refl _⟩, rfl, ⟨_, rfl, .refl _⟩, rfl, ⟨_, rfl, ?_⟩, rfl, ⟨_, rfl, ?_⟩, rfl, trivial⟩
          · simp only [intsO, List.map_append, List.map_cons, List.map_nil]; exact .refl _
          · simp only [intsO, List.map_append, List.map_cons, List.map_nil]; exact .refl _
      · refine q006.exi (q121 (w.length : Int) (p.length : Int)) [] [] rfl Try.call218 (by simp) ?_ (by simp) ?_ (.inl rfl) (fun z hz => ?_)
        · simp -implicitDefEqProofs only [srR, Nat.reduceEqDiff, ↓reduceIte, ints, rows, intsO, q0qa]
        · simp -implicitDefEqProofs only [agR, Nat.reduceLeDiff, Nat.reduceSub, vaR, go_sem, ints, rows, rat, rats, q0p1, rtR, intsO, q0qa]
        simp -implicitDefEqProofs only [clR, Nat.reduceLeDiff, go_sem, evR, rat, intsO]
        refine ⟨by omega, hn2 _ (p ++ [1], q ++ [z]) (Weak.of _ _ [some 3, some 6, some 96, some 97, some 39, some 45] (by simp) (by simp) ?_ ?_) ⟨by simp; omega, by simp; omega⟩ (by simp; omega)⟩
        · simp -implicitDefEqProofs only [ints, rows, Nat.reduceBEq, wkR, Nat.reduceEqDiff, ↓reduceIte, wrR, nodes, q0lb h8 (by omega), List.length_append, List.length_cons, List.length_nil]
        · refine ⟨⟨_, rfl, .refl _⟩, rfl, ⟨_, rfl, .refl _⟩, rfl, ⟨_, rfl, .refl _⟩, rfl, ⟨_, rfl, .refl _⟩, rfl, ⟨_, rfl, ?_⟩, rfl, ⟨_, rfl, ?_⟩, rfl, trivial⟩
          · simp only [intsO, List.map_append, List.map_cons, List.map_nil]; exact .refl _
          · simp only [intsO, List.map_append, List.map_cons, List.map_nil]; exact .refl _
    · simp -implicitDefEqProofs only [go_sem, evR, ints, rows, rat, rats, nodes, q0qa, intsO, decide_eq_false (show ¬ (p.length : Int) < (k : Int) by omega)]
      refine he2 _ _ ?_
      simp -implicitDefEqProofs only [go_sem, evR, ints, rows, rat, rats, nodes, q0qa, intsO]
      refine ⟨by omega, by omega, hn _ (w ++ [p], v ++ [q]) (Weak.of _ _ [some 3, some 6, some 49, some 53] (by simp) (by simp) ?_ ?_) ⟨by simp; omega, by simp; omega, q11k i3 (by omega), q11k i4 (by omega)⟩ (by simp; omega)⟩
      · simp -implicitDefEqProofs only [ints, rows, Nat.reduceBEq, wkR, Nat.reduceEqDiff, ↓reduceIte, wrR, nodes, q0lb h9 (by omega), List.length_append, List.length_cons, List.length_nil]
      · refine ⟨⟨_, rfl, .refl _⟩, rfl, ⟨_, rfl, .refl _⟩, rfl, ⟨_, rfl, ?_⟩, rfl, ⟨_, rfl, ?_⟩, rfl, trivial⟩
        · simp only [q0qa, intsO, List.map_append, List.map_cons, List.map_nil]; exact .refl _
        · simp only [q0qa, intsO, List.map_append, List.map_cons, List.map_nil]; exact .refl _
  · simp -implicitDefEqProofs only [go_sem, evR, ints, rows, rat, rats, nodes, decide_eq_false (show ¬ (w.length : Int) < (k : Int) by omega)]
    refine he _ _ ?_
    have hp := q12a l ⟨by have := hl.1; omega, hl.2⟩
    simp only [q0vz, nodes] at hp
    simp -implicitDefEqProofs only [go_sem, evR, ints, rows, rat, rats, nodes, q0qa]
    simp only [q0m0] at hp
    refine q006.res hp [] rfl Try.call219 ?_ (.inl rfl) ?_
    · simp -implicitDefEqProofs only [agR, Nat.reduceLeDiff, Nat.reduceSub, vaR, go_sem, ints, rows, rat, rats, q0p1, rtR, intsO, q0qa]
    simp -implicitDefEqProofs only [clR, Nat.reduceLeDiff, go_sem, evR, rat, opR, Nat.reduceBEq]
    exact ⟨⟨l, w, v⟩, rfl, rfl, by show w.length = k; omega, i3, by show v.length = k; omega, i4⟩
theorem q10q : ∀ {l : List T}, (∀ t ∈ l, t.noSh) -> T.noShL l
  | [], _ => trivial
  | t :: l, h => ⟨h t (List.mem_cons_self ..), q10q fun x hx => h x (List.mem_cons_of_mem _ hx)⟩
theorem q10s (l : List Nd) : (T.arr 5 (chunk q0lv l)).noSh := by
  refine q10q fun t ht => ?_
  simp only [chunk, List.mem_flatMap] at ht
  obtain ⟨x, _, hx⟩ := ht
  simp only [q0lv, List.mem_cons, List.not_mem_nil, or_false] at hx
  rcases hx with rfl | rfl | rfl | rfl | rfl
  · trivial
  · trivial
  · trivial
  · trivial
  · exact q0fh _
theorem q0zz (g : Gm) : (T.agg [.arr 5 (chunk q0lv g.nd), .arr 1 (g.w.map intsO), .arr 1 (g.v.map intsO)]).noSh := ⟨q10s _, q0qb _, q0qb _, trivial⟩
def q10i (k : Nat) (m : List (List Int)) : Prop := m.length = k /\ ∀ r ∈ m, r.length = k
theorem q10k {k : Nat} {m : List (List Int)} (h : q10i k m) (a : Nat) {r : List Int} (hr : r.length = k) : q10i k (m.set a r) := by
  refine ⟨by rw [List.length_set]; exact h.1, fun x hx => ?_⟩
  rcases List.mem_or_eq_of_mem_set hx with hx | rfl
  · exact h.2 x hx
  · exact hr
theorem q10j {k : Nat} {m : List (List Int)} (h : q10i k m) {a : Nat} (ha : a < k) : ∃ r, m[a]? = some r /\ r.length = k := by
  have h1 : a < m.length := by rw [h.1]; exact ha
  exact ⟨m[a], List.getElem?_eq_getElem h1, h.2 _ (List.getElem_mem h1)⟩
def drG (g : Gm) : Prop := q0rx 101 g.nd /\ ∃ k, 1 <= k /\ k <= 4 /\ q10i k g.w /\ q10i k g.v
theorem q0z2 {g : Gm} (h : drG g) : q11q g := by
  obtain ⟨h1, k, h2, h3, h4, h5⟩ := h
  exact ⟨h1, by have := h4.1; omega, fun r hr => by have := h4.2 r hr; omega, by have := h5.1; omega, fun r hr => by have := h5.2 r hr; omega⟩
theorem q11x : Fun Try.prog 127 [] [] fun o r => ∃ g : Gm, o = [] /\ r = q0cg g /\ drG g := by
  refine q0zk (by simp) ?_
  simp -implicitDefEqProofs only [go_sem, evR, ints, rows, rat, rats, q0yf]
  obtain ⟨l', hl1, hl2, hp⟩ := q11u 1 1 0 (by omega) (by omega) (by omega) (by omega) (by omega)
  have hl' : q0rx 100 l' /\ 0 < l'.length := ⟨hl1, hl2⟩
  simp only [show ((0 : Nat) : Int) = 0 from rfl, q0m0] at hp
  refine q006.res hp [] rfl Try.call184 ?_ (.inl rfl) ?_
  · simp -implicitDefEqProofs only [agR, Nat.reduceLeDiff, Nat.reduceSub, vaR, go_sem, ints, rows, rat, rats, q0p1, rtR, intsO, q0qa]
  simp -implicitDefEqProofs only [clR, Nat.reduceLeDiff, go_sem, evR, rat, opR, Nat.reduceBEq]
  have hq := q129 l' ⟨by have := hl'.1.1; omega, hl'.1.2⟩ 3 (by omega) false
  simp only [q0vz, nodes, q0cg, q0m0, q0qa, show ((3 : Nat) : Int) = 3 from rfl] at hq
  refine q006.exi hq [] [8001] rfl Try.call185 (by simp) ?_ (by simp) ?_ (.inr (fun g => ⟨q0zz g, trivial⟩)) (fun g hg => ?_)
  · simp -implicitDefEqProofs only [srR, Nat.reduceEqDiff, ↓reduceIte, ints, rows, intsO, q0qa]
  · simp -implicitDefEqProofs only [agR, Nat.reduceLeDiff, Nat.reduceSub, vaR, go_sem, ints, rows, rat, rats, q0p1, rtR, intsO, q0qa]
  simp -implicitDefEqProofs only [clR, Nat.reduceLeDiff, go_sem, evR, rat, opR, Nat.reduceBEq]
  obtain ⟨g1, g2, g3, g4, g5⟩ := hg
  exact ⟨g, rfl, ⟨by rw [g1]; have := hl'.1.1; omega, by rw [g1]; exact hl'.1.2⟩, 3, by omega, by omega, ⟨g2, g3⟩, ⟨g4, g5⟩⟩
theorem q12b (cs : List Int) (hc : q161 cs) (hl : cs.length <= 100000000000) (a : Nat × Int) (ha : q0qx a) : Fun Try.prog 222 [.box [bytes cs, .i a.1, .i a.2]] [.own 1000000000] fun o r => ∃ x : Gm × (Nat × Int), o = [.box [bytes cs, .i x.2.1, .i x.2.2]] /\ r = .agg [q0m0 x.1.nd, q0qa x.1.w, q0qa x.1.v] /\ (drG x.1 /\ q0qx x.2) := by
  refine q0zx (by simp) ?_
  simp -implicitDefEqProofs only [go_sem, evR, ints, rows, rat, rats, q0ys]
  refine q006.ref (q10p cs hc hl a ha 6 (by omega)) [1000000000] [] rfl Try.call126 (by simp) ?_ (by simp) ?_ (.inl rfl) ?_
  · simp -implicitDefEqProofs only [srR, Nat.reduceEqDiff, ↓reduceIte, ints, rows, intsO, q0qa]
  · simp -implicitDefEqProofs only [agR, Nat.reduceLeDiff, Nat.reduceSub, vaR, go_sem, ints, rows, rat, rats, q0p1, rtR, intsO, q0qa]
  simp -implicitDefEqProofs only [clR, Nat.reduceLeDiff, go_sem, evR, rat]
  have hs1 := q10o (cs := cs) hl ha 6
  generalize q10m cs a 6 = z at hs1 ⊢
  obtain ⟨k, b⟩ := z
  simp only [] at hs1 ⊢
  refine ⟨fun h0 => ?_, fun h0 => ⟨fun h1 => ?_, fun h1 => ?_⟩⟩
  · have hp := q11x
    simp only [q0cg, q0m0, q0qa] at hp
    refine q006.exi hp [] [] rfl Try.call127 (by simp) ?_ (by simp) ?_ (.inl rfl) (fun g hg => ?_)
    · simp -implicitDefEqProofs only [srR, Nat.reduceEqDiff, ↓reduceIte, ints, rows, intsO, q0qa]
    · simp -implicitDefEqProofs only [agR, Nat.reduceLeDiff, Nat.reduceSub, vaR, go_sem, ints, rows, rat, rats, q0p1, rtR, intsO, q0qa]
    simp -implicitDefEqProofs only [clR, Nat.reduceLeDiff, go_sem, evR, rat, opR, Nat.reduceBEq]
    exact ⟨(g, b), rfl, rfl, hg, hs1⟩
  · obtain ⟨⟨l, c⟩, ⟨hx1, hx2, hx3⟩, hV⟩ := q127 cs hc hl b hs1
    simp only [q0m0] at hx1 hx2 hx3 hV
    refine q006.ref hV [1000000000] [] rfl Try.call227 (by simp) ?_ (by simp) ?_ (.inl rfl) ?_
    · simp -implicitDefEqProofs only [srR, Nat.reduceEqDiff, ↓reduceIte, ints, rows, intsO, q0qa]
    · simp -implicitDefEqProofs only [agR, Nat.reduceLeDiff, Nat.reduceSub, vaR, go_sem, ints, rows, rat, rats, q0p1, rtR, intsO, q0qa]
    simp -implicitDefEqProofs only [clR, Nat.reduceLeDiff, go_sem, evR, rat]
    refine q006.ref (q10p cs hc hl c hx3 2 (by omega)) [1000000000] [] rfl Try.call126 (by simp) ?_ (by simp) ?_ (.inl rfl) ?_
    · simp -implicitDefEqProofs only [srR, Nat.reduceEqDiff, ↓reduceIte, ints, rows, intsO, q0qa]
    · simp -implicitDefEqProofs only [agR, Nat.reduceLeDiff, Nat.reduceSub, vaR, go_sem, ints, rows, rat, rats, q0p1, rtR, intsO, q0qa]
    simp -implicitDefEqProofs only [clR, Nat.reduceLeDiff, go_sem, evR, rat]
    have hs2 := q10o (cs := cs) hl hx3 2
    have hb2 := q10n (cs := cs) (a := c) (n := 2) (by omega)
    generalize q10m cs c 2 = z at hs2 hb2 ⊢
    obtain ⟨q, d⟩ := z
    simp only [] at hs2 hb2 ⊢
    obtain ⟨k, hk⟩ : ∃ n : Nat, IntKind.i64.wrap (2 + q) = n := ⟨(2 + q).toNat, by rw [wrap64 (by omega) (by omega)]; omega⟩
    have hk3 : 2 <= k /\ k <= 3 := by rw [wrap64 (by omega) (by omega)] at hk; omega
    simp only [hk]
    have hq := q129 l ⟨by have := hx1.1; omega, hx1.2⟩ k (by omega) true
    simp only [q0vz, nodes, q0cg, q0m0, q0qa] at hq
    refine q006.exi hq [] [15] rfl Try.call185 (by simp) ?_ (by simp) ?_ (.inr (fun g => ⟨q0zz g, trivial⟩)) (fun g hg => ?_)
    · simp -implicitDefEqProofs only [srR, Nat.reduceEqDiff, ↓reduceIte, ints, rows, intsO, q0qa]
    · simp -implicitDefEqProofs only [agR, Nat.reduceLeDiff, Nat.reduceSub, vaR, go_sem, ints, rows, rat, rats, q0p1, rtR, intsO, q0qa]
    simp -implicitDefEqProofs only [clR, Nat.reduceLeDiff, go_sem, evR, rat, opR, Nat.reduceBEq]
    obtain ⟨g1, g2, g3, g4, g5⟩ := hg
    exact ⟨(g, d), rfl, rfl, ⟨⟨by rw [g1]; have := hx1.1; omega, by rw [g1]; exact hx1.2⟩, k, by omega, by omega, ⟨g2, g3⟩, ⟨g4, g5⟩⟩, hs2⟩
  · refine q006.ref (q10p cs hc hl b hs1 3 (by omega)) [1000000000] [] rfl Try.call126 (by simp) ?_ (by simp) ?_ (.inl rfl) ?_
    · simp -implicitDefEqProofs only [srR, Nat.reduceEqDiff, ↓reduceIte, ints, rows, intsO, q0qa]
    · simp -implicitDefEqProofs only [agR, Nat.reduceLeDiff, Nat.reduceSub, vaR, go_sem, ints, rows, rat, rats, q0p1, rtR, intsO, q0qa]
    simp -implicitDefEqProofs only [clR, Nat.reduceLeDiff, go_sem, evR, rat]
    have hs2 := q10o (cs := cs) hl hs1 3
    have hb2 := q10n (cs := cs) (a := b) (n := 3) (by omega)
    generalize q10m cs b 3 = z at hs2 hb2 ⊢
    obtain ⟨q, d⟩ := z
    simp only [] at hs2 hb2 ⊢
    obtain ⟨k, hk⟩ : ∃ n : Nat, IntKind.i64.wrap (1 + q) = n := ⟨(1 + q).toNat, by rw [wrap64 (by omega) (by omega)]; omega⟩
    have hk3 : 1 <= k /\ k <= 3 := by rw [wrap64 (by omega) (by omega)] at hk; omega
    simp only [hk]
    obtain ⟨⟨l, c⟩, ⟨hx1, hx2, hx3⟩, hV⟩ := q127 cs hc hl d hs2
    simp only [q0m0] at hx1 hx2 hx3 hV
    refine q006.ref hV [1000000000] [] rfl Try.call227 (by simp) ?_ (by simp) ?_ (.inl rfl) ?_
    · simp -implicitDefEqProofs only [srR, Nat.reduceEqDiff, ↓reduceIte, ints, rows, intsO, q0qa]
    · simp -implicitDefEqProofs only [agR, Nat.reduceLeDiff, Nat.reduceSub, vaR, go_sem, ints, rows, rat, rats, q0p1, rtR, intsO, q0qa]
    simp -implicitDefEqProofs only [clR, Nat.reduceLeDiff, go_sem, evR, rat]
    have hq := q129 l ⟨by have := hx1.1; omega, hx1.2⟩ k (by omega) true
    simp only [q0vz, nodes, q0cg, q0m0, q0qa] at hq
    refine q006.exi hq [] [24] rfl Try.call185 (by simp) ?_ (by simp) ?_ (.inr (fun g => ⟨q0zz g, trivial⟩)) (fun g hg => ?_)
    · simp -implicitDefEqProofs only [srR, Nat.reduceEqDiff, ↓reduceIte, ints, rows, intsO, q0qa]
    · simp -implicitDefEqProofs only [agR, Nat.reduceLeDiff, Nat.reduceSub, vaR, go_sem, ints, rows, rat, rats, q0p1, rtR, intsO, q0qa]
    simp -implicitDefEqProofs only [clR, Nat.reduceLeDiff, go_sem, evR, rat, opR, Nat.reduceBEq]
    obtain ⟨g1, g2, g3, g4, g5⟩ := hg
    obtain rfl : g.nd = l := g1
    refine SemC.loopR (σ := Nat × (List (List Int) × List (List Int)) × (Nat × Int)) (fun s => St.of [(0, .own 1000000000), (2, .own 2), (3, .t (.i k)), (4, .own 4), (5, .t (.i s.1))] [(1000000000, .box [bytes cs, .i s.2.2.1, .i s.2.2.2]), (2, .box [.v (.slice none 0 0), .v (.slice none 0 0), .v (.slice none 0 0)]), (4, .box [q0m0 g.nd, q0qa s.2.1.1, q0qa s.2.1.2])]) (fun s => s.1 <= k /\ q10i k s.2.1.1 /\ q10i k s.2.1.2 /\ q0qx s.2.2) (fun s => k - s.1) (0, (g.w, g.v), c) (Weak.of _ _ [some 1000000000, some 2, some 4] (by simp) (by simp) ?_ ?_) ⟨by simp, ⟨g2, g3⟩, ⟨g4, g5⟩, hx3⟩ fun s hI R hn hr he => ?_
    · simp -implicitDefEqProofs only [ints, rows, Nat.reduceBEq, wkR, Nat.reduceEqDiff, ↓reduceIte, wrR, q0m0]
    · exact ⟨⟨_, rfl, .refl _⟩, rfl, ⟨_, rfl, .refl _⟩, rfl, ⟨_, rfl, .refl _⟩, rfl, trivial⟩
    obtain ⟨i, ⟨w, v⟩, e⟩ := s
    obtain ⟨i1, i2, i3, i4⟩ := hI
    (try simp only [] at i1 i2 i3 i4)
    rcases Nat.lt_or_ge i k with h9 | h9
    · simp -implicitDefEqProofs only [go_sem, evR, ints, rows, rat, rats, q0m0, q0qa, decide_eq_true (show (i : Int) < (k : Int) by omega)]
      refine SemC.loopR (σ := Nat × (List (List Int) × List (List Int)) × (Nat × Int)) (fun s => St.of [(0, .own 1000000000), (2, .own 2), (3, .t (.i k)), (4, .own 4), (5, .t (.i i)), (6, .t (.i s.1))] [(1000000000, .box [bytes cs, .i s.2.2.1, .i s.2.2.2]), (2, .box [.v (.slice none 0 0), .v (.slice none 0 0), .v (.slice none 0 0)]), (4, .box [q0m0 g.nd, q0qa s.2.1.1, q0qa s.2.1.2])]) (fun s => s.1 <= k /\ q10i k s.2.1.1 /\ q10i k s.2.1.2 /\ q0qx s.2.2) (fun s => k - s.1) (0, (w, v), e) (Weak.of _ _ [some 1000000000, some 2, some 4] (by simp) (by simp) ?_ ?_) ⟨by simp, i2, i3, i4⟩ fun s hI R2 hn2 hr2 he2 => ?_
      · simp -implicitDefEqProofs only [ints, rows, Nat.reduceBEq, wkR, Nat.reduceEqDiff, ↓reduceIte, wrR, q0m0]
      · exact ⟨⟨_, rfl, .refl _⟩, rfl, ⟨_, rfl, .refl _⟩, rfl, ⟨_, rfl, .refl _⟩, rfl, trivial⟩
      obtain ⟨j, ⟨w', v'⟩, f⟩ := s
      obtain ⟨j1, j2, j3, j4⟩ := hI
      (try simp only [] at j1 j2 j3 j4)
      obtain ⟨r0, hr0, hr0l⟩ := q10j j2 h9
      obtain ⟨s0, hs0, hs0l⟩ := q10j j3 h9
      rcases Nat.lt_or_ge j k with h8 | h8
      · simp -implicitDefEqProofs only [go_sem, evR, ints, rows, rat, rats, q0m0, q0qa, decide_eq_true (show (j : Int) < (k : Int) by omega)]
        refine ⟨_, Weak.trans (Weak.open 4 1 501 rfl rfl rfl (by decide) rfl) (Weak.open 501 i 502 (l := w'.map intsO) (lk := []) (c := intsO r0) rfl (by rw [List.getElem?_map, hr0]; rfl) rfl (by decide) rfl), ?_⟩
        simp -implicitDefEqProofs only [go_sem, evR, ints, rows, rat, rats, List.lookup_cons, beq_self_eq_true, intsO, List.length_set]
        have hwl : w'.length = k := j2.1
        have hvl : v'.length = k := j3.1
        refine ⟨by omega, by omega, by omega, ?_⟩
        refine q002.ref (q10p cs hc hl f j4 4 (by omega)) [1000000000] [] rfl Try.call126 (by simp) ?_ (by simp) (fun e R' hR => ?_) (.inl rfl) ?_
        · simp -implicitDefEqProofs only [srR, Nat.reduceEqDiff, ↓reduceIte, ints, rows, intsO, q0qa]
        · simp -implicitDefEqProofs only [agR, Nat.reduceLeDiff, Nat.reduceSub, vaR, go_sem, ints, rows, rat, rats, q0p1, rtR, intsO, q0qa]
        simp -implicitDefEqProofs only [clR, Nat.reduceLeDiff, go_sem, evR, rat]
        have hs5 := q10o (cs := cs) hl j4 4
        generalize q10m cs f 4 = z at hs5 ⊢
        obtain ⟨y, f2⟩ := z
        simp only [] at hs5 ⊢
        refine ⟨?_, (q09v.refl _ _ _).upd _ (.inl (by simp))⟩
        refine ⟨by omega, by omega, by omega, ?_⟩
        refine q006.ref (q10p cs hc hl f2 hs5 4 (by omega)) [1000000000] [] rfl Try.call126 (by simp) ?_ (by simp) ?_ (.inl rfl) ?_
        · simp -implicitDefEqProofs only [srR, Nat.reduceEqDiff, ↓reduceIte, ints, rows, intsO, q0qa]
        · simp -implicitDefEqProofs only [agR, Nat.reduceLeDiff, Nat.reduceSub, vaR, go_sem, ints, rows, rat, rats, q0p1, rtR, intsO, q0qa]
        simp -implicitDefEqProofs only [clR, Nat.reduceLeDiff, go_sem, evR, rat]
        have hs6 := q10o (cs := cs) hl hs5 4
        generalize q10m cs f2 4 = z at hs6 ⊢
        obtain ⟨y2, f3⟩ := z
        simp only [] at hs6 ⊢
        have hany : ((w'.map intsO).set i T.any)[i]? = some .any := by rw [List.getElem?_set_self (by rw [List.length_map]; omega)]
        have hany2 : ((v'.map intsO).set i T.any)[i]? = some .any := by rw [List.getElem?_set_self (by rw [List.length_map]; omega)]
        have hrow : ((w'.map intsO).set i T.any).set i (.arr 1 ((r0.map T.i).set j (.i y))) = (w'.set i (r0.set j y)).map intsO := by
          rw [List.set_set, List.map_set, intsO, List.map_set]
        refine ⟨fun hz => ?_, fun hz => ?_⟩
        · refine ⟨_, Weak.trans (Weak.close1 501 i 502 rfl rfl (by decide) hany) (Weak.trans (Weak.close1 4 1 501 rfl rfl (by decide) rfl) (Weak.trans (Weak.open 4 2 503 rfl rfl rfl (by decide) rfl) (Weak.open 503 i 504 (l := v'.map intsO) (lk := []) (c := intsO s0) rfl (by rw [List.getElem?_map, hs0]; rfl) rfl (by decide) rfl))), ?_⟩
          simp -implicitDefEqProofs only [go_sem, evR, ints, rows, rat, rats, List.lookup_cons, beq_self_eq_true, intsO, List.length_set]
          refine ⟨by omega, by omega, by omega, ?_⟩
          refine q002.ref (q10p cs hc hl f3 hs6 3 (by omega)) [1000000000] [] rfl Try.call126 (by simp) ?_ (by simp) (fun e R' hR => ?_) (.inl rfl) ?_
          · simp -implicitDefEqProofs only [srR, Nat.reduceEqDiff, ↓reduceIte, ints, rows, intsO, q0qa]
          · simp -implicitDefEqProofs only [agR, Nat.reduceLeDiff, Nat.reduceSub, vaR, go_sem, ints, rows, rat, rats, q0p1, rtR, intsO, q0qa]
          simp -implicitDefEqProofs only [clR, Nat.reduceLeDiff, go_sem, evR, rat]
          have hs7 := q10o (cs := cs) hl hs6 3
          generalize q10m cs f3 3 = z at hs7 ⊢
          obtain ⟨y3, f4⟩ := z
          simp only [] at hs7 ⊢
          have hrow2 : ((v'.map intsO).set i T.any).set i (.arr 1 ((s0.map T.i).set j (.i (IntKind.i64.wrap (y3 - 1))))) = (v'.set i (s0.set j (IntKind.i64.wrap (y3 - 1)))).map intsO := by
            rw [List.set_set, List.map_set, intsO, List.map_set]
          refine ⟨?_, (q09v.refl _ _ _).upd _ (.inl (by simp))⟩
          refine ⟨by omega, by omega, by omega, ?_⟩
          refine hn2 _ (j + 1, (w'.set i (r0.set j y), v'.set i (s0.set j (IntKind.i64.wrap (y3 - 1)))), f4) (Weak.trans (Weak.close1 503 i 504 rfl rfl (by decide) hany2) (Weak.trans (Weak.close1 4 2 503 rfl rfl (by decide) rfl) (Weak.of _ _ [some 1000000000, some 2, some 4] (by simp) (by simp) ?_ ?_))) ⟨by omega, q10k j2 _ (by rw [List.length_set]; exact hr0l), q10k j3 _ (by rw [List.length_set]; exact hs0l), hs7⟩ (by show k - (j + 1) < k - j; omega)
          · simp -implicitDefEqProofs only [ints, rows, Nat.reduceBEq, wkR, Nat.reduceEqDiff, ↓reduceIte, wrR, q0m0, q0lb h8 (by omega)]
          · refine ⟨⟨_, rfl, .refl _⟩, rfl, ⟨_, rfl, .refl _⟩, rfl, ⟨_, rfl, ?_⟩, rfl, trivial⟩
            have hrow1 : (w'.map intsO).set i (.arr 1 ((r0.map T.i).set j (.i y))) = (w'.set i (r0.set j y)).map intsO := by rw [List.map_set, intsO, List.map_set]
            rw [hrow2, hrow1]; exact .refl _
        · refine hn2 _ (j + 1, (w'.set i (r0.set j y), v'), f3) (Weak.trans (Weak.close1 501 i 502 rfl rfl (by decide) hany) (Weak.trans (Weak.close1 4 1 501 rfl rfl (by decide) rfl) (Weak.of _ _ [some 1000000000, some 2, some 4] (by simp) (by simp) ?_ ?_))) ⟨by omega, q10k j2 _ (by rw [List.length_set]; exact hr0l), j3, hs6⟩ (by show k - (j + 1) < k - j; omega)
          · simp -implicitDefEqProofs only [ints, rows, Nat.reduceBEq, wkR, Nat.reduceEqDiff, ↓reduceIte, wrR, q0m0, q0lb h8 (by omega)]
          · refine ⟨⟨_, rfl, .refl _⟩, rfl, ⟨_, rfl, .refl _⟩, rfl, ⟨_, rfl, ?_⟩, rfl, trivial⟩
            rw [hrow]; exact .refl _
      · simp -implicitDefEqProofs only [go_sem, evR, ints, rows, rat, rats, q0m0, q0qa, decide_eq_false (show ¬ (j : Int) < (k : Int) by omega)]
        refine he2 _ _ ?_
        simp -implicitDefEqProofs only [go_sem, evR, ints, rows, rat, rats, q0m0, q0qa]
        refine hn _ (i + 1, (w', v'), f) (Weak.of _ _ [some 1000000000, some 2, some 4] (by simp) (by simp) ?_ ?_) ⟨by omega, j2, j3, j4⟩ (by show k - (i + 1) < k - i; omega)
        · simp -implicitDefEqProofs only [ints, rows, Nat.reduceBEq, wkR, Nat.reduceEqDiff, ↓reduceIte, wrR, q0m0, q0lb h9 (by omega)]
        · exact ⟨⟨_, rfl, .refl _⟩, rfl, ⟨_, rfl, .refl _⟩, rfl, ⟨_, rfl, .refl _⟩, rfl, trivial⟩
    · simp -implicitDefEqProofs only [go_sem, evR, ints, rows, rat, rats, q0m0, q0qa, decide_eq_false (show ¬ (i : Int) < (k : Int) by omega)]
      refine he _ _ ?_
      simp -implicitDefEqProofs only [go_sem, evR, ints, rows, rat, rats, q0m0, q0qa]
      obtain ⟨r0, hr0, hr0l⟩ := q10j i2 (a := 0) (by omega)
      obtain ⟨y, hy⟩ : ∃ y, r0[0]? = some y := ⟨_, List.getElem?_eq_getElem (by omega)⟩
      have hwl : w.length = k := i2.1
      refine ⟨_, Weak.trans (Weak.open 4 1 501 rfl rfl rfl (by decide) rfl) (Weak.open 501 0 502 (l := w.map intsO) (lk := []) (c := intsO r0) rfl (by rw [List.getElem?_map, hr0]; rfl) rfl (by decide) rfl), ?_⟩
      simp -implicitDefEqProofs only [go_sem, evR, ints, rows, rat, rats, List.lookup_cons, beq_self_eq_true, intsO, List.length_set, hy]
      have hany : ((w.map intsO).set 0 T.any)[0]? = some .any := by rw [List.getElem?_set_self (by rw [List.length_map]; omega)]
      refine ⟨by omega, by omega, by omega, by omega, by omega, by omega, by omega, by omega, _, Weak.trans (Weak.close1 501 0 502 rfl rfl (by decide) hany) (Weak.close1 4 1 501 rfl rfl (by decide) rfl), ?_⟩
      simp -implicitDefEqProofs only [go_sem, evR, ints, rows, rat, rats, opR, Nat.reduceBEq, List.set_set]
      refine ⟨(⟨g.nd, w.set 0 (r0.set 0 (max 1 y)), v⟩, e), rfl, ?_, ⟨⟨by have := hx1.1; show g.nd.length <= 101; omega, hx1.2⟩, k, by omega, by omega, q10k i2 _ (by rw [List.length_set]; exact hr0l), i3⟩, i4⟩
      simp only [List.map_set, intsO]
def q0z3 (b : Bool) (g : Gm) : T := .agg [if b then nodes g.nd else .arr 5 (chunk q0lu g.nd), rows g.w, rows g.v]
theorem q128 (cs : List Int) (hc : q161 cs) (hl : cs.length <= 100000000000) (a : Nat × Int) (ha : q0qx a) : Fun Try.prog 190 [.box [bytes cs, .i a.1, .i a.2]] [.own 1000000000] fun o r => ∃ x : (Gm × Bool) × (Nat × Int), o = [.box [bytes cs, .i x.2.1, .i x.2.2]] /\ r = q0z3 x.1.2 x.1.1 /\ (q11q x.1.1 /\ q0qx x.2) := by
  refine q0zu (by simp) ?_
  simp -implicitDefEqProofs only [go_sem, evR, ints, rows, rat, rats, q0yp]
  have hp0 := q12b cs hc hl a ha
  simp only [q0m0, q0qa] at hp0
  refine q006.exi hp0 [1000000000] [] rfl Try.call222 (by simp) ?_ (by simp) ?_ (.inl rfl) (fun x hx => ?_)
  · simp -implicitDefEqProofs only [srR, Nat.reduceEqDiff, ↓reduceIte, ints, rows, intsO, q0qa]
  · simp -implicitDefEqProofs only [agR, Nat.reduceLeDiff, Nat.reduceSub, vaR, go_sem, ints, rows, rat, rats, q0p1, rtR, intsO, q0qa]
  simp -implicitDefEqProofs only [clR, Nat.reduceLeDiff, go_sem, evR, rat, opR, Nat.reduceBEq]
  obtain ⟨g, e⟩ := x
  obtain ⟨⟨hx1, K, hK1, hK2, hw, hv⟩, hx3⟩ := hx
  (try simp only [] at hx1 hx3 hw hv)
  have hwl := hw.1
  have hvl := hv.1
  (try simp only [])
  refine q006.ref (q10p cs hc hl e hx3 g.w.length (by omega)) [1000000000] [] rfl Try.call126 (by simp) ?_ (by simp) ?_ (.inl rfl) ?_
  · simp -implicitDefEqProofs only [srR, Nat.reduceEqDiff, ↓reduceIte, ints, rows, intsO, q0qa]
  · simp -implicitDefEqProofs only [agR, Nat.reduceLeDiff, Nat.reduceSub, vaR, go_sem, ints, rows, rat, rats, q0p1, rtR, intsO, q0qa]
  simp -implicitDefEqProofs only [clR, Nat.reduceLeDiff, go_sem, evR, rat]
  have hs1 := q10o (cs := cs) hl hx3 g.w.length
  have hb1 := q10n (cs := cs) (a := e) (n := g.w.length) (by omega)
  generalize q10m cs e g.w.length = z at hs1 hb1 ⊢
  obtain ⟨k, b⟩ := z
  simp only [] at hs1 hb1 ⊢
  obtain ⟨k, rfl⟩ : ∃ n : Nat, k = n := ⟨k.toNat, by omega⟩
  refine q006.ref (q10p cs hc hl b hs1 24 (by omega)) [1000000000] [] rfl Try.call126 (by simp) ?_ (by simp) ?_ (.inl rfl) ?_
  · simp -implicitDefEqProofs only [srR, Nat.reduceEqDiff, ↓reduceIte, ints, rows, intsO, q0qa]
  · simp -implicitDefEqProofs only [agR, Nat.reduceLeDiff, Nat.reduceSub, vaR, go_sem, ints, rows, rat, rats, q0p1, rtR, intsO, q0qa]
  simp -implicitDefEqProofs only [clR, Nat.reduceLeDiff, go_sem, evR, rat, List.lookup_cons, beq_self_eq_true]
  have hs2 := q10o (cs := cs) hl hs1 24
  generalize q10m cs b 24 = z at hs2 ⊢
  obtain ⟨q, c⟩ := z
  simp only [] at hs2 ⊢
  obtain ⟨r0, hr0, hr0l⟩ := q10j hw (a := k) (by omega)
  obtain ⟨s0, hs0, hs0l⟩ := q10j hv (a := k) (by omega)
  have hsm := q0z2 (g := g) ⟨hx1, K, hK1, hK2, hw, hv⟩
  have hany : ((g.w.map intsO).set k T.any)[k]? = some .any := by rw [List.getElem?_set_self (by rw [List.length_map]; omega)]
  have hany2 : ((g.v.map intsO).set k T.any)[k]? = some .any := by rw [List.getElem?_set_self (by rw [List.length_map]; omega)]
  refine ⟨fun q0 => ?_, fun q0 => ⟨fun q1 => ?_, fun q1 => ⟨fun q2 => ?_, fun q2 => ⟨fun q3 => ?_, fun q3 => ?_⟩⟩⟩⟩
  · refine ⟨_, Weak.open 9 k 502 (l := g.w.map intsO) (lk := []) (c := intsO r0) rfl (by rw [List.getElem?_map, hr0]; rfl) rfl (by decide) rfl, ?_⟩
    simp -implicitDefEqProofs only [go_sem, evR, ints, rows, rat, rats, List.lookup_cons, beq_self_eq_true, intsO, List.length_set]
    have hp := q117 cs hc hl c hs2 [-1, 0, 9, 10] (by simp) (by simp)
    simp only [intsO, List.map_cons, List.map_nil] at hp
    refine ⟨by omega, by omega, by omega, ?_⟩
    refine q002.ref hp [1000000000, 22] [] rfl Try.call147 (by simp) ?_ (by simp) (fun e R' hR => ?_) (.inl rfl) ?_
    · simp -implicitDefEqProofs only [srR, Nat.reduceEqDiff, ↓reduceIte, ints, rows, intsO, q0qa]
    · simp -implicitDefEqProofs only [agR, Nat.reduceLeDiff, Nat.reduceSub, vaR, go_sem, ints, rows, rat, rats, q0p1, rtR, intsO, q0qa]
    simp -implicitDefEqProofs only [clR, Nat.reduceLeDiff, go_sem, evR, rat]
    have hs3 := q116 (cs := cs) hl hs2 [-1, 0, 9, 10]
    generalize q115 cs c [-1, 0, 9, 10] = z at hs3 ⊢
    obtain ⟨v, d⟩ := z
    simp only [] at hs3 ⊢
    have hrow : ((g.w.map intsO).set k T.any).set k (.arr 1 ((r0.map T.i).set 0 (.i v))) = (g.w.set k (r0.set 0 v)).map intsO := by
      rw [List.set_set, List.map_set, intsO, List.map_set]
    refine ⟨?_, ((q09v.refl _ _ _).upd _ (.inl (by simp))).upd _ (.inl (by simp))⟩
    refine ⟨by omega, by omega, _, Weak.trans (Weak.close1 9 k 502 rfl rfl (by decide) hany) (Weak.trans (Weak.close1 3 1 9 rfl rfl (by decide) rfl) (Weak.trans (Weak.share 3 rfl) (Weak.of [(0, .own 1000000000), (2, .own 2), (3, .t (.pin [nodes g.nd, rows (g.w.set k (r0.set 0 v)), rows g.v] 0))] [(1000000000, .box [bytes cs, .i d.1, .i d.2]), (2, .box [.v (.slice none 0 0), .v (.slice none 0 0), .v (.slice none 0 0)])] [some 1000000000, some 2] (by simp) (by simp) ?_ ?_))), ?_⟩
    · simp -implicitDefEqProofs only [ints, rows, Nat.reduceBEq, wkR, Nat.reduceEqDiff, ↓reduceIte, wrR, q0rg, T.toSh, T.toShL, q12g, q0vg, nodes, List.set_cons_succ, List.set_cons_zero, hrow]
    · exact ⟨⟨_, rfl, .refl _⟩, rfl, ⟨_, rfl, .refl _⟩, rfl, trivial⟩
    simp -implicitDefEqProofs only [go_sem, evR, ints, rows, rat, rats, nodes]
    exact ⟨((⟨g.nd, g.w.set k (r0.set 0 v), g.v⟩, true), d), rfl, rfl, q0z2 ⟨hx1, K, hK1, hK2, q10k hw _ (by rw [List.length_set]; exact hr0l), hv⟩, hs3⟩
  · refine ⟨_, Weak.trans (Weak.open 3 2 503 rfl rfl rfl (by decide) rfl) (Weak.open 503 k 504 (l := g.v.map intsO) (lk := []) (c := intsO s0) rfl (by rw [List.getElem?_map, hs0]; rfl) rfl (by decide) rfl), ?_⟩
    simp -implicitDefEqProofs only [go_sem, evR, ints, rows, rat, rats, List.lookup_cons, beq_self_eq_true, intsO, List.length_set]
    have hp := q117 cs hc hl c hs2 [-2, 2] (by simp) (by simp)
    simp only [intsO, List.map_cons, List.map_nil] at hp
    refine ⟨by omega, by omega, by omega, ?_⟩
    refine q002.ref hp [1000000000, 33] [] rfl Try.call147 (by simp) ?_ (by simp) (fun e R' hR => ?_) (.inl rfl) ?_
    · simp -implicitDefEqProofs only [srR, Nat.reduceEqDiff, ↓reduceIte, ints, rows, intsO, q0qa]
    · simp -implicitDefEqProofs only [agR, Nat.reduceLeDiff, Nat.reduceSub, vaR, go_sem, ints, rows, rat, rats, q0p1, rtR, intsO, q0qa]
    simp -implicitDefEqProofs only [clR, Nat.reduceLeDiff, go_sem, evR, rat]
    have hs3 := q116 (cs := cs) hl hs2 [-2, 2]
    generalize q115 cs c [-2, 2] = z at hs3 ⊢
    obtain ⟨v, d⟩ := z
    simp only [] at hs3 ⊢
    have hrow : ((g.v.map intsO).set k T.any).set k (.arr 1 ((s0.map T.i).set 0 (.i v))) = (g.v.set k (s0.set 0 v)).map intsO := by
      rw [List.set_set, List.map_set, intsO, List.map_set]
    refine ⟨?_, ((q09v.refl _ _ _).upd _ (.inl (by simp))).upd _ (.inl (by simp))⟩
    refine ⟨by omega, by omega, _, Weak.trans (Weak.close1 503 k 504 rfl rfl (by decide) hany2) (Weak.trans (Weak.close 3 2 503 rfl rfl (by decide) rfl (by simp)) (Weak.trans (Weak.close1 3 1 9 rfl rfl (by decide) rfl) (Weak.trans (Weak.share 3 rfl) (Weak.of [(0, .own 1000000000), (2, .own 2), (3, .t (.pin [nodes g.nd, rows g.w, rows (g.v.set k (s0.set 0 v))] 0))] [(1000000000, .box [bytes cs, .i d.1, .i d.2]), (2, .box [.v (.slice none 0 0), .v (.slice none 0 0), .v (.slice none 0 0)])] [some 1000000000, some 2] (by simp) (by simp) ?_ ?_)))), ?_⟩
    · simp -implicitDefEqProofs only [ints, rows, Nat.reduceBEq, wkR, Nat.reduceEqDiff, ↓reduceIte, wrR, q0rg, T.toSh, T.toShL, q12g, q0vg, nodes, List.set_cons_succ, List.set_cons_zero, hrow]
    · exact ⟨⟨_, rfl, .refl _⟩, rfl, ⟨_, rfl, .refl _⟩, rfl, trivial⟩
    simp -implicitDefEqProofs only [go_sem, evR, ints, rows, rat, rats, nodes]
    exact ⟨((⟨g.nd, g.w, g.v.set k (s0.set 0 v)⟩, true), d), rfl, rfl, q0z2 ⟨hx1, K, hK1, hK2, hw, q10k hv _ (by rw [List.length_set]; exact hs0l)⟩, hs3⟩
  · refine ⟨_, Weak.trans (Weak.close1 3 1 9 rfl rfl (by decide) rfl) (Weak.trans (Weak.share 3 rfl) (Weak.of [(0, .own 1000000000), (2, .own 2), (3, .t (.pin [nodes g.nd, rows g.w, rows g.v] 0))] [(1000000000, .box [bytes cs, .i c.1, .i c.2]), (2, .box [.v (.slice none 0 0), .v (.slice none 0 0), .v (.slice none 0 0)])] [some 1000000000, some 2] (by simp) (by simp) ?_ ?_)), ?_⟩
    · simp -implicitDefEqProofs only [ints, rows, Nat.reduceBEq, wkR, Nat.reduceEqDiff, ↓reduceIte, wrR, q0rg, T.toSh, T.toShL, q12g, q0vg, nodes, List.set_cons_succ, List.set_cons_zero]
    · exact ⟨⟨_, rfl, .refl _⟩, rfl, ⟨_, rfl, .refl _⟩, rfl, trivial⟩
    simp -implicitDefEqProofs only [go_sem, evR, ints, rows, rat, rats, nodes]
    refine ⟨by omega, by omega, ((⟨g.nd, g.w, g.v.drop 1⟩, true), c), rfl, ?_, ⟨hsm.1, hsm.2.1, hsm.2.2.1, by show (g.v.drop 1).length <= 4; rw [List.length_drop]; omega, fun r hr => hsm.2.2.2.2 r (List.mem_of_mem_drop hr)⟩, hs2⟩
    rw [List.take_of_length_le (by rw [List.length_drop, List.length_map]; omega), ← List.map_drop]; rfl
  · refine ⟨_, Weak.trans (Weak.close1 3 1 9 rfl rfl (by decide) rfl) (Weak.trans (Weak.share 3 rfl) (Weak.of [(0, .own 1000000000), (2, .own 2), (3, .t (.pin [nodes g.nd, rows g.w, rows g.v] 0))] [(1000000000, .box [bytes cs, .i c.1, .i c.2]), (2, .box [.v (.slice none 0 0), .v (.slice none 0 0), .v (.slice none 0 0)])] [some 1000000000, some 2] (by simp) (by simp) ?_ ?_)), ?_⟩
    · simp -implicitDefEqProofs only [ints, rows, Nat.reduceBEq, wkR, Nat.reduceEqDiff, ↓reduceIte, wrR, q0rg, T.toSh, T.toShL, q12g, q0vg, nodes, List.set_cons_succ, List.set_cons_zero]
    · exact ⟨⟨_, rfl, .refl _⟩, rfl, ⟨_, rfl, .refl _⟩, rfl, trivial⟩
    simp -implicitDefEqProofs only [go_sem, evR, ints, rows, rat, rats, nodes]
    obtain ⟨⟨⟨l2, bb⟩, d⟩, ⟨hy1, hy2⟩, hT⟩ := q122 cs hc hl c hs2
    (try simp only [] at hy1 hy2 hT)
    cases bb
    · simp only [q0z4, Bool.false_eq_true, if_false] at hT
      refine q002.ref hT [1000000000] [] rfl Try.call223 (by simp) ?_ (by simp) (fun e R' hR => ?_) (.inl rfl) ?_
      · simp -implicitDefEqProofs only [srR, Nat.reduceEqDiff, ↓reduceIte, ints, rows, intsO, q0qa]
      · simp -implicitDefEqProofs only [agR, Nat.reduceLeDiff, Nat.reduceSub, vaR, go_sem, ints, rows, rat, rats, q0p1, rtR, intsO, q0qa]
      simp -implicitDefEqProofs only [clR, Nat.reduceLeDiff, go_sem, evR, rat]
      exact ⟨⟨((⟨l2, g.w, g.v⟩, false), d), rfl, rfl, ⟨hy1, hsm.2⟩, hy2⟩, ((q09v.refl _ _ _).upd _ (.inl (by simp))).upd _ (.inr rfl)⟩
    · simp only [q0z4, if_true, nodes] at hT
      refine q002.ref hT [1000000000] [] rfl Try.call223 (by simp) ?_ (by simp) (fun e R' hR => ?_) (.inl rfl) ?_
      · simp -implicitDefEqProofs only [srR, Nat.reduceEqDiff, ↓reduceIte, ints, rows, intsO, q0qa]
      · simp -implicitDefEqProofs only [agR, Nat.reduceLeDiff, Nat.reduceSub, vaR, go_sem, ints, rows, rat, rats, q0p1, rtR, intsO, q0qa]
      simp -implicitDefEqProofs only [clR, Nat.reduceLeDiff, go_sem, evR, rat]
      exact ⟨⟨((⟨l2, g.w, g.v⟩, true), d), rfl, rfl, ⟨hy1, hsm.2⟩, hy2⟩, (q09v.refl _ _ _).upd _ (.inl (by simp))⟩
  · refine ⟨_, Weak.trans (Weak.close1 3 1 9 rfl rfl (by decide) rfl) (Weak.trans (Weak.share 3 rfl) (Weak.of [(0, .own 1000000000), (2, .own 2), (3, .t (.pin [nodes g.nd, rows g.w, rows g.v] 0))] [(1000000000, .box [bytes cs, .i c.1, .i c.2]), (2, .box [.v (.slice none 0 0), .v (.slice none 0 0), .v (.slice none 0 0)])] [some 1000000000, some 2] (by simp) (by simp) ?_ ?_)), ?_⟩
    · simp -implicitDefEqProofs only [ints, rows, Nat.reduceBEq, wkR, Nat.reduceEqDiff, ↓reduceIte, wrR, q0rg, T.toSh, T.toShL, q12g, q0vg, nodes, List.set_cons_succ, List.set_cons_zero]
    · exact ⟨⟨_, rfl, .refl _⟩, rfl, ⟨_, rfl, .refl _⟩, rfl, trivial⟩
    simp -implicitDefEqProofs only [go_sem, evR, ints, rows, rat, rats, nodes]
    exact ⟨((g, true), c), rfl, rfl, hsm, hs2⟩
end
def q0rk (g : Gm) (pl : Int) : List Int := (List.range (sets g pl).length).map fun i => (q0rh g pl i : Int)
theorem q0rm (g : Gm) (pl : Int) : (q0rk g pl).length = (sets g pl).length := by simp [q0rk]
theorem q0rl {g : Gm} {pl : Int} {i : Nat} (h : i < (sets g pl).length) : (q0rk g pl)[i]? = some (q0rh g pl i : Int) := by simp [q0rk, h]
theorem q0rn {g : Gm} {pl : Int} {i : Nat} (h : i < (sets g pl).length) : (q0rk g pl).take (i + 1) = (q0rk g pl).take i ++ [(q0rh g pl i : Int)] := q0uj (q0rl h)
section
attribute [-go_sem] q0i5 q0id fldC lenC idxC q0ip q0lp
theorem q0sj (g : Gm) (pl : Int) (hl : g.nd.length <= 60) (hk : g.w.length <= 6) : Fun Try.prog 196 [] [.t (.agg [.sh 5 (chunk q0lu g.nd), .sh 1 (g.w.map ints), .sh 1 (g.v.map ints)]), .t (.i pl)] fun o r => o = [] /\ r = intsO (q0rk g pl) := by
  refine q0bx (by simp) ?_
  simp -implicitDefEqProofs only [go_sem, evR, ints, rows, rat, rats, q04z]
  have hsl := q0re g pl hl hk
  have hp := q0h9 g pl hl hk
  simp only [q0qa] at hp
  refine q006.res hp [] rfl Try.call186 ?_ (.inl rfl) ?_
  · simp -implicitDefEqProofs only [agR, Nat.reduceLeDiff, Nat.reduceSub, vaR, go_sem, ints, rows, rat, rats, q0p1, rtR, intsO, q0qa]
  simp -implicitDefEqProofs only [clR, Nat.reduceLeDiff, go_sem, evR, rat]
  refine SemC.loopR (σ := Nat) (fun i => St.of [(2, .own 2), (5, .t (rows (sets g pl))), (6, .own 96), (7, .t (.i i))] [(2, .box [.sh 5 (chunk q0lu g.nd), .sh 1 (g.w.map ints), .sh 1 (g.v.map ints)]), (96, intsO ((q0rk g pl).take i))]) (fun i => i <= (sets g pl).length) (fun i => (sets g pl).length - i) 0 (Weak.trans (Weak.share 10 rfl) (Weak.of _ _ [some 2, some 11] (by simp) (by simp) ?_ ?_)) (by simp) fun i hi R hn hr he => ?_
  · simp -implicitDefEqProofs only [ints, rows, Nat.reduceBEq, wkR, Nat.reduceEqDiff, ↓reduceIte, wrR, q0rg, T.toSh, q0vg]
  · exact ⟨⟨_, rfl, .refl _⟩, rfl, ⟨_, rfl, .refl _⟩, rfl, trivial⟩
  rcases Nat.lt_or_ge i (sets g pl).length with h9 | h9
  · obtain ⟨n, c, x, hs, hx, hn1, hc1, hxp, hsz⟩ := q0qz h9
    have hlt : ((q0rk g pl).take i).length = i := by rw [List.length_take, q0rm]; omega
    simp -implicitDefEqProofs only [go_sem, evR, ints, rows, rat, rats, intsO, decide_eq_true (show (i : Int) < ((sets g pl).length : Int) by omega), hs, q0kz hx, Option.map_some, Option.getD_some]
    refine ⟨by omega, by omega, by omega, by omega, by rw [q0l0]; omega, by rw [q0l0]; omega, by omega, hn _ (i + 1) (Weak.of _ _ [some 2, some 33] (by simp) (by simp) ?_ ?_) (by omega) (by omega)⟩
    · simp -implicitDefEqProofs only [ints, rows, Nat.reduceBEq, wkR, Nat.reduceEqDiff, ↓reduceIte, wrR, q0lb h9 (by omega)]
    · refine ⟨⟨_, rfl, .refl _⟩, rfl, ⟨_, rfl, ?_⟩, rfl, trivial⟩
      rw [q0rn h9, hsz, intsO, List.map_append]; exact .refl _
  · simp -implicitDefEqProofs only [go_sem, evR, ints, rows, rat, rats, decide_eq_false (show ¬ (i : Int) < ((sets g pl).length : Int) by omega)]
    refine he _ _ ?_
    simp -implicitDefEqProofs only [go_sem, evR, ints, rows, rat, rats, intsO]
    rw [List.take_of_length_le (by rw [q0rm]; exact h9)]
theorem q0ri {g : Gm} (hg : q0fl g = true) {pl : Int} (hpl : pl = 0 ∨ pl = 1) {i : Nat} (h : i < (sets g pl).length) : 1 <= q0rh g pl i /\ q0rh g pl i <= 4 := by
  obtain ⟨n, c, x, hs, hx, hn1, hc1, hxp, hsz⟩ := q0qz h
  obtain ⟨p1, p2, p3, p4, p5⟩ := q0fn hg
  obtain ⟨t1, t2, t3, t4⟩ := q0g0 p1
  obtain ⟨-, -, -, -, f1, f2⟩ := q0ks (t2 _ _ hx)
  rw [hsz]
  exact ⟨(f1 (by omega)).2, f2⟩
end
def uniL (g : Gm) (pl : Int) : List (List Int) := (List.range (sets g pl).length).map fun i => ham (List.replicate (q0rh g pl i) 0)
theorem q188 (g : Gm) (pl : Int) : (uniL g pl).length = (sets g pl).length := by simp [uniL]
theorem q18a {g : Gm} {pl : Int} {i : Nat} (h : i < (sets g pl).length) : (uniL g pl).take (i + 1) = (uniL g pl).take i ++ [ham (List.replicate (q0rh g pl i) 0)] := q0uj (by simp [uniL, h])
theorem q18b {n : Nat} (h1 : 1 <= n) (h4 : n <= 4) : q0xj (List.replicate n 0) := ⟨by simpa using h1, by simpa using h4, fun x hx => by rw [List.eq_of_mem_replicate hx]; omega⟩
theorem q12i {A C : Prop} (t : C) (h : C -> A) : A := h t
def q17x (m : List (List Int)) : Prop := m.length <= 400 /\ ∀ r ∈ m, r.length <= 4
theorem q189 {g : Gm} (hg : q0fl g = true) {pl : Int} (hpl : pl = 0 ∨ pl = 1) : q17x (uniL g pl) := by
  obtain ⟨p1, p2, p3, p4, p5⟩ := q0fn hg
  obtain ⟨t1, t2, t3, t4⟩ := q0g0 p1
  have hsl := q0re g pl t1.2 p2.2
  refine ⟨by rw [q188]; omega, fun r hr => ?_⟩
  obtain ⟨i, hi, rfl⟩ := List.mem_map.1 hr
  obtain ⟨b1, b2⟩ := q0ri hg hpl (List.mem_range.1 hi)
  rw [(q0dp (w := List.replicate (q0rh g pl i) 0) (fun x hx => by rw [List.eq_of_mem_replicate hx]; omega) (by simpa using b1)).1]
  simpa using b2
theorem q11r {g : Gm} (h : q11q g) : q0cf g := by
  obtain ⟨⟨h1, h2⟩, h3, h4, h5, h6⟩ := h
  exact ⟨by omega, fun x hx => by have := h2 x hx; omega, ⟨by omega, fun r hr => by have := h4 r hr; omega⟩, by omega, fun r hr => by have := h6 r hr; omega⟩
section
attribute [-go_sem] q0i5 q0id fldC lenC idxC q0ip q0lp
end
end Go.Ab

/- Games as data: the strategies of a run are strategies; its numbers stay small. -/
namespace Go.Ab

theorem q14q : ∀ (l : List Int) (a : Int), ∀ x ∈ l, x <= l.foldl max a
  | [], _ => by simp
  | y :: l, a => by
    intro x hx
    rw [List.foldl_cons]
    rcases List.mem_cons.1 hx with rfl | hx
    · have := q09o l (max a x); omega
    · exact q14q l _ x hx
theorem q14i : ∀ (f : Nat) (l : List Int), okW (W f) l -> ∀ x ∈ hvd f l, 0 <= x /\ x <= 1000000000
  | 0, l, h => fun x hx => by
    have h1 := h x hx
    have h2 : W 0 = 536870912 := rfl
    omega
  | f + 1, l, h => by
    rw [hvd]
    split
    · rename_i hm
      intro x hx
      have h1 : x <= mx0 l := q14q l 0 x hx
      exact ⟨(h x hx).1, by omega⟩
    · exact q14i f (half l) (q0ma (by rw [← q00f]; exact h))
theorem q155 {l : List Int} {B : Int} (h : ∀ x ∈ l, -B <= x /\ x <= B) (hB : B < 9223372036854775808) : okW 9223372036854775808 (posL l) := by
  intro x hx
  obtain ⟨y, hy, rfl⟩ := List.mem_map.1 hx
  have := h y hy
  omega
theorem W34 : W 34 = 9223372036854775808 := by
  unfold W
  have h2 : (2 : Nat) ^ 63 = 9223372036854775808 := by decide
  omega
theorem q15h {l : List Int} {B : Int} (h : ∀ x ∈ l, -B <= x /\ x <= B) (hB : B < 9223372036854775808) (h1 : 1 <= l.length) (h4 : l.length <= 4) : q0xj (hvd 34 (posL l)) := by
  refine ⟨?_, ?_, ?_⟩
  · rw [q0dz]; simpa [posL] using h1
  · rw [q0dz]; simpa [posL] using h4
  · exact q14i 34 _ (by rw [W34]; exact q155 h hB)
theorem q14x {t q : Int} (ht : 0 < t) (h : -t < t * q) : 0 <= q := by
  rcases Int.lt_or_le q 0 with h1 | h1
  · have : t * q <= t * (-1) := Int.mul_le_mul_of_nonneg_left (by omega) (by omega)
    omega
  · exact h1
theorem q15s {l : List Int} (h : ∀ x ∈ l, 0 <= x) : ∀ x ∈ l, x <= l.sum := by
  induction l with
  | nil => simp
  | cons y l ih =>
    intro x hx
    have h0 := q0ub (w := l) fun z hz => h z (by simp [hz])
    rw [List.sum_cons]
    rcases List.mem_cons.1 hx with rfl | hx
    · omega
    · have h1 := ih (fun z hz => h z (by simp [hz])) x hx
      have h2 := h y (by simp)
      omega
theorem q14g {w : List Int} (hw : ∀ x ∈ w, 0 <= x) (ht : 0 < w.sum) : ∀ x ∈ ham1 w, 0 <= x /\ x <= 60 := by
  obtain ⟨h1, h2, h3⟩ := q0dm hw ht
  have h0 : ∀ x ∈ ham1 w, 0 <= x := fun x hx => by
    obtain ⟨i, hi, rfl⟩ := List.mem_iff_getElem.1 hx
    have hiw : i < w.length := by omega
    have h4 := (h3 i hiw).1
    have h5 : (ham1 w).getD i 0 = (ham1 w)[i] := by rw [List.getD_eq_getElem?_getD, List.getElem?_eq_getElem hi]; rfl
    have h6 : 0 <= w.getD i 0 := by rw [List.getD_eq_getElem?_getD, List.getElem?_eq_getElem hiw]; exact hw _ (List.getElem_mem hiw)
    rw [h5] at h4
    exact q14x ht (by omega)
  intro x hx
  have := q15s h0 x hx
  exact ⟨h0 x hx, by omega⟩
theorem q14h {w : List Int} (hw : ∀ x ∈ w, 0 <= x) (hl : 1 <= w.length) : ∀ x ∈ ham w, 0 <= x /\ x <= 60 := by
  have h0 := q0ub hw
  unfold ham
  split
  · exact q14g (fun x hx => by simp [q0mb] at hx; omega) (by rw [q0me]; omega)
  · exact q14g hw (by omega)
theorem q15e {l : List Int} {B : Int} (h : ∀ x ∈ l, -B <= x /\ x <= B) (hB : B < 9223372036854775808) (h1 : 1 <= l.length) (h4 : l.length <= 4) : (rowP l).length = l.length /\ (∀ x ∈ rowP l, 0 <= x /\ x <= 60) /\ sumI (rowP l) = 60 := by
  have hw := q15h h hB h1 h4
  have hs := q0dp (fun x hx => (hw.2.2 x hx).1) hw.1
  refine ⟨?_, q14h (fun x hx => (hw.2.2 x hx).1) hw.1, by rw [q0u0]; exact hs.2.1⟩
  show (ham _).length = _
  rw [hs.1, q0dz]; simp [posL]
theorem q15o (m : List (List Int)) : (stM m).length = m.length := by simp [stM]
theorem q15n {m : List (List Int)} {i : Nat} {r : List Int} (h : m[i]? = some r) : (stM m)[i]? = some (rowP r) := by simp [stM, h]
theorem q15p {g : Gm} (hg : q0fl g = true) {pl B : Int} (hpl : pl = 0 ∨ pl = 1) {m : List (List Int)} (h : okM g pl B m) (hB : B < 9223372036854775808) : q0ft g pl (stM m) = true := by
  rw [q0fu]
  refine ⟨by rw [q15o]; exact h.1, fun i hi => ?_⟩
  obtain ⟨r, hr, _, hl, hb⟩ := q150 h hi
  obtain ⟨b1, b2⟩ := q0ri hg hpl hi
  obtain ⟨q1, q2, q3⟩ := q15e hb hB (by omega) (by omega)
  rw [List.getD_eq_getElem?_getD, q15n hr, Option.getD_some, q0nu]
  refine ⟨by omega, List.all_eq_true.2 fun x hx => by simpa using q2 x hx, by rw [← q0u0]; exact q3⟩
theorem q14r {g : Gm} {s t : List (List Int)} (hg : q0fl g = true) {pl : Int} (hpl : pl = 0 ∨ pl = 1) (hm : q0nw g (q10l pl s t) pl) {i : Nat} (hi : i < (sets g pl).length) : (q10l pl s t)[i]? = some ((q10l pl s t).getD i []) /\ ((q10l pl s t).getD i []).length = q0rh g pl i /\ (∀ x ∈ (q10l pl s t).getD i [], 0 <= x /\ x <= 60) /\ sumI ((q10l pl s t).getD i []) = 60 := by
  obtain ⟨p1, p2, p3, p4, p5⟩ := q0fn hg
  obtain ⟨t1, t2, t3, t4⟩ := q0g0 p1
  obtain ⟨a1, a2, a3, a4, a5, a6⟩ := q15l hi
  have h1 := q0ny t2 (by omega) hm a2 a3 a4
  have h2 := hm _ _ a2 a3 a4
  have e : (q10l pl s t).getD i [] = partsOf g (q10l pl s t) pl (setN g pl i) (setC g pl i) := by rw [partsOf, a6]
  rw [a6] at h1
  rw [e, a5]
  exact ⟨h1, h2⟩
theorem q15f {g : Gm} (hg : q0fl g = true) {s t : List (List Int)} (hs : q0nw g s 0) (ht : q0nw g t 1) {pl B : Int} (hpl : pl = 0 ∨ pl = 1) {R : List (List Int)} (hR : okM g pl B R) {i : Nat} (hi : i < (sets g pl).length) :
    (rowR g s t pl R i).length = q0rh g pl i /\ ∀ x ∈ rowR g s t pl R i, -(B + 30000000000000) <= x /\ x <= B + 30000000000000 := by
  obtain ⟨a1, a2, a3, a4, a5, a6⟩ := q15l hi
  obtain ⟨r, hr, hr', hl, hb⟩ := q150 hR hi
  obtain ⟨m1, m2, m3, m4⟩ := q14r hg hpl (q153 hs ht hpl).1 hi
  have h2 : (g.nd.getD (setN g pl i) nd0).p ≠ 2 := by omega
  have hC := q149 hg hs ht hpl a2 h2 a3
  have hCl := q14b g s t pl (setN g pl i) (setC g pl i)
  have hsz := (q0ri hg hpl hi).2
  unfold rowR
  rw [hr']
  refine ⟨by rw [q15u (by omega)]; exact hl, fun x hx => ?_⟩
  have hM := q14n m3 hC (cnts g s t pl (setN g pl i) (setC g pl i)).length
  have hM' : ((cnts g s t pl (setN g pl i) (setC g pl i)).length : Int) <= 4 := by omega
  obtain ⟨k, hk, rfl⟩ := List.mem_iff_getElem.1 hx
  have hkl : k < r.length := by rw [q15u (by omega)] at hk; exact hk
  have hx1 := List.getElem?_eq_getElem hkl
  have hx2 := List.getElem?_eq_getElem (show k < (cnts g s t pl (setN g pl i) (setC g pl i)).length by omega)
  have h3 := q15t (M := q14l ((q10l pl s t).getD i []) (cnts g s t pl (setN g pl i) (setC g pl i))) hx1 hx2
  rw [List.getElem?_eq_getElem hk, Option.some.injEq] at h3
  rw [h3]
  have h4 := hb _ (List.getElem_mem hkl)
  have h5 := hC _ (List.getElem_mem (show k < (cnts g s t pl (setN g pl i) (setC g pl i)).length by omega))
  have h6 : q14l ((q10l pl s t).getD i []) (cnts g s t pl (setN g pl i) (setC g pl i)) = q14m ((q10l pl s t).getD i []) (cnts g s t pl (setN g pl i) (setC g pl i)) (cnts g s t pl (setN g pl i) (setC g pl i)).length := rfl
  rw [h6]
  omega
theorem q154 {g : Gm} (hg : q0fl g = true) {S : List (List Int)} {pl : Int} (hS : q0nw g S pl) {c n : Nat} (hc : c < g.w.length) (hn : n < g.nd.length) (h2 : (g.nd.getD n nd0).p ≠ 2) : 0 <= wayP g S pl c n /\ wayP g S pl c n <= 12960000 := by
  obtain ⟨p1, p2, p3, p4, p5⟩ := q0fn hg
  obtain ⟨t1, t2, t3, t4⟩ := q0g0 p1
  obtain ⟨b1, b2⟩ := q12q t2 t3 hS hc n n (Nat.le_refl _) hn
  have := q157 (show (wayL g.nd n).length <= 4 by have := (q145 hg hn h2).1; omega)
  omega
theorem q15g {g : Gm} (hg : q0fl g = true) {s t : List (List Int)} (hs : q0nw g s 0) (ht : q0nw g t 1) {pl B : Int} (hpl : pl = 0 ∨ pl = 1) {S : List (List Int)} (hS : okM g pl B S) {i : Nat} (hi : i < (sets g pl).length) :
    (rowS g s t pl S i).length = q0rh g pl i /\ ∀ x ∈ rowS g s t pl S i, -(B + 30000000000000) <= x /\ x <= B + 30000000000000 := by
  obtain ⟨a1, a2, a3, a4, a5, a6⟩ := q15l hi
  obtain ⟨r, hr, hr', hl, hb⟩ := q150 hS hi
  obtain ⟨m1, m2, m3, m4⟩ := q14r hg hpl (q153 hs ht hpl).1 hi
  have h2 : (g.nd.getD (setN g pl i) nd0).p ≠ 2 := by omega
  have hw := q154 hg (q153 hs ht hpl).1 a3 a2 h2
  unfold rowS
  rw [hr']
  refine ⟨by rw [q15w (by omega)]; exact hl, fun x hx => ?_⟩
  obtain ⟨k, hk, rfl⟩ := List.mem_iff_getElem.1 hx
  have hkl : k < r.length := by rw [q15w (by omega)] at hk; exact hk
  have hx1 := List.getElem?_eq_getElem hkl
  have hx2 := List.getElem?_eq_getElem (show k < ((q10l pl s t).getD i []).length by omega)
  have h3 := q15v (w := wayP g (q10l pl s t) pl (setC g pl i) (setN g pl i)) hx1 hx2
  rw [List.getElem?_eq_getElem hk, Option.some.injEq] at h3
  rw [h3]
  have h4 := hb _ (List.getElem_mem hkl)
  have h5 := m3 _ (List.getElem_mem (show k < ((q10l pl s t).getD i []).length by omega))
  have h6 := Int.mul_le_mul hw.2 h5.2 h5.1 (by decide)
  have h7 := Int.mul_nonneg hw.1 h5.1
  omega
def okRS (g : Gm) (n : Nat) (x : RS) : Prop := okM g 0 (n * 30000000000000) x.r0 /\ okM g 1 (n * 30000000000000) x.r1 /\ okM g 0 (n * 30000000000000) x.s0 /\ okM g 1 (n * 30000000000000) x.s1
theorem q152 {g : Gm} (hg : q0fl g = true) {n : Nat} (hn : n <= 1000) {x : RS} (h : okRS g n x) : q0ft g 0 (stM x.r0) = true /\ q0ft g 1 (stM x.r1) = true /\ q0ft g 0 (stM x.s0) = true /\ q0ft g 1 (stM x.s1) = true :=
  ⟨q15p hg (.inl rfl) h.1 (by omega), q15p hg (.inr rfl) h.2.1 (by omega), q15p hg (.inl rfl) h.2.2.1 (by omega), q15p hg (.inr rfl) h.2.2.2 (by omega)⟩
theorem q15r {g : Gm} (hg : q0fl g = true) {n : Nat} (hn : n <= 1000) {x : RS} (h : okRS g n x) : okRS g (n + 1) (q15q g x) := by
  obtain ⟨h0, h1, _, _⟩ := q152 hg hn h
  have h0 := q0nx h0
  have h1 := q0nx h1
  have e : ((n + 1 : Nat) : Int) * 30000000000000 = (n : Int) * 30000000000000 + 30000000000000 := by omega
  unfold okRS
  rw [e]
  exact ⟨q151 fun i hi => q15f hg h0 h1 (.inl rfl) h.1 hi, q151 fun i hi => q15f hg h0 h1 (.inr rfl) h.2.1 hi, q151 fun i hi => q15g hg h0 h1 (.inl rfl) h.2.2.1 hi, q151 fun i hi => q15g hg h0 h1 (.inr rfl) h.2.2.2 hi⟩
theorem q15j {g : Gm} (hg : q0fl g = true) : ∀ n, n <= 1000 -> okRS g n (q15i g n)
  | 0, _ => by
    unfold okRS
    rw [show ((0 : Nat) : Int) * 30000000000000 = 0 from rfl]
    exact ⟨q160 g 0, q160 g 1, q160 g 0, q160 g 1⟩
  | n + 1, h => q15r hg (by omega) (q15j hg n (by omega))
end Go.Ab

/- Games as data: what the laws of runs say. -/
namespace Go.Ab

theorem q17s (n : Nat) : posL (List.replicate n 0) = List.replicate n 0 := by simp [posL]
theorem q17r (n : Nat) : mx0 (List.replicate n 0) = 0 := by
  have h1 := q0km (l := List.replicate n 0) (b := 0) (by omega) (fun x hx => by rw [List.eq_of_mem_replicate hx]; omega)
  have h2 := q17q (List.replicate n 0)
  omega
theorem q184 (g : Gm) (pl : Int) : stM (q15z g pl) = uniL g pl := by
  rw [stM, q15z, uniL, List.map_map]
  refine List.map_congr_left fun i _ => ?_
  show ham (hvd 34 (posL (List.replicate (q0rh g pl i) 0))) = _
  rw [q17s, hvd, if_pos (by rw [q17r]; decide)]
end Go.Ab

/- Games as data: the results of runs. -/
namespace Go.Ab

def q15a (g : Gm) (pl n : Int) : Int := if q0fl g = true then (if (0 <= n /\ n <= 30) /\ (0 <= pl /\ pl <= 1) then 0 else 2) else 1
theorem q15b {g : Gm} {pl n : Int} (h : q0fl g = false) : q15a g pl n = 1 := by rw [q15a, h]; rfl
theorem q15c {g : Gm} {pl n : Int} (h : q0fl g = true) (hr : ¬ ((0 <= n /\ n <= 30) /\ (0 <= pl /\ pl <= 1))) : q15a g pl n = 2 := by rw [q15a, if_pos h, if_neg hr]
theorem q15d {g : Gm} {pl n : Int} : q15a g pl n = 0 ↔ q0fl g = true /\ (0 <= n /\ n <= 30) /\ (0 <= pl /\ pl <= 1) := by
  unfold q15a
  by_cases h : q0fl g = true
  · rw [if_pos h]
    by_cases hr : (0 <= n /\ n <= 30) /\ (0 <= pl /\ pl <= 1)
    · rw [if_pos hr]; exact ⟨fun _ => ⟨h, hr⟩, fun _ => rfl⟩
    · rw [if_neg hr]; exact ⟨fun e => by omega, fun e => absurd e.2 hr⟩
  · rw [if_neg h]; exact ⟨fun e => by omega, fun e => absurd e.1 h⟩
def runI (g : Gm) (n : Int) : RS := q15i g n.toNat
def stZ : Int × List (List Int) := (0, [])
def curR (g : Gm) (n : Int) : (Int × List (List Int)) × (Int × List (List Int)) × Int := if q15a g 0 n = 0 then ((0, stM (runI g n).r0), (1, stM (runI g n).r1), 0) else (stZ, stZ, q15a g 0 n)
def avgR (g : Gm) (n : Int) : (Int × List (List Int)) × (Int × List (List Int)) × Int := if q15a g 0 n = 0 then ((0, stM (runI g n).s0), (1, stM (runI g n).s1), 0) else (stZ, stZ, q15a g 0 n)
theorem q15k {g : Gm} (hg : q0fl g = true) {n : Nat} (hn : n <= 1000) : q0nn g (0, stM (q15i g n).r0) (1, stM (q15i g n).r1) = true /\ q0nn g (0, stM (q15i g n).s0) (1, stM (q15i g n).s1) = true := by
  obtain ⟨a, b, c, d⟩ := q152 hg hn (q15j hg n hn)
  exact ⟨q0no.2 ⟨hg, rfl, rfl, a, b⟩, q0no.2 ⟨hg, rfl, rfl, c, d⟩⟩
theorem q187 {k : Nat} : ∀ {m : List (List Int)}, (∀ r ∈ m, r.length <= k) -> tot m <= m.length * k
  | [], _ => by simp [tot]
  | r :: m, h => by
    have h1 := q187 (m := m) fun r hr => h r (by simp [hr])
    have h2 := h r (by simp)
    rw [tot, List.length_cons, Nat.add_mul, Nat.one_mul]; omega
theorem q17v {m : List (List Int)} (hl : m.length <= 1000) (h : ∀ r ∈ m, r.length <= 1000) : q0qc m := by
  have h1 := q187 h
  have h2 : m.length * 1000 <= 1000 * 1000 := Nat.mul_le_mul hl (Nat.le_refl _)
  exact ⟨by omega, by omega⟩
theorem q17u : q0qc [] := ⟨by simp, by simp [tot]⟩
theorem q15m {g : Gm} (hg : q0fl g = true) (pl : Int) : (sets g pl).length <= 360 := by
  obtain ⟨p1, p2, p3, p4, p5⟩ := q0fn hg
  exact q0re g pl (q0g0 p1).1.2 p2.2
theorem q186 {g : Gm} (hg : q0fl g = true) {pl : Int} (hpl : pl = 0 ∨ pl = 1) {m : List (List Int)} (h : q0ft g pl m = true) : q0qc m := by
  have hs := q15m hg pl
  have h := q0fu.1 h
  refine q17v (by rw [h.1]; omega) fun r hr => ?_
  obtain ⟨i, hi⟩ := List.mem_iff_getElem?.1 hr
  have hil := (List.getElem?_eq_some_iff.1 hi).1
  have h1 := (q0nu.1 (h.2 i (by rw [← h.1]; exact hil))).1
  have h2 := (q0ri hg hpl (i := i) (by rw [← h.1]; exact hil)).2
  rw [List.getD_eq_getElem?_getD, hi, Option.getD_some] at h1
  omega
theorem q16w (g : Gm) (n : Int) : q0qc (curR g n).1.2 /\ q0qc (curR g n).2.1.2 := by
  unfold curR
  split
  · rename_i h
    obtain ⟨h1, h2, h3⟩ := q15d.1 h
    obtain ⟨a, b, c, d⟩ := q152 h1 (show n.toNat <= 1000 by omega) (q15j h1 n.toNat (by omega))
    exact ⟨q186 h1 (.inl rfl) a, q186 h1 (.inr rfl) b⟩
  · exact ⟨q17u, q17u⟩
theorem q16e (g : Gm) (n : Int) : q0qc (avgR g n).1.2 /\ q0qc (avgR g n).2.1.2 := by
  unfold avgR
  split
  · rename_i h
    obtain ⟨h1, h2, h3⟩ := q15d.1 h
    obtain ⟨a, b, c, d⟩ := q152 h1 (show n.toNat <= 1000 by omega) (q15j h1 n.toNat (by omega))
    exact ⟨q186 h1 (.inl rfl) c, q186 h1 (.inr rfl) d⟩
  · exact ⟨q17u, q17u⟩
end Go.Ab

/- Contracts: counts of an information set; strategies of a run. -/
namespace Go.Ab
open Go.Proofs
section
attribute [-go_sem] q0i5 q0id fldC lenC idxC q0ip q0lp
theorem q06t {g : Gm} {s t : List (List Int)} {pl : Int} {n c k : Nat} {x : Int} (h : (g.nd.getD n nd0).ch[k]? = some x) : (cnts g s t pl n c).take (k + 1) = (cnts g s t pl n c).take k ++ [cntN g s t pl n c x.toNat g.w.length] := q0uj (q14a h)
theorem q0st {g : Gm} (hg : q0fl g = true) {s t : List (List Int)} (hs : q0nw g s 0) (ht : q0nw g t 1) {n c : Nat} (hn : n < g.nd.length) (h2 : (g.nd.getD n nd0).p ≠ 2) (hc : c < g.w.length) : Fun Try.prog 208 [] [.t (.agg [.sh 5 (chunk q0lu g.nd), .sh 1 (g.w.map ints), .sh 1 (g.v.map ints)]), .t (.agg [.i 0, .sh 1 (s.map ints)]), .t (.agg [.i 1, .sh 1 (t.map ints)]), .t (.i 0), .t (.i n), .t (.i c)] fun o r => o = [] /\ r = intsO (cnts g s t 0 n c) := by
  obtain ⟨p1, p2, p3, p4, p5⟩ := q0fn hg
  obtain ⟨t1, t2, t3, t4⟩ := q0g0 p1
  obtain ⟨e1, e2, e3⟩ := q145 hg hn h2
  obtain ⟨x, hx⟩ : ∃ x, g.nd[n]? = some x := ⟨_, List.getElem?_eq_getElem hn⟩
  have hxd : g.nd.getD n nd0 = x := by rw [List.getD_eq_getElem?_getD, hx]; rfl
  have hxl := (q0ks (t2 _ _ hx)).2.2.2.2.2
  have hcl := q14b g s t 0 n c
  have hcg : ∀ k y, x.ch[k]? = some y -> (cnts g s t 0 n c).take (k + 1) = (cnts g s t 0 n c).take k ++ [cntN g s t 0 n c y.toNat g.w.length] := fun k y h => q06t (by rw [hxd]; exact h)
  rw [hxd] at hcl e3
  refine q0c7 (by simp) ?_
  simp -implicitDefEqProofs only [go_sem, evR, ints, rows, rat, rats, q059, q0kw hx, show ((0 : Int) == 1) = false from rfl, show ((1 : Int) == 1) = true from rfl, opR, Nat.reduceBEq]
  repeat (first | refine ⟨by omega, ?_⟩ | refine ⟨by rw [q0l0]; omega, ?_⟩)
  refine q006.pure (q080 (q0s8 t2 (by omega) g.nd.length n (by omega) hn (by omega))) [] rfl Try.call158 ?_ (by first | trivial | simp [T.noSh, T.noShL, rat]) rfl ?_
  · simp -implicitDefEqProofs only [agR, Nat.reduceLeDiff, Nat.reduceSub, vaR, go_sem, ints, rows, rat, rats, q0p1, rtR, intsO, q0qa]
  simp -implicitDefEqProofs only [go_sem, evR, ints, rows, rat, rats]
  rw [e2]
  refine SemC.loopR (σ := Nat) (fun k => St.of [(3, .t (.i 0)), (4, .t (.i n)), (5, .t (.i c)), (6, .own 6), (7, .own 7), (8, .own 8), (13, .own 13), (14, .own 14), (15, .t (.i (q144 g n))), (16, .own 116), (17, .t (.i k))] [(6, .box [nodes g.nd, rows g.w, rows g.v]), (7, .box [.i 0, rows s]), (8, .box [.i 1, rows t]), (13, .box [.i x.p, .i x.a, .i x.b, .i x.f, ints x.ch]), (14, .box [.i 1, rows (otOf 0 s t)]), (116, intsO ((cnts g s t 0 n c).take k))]) (fun k => k <= x.ch.length) (fun k => x.ch.length - k) 0 (Weak.of _ _ [some 6, some 7, some 8, some 13, some 14, some 38] (by simp) (by simp) ?_ ?_) (by omega) fun k hk R hn1 hr he => ?_
  · simp -implicitDefEqProofs only [ints, rows, Nat.reduceBEq, wkR, Nat.reduceEqDiff, ↓reduceIte, wrR, nodes, show (q144 g n : Int) + 1 - 1 = (q144 g n : Int) by omega, wrap64 (n := (q144 g n : Int)) (by omega) (by omega)]
  · exact ⟨⟨_, rfl, .refl _⟩, rfl, ⟨_, rfl, .refl _⟩, rfl, ⟨_, rfl, .refl _⟩, rfl, ⟨_, rfl, .refl _⟩, rfl, ⟨_, rfl, .refl _⟩, rfl, ⟨_, rfl, .refl _⟩, rfl, trivial⟩
  rcases Nat.lt_or_ge k x.ch.length with h9 | h9
  · obtain ⟨y, hy⟩ : ∃ y, x.ch[k]? = some y := ⟨_, List.getElem?_eq_getElem h9⟩
    obtain ⟨y0, y1, y2⟩ := e3 y (List.mem_of_getElem? hy)
    have hlt : ((cnts g s t 0 n c).take k).length = k := by rw [List.length_take, hcl]; omega
    simp -implicitDefEqProofs only [go_sem, evR, ints, rows, rat, rats, nodes, intsO, decide_eq_true (show (k : Int) < (x.ch.length : Int) by omega)]
    refine SemC.loopR (σ := Nat) (fun o => St.of [(3, .t (.i 0)), (4, .t (.i n)), (5, .t (.i c)), (6, .own 6), (7, .own 7), (8, .own 8), (13, .own 13), (14, .own 14), (15, .t (.i (q144 g n))), (16, .own 116), (17, .t (.i k)), (18, .t (.i (cntN g s t 0 n c y.toNat o))), (19, .t (.i o))] [(6, .box [nodes g.nd, rows g.w, rows g.v]), (7, .box [.i 0, rows s]), (8, .box [.i 1, rows t]), (13, .box [.i x.p, .i x.a, .i x.b, .i x.f, ints x.ch]), (14, .box [.i 1, rows (otOf 0 s t)]), (116, intsO ((cnts g s t 0 n c).take k))]) (fun o => o <= g.w.length) (fun o => g.w.length - o) 0 (Weak.of _ _ [some 6, some 7, some 8, some 13, some 14, some 116] (by simp) (by simp) ?_ ?_) (by omega) fun o ho R2 hn2 hr2 he2 => ?_
    · simp -implicitDefEqProofs only [ints, rows, Nat.reduceBEq, wkR, Nat.reduceEqDiff, ↓reduceIte, wrR, nodes, show cntN g s t 0 n c y.toNat 0 = 0 from rfl]
    · exact ⟨⟨_, rfl, .refl _⟩, rfl, ⟨_, rfl, .refl _⟩, rfl, ⟨_, rfl, .refl _⟩, rfl, ⟨_, rfl, .refl _⟩, rfl, ⟨_, rfl, .refl _⟩, rfl, ⟨_, rfl, .refl _⟩, rfl, trivial⟩
    rcases Nat.lt_or_ge o g.w.length with h8 | h8
    · obtain ⟨r, z, hr0, hz, hz0, hz9⟩ := q0cn hg hc h8
      have hrl : r.length = g.w.length := ((q0js.1 p3).2 r (List.mem_of_getElem? hr0)).1
      have hwz : wAt g 0 c o = z := by
        unfold wAt
        simp only [List.getD_eq_getElem?_getD, hr0, hz, Option.getD_some, if_pos]
      have hsu := q148 g s t 0 n c y.toNat o
      have k1 := q147 hg hs ht (.inl rfl) hn h2 hc (by rw [hxd]; exact List.mem_of_getElem? hy) (m := o) (by omega)
      have k2 := q147 hg hs ht (.inl rfl) hn h2 hc (by rw [hxd]; exact List.mem_of_getElem? hy) (m := o + 1) (by omega)
      have k3 := q146 hg hs ht (.inl rfl) hn h2 hc h8 (by rw [hxd]; exact List.mem_of_getElem? hy)
      have hot := (q153 hs ht (.inl rfl)).2
      obtain ⟨b1, b2⟩ := q12q (c := o) t2 t3 hot h8 n n (Nat.le_refl _) hn
      have hpw := q157 (p := (wayL g.nd n).length) (by omega)
      have hr1 := q158 (c := c) hg hs ht (.inl rfl) hn h8
      simp -implicitDefEqProofs only [go_sem, evR, ints, rows, rat, rats, nodes, intsO, hr0, hz, decide_eq_true (show (o : Int) < (g.w.length : Int) by omega), show ((0 : Int) == 1) = false from rfl, show ((1 : Int) == 1) = true from rfl]
      repeat (first | refine ⟨by omega, ?_⟩ | refine ⟨by rw [q0l0]; omega, ?_⟩)
      refine ⟨fun h5 => ?_, fun h5 => ?_⟩
      · repeat (first | refine ⟨by omega, ?_⟩ | refine ⟨by rw [q0l0]; omega, ?_⟩)
        have hcall := q0sy hg (.inr rfl) hot (c := o) (n := n) h8 hn
        have hval := q0ue (q0sn (s := (0, s)) (t := (1, t)) hg hs ht hc h8 g.nd.length y.toNat (q144 g n) (by omega) y1 y2 (by omega))
        rw [show ((y.toNat : Nat) : Int) = y by omega] at hval
        have hrw : 1 * z * wayP g (otOf 0 s t) 1 o n = rchW g s t 0 n c o := by rw [rchW, hwz]; rfl
        have hcf : rchW g s t 0 n c o * val g s t g.nd.length y.toNat c o (q144 g n) = cntF g s t 0 n c y.toNat o := rfl
        refine q004.pure hcall [] rfl Try.call209 (fun e R' hR => ?_) (by first | trivial | simp [T.noSh, T.noShL, rat]) (fun _ => rfl) ?_
        · simp -implicitDefEqProofs only [agR, Nat.reduceLeDiff, Nat.reduceSub, vaR, go_sem, ints, rows, rat, rats, q0p1, rtR, intsO, q0qa]
        simp -implicitDefEqProofs only [go_sem, evR, ints, rows, rat, rats, nodes, hy]
        repeat (first | refine ⟨by omega, ?_⟩ | refine ⟨by rw [q0l0]; omega, ?_⟩)
        refine q004.pure hval [] rfl Try.call183 (fun e R' hR => ?_) (by first | trivial | simp [T.noSh, T.noShL, rat]) (fun _ => rfl) ?_
        · simp -implicitDefEqProofs only [agR, Nat.reduceLeDiff, Nat.reduceSub, vaR, go_sem, ints, rows, rat, rats, q0p1, rtR, intsO, q0qa]
        simp -implicitDefEqProofs only [go_sem, evR, ints, rows, rat, rats]
        refine hn2 _ (o + 1) (Weak.of _ _ [some 6, some 7, some 8, some 13, some 14, some 116] (by simp) (by simp) ?_ ?_) (by omega) (by omega)
        · simp -implicitDefEqProofs only [ints, rows, Nat.reduceBEq, wkR, Nat.reduceEqDiff, ↓reduceIte, wrR, nodes, q0lb h8 (by omega), wrap64 (n := 1 * z) (by omega) (by omega), hrw, wrap64 (n := rchW g s t 0 n c o) (by omega) (by omega), hcf, wrap64 (n := cntF g s t 0 n c y.toNat o) (by omega) (by omega), ← hsu, wrap64 (n := cntN g s t 0 n c y.toNat (o + 1)) (by omega) (by omega)]
        · exact ⟨⟨_, rfl, .refl _⟩, rfl, ⟨_, rfl, .refl _⟩, rfl, ⟨_, rfl, .refl _⟩, rfl, ⟨_, rfl, .refl _⟩, rfl, ⟨_, rfl, .refl _⟩, rfl, ⟨_, rfl, .refl _⟩, rfl, trivial⟩
      · have hz0 : z = 0 := by have : ¬ z > 0 := by simpa using h5
                               omega
        have h0 : cntF g s t 0 n c y.toNat o = 0 := by rw [cntF, q159 (by rw [hwz]; exact hz0), Int.zero_mul]
        rw [h0, Int.add_zero] at hsu
        refine hn2 _ (o + 1) (Weak.of _ _ [some 6, some 7, some 8, some 13, some 14, some 116] (by simp) (by simp) ?_ ?_) (by omega) (by omega)
        · simp -implicitDefEqProofs only [ints, rows, Nat.reduceBEq, wkR, Nat.reduceEqDiff, ↓reduceIte, wrR, nodes, q0lb h8 (by omega), hsu]
        · exact ⟨⟨_, rfl, .refl _⟩, rfl, ⟨_, rfl, .refl _⟩, rfl, ⟨_, rfl, .refl _⟩, rfl, ⟨_, rfl, .refl _⟩, rfl, ⟨_, rfl, .refl _⟩, rfl, ⟨_, rfl, .refl _⟩, rfl, trivial⟩
    · simp -implicitDefEqProofs only [go_sem, evR, ints, rows, rat, rats, nodes, intsO, decide_eq_false (show ¬ (o : Int) < (g.w.length : Int) by omega)]
      refine he2 _ _ ?_
      simp -implicitDefEqProofs only [go_sem, evR, ints, rows, rat, rats, hlt]
      repeat (first | refine ⟨by omega, ?_⟩ | refine ⟨by rw [q0l0]; omega, ?_⟩)
      refine hn1 _ (k + 1) (Weak.of _ _ [some 6, some 7, some 8, some 13, some 14, some 102] (by simp) (by simp) ?_ ?_) (by omega) (by omega)
      · simp -implicitDefEqProofs only [ints, rows, Nat.reduceBEq, wkR, Nat.reduceEqDiff, ↓reduceIte, wrR, nodes, q0lb h9 (show x.ch.length <= 1000000000000 by omega)]
      · refine ⟨⟨_, rfl, .refl _⟩, rfl, ⟨_, rfl, .refl _⟩, rfl, ⟨_, rfl, .refl _⟩, rfl, ⟨_, rfl, .refl _⟩, rfl, ⟨_, rfl, .refl _⟩, rfl, ⟨_, rfl, ?_⟩, rfl, trivial⟩
        rw [hcg k y hy, show o = g.w.length by omega, intsO, List.map_append]; exact .refl _
  · simp -implicitDefEqProofs only [go_sem, evR, ints, rows, rat, rats, nodes, intsO, decide_eq_false (show ¬ (k : Int) < (x.ch.length : Int) by omega)]
    refine he _ _ ?_
    simp -implicitDefEqProofs only [go_sem, evR, ints, rows, rat, rats]
    rw [List.take_of_length_le (by omega), intsO]
theorem q0su {g : Gm} (hg : q0fl g = true) {s t : List (List Int)} (hs : q0nw g s 0) (ht : q0nw g t 1) {n c : Nat} (hn : n < g.nd.length) (h2 : (g.nd.getD n nd0).p ≠ 2) (hc : c < g.w.length) : Fun Try.prog 208 [] [.t (.agg [.sh 5 (chunk q0lu g.nd), .sh 1 (g.w.map ints), .sh 1 (g.v.map ints)]), .t (.agg [.i 0, .sh 1 (s.map ints)]), .t (.agg [.i 1, .sh 1 (t.map ints)]), .t (.i 1), .t (.i n), .t (.i c)] fun o r => o = [] /\ r = intsO (cnts g s t 1 n c) := by
  obtain ⟨p1, p2, p3, p4, p5⟩ := q0fn hg
  obtain ⟨t1, t2, t3, t4⟩ := q0g0 p1
  obtain ⟨e1, e2, e3⟩ := q145 hg hn h2
  obtain ⟨x, hx⟩ : ∃ x, g.nd[n]? = some x := ⟨_, List.getElem?_eq_getElem hn⟩
  have hxd : g.nd.getD n nd0 = x := by rw [List.getD_eq_getElem?_getD, hx]; rfl
  have hxl := (q0ks (t2 _ _ hx)).2.2.2.2.2
  have hcl := q14b g s t 1 n c
  have hcg : ∀ k y, x.ch[k]? = some y -> (cnts g s t 1 n c).take (k + 1) = (cnts g s t 1 n c).take k ++ [cntN g s t 1 n c y.toNat g.w.length] := fun k y h => q06t (by rw [hxd]; exact h)
  rw [hxd] at hcl e3
  refine q0c7 (by simp) ?_
  simp -implicitDefEqProofs only [go_sem, evR, ints, rows, rat, rats, q059, q0kw hx, show ((0 : Int) == 1) = false from rfl, show ((1 : Int) == 1) = true from rfl, opR, Nat.reduceBEq]
  repeat (first | refine ⟨by omega, ?_⟩ | refine ⟨by rw [q0l0]; omega, ?_⟩)
  refine q006.pure (q080 (q0s8 t2 (by omega) g.nd.length n (by omega) hn (by omega))) [] rfl Try.call158 ?_ (by first | trivial | simp [T.noSh, T.noShL, rat]) rfl ?_
  · simp -implicitDefEqProofs only [agR, Nat.reduceLeDiff, Nat.reduceSub, vaR, go_sem, ints, rows, rat, rats, q0p1, rtR, intsO, q0qa]
  simp -implicitDefEqProofs only [go_sem, evR, ints, rows, rat, rats]
  rw [e2]
  refine SemC.loopR (σ := Nat) (fun k => St.of [(3, .t (.i 1)), (4, .t (.i n)), (5, .t (.i c)), (6, .own 6), (7, .own 7), (8, .own 8), (13, .own 13), (14, .own 14), (15, .t (.i (q144 g n))), (16, .own 116), (17, .t (.i k))] [(6, .box [nodes g.nd, rows g.w, rows g.v]), (7, .box [.i 0, rows s]), (8, .box [.i 1, rows t]), (13, .box [.i x.p, .i x.a, .i x.b, .i x.f, ints x.ch]), (14, .box [.i 0, rows (otOf 1 s t)]), (116, intsO ((cnts g s t 1 n c).take k))]) (fun k => k <= x.ch.length) (fun k => x.ch.length - k) 0 (Weak.of _ _ [some 6, some 7, some 8, some 13, some 14, some 38] (by simp) (by simp) ?_ ?_) (by omega) fun k hk R hn1 hr he => ?_
  · simp -implicitDefEqProofs only [ints, rows, Nat.reduceBEq, wkR, Nat.reduceEqDiff, ↓reduceIte, wrR, nodes, show (q144 g n : Int) + 1 - 1 = (q144 g n : Int) by omega, wrap64 (n := (q144 g n : Int)) (by omega) (by omega)]
  · exact ⟨⟨_, rfl, .refl _⟩, rfl, ⟨_, rfl, .refl _⟩, rfl, ⟨_, rfl, .refl _⟩, rfl, ⟨_, rfl, .refl _⟩, rfl, ⟨_, rfl, .refl _⟩, rfl, ⟨_, rfl, .refl _⟩, rfl, trivial⟩
  rcases Nat.lt_or_ge k x.ch.length with h9 | h9
  · obtain ⟨y, hy⟩ : ∃ y, x.ch[k]? = some y := ⟨_, List.getElem?_eq_getElem h9⟩
    obtain ⟨y0, y1, y2⟩ := e3 y (List.mem_of_getElem? hy)
    have hlt : ((cnts g s t 1 n c).take k).length = k := by rw [List.length_take, hcl]; omega
    simp -implicitDefEqProofs only [go_sem, evR, ints, rows, rat, rats, nodes, intsO, decide_eq_true (show (k : Int) < (x.ch.length : Int) by omega)]
    refine SemC.loopR (σ := Nat) (fun o => St.of [(3, .t (.i 1)), (4, .t (.i n)), (5, .t (.i c)), (6, .own 6), (7, .own 7), (8, .own 8), (13, .own 13), (14, .own 14), (15, .t (.i (q144 g n))), (16, .own 116), (17, .t (.i k)), (18, .t (.i (cntN g s t 1 n c y.toNat o))), (19, .t (.i o))] [(6, .box [nodes g.nd, rows g.w, rows g.v]), (7, .box [.i 0, rows s]), (8, .box [.i 1, rows t]), (13, .box [.i x.p, .i x.a, .i x.b, .i x.f, ints x.ch]), (14, .box [.i 0, rows (otOf 1 s t)]), (116, intsO ((cnts g s t 1 n c).take k))]) (fun o => o <= g.w.length) (fun o => g.w.length - o) 0 (Weak.of _ _ [some 6, some 7, some 8, some 13, some 14, some 116] (by simp) (by simp) ?_ ?_) (by omega) fun o ho R2 hn2 hr2 he2 => ?_
    · simp -implicitDefEqProofs only [ints, rows, Nat.reduceBEq, wkR, Nat.reduceEqDiff, ↓reduceIte, wrR, nodes, show cntN g s t 1 n c y.toNat 0 = 0 from rfl]
    · exact ⟨⟨_, rfl, .refl _⟩, rfl, ⟨_, rfl, .refl _⟩, rfl, ⟨_, rfl, .refl _⟩, rfl, ⟨_, rfl, .refl _⟩, rfl, ⟨_, rfl, .refl _⟩, rfl, ⟨_, rfl, .refl _⟩, rfl, trivial⟩
    rcases Nat.lt_or_ge o g.w.length with h8 | h8
    · obtain ⟨r, z, hr0, hz, hz0, hz9⟩ := q0cn hg h8 hc
      have hrl : r.length = g.w.length := ((q0js.1 p3).2 r (List.mem_of_getElem? hr0)).1
      have hwz : wAt g 1 c o = z := by
        unfold wAt
        simp only [List.getD_eq_getElem?_getD, hr0, hz, Option.getD_some, show ((1 : Int) = 0) = False by simp, if_false]
      have hsu := q148 g s t 1 n c y.toNat o
      have k1 := q147 hg hs ht (.inr rfl) hn h2 hc (by rw [hxd]; exact List.mem_of_getElem? hy) (m := o) (by omega)
      have k2 := q147 hg hs ht (.inr rfl) hn h2 hc (by rw [hxd]; exact List.mem_of_getElem? hy) (m := o + 1) (by omega)
      have k3 := q146 hg hs ht (.inr rfl) hn h2 hc h8 (by rw [hxd]; exact List.mem_of_getElem? hy)
      have hot := (q153 hs ht (.inr rfl)).2
      obtain ⟨b1, b2⟩ := q12q (c := o) t2 t3 hot h8 n n (Nat.le_refl _) hn
      have hpw := q157 (p := (wayL g.nd n).length) (by omega)
      have hr1 := q158 (c := c) hg hs ht (.inr rfl) hn h8
      simp -implicitDefEqProofs only [go_sem, evR, ints, rows, rat, rats, nodes, intsO, hr0, hz, decide_eq_true (show (o : Int) < (g.w.length : Int) by omega), show ((0 : Int) == 1) = false from rfl, show ((1 : Int) == 1) = true from rfl]
      repeat (first | refine ⟨by omega, ?_⟩ | refine ⟨by rw [q0l0]; omega, ?_⟩)
      refine ⟨fun h5 => ?_, fun h5 => ?_⟩
      · repeat (first | refine ⟨by omega, ?_⟩ | refine ⟨by rw [q0l0]; omega, ?_⟩)
        have hcall := q0sy hg (.inl rfl) hot (c := o) (n := n) h8 hn
        have hval := q0ue (q0sn (s := (0, s)) (t := (1, t)) hg hs ht h8 hc g.nd.length y.toNat (q144 g n) (by omega) y1 y2 (by omega))
        rw [show ((y.toNat : Nat) : Int) = y by omega] at hval
        have hrw : (-1) * z * wayP g (otOf 1 s t) 0 o n = rchW g s t 1 n c o := by rw [rchW, hwz]; rfl
        have hcf : rchW g s t 1 n c o * val g s t g.nd.length y.toNat o c (q144 g n) = cntF g s t 1 n c y.toNat o := rfl
        refine q004.pure hcall [] rfl Try.call209 (fun e R' hR => ?_) (by first | trivial | simp [T.noSh, T.noShL, rat]) (fun _ => rfl) ?_
        · simp -implicitDefEqProofs only [agR, Nat.reduceLeDiff, Nat.reduceSub, vaR, go_sem, ints, rows, rat, rats, q0p1, rtR, intsO, q0qa]
        simp -implicitDefEqProofs only [go_sem, evR, ints, rows, rat, rats, nodes, hy]
        repeat (first | refine ⟨by omega, ?_⟩ | refine ⟨by rw [q0l0]; omega, ?_⟩)
        refine q004.pure hval [] rfl Try.call183 (fun e R' hR => ?_) (by first | trivial | simp [T.noSh, T.noShL, rat]) (fun _ => rfl) ?_
        · simp -implicitDefEqProofs only [agR, Nat.reduceLeDiff, Nat.reduceSub, vaR, go_sem, ints, rows, rat, rats, q0p1, rtR, intsO, q0qa]
        simp -implicitDefEqProofs only [go_sem, evR, ints, rows, rat, rats]
        refine hn2 _ (o + 1) (Weak.of _ _ [some 6, some 7, some 8, some 13, some 14, some 116] (by simp) (by simp) ?_ ?_) (by omega) (by omega)
        · simp -implicitDefEqProofs only [ints, rows, Nat.reduceBEq, wkR, Nat.reduceEqDiff, ↓reduceIte, wrR, nodes, q0lb h8 (by omega), wrap64 (n := (-1) * z) (by omega) (by omega), hrw, wrap64 (n := rchW g s t 1 n c o) (by omega) (by omega), hcf, wrap64 (n := cntF g s t 1 n c y.toNat o) (by omega) (by omega), ← hsu, wrap64 (n := cntN g s t 1 n c y.toNat (o + 1)) (by omega) (by omega)]
        · exact ⟨⟨_, rfl, .refl _⟩, rfl, ⟨_, rfl, .refl _⟩, rfl, ⟨_, rfl, .refl _⟩, rfl, ⟨_, rfl, .refl _⟩, rfl, ⟨_, rfl, .refl _⟩, rfl, ⟨_, rfl, .refl _⟩, rfl, trivial⟩
      · have hz0 : z = 0 := by have : ¬ z > 0 := by simpa using h5
                               omega
        have h0 : cntF g s t 1 n c y.toNat o = 0 := by rw [cntF, q159 (by rw [hwz]; exact hz0), Int.zero_mul]
        rw [h0, Int.add_zero] at hsu
        refine hn2 _ (o + 1) (Weak.of _ _ [some 6, some 7, some 8, some 13, some 14, some 116] (by simp) (by simp) ?_ ?_) (by omega) (by omega)
        · simp -implicitDefEqProofs only [ints, rows, Nat.reduceBEq, wkR, Nat.reduceEqDiff, ↓reduceIte, wrR, nodes, q0lb h8 (by omega), hsu]
        · exact ⟨⟨_, rfl, .refl _⟩, rfl, ⟨_, rfl, .refl _⟩, rfl, ⟨_, rfl, .refl _⟩, rfl, ⟨_, rfl, .refl _⟩, rfl, ⟨_, rfl, .refl _⟩, rfl, ⟨_, rfl, .refl _⟩, rfl, trivial⟩
    · simp -implicitDefEqProofs only [go_sem, evR, ints, rows, rat, rats, nodes, intsO, decide_eq_false (show ¬ (o : Int) < (g.w.length : Int) by omega)]
      refine he2 _ _ ?_
      simp -implicitDefEqProofs only [go_sem, evR, ints, rows, rat, rats, hlt]
      repeat (first | refine ⟨by omega, ?_⟩ | refine ⟨by rw [q0l0]; omega, ?_⟩)
      refine hn1 _ (k + 1) (Weak.of _ _ [some 6, some 7, some 8, some 13, some 14, some 102] (by simp) (by simp) ?_ ?_) (by omega) (by omega)
      · simp -implicitDefEqProofs only [ints, rows, Nat.reduceBEq, wkR, Nat.reduceEqDiff, ↓reduceIte, wrR, nodes, q0lb h9 (show x.ch.length <= 1000000000000 by omega)]
      · refine ⟨⟨_, rfl, .refl _⟩, rfl, ⟨_, rfl, .refl _⟩, rfl, ⟨_, rfl, .refl _⟩, rfl, ⟨_, rfl, .refl _⟩, rfl, ⟨_, rfl, .refl _⟩, rfl, ⟨_, rfl, ?_⟩, rfl, trivial⟩
        rw [hcg k y hy, show o = g.w.length by omega, intsO, List.map_append]; exact .refl _
  · simp -implicitDefEqProofs only [go_sem, evR, ints, rows, rat, rats, nodes, intsO, decide_eq_false (show ¬ (k : Int) < (x.ch.length : Int) by omega)]
    refine he _ _ ?_
    simp -implicitDefEqProofs only [go_sem, evR, ints, rows, rat, rats]
    rw [List.take_of_length_le (by omega), intsO]
end

def q16g : CC :=
 (.seq (.reg [.o (.box 2 (sl 0)),
 .o (.alloc 4 [.v (.int .i64 0), .v (.slice none 0 0)]),
 .o (.alloc 5 [.v (.int .i64 0), .v (.slice none 0 0)]),
 .o (.move 6 (ci 0))])
 ((.seq (.reg [.o (.loadN 12 3 (sl 2)),
 .o (.move 13 (sl 1)),
 .o (.call (some 14) (cf 109) [(sl 12), (sl 13)]),
 .o (.move 11 (sl 14)),
 .o (.extract 15 (sl 11) 0),
 .o (.extract 16 (sl 11) 1),
 .o (.move 7 (sl 15)),
 .o (.move 8 (sl 16))])
 ((.seq (.seq (.reg [.o (.move 17 (sl 8)),
 .o (.bin 18 .neq (sl 17) (ci 0))])
 ((.cond (sl 18) (.seq (.reg [.o (.build 19 [.v (.int .i64 0), .v (.slice none 0 0)] [(0, 1), (1, 1)] []),
 .o (.build 20 [.v (.int .i64 0), .v (.slice none 0 0)] [(0, 1), (1, 1)] []),
 .o (.move 21 (sl 8)),
 .o (.store 2 (sl 4) (sl 19)),
 .o (.store 2 (sl 5) (sl 20)),
 .o (.move 6 (sl 21))])
 (.ret))
 .skip)))
 ((.seq (.reg [.o (.move 23 (sl 7)),
 .o (.call (some 24) (cf 112) [(sl 23)]),
 .o (.move 22 (sl 24)),
 .o (.extract 25 (sl 22) 0),
 .o (.extract 26 (sl 22) 1),
 .o (.alloc 9 [.v (.int .i64 0), .v (.slice none 0 0)]),
 .o (.alloc 10 [.v (.int .i64 0), .v (.slice none 0 0)]),
 .o (.store 2 (sl 9) (sl 25)),
 .o (.store 2 (sl 10) (sl 26))])
 ((.seq (.weak (.draw [] [(kR, .o (.loadN 27 2 (sl 9))),
 (.r false [4, 501], .o (.loadN 28 2 (sl 10))),
 (.h (some [4, 501]) [], .o (.store 2 (sl 4) (sl 27))),
 (kH, .o (.store 2 (sl 5) (sl 28))),
 (kR, .o (.move 6 (ci 0)))]))
 (.ret))))))))))
theorem q16y {rin : List T} {args : List A} {Q : List T -> T -> Prop} (ha : args.length <= 29) (h : cW Try.prog 29 q16g (retP Try.prog [.cell 4 47, .cell 5 47, .tmp 6] rin.length Q) (St.of (enum 0 args) (enum 1000000000 rin))) :
    Fun Try.prog 38 rin args Q :=
  Fun.of (H := ⟨[(5, 1, .r false [4, 501]), (5, 2, .h (some [4, 501]) [])], [5]⟩) Try.func38 rfl rfl rfl (by kernel_rfl) ha (by decide) h

def q16f : CC :=
 (.seq (.reg [.o (.box 2 (sl 0)),
 .o (.alloc 4 [.v (.int .i64 0), .v (.slice none 0 0)]),
 .o (.alloc 5 [.v (.int .i64 0), .v (.slice none 0 0)]),
 .o (.move 6 (ci 0))])
 ((.seq (.reg [.o (.loadN 12 3 (sl 2)),
 .o (.move 13 (sl 1)),
 .o (.call (some 14) (cf 109) [(sl 12), (sl 13)]),
 .o (.move 11 (sl 14)),
 .o (.extract 15 (sl 11) 0),
 .o (.extract 16 (sl 11) 1),
 .o (.move 7 (sl 15)),
 .o (.move 8 (sl 16))])
 ((.seq (.seq (.reg [.o (.move 17 (sl 8)),
 .o (.bin 18 .neq (sl 17) (ci 0))])
 ((.cond (sl 18) (.seq (.reg [.o (.build 19 [.v (.int .i64 0), .v (.slice none 0 0)] [(0, 1), (1, 1)] []),
 .o (.build 20 [.v (.int .i64 0), .v (.slice none 0 0)] [(0, 1), (1, 1)] []),
 .o (.move 21 (sl 8)),
 .o (.store 2 (sl 4) (sl 19)),
 .o (.store 2 (sl 5) (sl 20)),
 .o (.move 6 (sl 21))])
 (.ret))
 .skip)))
 ((.seq (.reg [.o (.move 23 (sl 7)),
 .o (.call (some 24) (cf 113) [(sl 23)]),
 .o (.move 22 (sl 24)),
 .o (.extract 25 (sl 22) 0),
 .o (.extract 26 (sl 22) 1),
 .o (.alloc 9 [.v (.int .i64 0), .v (.slice none 0 0)]),
 .o (.alloc 10 [.v (.int .i64 0), .v (.slice none 0 0)]),
 .o (.store 2 (sl 9) (sl 25)),
 .o (.store 2 (sl 10) (sl 26))])
 ((.seq (.weak (.draw [] [(kR, .o (.loadN 27 2 (sl 9))),
 (.r false [4, 501], .o (.loadN 28 2 (sl 10))),
 (.h (some [4, 501]) [], .o (.store 2 (sl 4) (sl 27))),
 (kH, .o (.store 2 (sl 5) (sl 28))),
 (kR, .o (.move 6 (ci 0)))]))
 (.ret))))))))))
theorem q16x {rin : List T} {args : List A} {Q : List T -> T -> Prop} (ha : args.length <= 29) (h : cW Try.prog 29 q16f (retP Try.prog [.cell 4 47, .cell 5 47, .tmp 6] rin.length Q) (St.of (enum 0 args) (enum 1000000000 rin))) :
    Fun Try.prog 43 rin args Q :=
  Fun.of (H := ⟨[(5, 1, .r false [4, 501]), (5, 2, .h (some [4, 501]) [])], [5]⟩) Try.func43 rfl rfl rfl (by kernel_rfl) ha (by decide) h

def q16l : CC :=
 (.seq (.reg [.o (.box 2 (sl 0)),
 .o (.alloc 4 [.v (.int .i64 0), .v (.slice none 0 0)])])
 ((.seq (.reg [.o (.move 8 (sl 1)),
 .o (.build 9 [.v (.int .i64 0), .v (.slice none 0 0)] [(0, 1), (1, 1)] [(0, (sl 8))]),
 .o (.alloc 5 [.v (.int .i64 0), .v (.slice none 0 0)]),
 .o (.store 2 (sl 5) (sl 9))])
 ((.seq (.seq (.reg [.o (.loadN 10 3 (sl 2)),
 .o (.move 11 (sl 1)),
 .o (.call (some 12) (cf 152) [(sl 10), (sl 11)]),
 .o (.lenS 13 (sl 12)),
 .o (.move 14 (ci 0))])
 ((.block 0 (.loop (.seq (.reg [.o (.bin 15 .lss (sl 14) (sl 13))])
 ((.seq (.cond (sl 15) .skip
 (.exit 0))
 ((.seq (.block 1 (.seq (.reg [.o (.idx 16 1 (sl 12) (sl 14)),
 .o (.load1 17 (sl 16)),
 .o (.move 7 (sl 17))])
 ((.weak (.draw [30, 31] [(.r false [30, 31, 32], .o (.fld 18 1 (sl 5))),
 (.r false [30, 31, 32], .o (.load1 19 (sl 18))),
 (kR, .o (.fld 20 0 (sl 2))),
 (kR, .o (.fld 21 0 (sl 20))),
 (kR, .o (.load1 22 (sl 21))),
 (kR, .o (.move 23 (sl 7))),
 (kR, .o (.idx 24 1 (sl 23) (ci 0))),
 (kR, .o (.load1 25 (sl 24))),
 (kR, .o (.idx 26 5 (sl 22) (sl 25))),
 (kR, .o (.fld 27 4 (sl 26))),
 (kR, .o (.load1 28 (sl 27))),
 (kR, .o (.lenS 29 (sl 28))),
 (kN, .o (.make 30 [.v (.int .i64 0)] 8 (sl 29) (sl 29))),
 (.c false [], .o (.call (some 31) (cf 193) [(sl 30)])),
 (.h (some [31]) [], .o (.bslice 32 1 1 [(0, (sl 31))])),
 (kH, .o (.app 33 1 24 (sl 19) (sl 32))),
 (kR, .o (.fld 34 1 (sl 5))),
 (kH, .o (.store 1 (sl 34) (sl 33)))])))))
 ((.reg [.o (.bin 35 .add (sl 14) (ci 1)),
 .o (.move 14 (sl 35))])))))))))))
 ((.seq (.reg [.o (.loadN 36 2 (sl 5)),
 .o (.store 2 (sl 4) (sl 36))])
 (.ret))))))))
theorem q173 {rin : List T} {args : List A} {Q : List T -> T -> Prop} (ha : args.length <= 37) (h : cW Try.prog 37 q16l (retP Try.prog [.cell 4 47] rin.length Q) (St.of (enum 0 args) (enum 1000000000 rin))) :
    Fun Try.prog 137 rin args Q :=
  Fun.of (H := ⟨[(5, 0, .r false [30, 31, 32]), (5, 1, .r false [30, 31, 32]), (5, 14, .h (some [31]) []), (5, 2, .r false []), (5, 3, .r false []), (5, 4, .r false []), (5, 5, .r false []), (5, 6, .r false []), (5, 7, .r false []), (5, 8, .r false []), (5, 9, .r false []), (5, 10, .r false []), (5, 11, .r false [])], [5]⟩) Try.func137 rfl rfl rfl (by kernel_rfl) ha (by decide) h

def q05e : CC :=
 (.seq (.weak (.draw [19, 26, 2, 3] [(kR, .o (.move 13 (sl 0))),
 (kR, .o (.nilc 14 (sl 13))),
 (kR, .o (.fld 15 3 (sl 14))),
 (kR, .o (.load1 16 (sl 15))),
 (kR, .o (.idx 17 1 (sl 16) (ci 0))),
 (kR, .o (.load1 18 (sl 17))),
 (.c false [], .o (.call (some 19) (cf 111) [(ci 0), (sl 18)])),
 (.r false [19], .o (.move 20 (sl 0))),
 (.r false [19], .o (.nilc 21 (sl 20))),
 (.r false [19], .o (.fld 22 3 (sl 21))),
 (.r false [19], .o (.load1 23 (sl 22))),
 (.r false [19], .o (.idx 24 1 (sl 23) (ci 1))),
 (.r false [19], .o (.load1 25 (sl 24))),
 (.c false [], .o (.call (some 26) (cf 111) [(ci 1), (sl 25)])),
 (kN, .o (.alloc 2 [.v (.int .i64 0), .v (.slice none 0 0)])),
 (kN, .o (.alloc 3 [.v (.int .i64 0), .v (.slice none 0 0)])),
 (kH, .o (.store 2 (sl 2) (sl 19))),
 (kH, .o (.store 2 (sl 3) (sl 26)))]))
 ((.seq (.weak (.reg [.o (.move 4 (ci 0))]))
 ((.block 0 (.loop (.seq (.seq (.reg [.o (.move 27 (sl 4)),
 .o (.bin 28 .lss (sl 27) (ci 2))])
 ((.cond (sl 28) .skip
 (.exit 0))))
 ((.seq (.block 1 (.seq (.reg [.o (.loadN 31 2 (sl 2)),
 .o (.alloc 5 [.v (.int .i64 0), .v (.slice none 0 0)]),
 .o (.store 2 (sl 5) (sl 31))])
 ((.seq (.seq (.reg [.o (.move 32 (sl 4)),
 .o (.bin 33 .eql (sl 32) (ci 1))])
 ((.cond (sl 33) (.reg [.o (.loadN 34 2 (sl 3)),
 .o (.store 2 (sl 5) (sl 34))])
 .skip)))
 ((.seq (.reg [.o (.move 35 (sl 0)),
 .o (.nilc 36 (sl 35)),
 .o (.fld 37 0 (sl 36)),
 .o (.loadN 38 3 (sl 37)),
 .o (.move 39 (sl 4)),
 .o (.call (some 40) (cf 186) [(sl 38), (sl 39)]),
 .o (.move 6 (sl 40))])
 ((.seq (.reg [.o (.move 7 (ci 0))])
 ((.block 2 (.loop (.seq (.seq (.reg [.o (.move 41 (sl 7)),
 .o (.move 42 (sl 6)),
 .o (.lenS 43 (sl 42)),
 .o (.bin 44 .lss (sl 41) (sl 43))])
 ((.cond (sl 44) .skip
 (.exit 2))))
 ((.seq (.block 3 (.seq (.draw [66] [(kR, .o (.move 47 (sl 0))),
 (kR, .o (.nilc 48 (sl 47))),
 (kR, .o (.fld 49 0 (sl 48))),
 (kR, .o (.loadN 50 3 (sl 49))),
 (kR, .o (.loadN 51 2 (sl 2))),
 (kR, .o (.loadN 52 2 (sl 3))),
 (kR, .o (.move 53 (sl 4))),
 (kR, .o (.move 54 (sl 6))),
 (kR, .o (.move 55 (sl 7))),
 (kR, .o (.idx 56 1 (sl 54) (sl 55))),
 (kR, .o (.load1 57 (sl 56))),
 (kR, .o (.idx 58 1 (sl 57) (ci 0))),
 (kR, .o (.load1 59 (sl 58))),
 (kR, .o (.move 60 (sl 6))),
 (kR, .o (.move 61 (sl 7))),
 (kR, .o (.idx 62 1 (sl 60) (sl 61))),
 (kR, .o (.load1 63 (sl 62))),
 (kR, .o (.idx 64 1 (sl 63) (ci 1))),
 (kR, .o (.load1 65 (sl 64))),
 (.c false [], .o (.call (some 66) (cf 208) [(sl 50), (sl 51), (sl 52), (sl 53), (sl 59), (sl 65)])),
 (kR, .o (.move 8 (sl 66)))])
 ((.seq (.reg [.o (.move 9 (ci 0))])
 ((.seq (.seq (.reg [.o (.move 10 (ci 0))])
 ((.block 4 (.loop (.seq (.seq (.reg [.o (.move 67 (sl 10)),
 .o (.move 68 (sl 8)),
 .o (.lenS 69 (sl 68)),
 .o (.bin 70 .lss (sl 67) (sl 69))])
 ((.cond (sl 70) .skip
 (.exit 4))))
 ((.seq (.block 5 (.draw [] [(kR, .o (.move 73 (sl 9))),
 (kR, .o (.fld 74 1 (sl 5))),
 (kR, .o (.load1 75 (sl 74))),
 (kR, .o (.move 76 (sl 7))),
 (kR, .o (.idx 77 1 (sl 75) (sl 76))),
 (kR, .o (.load1 78 (sl 77))),
 (kR, .o (.move 79 (sl 10))),
 (kR, .o (.idx 80 1 (sl 78) (sl 79))),
 (kR, .o (.load1 81 (sl 80))),
 (kR, .o (.move 82 (sl 8))),
 (kR, .o (.move 83 (sl 10))),
 (kR, .o (.idx 84 1 (sl 82) (sl 83))),
 (kR, .o (.load1 85 (sl 84))),
 (kR, .o (.bin 86 .mul (sl 81) (sl 85))),
 (kR, .o (.bin 87 .add (sl 73) (sl 86))),
 (kR, .o (.move 9 (sl 87)))]))
 ((.reg [.o (.move 71 (sl 10)),
 .o (.bin 72 .add (sl 71) (ci 1)),
 .o (.move 10 (sl 72))])))))))))
 ((.seq (.draw [] [(kR, .o (.move 88 (sl 0))),
 (kR, .o (.nilc 89 (sl 88))),
 (kR, .o (.fld 90 0 (sl 89))),
 (kR, .o (.loadN 91 3 (sl 90))),
 (kR, .o (.loadN 92 2 (sl 5))),
 (kR, .o (.move 93 (sl 6))),
 (kR, .o (.move 94 (sl 7))),
 (kR, .o (.idx 95 1 (sl 93) (sl 94))),
 (kR, .o (.load1 96 (sl 95))),
 (kR, .o (.idx 97 1 (sl 96) (ci 0))),
 (kR, .o (.load1 98 (sl 97))),
 (kR, .o (.move 99 (sl 6))),
 (kR, .o (.move 100 (sl 7))),
 (kR, .o (.idx 101 1 (sl 99) (sl 100))),
 (kR, .o (.load1 102 (sl 101))),
 (kR, .o (.idx 103 1 (sl 102) (ci 1))),
 (kR, .o (.load1 104 (sl 103))),
 (kR, .o (.call (some 105) (cf 209) [(sl 91), (sl 92), (sl 98), (sl 104)])),
 (kR, .o (.move 11 (sl 105)))])
 ((.seq (.reg [.o (.move 12 (ci 0))])
 ((.block 6 (.loop (.seq (.seq (.reg [.o (.move 106 (sl 12)),
 .o (.move 107 (sl 8)),
 .o (.lenS 108 (sl 107)),
 .o (.bin 109 .lss (sl 106) (sl 108))])
 ((.cond (sl 109) .skip
 (.exit 6))))
 ((.seq (.block 7 (.seq (.weak (.draw [] [(kR, .o (.move 112 (sl 0))),
 (kR, .o (.nilc 113 (sl 112))),
 (kR, .o (.fld 114 3 (sl 113))),
 (kR, .o (.load1 115 (sl 114))),
 (kR, .o (.move 116 (sl 4))),
 (kR, .o (.idx 117 1 (sl 115) (sl 116))),
 (kR, .o (.load1 118 (sl 117))),
 (kR, .o (.move 119 (sl 7))),
 (kR, .o (.idx 120 1 (sl 118) (sl 119))),
 (kR, .o (.load1 121 (sl 120))),
 (kR, .o (.move 122 (sl 12))),
 (kR, .o (.move 123 (sl 0))),
 (kR, .o (.nilc 124 (sl 123))),
 (kR, .o (.fld 125 3 (sl 124))),
 (kR, .o (.load1 126 (sl 125))),
 (kR, .o (.move 127 (sl 4))),
 (kR, .o (.idx 128 1 (sl 126) (sl 127))),
 (kR, .o (.load1 129 (sl 128))),
 (kR, .o (.move 130 (sl 7))),
 (kR, .o (.idx 131 1 (sl 129) (sl 130))),
 (kR, .o (.load1 132 (sl 131))),
 (kR, .o (.move 133 (sl 12))),
 (kR, .o (.idx 134 1 (sl 132) (sl 133))),
 (kR, .o (.load1 135 (sl 134))),
 (kR, .o (.move 136 (sl 8))),
 (kR, .o (.move 137 (sl 12))),
 (kR, .o (.idx 138 1 (sl 136) (sl 137))),
 (kR, .o (.load1 139 (sl 138))),
 (kR, .o (.bin 140 .mul (ci 60) (sl 139))),
 (kR, .o (.bin 141 .add (sl 135) (sl 140))),
 (kR, .o (.move 142 (sl 9))),
 (kR, .o (.bin 143 .sub (sl 141) (sl 142))),
 (kR, .o (.idx 144 1 (sl 121) (sl 122))),
 (kH, .o (.store 1 (sl 144) (sl 143)))]))
 ((.weak (.draw [] [(kR, .o (.move 145 (sl 0))),
 (kR, .o (.nilc 146 (sl 145))),
 (kR, .o (.fld 147 4 (sl 146))),
 (kR, .o (.load1 148 (sl 147))),
 (kR, .o (.move 149 (sl 4))),
 (kR, .o (.idx 150 1 (sl 148) (sl 149))),
 (kR, .o (.load1 151 (sl 150))),
 (kR, .o (.move 152 (sl 7))),
 (kR, .o (.idx 153 1 (sl 151) (sl 152))),
 (kR, .o (.load1 154 (sl 153))),
 (kR, .o (.move 155 (sl 12))),
 (kR, .o (.move 156 (sl 0))),
 (kR, .o (.nilc 157 (sl 156))),
 (kR, .o (.fld 158 4 (sl 157))),
 (kR, .o (.load1 159 (sl 158))),
 (kR, .o (.move 160 (sl 4))),
 (kR, .o (.idx 161 1 (sl 159) (sl 160))),
 (kR, .o (.load1 162 (sl 161))),
 (kR, .o (.move 163 (sl 7))),
 (kR, .o (.idx 164 1 (sl 162) (sl 163))),
 (kR, .o (.load1 165 (sl 164))),
 (kR, .o (.move 166 (sl 12))),
 (kR, .o (.idx 167 1 (sl 165) (sl 166))),
 (kR, .o (.load1 168 (sl 167))),
 (kR, .o (.move 169 (sl 11))),
 (kR, .o (.fld 170 1 (sl 5))),
 (kR, .o (.load1 171 (sl 170))),
 (kR, .o (.move 172 (sl 7))),
 (kR, .o (.idx 173 1 (sl 171) (sl 172))),
 (kR, .o (.load1 174 (sl 173))),
 (kR, .o (.move 175 (sl 12))),
 (kR, .o (.idx 176 1 (sl 174) (sl 175))),
 (kR, .o (.load1 177 (sl 176))),
 (kR, .o (.bin 178 .mul (sl 169) (sl 177))),
 (kR, .o (.bin 179 .add (sl 168) (sl 178))),
 (kR, .o (.idx 180 1 (sl 154) (sl 155))),
 (kH, .o (.store 1 (sl 180) (sl 179)))])))))
 ((.weak (.reg [.o (.move 110 (sl 12)),
 .o (.bin 111 .add (sl 110) (ci 1)),
 .o (.move 12 (sl 111))])))))))))))))))))))
 ((.reg [.o (.move 45 (sl 7)),
 .o (.bin 46 .add (sl 45) (ci 1)),
 .o (.move 7 (sl 46))]))))))))))))))))
 ((.reg [.o (.move 29 (sl 4)),
 .o (.bin 30 .add (sl 29) (ci 1)),
 .o (.move 4 (sl 30))])))))))))))
theorem q0cc {rin : List T} {args : List A} {Q : List T -> T -> Prop} (ha : args.length <= 181) (h : cW Try.prog 181 q05e (retP Try.prog [] rin.length Q) (St.of (enum 0 args) (enum 1000000000 rin))) :
    Fun Try.prog 169 rin args Q :=
  Fun.of (H := ⟨[], [0, 1, 20, 21, 22]⟩) Try.func169 rfl rfl rfl (by kernel_rfl) ha (by decide) h

def q03l : CC :=
 (.seq (.reg [.o (.box 1 (sl 0)),
 .o (.move 2 (cv (.pointer none)))])
 ((.seq (.reg [.o (.loadN 8 3 (sl 1)),
 .o (.build 9 [.v (.slice none 0 0), .v (.slice none 0 0), .v (.slice none 0 0), .v (.slice none 0 0), .v (.slice none 0 0), .v (.slice none 0 0), .v (.slice none 0 0)] [(0, 3), (3, 2), (5, 2)] [(0, (sl 8))]),
 .o (.box 10 (sl 9)),
 .o (.move 3 (sl 10))])
 ((.seq (.seq (.reg [.o (.move 11 (ci 0))])
 ((.block 0 (.loop (.seq (.reg [.o (.bin 12 .lss (sl 11) (ci 2))])
 ((.seq (.cond (sl 12) .skip
 (.exit 0))
 ((.seq (.block 1 (.seq (.reg [.o (.move 13 (sl 11)),
 .o (.move 4 (sl 13))])
 ((.seq (.reg [.o (.loadN 14 3 (sl 1)),
 .o (.move 15 (sl 4)),
 .o (.call (some 16) (cf 152) [(sl 14), (sl 15)]),
 .o (.lenS 17 (sl 16)),
 .o (.move 18 (ci 0))])
 ((.block 2 (.loop (.seq (.reg [.o (.bin 19 .lss (sl 18) (sl 17))])
 ((.seq (.cond (sl 19) .skip
 (.exit 2))
 ((.seq (.block 3 (.seq (.reg [.o (.idx 20 1 (sl 16) (sl 18)),
 .o (.load1 21 (sl 20)),
 .o (.move 6 (sl 21))])
 ((.seq (.draw [] [(kR, .o (.fld 22 0 (sl 1))),
 (kR, .o (.fld 23 0 (sl 22))),
 (kR, .o (.load1 24 (sl 23))),
 (kR, .o (.move 25 (sl 6))),
 (kR, .o (.idx 26 1 (sl 25) (ci 0))),
 (kR, .o (.load1 27 (sl 26))),
 (kR, .o (.idx 28 5 (sl 24) (sl 27))),
 (kR, .o (.fld 29 4 (sl 28))),
 (kR, .o (.load1 30 (sl 29))),
 (kR, .o (.lenS 31 (sl 30))),
 (kR, .o (.move 7 (sl 31)))])
 ((.seq (.weak (.draw [41] [(.r false [41, 42, 43, 501], .o (.move 32 (sl 3))),
 (.r false [41, 42, 43, 501], .o (.move 33 (sl 4))),
 (.r false [41, 42], .o (.move 34 (sl 3))),
 (.r false [41, 42], .o (.move 35 (sl 4))),
 (.r false [41, 42], .o (.nilc 36 (sl 34))),
 (.r false [41, 42], .o (.fld 37 3 (sl 36))),
 (.r false [41, 42], .o (.idxA 38 2 1 (sl 37) (sl 35))),
 (.r false [41, 42], .o (.load1 39 (sl 38))),
 (kE, .o (.move 40 (sl 7))),
 (kN, .o (.make 41 [.v (.int .i64 0)] 8 (sl 40) (sl 40))),
 (.h (some [41]) [], .o (.bslice 42 1 1 [(0, (sl 41))])),
 (.h (some [42, 501]) [], .o (.app 43 1 24 (sl 39) (sl 42))),
 (.r false [41, 42, 43, 501], .o (.nilc 44 (sl 32))),
 (.r false [41, 42, 43, 501], .o (.fld 45 3 (sl 44))),
 (kR, .o (.idxA 46 2 1 (sl 45) (sl 33))),
 (kH, .o (.store 1 (sl 46) (sl 43)))]))
 ((.weak (.draw [56] [(.r false [56, 57, 58, 502], .o (.move 47 (sl 3))),
 (.r false [56, 57, 58, 502], .o (.move 48 (sl 4))),
 (.r false [56, 57], .o (.move 49 (sl 3))),
 (.r false [56, 57], .o (.move 50 (sl 4))),
 (.r false [56, 57], .o (.nilc 51 (sl 49))),
 (.r false [56, 57], .o (.fld 52 5 (sl 51))),
 (.r false [56, 57], .o (.idxA 53 2 1 (sl 52) (sl 50))),
 (.r false [56, 57], .o (.load1 54 (sl 53))),
 (kE, .o (.move 55 (sl 7))),
 (kN, .o (.make 56 [.v (.int .i64 0)] 8 (sl 55) (sl 55))),
 (.h (some [56]) [], .o (.bslice 57 1 1 [(0, (sl 56))])),
 (.h (some [57, 502]) [], .o (.app 58 1 24 (sl 54) (sl 57))),
 (.r false [56, 57, 58, 502], .o (.nilc 59 (sl 47))),
 (.r false [56, 57, 58, 502], .o (.fld 60 5 (sl 59))),
 (kR, .o (.idxA 61 2 1 (sl 60) (sl 48))),
 (kH, .o (.store 1 (sl 61) (sl 58)))])))))))))
 ((.reg [.o (.bin 62 .add (sl 18) (ci 1)),
 .o (.move 18 (sl 62))]))))))))))))))
 ((.reg [.o (.bin 63 .add (sl 11) (ci 1)),
 .o (.move 11 (sl 63))])))))))))))
 ((.seq (.reg [.o (.move 64 (sl 3)),
 .o (.move 2 (sl 64))])
 (.ret))))))))
theorem q0aj {rin : List T} {args : List A} {Q : List T -> T -> Prop} (ha : args.length <= 65) (h : cW Try.prog 65 q03l (retP Try.prog [.tmp 2] rin.length Q) (St.of (enum 0 args) (enum 1000000000 rin))) :
    Fun Try.prog 170 rin args Q :=
  Fun.of (H := ⟨[(9, 0, .r false [41, 42, 43, 501]), (9, 1, .r false [41, 42, 43, 501]), (9, 12, .r false [41, 42, 43, 501]), (9, 13, .r false [41, 42, 43, 501]), (9, 2, .r false [41, 42]), (9, 3, .r false [41, 42]), (9, 4, .r false [41, 42]), (9, 5, .r false [41, 42]), (9, 6, .r false [41, 42]), (9, 7, .r false [41, 42]), (9, 10, .h (some [41]) []), (9, 11, .h (some [42, 501]) []), (10, 0, .r false [56, 57, 58, 502]), (10, 1, .r false [56, 57, 58, 502]), (10, 12, .r false [56, 57, 58, 502]), (10, 13, .r false [56, 57, 58, 502]), (10, 2, .r false [56, 57]), (10, 3, .r false [56, 57]), (10, 4, .r false [56, 57]), (10, 5, .r false [56, 57]), (10, 6, .r false [56, 57]), (10, 7, .r false [56, 57]), (10, 10, .h (some [56]) []), (10, 11, .h (some [57, 502]) [])], [9, 10]⟩) Try.func170 rfl rfl rfl (by kernel_rfl) ha (by decide) h

def q037 : CC :=
 (.seq (.reg [.o (.move 9 (sl 0)),
 .o (.call (some 10) (cf 112) [(sl 9)]),
 .o (.move 8 (sl 10)),
 .o (.extract 11 (sl 8) 0),
 .o (.extract 12 (sl 8) 1),
 .o (.alloc 2 [.v (.int .i64 0), .v (.slice none 0 0)]),
 .o (.alloc 3 [.v (.int .i64 0), .v (.slice none 0 0)]),
 .o (.store 2 (sl 2) (sl 11)),
 .o (.store 2 (sl 3) (sl 12))])
 ((.seq (.weak (.draw [19] [(kR, .o (.move 13 (sl 0))),
 (kR, .o (.nilc 14 (sl 13))),
 (kR, .o (.fld 15 0 (sl 14))),
 (kR, .o (.loadN 16 3 (sl 15))),
 (kR, .o (.loadN 17 2 (sl 2))),
 (kR, .o (.loadN 18 2 (sl 3))),
 (.c false [], .o (.call (some 19) (cf 179) [(sl 16), (sl 17), (sl 18)])),
 (kR, .o (.move 4 (sl 19)))]))
 ((.seq (.weak (.reg [.o (.move 20 (ci 0))]))
 ((.block 0 (.loop (.seq (.reg [.o (.bin 21 .lss (sl 20) (ci 2))])
 ((.seq (.cond (sl 21) .skip
 (.exit 0))
 ((.seq (.block 1 (.seq (.reg [.o (.move 22 (sl 20)),
 .o (.move 5 (sl 22))])
 ((.seq (.reg [.o (.move 23 (sl 0)),
 .o (.nilc 24 (sl 23)),
 .o (.fld 25 0 (sl 24)),
 .o (.loadN 26 3 (sl 25)),
 .o (.move 27 (sl 5)),
 .o (.call (some 28) (cf 152) [(sl 26), (sl 27)]),
 .o (.lenS 29 (sl 28)),
 .o (.move 30 (ci 0))])
 ((.block 2 (.loop (.seq (.reg [.o (.bin 31 .lss (sl 30) (sl 29))])
 ((.seq (.cond (sl 31) .skip
 (.exit 2))
 ((.seq (.block 3 (.seq (.reg [.o (.move 32 (sl 30)),
 .o (.idx 33 1 (sl 28) (sl 30)),
 .o (.load1 34 (sl 33)),
 .o (.move 6 (sl 32)),
 .o (.move 7 (sl 34))])
 ((.draw [] [(kR, .o (.move 35 (sl 0))),
 (kR, .o (.move 36 (sl 4))),
 (kR, .o (.move 37 (sl 5))),
 (kR, .o (.move 38 (sl 6))),
 (kR, .o (.move 39 (sl 7))),
 (kR, .o (.idx 40 1 (sl 39) (ci 0))),
 (kR, .o (.load1 41 (sl 40))),
 (kR, .o (.move 42 (sl 7))),
 (kR, .o (.idx 43 1 (sl 42) (ci 1))),
 (kR, .o (.load1 44 (sl 43))),
 (kH, .o (.call (some 45) (cf 210) [(sl 35), (sl 36), (sl 37), (sl 38), (sl 41), (sl 44)]))]))))
 ((.reg [.o (.bin 46 .add (sl 30) (ci 1)),
 .o (.move 30 (sl 46))]))))))))))))))
 ((.reg [.o (.bin 47 .add (sl 20) (ci 1)),
 .o (.move 20 (sl 47))])))))))))))))))
theorem q0a5 {rin : List T} {args : List A} {Q : List T -> T -> Prop} (ha : args.length <= 48) (h : cW Try.prog 48 q037 (retP Try.prog [] rin.length Q) (St.of (enum 0 args) (enum 1000000000 rin))) :
    Fun Try.prog 171 rin args Q :=
  Fun.of (H := ⟨[], [1, 2]⟩) Try.func171 rfl rfl rfl (by kernel_rfl) ha (by decide) h

def q03q : CC :=
 (.seq (.reg [.o (.alloc 4 [.v (.int .i64 0), .v (.slice none 0 0)])])
 ((.seq (.reg [.o (.move 11 (sl 0)),
 .o (.build 12 [.v (.int .i64 0), .v (.slice none 0 0)] [(0, 1), (1, 1)] [(0, (sl 11))]),
 .o (.alloc 5 [.v (.int .i64 0), .v (.slice none 0 0)]),
 .o (.store 2 (sl 5) (sl 12))])
 ((.seq (.seq (.reg [.o (.move 13 (sl 1)),
 .o (.lenS 14 (sl 13)),
 .o (.move 15 (ci 0))])
 ((.block 0 (.loop (.seq (.reg [.o (.bin 16 .lss (sl 15) (sl 14))])
 ((.seq (.cond (sl 16) .skip
 (.exit 0))
 ((.seq (.block 1 (.seq (.reg [.o (.idx 17 1 (sl 13) (sl 15)),
 .o (.load1 18 (sl 17)),
 .o (.move 7 (sl 18))])
 ((.seq (.reg [.o (.move 19 (sl 7)),
 .o (.lenS 20 (sl 19)),
 .o (.make 21 [.v (.int .i64 0)] 8 (sl 20) (sl 20)),
 .o (.move 8 (sl 21))])
 ((.seq (.seq (.reg [.o (.move 22 (sl 7)),
 .o (.lenS 23 (sl 22)),
 .o (.move 24 (ci 0))])
 ((.block 2 (.loop (.seq (.reg [.o (.bin 25 .lss (sl 24) (sl 23))])
 ((.seq (.cond (sl 25) .skip
 (.exit 2))
 ((.seq (.block 3 (.seq (.reg [.o (.move 26 (sl 24)),
 .o (.idx 27 1 (sl 22) (sl 24)),
 .o (.load1 28 (sl 27)),
 .o (.move 9 (sl 26)),
 .o (.move 10 (sl 28))])
 ((.reg [.o (.move 29 (sl 8)),
 .o (.move 30 (sl 9)),
 .o (.move 31 (sl 10)),
 .o (.mm 32 true (ci 0) (sl 31)),
 .o (.idx 33 1 (sl 29) (sl 30)),
 .o (.store 1 (sl 33) (sl 32))]))))
 ((.reg [.o (.bin 34 .add (sl 24) (ci 1)),
 .o (.move 24 (sl 34))])))))))))))
 ((.weak (.draw [38, 39] [(.r false [38, 39, 40], .o (.fld 35 1 (sl 5))),
 (.r false [38, 39, 40], .o (.load1 36 (sl 35))),
 (kE, .o (.move 37 (sl 8))),
 (.c false [], .o (.call (some 38) (cf 211) [(sl 37)])),
 (.c false [], .o (.call (some 39) (cf 193) [(sl 38)])),
 (.h (some [39]) [], .o (.bslice 40 1 1 [(0, (sl 39))])),
 (kH, .o (.app 41 1 24 (sl 36) (sl 40))),
 (kR, .o (.fld 42 1 (sl 5))),
 (kH, .o (.store 1 (sl 42) (sl 41)))])))))))))
 ((.reg [.o (.bin 43 .add (sl 15) (ci 1)),
 .o (.move 15 (sl 43))])))))))))))
 ((.seq (.reg [.o (.loadN 44 2 (sl 5)),
 .o (.store 2 (sl 4) (sl 44))])
 (.ret))))))))
theorem q0ao {rin : List T} {args : List A} {Q : List T -> T -> Prop} (ha : args.length <= 45) (h : cW Try.prog 45 q03q (retP Try.prog [.cell 4 47] rin.length Q) (St.of (enum 0 args) (enum 1000000000 rin))) :
    Fun Try.prog 174 rin args Q :=
  Fun.of (H := ⟨[(11, 0, .r false [38, 39, 40]), (11, 1, .r false [38, 39, 40]), (11, 5, .h (some [39]) [])], [11]⟩) Try.func174 rfl rfl rfl (by kernel_rfl) ha (by decide) h

def q038 : CC :=
 (.seq (.reg [.o (.move 31 (sl 0)),
 .o (.nilc 32 (sl 31)),
 .o (.fld 33 0 (sl 32)),
 .o (.fld 34 0 (sl 33)),
 .o (.fld 35 0 (sl 34)),
 .o (.load1 36 (sl 35)),
 .o (.move 37 (sl 4)),
 .o (.idx 38 5 (sl 36) (sl 37)),
 .o (.fld 39 4 (sl 38)),
 .o (.load1 40 (sl 39)),
 .o (.move 12 (sl 40))])
 ((.seq (.reg [.o (.move 13 (ci 0))])
 ((.seq (.seq (.reg [.o (.move 41 (sl 12)),
 .o (.lenS 42 (sl 41)),
 .o (.move 43 (ci 0))])
 ((.block 0 (.loop (.seq (.reg [.o (.bin 44 .lss (sl 43) (sl 42))])
 ((.seq (.cond (sl 44) .skip
 (.exit 0))
 ((.seq (.block 1 (.seq (.reg [.o (.idx 45 1 (sl 41) (sl 43)),
 .o (.load1 46 (sl 45)),
 .o (.move 15 (sl 46))])
 ((.reg [.o (.move 47 (sl 13)),
 .o (.move 48 (sl 0)),
 .o (.nilc 49 (sl 48)),
 .o (.fld 50 0 (sl 49)),
 .o (.fld 51 0 (sl 50)),
 .o (.loadN 52 1 (sl 51)),
 .o (.move 53 (sl 15)),
 .o (.call (some 54) (cf 164) [(sl 52), (sl 53)]),
 .o (.mm 55 true (sl 47) (sl 54)),
 .o (.move 13 (sl 55))]))))
 ((.reg [.o (.bin 56 .add (sl 43) (ci 1)),
 .o (.move 43 (sl 56))])))))))))))
 ((.seq (.reg [.o (.move 57 (sl 12)),
 .o (.lenS 58 (sl 57)),
 .o (.make 59 [.v (.int .i64 0)] 8 (sl 58) (sl 58)),
 .o (.move 16 (sl 59))])
 ((.seq (.seq (.reg [.o (.move 60 (sl 0)),
 .o (.nilc 61 (sl 60)),
 .o (.fld 62 0 (sl 61)),
 .o (.fld 63 1 (sl 62)),
 .o (.load1 64 (sl 63)),
 .o (.lenS 65 (sl 64)),
 .o (.move 66 (ci 0))])
 ((.block 2 (.loop (.seq (.reg [.o (.bin 67 .lss (sl 66) (sl 65))])
 ((.seq (.cond (sl 67) .skip
 (.exit 2))
 ((.seq (.block 3 (.seq (.reg [.o (.move 68 (sl 66)),
 .o (.move 17 (sl 68))])
 ((.seq (.reg [.o (.move 69 (sl 5)),
 .o (.move 70 (sl 17)),
 .o (.move 18 (sl 69)),
 .o (.move 19 (sl 70)),
 .o (.move 20 (ci 1))])
 ((.seq (.seq (.reg [.o (.move 71 (sl 2)),
 .o (.bin 72 .eql (sl 71) (ci 1))])
 ((.cond (sl 72) (.reg [.o (.move 73 (sl 17)),
 .o (.move 74 (sl 5)),
 .o (.move 18 (sl 73)),
 .o (.move 19 (sl 74)),
 .o (.move 20 (ci (-1)))])
 .skip)))
 ((.seq (.draw [] [(kE, .o (.move 75 (sl 20))),
 (.r false [94], .o (.move 76 (sl 0))),
 (.r false [94], .o (.nilc 77 (sl 76))),
 (.r false [94], .o (.fld 78 0 (sl 77))),
 (.r false [94], .o (.fld 79 1 (sl 78))),
 (.r false [94], .o (.load1 80 (sl 79))),
 (.r false [94], .o (.move 81 (sl 18))),
 (.r false [94], .o (.idx 82 1 (sl 80) (sl 81))),
 (.r false [94], .o (.load1 83 (sl 82))),
 (.r false [94], .o (.move 84 (sl 19))),
 (.r false [94], .o (.idx 85 1 (sl 83) (sl 84))),
 (.r false [94], .o (.load1 86 (sl 85))),
 (kE, .o (.bin 87 .mul (sl 75) (sl 86))),
 (kR, .o (.move 88 (sl 1))),
 (kR, .o (.move 89 (sl 4))),
 (kR, .o (.move 90 (sl 2))),
 (kR, .o (.bin 91 .sub (ci 1) (sl 90))),
 (kR, .o (.move 92 (sl 18))),
 (kR, .o (.move 93 (sl 19))),
 (.h (some []) [], .o (.call (some 94) (cf 226) [(sl 88), (sl 89), (sl 91), (sl 92), (sl 93)])),
 (kR, .o (.bin 95 .mul (sl 87) (sl 94))),
 (kR, .o (.move 21 (sl 95)))])
 ((.seq (.seq (.reg [.o (.move 96 (sl 21)),
 .o (.bin 97 .eql (sl 96) (ci 0))])
 ((.cond (sl 97) (.exit 3)
 .skip)))
 ((.seq (.reg [.o (.move 98 (sl 12)),
 .o (.lenS 99 (sl 98)),
 .o (.move 100 (ci 0))])
 ((.block 4 (.loop (.seq (.reg [.o (.bin 101 .lss (sl 100) (sl 99))])
 ((.seq (.cond (sl 101) .skip
 (.exit 4))
 ((.seq (.block 5 (.seq (.reg [.o (.move 102 (sl 100)),
 .o (.idx 103 1 (sl 98) (sl 100)),
 .o (.load1 104 (sl 103)),
 .o (.move 22 (sl 102)),
 .o (.move 23 (sl 104))])
 ((.draw [] [(.r false [115], .o (.move 105 (sl 16))),
 (.r false [115], .o (.move 106 (sl 22))),
 (.r false [115], .o (.idx 107 1 (sl 105) (sl 106))),
 (.r false [115], .o (.load1 108 (sl 107))),
 (.r false [115], .o (.move 109 (sl 21))),
 (kR, .o (.move 110 (sl 1))),
 (kR, .o (.move 111 (sl 23))),
 (kR, .o (.move 112 (sl 18))),
 (kR, .o (.move 113 (sl 19))),
 (kR, .o (.move 114 (sl 13))),
 (.h (some []) [], .o (.call (some 115) (cf 180) [(sl 110), (sl 111), (sl 112), (sl 113), (sl 114)])),
 (kR, .o (.bin 116 .mul (sl 109) (sl 115))),
 (kR, .o (.bin 117 .add (sl 108) (sl 116))),
 (kR, .o (.idx 118 1 (sl 105) (sl 106))),
 (kH, .o (.store 1 (sl 118) (sl 117)))]))))
 ((.reg [.o (.bin 119 .add (sl 100) (ci 1)),
 .o (.move 100 (sl 119))]))))))))))))))))))))))
 ((.reg [.o (.bin 120 .add (sl 66) (ci 1)),
 .o (.move 66 (sl 120))])))))))))))
 ((.seq (.reg [.o (.move 121 (sl 1)),
 .o (.move 122 (sl 2)),
 .o (.nilc 123 (sl 121)),
 .o (.fld 124 5 (sl 123)),
 .o (.idxA 125 2 1 (sl 124) (sl 122)),
 .o (.load1 126 (sl 125)),
 .o (.move 127 (sl 3)),
 .o (.idx 128 1 (sl 126) (sl 127)),
 .o (.load1 129 (sl 128)),
 .o (.move 24 (sl 129))])
 ((.seq (.reg [.o (.move 25 (ci 0))])
 ((.seq (.seq (.reg [.o (.move 130 (sl 24)),
 .o (.lenS 131 (sl 130)),
 .o (.move 132 (ci 0))])
 ((.block 6 (.loop (.seq (.reg [.o (.bin 133 .lss (sl 132) (sl 131))])
 ((.seq (.cond (sl 133) .skip
 (.exit 6))
 ((.seq (.block 7 (.seq (.reg [.o (.move 134 (sl 132)),
 .o (.idx 135 1 (sl 130) (sl 132)),
 .o (.load1 136 (sl 135)),
 .o (.move 26 (sl 134)),
 .o (.move 27 (sl 136))])
 ((.reg [.o (.move 137 (sl 25)),
 .o (.move 138 (sl 27)),
 .o (.move 139 (sl 16)),
 .o (.move 140 (sl 26)),
 .o (.idx 141 1 (sl 139) (sl 140)),
 .o (.load1 142 (sl 141)),
 .o (.bin 143 .mul (sl 138) (sl 142)),
 .o (.bin 144 .add (sl 137) (sl 143)),
 .o (.move 25 (sl 144))]))))
 ((.reg [.o (.bin 145 .add (sl 132) (ci 1)),
 .o (.move 132 (sl 145))])))))))))))
 ((.seq (.reg [.o (.move 146 (sl 1)),
 .o (.move 147 (sl 4)),
 .o (.move 148 (sl 2)),
 .o (.move 149 (sl 5)),
 .o (.move 150 (sl 5)),
 .o (.call (some 151) (cf 226) [(sl 146), (sl 147), (sl 148), (sl 149), (sl 150)]),
 .o (.move 28 (sl 151))])
 ((.seq (.reg [.o (.move 152 (sl 24)),
 .o (.lenS 153 (sl 152)),
 .o (.move 154 (ci 0))])
 ((.block 8 (.loop (.seq (.reg [.o (.bin 155 .lss (sl 154) (sl 153))])
 ((.seq (.cond (sl 155) .skip
 (.exit 8))
 ((.seq (.block 9 (.seq (.reg [.o (.move 156 (sl 154)),
 .o (.idx 157 1 (sl 152) (sl 154)),
 .o (.load1 158 (sl 157)),
 .o (.move 29 (sl 156)),
 .o (.move 30 (sl 158))])
 ((.seq (.weak (.draw [] [(kR, .o (.move 159 (sl 0))),
 (kR, .o (.move 160 (sl 2))),
 (kR, .o (.nilc 161 (sl 159))),
 (kR, .o (.fld 162 3 (sl 161))),
 (kR, .o (.idxA 163 2 1 (sl 162) (sl 160))),
 (kR, .o (.load1 164 (sl 163))),
 (kR, .o (.move 165 (sl 3))),
 (kR, .o (.idx 166 1 (sl 164) (sl 165))),
 (kR, .o (.load1 167 (sl 166))),
 (kR, .o (.move 168 (sl 29))),
 (kR, .o (.idx 169 1 (sl 167) (sl 168))),
 (kR, .o (.load1 170 (sl 169))),
 (kR, .o (.move 171 (sl 16))),
 (kR, .o (.move 172 (sl 29))),
 (kR, .o (.idx 173 1 (sl 171) (sl 172))),
 (kR, .o (.load1 174 (sl 173))),
 (kR, .o (.bin 175 .mul (ci 60) (sl 174))),
 (kR, .o (.move 176 (sl 25))),
 (kR, .o (.bin 177 .sub (sl 175) (sl 176))),
 (kR, .o (.bin 178 .add (sl 170) (sl 177))),
 (kR, .o (.idx 179 1 (sl 167) (sl 168))),
 (kH, .o (.store 1 (sl 179) (sl 178)))]))
 ((.weak (.reg [.o (.move 180 (sl 0)),
 .o (.move 181 (sl 2)),
 .o (.nilc 182 (sl 180)),
 .o (.fld 183 5 (sl 182)),
 .o (.idxA 184 2 1 (sl 183) (sl 181)),
 .o (.load1 185 (sl 184)),
 .o (.move 186 (sl 3)),
 .o (.idx 187 1 (sl 185) (sl 186)),
 .o (.load1 188 (sl 187)),
 .o (.move 189 (sl 29)),
 .o (.idx 190 1 (sl 188) (sl 189)),
 .o (.load1 191 (sl 190)),
 .o (.move 192 (sl 30)),
 .o (.move 193 (sl 28)),
 .o (.bin 194 .mul (sl 192) (sl 193)),
 .o (.bin 195 .add (sl 191) (sl 194)),
 .o (.idx 196 1 (sl 188) (sl 189)),
 .o (.store 1 (sl 196) (sl 195))])))))))
 ((.reg [.o (.bin 197 .add (sl 154) (ci 1)),
 .o (.move 154 (sl 197))])))))))))))))))))))))))))))))
theorem q0a6 {rin : List T} {args : List A} {Q : List T -> T -> Prop} (ha : args.length <= 198) (h : cW Try.prog 198 q038 (retP Try.prog [] rin.length Q) (St.of (enum 0 args) (enum 1000000000 rin))) :
    Fun Try.prog 210 rin args Q :=
  Fun.of (H := ⟨[(14, 1, .r false [94]), (14, 2, .r false [94]), (14, 3, .r false [94]), (14, 4, .r false [94]), (14, 5, .r false [94]), (14, 6, .r false [94]), (14, 7, .r false [94]), (14, 8, .r false [94]), (14, 9, .r false [94]), (14, 10, .r false [94]), (14, 11, .r false [94]), (14, 19, .h (some []) []), (19, 0, .r false [115]), (19, 1, .r false [115]), (19, 2, .r false [115]), (19, 3, .r false [115]), (19, 4, .r false [115]), (19, 10, .h (some []) [])], [33, 34]⟩) Try.func210 rfl rfl rfl (by kernel_rfl) ha (by decide) h

def runL (B : Int) (m : List (List Int)) : Prop := m.length <= 400 /\ ∀ r ∈ m, 1 <= r.length /\ r.length <= 4 /\ ∀ x ∈ r, -B <= x /\ x <= B
theorem q0m9 {g : Gm} (hg : q0fl g = true) {pl B : Int} (hpl : pl = 0 ∨ pl = 1) {m : List (List Int)} (h : okM g pl B m) : runL B m := by
  have hs := q15m hg pl
  refine ⟨by rw [h.1]; omega, fun r hr => ?_⟩
  obtain ⟨i, hi⟩ := List.mem_iff_getElem?.1 hr
  have hil := (List.getElem?_eq_some_iff.1 hi).1
  obtain ⟨b1, b2⟩ := q0ri hg hpl (i := i) (by rw [← h.1]; exact hil)
  obtain ⟨c1, c2⟩ := h.2 i r hi
  exact ⟨by omega, by omega, c2⟩
theorem q0tj {m : List (List Int)} {i : Nat} {r : List Int} (h : m[i]? = some r) : (stM m).take (i + 1) = (stM m).take i ++ [rowP r] := q0uj (q15n h)
theorem q0oa {r : List Int} {k : Nat} {x : Int} (h : r[k]? = some x) : (posL r).take (k + 1) = (posL r).take k ++ [max 0 x] := q0uj (by simp [posL, h])
theorem q0o9 (r : List Int) : (posL r).length = r.length := by simp [posL]
section
attribute [-go_sem] q0i5 q0id fldC lenC idxC q0ip q0lp
theorem q0t0 (pl : Int) (m : List (List Int)) {B : Int} (h : runL B m) (hB : B < 9223372036854775808) : Fun Try.prog 111 [] [.t (.i pl), .t (.sh 1 (m.map ints))] fun o r => o = [] /\ r = .agg [.i pl, .arr 1 ((stM m).map intsO)] := by
  obtain ⟨hm, hr0⟩ := h
  refine q0cd (by simp) ?_
  simp -implicitDefEqProofs only [go_sem, evR, ints, rows, rat, rats, q05f]
  refine SemC.loopR (σ := Nat) (fun i => St.of [(0, .t (.i pl)), (1, .t (rows m)), (4, .own 4), (5, .own 95), (6, .t (.i i))] [(4, .box [.i 0, .v (.slice none 0 0)]), (95, q0qa ((stM m).take i))]) (fun i => i <= m.length) (fun i => m.length - i) 0 (Weak.of _ _ [some 4, some 9] (by simp) (by simp) ?_ ?_) (by omega) fun i hi R hn hr he => ?_
  · simp -implicitDefEqProofs only [ints, rows, Nat.reduceBEq, wkR, Nat.reduceEqDiff, ↓reduceIte, wrR]
  · exact ⟨⟨_, rfl, .refl _⟩, rfl, ⟨_, rfl, .refl _⟩, rfl, trivial⟩
  rcases Nat.lt_or_ge i m.length with h9 | h9
  · obtain ⟨r, hrr⟩ : ∃ r, m[i]? = some r := ⟨_, List.getElem?_eq_getElem h9⟩
    obtain ⟨r1, r2, r3⟩ := hr0 r (List.mem_of_getElem? hrr)
    have hlt : ((stM m).take i).length = i := by rw [List.length_take, q15o]; omega
    simp -implicitDefEqProofs only [go_sem, evR, ints, rows, rat, rats, q0qa, hrr, decide_eq_true (show (i : Int) < (m.length : Int) by omega)]
    refine SemC.loopR (σ := Nat) (fun k => St.of [(0, .t (.i pl)), (1, .t (rows m)), (4, .own 4), (5, .own 95), (6, .t (.i i)), (7, .own 97), (8, .t (.i k))] [(4, .box [.i 0, .v (.slice none 0 0)]), (95, q0qa ((stM m).take i)), (97, intsO ((posL r).take k))]) (fun k => k <= r.length) (fun k => r.length - k) 0 (Weak.of _ _ [some 4, some 95, some 16] (by simp) (by simp) ?_ ?_) (by omega) fun k hk R2 hn2 hr2 he2 => ?_
    · simp -implicitDefEqProofs only [ints, rows, Nat.reduceBEq, wkR, Nat.reduceEqDiff, ↓reduceIte, wrR]
    · exact ⟨⟨_, rfl, .refl _⟩, rfl, ⟨_, rfl, .refl _⟩, rfl, ⟨_, rfl, .refl _⟩, rfl, trivial⟩
    rcases Nat.lt_or_ge k r.length with h8 | h8
    · obtain ⟨x, hx⟩ : ∃ x, r[k]? = some x := ⟨_, List.getElem?_eq_getElem h8⟩
      have hlk : ((posL r).take k).length = k := by rw [List.length_take, q0o9]; omega
      simp -implicitDefEqProofs only [go_sem, evR, ints, rows, rat, rats, q0qa, intsO, hrr, hx, decide_eq_true (show (k : Int) < (r.length : Int) by omega)]
      repeat (first | refine ⟨by omega, ?_⟩ | refine ⟨by rw [q0l0]; omega, ?_⟩)
      refine hn2 _ (k + 1) (Weak.of _ _ [some 4, some 95, some 36] (by simp) (by simp) ?_ ?_) (by omega) (by omega)
      · simp -implicitDefEqProofs only [ints, rows, Nat.reduceBEq, wkR, Nat.reduceEqDiff, ↓reduceIte, wrR, q0lb h8 (by omega)]
      · refine ⟨⟨_, rfl, .refl _⟩, rfl, ⟨_, rfl, .refl _⟩, rfl, ⟨_, rfl, ?_⟩, rfl, trivial⟩
        rw [q0oa hx, intsO, List.map_append]; exact .refl _
    · have hlk : (posL r).take k = posL r := List.take_of_length_le (by rw [q0o9]; omega)
      simp -implicitDefEqProofs only [go_sem, evR, ints, rows, rat, rats, q0qa, intsO, hrr, hlk, decide_eq_false (show ¬ (k : Int) < (r.length : Int) by omega)]
      repeat (first | refine ⟨by omega, ?_⟩ | refine ⟨by rw [q0l0]; omega, ?_⟩)
      refine he2 _ _ ?_
      simp -implicitDefEqProofs only [go_sem, evR, ints, rows, rat, rats]
      have hpo := q155 r3 hB
      have hq := q0sw (posL r) (by rw [q0o9]; omega) hpo
      simp only [ints, intsO] at hq
      refine q006.res hq [97] rfl Try.call173 ?_ (.inr (q0fh _)) ?_
      · simp -implicitDefEqProofs only [agR, Nat.reduceLeDiff, Nat.reduceSub, vaR, go_sem, ints, rows, rat, rats, q0p1, rtR, intsO, q0qa]
      simp -implicitDefEqProofs only [clR, Nat.reduceLeDiff, go_sem, evR, rat]
      have hq := q0si (hvd 34 (posL r)) (q15h r3 hB r1 r2)
      simp only [ints, intsO] at hq
      refine q006.res hq [39] rfl Try.call172 ?_ (.inr (q0fh _)) ?_
      · simp -implicitDefEqProofs only [agR, Nat.reduceLeDiff, Nat.reduceSub, vaR, go_sem, ints, rows, rat, rats, q0p1, rtR, intsO, q0qa]
      simp -implicitDefEqProofs only [clR, Nat.reduceLeDiff, go_sem, evR, rat]
      repeat (first | refine ⟨by omega, ?_⟩ | refine ⟨by rw [q0l0]; omega, ?_⟩)
      refine hn _ (i + 1) (Weak.of _ _ [some 4, some 42] (by simp) (by simp) ?_ ?_) (by omega) (by omega)
      · simp -implicitDefEqProofs only [ints, rows, Nat.reduceBEq, wkR, Nat.reduceEqDiff, ↓reduceIte, wrR, q0lb h9 (by omega)]
      · refine ⟨⟨_, rfl, .refl _⟩, rfl, ⟨_, rfl, ?_⟩, rfl, trivial⟩
        rw [q0tj hrr, q0qa, List.map_append]; exact .refl _
  · simp -implicitDefEqProofs only [go_sem, evR, ints, rows, rat, rats, q0qa, decide_eq_false (show ¬ (i : Int) < (m.length : Int) by omega)]
    refine he _ _ ?_
    simp -implicitDefEqProofs only [go_sem, evR, ints, rows, rat, rats, q0qa]
    rw [List.take_of_length_le (by rw [q15o]; exact h9)]
theorem q0f0 (pl : Int) (m : List (List Int)) {B : Int} (h : runL B m) (hB : B < 9223372036854775808) : Fun Try.prog 174 [] [.t (.i pl), .t (.sh 1 (m.map ints))] fun o r => o = [] /\ r = .agg [.i pl, .arr 1 ((stM m).map intsO)] := by
  obtain ⟨hm, hr0⟩ := h
  refine q0ao (by simp) ?_
  simp -implicitDefEqProofs only [go_sem, evR, ints, rows, rat, rats, q03q, opR, Nat.reduceBEq]
  refine SemC.loopR (σ := Nat) (fun i => St.of [(4, .own 4), (5, .own 5), (13, .t (rows m)), (14, .t (.i m.length)), (15, .t (.i i))] [(4, .box [.i 0, .v (.slice none 0 0)]), (5, .box [.i pl, q0qa ((stM m).take i)])]) (fun i => i <= m.length) (fun i => m.length - i) 0 (Weak.of _ _ [some 4, some 5] (by simp) (by simp) ?_ ?_) (by omega) fun i hi R hn hr he => ?_
  · simp -implicitDefEqProofs only [ints, rows, Nat.reduceBEq, wkR, Nat.reduceEqDiff, ↓reduceIte, wrR]
  · exact ⟨⟨_, rfl, .refl _⟩, rfl, ⟨_, rfl, .box rfl fun j h1 h2 => (match j, h1 with | 0, _ => .refl _ | 1, _ => .nilArr _)⟩, rfl, trivial⟩
  rcases Nat.lt_or_ge i m.length with h9 | h9
  · obtain ⟨r, hrr⟩ : ∃ r, m[i]? = some r := ⟨_, List.getElem?_eq_getElem h9⟩
    obtain ⟨r1, r2, r3⟩ := hr0 r (List.mem_of_getElem? hrr)
    have hlt : ((stM m).take i).length = i := by rw [List.length_take, q15o]; omega
    have hpz : (posL r).length = (List.replicate r.length (0 : Int)).length := by rw [q0o9, List.length_replicate]
    simp -implicitDefEqProofs only [go_sem, evR, ints, rows, rat, rats, q0qa, hrr, decide_eq_true (show (i : Int) < (m.length : Int) by omega), q0jc]
    repeat (first | refine ⟨by omega, ?_⟩ | refine ⟨by rw [q0l0]; omega, ?_⟩)
    refine SemC.loopR (σ := Nat) (fun k => St.of [(4, .own 4), (5, .own 5), (8, .own 97), (13, .t (rows m)), (14, .t (.i m.length)), (15, .t (.i i)), (22, .t (ints r)), (23, .t (.i r.length)), (24, .t (.i k))] [(4, .box [.i 0, .v (.slice none 0 0)]), (5, .box [.i pl, q0qa ((stM m).take i)]), (97, intsO (mixL (posL r) (List.replicate r.length 0) k))]) (fun k => k <= r.length) (fun k => r.length - k) 0 (Weak.of _ _ [some 4, some 5, some 21] (by simp) (by simp) ?_ ?_) (by omega) fun k hk R2 hn2 hr2 he2 => ?_
    · simp -implicitDefEqProofs only [ints, rows, Nat.reduceBEq, wkR, Nat.reduceEqDiff, ↓reduceIte, wrR]
    · refine ⟨⟨_, rfl, .refl _⟩, rfl, ⟨_, rfl, .refl _⟩, rfl, ⟨_, rfl, ?_⟩, rfl, trivial⟩
      rw [q14w, intsO, List.map_replicate]; exact .refl _
    rcases Nat.lt_or_ge k r.length with h8 | h8
    · obtain ⟨x, hx⟩ : ∃ x, r[k]? = some x := ⟨_, List.getElem?_eq_getElem h8⟩
      have hlk : (mixL (posL r) (List.replicate r.length 0) k).length = r.length := by rw [q14u hpz (by simpa using hk), List.length_replicate]
      simp -implicitDefEqProofs only [go_sem, evR, ints, rows, rat, rats, q0qa, intsO, hx, hlk, decide_eq_true (show (k : Int) < (r.length : Int) by omega)]
      repeat (first | refine ⟨by omega, ?_⟩ | refine ⟨by rw [q0l0]; omega, ?_⟩)
      refine hn2 _ (k + 1) (Weak.of _ _ [some 4, some 5, some 97] (by simp) (by simp) ?_ ?_) (by omega) (by omega)
      · simp -implicitDefEqProofs only [ints, rows, Nat.reduceBEq, wkR, Nat.reduceEqDiff, ↓reduceIte, wrR, q0lb h8 (by omega)]
      · refine ⟨⟨_, rfl, .refl _⟩, rfl, ⟨_, rfl, .refl _⟩, rfl, ⟨_, rfl, ?_⟩, rfl, trivial⟩
        rw [← q14v hpz (show (posL r)[k]? = some (max 0 x) by simp [posL, hx]), intsO, List.map_set]; exact .refl _
    · have hkl : k = r.length := by omega
      have hall := q14s hpz
      rw [List.length_replicate] at hall
      subst hkl
      rw [hall]
      simp -implicitDefEqProofs only [go_sem, evR, ints, rows, rat, rats, q0qa, intsO, decide_eq_false (show ¬ (r.length : Int) < (r.length : Int) by omega)]
      refine he2 _ _ ?_
      simp -implicitDefEqProofs only [go_sem, evR, ints, rows, rat, rats]
      refine ⟨_, Weak.open 5 1 501 rfl rfl rfl (by decide) rfl, ?_⟩
      simp -implicitDefEqProofs only [go_sem, evR, ints, rows, rat, rats, q0qa, intsO]
      repeat (first | refine ⟨by omega, ?_⟩ | refine ⟨by rw [q0l0]; omega, ?_⟩)
      have hpo := q155 r3 hB
      have hq := q0em (posL r) (by intro e; have := congrArg List.length e; rw [q0o9, List.length_nil] at this; omega) (by rw [q0o9]; omega) hpo
      simp only [ints, intsO] at hq
      refine q000.res hq [97] rfl Try.call211 (fun e R' hR => ?_) (.inr (q0fh _)) ?_
      · have hq97 := (hR 97).resolve_left (by simp -implicitDefEqProofs only [go_sem, evR, ints, rows, rat, rats, not_false_eq_true])
        simp -implicitDefEqProofs only [go_sem, evR, ints, rows, rat, rats] at hq97
        simp -implicitDefEqProofs only [agR, Nat.reduceLeDiff, Nat.reduceSub, vaR, go_sem, ints, rows, rat, rats, q0p1, rtR, intsO, q0qa, hq97]
      simp -implicitDefEqProofs only [clR, Nat.reduceLeDiff, go_sem, evR, rat]
      have hq := q0ev (hvd 34 (posL r)) (q15h r3 hB r1 r2)
      simp only [ints, intsO] at hq
      refine q000.res hq [38] rfl Try.call193 (fun e R' hR => ?_) (.inr (q0fh _)) ?_
      · have hq38 := (hR 38).resolve_left (by simp -implicitDefEqProofs only [go_sem, evR, ints, rows, rat, rats, not_false_eq_true])
        simp -implicitDefEqProofs only [go_sem, evR, ints, rows, rat, rats] at hq38
        simp -implicitDefEqProofs only [agR, Nat.reduceLeDiff, Nat.reduceSub, vaR, go_sem, ints, rows, rat, rats, q0p1, rtR, intsO, q0qa, hq38]
      simp -implicitDefEqProofs only [clR, Nat.reduceLeDiff, go_sem, evR, rat, opR, Nat.reduceBEq]
      refine ⟨⟨by omega, hn _ (i + 1) (Weak.of _ _ [some 4, some 5] (by simp) (by simp) ?_ ?_) (by omega) (by omega)⟩, ((q09v.refl _ _ _).upd _ (.inl (by simp))).upd _ (.inr rfl)⟩
      · simp -implicitDefEqProofs only [ints, rows, Nat.reduceBEq, wkR, Nat.reduceEqDiff, ↓reduceIte, wrR, q0lb h9 (by omega)]
      · refine ⟨⟨_, rfl, .refl _⟩, rfl, ⟨_, rfl, ?_⟩, rfl, trivial⟩
        rw [q0tj hrr, q0qa, List.map_append]; exact .refl _
  · simp -implicitDefEqProofs only [go_sem, evR, ints, rows, rat, rats, q0qa, decide_eq_false (show ¬ (i : Int) < (m.length : Int) by omega), opR, Nat.reduceBEq]
    refine he _ _ ?_
    simp -implicitDefEqProofs only [go_sem, evR, ints, rows, rat, rats, q0qa, opR, Nat.reduceBEq]
    rw [List.take_of_length_le (by rw [q15o]; exact h9)]
end
def ssB (g : Gm) (x : RS) : T := .box [nodes g.nd, rows g.w, rows g.v, .arr 1 [q0qa x.r0, q0qa x.r1], .arr 1 [q0qa x.s0, q0qa x.s1]]
def rsB (g : Gm) (x : RS) : T := .box [nodes g.nd, rows g.w, rows g.v, q0qa x.r0, q0qa x.r1, q0qa x.s0, q0qa x.s1]
def ssC (g : Gm) : Nat -> T
  | 0 => .v (.slice none 0 0)
  | 1 => .arr 1 [q0qa (q15z g 0)]
  | _ => .arr 1 [q0qa (q15z g 0), q0qa (q15z g 1)]
theorem q0y1 {g : Gm} {pl : Int} {i : Nat} (h : i < (sets g pl).length) : (q15z g pl).take (i + 1) = (q15z g pl).take i ++ [List.replicate (q0rh g pl i) 0] := q0uj (by simp [q15z, h])
theorem q0y0 (g : Gm) (pl : Int) : (q15z g pl).length = (sets g pl).length := by simp [q15z]
def rrC (g : Gm) (p : Int) (b : Bool) : T := if b = true then q0qa (q15z g p) else .v (.slice none 0 0)
section
attribute [-go_sem] q0i5 q0id fldC lenC idxC q0ip q0lp
theorem q0sx (g : Gm) (hg : q0fl g = true) : Fun Try.prog 168 [] [.t (.agg [.sh 5 (chunk q0lu g.nd), .sh 1 (g.w.map ints), .sh 1 (g.v.map ints)])] fun o r => o = [] /\ r = ssB g (q15i g 0) := by
  obtain ⟨p1, p2, p3, p4, p5⟩ := q0fn hg
  obtain ⟨t1, t2, t3, t4⟩ := q0g0 p1
  have w1 : IntKind.i64.wrap 1 = 1 := rfl
  have w2' : IntKind.i64.wrap (1 + 1) = 2 := rfl
  refine q0ca (by simp) ?_
  simp -implicitDefEqProofs only [go_sem, evR, ints, rows, rat, rats, q05c, opR, Nat.reduceBEq]
  refine SemC.loopR (σ := Nat) (fun q => St.of [(1, .own 1), (3, .own 111), (4, .t (.i q))] [(1, .box [nodes g.nd, rows g.w, rows g.v]), (111, .box [nodes g.nd, rows g.w, rows g.v, ssC g q, ssC g q])]) (fun q => q <= 2) (fun q => 2 - q) 0 (Weak.of _ _ [some 1, some 11] (by simp) (by simp) ?_ ?_) (by omega) fun q hq R hn hr he => ?_
  · simp -implicitDefEqProofs only [ints, rows, Nat.reduceBEq, wkR, Nat.reduceEqDiff, ↓reduceIte, wrR, nodes]
  · exact ⟨⟨_, rfl, .refl _⟩, rfl, ⟨_, rfl, .refl _⟩, rfl, trivial⟩
  · match q, hq with
    | 0, _ =>
      have hsl := q15m hg 0
      simp -implicitDefEqProofs only [go_sem, evR, ints, rows, rat, rats, ssC, nodes, q0qa, decide_eq_true (show (0 : Int) < 2 by omega), Int.natCast_zero, Int.cast_ofNat_Int, opR, Nat.reduceBEq]
      have hp := q0sj g 0 t1.2 p2.2
      simp only [intsO] at hp
      refine q006.res hp [] rfl Try.call196 ?_ (.inl rfl) ?_
      · simp -implicitDefEqProofs only [agR, Nat.reduceLeDiff, Nat.reduceSub, vaR, go_sem, ints, rows, rat, rats, q0p1, rtR, intsO, q0qa]
      simp -implicitDefEqProofs only [clR, Nat.reduceLeDiff, go_sem, evR, rat]
      refine SemC.loopR (σ := Nat) (fun i => St.of [(1, .own 1), (3, .own 111), (4, .t (.i 0)), (5, .t (ints (q0rk g 0))), (6, .own 96), (7, .own 97), (8, .t (.i i))] [(1, .box [nodes g.nd, rows g.w, rows g.v]), (111, .box [nodes g.nd, rows g.w, rows g.v, ssC g 0, ssC g 0]), (96, q0qa ((q15z g 0).take i)), (97, q0qa ((q15z g 0).take i))]) (fun i => i <= (sets g 0).length) (fun i => (sets g 0).length - i) 0 (Weak.trans (Weak.share 18 rfl) (Weak.of _ _ [some 1, some 111, some 19, some 20] (by simp) (by simp) ?_ ?_)) (by simp) fun i hi R2 hn2 hr2 he2 => ?_
      · simp -implicitDefEqProofs only [ints, rows, Nat.reduceBEq, wkR, Nat.reduceEqDiff, ↓reduceIte, wrR, q0rg, T.toSh, q0vf, nodes]
      · exact ⟨⟨_, rfl, .refl _⟩, rfl, ⟨_, rfl, .refl _⟩, rfl, ⟨_, rfl, .refl _⟩, rfl, ⟨_, rfl, .refl _⟩, rfl, trivial⟩
      rcases Nat.lt_or_ge i (sets g 0).length with h9 | h9
      · obtain ⟨b1, b2⟩ := q0ri hg ((.inl rfl) : (0 : Int) = 0 ∨ (0 : Int) = 1) h9
        have hlt : ((q15z g 0).take i).length = i := by rw [List.length_take, q0y0]; omega
        simp -implicitDefEqProofs only [go_sem, evR, ints, rows, rat, rats, nodes, q0qa, q0rm, q0rl h9, decide_eq_true (show (i : Int) < ((sets g 0).length : Int) by omega), q0jc]
        repeat (first | refine ⟨by omega, ?_⟩ | refine ⟨by rw [q0l0]; omega, ?_⟩)
        refine hn2 _ (i + 1) (Weak.of _ _ [some 1, some 111, some 34, some 42] (by simp) (by simp) ?_ ?_) (by omega) (by omega)
        · simp -implicitDefEqProofs only [ints, rows, Nat.reduceBEq, wkR, Nat.reduceEqDiff, ↓reduceIte, wrR, nodes, q0lb h9 (by omega)]
        · refine ⟨⟨_, rfl, .refl _⟩, rfl, ⟨_, rfl, .refl _⟩, rfl, ⟨_, rfl, ?_⟩, rfl, ⟨_, rfl, ?_⟩, rfl, trivial⟩
          · rw [q0y1 h9, q0qa, List.map_append, List.map_cons, List.map_nil, intsO, List.map_replicate]; exact .refl _
          · rw [q0y1 h9, q0qa, List.map_append, List.map_cons, List.map_nil, intsO, List.map_replicate]; exact .refl _
      · have hil : i = (sets g 0).length := by omega
        have hta : (q15z g 0).take i = q15z g 0 := List.take_of_length_le (by rw [q0y0]; omega)
        simp -implicitDefEqProofs only [go_sem, evR, ints, rows, rat, rats, nodes, q0qa, hta, q0rm, decide_eq_false (show ¬ (i : Int) < ((sets g 0).length : Int) by omega)]
        refine he2 _ _ ?_
        simp -implicitDefEqProofs only [go_sem, evR, ints, rows, rat, rats, ssC, q0qa, opR, Nat.reduceBEq]
        repeat (first | refine ⟨by omega, ?_⟩ | refine ⟨by rw [q0l0]; omega, ?_⟩)
        refine hn _ 1 (Weak.of _ _ [some 1, some 111] (by simp) (by simp) ?_ ?_) (by omega) (by omega)
        · simp -implicitDefEqProofs only [ints, rows, Nat.reduceBEq, wkR, Nat.reduceEqDiff, ↓reduceIte, wrR, nodes, Int.zero_add, w1]
        · exact ⟨⟨_, rfl, .refl _⟩, rfl, ⟨_, rfl, .refl _⟩, rfl, trivial⟩
    | 1, _ =>
      have hsl := q15m hg 1
      simp -implicitDefEqProofs only [go_sem, evR, ints, rows, rat, rats, ssC, nodes, q0qa, decide_eq_true (show (1 : Int) < 2 by omega), Int.natCast_zero, Int.cast_ofNat_Int, opR, Nat.reduceBEq]
      have hp := q0sj g 1 t1.2 p2.2
      simp only [intsO] at hp
      refine q006.res hp [] rfl Try.call196 ?_ (.inl rfl) ?_
      · simp -implicitDefEqProofs only [agR, Nat.reduceLeDiff, Nat.reduceSub, vaR, go_sem, ints, rows, rat, rats, q0p1, rtR, intsO, q0qa]
      simp -implicitDefEqProofs only [clR, Nat.reduceLeDiff, go_sem, evR, rat]
      refine SemC.loopR (σ := Nat) (fun i => St.of [(1, .own 1), (3, .own 111), (4, .t (.i 1)), (5, .t (ints (q0rk g 1))), (6, .own 96), (7, .own 97), (8, .t (.i i))] [(1, .box [nodes g.nd, rows g.w, rows g.v]), (111, .box [nodes g.nd, rows g.w, rows g.v, ssC g 1, ssC g 1]), (96, q0qa ((q15z g 1).take i)), (97, q0qa ((q15z g 1).take i))]) (fun i => i <= (sets g 1).length) (fun i => (sets g 1).length - i) 0 (Weak.trans (Weak.share 18 rfl) (Weak.of _ _ [some 1, some 111, some 19, some 20] (by simp) (by simp) ?_ ?_)) (by simp) fun i hi R2 hn2 hr2 he2 => ?_
      · simp -implicitDefEqProofs only [ints, rows, Nat.reduceBEq, wkR, Nat.reduceEqDiff, ↓reduceIte, wrR, q0rg, T.toSh, q0vf, nodes]
      · exact ⟨⟨_, rfl, .refl _⟩, rfl, ⟨_, rfl, .refl _⟩, rfl, ⟨_, rfl, .refl _⟩, rfl, ⟨_, rfl, .refl _⟩, rfl, trivial⟩
      rcases Nat.lt_or_ge i (sets g 1).length with h9 | h9
      · obtain ⟨b1, b2⟩ := q0ri hg ((.inr rfl) : (1 : Int) = 0 ∨ (1 : Int) = 1) h9
        have hlt : ((q15z g 1).take i).length = i := by rw [List.length_take, q0y0]; omega
        simp -implicitDefEqProofs only [go_sem, evR, ints, rows, rat, rats, nodes, q0qa, q0rm, q0rl h9, decide_eq_true (show (i : Int) < ((sets g 1).length : Int) by omega), q0jc]
        repeat (first | refine ⟨by omega, ?_⟩ | refine ⟨by rw [q0l0]; omega, ?_⟩)
        refine hn2 _ (i + 1) (Weak.of _ _ [some 1, some 111, some 34, some 42] (by simp) (by simp) ?_ ?_) (by omega) (by omega)
        · simp -implicitDefEqProofs only [ints, rows, Nat.reduceBEq, wkR, Nat.reduceEqDiff, ↓reduceIte, wrR, nodes, q0lb h9 (by omega)]
        · refine ⟨⟨_, rfl, .refl _⟩, rfl, ⟨_, rfl, .refl _⟩, rfl, ⟨_, rfl, ?_⟩, rfl, ⟨_, rfl, ?_⟩, rfl, trivial⟩
          · rw [q0y1 h9, q0qa, List.map_append, List.map_cons, List.map_nil, intsO, List.map_replicate]; exact .refl _
          · rw [q0y1 h9, q0qa, List.map_append, List.map_cons, List.map_nil, intsO, List.map_replicate]; exact .refl _
      · have hil : i = (sets g 1).length := by omega
        have hta : (q15z g 1).take i = q15z g 1 := List.take_of_length_le (by rw [q0y0]; omega)
        simp -implicitDefEqProofs only [go_sem, evR, ints, rows, rat, rats, nodes, q0qa, hta, q0rm, decide_eq_false (show ¬ (i : Int) < ((sets g 1).length : Int) by omega)]
        refine he2 _ _ ?_
        simp -implicitDefEqProofs only [go_sem, evR, ints, rows, rat, rats, ssC, q0qa, opR, Nat.reduceBEq]
        repeat (first | refine ⟨by omega, ?_⟩ | refine ⟨by rw [q0l0]; omega, ?_⟩)
        refine hn _ 2 (Weak.of _ _ [some 1, some 111] (by simp) (by simp) ?_ ?_) (by omega) (by omega)
        · simp -implicitDefEqProofs only [ints, rows, Nat.reduceBEq, wkR, Nat.reduceEqDiff, ↓reduceIte, wrR, nodes, w2']
        · exact ⟨⟨_, rfl, .refl _⟩, rfl, ⟨_, rfl, .refl _⟩, rfl, trivial⟩
    | 2, _ =>
      simp -implicitDefEqProofs only [go_sem, evR, ints, rows, rat, rats, ssC, nodes, q0qa, decide_eq_false (show ¬ (2 : Int) < 2 by omega), Int.natCast_zero, Int.cast_ofNat_Int]
      refine he _ _ ?_
      simp -implicitDefEqProofs only [go_sem, evR, ints, rows, rat, rats, ssC, ssB, q15i, nodes, q0qa]
theorem q0er (g : Gm) (hg : q0fl g = true) : Fun Try.prog 170 [] [.t (.agg [.sh 5 (chunk q0lu g.nd), .sh 1 (g.w.map ints), .sh 1 (g.v.map ints)])] fun o r => o = [] /\ r = rsB g (q15i g 0) := by
  obtain ⟨p1, p2, p3, p4, p5⟩ := q0fn hg
  obtain ⟨t1, t2, t3, t4⟩ := q0g0 p1
  have w1 : IntKind.i64.wrap 1 = 1 := rfl
  have w2' : IntKind.i64.wrap (1 + 1) = 2 := rfl
  refine q0aj (by simp) ?_
  simp -implicitDefEqProofs only [go_sem, evR, ints, rows, rat, rats, q03l, opR, Nat.reduceBEq]
  refine SemC.loopR (σ := Nat) (fun q => St.of [(1, .own 1), (3, .own 111), (11, .t (.i q))] [(1, .box [nodes g.nd, rows g.w, rows g.v]), (111, .box [nodes g.nd, rows g.w, rows g.v, rrC g 0 (decide (0 < q)), rrC g 1 (decide (1 < q)), rrC g 0 (decide (0 < q)), rrC g 1 (decide (1 < q))])]) (fun q => q <= 2) (fun q => 2 - q) 0 (Weak.of _ _ [some 1, some 10] (by simp) (by simp) ?_ ?_) (by omega) fun q hq R hn hr he => ?_
  · simp -implicitDefEqProofs only [ints, rows, Nat.reduceBEq, wkR, Nat.reduceEqDiff, ↓reduceIte, wrR, nodes]
  · exact ⟨⟨_, rfl, .refl _⟩, rfl, ⟨_, rfl, .refl _⟩, rfl, trivial⟩
  · match q, hq with
    | 0, _ =>
      have hsl := q15m hg 0
      simp -implicitDefEqProofs only [go_sem, evR, ints, rows, rat, rats, rrC, nodes, q0qa, decide_eq_true (show (0 : Int) < 2 by omega), Nat.lt_irrefl, Nat.zero_lt_one, decide_true, decide_false, Bool.false_eq_true, Int.natCast_zero, Int.cast_ofNat_Int, opR, Nat.reduceBEq]
      have hp := q0fd g 0 t1.2 p2.2
      simp only [q0qa] at hp
      refine q006.res hp [] rfl Try.call152 ?_ (.inl rfl) ?_
      · simp -implicitDefEqProofs only [agR, Nat.reduceLeDiff, Nat.reduceSub, vaR, go_sem, ints, rows, rat, rats, q0p1, rtR, intsO, q0qa]
      simp -implicitDefEqProofs only [clR, Nat.reduceLeDiff, go_sem, evR, rat]
      refine SemC.loopR (σ := Nat) (fun i => St.of [(1, .own 1), (3, .own 111), (4, .t (.i 0)), (11, .t (.i 0)), (16, .t (rows (sets g 0))), (17, .t (.i (sets g 0).length)), (18, .t (.i i))] [(1, .box [nodes g.nd, rows g.w, rows g.v]), (111, .box [nodes g.nd, rows g.w, rows g.v, q0qa ((q15z g 0).take i), .v (.slice none 0 0), q0qa ((q15z g 0).take i), .v (.slice none 0 0)])]) (fun i => i <= (sets g 0).length) (fun i => (sets g 0).length - i) 0 (Weak.trans (Weak.share 16 rfl) (Weak.of _ _ [some 1, some 111] (by simp) (by simp) ?_ ?_)) (by simp) fun i hi R2 hn2 hr2 he2 => ?_
      · simp -implicitDefEqProofs only [ints, rows, Nat.reduceBEq, wkR, Nat.reduceEqDiff, ↓reduceIte, wrR, q0rg, T.toSh, q0vg, nodes]
      · exact ⟨⟨_, rfl, .refl _⟩, rfl, ⟨_, rfl, .box rfl fun j h1 h2 => (match j, h1 with | 0, _ => .refl _ | 1, _ => .refl _ | 2, _ => .refl _ | 3, _ => .nilArr _ | 4, _ => .refl _ | 5, _ => .nilArr _ | 6, _ => .refl _)⟩, rfl, trivial⟩
      rcases Nat.lt_or_ge i (sets g 0).length with h9 | h9
      · obtain ⟨b1, b2⟩ := q0ri hg ((.inl rfl) : (0 : Int) = 0 ∨ (0 : Int) = 1) h9
        obtain ⟨a1, a2, a3, a4, a5, a6⟩ := q15l h9
        obtain ⟨x, hx⟩ : ∃ x, g.nd[setN g 0 i]? = some x := ⟨_, List.getElem?_eq_getElem a2⟩
        have hxd : g.nd.getD (setN g 0 i) nd0 = x := by rw [List.getD_eq_getElem?_getD, hx]; rfl
        rw [hxd] at a5
        have hlt : ((q15z g 0).take i).length = i := by rw [List.length_take, q0y0]; omega
        simp -implicitDefEqProofs only [go_sem, evR, ints, rows, rat, rats, nodes, q0qa, a1, q0kz hx, ← a5, decide_eq_true (show (i : Int) < ((sets g 0).length : Int) by omega), List.getElem?_cons_zero, List.getElem?_cons_succ]
        repeat (first | refine ⟨by omega, ?_⟩ | refine ⟨by rw [q0l0]; omega, ?_⟩)
        refine ⟨_, Weak.open 111 3 501 rfl rfl rfl (by decide) rfl, ?_⟩
        simp -implicitDefEqProofs only [go_sem, evR, ints, rows, rat, rats, q0qa, q0jc, opR, Nat.reduceBEq]
        repeat (first | refine ⟨by omega, ?_⟩ | refine ⟨by rw [q0l0]; omega, ?_⟩)
        refine ⟨⟨by omega, ⟨by decide, ?_⟩, (((q09v.refl _ _ _).upd _ (.inl (by simp))).upd _ (.inl (by simp))).upd _ (.inr rfl)⟩, ((q09v.refl _ _ _).upd _ (.inl (by simp))).upd _ (.inr rfl)⟩
        refine ⟨_, Weak.open 111 5 502 rfl rfl rfl (by decide) rfl, ?_⟩
        simp -implicitDefEqProofs only [go_sem, evR, ints, rows, rat, rats, q0qa, q0jc, opR, Nat.reduceBEq]
        repeat (first | refine ⟨by omega, ?_⟩ | refine ⟨by rw [q0l0]; omega, ?_⟩)
        refine ⟨⟨by omega, ⟨by decide, ?_⟩, (((q09v.refl _ _ _).upd _ (.inl (by simp))).upd _ (.inl (by simp))).upd _ (.inr rfl)⟩, ((q09v.refl _ _ _).upd _ (.inl (by simp))).upd _ (.inr rfl)⟩
        refine hn2 _ (i + 1) (Weak.of _ _ [some 1, some 111] (by simp) (by simp) ?_ ?_) (by omega) (by omega)
        · simp -implicitDefEqProofs only [ints, rows, Nat.reduceBEq, wkR, Nat.reduceEqDiff, ↓reduceIte, wrR, nodes, q0lb h9 (by omega)]
        · refine ⟨⟨_, rfl, .refl _⟩, rfl, ⟨_, rfl, ?_⟩, rfl, trivial⟩
          simp only [q0y1 h9, q0qa, List.map_append, List.map_cons, List.map_nil, intsO, List.map_replicate]; exact .refl _
      · have hil : i = (sets g 0).length := by omega
        have hta : (q15z g 0).take i = q15z g 0 := List.take_of_length_le (by rw [q0y0]; omega)
        simp -implicitDefEqProofs only [go_sem, evR, ints, rows, rat, rats, nodes, q0qa, hta, decide_eq_false (show ¬ (i : Int) < ((sets g 0).length : Int) by omega)]
        refine he2 _ _ ?_
        simp -implicitDefEqProofs only [go_sem, evR, ints, rows, rat, rats]
        refine hn _ 1 (Weak.of _ _ [some 1, some 111] (by simp) (by simp) ?_ ?_) (by omega) (by omega)
        · simp -implicitDefEqProofs only [ints, rows, Nat.reduceBEq, wkR, Nat.reduceEqDiff, ↓reduceIte, wrR, nodes, Int.zero_add, w1]
        · exact ⟨⟨_, rfl, .refl _⟩, rfl, ⟨_, rfl, .refl _⟩, rfl, trivial⟩
    | 1, _ =>
      have hsl := q15m hg 1
      simp -implicitDefEqProofs only [go_sem, evR, ints, rows, rat, rats, rrC, nodes, q0qa, decide_eq_true (show (1 : Int) < 2 by omega), Nat.lt_irrefl, Nat.zero_lt_one, decide_true, decide_false, Bool.false_eq_true, Int.natCast_zero, Int.cast_ofNat_Int, opR, Nat.reduceBEq]
      have hp := q0fd g 1 t1.2 p2.2
      simp only [q0qa] at hp
      refine q006.res hp [] rfl Try.call152 ?_ (.inl rfl) ?_
      · simp -implicitDefEqProofs only [agR, Nat.reduceLeDiff, Nat.reduceSub, vaR, go_sem, ints, rows, rat, rats, q0p1, rtR, intsO, q0qa]
      simp -implicitDefEqProofs only [clR, Nat.reduceLeDiff, go_sem, evR, rat]
      refine SemC.loopR (σ := Nat) (fun i => St.of [(1, .own 1), (3, .own 111), (4, .t (.i 1)), (11, .t (.i 1)), (16, .t (rows (sets g 1))), (17, .t (.i (sets g 1).length)), (18, .t (.i i))] [(1, .box [nodes g.nd, rows g.w, rows g.v]), (111, .box [nodes g.nd, rows g.w, rows g.v, q0qa (q15z g 0), q0qa ((q15z g 1).take i), q0qa (q15z g 0), q0qa ((q15z g 1).take i)])]) (fun i => i <= (sets g 1).length) (fun i => (sets g 1).length - i) 0 (Weak.trans (Weak.share 16 rfl) (Weak.of _ _ [some 1, some 111] (by simp) (by simp) ?_ ?_)) (by simp) fun i hi R2 hn2 hr2 he2 => ?_
      · simp -implicitDefEqProofs only [ints, rows, Nat.reduceBEq, wkR, Nat.reduceEqDiff, ↓reduceIte, wrR, q0rg, T.toSh, q0vg, nodes]
      · exact ⟨⟨_, rfl, .refl _⟩, rfl, ⟨_, rfl, .box rfl fun j h1 h2 => (match j, h1 with | 0, _ => .refl _ | 1, _ => .refl _ | 2, _ => .refl _ | 3, _ => .refl _ | 4, _ => .nilArr _ | 5, _ => .refl _ | 6, _ => .nilArr _)⟩, rfl, trivial⟩
      rcases Nat.lt_or_ge i (sets g 1).length with h9 | h9
      · obtain ⟨b1, b2⟩ := q0ri hg ((.inr rfl) : (1 : Int) = 0 ∨ (1 : Int) = 1) h9
        obtain ⟨a1, a2, a3, a4, a5, a6⟩ := q15l h9
        obtain ⟨x, hx⟩ : ∃ x, g.nd[setN g 1 i]? = some x := ⟨_, List.getElem?_eq_getElem a2⟩
        have hxd : g.nd.getD (setN g 1 i) nd0 = x := by rw [List.getD_eq_getElem?_getD, hx]; rfl
        rw [hxd] at a5
        have hlt : ((q15z g 1).take i).length = i := by rw [List.length_take, q0y0]; omega
        simp -implicitDefEqProofs only [go_sem, evR, ints, rows, rat, rats, nodes, q0qa, a1, q0kz hx, ← a5, decide_eq_true (show (i : Int) < ((sets g 1).length : Int) by omega), List.getElem?_cons_zero, List.getElem?_cons_succ]
        repeat (first | refine ⟨by omega, ?_⟩ | refine ⟨by rw [q0l0]; omega, ?_⟩)
        refine ⟨_, Weak.open 111 4 501 rfl rfl rfl (by decide) rfl, ?_⟩
        simp -implicitDefEqProofs only [go_sem, evR, ints, rows, rat, rats, q0qa, q0jc, opR, Nat.reduceBEq]
        repeat (first | refine ⟨by omega, ?_⟩ | refine ⟨by rw [q0l0]; omega, ?_⟩)
        refine ⟨⟨by omega, ⟨by decide, ?_⟩, (((q09v.refl _ _ _).upd _ (.inl (by simp))).upd _ (.inl (by simp))).upd _ (.inr rfl)⟩, ((q09v.refl _ _ _).upd _ (.inl (by simp))).upd _ (.inr rfl)⟩
        refine ⟨_, Weak.open 111 6 502 rfl rfl rfl (by decide) rfl, ?_⟩
        simp -implicitDefEqProofs only [go_sem, evR, ints, rows, rat, rats, q0qa, q0jc, opR, Nat.reduceBEq]
        repeat (first | refine ⟨by omega, ?_⟩ | refine ⟨by rw [q0l0]; omega, ?_⟩)
        refine ⟨⟨by omega, ⟨by decide, ?_⟩, (((q09v.refl _ _ _).upd _ (.inl (by simp))).upd _ (.inl (by simp))).upd _ (.inr rfl)⟩, ((q09v.refl _ _ _).upd _ (.inl (by simp))).upd _ (.inr rfl)⟩
        refine hn2 _ (i + 1) (Weak.of _ _ [some 1, some 111] (by simp) (by simp) ?_ ?_) (by omega) (by omega)
        · simp -implicitDefEqProofs only [ints, rows, Nat.reduceBEq, wkR, Nat.reduceEqDiff, ↓reduceIte, wrR, nodes, q0lb h9 (by omega)]
        · refine ⟨⟨_, rfl, .refl _⟩, rfl, ⟨_, rfl, ?_⟩, rfl, trivial⟩
          simp only [q0y1 h9, q0qa, List.map_append, List.map_cons, List.map_nil, intsO, List.map_replicate]; exact .refl _
      · have hil : i = (sets g 1).length := by omega
        have hta : (q15z g 1).take i = q15z g 1 := List.take_of_length_le (by rw [q0y0]; omega)
        simp -implicitDefEqProofs only [go_sem, evR, ints, rows, rat, rats, nodes, q0qa, hta, decide_eq_false (show ¬ (i : Int) < ((sets g 1).length : Int) by omega)]
        refine he2 _ _ ?_
        simp -implicitDefEqProofs only [go_sem, evR, ints, rows, rat, rats]
        refine hn _ 2 (Weak.of _ _ [some 1, some 111] (by simp) (by simp) ?_ ?_) (by omega) (by omega)
        · simp -implicitDefEqProofs only [ints, rows, Nat.reduceBEq, wkR, Nat.reduceEqDiff, ↓reduceIte, wrR, nodes, w2']
        · exact ⟨⟨_, rfl, .refl _⟩, rfl, ⟨_, rfl, .refl _⟩, rfl, trivial⟩
    | 2, _ =>
      simp -implicitDefEqProofs only [go_sem, evR, ints, rows, rat, rats, rrC, nodes, q0qa, decide_eq_false (show ¬ (2 : Int) < 2 by omega), Int.natCast_zero, Int.cast_ofNat_Int]
      refine he _ _ ?_
      simp -implicitDefEqProofs only [go_sem, evR, ints, rows, rat, rats, rrC, rsB, q15i, nodes, q0qa]
end
end Go.Ab
