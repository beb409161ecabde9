/- All parts of a pot are given out on every board, and whole and shared wins are told by them: the law FnParts returns true for every list of bytes. No conditions. -/
import Derived.Test.YtjeefbiiagflhaaRows
import Derived.Test.YtjeefbiiagflhaaQ7
set_option linter.unusedSimpArgs false
set_option linter.unusedVariables false
set_option maxRecDepth 20000
/- Contracts: drawn deals, as the laws draw them. -/
namespace Go.Ab
open Go.Proofs
section
attribute [-go_sem] q0i5 q0id fldC lenC idxC q0ip cW.eq_10
theorem q1tl (cs : List Int) (hc : q161 cs) (hl : cs.length <= 100000000000) : Fun Try.prog 27 [] [.t (bytes cs)] fun o r => ∃ x : Int × (List (List Int) × List Int), o = [] /\ r = .tup [.i x.1, rows x.2.1, ints x.2.2] /\ ((x.2.1.length <= 3 /\ ∀ r ∈ x.2.1, r.length <= 4) /\ x.2.2.length <= 5) := by
  refine q1su (by simp) ?_
  simp -implicitDefEqProofs only [eR', go_sem, q1s9]
  refine q006.res (q11z cs hc (by omega)) [] rfl Try.call44 ?_ (.inl rfl) ?_
  . simp -implicitDefEqProofs only [aR', go_sem]
  simp -implicitDefEqProofs only [cR', go_sem, srcT]
  have hs0 := q11l (cs.take 64)
  generalize q0za (cs.take 64) = sd at hs0 ⊢
  refine q006.exi (q1tu cs hc hl (0, sd) hs0) [11] [] rfl Try.call43 (by simp) ?_ (by simp) ?_ (.inl rfl) (fun x hx => ?_)
  . simp -implicitDefEqProofs only [sR', Nat.reduceEqDiff, ↓reduceIte]
  . simp -implicitDefEqProofs only [aR', go_sem]
  simp -implicitDefEqProofs only [cR', go_sem, q1sl, rows, ints]
  obtain ⟨⟨⟨v, m⟩, B, D⟩, u⟩ := x
  obtain ⟨⟨h1, h2, h3, h4⟩, _⟩ := hx
  (try simp only [] at h1 h2 h3 h4)
  (try simp only [])
  refine ⟨fun h5 => ⟨fun h6 => ?_, fun h6 => ?_⟩, fun h5 => ?_⟩
  rotate_left
  rotate_right
  . have h5 : (B.length : Int) = 4 := by simpa using h5
    obtain ⟨c0, hc0⟩ : ∃ c, D[0]? = some c := ⟨_, List.getElem?_eq_getElem (by omega)⟩
    refine q000.res (q0s5 B (by omega)) [] rfl Try.call53 (fun e R' hR => ?_) (.inl rfl) ?_
    . simp -implicitDefEqProofs only [aR', go_sem]
    simp -implicitDefEqProofs only [cR', go_sem, hc0, intsO]
    refine ⟨by omega, by omega, by omega, ?_⟩
    refine q1s2 (Weak.trans (Weak.share 31 rfl) (Weak.o [(5, .t (.i v)), (6, .t (rows m)), (7, .t (ints (B ++ [c0])))] [] [] ?_ trivial)) ?_
    . have hst : B.map T.i ++ [T.i c0] = (B ++ [c0]).map T.i := by rw [List.map_append]; rfl
      simp -implicitDefEqProofs only [wR', Nat.reduceBEq, Nat.reduceEqDiff, ↓reduceIte, q0rg, hst, T.toSh, q0vf]
    simp -implicitDefEqProofs only [eR', go_sem]
    exact ⟨(v, m, B ++ [c0]), rfl, h2, by simp only [List.length_append, List.length_cons, List.length_nil]; omega⟩
  all_goals
    refine q1s2 (Weak.refl _ _) ?_
    simp -implicitDefEqProofs only [eR', go_sem]
    exact ⟨(v, m, B), rfl, h2, h3⟩
theorem q1tt (cs : List Int) (hc : q161 cs) (hl : cs.length <= 100000000000) : Fun Try.prog 60 [] [.t (bytes cs)] fun o r => ∃ x : ((Int × List (List Int)) × (List Int × List Int)) × Int, o = [] /\ r = .tup [.i x.1.1.1, rows x.1.1.2, ints x.1.2.1, ints x.1.2.2, .i x.2] /\ q1tj x.1 := by
  refine q1t0 (by simp) ?_
  simp -implicitDefEqProofs only [eR', go_sem, q1sf]
  refine q006.res (q11z cs hc (by omega)) [] rfl Try.call44 ?_ (.inl rfl) ?_
  . simp -implicitDefEqProofs only [aR', go_sem]
  simp -implicitDefEqProofs only [cR', go_sem, srcT]
  have hs0 := q11l (cs.take 64)
  generalize q0za (cs.take 64) = sd at hs0 ⊢
  refine q006.exi (q1tu cs hc hl (0, sd) hs0) [13] [] rfl Try.call43 (by simp) ?_ (by simp) ?_ (.inl rfl) (fun x hx => ?_)
  . simp -implicitDefEqProofs only [sR', Nat.reduceEqDiff, ↓reduceIte]
  . simp -implicitDefEqProofs only [aR', go_sem]
  simp -implicitDefEqProofs only [cR', go_sem, q1sl, rows, ints]
  obtain ⟨x, a⟩ := x
  obtain ⟨hx, hs1⟩ := hx
  (try simp only [] at hx hs1)
  (try simp only [])
  refine q006.ref (q10p cs hc hl a hs1 3 (by omega)) [13] [] rfl Try.call73 (by simp) ?_ (by simp) ?_ (.inl rfl) ?_
  . simp -implicitDefEqProofs only [sR', Nat.reduceEqDiff, ↓reduceIte]
  . simp -implicitDefEqProofs only [aR', go_sem]
  simp -implicitDefEqProofs only [cR', go_sem]
  have hs2 := q10o (cs := cs) hl hs1 3
  generalize q10m cs a 3 = z at hs2 ⊢
  obtain ⟨y, b⟩ := z
  simp only [] at hs2 ⊢
  refine q006.ref (q10p cs hc hl b hs2 16 (by omega)) [13] [] rfl Try.call73 (by simp) ?_ (by simp) ?_ (.inl rfl) ?_
  . simp -implicitDefEqProofs only [sR', Nat.reduceEqDiff, ↓reduceIte]
  . simp -implicitDefEqProofs only [aR', go_sem]
  simp -implicitDefEqProofs only [cR', go_sem]
  exact ⟨by decide, (x, _), rfl, hx⟩
theorem q1tm (cs : List Int) (hc : q161 cs) (hl : cs.length <= 100000000000) : Fun Try.prog 30 [] [.t (bytes cs)] fun o r => ∃ x : ((Int × List (List Int)) × (List Int × List Int)) × Int, o = [] /\ r = .tup [.i x.1.1.1, rows x.1.1.2, ints x.1.2.1, ints x.1.2.2, .i x.2] /\ q1tj x.1 := by
  refine q1sv (by simp) ?_
  simp -implicitDefEqProofs only [eR', go_sem, q1sa]
  refine q006.exi (q1tt cs hc hl) [] [] rfl Try.call60 (by simp) ?_ (by simp) ?_ (.inl rfl) (fun x hx => ?_)
  . simp -implicitDefEqProofs only [sR', Nat.reduceEqDiff, ↓reduceIte]
  . simp -implicitDefEqProofs only [aR', go_sem]
  simp -implicitDefEqProofs only [cR', go_sem, rows, ints]
  exact ⟨x, rfl, hx⟩
end

theorem q10g (cs : List Int) : Pure Try.prog 18 [bytes cs] (.b (decide ((cs.length : Int) > 4096))) := by
  refine q0zf (by simp) ?_
  simp -implicitDefEqProofs only [eR', go_sem, q0ya, bytes]
theorem q10h (a b : List Int) (ha : a.length <= 1000000000000) (hb : b.length <= 1000000000000) : Pure Try.prog 35 [ints a, ints b] (.b (decide (a = b))) := by
  refine q0zg (by simp) ?_
  simp -implicitDefEqProofs only [q0yb, ints, go_sem]
  refine ⟨fun h => ?_, fun h => ?_⟩
  . have : a ≠ b := by rintro rfl; simp at h
    simp [this]
  . have hab : a.length = b.length := by simp at h; omega
    refine SemC.loopR (σ := Nat) (fun i => St.of [(0, .t (ints a)), (1, .t (ints b)), (5, .t (.i i))] []) (fun i => i <= a.length /\ ∀ j, j < i -> a[j]? = b[j]?) (fun i => a.length - i) 0 (Weak.o _ [] [] ?_ trivial) ⟨by simp, fun j hj => by omega⟩ fun i hI R hn hr he => ?_
    . simp -implicitDefEqProofs only [ints, wkR, Nat.reduceEqDiff, ↓reduceIte]
    . simp -implicitDefEqProofs only [ints, go_sem, q0ve]
      refine ⟨fun h => ⟨by omega, by omega, by omega, fun c x hx hc => ⟨by omega, by omega, by omega, fun c' y hy hc' => ?_⟩⟩, fun h => he _ _ ?_⟩
      . subst hc hc'
        simp -implicitDefEqProofs only [go_sem]
        refine ⟨fun h1 => hr _ ?_, fun h1 => hn _ (i + 1) (Weak.o _ [] [] ?_ trivial) ⟨by omega, fun j hj => ?_⟩ (by omega)⟩
        . simp -implicitDefEqProofs only [go_sem]
          have : a ≠ b := by rintro rfl; rw [hx] at hy; cases hy; simp at h1
          simp [this]
        . simp -implicitDefEqProofs only [ints, wkR, Nat.reduceEqDiff, ↓reduceIte, q0lb (by omega : i < a.length) ha]
        . rcases Nat.lt_or_ge j i with h | h
          . exact hI.2 j h
          . have : j = i := by omega
            subst this
            rw [hx, hy]; simpa using h1
      . simp -implicitDefEqProofs only [go_sem]
        have : a = b := by
          refine List.ext_getElem? fun j => ?_
          rcases Nat.lt_or_ge j i with h | h
          . exact hI.2 j h
          . rw [List.getElem?_eq_none (by omega), List.getElem?_eq_none (by omega)]
        simp [this]
theorem q1t9 (l : List Int) (h : q0rv l) : Pure Try.prog 36 [ints l] (.i l.sum) := by
  have hl := h.1
  refine q18q (by simp) ?_
  simp -implicitDefEqProofs only [eR', go_sem, q18g]
  refine SemC.loopR (σ := Nat) (fun i => St.of [(0, .t (ints l)), (3, .t (.i (l.take i).sum)), (4, .t (.i i))] []) (fun i => i <= l.length) (fun i => l.length - i) 0 (Weak.o _ [] [] ?_ trivial) (by omega) fun i hi R hn hr he => ?_
  . simp -implicitDefEqProofs only [wR', Nat.reduceBEq, Nat.reduceEqDiff, ↓reduceIte, List.take_zero, List.sum_nil]
  . simp -implicitDefEqProofs only [eR', go_sem]
    refine ⟨fun h1 => ⟨by omega, by omega, by omega, fun x hx => ?_⟩, fun h1 => he _ _ ?_⟩
    . have e := q0ud (l.take i) x
      rw [← q0uj hx] at e
      have hb := q0rw h (i + 1)
      refine hn _ (i + 1) (Weak.o _ [] [] ?_ trivial) (by omega) (by omega)
      simp -implicitDefEqProofs only [wR', Nat.reduceBEq, Nat.reduceEqDiff, ↓reduceIte, q0lb (by omega : i < l.length) (by omega), ← e, wrap64 (n := (l.take (i + 1)).sum) (by omega) (by omega)]
    . simp -implicitDefEqProofs only [eR', go_sem]
      rw [List.take_of_length_le (by omega)]
section
attribute [-go_sem] q0i5 q0id fldC lenC idxC q0ip
theorem q1td (v : Int) (holes : List (List Int)) (board : List Int) : (q1tc v holes board).1.length <= 4 /\ q0rv (q1tc v holes board).1 /\ ((q1tc v holes board).2 = 0 -> (q1tc v holes board).1.sum = 24) := by
  unfold q1tc
  by_cases h1 : q1eb v holes board [] = false
  . rw [if_pos h1]; exact ⟨by simp, ⟨by simp, by simp⟩, fun h => by simp at h⟩
  . rw [if_neg h1]
    by_cases h5 : board.length = 5
    . rw [if_pos h5]
      obtain ⟨k, rfl, hk, hp⟩ := q1sm (by simpa using h1)
      rw [Int.toNat_natCast]
      have hl := q1ow k holes board
      have hb : ∀ x ∈ q1o6 k holes board, 0 <= x /\ x <= 48 := q19z _ _ _
      have h4 := hp.2.1
      exact ⟨by simp only [hl]; exact h4, ⟨by simp only []; omega, fun x hx => by have := hb x hx; omega⟩, fun _ => q1tg hk (by have := hp.1; omega) h4 h5 fun x hx => (q1sk hp h5 x hx).2⟩
    . rw [if_neg h5]; exact ⟨by simp, ⟨by simp, by simp⟩, fun h => by simp at h⟩
theorem q1u6 (v : Int) (holes : List (List Int)) (board dead : List Int) (pl : Int) : 0 <= (q1u5 v holes board dead pl).1 /\ 0 <= (q1u5 v holes board dead pl).2.1 /\ (q1u5 v holes board dead pl).1 + (q1u5 v holes board dead pl).2.1 <= 60000 /\ ((q1u5 v holes board dead pl).2.2 = 0 -> (q1u5 v holes board dead pl).1 + (q1u5 v holes board dead pl).2.1 <= (q1sj v holes board dead).1) := by
  unfold q1u5 q1sj
  by_cases h1 : q1eb v holes board dead = false
  . rw [if_pos h1, if_pos h1]; simp
  . rw [if_neg h1, if_neg h1]
    by_cases h2 : 0 <= pl /\ pl <= (holes.length : Int) - 1
    . rw [if_pos h2]
      obtain ⟨k, rfl, hk, hp⟩ := q1sm (by simpa using h1)
      have hfew := q1al (holes := holes) (dead := dead) hp.2.2.1
      have := q1u3 (k : Int).toNat holes (q1ak holes board dead) pl.toNat (q1ak holes board dead).length
      simp only []
      omega
    . rw [if_neg h2]; simp
theorem q1t8 (cs : List Int) (hc : q161 cs) (hl : cs.length <= 9223372036854775807) : Pure Try.prog 5 [bytes cs] (.b true) := by
  refine q1ss (by simp) ?_
  simp -implicitDefEqProofs only [eR', go_sem, q1s7]
  refine q006.p (q10g cs) [] rfl Try.call18 ?_ ?_
  . simp -implicitDefEqProofs only [aR', go_sem]
  simp -implicitDefEqProofs only [eR', go_sem]
  refine ⟨fun _ => trivial, fun hbg => ?_⟩
  have hl : cs.length <= 100000000000 := by simp at hbg; omega
  refine q006.exi (q1tl cs hc hl) [] [] rfl Try.call27 (by simp) ?_ (by simp) ?_ (.inl rfl) (fun x hx => ?_)
  . simp -implicitDefEqProofs only [sR', Nat.reduceEqDiff, ↓reduceIte]
  . simp -implicitDefEqProofs only [aR', go_sem]
  simp -implicitDefEqProofs only [cR', go_sem, rows, ints]
  obtain ⟨v, m, B⟩ := x
  obtain ⟨⟨hm1, hm2⟩, hB⟩ := hx
  (try simp only [] at hm1 hm2 hB)
  (try simp only [])
  have hmf := Nat.le_trans (q1sn hm2) (Nat.mul_le_mul_right 4 hm1)
  have hpi := q1t5 v m B (by omega) (by omega) (by omega)
  have hps := q1tp v m B (by omega) (by omega) (by omega)
  obtain ⟨hf1, hf2, hf3⟩ := q1td v m B
  generalize q1tc v m B = pr at hpi hps hf1 hf2 hf3
  obtain ⟨pl, pc⟩ := pr
  simp only [paO] at hpi hps hf1 hf2 hf3
  refine q006.res hpi [] rfl Try.call28 ?_ (.inl rfl) ?_
  . simp -implicitDefEqProofs only [aR', go_sem]
  simp -implicitDefEqProofs only [cR', go_sem]
  refine q006.res hps [] rfl Try.call29 ?_ (.inl rfl) ?_
  . simp -implicitDefEqProofs only [aR', go_sem]
  simp -implicitDefEqProofs only [cR', go_sem]
  refine q006.exi (q1tm cs hc hl) [] [] rfl Try.call30 (by simp) ?_ (by simp) ?_ (.inl rfl) (fun y hy => ?_)
  . simp -implicitDefEqProofs only [sR', Nat.reduceEqDiff, ↓reduceIte]
  . simp -implicitDefEqProofs only [aR', go_sem]
  simp -implicitDefEqProofs only [cR', go_sem, rows, ints]
  obtain ⟨⟨⟨v2, m2⟩, B2, D2⟩, q⟩ := y
  obtain ⟨h1, ⟨h2, h2'⟩, h3, h4⟩ := hy
  (try simp only [] at h1 h2 h2' h3 h4)
  (try simp only [])
  have hmf2 := Nat.le_trans (q1sn h2') (Nat.mul_le_mul_right 4 h2)
  have hwi := q1t6 v2 m2 B2 D2 q (by omega) (by omega) (by omega) (by omega)
  have hws := q1tq v2 m2 B2 D2 q (by omega) (by omega) (by omega) (by omega)
  have hci := q1t3 v2 m2 B2 D2 (by omega) (by omega) (by omega) (by omega)
  have hcs := q1tk v2 m2 B2 D2 (by omega) (by omega) (by omega) (by omega)
  obtain ⟨w1, w2, w3, w4⟩ := q1u6 v2 m2 B2 D2 q
  generalize q1u5 v2 m2 B2 D2 q = wr at hwi hws w1 w2 w3 w4
  generalize q1sj v2 m2 B2 D2 = cb at hci hcs w4
  obtain ⟨wa, wb, wc⟩ := wr
  obtain ⟨ca, cc⟩ := cb
  simp only [] at hwi hws w1 w2 w3 w4 hci hcs
  refine q006.p hwi [] rfl Try.call31 ?_ ?_
  . simp -implicitDefEqProofs only [aR', go_sem]
  simp -implicitDefEqProofs only [eR', go_sem]
  refine q006.p hws [] rfl Try.call32 ?_ ?_
  . simp -implicitDefEqProofs only [aR', go_sem]
  simp -implicitDefEqProofs only [eR', go_sem]
  refine q006.p hci [] rfl Try.call33 ?_ ?_
  . simp -implicitDefEqProofs only [aR', go_sem]
  simp -implicitDefEqProofs only [eR', go_sem]
  refine q006.p hcs [] rfl Try.call34 ?_ ?_
  . simp -implicitDefEqProofs only [aR', go_sem]
  simp -implicitDefEqProofs only [eR', go_sem]
  have hlk := q10h pl pl (by omega) (by omega)
  refine q006.p hlk [37, 44] rfl Try.call35 ?_ ?_
  . simp -implicitDefEqProofs only [aR', go_sem]
  simp -implicitDefEqProofs only [eR', go_sem]
  have hw : IntKind.i64.wrap (wa + wb) = wa + wb := wrap64 (by omega) (by omega)
  have hsm := q1t9 pl hf2
  refine ⟨fun h => ⟨fun h5 => absurd h5 (by rw [hw]; have := w4 (by simpa using h); (try simp only [] at this); omega), fun _ => ⟨fun h6 => ?_, fun _ => trivial⟩⟩, fun h => ⟨fun h6 => ?_, fun _ => trivial⟩⟩
  all_goals
    rw [hf3 (by simpa using h6)] at hsm
    refine q006.p hsm [37] rfl Try.call36 ?_ ?_
    . simp -implicitDefEqProofs only [aR', go_sem]
    simp -implicitDefEqProofs only [eR', go_sem]
    try rfl
end
end Go.Ab

namespace Go.Proofs.Ytjeefbiiagflhaa
open Go.ChangeShapes Go.WideShapes Go.ChangeAt Go.RowKit Go.Ab

namespace fnParts
theorem said : ∀ xs, wtL [q168] xs -> Pure Try.prog 5 xs (.b true)
  | [x], h => by
    obtain ⟨cs, rfl, hl, hc⟩ := q169 h.1
    exact q1t8 cs hc (by omega)
  | [], h => h.elim
  | _ :: _ :: _, h => h.2.elim

set_option maxRecDepth 100000 in
theorem lifted (os : Os) (started : os.Started) (H : Type) (enc : TypeId × Value -> H) :
    ReturnsInHanded {} Try.checked os 5 .any (Rows.fnPartsSpec.pre6 enc Try.prog Try.f5 Rows.fnPartsRow.domain false) (Rows.fnPartsSpec.post enc Try.prog Try.f5 false true false false) := by
  refine returnsInHanded_of_change (C := Try.checked) (by kernel_rfl) started (by kernel_rfl) Try.func5
    (ChangeSpec.witness6 (enc := enc) (C := Try.checked) false ⟨#[], #[.slice none 0 0], []⟩ 8 (by kernel_rfl) (by kernel_rfl) (by kernel_rfl) (by kernel_rfl)) ?_
  intro W base args ds gs before hval hW _ _
  refine q0hc (tys := [q168]) (by kernel_rfl) (by kernel_rfl) rfl (by kernel_rfl) rfl (fun ds h => ?_) said W base args ds gs before hval hW
  match ds, h with
  | [d0], _ => rfl

theorem andT {a b : Bool} (ha : a = true) (hb : b = true) : (a && b) = true := by rw [ha, hb]; rfl
theorem q0g8 : ((Rows.fnPartsRow.wf (OpenSpec.ofChange Rows.fnPartsSpec))) = true := by kernel_rfl
theorem q0g9 : (laidOutB Try.prog) = true := Try.laidOutT
theorem q0gk : (mapsRowed Try.prog) = true := Try.mapsRowedT
theorem q0gv : (Try.f5.params.all (Try.prog.readableRec ·)) = true := by kernel_rfl
theorem q0gy : (namedTie Try.prog Rows.fnPartsRow.named Rows.fnPartsSpec.vars) = true := by kernel_rfl
theorem q0gz : ((Rows.fnPartsRow.stops == [])) = true := by kernel_rfl
theorem q0h0 : ((Try.prog.stops == [])) = true := by kernel_rfl
theorem q0h1 : ((Rows.fnPartsRow.knobs == [])) = true := by kernel_rfl
theorem q0h2 : ((Try.prog.stopKnobs == [])) = true := by kernel_rfl
theorem q0h3 : ((Rows.fnPartsRow.inPlace == Try.prog.inPlace 5)) = true := by kernel_rfl
theorem q0ga : ((Rows.fnPartsRow.unfollowed == Try.prog.unfollowed 5)) = true := by kernel_rfl
theorem q0gb : ((Rows.fnPartsRow.recurses == Try.prog.recurses 5)) = true := by kernel_rfl
theorem q0gc : ((Rows.fnPartsRow.named == Try.prog.varsNamed 5)) = true := by kernel_rfl
theorem q0gd : ((Rows.fnPartsRow.maps == (Try.f5.params.toList ++ Rows.fnPartsSpec.plain.varTypes Try.prog).any (Try.prog.mapsRec ·))) = true := by kernel_rfl
theorem q0ge : ((Rows.fnPartsRow.ifaces == (Try.f5.params.toList ++ Rows.fnPartsSpec.plain.varTypes Try.prog).any (Try.prog.ifacesRec ·))) = true := by kernel_rfl
theorem q0gf : ((Rows.fnPartsRow.mapsOut == Try.prog.mapsAmong Try.f5.resultTypes.toList)) = true := by kernel_rfl
theorem q0gg : ((Rows.fnPartsRow.loops == (Try.f5.params.toList ++ Rows.fnPartsSpec.plain.varTypes Try.prog).any (Try.prog.loopsFrom ·))) = true := by kernel_rfl
theorem q0gh : ((Rows.fnPartsRow.wideKeys == (Try.f5.params.toList ++ Rows.fnPartsSpec.plain.varTypes Try.prog ++ Try.f5.resultTypes.toList).any (Try.prog.wideKeysFrom ·))) = true := by kernel_rfl
theorem q0gi : (Rows.fnPartsSpec.vars.all (Try.prog.varReadable ·)) = true := by kernel_rfl
theorem q0gj : (Try.f5.resultTypes.all (fun t => Try.prog.readableRec t && decide (t < Try.prog.types.size))) = true := by kernel_rfl
theorem q0gl : ((Rows.fnPartsRow.ifacesOut == Try.f5.resultTypes.toList.any (Try.prog.ifacesRec ·))) = true := by kernel_rfl
theorem q0gm : ((Rows.fnPartsRow.loopsOut == Try.f5.resultTypes.toList.any (Try.prog.loopsFrom ·))) = true := by kernel_rfl
theorem q0gn : ((Rows.fnPartsRow.plainKeys == Try.prog.plainKeys)) = true := by kernel_rfl
theorem q0go : (Rows.fnPartsRow.shortTexts.isNone) = true := by kernel_rfl
theorem q0gp : (Try.prog.stopsHeard) = true := Try.heardT
theorem q0gq : (Try.prog.mayEnter) = true := Try.mayEnterT
theorem q0gr : ((Rows.fnPartsRow.lifted == Try.prog.liftsFinal)) = true := (by rw [Try.liftsF]; rfl)
theorem q0gs : ((Try.prog.make == some Rows.fnPartsRow.make)) = true := (by rw [Try.makeC]; rfl)
theorem q0gt : ((Rows.fnPartsRow.kinds == (if Rows.fnPartsRow.domain.isEmpty then [] else Try.f5.params.toList.map fun t => match Try.prog.underlying t with | some (.int k) => some k | _ => none))) = true := by kernel_rfl
theorem q0gu : ((Rows.fnPartsRow.pinned == Rows.fnPartsRow.pinnedBy)) = true := by kernel_rfl
theorem q0gw : ((Rows.fnPartsRow.veiled == (Try.f5.params.toList ++ Rows.fnPartsSpec.plain.varTypes Try.prog ++ Try.f5.resultTypes.toList).any (Try.prog.veiledRec ·))) = true := by kernel_rfl
theorem q0gx : (Rows.fnPartsRow.veiledFits Try.prog Try.f5.params.toList (Try.f5.params.toList ++ Rows.fnPartsSpec.plain.varTypes Try.prog ++ Try.f5.resultTypes.toList)) = true := by kernel_rfl
set_option maxRecDepth 100000 in
theorem joined : joinedFacts Try.prog 5 Try.f5 Rows.fnPartsSpec Rows.fnPartsRow = true := by
  unfold joinedFacts
  exact andT (andT (andT (andT (andT (andT (andT (andT (andT (andT (andT (andT (andT (andT (andT (andT (andT (andT (andT (andT (andT (andT (andT (andT (andT (andT (andT (andT (andT (andT (andT (q0g8) q0g9) q0gk) q0gv) q0gy) q0gz) q0h0) q0h1) q0h2) q0h3) q0ga) q0gb) q0gc) q0gd) q0ge) q0gf) q0gg) q0gh) q0gi) q0gj) q0gl) q0gm) q0gn) q0go) q0gp) q0gq) q0gr) q0gs) q0gt) q0gu) q0gw) q0gx
theorem over : Rows.fnPartsRow.holds Try.pinned (OpenSpec.ofChange Rows.fnPartsSpec) :=
  OpenClaim.holds_of_wide 5 Try.f5 rfl rfl rfl rfl rfl rfl rfl ⟨rfl, rfl, rfl, rfl, rfl⟩ rfl rfl rfl rfl rfl (by kernel_rfl) Try.func5 joined
    (of_decide_eq_true (by kernel_rfl)) (by unfold Func.isWrapper; first | (rw [if_pos (by decide +kernel)]; kernel_rfl) | (rw [if_neg (by decide +kernel)]; exact ⟨rfl, rfl⟩))
    (fun os started H enc _ => lifted os started H enc)
end fnParts

theorem fnParts_holds : Rows.FnPartsSaid := fnParts.over
#print axioms fnParts_holds
end Go.Proofs.Ytjeefbiiagflhaa
