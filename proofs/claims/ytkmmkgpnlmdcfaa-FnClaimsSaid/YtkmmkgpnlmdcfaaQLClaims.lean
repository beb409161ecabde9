/- Two proved claims never contradict one another, and joined claims are proved: the law FnClaims returns true for every list of bytes. No conditions. -/
import Derived.Test.YtkmmkgpnlmdcfaaRows
import Derived.Test.YtkmmkgpnlmdcfaaQ6
/- Functions in compact form, with hints. -/
set_option linter.unusedVariables false
namespace Go.Ab
open Go.Proofs

def c_spec_DrawJoinClaims_h : CC :=
 (.seq (.reg [.o (.alloc 2 [.v (.slice none 0 0), .v (.slice none 0 0), .v (.slice none 0 0)]),
 .o (.alloc 3 [.v (.int .i64 0), .v (.slice none 0 0), .v (.int .i64 0), .v (.slice none 0 0), .v (.int .i64 0), .v (.int .i64 0)]),
 .o (.alloc 4 [.v (.int .i64 0), .v (.slice none 0 0), .v (.int .i64 0), .v (.slice none 0 0), .v (.int .i64 0), .v (.int .i64 0)])])
 ((.seq (.reg [.o (.move 10 (sl 0)),
 .o (.call (some 11) (cf 119) [(sl 10)]),
 .o (.move 5 (sl 11))])
 ((.seq (.reg [.o (.move 13 (sl 5)),
 .o (.call (some 14) (cf 138) [(sl 13)]),
 .o (.move 12 (sl 14)),
 .o (.extract 15 (sl 12) 0),
 .o (.extract 16 (sl 12) 1),
 .o (.alloc 6 [.v (.slice none 0 0), .v (.slice none 0 0), .v (.slice none 0 0)]),
 .o (.alloc 7 [.v (.int .i64 0), .v (.slice none 0 0), .v (.int .i64 0), .v (.slice none 0 0), .v (.int .i64 0), .v (.int .i64 0)]),
 .o (.store 3 (sl 6) (sl 15)),
 .o (.store 6 (sl 7) (sl 16))])
 ((.seq (.seq (.reg [.o (.loadN 17 3 (sl 6)),
 .o (.call (some 18) (cf 139) [(sl 17)]),
 .o (.un 19 .not (sl 18))])
 ((.cond (sl 19) (.seq (.draw [] [(kR, .o (.loadN 20 3 (sl 6))),
 (kE, .o (.loadN 21 6 (sl 7))),
 (kE, .o (.loadN 22 6 (sl 7))),
 (kH, .o (.store 3 (sl 2) (sl 20))),
 (kH, .o (.store 6 (sl 3) (sl 21))),
 (kH, .o (.store 6 (sl 4) (sl 22)))])
 (.ret))
 .skip)))
 ((.seq (.draw [31, 8] [(kE, .o (.loadN 24 3 (sl 6))),
 (kR, .o (.move 25 (sl 5))),
 (kR, .o (.loadN 26 3 (sl 6))),
 (kH, .o (.call (some 27) (cf 141) [(sl 25), (sl 26), (ci 0)])),
 (kE, .o (.move 28 (sl 5))),
 (kE, .o (.loadN 29 3 (sl 6))),
 (kH, .o (.call (some 30) (cf 141) [(sl 28), (sl 29), (ci 1)])),
 (.c false [], .o (.call (some 31) (cf 140) [(sl 24), (sl 27), (sl 30)])),
 (kR, .o (.move 23 (sl 31))),
 (kR, .o (.extract 32 (sl 23) 0)),
 (kE, .o (.extract 33 (sl 23) 1)),
 (kN, .o (.alloc 8 [.v (.int .i64 0), .v (.slice none 0 0), .v (.int .i64 0), .v (.slice none 0 0), .v (.int .i64 0), .v (.int .i64 0)])),
 (kH, .o (.store 6 (sl 8) (sl 32))),
 (kR, .o (.move 9 (sl 33)))])
 ((.seq (.seq (.reg [.o (.move 34 (sl 9)),
 .o (.bin 35 .neq (sl 34) (ci 0))])
 ((.cond (sl 35) (.seq (.draw [] [(kR, .o (.loadN 36 3 (sl 6))),
 (kE, .o (.loadN 37 6 (sl 7))),
 (kE, .o (.loadN 38 6 (sl 7))),
 (kH, .o (.store 3 (sl 2) (sl 36))),
 (kH, .o (.store 6 (sl 3) (sl 37))),
 (kH, .o (.store 6 (sl 4) (sl 38)))])
 (.ret))
 .skip)))
 ((.seq (.weak (.draw [] [(kR, .o (.loadN 39 3 (sl 6))),
 (kE, .o (.loadN 40 6 (sl 7))),
 (kE, .o (.loadN 41 6 (sl 8))),
 (kH, .o (.store 3 (sl 2) (sl 39))),
 (kH, .o (.store 6 (sl 3) (sl 40))),
 (kH, .o (.store 6 (sl 4) (sl 41)))]))
 (.ret))))))))))))))
theorem fun_spec_DrawJoinClaims_h {rin : List T} {args : List A} {Q : List T → T → Prop} (ha : args.length ≤ 42) (h : cW Try.prog 42 c_spec_DrawJoinClaims_h (retP Try.prog [.cell 2 35, .cell 3 75, .cell 4 75] rin.length Q) (St.of (enum 0 args) (enum 1000000000 rin))) :
    Fun Try.prog 69 rin args Q :=
  Fun.of (H := ⟨[], [8]⟩) Try.func69 rfl rfl rfl (by kernel_rfl) ha (by decide) h

def c_spec_l28Draw_h : CC :=
 (.seq (.reg [.o (.alloc 2 [.v (.slice none 0 0), .v (.slice none 0 0), .v (.slice none 0 0)]),
 .o (.alloc 3 [.v (.int .i64 0), .v (.slice none 0 0), .v (.int .i64 0), .v (.slice none 0 0), .v (.int .i64 0), .v (.int .i64 0)])])
 ((.seq (.reg [.o (.move 10 (sl 0)),
 .o (.call (some 11) (cf 118) [(sl 10)]),
 .o (.move 9 (sl 11)),
 .o (.extract 12 (sl 9) 0),
 .o (.extract 13 (sl 9) 1),
 .o (.extract 14 (sl 9) 2),
 .o (.alloc 4 [.v (.slice none 0 0), .v (.slice none 0 0), .v (.slice none 0 0)]),
 .o (.alloc 5 [.v (.int .i64 0), .v (.slice none 0 0)]),
 .o (.alloc 6 [.v (.int .i64 0), .v (.slice none 0 0)]),
 .o (.store 3 (sl 4) (sl 12)),
 .o (.store 2 (sl 5) (sl 13)),
 .o (.store 2 (sl 6) (sl 14))])
 ((.seq (.reg [.o (.loadN 16 3 (sl 4)),
 .o (.loadN 17 2 (sl 5)),
 .o (.loadN 18 2 (sl 6)),
 .o (.call (some 19) (cf 140) [(sl 16), (sl 17), (sl 18)]),
 .o (.move 15 (sl 19)),
 .o (.extract 20 (sl 15) 0),
 .o (.extract 21 (sl 15) 1),
 .o (.alloc 7 [.v (.int .i64 0), .v (.slice none 0 0), .v (.int .i64 0), .v (.slice none 0 0), .v (.int .i64 0), .v (.int .i64 0)]),
 .o (.store 6 (sl 7) (sl 20)),
 .o (.move 8 (sl 21))])
 ((.seq (.seq (.reg [.o (.move 22 (sl 8)),
 .o (.bin 23 .neq (sl 22) (ci 0))])
 ((.cond (sl 23) (.seq (.draw [] [(kR, .o (.loadN 24 3 (sl 4))),
 (kE, .o (.loadN 25 2 (sl 5))),
 (kE, .o (.loadN 26 2 (sl 6))),
 (kE, .o (.build 27 [.v (.int .i64 0), .v (.slice none 0 0), .v (.int .i64 0), .v (.slice none 0 0), .v (.int .i64 0), .v (.int .i64 0)] [(0, 2), (2, 2), (4, 1), (5, 1)] [(0, (sl 25)), (1, (sl 26))])),
 (kH, .o (.store 3 (sl 2) (sl 24))),
 (kH, .o (.store 6 (sl 3) (sl 27)))])
 (.ret))
 .skip)))
 ((.seq (.seq (.reg [.o (.move 28 (sl 0)),
 .o (.call (some 29) (cf 126) [(sl 28), (ci 5)])])
 ((.block 0 (.seq (.reg [.o (.bin 31 .eql (sl 29) (ci 0)),
 .o (.move 30 (sl 31))])
 ((.cond (sl 30) (.reg [.o (.move 32 (sl 0)),
 .o (.fld 33 4 (sl 7)),
 .o (.load1 34 (sl 33)),
 .o (.bin 35 .add (sl 34) (ci 1)),
 .o (.fld 36 4 (sl 7)),
 .o (.load1 37 (sl 36)),
 .o (.bin 38 .sub (sl 37) (ci 1)),
 .o (.fld 39 4 (sl 7)),
 .o (.load1 40 (sl 39)),
 .o (.bin 41 .sub (sl 40) (ci 1000)),
 .o (.bslice 42 1 5 [(0, (sl 35)), (1, (sl 38)), (2, (sl 41)), (3, (ci (-1000000000000000))), (4, (ci (-1000000000000001)))]),
 .o (.call (some 43) (cf 147) [(sl 32), (sl 42)]),
 .o (.fld 44 4 (sl 7)),
 .o (.store 1 (sl 44) (sl 43))])
 (.seq (.reg [.o (.bin 46 .eql (sl 29) (ci 1)),
 .o (.move 45 (sl 46))])
 ((.cond (sl 45) (.draw [50] [(.r false [1000000000, 50, 51], .o (.fld 47 5 (sl 7))),
 (.r false [1000000000, 50, 51], .o (.load1 48 (sl 47))),
 (kR, .o (.move 49 (sl 0))),
 (kN, .o (.bslice 50 1 3 [(0, (ci 1)), (1, (ci (-1))), (2, (ci 1000))])),
 (.h (some [1000000000, 50]) [], .o (.call (some 51) (cf 147) [(sl 49), (sl 50)])),
 (kR, .o (.bin 52 .add (sl 48) (sl 51))),
 (kR, .o (.fld 53 5 (sl 7))),
 (kH, .o (.store 1 (sl 53) (sl 52)))])
 .skip)))))))))
 ((.seq (.weak (.draw [] [(kR, .o (.loadN 54 3 (sl 4))),
 (kE, .o (.loadN 55 6 (sl 7))),
 (kH, .o (.store 3 (sl 2) (sl 54))),
 (kH, .o (.store 6 (sl 3) (sl 55)))]))
 (.ret))))))))))))
theorem fun_spec_l28Draw_h {rin : List T} {args : List A} {Q : List T → T → Prop} (ha : args.length ≤ 56) (h : cW Try.prog 56 c_spec_l28Draw_h (retP Try.prog [.cell 2 35, .cell 3 75] rin.length Q) (St.of (enum 0 args) (enum 1000000000 rin))) :
    Fun Try.prog 138 rin args Q :=
  Fun.of (H := ⟨[(9, 0, .r false [1000000000, 50, 51]), (9, 1, .r false [1000000000, 50, 51]), (9, 4, .h (some [1000000000, 50]) [])], [10]⟩) Try.func138 rfl rfl rfl (by kernel_rfl) ha (by decide) h

end Go.Ab

/- Contracts: small functions of the laws: lists, strategies and claims alike. -/
set_option linter.unusedSimpArgs false
set_option linter.unusedVariables false
namespace Go.Ab
open Go.Proofs

theorem laws_big_ok (cs : List Int) : Pure Try.prog 51 [bytes cs] (.b (decide ((cs.length : Int) > 4096))) := by
  refine fun_laws_big (by simp) ?_
  simp -implicitDefEqProofs only [go_sem, evR, ints, rows, rat, rats, c_laws_big, bytes]
theorem laws_likeInts_ok (a b : List Int) (ha : a.length ≤ 1000000000000) (hb : b.length ≤ 1000000000000) : Pure Try.prog 94 [ints a, ints b] (.b (decide (a = b))) := by
  refine fun_laws_likeInts (by simp) ?_
  simp -implicitDefEqProofs only [c_laws_likeInts, ints, go_sem]
  refine ⟨fun h => ?_, fun h => ?_⟩
  · have : a ≠ b := by rintro rfl; simp at h
    simp [this]
  · have hab : a.length = b.length := by simp at h; omega
    refine SemC.loopR (σ := Nat) (fun i => St.of [(0, .t (ints a)), (1, .t (ints b)), (5, .t (.i i))] []) (fun i => i ≤ a.length ∧ ∀ j, j < i → a[j]? = b[j]?) (fun i => a.length - i) 0 (Weak.of _ [] [] (by simp) (by simp) ?_ trivial) ⟨by simp, fun j hj => by omega⟩ fun i hI R hn hr he => ?_
    · simp -implicitDefEqProofs only [ints, wkR, Nat.reduceEqDiff, ↓reduceIte]
    · simp -implicitDefEqProofs only [ints, go_sem, toNat_cast]
      refine ⟨fun h => ⟨by omega, by omega, by omega, fun c x hx hc => ⟨by omega, by omega, by omega, fun c' y hy hc' => ?_⟩⟩, fun h => he _ _ ?_⟩
      · subst hc hc'
        simp -implicitDefEqProofs only [go_sem]
        refine ⟨fun h1 => hr _ ?_, fun h1 => hn _ (i + 1) (Weak.of _ [] [] (by simp) (by simp) ?_ trivial) ⟨by omega, fun j hj => ?_⟩ (by omega)⟩
        · simp -implicitDefEqProofs only [go_sem]
          have : a ≠ b := by rintro rfl; rw [hx] at hy; cases hy; simp at h1
          simp [this]
        · simp -implicitDefEqProofs only [ints, wkR, Nat.reduceEqDiff, ↓reduceIte, next64 (by omega : i < a.length) ha]
        · rcases Nat.lt_or_ge j i with h | h
          · exact hI.2 j h
          · have : j = i := by omega
            subst this
            rw [hx, hy]; simpa using h1
      · simp -implicitDefEqProofs only [go_sem]
        have : a = b := by
          refine List.ext_getElem? fun j => ?_
          rcases Nat.lt_or_ge j i with h | h
          · exact hI.2 j h
          · rw [List.getElem?_eq_none (by omega), List.getElem?_eq_none (by omega)]
        simp [this]
theorem laws_likeLists_ok (a b : List (List Int)) (ha : a.length ≤ 1000000000000) (hb : b.length ≤ 1000000000000) (hra : ∀ r ∈ a, r.length ≤ 1000000000000) (hrb : ∀ r ∈ b, r.length ≤ 1000000000000) :
    Pure Try.prog 84 [rows a, rows b] (.b (decide (a = b))) := by
  refine fun_laws_likeLists (by simp) ?_
  simp -implicitDefEqProofs only [c_laws_likeLists, rows, go_sem]
  refine ⟨fun h => ?_, fun h => ?_⟩
  · have : a ≠ b := by rintro rfl; simp at h
    simp [this]
  · have hab : a.length = b.length := by simp at h; omega
    refine SemC.loopR (σ := Nat) (fun i => St.of [(0, .t (rows a)), (1, .t (rows b)), (5, .t (.i i))] []) (fun i => i ≤ a.length ∧ ∀ j, j < i → a[j]? = b[j]?) (fun i => a.length - i) 0 (Weak.of _ [] [] (by simp) (by simp) ?_ trivial) ⟨by simp, fun j hj => by omega⟩ fun i hI R hn hr he => ?_
    · simp -implicitDefEqProofs only [rows, wkR, Nat.reduceEqDiff, ↓reduceIte]
    · simp -implicitDefEqProofs only [rows, go_sem, toNat_cast]
      refine ⟨fun h => ⟨by omega, by omega, by omega, fun c x hx hc => ⟨by omega, by omega, by omega, fun c' y hy hc' => ?_⟩⟩, fun h => he _ _ ?_⟩
      · subst hc hc'
        refine CallV.pure (laws_likeInts_ok x y (hra x (List.mem_of_getElem? hx)) (hrb y (List.mem_of_getElem? hy))) [] rfl Try.call94 (fun e R' _ => ?_) trivial (fun _ => rfl) ?_
        · simp -implicitDefEqProofs only [vaR, go_sem]
        · simp -implicitDefEqProofs only [go_sem]
          refine ⟨fun h1 => hr _ ?_, fun h1 => hn _ (i + 1) (Weak.of _ [] [] (by simp) (by simp) ?_ trivial) ⟨by omega, fun j hj => ?_⟩ (by omega)⟩
          · simp -implicitDefEqProofs only [go_sem]
            have : a ≠ b := by rintro rfl; rw [hx] at hy; cases hy; simp at h1
            simp [this]
          · simp -implicitDefEqProofs only [rows, wkR, Nat.reduceEqDiff, ↓reduceIte, next64 (by omega : i < a.length) ha]
          · rcases Nat.lt_or_ge j i with h | h
            · exact hI.2 j h
            · have : j = i := by omega
              subst this
              rw [hx, hy]; simpa using h1
      · simp -implicitDefEqProofs only [go_sem]
        have : a = b := by
          refine List.ext_getElem? fun j => ?_
          rcases Nat.lt_or_ge j i with h | h
          · exact hI.2 j h
          · rw [List.getElem?_eq_none (by omega), List.getElem?_eq_none (by omega)]
        simp [this]
section
attribute [-go_sem] load1C load1V fldC lenC idxC loadNV nilCheckW
theorem laws_likeStrategies_self (s : Int × List (List Int)) (hs : rows12 s.2) : Pure Try.prog 65 [.agg [.i s.1, .sh 1 (s.2.map ints)], .agg [.i s.1, .sh 1 (s.2.map ints)]] (.b true) := by
  refine fun_laws_likeStrategies (by simp) ?_
  simp -implicitDefEqProofs only [go_sem, evR, ints, rows, rat, rats, c_laws_likeStrategies, show (s.1 == s.1) = true by simp]
  have hq := laws_likeLists_ok s.2 s.2 hs.1 hs.1 hs.2 hs.2
  simp only [rows, decide_true] at hq
  refine CallW.pure hq [] rfl Try.call84 ?_ (by first | trivial | simp [T.noSh, T.noShL, rat]) rfl ?_
  · simp -implicitDefEqProofs only [agR, Nat.reduceLeDiff, Nat.reduceSub, vaR, go_sem, ints, rows, rat, rats, ratsO, rtR, intsO, rowsO]
  simp -implicitDefEqProofs only [go_sem, evR, ints, rows, rat, rats]
theorem laws_likeClaims_self (c : Cl) (hf : rows12 c.f.2) (hs : rows12 c.s.2) : Pure Try.prog 75 [.agg [.i c.f.1, .sh 1 (c.f.2.map ints), .i c.s.1, .sh 1 (c.s.2.map ints), .i c.lo, .i c.hi], .agg [.i c.f.1, .sh 1 (c.f.2.map ints), .i c.s.1, .sh 1 (c.s.2.map ints), .i c.lo, .i c.hi]] (.b true) := by
  refine fun_laws_likeClaims (by simp) ?_
  simp -implicitDefEqProofs only [go_sem, evR, ints, rows, rat, rats, c_laws_likeClaims]
  refine CallW.pure (laws_likeStrategies_self c.f hf) [] rfl Try.call65 ?_ (by first | trivial | simp [T.noSh, T.noShL, rat]) rfl ?_
  · simp -implicitDefEqProofs only [agR, Nat.reduceLeDiff, Nat.reduceSub, vaR, go_sem, ints, rows, rat, rats, ratsO, rtR, intsO, rowsO]
  simp -implicitDefEqProofs only [go_sem, evR, ints, rows, rat, rats]
  refine CallW.pure (laws_likeStrategies_self c.s hs) [] rfl Try.call65 ?_ (by first | trivial | simp [T.noSh, T.noShL, rat]) rfl ?_
  · simp -implicitDefEqProofs only [agR, Nat.reduceLeDiff, Nat.reduceSub, vaR, go_sem, ints, rows, rat, rats, ratsO, rtR, intsO, rowsO]
  simp -implicitDefEqProofs only [go_sem, evR, ints, rows, rat, rats, show (c.lo == c.lo) = true by simp, show (c.hi == c.hi) = true by simp]
end
end Go.Ab

/- Contracts: uniform and pure strategies, numbers of games; drawn strategies, bounds and claims. -/
set_option linter.unusedSimpArgs false
set_option linter.unusedVariables false
namespace Go.Ab
open Go.Proofs
theorem smallS_L {m : List (List Int)} (h : smallS m) : rowsL m := ⟨by have := h.1; omega, fun r hr => by have := h.2 r hr; omega⟩
section
attribute [-go_sem] load1C load1V fldC lenC idxC loadNV nilCheckW
end
end Go.Ab

/- Games as data: what the laws of best responses, bounds and claims say. -/
set_option linter.unusedSimpArgs false
set_option linter.unusedVariables false
namespace Go.Ab

theorem claim_cross {g : Gm} {c d : Cl} (hc : prB g c = true) (hd : prB g d = true) : pairG g c.f d.s = true ∧ c.lo ≤ -bestN g c.f ∧ -bestN g c.f ≤ bestN g d.s ∧ bestN g d.s ≤ d.hi := by
  obtain ⟨c1, c2, c3, c4, c5⟩ := prB_iff.1 hc
  obtain ⟨d1, d2, d3, d4, d5⟩ := prB_iff.1 hd
  obtain ⟨a1, a2, a3, a4, a5⟩ := pairG_iff.1 c1
  obtain ⟨b1, b2, b3, b4, b5⟩ := pairG_iff.1 d1
  have hp : pairG g c.f d.s = true := pairG_iff.2 ⟨a1, a2, b3, a4, b5⟩
  have h := gains_law hp
  exact ⟨hp, c3, by omega, d4⟩
theorem claims_law {g : Gm} {c d : Cl} (hc : clCode g c = 0) (hd : clCode g d = 0) : c.lo ≤ d.hi ∧ d.lo ≤ c.hi ∧ prB g (jcR g c d).1 = true ∧ clCode g (jcR g c d).1 = 0 ∧ 0 ≤ (jcR g c d).1.hi - (jcR g c d).1.lo ∧ (jcR g c d).1.hi - (jcR g c d).1.lo ≤ c.hi - c.lo ∧ (jcR g c d).1.hi - (jcR g c d).1.lo ≤ d.hi - d.lo := by
  obtain ⟨hg, pc⟩ := clCode_zero.1 hc
  obtain ⟨_, pd⟩ := clCode_zero.1 hd
  have x1 := claim_cross pc pd
  have x2 := claim_cross pd pc
  obtain ⟨c1, c2, c3, c4, c5⟩ := prB_iff.1 pc
  obtain ⟨d1, d2, d3, d4, d5⟩ := prB_iff.1 pd
  have hj : prB g (jcR g c d).1 = true := by
    rw [jcR_ok hc hd, prB_iff]
    (try simp only [])
    by_cases hl : c.lo < d.lo
    · rw [if_pos hl, if_pos hl]
      by_cases hh : d.hi < c.hi
      · rw [if_pos hh, if_pos hh]; exact ⟨d1, d2, d3, d4, d5⟩
      · rw [if_neg hh, if_neg hh]; exact ⟨x2.1, d2, d3, c4, c5⟩
    · rw [if_neg hl, if_neg hl]
      by_cases hh : d.hi < c.hi
      · rw [if_pos hh, if_pos hh]; exact ⟨x1.1, c2, c3, d4, d5⟩
      · rw [if_neg hh, if_neg hh]; exact ⟨c1, c2, c3, c4, c5⟩
  have x3 := claim_cross hj hj
  refine ⟨by omega, by omega, hj, clCode_zero.2 ⟨hg, hj⟩, by omega, ?_, ?_⟩
  · rw [jcR_ok hc hd]
    (try simp only [])
    split <;> split <;> omega
  · rw [jcR_ok hc hd]
    (try simp only [])
    split <;> split <;> omega
end Go.Ab

/- Games as data: the results of runs. -/
set_option linter.unusedSimpArgs false
set_option linter.unusedVariables false
namespace Go.Ab

theorem tot_le {k : Nat} : ∀ {m : List (List Int)}, (∀ r ∈ m, r.length ≤ k) → tot m ≤ m.length * k
  | [], _ => by simp [tot]
  | r :: m, h => by
    have h1 := tot_le (m := m) fun r hr => h r (by simp [hr])
    have h2 := h r (by simp)
    rw [tot, List.length_cons, Nat.add_mul, Nat.one_mul]; omega
theorem rowsS_of {m : List (List Int)} (hl : m.length ≤ 1000) (h : ∀ r ∈ m, r.length ≤ 1000) : rowsS m := by
  have h1 := tot_le h
  have h2 : m.length * 1000 ≤ 1000 * 1000 := Nat.mul_le_mul hl (Nat.le_refl _)
  exact ⟨by omega, by omega⟩
theorem sets_360 {g : Gm} (hg : isGameB g = true) (pl : Int) : (sets g pl).length ≤ 360 := by
  obtain ⟨p1, p2, p3, p4, p5⟩ := isGameB_parts hg
  exact sets_len g pl (isTreeB_spec p1).1.2 p2.2
end Go.Ab

/- Contracts: drawn strategies, bounds and claims. -/
set_option linter.unusedSimpArgs false
set_option linter.unusedVariables false
namespace Go.Ab
open Go.Proofs
section
attribute [-go_sem] load1C load1V fldC lenC idxC loadNV nilCheckW
def drCT (x : Gm × Cl) : T := .tup [.agg [.sh 5 (chunk nodeC x.1.nd), .sh 1 (x.1.w.map ints), .sh 1 (x.1.v.map ints)], .agg [.i x.2.f.1, .sh 1 (x.2.f.2.map ints), .i x.2.s.1, .sh 1 (x.2.s.2.map ints), .i x.2.lo, .i x.2.hi]]
theorem smallS_S {m : List (List Int)} (h : smallS m) : rowsS m := rowsS_of (by have := h.1; omega) fun r hr => by have := h.2 r hr; omega
set_option maxRecDepth 20000 in
theorem spec_l28Draw_w (cs : List Int) (hc : bytesOK cs) (hl : cs.length ≤ 100000000000) (a : Nat × Int) (ha : seedOK a) : Fun Try.prog 138 [.box [bytes cs, .i a.1, .i a.2]] [.own 1000000000] fun o r => ∃ x : (Gm × Cl) × (Nat × Int), o = [.box [bytes cs, .i x.2.1, .i x.2.2]] ∧ r = drCT x.1 ∧ (smallG x.1.1 ∧ smallS x.1.2.f.2 ∧ smallS x.1.2.s.2 ∧ seedOK x.2) := by
  refine fun_spec_l28Draw_h (by simp) ?_
  simp -implicitDefEqProofs only [go_sem, evR, ints, rows, rat, rats, c_spec_l28Draw_h]
  have hp := spec_l23Draw_w cs hc hl a ha
  simp only [dr3T] at hp
  refine CallW.exi hp [1000000000] [] rfl Try.call118 (by simp) ?_ (by simp) ?_ (.inl rfl) (fun x hx => ?_)
  · simp -implicitDefEqProofs only [srR, Nat.reduceEqDiff, ↓reduceIte, ints, rows, intsO, rowsO]
  · simp -implicitDefEqProofs only [agR, Nat.reduceLeDiff, Nat.reduceSub, vaR, go_sem, ints, rows, rat, rats, ratsO, rtR, intsO, rowsO]
  simp -implicitDefEqProofs only [clR, Nat.reduceLeDiff, go_sem, evR, rat, opR, Nat.reduceBEq]
  obtain ⟨⟨g, ⟨p, m⟩, ⟨q, m'⟩⟩, d⟩ := x
  obtain ⟨⟨hx1, hx2, hx3⟩, hd⟩ := hx
  (try simp only [] at hx1 hx2 hx3 hd)
  (try simp only [])
  refine CallW.weak (Weak.trans (Weak.share 4 rfl) (Weak.trans (Weak.share 5 rfl) (Weak.trans (Weak.share 6 rfl) (Weak.of [(0, .own 1000000000), (2, .own 2), (3, .own 3), (4, .t (.pin [nodes g.nd, rows g.w, rows g.v] 0)), (5, .t (.pin [.i p, rows m] 0)), (6, .t (.pin [.i q, rows m'] 0)), (16, .t (.agg [.sh 5 (chunk nodeC g.nd), rows g.w, rows g.v])), (17, .t (.agg [.i p, rows m])), (18, .t (.agg [.i q, rows m']))] [(1000000000, .box [bytes cs, .i d.1, .i d.2]), (2, .box [.v (.slice none 0 0), .v (.slice none 0 0), .v (.slice none 0 0)]), (3, .box [.i 0, .v (.slice none 0 0), .i 0, .v (.slice none 0 0), .i 0, .i 0])] [some 1000000000, some 2, some 3] (by simp) (by simp) ?_ ?_)))) ?_
  · simp -implicitDefEqProofs only [ints, rows, Nat.reduceBEq, wkR, Nat.reduceEqDiff, ↓reduceIte, wrR, shareA, T.toSh, T.toShL, nodes]
  · exact ⟨⟨_, rfl, .refl _⟩, rfl, ⟨_, rfl, .refl _⟩, rfl, ⟨_, rfl, .refl _⟩, rfl, trivial⟩
  have hp := spec_MakeClaim_ok g (p, m) (q, m') (smallG_L hx1) (smallS_S hx2) (smallS_S hx3)
  simp only [gameT, stratT, nodes, rows, mcO, rowsO] at hp
  refine CallW.res hp [] rfl Try.call140 ?_ (.inl rfl) ?_
  · simp -implicitDefEqProofs only [agR, Nat.reduceLeDiff, Nat.reduceSub, vaR, go_sem, ints, rows, rat, rats, ratsO, rtR, intsO, rowsO]
  simp -implicitDefEqProofs only [clR, Nat.reduceLeDiff, go_sem, evR, rat, nodes, rows, opR, Nat.reduceBEq]
  rcases Bool.eq_false_or_eq_true (pairG g (p, m) (q, m')) with hpg | hpg
  · rw [show mcR g (p, m) (q, m') = (⟨(p, m), (q, m'), -bestN g (p, m), bestN g (q, m')⟩, 0) by rw [mcR, if_pos hpg]]
    generalize -bestN g (p, m) = lo
    generalize bestN g (q, m') = hi
    refine ⟨fun h => by simp at h, fun _ => ?_⟩
    refine CallW.ref (next_box cs hc hl d hd 5 (by omega)) [1000000000] [] rfl Try.call126 (by simp) ?_ (by simp) ?_ (.inl rfl) ?_
    · simp -implicitDefEqProofs only [srR, Nat.reduceEqDiff, ↓reduceIte, ints, rows, intsO, rowsO]
    · simp -implicitDefEqProofs only [agR, Nat.reduceLeDiff, Nat.reduceSub, vaR, go_sem, ints, rows, rat, rats, ratsO, rtR, intsO, rowsO]
    simp -implicitDefEqProofs only [clR, Nat.reduceLeDiff, go_sem, evR, rat]
    have hs1 := nextS_seed (cs := cs) hl hd 5
    generalize nextS cs d 5 = z at hs1 ⊢
    obtain ⟨k, f⟩ := z
    simp only [] at hs1 ⊢
    refine ⟨fun _ => ?_, fun _ => ⟨fun _ => ?_, fun _ => ?_⟩⟩
    · have hp := pick_own cs hc hl f hs1 [IntKind.i64.wrap (lo + 1), IntKind.i64.wrap (lo - 1), IntKind.i64.wrap (lo - 1000), -1000000000000000, -1000000000000001] (by simp) (by simp)
      have hs2 := pickS_seed (cs := cs) hl hs1 [IntKind.i64.wrap (lo + 1), IntKind.i64.wrap (lo - 1), IntKind.i64.wrap (lo - 1000), -1000000000000000, -1000000000000001]
      generalize pickS cs f [IntKind.i64.wrap (lo + 1), IntKind.i64.wrap (lo - 1), IntKind.i64.wrap (lo - 1000), -1000000000000000, -1000000000000001] = z at hs2 hp ⊢
      obtain ⟨y, f2⟩ := z
      simp only [intsO, List.map_cons, List.map_nil] at hp hs2
      refine CallW.ref hp [1000000000, 42] [] rfl Try.call147 (by simp) ?_ (by simp) ?_ (.inl rfl) ?_
      · simp -implicitDefEqProofs only [srR, Nat.reduceEqDiff, ↓reduceIte, ints, rows, intsO, rowsO]
      · simp -implicitDefEqProofs only [agR, Nat.reduceLeDiff, Nat.reduceSub, vaR, go_sem, ints, rows, rat, rats, ratsO, rtR, intsO, rowsO]
      simp -implicitDefEqProofs only [clR, Nat.reduceLeDiff, go_sem, evR, rat]
      refine ⟨_, Weak.trans (Weak.share 7 rfl) (Weak.of [(0, .own 1000000000), (2, .own 2), (3, .own 3), (4, .t (.pin [nodes g.nd, rows g.w, rows g.v] 0)), (7, .t (.pin [.i p, rows m, .i q, rows m', .i y, .i hi] 0))] [(1000000000, .box [bytes cs, .i f2.1, .i f2.2]), (2, .box [.v (.slice none 0 0), .v (.slice none 0 0), .v (.slice none 0 0)]), (3, .box [.i 0, .v (.slice none 0 0), .i 0, .v (.slice none 0 0), .i 0, .i 0])] [some 1000000000, some 2, some 3] (by simp) (by simp) ?_ ?_), ?_⟩
      · simp -implicitDefEqProofs only [ints, rows, Nat.reduceBEq, wkR, Nat.reduceEqDiff, ↓reduceIte, wrR, shareA, T.toSh, T.toShL, nodes, rowsO, toShL_intsO]
      · exact ⟨⟨_, rfl, .refl _⟩, rfl, ⟨_, rfl, .refl _⟩, rfl, ⟨_, rfl, .refl _⟩, rfl, trivial⟩
      simp -implicitDefEqProofs only [go_sem, evR, ints, rows, rat, rats, nodes]
      exact ⟨((g, ⟨(p, m), (q, m'), y, hi⟩), f2), rfl, rfl, hx1, hx2, hx3, hs2⟩
    · have hp := pick_own cs hc hl f hs1 [1, -1, 1000] (by simp) (by simp)
      have hs2 := pickS_seed (cs := cs) hl hs1 [1, -1, 1000]
      generalize pickS cs f [1, -1, 1000] = z at hs2 hp ⊢
      obtain ⟨y, f2⟩ := z
      simp only [intsO, List.map_cons, List.map_nil] at hp hs2
      refine CallH.ref hp [1000000000, 50] [] rfl Try.call147 (by simp) ?_ (by simp) (fun e R' hR => ?_) (.inl rfl) ?_
      · simp -implicitDefEqProofs only [srR, Nat.reduceEqDiff, ↓reduceIte, ints, rows, intsO, rowsO]
      · simp -implicitDefEqProofs only [agR, Nat.reduceLeDiff, Nat.reduceSub, vaR, go_sem, ints, rows, rat, rats, ratsO, rtR, intsO, rowsO]
      simp -implicitDefEqProofs only [clR, Nat.reduceLeDiff, go_sem, evR, rat]
      refine ⟨?_, ((frameOK.refl _ _ _).upd _ (.inl (by simp))).upd _ (.inl (by simp))⟩
      refine ⟨_, Weak.trans (Weak.share 7 rfl) (Weak.of [(0, .own 1000000000), (2, .own 2), (3, .own 3), (4, .t (.pin [nodes g.nd, rows g.w, rows g.v] 0)), (7, .t (.pin [.i p, rows m, .i q, rows m', .i lo, .i (IntKind.i64.wrap (hi + y))] 0))] [(1000000000, .box [bytes cs, .i f2.1, .i f2.2]), (2, .box [.v (.slice none 0 0), .v (.slice none 0 0), .v (.slice none 0 0)]), (3, .box [.i 0, .v (.slice none 0 0), .i 0, .v (.slice none 0 0), .i 0, .i 0])] [some 1000000000, some 2, some 3] (by simp) (by simp) ?_ ?_), ?_⟩
      · simp -implicitDefEqProofs only [ints, rows, Nat.reduceBEq, wkR, Nat.reduceEqDiff, ↓reduceIte, wrR, shareA, T.toSh, T.toShL, nodes, rowsO, toShL_intsO]
      · exact ⟨⟨_, rfl, .refl _⟩, rfl, ⟨_, rfl, .refl _⟩, rfl, ⟨_, rfl, .refl _⟩, rfl, trivial⟩
      simp -implicitDefEqProofs only [go_sem, evR, ints, rows, rat, rats, nodes]
      exact ⟨((g, ⟨(p, m), (q, m'), lo, IntKind.i64.wrap (hi + y)⟩), f2), rfl, rfl, hx1, hx2, hx3, hs2⟩
    · refine ⟨_, Weak.trans (Weak.share 7 rfl) (Weak.of [(0, .own 1000000000), (2, .own 2), (3, .own 3), (4, .t (.pin [nodes g.nd, rows g.w, rows g.v] 0)), (7, .t (.pin [.i p, rows m, .i q, rows m', .i lo, .i hi] 0))] [(1000000000, .box [bytes cs, .i f.1, .i f.2]), (2, .box [.v (.slice none 0 0), .v (.slice none 0 0), .v (.slice none 0 0)]), (3, .box [.i 0, .v (.slice none 0 0), .i 0, .v (.slice none 0 0), .i 0, .i 0])] [some 1000000000, some 2, some 3] (by simp) (by simp) ?_ ?_), ?_⟩
      · simp -implicitDefEqProofs only [ints, rows, Nat.reduceBEq, wkR, Nat.reduceEqDiff, ↓reduceIte, wrR, shareA, T.toSh, T.toShL, nodes, rowsO, toShL_intsO]
      · exact ⟨⟨_, rfl, .refl _⟩, rfl, ⟨_, rfl, .refl _⟩, rfl, ⟨_, rfl, .refl _⟩, rfl, trivial⟩
      simp -implicitDefEqProofs only [go_sem, evR, ints, rows, rat, rats, nodes]
      exact ⟨((g, ⟨(p, m), (q, m'), lo, hi⟩), f), rfl, rfl, hx1, hx2, hx3, hs1⟩
  · rw [show mcR g (p, m) (q, m') = (clZ, 1) by rw [mcR, hpg]; rfl]
    refine ⟨fun _ => ⟨((g, ⟨(p, m), (q, m'), 0, 0⟩), d), rfl, rfl, hx1, hx2, hx3, hd⟩, fun h => by simp at h⟩
theorem spec_DrawWidthOf_w (cs : List Int) (hc : bytesOK cs) (hl : cs.length ≤ 100000000000) : Fun Try.prog 72 [] [.t (bytes cs)] fun o r => ∃ x : Gm × Cl, o = [] ∧ r = drCT x ∧ (smallG x.1 ∧ smallS x.2.f.2 ∧ smallS x.2.s.2) := by
  refine fun_spec_DrawWidthOf (by simp) ?_
  simp -implicitDefEqProofs only [go_sem, evR, ints, rows, rat, rats, c_spec_DrawWidthOf]
  refine CallW.res (spec_l01From_ok cs hc (by omega)) [] rfl Try.call119 ?_ (.inl rfl) ?_
  · simp -implicitDefEqProofs only [agR, Nat.reduceLeDiff, Nat.reduceSub, vaR, go_sem, ints, rows, rat, rats, ratsO, rtR, intsO, rowsO]
  simp -implicitDefEqProofs only [clR, Nat.reduceLeDiff, go_sem, evR, rat, srcT]
  have hs0 := seed_from (cs.take 64)
  generalize fromS (cs.take 64) = sd at hs0 ⊢
  have hp := spec_l28Draw_w cs hc hl (0, sd) hs0
  simp only [drCT] at hp
  refine CallW.exi hp [5] [] rfl Try.call138 (by simp) ?_ (by simp) ?_ (.inl rfl) (fun x hx => ?_)
  · simp -implicitDefEqProofs only [srR, Nat.reduceEqDiff, ↓reduceIte, ints, rows, intsO, rowsO]
  · simp -implicitDefEqProofs only [agR, Nat.reduceLeDiff, Nat.reduceSub, vaR, go_sem, ints, rows, rat, rats, ratsO, rtR, intsO, rowsO]
  simp -implicitDefEqProofs only [clR, Nat.reduceLeDiff, go_sem, evR, rat, opR, Nat.reduceBEq]
  exact ⟨x.1, rfl, hx.1, hx.2.1, hx.2.2.1⟩
end
end Go.Ab

/- Contracts: drawn strategies exactly; drawn claims that are joined. -/
set_option linter.unusedSimpArgs false
set_option linter.unusedVariables false
namespace Go.Ab
open Go.Proofs
def rdW (cs : List Int) : Nat → Nat × Int → List Int × (Nat × Int)
  | 0, b => ([], b)
  | k + 1, b => ((rdW cs k b).1 ++ [(pickS cs (nextS cs (rdW cs k b).2 9).2 [0, 0, 1, 2, (nextS cs (rdW cs k b).2 9).1]).1], (pickS cs (nextS cs (rdW cs k b).2 9).2 [0, 0, 1, 2, (nextS cs (rdW cs k b).2 9).1]).2)
theorem rdW_succ (cs : List Int) (k : Nat) (b : Nat × Int) : rdW cs (k + 1) b = ((rdW cs k b).1 ++ [(pickS cs (nextS cs (rdW cs k b).2 9).2 [0, 0, 1, 2, (nextS cs (rdW cs k b).2 9).1]).1], (pickS cs (nextS cs (rdW cs k b).2 9).2 [0, 0, 1, 2, (nextS cs (rdW cs k b).2 9).1]).2) := rfl
def rdM (cs : List Int) (g : Gm) (pl : Int) (a : Nat × Int) : Nat → List (List Int) × (Nat × Int)
  | 0 => ([], a)
  | i + 1 => ((rdM cs g pl a i).1 ++ [ham (rdW cs (sizeAt g pl i) (rdM cs g pl a i).2).1], (rdW cs (sizeAt g pl i) (rdM cs g pl a i).2).2)
theorem rdW_ok {cs : List Int} (hl : cs.length ≤ 100000000000) {b : Nat × Int} (hb : seedOK b) : ∀ k, (rdW cs k b).1.length = k ∧ (∀ x ∈ (rdW cs k b).1, 0 ≤ x ∧ x ≤ 8) ∧ seedOK (rdW cs k b).2
  | 0 => ⟨rfl, by simp [rdW], hb⟩
  | k + 1 => by
    obtain ⟨i1, i2, i3⟩ := rdW_ok hl hb k
    rw [rdW_succ]
    have h5 := nextS_seed (cs := cs) hl i3 9
    have h6 := pick5 (cs := cs) (a := (nextS cs (rdW cs k b).2 9).2) (nextS_bound (cs := cs) (a := (rdW cs k b).2) (n := 9) (by omega))
    refine ⟨by simp [i1], fun x hx => ?_, pickS_seed hl h5 _⟩
    rcases List.mem_append.1 hx with hx | hx
    · exact i2 x hx
    · simp at hx; rw [hx]; exact h6
theorem rdM_ok {cs : List Int} (hl : cs.length ≤ 100000000000) {g : Gm} (hg : isGameB g = true) {pl : Int} (hpl : pl = 0 ∨ pl = 1) {a : Nat × Int} (ha : seedOK a) : ∀ i, i ≤ (sets g pl).length → (rdM cs g pl a i).1.length = i ∧ (∀ r ∈ (rdM cs g pl a i).1, r.length ≤ 4) ∧ seedOK (rdM cs g pl a i).2
  | 0, _ => ⟨rfl, by simp [rdM], ha⟩
  | i + 1, hi => by
    obtain ⟨i1, i2, i3⟩ := rdM_ok hl hg hpl ha i (by omega)
    obtain ⟨j1, j2, j3⟩ := rdW_ok (cs := cs) hl i3 (sizeAt g pl i)
    obtain ⟨b1, b2⟩ := size_bound hg hpl (show i < (sets g pl).length by omega)
    rw [rdM]
    refine ⟨by simp [i1], fun r hr => ?_, j3⟩
    rcases List.mem_append.1 hr with hr | hr
    · exact i2 r hr
    · simp at hr
      rw [hr, (ham_spec (fun x hx => (j2 x hx).1) (by omega)).1]; omega
section
attribute [-go_sem] load1C load1V fldC lenC idxC loadNV nilCheckW
set_option maxRecDepth 20000 in
theorem spec_l22Random_e (cs : List Int) (hc : bytesOK cs) (hl : cs.length ≤ 100000000000) (a : Nat × Int) (ha : seedOK a) (g : Gm) (hg : isGameB g = true) (pl : Int) (hpl : pl = 0 ∨ pl = 1) :
    Fun Try.prog 141 [.box [bytes cs, .i a.1, .i a.2]] [.own 1000000000, .t (.agg [.sh 5 (chunk nodeC g.nd), .sh 1 (g.w.map ints), .sh 1 (g.v.map ints)]), .t (.i pl)] fun o r => o = [.box [bytes cs, .i (rdM cs g pl a (sets g pl).length).2.1, .i (rdM cs g pl a (sets g pl).length).2.2]] ∧ r = .agg [.i pl, .arr 1 ((rdM cs g pl a (sets g pl).length).1.map intsO)] := by
  obtain ⟨p1, p2, p3, p4, p5⟩ := isGameB_parts hg
  obtain ⟨t1, t2, t3, t4⟩ := isTreeB_spec p1
  have hsl := sets_len g pl t1.2 p2.2
  refine fun_spec_l22Random (by simp) ?_
  simp -implicitDefEqProofs only [go_sem, evR, ints, rows, rat, rats, c_spec_l22Random]
  have hp := spec_l22Sizes_ok g pl t1.2 p2.2
  simp only [intsO] at hp
  refine CallW.res hp [] rfl Try.call196 ?_ (.inl rfl) ?_
  · simp -implicitDefEqProofs only [agR, Nat.reduceLeDiff, Nat.reduceSub, vaR, go_sem, ints, rows, rat, rats, ratsO, rtR, intsO, rowsO]
  simp -implicitDefEqProofs only [clR, Nat.reduceLeDiff, go_sem, evR, rat]
  refine SemC.loopR (σ := List (List Int) × (Nat × Int)) (fun s => St.of [(0, .own 1000000000), (2, .t (.i pl)), (6, .own 6), (7, .t (ints (sizesL g pl))), (8, .own 96), (9, .t (.i s.1.length))] [(1000000000, .box [bytes cs, .i s.2.1, .i s.2.2]), (6, .box [.i 0, .v (.slice none 0 0)]), (96, rowsO s.1)]) (fun s => seedOK s.2 ∧ s.1.length ≤ (sets g pl).length ∧ (∀ r ∈ s.1, 1 ≤ r.length ∧ r.length ≤ 4) ∧ s = rdM cs g pl a s.1.length) (fun s => (sets g pl).length - s.1.length) ([], a) (Weak.trans (Weak.share 14 rfl) (Weak.of _ _ [some 1000000000, some 6, some 15] (by simp) (by simp) ?_ ?_)) ⟨ha, by simp, by simp, rfl⟩ fun s hI R hn hr he => ?_
  · simp -implicitDefEqProofs only [ints, rows, Nat.reduceBEq, wkR, Nat.reduceEqDiff, ↓reduceIte, wrR, shareA, T.toSh, toShL_ints, List.length_nil]
  · exact ⟨⟨_, rfl, .refl _⟩, rfl, ⟨_, rfl, .refl _⟩, rfl, ⟨_, rfl, .refl _⟩, rfl, trivial⟩
  obtain ⟨m, b⟩ := s
  obtain ⟨i1, i2, i3, i4⟩ := hI
  (try simp only [] at i1 i2 i3 i4)
  rcases Nat.lt_or_ge m.length (sets g pl).length with h9 | h9
  · obtain ⟨b1, b2⟩ := size_bound hg hpl h9
    simp -implicitDefEqProofs only [go_sem, evR, ints, rows, rat, rats, rowsO, sizesL_length, decide_eq_true (show (m.length : Int) < ((sets g pl).length : Int) by omega)]
    refine SemC.loopR (σ := List Int × (Nat × Int)) (fun s => St.of [(0, .own 1000000000), (2, .t (.i pl)), (6, .own 6), (7, .t (ints (sizesL g pl))), (8, .own 96), (9, .t (.i m.length)), (10, .own 97), (11, .t (.i s.1.length))] [(1000000000, .box [bytes cs, .i s.2.1, .i s.2.2]), (6, .box [.i 0, .v (.slice none 0 0)]), (96, rowsO m), (97, intsO s.1)]) (fun s => seedOK s.2 ∧ s.1.length ≤ sizeAt g pl m.length ∧ (∀ x ∈ s.1, 0 ≤ x ∧ x ≤ 8) ∧ s = rdW cs s.1.length b) (fun s => sizeAt g pl m.length - s.1.length) ([], b) (Weak.of _ _ [some 1000000000, some 6, some 96, some 22] (by simp) (by simp) ?_ ?_) ⟨i1, by simp, by simp, rfl⟩ fun s hI R2 hn2 hr2 he2 => ?_
    · simp -implicitDefEqProofs only [ints, rows, Nat.reduceBEq, wkR, Nat.reduceEqDiff, ↓reduceIte, wrR, List.length_nil]
    · exact ⟨⟨_, rfl, .refl _⟩, rfl, ⟨_, rfl, .refl _⟩, rfl, ⟨_, rfl, .refl _⟩, rfl, ⟨_, rfl, .refl _⟩, rfl, trivial⟩
    obtain ⟨w, c⟩ := s
    obtain ⟨j1, j2, j3, j4⟩ := hI
    (try simp only [] at j1 j2 j3 j4)
    rcases Nat.lt_or_ge w.length (sizeAt g pl m.length) with h8 | h8
    · simp -implicitDefEqProofs only [go_sem, evR, ints, rows, rat, rats, rowsO, intsO, sizesL_length, sizesL_get h9, decide_eq_true (show (w.length : Int) < (sizeAt g pl m.length : Int) by omega)]
      refine ⟨by omega, by omega, by omega, ?_⟩
      refine CallW.ref (next_box cs hc hl c j1 9 (by omega)) [1000000000] [] rfl Try.call126 (by simp) ?_ (by simp) ?_ (.inl rfl) ?_
      · simp -implicitDefEqProofs only [srR, Nat.reduceEqDiff, ↓reduceIte, ints, rows, intsO, rowsO]
      · simp -implicitDefEqProofs only [agR, Nat.reduceLeDiff, Nat.reduceSub, vaR, go_sem, ints, rows, rat, rats, ratsO, rtR, intsO, rowsO]
      simp -implicitDefEqProofs only [clR, Nat.reduceLeDiff, go_sem, evR, rat]
      have hs5 := nextS_seed (cs := cs) hl j1 9
      have hb5 := nextS_bound (cs := cs) (a := c) (n := 9) (by omega)
      generalize hz5 : nextS cs c 9 = z at hs5 hb5 ⊢
      obtain ⟨y, d⟩ := z
      simp only [] at hs5 hb5 ⊢
      have hq := pick_own cs hc hl d hs5 [0, 0, 1, 2, y] (by simp) (by simp)
      simp only [intsO, List.map_cons, List.map_nil] at hq
      refine CallW.ref hq [1000000000, 35] [] rfl Try.call147 (by simp) ?_ (by simp) ?_ (.inl rfl) ?_
      · simp -implicitDefEqProofs only [srR, Nat.reduceEqDiff, ↓reduceIte, ints, rows, intsO, rowsO]
      · simp -implicitDefEqProofs only [agR, Nat.reduceLeDiff, Nat.reduceSub, vaR, go_sem, ints, rows, rat, rats, ratsO, rtR, intsO, rowsO]
      simp -implicitDefEqProofs only [clR, Nat.reduceLeDiff, go_sem, evR, rat]
      have hs6 := pickS_seed (cs := cs) hl hs5 [0, 0, 1, 2, y]
      have hb6 := pick5 (cs := cs) (a := d) hb5
      generalize hz6 : pickS cs d [0, 0, 1, 2, y] = z at hs6 hb6 ⊢
      obtain ⟨v, f⟩ := z
      simp only [] at hs6 hb6 ⊢
      refine ⟨by omega, hn2 _ (w ++ [v], f) (Weak.of _ _ [some 1000000000, some 6, some 96, some 38] (by simp) (by simp) ?_ ?_) ⟨hs6, by simp; omega, fun x hx => ?_, ?_⟩ (by simp only [List.length_append, List.length_cons, List.length_nil]; omega)⟩
      · simp -implicitDefEqProofs only [ints, rows, Nat.reduceBEq, wkR, Nat.reduceEqDiff, ↓reduceIte, wrR, next64 h8 (by omega), List.length_append, List.length_cons, List.length_nil]
      · refine ⟨⟨_, rfl, .refl _⟩, rfl, ⟨_, rfl, .refl _⟩, rfl, ⟨_, rfl, .refl _⟩, rfl, ⟨_, rfl, ?_⟩, rfl, trivial⟩
        simp only [intsO, List.map_append, List.map_cons, List.map_nil]; exact .refl _
      · rcases List.mem_append.1 hx with hx | hx
        · exact j3 x hx
        · simp at hx; rw [hx]; exact hb6
      · show (w ++ [v], f) = rdW cs (w ++ [v]).length b
        rw [List.length_append, List.length_cons, List.length_nil, rdW, ← j4]
        (try simp only [])
        rw [hz5]
        (try simp only [])
        rw [hz6]
    · simp -implicitDefEqProofs only [go_sem, evR, ints, rows, rat, rats, rowsO, intsO, sizesL_length, sizesL_get h9, decide_eq_false (show ¬ (w.length : Int) < (sizeAt g pl m.length : Int) by omega)]
      refine ⟨by omega, by omega, by omega, he2 _ _ ?_⟩
      simp -implicitDefEqProofs only [go_sem, evR, ints, rows, rat, rats, rowsO, intsO]
      have hwo : weightsOK w := ⟨by omega, by omega, fun x hx => by have := j3 x hx; omega⟩
      have hq := spec_l22Parts_ok w hwo
      simp only [ints, intsO] at hq
      refine CallW.res hq [97] rfl Try.call172 ?_ (.inr (intsO_noSh _)) ?_
      · simp -implicitDefEqProofs only [agR, Nat.reduceLeDiff, Nat.reduceSub, vaR, go_sem, ints, rows, rat, rats, ratsO, rtR, intsO, rowsO]
      simp -implicitDefEqProofs only [clR, Nat.reduceLeDiff, go_sem, evR, rat]
      have hhl := (ham_spec (fun x hx => (j3 x hx).1) (show 1 ≤ w.length by omega)).1
      refine ⟨by omega, hn _ (m ++ [ham w], c) (Weak.of _ _ [some 1000000000, some 6, some 43] (by simp) (by simp) ?_ ?_) ⟨j1, by simp; omega, fun r hr' => ?_, ?_⟩ (by simp only [List.length_append, List.length_cons, List.length_nil]; omega)⟩
      · simp -implicitDefEqProofs only [ints, rows, Nat.reduceBEq, wkR, Nat.reduceEqDiff, ↓reduceIte, wrR, next64 h9 (by omega), List.length_append, List.length_cons, List.length_nil]
      · refine ⟨⟨_, rfl, .refl _⟩, rfl, ⟨_, rfl, .refl _⟩, rfl, ⟨_, rfl, ?_⟩, rfl, trivial⟩
        simp only [rowsO, intsO, List.map_append, List.map_cons, List.map_nil]; exact .refl _
      · rcases List.mem_append.1 hr' with hr' | hr'
        · exact i3 r hr'
        · simp at hr'; rw [hr', hhl]; omega
      · have hwl : w.length = sizeAt g pl m.length := by omega
        rw [hwl] at j4
        show (m ++ [ham w], c) = rdM cs g pl a (m ++ [ham w]).length
        rw [List.length_append, List.length_cons, List.length_nil, rdM, ← i4]
        (try simp only [])
        rw [← j4]
  · simp -implicitDefEqProofs only [go_sem, evR, ints, rows, rat, rats, rowsO, sizesL_length, decide_eq_false (show ¬ (m.length : Int) < ((sets g pl).length : Int) by omega)]
    refine he _ _ ?_
    have hml : m.length = (sets g pl).length := by omega
    rw [hml] at i4
    simp -implicitDefEqProofs only [go_sem, evR, ints, rows, rat, rats, rowsO]
    rw [← i4]
    exact ⟨rfl, rfl⟩
theorem rdM_small {cs : List Int} (hl : cs.length ≤ 100000000000) {g : Gm} (hg : isGameB g = true) {pl : Int} (hpl : pl = 0 ∨ pl = 1) {a : Nat × Int} (ha : seedOK a) : smallS (rdM cs g pl a (sets g pl).length).1 ∧ seedOK (rdM cs g pl a (sets g pl).length).2 := by
  obtain ⟨h1, h2, h3⟩ := rdM_ok (cs := cs) hl hg hpl ha _ (Nat.le_refl _)
  have := sets_360 hg pl
  exact ⟨⟨by omega, h2⟩, h3⟩
def drJT (x : Gm × Cl × Cl) : T := .tup [.agg [.sh 5 (chunk nodeC x.1.nd), .sh 1 (x.1.w.map ints), .sh 1 (x.1.v.map ints)], .agg [.i x.2.1.f.1, .sh 1 (x.2.1.f.2.map ints), .i x.2.1.s.1, .sh 1 (x.2.1.s.2.map ints), .i x.2.1.lo, .i x.2.1.hi], .agg [.i x.2.2.f.1, .sh 1 (x.2.2.f.2.map ints), .i x.2.2.s.1, .sh 1 (x.2.2.s.2.map ints), .i x.2.2.lo, .i x.2.2.hi]]
def smallC (c : Cl) : Prop := smallS c.f.2 ∧ smallS c.s.2
set_option maxRecDepth 20000 in
theorem spec_DrawJoinClaims_w (cs : List Int) (hc : bytesOK cs) (hl : cs.length ≤ 100000000000) : Fun Try.prog 69 [] [.t (bytes cs)] fun o r => ∃ x : Gm × Cl × Cl, o = [] ∧ r = drJT x ∧ (smallG x.1 ∧ smallC x.2.1 ∧ smallC x.2.2) := by
  refine fun_spec_DrawJoinClaims_h (by simp) ?_
  simp -implicitDefEqProofs only [go_sem, evR, ints, rows, rat, rats, c_spec_DrawJoinClaims_h]
  refine CallW.res (spec_l01From_ok cs hc (by omega)) [] rfl Try.call119 ?_ (.inl rfl) ?_
  · simp -implicitDefEqProofs only [agR, Nat.reduceLeDiff, Nat.reduceSub, vaR, go_sem, ints, rows, rat, rats, ratsO, rtR, intsO, rowsO]
  simp -implicitDefEqProofs only [clR, Nat.reduceLeDiff, go_sem, evR, rat, srcT]
  have hs0 := seed_from (cs.take 64)
  generalize fromS (cs.take 64) = sd at hs0 ⊢
  have hp := spec_l28Draw_w cs hc hl (0, sd) hs0
  simp only [drCT] at hp
  refine CallW.exi hp [11] [] rfl Try.call138 (by simp) ?_ (by simp) ?_ (.inl rfl) (fun x hx => ?_)
  · simp -implicitDefEqProofs only [srR, Nat.reduceEqDiff, ↓reduceIte, ints, rows, intsO, rowsO]
  · simp -implicitDefEqProofs only [agR, Nat.reduceLeDiff, Nat.reduceSub, vaR, go_sem, ints, rows, rat, rats, ratsO, rtR, intsO, rowsO]
  simp -implicitDefEqProofs only [clR, Nat.reduceLeDiff, go_sem, evR, rat, opR, Nat.reduceBEq]
  obtain ⟨⟨g, c⟩, d⟩ := x
  obtain ⟨hx1, hx2, hx3, hd⟩ := hx
  (try simp only [] at hx1 hx2 hx3 hd)
  (try simp only [])
  refine CallW.weak (Weak.trans (Weak.share 6 rfl) (Weak.trans (Weak.share 7 rfl) (Weak.of [(2, .own 2), (3, .own 3), (4, .own 4), (5, .own 11), (6, .t (.pin [.sh 5 (chunk nodeC g.nd), rows g.w, rows g.v] 0)), (7, .t (.pin [.i c.f.1, rows c.f.2, .i c.s.1, rows c.s.2, .i c.lo, .i c.hi] 0)), (17, .t (.agg [.sh 5 (chunk nodeC g.nd), rows g.w, rows g.v]))] [(11, .box [bytes cs, .i d.1, .i d.2]), (2, .box [.v (.slice none 0 0), .v (.slice none 0 0), .v (.slice none 0 0)]), (3, .box [.i 0, .v (.slice none 0 0), .i 0, .v (.slice none 0 0), .i 0, .i 0]), (4, .box [.i 0, .v (.slice none 0 0), .i 0, .v (.slice none 0 0), .i 0, .i 0])] [some 11, some 2, some 3, some 4] (by simp) (by simp) ?_ ?_))) ?_
  · simp -implicitDefEqProofs only [ints, rows, Nat.reduceBEq, wkR, Nat.reduceEqDiff, ↓reduceIte, wrR, shareA, T.toSh, T.toShL, nodes]
  · exact ⟨⟨_, rfl, .refl _⟩, rfl, ⟨_, rfl, .refl _⟩, rfl, ⟨_, rfl, .refl _⟩, rfl, ⟨_, rfl, .refl _⟩, rfl, trivial⟩
  have hgl : gameL g := smallG_L hx1
  refine CallW.pure (isGame_t (spec_IsGame_ok g hgl)) [] rfl Try.call139 ?_ (by first | trivial | simp [T.noSh, T.noShL, rat]) rfl ?_
  · simp -implicitDefEqProofs only [agR, Nat.reduceLeDiff, Nat.reduceSub, vaR, go_sem, ints, rows, rat, rats, ratsO, rtR, intsO, rowsO]
  simp -implicitDefEqProofs only [go_sem, evR, ints, rows, rat, rats, nodes]
  cases hgb : isGameB g with
  | false =>
    refine ⟨fun _ => ?_, fun h => absurd h (by decide)⟩
    exact ⟨(g, c, c), rfl, hx1, ⟨hx2, hx3⟩, ⟨hx2, hx3⟩⟩
  | true =>
    refine ⟨fun h => absurd h (by decide), fun _ => ?_⟩
    have hr := spec_l22Random_e cs hc hl d hd g hgb 0 (.inl rfl)
    obtain ⟨m1, m2⟩ := rdM_small (cs := cs) hl hgb (.inl rfl : (0 : Int) = 0 ∨ (0 : Int) = 1) hd
    generalize rdM cs g 0 d (sets g 0).length = z at hr m1 m2
    obtain ⟨q, e⟩ := z
    (try simp only [] at hr m1 m2)
    refine CallH.ref hr [11] [] rfl Try.call141 (by simp) ?_ (by simp) (fun e R' hR => ?_) (.inl rfl) ?_
    · simp -implicitDefEqProofs only [srR, Nat.reduceEqDiff, ↓reduceIte, ints, rows, intsO, rowsO]
    · simp -implicitDefEqProofs only [agR, Nat.reduceLeDiff, Nat.reduceSub, vaR, go_sem, ints, rows, rat, rats, ratsO, rtR, intsO, rowsO]
    simp -implicitDefEqProofs only [clR, Nat.reduceLeDiff, go_sem, evR, rat, nodes, rows, opR, Nat.reduceBEq]
    have hr := spec_l22Random_e cs hc hl e m2 g hgb 1 (.inr rfl)
    obtain ⟨m3, m4⟩ := rdM_small (cs := cs) hl hgb (.inr rfl : (1 : Int) = 0 ∨ (1 : Int) = 1) m2
    generalize rdM cs g 1 e (sets g 1).length = z at hr m3 m4
    obtain ⟨q', e'⟩ := z
    (try simp only [] at hr m3 m4)
    refine CallH.ref hr [11] [] rfl Try.call141 (by simp) ?_ (by simp) (fun e R' hR => ?_) (.inl rfl) ?_
    · simp -implicitDefEqProofs only [srR, Nat.reduceEqDiff, ↓reduceIte, ints, rows, intsO, rowsO]
    · simp -implicitDefEqProofs only [agR, Nat.reduceLeDiff, Nat.reduceSub, vaR, go_sem, ints, rows, rat, rats, ratsO, rtR, intsO, rowsO]
    simp -implicitDefEqProofs only [clR, Nat.reduceLeDiff, go_sem, evR, rat, nodes, rows, opR, Nat.reduceBEq]
    have hp := spec_MakeClaim_ok g (0, q) (1, q') hgl (smallS_S m1) (smallS_S m3)
    simp only [gameT, stratT, nodes, rows, mcO, rowsO] at hp
    refine CallC.res hp [27, 30] rfl Try.call140 (fun e R' hR => ?_) (.inr (mcO_noSh (mcR g (0, q) (1, q')))) ?_
    · have hq27 := (hR 27).resolve_left (by simp -implicitDefEqProofs only [go_sem, evR, ints, rows, rat, rats, not_false_eq_true]); have hq30 := (hR 30).resolve_left (by simp -implicitDefEqProofs only [go_sem, evR, ints, rows, rat, rats, not_false_eq_true])
      simp -implicitDefEqProofs only [go_sem, evR, ints, rows, rat, rats] at hq27 hq30
      simp -implicitDefEqProofs only [agR, Nat.reduceLeDiff, Nat.reduceSub, vaR, go_sem, ints, rows, rat, rats, ratsO, rtR, intsO, rowsO, hq27, hq30]
    simp -implicitDefEqProofs only [clR, Nat.reduceLeDiff, go_sem, evR, rat, nodes, rows, opR, Nat.reduceBEq]
    rcases Bool.eq_false_or_eq_true (pairG g (0, q) (1, q')) with hpg | hpg
    · rw [show mcR g (0, q) (1, q') = (⟨(0, q), (1, q'), -bestN g (0, q), bestN g (1, q')⟩, 0) by rw [mcR, if_pos hpg]]
      generalize -bestN g (0, q) = lo
      generalize bestN g (1, q') = hi
      refine ⟨fun h => by simp at h, fun _ => ?_⟩
      refine ⟨_, Weak.trans (Weak.share 8 rfl) (Weak.of [(2, .own 2), (3, .own 3), (4, .own 4), (6, .t (.pin [.sh 5 (chunk nodeC g.nd), rows g.w, rows g.v] 0)), (7, .t (.pin [.i c.f.1, rows c.f.2, .i c.s.1, rows c.s.2, .i c.lo, .i c.hi] 0)), (8, .t (.pin [.i 0, rows q, .i 1, rows q', .i lo, .i hi] 0))] [(2, .box [.v (.slice none 0 0), .v (.slice none 0 0), .v (.slice none 0 0)]), (3, .box [.i 0, .v (.slice none 0 0), .i 0, .v (.slice none 0 0), .i 0, .i 0]), (4, .box [.i 0, .v (.slice none 0 0), .i 0, .v (.slice none 0 0), .i 0, .i 0])] [some 2, some 3, some 4] (by simp) (by simp) ?_ ?_), ?_⟩
      · simp -implicitDefEqProofs only [ints, rows, Nat.reduceBEq, wkR, Nat.reduceEqDiff, ↓reduceIte, wrR, shareA, T.toSh, T.toShL, nodes, rowsO, toShL_intsO]
      · exact ⟨⟨_, rfl, .refl _⟩, rfl, ⟨_, rfl, .refl _⟩, rfl, ⟨_, rfl, .refl _⟩, rfl, trivial⟩
      simp -implicitDefEqProofs only [go_sem, evR, ints, rows, rat, rats, nodes]
      exact ⟨(g, c, ⟨(0, q), (1, q'), lo, hi⟩), rfl, hx1, ⟨hx2, hx3⟩, ⟨m1, m3⟩⟩
    · rw [show mcR g (0, q) (1, q') = (clZ, 1) by rw [mcR, hpg]; rfl]
      exact ⟨fun _ => ⟨(g, c, c), rfl, hx1, ⟨hx2, hx3⟩, ⟨hx2, hx3⟩⟩, fun h => by simp at h⟩
end
end Go.Ab

/- The law FnBestResponses. -/
set_option linter.unusedSimpArgs false
set_option linter.unusedVariables false
namespace Go.Ab
open Go.Proofs
section
attribute [-go_sem] load1C load1V fldC lenC idxC loadNV nilCheckW
theorem hideK {α : Type} {p : α → Prop} (k0 : α) (h : ∀ k, k0 = k → p k) : p k0 := h k0 rfl
end
end Go.Ab

/- The law FnClaims. -/
set_option linter.unusedSimpArgs false
set_option linter.unusedVariables false
namespace Go.Ab
open Go.Proofs
theorem wdR_code (g : Gm) (c : Cl) : (wdR g c).2 = clCode g c := by
  unfold wdR
  split
  · rename_i h; exact h.symm
  · rfl
theorem proved_code (g : Gm) (c : Cl) : (prB g c != ((wdR g c).2 == 0)) = false := by
  rw [wdR_code]
  rcases Bool.eq_false_or_eq_true (prB g c) with h | h
  · have hg : isGameB g = true := (pairG_iff.1 (prB_iff.1 h).1).1
    rw [clCode_zero.2 ⟨hg, h⟩, h]; rfl
  · have : clCode g c ≠ 0 := fun e => by have := (clCode_zero.1 e).2; rw [h] at this; cases this
    rw [h, show (clCode g c == 0) = false by simpa using this]; rfl
theorem jcR_code {g : Gm} {c d : Cl} (h : (jcR g c d).2 = 0) : clCode g c = 0 ∧ clCode g d = 0 := by
  by_cases hc : clCode g c = 0
  · by_cases hd : clCode g d = 0
    · exact ⟨hc, hd⟩
    · rw [jcR_d hc hd] at h; exact absurd h hd
  · rw [jcR_c hc] at h; exact absurd h hc
section
attribute [-go_sem] load1C load1V fldC lenC idxC loadNV nilCheckW
set_option maxRecDepth 20000 in
theorem laws_FnClaims_ok (cs : List Int) (hc : bytesOK cs) : Pure Try.prog 14 [bytes cs] (.b true) := by
  refine fun_laws_FnClaims (by simp) ?_
  simp -implicitDefEqProofs only [go_sem, evR, ints, rows, rat, rats, c_laws_FnClaims]
  refine CallW.pure (laws_big_ok cs) [] rfl Try.call51 ?_ (by first | trivial | simp [T.noSh, T.noShL, rat]) rfl ?_
  · simp -implicitDefEqProofs only [agR, Nat.reduceLeDiff, Nat.reduceSub, vaR, go_sem, ints, rows, rat, rats, ratsO, rtR, intsO, rowsO]
  simp -implicitDefEqProofs only [go_sem, evR, ints, rows, rat, rats]
  refine ⟨fun _ => trivial, fun hbig => ?_⟩
  have hl : cs.length ≤ 4096 := by have : (cs.length : Int) ≤ 4096 := by simpa using hbig
                                   omega
  have hp := spec_DrawJoinClaims_w cs hc (by omega)
  simp only [drJT] at hp
  refine CallW.exi hp [] [] rfl Try.call69 (by simp) ?_ (by simp) ?_ (.inl rfl) (fun x hx => ?_)
  · simp -implicitDefEqProofs only [srR, Nat.reduceEqDiff, ↓reduceIte, ints, rows, intsO, rowsO]
  · simp -implicitDefEqProofs only [agR, Nat.reduceLeDiff, Nat.reduceSub, vaR, go_sem, ints, rows, rat, rats, ratsO, rtR, intsO, rowsO]
  refine hideK (p := fun k => afterCall _ _ _ _ _ (opsW _ _ _ k)) _ (fun kc hkc => ?_)
  simp -implicitDefEqProofs only [clR, Nat.reduceLeDiff, go_sem, evR, rat, opR, Nat.reduceBEq]
  rw [← hkc]
  clear hkc
  simp -implicitDefEqProofs only [go_sem, evR, ints, rows, rat, rats, opR, Nat.reduceBEq]
  obtain ⟨g, c, d⟩ := x
  obtain ⟨h1, ⟨h2, h3⟩, ⟨h4, h5⟩⟩ := hx
  (try simp only [] at h1 h2 h3 h4 h5)
  (try simp only [])
  have hg := smallG_L h1
  have hr := jcR_rowsS g c d (smallS_S h2) (smallS_S h3) (smallS_S h4) (smallS_S h5)
  have hq := impl_JoinClaims_ok g c d hg (smallS_S h2) (smallS_S h3) (smallS_S h4) (smallS_S h5)
  simp only [gameT, claimT, nodes, rows, mcO, rowsO] at hq
  refine CallW.res hq [] rfl Try.call70 ?_ (.inl rfl) ?_
  · simp -implicitDefEqProofs only [agR, Nat.reduceLeDiff, Nat.reduceSub, vaR, go_sem, ints, rows, rat, rats, ratsO, rtR, intsO, rowsO]
  refine hideK (p := fun k => afterCall _ _ _ _ _ (opsW _ _ _ k)) _ (fun kc hkc => ?_)
  simp -implicitDefEqProofs only [clR, Nat.reduceLeDiff, go_sem, evR, rat, opR, Nat.reduceBEq]
  rw [← hkc]
  clear hkc
  simp -implicitDefEqProofs only [go_sem, evR, ints, rows, rat, rats, opR, Nat.reduceBEq]
  have hq := spec_JoinClaims_ok g c d hg (smallS_S h2) (smallS_S h3) (smallS_S h4) (smallS_S h5)
  have hL := fun h => claims_law (g := g) (c := c) (d := d) (jcR_code h).1 (jcR_code h).2
  generalize hJ : jcR g c d = w at hr hq hL
  obtain ⟨j, code⟩ := w
  (try simp only [] at hr hL)
  (try simp only [])
  refine CallW.weak (Weak.trans (Weak.share 3 rfl) (Weak.trans (Weak.share 4 rfl) (Weak.trans (Weak.share 5 rfl) (Weak.trans (Weak.share 6 rfl) (Weak.of [(0, .t (bytes cs)), (3, .t (.pin [.sh 5 (chunk nodeC g.nd), rows g.w, rows g.v] 0)), (4, .t (.pin [.i c.f.1, rows c.f.2, .i c.s.1, rows c.s.2, .i c.lo, .i c.hi] 0)), (5, .t (.pin [.i d.f.1, rows d.f.2, .i d.s.1, rows d.s.2, .i d.lo, .i d.hi] 0)), (6, .t (.pin [.i j.f.1, rows j.f.2, .i j.s.1, rows j.s.2, .i j.lo, .i j.hi] 0)), (7, .t (.i code)), (38, .t (.agg [.sh 5 (chunk nodeC g.nd), rows g.w, rows g.v])), (39, .t (.agg [.i c.f.1, rows c.f.2, .i c.s.1, rows c.s.2, .i c.lo, .i c.hi])), (40, .t (.agg [.i d.f.1, rows d.f.2, .i d.s.1, rows d.s.2, .i d.lo, .i d.hi]))] [] [] (by simp) (by simp) ?_ ?_))))) ?_
  · simp -implicitDefEqProofs only [ints, rows, Nat.reduceBEq, wkR, Nat.reduceEqDiff, ↓reduceIte, wrR, shareA, T.toSh, T.toShL, nodes, toShL_intsO]
  · exact trivial
  simp only [gameT, claimT, nodes, rows, mcO, rowsO] at hq
  refine CallW.res hq [] rfl Try.call71 ?_ (.inl rfl) ?_
  · simp -implicitDefEqProofs only [agR, Nat.reduceLeDiff, Nat.reduceSub, vaR, go_sem, ints, rows, rat, rats, ratsO, rtR, intsO, rowsO]
  refine hideK (p := fun k => afterCall _ _ _ _ _ (opsW _ _ _ k)) _ (fun kc hkc => ?_)
  simp -implicitDefEqProofs only [clR, Nat.reduceLeDiff, go_sem, evR, rat, nodes, rows, opR, Nat.reduceBEq]
  rw [← hkc]
  clear hkc
  simp -implicitDefEqProofs only [go_sem, evR, ints, rows, rat, rats, nodes, opR, Nat.reduceBEq]
  refine CallW.weak (Weak.trans (Weak.share 8 rfl) (Weak.of [(3, .t (.pin [.sh 5 (chunk nodeC g.nd), rows g.w, rows g.v] 0)), (4, .t (.pin [.i c.f.1, rows c.f.2, .i c.s.1, rows c.s.2, .i c.lo, .i c.hi] 0)), (5, .t (.pin [.i d.f.1, rows d.f.2, .i d.s.1, rows d.s.2, .i d.lo, .i d.hi] 0)), (6, .t (.pin [.i j.f.1, rows j.f.2, .i j.s.1, rows j.s.2, .i j.lo, .i j.hi] 0)), (7, .t (.i code)), (8, .t (.pin [.i j.f.1, rows j.f.2, .i j.s.1, rows j.s.2, .i j.lo, .i j.hi] 0)), (9, .t (.i code)), (45, .t (bytes cs))] [] [] (by simp) (by simp) ?_ ?_)) ?_
  · simp -implicitDefEqProofs only [ints, rows, Nat.reduceBEq, wkR, Nat.reduceEqDiff, ↓reduceIte, wrR, shareA, T.toSh, T.toShL, nodes, toShL_intsO]
  · exact trivial
  have hp := spec_DrawWidthOf_w cs hc (by omega)
  simp only [drCT] at hp
  refine CallW.exi hp [] [] rfl Try.call72 (by simp) ?_ (by simp) ?_ (.inl rfl) (fun x hx => ?_)
  · simp -implicitDefEqProofs only [srR, Nat.reduceEqDiff, ↓reduceIte, ints, rows, intsO, rowsO]
  · simp -implicitDefEqProofs only [agR, Nat.reduceLeDiff, Nat.reduceSub, vaR, go_sem, ints, rows, rat, rats, ratsO, rtR, intsO, rowsO]
  refine hideK (p := fun k => afterCall _ _ _ _ _ (opsW _ _ _ k)) _ (fun kc hkc => ?_)
  simp -implicitDefEqProofs only [clR, Nat.reduceLeDiff, go_sem, evR, rat, nodes, rows, opR, Nat.reduceBEq]
  rw [← hkc]
  clear hkc
  simp -implicitDefEqProofs only [go_sem, evR, ints, rows, rat, rats, nodes, opR, Nat.reduceBEq]
  obtain ⟨h, e⟩ := x
  obtain ⟨k1, k2, k3⟩ := hx
  (try simp only [] at k1 k2 k3)
  (try simp only [])
  have hq := impl_WidthOf_ok h e (smallG_L k1) (smallS_L k2) (smallS_L k3)
  simp only [gameT, claimT, nodes, rows, tr2] at hq
  refine CallW.pure hq [] rfl Try.call73 ?_ (by first | trivial | simp [T.noSh, T.noShL, rat]) rfl ?_
  · simp -implicitDefEqProofs only [agR, Nat.reduceLeDiff, Nat.reduceSub, vaR, go_sem, ints, rows, rat, rats, ratsO, rtR, intsO, rowsO]
  simp -implicitDefEqProofs only [go_sem, evR, ints, rows, rat, rats, nodes]
  have hq := spec_WidthOf_ok h e (smallG_L k1) (smallS_L k2) (smallS_L k3)
  simp only [gameT, claimT, nodes, rows, tr2] at hq
  refine CallW.pure hq [] rfl Try.call74 ?_ (by first | trivial | simp [T.noSh, T.noShL, rat]) rfl ?_
  · simp -implicitDefEqProofs only [agR, Nat.reduceLeDiff, Nat.reduceSub, vaR, go_sem, ints, rows, rat, rats, ratsO, rtR, intsO, rowsO]
  simp -implicitDefEqProofs only [go_sem, evR, ints, rows, rat, rats, nodes, bne_self_eq_false]
  refine CallW.pure (laws_likeClaims_self j (rowsS_12 hr.1) (rowsS_12 hr.2)) [] rfl Try.call75 ?_ (by first | trivial | simp [T.noSh, T.noShL, rat]) rfl ?_
  · simp -implicitDefEqProofs only [agR, Nat.reduceLeDiff, Nat.reduceSub, vaR, go_sem, ints, rows, rat, rats, ratsO, rtR, intsO, rowsO]
  simp -implicitDefEqProofs only [go_sem, evR, ints, rows, rat, rats, nodes, not_true_eq_false, decide_false, bne_self_eq_false]
  have hq := impl_IsProved_ok h e (smallG_L k1) (smallS_L k2) (smallS_L k3)
  simp only [gameT, claimT, nodes, rows] at hq
  refine CallW.pure hq [] rfl Try.call76 ?_ (by first | trivial | simp [T.noSh, T.noShL, rat]) rfl ?_
  · simp -implicitDefEqProofs only [agR, Nat.reduceLeDiff, Nat.reduceSub, vaR, go_sem, ints, rows, rat, rats, ratsO, rtR, intsO, rowsO]
  simp -implicitDefEqProofs only [go_sem, evR, ints, rows, rat, rats, nodes, proved_code]
  refine ⟨fun _ => trivial, fun hcode => ?_⟩
  have hcode : code = 0 := by simpa using hcode
  obtain ⟨l1, l2, l3, l4, l5, l6, l7⟩ := hL hcode
  obtain ⟨m1, m2⟩ := jcR_code (g := g) (c := c) (d := d) (by rw [hJ]; exact hcode)
  have hjl : rowsL j.f.2 := ⟨Nat.le_trans (rowsS_12 hr.1).1 (by decide), fun r h => Nat.le_trans ((rowsS_12 hr.1).2 r h) (by decide)⟩
  have hjl' : rowsL j.s.2 := ⟨Nat.le_trans (rowsS_12 hr.2).1 (by decide), fun r h => Nat.le_trans ((rowsS_12 hr.2).2 r h) (by decide)⟩
  have wj : wdR g j = (j.hi - j.lo, 0) := by rw [wdR, if_pos l4]
  have wc : wdR g c = (c.hi - c.lo, 0) := by rw [wdR, if_pos m1]
  have wd : wdR g d = (d.hi - d.lo, 0) := by rw [wdR, if_pos m2]
  have hq := impl_WidthOf_ok g j hg hjl hjl'
  simp only [gameT, claimT, nodes, rows, tr2, wj] at hq
  refine CallW.pure hq [] rfl Try.call73 ?_ (by first | trivial | simp [T.noSh, T.noShL, rat]) rfl ?_
  · simp -implicitDefEqProofs only [agR, Nat.reduceLeDiff, Nat.reduceSub, vaR, go_sem, ints, rows, rat, rats, ratsO, rtR, intsO, rowsO]
  simp -implicitDefEqProofs only [go_sem, evR, ints, rows, rat, rats, nodes]
  have hq := impl_WidthOf_ok g c hg (smallS_L h2) (smallS_L h3)
  simp only [gameT, claimT, nodes, rows, tr2, wc] at hq
  refine CallW.pure hq [] rfl Try.call73 ?_ (by first | trivial | simp [T.noSh, T.noShL, rat]) rfl ?_
  · simp -implicitDefEqProofs only [agR, Nat.reduceLeDiff, Nat.reduceSub, vaR, go_sem, ints, rows, rat, rats, ratsO, rtR, intsO, rowsO]
  simp -implicitDefEqProofs only [go_sem, evR, ints, rows, rat, rats, nodes]
  have hq := impl_WidthOf_ok g d hg (smallS_L h4) (smallS_L h5)
  simp only [gameT, claimT, nodes, rows, tr2, wd] at hq
  refine CallW.pure hq [] rfl Try.call73 ?_ (by first | trivial | simp [T.noSh, T.noShL, rat]) rfl ?_
  · simp -implicitDefEqProofs only [agR, Nat.reduceLeDiff, Nat.reduceSub, vaR, go_sem, ints, rows, rat, rats, ratsO, rtR, intsO, rowsO]
  simp -implicitDefEqProofs only [go_sem, evR, ints, rows, rat, rats, nodes, decide_eq_true l1, decide_eq_true l2]
  have hq := impl_IsProved_ok g j hg hjl hjl'
  simp only [gameT, claimT, nodes, rows, l3] at hq
  refine CallW.pure hq [] rfl Try.call76 ?_ (by first | trivial | simp [T.noSh, T.noShL, rat]) rfl ?_
  · simp -implicitDefEqProofs only [agR, Nat.reduceLeDiff, Nat.reduceSub, vaR, go_sem, ints, rows, rat, rats, ratsO, rtR, intsO, rowsO]
  simp -implicitDefEqProofs only [go_sem, evR, ints, rows, rat, rats, nodes, beq_self_eq_true, decide_eq_true (show j.hi - j.lo ≥ 0 from l5), decide_eq_true l6, decide_eq_true l7]
end
end Go.Ab

set_option linter.unusedSimpArgs false
set_option linter.unusedVariables false
namespace Go.Proofs.Ytkmmkgpnlmdcfaa
open Go.ChangeShapes Go.WideShapes Go.ChangeAt Go.RowKit Go.Ab

namespace fnClaims
theorem said : ∀ xs, wtL [tyU8s] xs → Pure Try.prog 14 xs (.b true)
  | [x], h => by
    obtain ⟨cs, rfl, _, hc⟩ := wt_bytes h.1
    exact laws_FnClaims_ok cs hc
  | [], h => h.elim
  | _ :: _ :: _, h => h.2.elim

set_option maxRecDepth 100000 in
theorem lifted (os : Os) (started : os.Started) (H : Type) (enc : TypeId × Value → H) :
    ReturnsInHanded {} Try.checked os 14 .any (Rows.fnClaimsSpec.pre6 enc Try.prog Try.f14 Rows.fnClaimsRow.domain false) (Rows.fnClaimsSpec.post enc Try.prog Try.f14 false true false false) := by
  refine returnsInHanded_of_change (C := Try.checked) (by kernel_rfl) started (by kernel_rfl) Try.func14
    (ChangeSpec.witness6 (enc := enc) (C := Try.checked) false ⟨#[], #[.slice none 0 0], []⟩ 8 (by kernel_rfl) (by kernel_rfl) (by kernel_rfl) (by kernel_rfl)) ?_
  intro W base args ds gs before hval hW _ _
  refine law_contract (tys := [tyU8s]) (by kernel_rfl) (by kernel_rfl) rfl (by kernel_rfl) rfl (fun ds h => ?_) said W base args ds gs before hval hW
  match ds, h with
  | [d0], _ => rfl

theorem andT {a b : Bool} (ha : a = true) (hb : b = true) : (a && b) = true := by rw [ha, hb]; rfl
theorem joined0 : ((Rows.fnClaimsRow.wf (OpenSpec.ofChange Rows.fnClaimsSpec))) = true := by kernel_rfl
theorem joined1 : (laidOutB Try.prog) = true := Try.laidOutT
theorem joined2 : (mapsRowed Try.prog) = true := Try.mapsRowedT
theorem joined3 : (Try.f14.params.all (Try.prog.readableRec ·)) = true := by kernel_rfl
theorem joined4 : (namedTie Try.prog Rows.fnClaimsRow.named Rows.fnClaimsSpec.vars) = true := by kernel_rfl
theorem joined5 : ((Rows.fnClaimsRow.stops == [])) = true := by kernel_rfl
theorem joined6 : ((Try.prog.stops == [])) = true := by kernel_rfl
theorem joined7 : ((Rows.fnClaimsRow.knobs == [])) = true := by kernel_rfl
theorem joined8 : ((Try.prog.stopKnobs == [])) = true := by kernel_rfl
theorem joined9 : ((Rows.fnClaimsRow.inPlace == Try.prog.inPlace 14)) = true := by kernel_rfl
theorem joined10 : ((Rows.fnClaimsRow.unfollowed == Try.prog.unfollowed 14)) = true := by kernel_rfl
theorem joined11 : ((Rows.fnClaimsRow.recurses == Try.prog.recurses 14)) = true := by kernel_rfl
theorem joined12 : ((Rows.fnClaimsRow.named == Try.prog.varsNamed 14)) = true := by kernel_rfl
theorem joined13 : ((Rows.fnClaimsRow.maps == (Try.f14.params.toList ++ Rows.fnClaimsSpec.plain.varTypes Try.prog).any (Try.prog.mapsRec ·))) = true := by kernel_rfl
theorem joined14 : ((Rows.fnClaimsRow.ifaces == (Try.f14.params.toList ++ Rows.fnClaimsSpec.plain.varTypes Try.prog).any (Try.prog.ifacesRec ·))) = true := by kernel_rfl
theorem joined15 : ((Rows.fnClaimsRow.mapsOut == Try.prog.mapsAmong Try.f14.resultTypes.toList)) = true := by kernel_rfl
theorem joined16 : ((Rows.fnClaimsRow.loops == (Try.f14.params.toList ++ Rows.fnClaimsSpec.plain.varTypes Try.prog).any (Try.prog.loopsFrom ·))) = true := by kernel_rfl
theorem joined17 : ((Rows.fnClaimsRow.wideKeys == (Try.f14.params.toList ++ Rows.fnClaimsSpec.plain.varTypes Try.prog ++ Try.f14.resultTypes.toList).any (Try.prog.wideKeysFrom ·))) = true := by kernel_rfl
theorem joined18 : (Rows.fnClaimsSpec.vars.all (Try.prog.varReadable ·)) = true := by kernel_rfl
theorem joined19 : (Try.f14.resultTypes.all (fun t => Try.prog.readableRec t && decide (t < Try.prog.types.size))) = true := by kernel_rfl
theorem joined20 : ((Rows.fnClaimsRow.ifacesOut == Try.f14.resultTypes.toList.any (Try.prog.ifacesRec ·))) = true := by kernel_rfl
theorem joined21 : ((Rows.fnClaimsRow.loopsOut == Try.f14.resultTypes.toList.any (Try.prog.loopsFrom ·))) = true := by kernel_rfl
theorem joined22 : ((Rows.fnClaimsRow.plainKeys == Try.prog.plainKeys)) = true := by kernel_rfl
theorem joined23 : (Rows.fnClaimsRow.shortTexts.isNone) = true := by kernel_rfl
theorem joined24 : (Try.prog.stopsHeard) = true := Try.heardT
theorem joined25 : (Try.prog.mayEnter) = true := Try.mayEnterT
theorem joined26 : ((Rows.fnClaimsRow.lifted == Try.prog.liftsFinal)) = true := (by rw [Try.liftsF]; rfl)
theorem joined27 : ((Try.prog.make == some Rows.fnClaimsRow.make)) = true := (by rw [Try.makeC]; rfl)
theorem joined28 : ((Rows.fnClaimsRow.kinds == (if Rows.fnClaimsRow.domain.isEmpty then [] else Try.f14.params.toList.map fun t => match Try.prog.underlying t with | some (.int k) => some k | _ => none))) = true := by kernel_rfl
theorem joined29 : ((Rows.fnClaimsRow.pinned == Rows.fnClaimsRow.pinnedBy)) = true := by kernel_rfl
theorem joined30 : ((Rows.fnClaimsRow.veiled == (Try.f14.params.toList ++ Rows.fnClaimsSpec.plain.varTypes Try.prog ++ Try.f14.resultTypes.toList).any (Try.prog.veiledRec ·))) = true := by kernel_rfl
theorem joined31 : (Rows.fnClaimsRow.veiledFits Try.prog Try.f14.params.toList (Try.f14.params.toList ++ Rows.fnClaimsSpec.plain.varTypes Try.prog ++ Try.f14.resultTypes.toList)) = true := by kernel_rfl
set_option maxRecDepth 100000 in
theorem joined : joinedFacts Try.prog 14 Try.f14 Rows.fnClaimsSpec Rows.fnClaimsRow = true := by
  unfold joinedFacts
  exact andT (andT (andT (andT (andT (andT (andT (andT (andT (andT (andT (andT (andT (andT (andT (andT (andT (andT (andT (andT (andT (andT (andT (andT (andT (andT (andT (andT (andT (andT (andT (joined0) joined1) joined2) joined3) joined4) joined5) joined6) joined7) joined8) joined9) joined10) joined11) joined12) joined13) joined14) joined15) joined16) joined17) joined18) joined19) joined20) joined21) joined22) joined23) joined24) joined25) joined26) joined27) joined28) joined29) joined30) joined31
theorem over : Rows.fnClaimsRow.holds Try.pinned (OpenSpec.ofChange Rows.fnClaimsSpec) :=
  OpenClaim.holds_of_wide 14 Try.f14 rfl rfl rfl rfl rfl rfl rfl ⟨rfl, rfl, rfl, rfl, rfl⟩ rfl rfl rfl rfl rfl (by kernel_rfl) Try.func14 joined
    (of_decide_eq_true (by kernel_rfl)) (by unfold Func.isWrapper; first | (rw [if_pos (by decide +kernel)]; kernel_rfl) | (rw [if_neg (by decide +kernel)]; exact ⟨rfl, rfl⟩))
    (fun os started H enc _ => lifted os started H enc)
end fnClaims

theorem fnClaims_holds : Rows.FnClaimsSaid := fnClaims.over
#print axioms fnClaims_holds
end Go.Proofs.Ytkmmkgpnlmdcfaa
