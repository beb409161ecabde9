/- The functions in compact form, printed by a program (CcDump.lean). -/
import Derived.Test.YtbilpaghpgomeaaAb25
import Derived.Test.YtbilpaghpgomeaaRows
set_option linter.unusedVariables false
namespace Go.Ab
open Go.Proofs

def c_gosem_cut_init : CC :=
  (.reg [.o (.call (some 0) (cf 1) [])])
theorem fun_gosem_cut_init {rin : List T} {args : List A} {Q : List T → T → Prop} (ha : args.length ≤ 1) (h : cW Try.prog 1 c_gosem_cut_init (retP Try.prog [] rin.length Q) (St.of (enum 0 args) (enum 1000000000 rin))) :
    Fun Try.prog 2 rin args Q :=
  Fun.of Try.func2 rfl rfl rfl (by kernel_rfl) ha (by decide) h

def c_laws_FnExactIsMatrix : CC :=
  (.seq (.reg [.o (.move 2 (cb false))])
  ((.seq (.reg [.o (.move 3 (ci 1048576))])
  ((.seq (.reg [.o (.move 7 (sl 0)),
     .o (.move 8 (sl 3)),
     .o (.call (some 9) (cf 15) [(sl 7), (sl 8)]),
     .o (.move 3 (sl 9))])
  ((.seq (.seq (.reg [.o (.move 10 (sl 3)),
      .o (.bin 11 .lss (sl 10) (ci 0))])
   ((.cond (sl 11) (.seq (.reg [.o (.move 2 (cb true))])
    (.ret))
    .skip)))
  ((.seq (.reg [.o (.move 12 (sl 0)),
     .o (.call (some 13) (cf 17) [(sl 12)]),
     .o (.call (some 14) (cf 16) [(sl 13)]),
     .o (.move 4 (sl 14))])
  ((.seq (.reg [.o (.move 15 (sl 0)),
     .o (.call (some 16) (cf 17) [(sl 15)]),
     .o (.move 5 (sl 16))])
  ((.seq (.reg [.o (.move 17 (sl 5)),
     .o (.call (some 18) (cf 18) [(sl 17)]),
     .o (.move 6 (sl 18))])
  ((.seq (.seq (.reg [.o (.move 19 (sl 6)),
      .o (.move 20 (sl 4)),
      .o (.beq 21 true (sl 19) (sl 20))])
   ((.cond (sl 21) (.seq (.reg [.o (.move 2 (cb false))])
    (.ret))
    .skip)))
  ((.seq (.seq (.reg [.o (.move 22 (sl 5)),
      .o (.move 23 (sl 0)),
      .o (.call (some 24) (cf 17) [(sl 23)]),
      .o (.call (some 25) (cf 19) [(sl 22), (sl 24)]),
      .o (.un 26 .not (sl 25))])
   ((.cond (sl 26) (.seq (.reg [.o (.move 2 (cb false))])
    (.ret))
    .skip)))
  ((.seq (.reg [.o (.move 2 (cb true))])
  (.ret))))))))))))))))))))
theorem fun_laws_FnExactIsMatrix {rin : List T} {args : List A} {Q : List T → T → Prop} (ha : args.length ≤ 27) (h : cW Try.prog 27 c_laws_FnExactIsMatrix (retP Try.prog [.tmp 2] rin.length Q) (St.of (enum 0 args) (enum 1000000000 rin))) :
    Fun Try.prog 3 rin args Q :=
  Fun.of Try.func3 rfl rfl rfl (by kernel_rfl) ha (by decide) h

def c_laws_FnExactHalvedWeights : CC :=
  (.seq (.reg [.o (.move 2 (cb false))])
  ((.seq (.seq (.reg [.o (.move 13 (sl 0)),
      .o (.lenS 14 (sl 13)),
      .o (.bin 15 .gtr (sl 14) (ci 1048576))])
   ((.cond (sl 15) (.seq (.reg [.o (.move 2 (cb true))])
    (.ret))
    .skip)))
  ((.seq (.reg [.o (.move 17 (sl 0)),
     .o (.call (some 18) (cf 21) [(sl 17)]),
     .o (.call (some 19) (cf 20) [(sl 18)]),
     .o (.move 16 (sl 19)),
     .o (.extract 20 (sl 16) 0),
     .o (.extract 21 (sl 16) 1),
     .o (.move 3 (sl 20)),
     .o (.move 4 (sl 21))])
  ((.seq (.reg [.o (.move 22 (sl 0)),
     .o (.call (some 23) (cf 21) [(sl 22)]),
     .o (.move 5 (sl 23))])
  ((.seq (.reg [.o (.move 25 (sl 5)),
     .o (.call (some 26) (cf 22) [(sl 25)]),
     .o (.move 24 (sl 26)),
     .o (.extract 27 (sl 24) 0),
     .o (.extract 28 (sl 24) 1),
     .o (.move 6 (sl 27)),
     .o (.move 7 (sl 28))])
  ((.seq (.seq (.reg [.o (.move 29 (sl 6)),
      .o (.move 30 (sl 3)),
      .o (.call (some 31) (cf 23) [(sl 29), (sl 30)]),
      .o (.un 32 .not (sl 31)),
      .o (.move 33 (sl 32)),
      .g 33 false (some 34) (.move 34 (sl 7)),
      .g 33 false (some 35) (.move 35 (sl 4)),
      .g 33 false (some 36) (.bin 36 .neq (sl 34) (sl 35)),
      .o (.pick 37 (sl 33) (cb true) (sl 36))])
   ((.cond (sl 37) (.seq (.reg [.o (.move 2 (cb false))])
    (.ret))
    .skip)))
  ((.seq (.seq (.reg [.o (.move 38 (sl 5)),
      .o (.move 39 (sl 0)),
      .o (.call (some 40) (cf 21) [(sl 39)]),
      .o (.call (some 41) (cf 23) [(sl 38), (sl 40)]),
      .o (.un 42 .not (sl 41))])
   ((.cond (sl 42) (.seq (.reg [.o (.move 2 (cb false))])
    (.ret))
    .skip)))
  ((.seq (.reg [.o (.move 8 (ci 1))])
  ((.seq (.reg [.o (.move 43 (sl 5)),
     .o (.move 44 (sl 8)),
     .o (.call (some 45) (cf 24) [(sl 43), (sl 44)]),
     .o (.move 8 (sl 45))])
  ((.seq (.seq (.reg [.o (.move 46 (sl 8)),
      .o (.bin 47 .lss (sl 46) (ci 0)),
      .o (.move 48 (sl 47)),
      .g 48 false (some 49) (.move 49 (sl 6)),
      .g 48 false (some 50) (.move 50 (sl 3)),
      .g 48 false (some 51) (.call (some 51) (cf 23) [(sl 49), (sl 50)]),
      .g 48 false (some 52) (.un 52 .not (sl 51)),
      .o (.pick 53 (sl 48) (cb true) (sl 52)),
      .o (.move 54 (sl 53)),
      .g 54 false (some 55) (.move 55 (sl 7)),
      .g 54 false (some 56) (.move 56 (sl 4)),
      .g 54 false (some 57) (.bin 57 .neq (sl 55) (sl 56)),
      .o (.pick 58 (sl 54) (cb true) (sl 57))])
   ((.cond (sl 58) (.seq (.reg [.o (.move 2 (cb false))])
    (.ret))
    .skip)))
  ((.seq (.reg [.o (.move 9 (ci 1))])
  ((.seq (.reg [.o (.move 59 (sl 6)),
     .o (.move 60 (sl 9)),
     .o (.call (some 61) (cf 24) [(sl 59), (sl 60)]),
     .o (.move 9 (sl 61))])
  ((.seq (.reg [.o (.move 10 (ci 1))])
  ((.seq (.reg [.o (.move 62 (sl 6)),
     .o (.move 63 (sl 10)),
     .o (.call (some 64) (cf 25) [(sl 62), (sl 63)]),
     .o (.move 10 (sl 64))])
  ((.seq (.seq (.reg [.o (.move 65 (sl 10)),
      .o (.bin 66 .lss (sl 65) (ci 0))])
   ((.cond (sl 66) (.seq (.reg [.o (.move 2 (cb false))])
    (.ret))
    .skip)))
  ((.seq (.seq (.reg [.o (.move 67 (sl 10)),
      .o (.move 68 (sl 9)),
      .o (.bin 69 .neq (sl 67) (sl 68))])
   ((.cond (sl 69) (.seq (.reg [.o (.move 2 (cb false))])
    (.ret))
    .skip)))
  ((.seq (.reg [.o (.move 71 (sl 0)),
     .o (.call (some 72) (cf 21) [(sl 71)]),
     .o (.call (some 73) (cf 22) [(sl 72)]),
     .o (.move 70 (sl 73)),
     .o (.extract 74 (sl 70) 0),
     .o (.extract 75 (sl 70) 1),
     .o (.move 11 (sl 74)),
     .o (.move 12 (sl 75))])
  ((.seq (.seq (.reg [.o (.move 76 (sl 11)),
      .o (.move 77 (sl 3)),
      .o (.call (some 78) (cf 23) [(sl 76), (sl 77)]),
      .o (.un 79 .not (sl 78)),
      .o (.move 80 (sl 79)),
      .g 80 false (some 81) (.move 81 (sl 12)),
      .g 80 false (some 82) (.move 82 (sl 4)),
      .g 80 false (some 83) (.bin 83 .neq (sl 81) (sl 82)),
      .o (.pick 84 (sl 80) (cb true) (sl 83))])
   ((.cond (sl 84) (.seq (.reg [.o (.move 2 (cb false))])
    (.ret))
    .skip)))
  ((.seq (.reg [.o (.move 10 (ci 1))])
  ((.seq (.reg [.o (.move 85 (sl 6)),
     .o (.move 86 (sl 10)),
     .o (.call (some 87) (cf 25) [(sl 85), (sl 86)]),
     .o (.move 10 (sl 87))])
  ((.seq (.seq (.reg [.o (.move 88 (sl 10)),
      .o (.bin 89 .lss (sl 88) (ci 0))])
   ((.cond (sl 89) (.seq (.reg [.o (.move 2 (cb false))])
    (.ret))
    .skip)))
  ((.seq (.seq (.reg [.o (.move 90 (sl 10)),
      .o (.move 91 (sl 9)),
      .o (.bin 92 .neq (sl 90) (sl 91))])
   ((.cond (sl 92) (.seq (.reg [.o (.move 2 (cb false))])
    (.ret))
    .skip)))
  ((.seq (.reg [.o (.move 2 (cb true))])
  (.ret))))))))))))))))))))))))))))))))))))))))))))))
theorem fun_laws_FnExactHalvedWeights {rin : List T} {args : List A} {Q : List T → T → Prop} (ha : args.length ≤ 93) (h : cW Try.prog 93 c_laws_FnExactHalvedWeights (retP Try.prog [.tmp 2] rin.length Q) (St.of (enum 0 args) (enum 1000000000 rin))) :
    Fun Try.prog 4 rin args Q :=
  Fun.of Try.func4 rfl rfl rfl (by kernel_rfl) ha (by decide) h

def c_laws_FnExactIsMix : CC :=
  (.seq (.reg [.o (.move 4 (cb false))])
  ((.seq (.reg [.o (.move 5 (ci 1048576))])
  ((.seq (.reg [.o (.move 9 (sl 0)),
     .o (.move 10 (sl 5)),
     .o (.call (some 11) (cf 26) [(sl 9), (sl 10)]),
     .o (.move 5 (sl 11))])
  ((.seq (.seq (.reg [.o (.move 12 (sl 5)),
      .o (.bin 13 .lss (sl 12) (ci 0))])
   ((.cond (sl 13) (.seq (.reg [.o (.move 4 (cb true))])
    (.ret))
    .skip)))
  ((.seq (.reg [.o (.move 14 (sl 0)),
     .o (.call (some 15) (cf 28) [(sl 14)]),
     .o (.move 16 (sl 1)),
     .o (.call (some 17) (cf 27) [(sl 15), (sl 16)]),
     .o (.move 6 (sl 17))])
  ((.seq (.reg [.o (.move 18 (sl 0)),
     .o (.call (some 19) (cf 28) [(sl 18)]),
     .o (.move 7 (sl 19))])
  ((.seq (.reg [.o (.move 20 (sl 7)),
     .o (.move 21 (sl 1)),
     .o (.call (some 22) (cf 29) [(sl 20), (sl 21)]),
     .o (.move 8 (sl 22))])
  ((.seq (.seq (.reg [.o (.move 23 (sl 8)),
      .o (.move 24 (sl 6)),
      .o (.beq 25 true (sl 23) (sl 24))])
   ((.cond (sl 25) (.seq (.reg [.o (.move 4 (cb false))])
    (.ret))
    .skip)))
  ((.seq (.seq (.reg [.o (.move 26 (sl 7)),
      .o (.move 27 (sl 0)),
      .o (.call (some 28) (cf 28) [(sl 27)]),
      .o (.call (some 29) (cf 30) [(sl 26), (sl 28)]),
      .o (.un 30 .not (sl 29))])
   ((.cond (sl 30) (.seq (.reg [.o (.move 4 (cb false))])
    (.ret))
    .skip)))
  ((.seq (.reg [.o (.move 4 (cb true))])
  (.ret))))))))))))))))))))
theorem fun_laws_FnExactIsMix {rin : List T} {args : List A} {Q : List T → T → Prop} (ha : args.length ≤ 31) (h : cW Try.prog 31 c_laws_FnExactIsMix (retP Try.prog [.tmp 4] rin.length Q) (St.of (enum 0 args) (enum 1000000000 rin))) :
    Fun Try.prog 5 rin args Q :=
  Fun.of Try.func5 rfl rfl rfl (by kernel_rfl) ha (by decide) h

def c_laws_FnExactDominatedRows : CC :=
  (.seq (.reg [.o (.move 2 (cb false))])
  ((.seq (.reg [.o (.move 3 (ci 1048576))])
  ((.seq (.reg [.o (.move 14 (sl 0)),
     .o (.move 15 (sl 3)),
     .o (.call (some 16) (cf 15) [(sl 14), (sl 15)]),
     .o (.move 3 (sl 16))])
  ((.seq (.seq (.reg [.o (.move 17 (sl 3)),
      .o (.bin 18 .lss (sl 17) (ci 0))])
   ((.cond (sl 18) (.seq (.reg [.o (.move 2 (cb true))])
    (.ret))
    .skip)))
  ((.seq (.reg [.o (.move 20 (sl 0)),
     .o (.call (some 21) (cf 17) [(sl 20)]),
     .o (.call (some 22) (cf 31) [(sl 21)]),
     .o (.move 19 (sl 22)),
     .o (.extract 23 (sl 19) 0),
     .o (.extract 24 (sl 19) 1),
     .o (.move 4 (sl 23)),
     .o (.move 5 (sl 24))])
  ((.seq (.reg [.o (.move 25 (sl 0)),
     .o (.call (some 26) (cf 17) [(sl 25)]),
     .o (.move 6 (sl 26))])
  ((.seq (.reg [.o (.move 28 (sl 6)),
     .o (.call (some 29) (cf 32) [(sl 28)]),
     .o (.move 27 (sl 29)),
     .o (.extract 30 (sl 27) 0),
     .o (.extract 31 (sl 27) 1),
     .o (.move 7 (sl 30)),
     .o (.move 8 (sl 31))])
  ((.seq (.seq (.reg [.o (.move 32 (sl 7)),
      .o (.move 33 (sl 4)),
      .o (.call (some 34) (cf 23) [(sl 32), (sl 33)]),
      .o (.un 35 .not (sl 34)),
      .o (.move 36 (sl 35)),
      .g 36 false (some 37) (.move 37 (sl 8)),
      .g 36 false (some 38) (.move 38 (sl 5)),
      .g 36 false (some 39) (.bin 39 .neq (sl 37) (sl 38)),
      .o (.pick 40 (sl 36) (cb true) (sl 39))])
   ((.cond (sl 40) (.seq (.reg [.o (.move 2 (cb false))])
    (.ret))
    .skip)))
  ((.seq (.seq (.reg [.o (.move 41 (sl 6)),
      .o (.move 42 (sl 0)),
      .o (.call (some 43) (cf 17) [(sl 42)]),
      .o (.call (some 44) (cf 19) [(sl 41), (sl 43)]),
      .o (.un 45 .not (sl 44))])
   ((.cond (sl 45) (.seq (.reg [.o (.move 2 (cb false))])
    (.ret))
    .skip)))
  ((.seq (.reg [.o (.move 9 (ci 1))])
  ((.seq (.reg [.o (.move 46 (sl 6)),
     .o (.move 47 (sl 9)),
     .o (.call (some 48) (cf 33) [(sl 46), (sl 47)]),
     .o (.move 9 (sl 48))])
  ((.seq (.seq (.reg [.o (.move 49 (sl 9)),
      .o (.bin 50 .lss (sl 49) (ci 0)),
      .o (.move 51 (sl 50)),
      .g 51 false (some 52) (.move 52 (sl 7)),
      .g 51 false (some 53) (.move 53 (sl 4)),
      .g 51 false (some 54) (.call (some 54) (cf 23) [(sl 52), (sl 53)]),
      .g 51 false (some 55) (.un 55 .not (sl 54)),
      .o (.pick 56 (sl 51) (cb true) (sl 55)),
      .o (.move 57 (sl 56)),
      .g 57 false (some 58) (.move 58 (sl 8)),
      .g 57 false (some 59) (.move 59 (sl 5)),
      .g 57 false (some 60) (.bin 60 .neq (sl 58) (sl 59)),
      .o (.pick 61 (sl 57) (cb true) (sl 60))])
   ((.cond (sl 61) (.seq (.reg [.o (.move 2 (cb false))])
    (.ret))
    .skip)))
  ((.seq (.reg [.o (.move 10 (ci 1))])
  ((.seq (.reg [.o (.move 62 (sl 7)),
     .o (.move 63 (sl 10)),
     .o (.call (some 64) (cf 24) [(sl 62), (sl 63)]),
     .o (.move 10 (sl 64))])
  ((.seq (.reg [.o (.move 11 (ci 1))])
  ((.seq (.reg [.o (.move 65 (sl 7)),
     .o (.move 66 (sl 11)),
     .o (.call (some 67) (cf 25) [(sl 65), (sl 66)]),
     .o (.move 11 (sl 67))])
  ((.seq (.seq (.reg [.o (.move 68 (sl 11)),
      .o (.bin 69 .lss (sl 68) (ci 0))])
   ((.cond (sl 69) (.seq (.reg [.o (.move 2 (cb false))])
    (.ret))
    .skip)))
  ((.seq (.seq (.reg [.o (.move 70 (sl 11)),
      .o (.move 71 (sl 10)),
      .o (.bin 72 .neq (sl 70) (sl 71))])
   ((.cond (sl 72) (.seq (.reg [.o (.move 2 (cb false))])
    (.ret))
    .skip)))
  ((.seq (.reg [.o (.move 74 (sl 0)),
     .o (.call (some 75) (cf 17) [(sl 74)]),
     .o (.call (some 76) (cf 32) [(sl 75)]),
     .o (.move 73 (sl 76)),
     .o (.extract 77 (sl 73) 0),
     .o (.extract 78 (sl 73) 1),
     .o (.move 12 (sl 77)),
     .o (.move 13 (sl 78))])
  ((.seq (.seq (.reg [.o (.move 79 (sl 12)),
      .o (.move 80 (sl 4)),
      .o (.call (some 81) (cf 23) [(sl 79), (sl 80)]),
      .o (.un 82 .not (sl 81)),
      .o (.move 83 (sl 82)),
      .g 83 false (some 84) (.move 84 (sl 13)),
      .g 83 false (some 85) (.move 85 (sl 5)),
      .g 83 false (some 86) (.bin 86 .neq (sl 84) (sl 85)),
      .o (.pick 87 (sl 83) (cb true) (sl 86))])
   ((.cond (sl 87) (.seq (.reg [.o (.move 2 (cb false))])
    (.ret))
    .skip)))
  ((.seq (.reg [.o (.move 11 (ci 1))])
  ((.seq (.reg [.o (.move 88 (sl 7)),
     .o (.move 89 (sl 11)),
     .o (.call (some 90) (cf 25) [(sl 88), (sl 89)]),
     .o (.move 11 (sl 90))])
  ((.seq (.seq (.reg [.o (.move 91 (sl 11)),
      .o (.bin 92 .lss (sl 91) (ci 0))])
   ((.cond (sl 92) (.seq (.reg [.o (.move 2 (cb false))])
    (.ret))
    .skip)))
  ((.seq (.seq (.reg [.o (.move 93 (sl 11)),
      .o (.move 94 (sl 10)),
      .o (.bin 95 .neq (sl 93) (sl 94))])
   ((.cond (sl 95) (.seq (.reg [.o (.move 2 (cb false))])
    (.ret))
    .skip)))
  ((.seq (.reg [.o (.move 2 (cb true))])
  (.ret))))))))))))))))))))))))))))))))))))))))))))))))))
theorem fun_laws_FnExactDominatedRows {rin : List T} {args : List A} {Q : List T → T → Prop} (ha : args.length ≤ 96) (h : cW Try.prog 96 c_laws_FnExactDominatedRows (retP Try.prog [.tmp 2] rin.length Q) (St.of (enum 0 args) (enum 1000000000 rin))) :
    Fun Try.prog 6 rin args Q :=
  Fun.of Try.func6 rfl rfl rfl (by kernel_rfl) ha (by decide) h

def c_laws_FnExactSaddlePoint : CC :=
  (.seq (.reg [.o (.move 2 (cb false))])
  ((.seq (.reg [.o (.move 3 (ci 1048576))])
  ((.seq (.reg [.o (.move 11 (sl 0)),
     .o (.move 12 (sl 3)),
     .o (.call (some 13) (cf 15) [(sl 11), (sl 12)]),
     .o (.move 3 (sl 13))])
  ((.seq (.seq (.reg [.o (.move 14 (sl 3)),
      .o (.bin 15 .lss (sl 14) (ci 0))])
   ((.cond (sl 15) (.seq (.reg [.o (.move 2 (cb true))])
    (.ret))
    .skip)))
  ((.seq (.reg [.o (.move 17 (sl 0)),
     .o (.call (some 18) (cf 17) [(sl 17)]),
     .o (.call (some 19) (cf 34) [(sl 18)]),
     .o (.move 16 (sl 19)),
     .o (.extract 20 (sl 16) 0),
     .o (.extract 21 (sl 16) 1),
     .o (.extract 22 (sl 16) 2),
     .o (.move 4 (sl 20)),
     .o (.move 5 (sl 21)),
     .o (.move 6 (sl 22))])
  ((.seq (.reg [.o (.move 23 (sl 0)),
     .o (.call (some 24) (cf 17) [(sl 23)]),
     .o (.move 7 (sl 24))])
  ((.seq (.reg [.o (.move 26 (sl 7)),
     .o (.call (some 27) (cf 35) [(sl 26)]),
     .o (.move 25 (sl 27)),
     .o (.extract 28 (sl 25) 0),
     .o (.extract 29 (sl 25) 1),
     .o (.extract 30 (sl 25) 2),
     .o (.move 8 (sl 28)),
     .o (.move 9 (sl 29)),
     .o (.move 10 (sl 30))])
  ((.seq (.seq (.reg [.o (.move 31 (sl 8)),
      .o (.move 32 (sl 4)),
      .o (.bin 33 .neq (sl 31) (sl 32)),
      .o (.move 34 (sl 33)),
      .g 34 false (some 35) (.move 35 (sl 9)),
      .g 34 false (some 36) (.move 36 (sl 5)),
      .g 34 false (some 37) (.bin 37 .neq (sl 35) (sl 36)),
      .o (.pick 38 (sl 34) (cb true) (sl 37)),
      .o (.move 39 (sl 38)),
      .g 39 false (some 40) (.move 40 (sl 10)),
      .g 39 false (some 41) (.move 41 (sl 6)),
      .g 39 false (some 42) (.bin 42 .neq (sl 40) (sl 41)),
      .o (.pick 43 (sl 39) (cb true) (sl 42))])
   ((.cond (sl 43) (.seq (.reg [.o (.move 2 (cb false))])
    (.ret))
    .skip)))
  ((.seq (.seq (.reg [.o (.move 44 (sl 7)),
      .o (.move 45 (sl 0)),
      .o (.call (some 46) (cf 17) [(sl 45)]),
      .o (.call (some 47) (cf 19) [(sl 44), (sl 46)]),
      .o (.un 48 .not (sl 47))])
   ((.cond (sl 48) (.seq (.reg [.o (.move 2 (cb false))])
    (.ret))
    .skip)))
  ((.seq (.reg [.o (.move 2 (cb true))])
  (.ret))))))))))))))))))))
theorem fun_laws_FnExactSaddlePoint {rin : List T} {args : List A} {Q : List T → T → Prop} (ha : args.length ≤ 49) (h : cW Try.prog 49 c_laws_FnExactSaddlePoint (retP Try.prog [.tmp 2] rin.length Q) (St.of (enum 0 args) (enum 1000000000 rin))) :
    Fun Try.prog 7 rin args Q :=
  Fun.of Try.func7 rfl rfl rfl (by kernel_rfl) ha (by decide) h

def c_laws_FnExactFlipMatrix : CC :=
  (.seq (.reg [.o (.move 2 (cb false))])
  ((.seq (.reg [.o (.move 3 (ci 1048576))])
  ((.seq (.reg [.o (.move 14 (sl 0)),
     .o (.move 15 (sl 3)),
     .o (.call (some 16) (cf 15) [(sl 14), (sl 15)]),
     .o (.move 3 (sl 16))])
  ((.seq (.seq (.reg [.o (.move 17 (sl 3)),
      .o (.bin 18 .lss (sl 17) (ci 0))])
   ((.cond (sl 18) (.seq (.reg [.o (.move 2 (cb true))])
    (.ret))
    .skip)))
  ((.seq (.reg [.o (.move 20 (sl 0)),
     .o (.call (some 21) (cf 17) [(sl 20)]),
     .o (.call (some 22) (cf 36) [(sl 21)]),
     .o (.move 19 (sl 22)),
     .o (.extract 23 (sl 19) 0),
     .o (.extract 24 (sl 19) 1),
     .o (.move 4 (sl 23)),
     .o (.move 5 (sl 24))])
  ((.seq (.reg [.o (.move 25 (sl 0)),
     .o (.call (some 26) (cf 17) [(sl 25)]),
     .o (.move 6 (sl 26))])
  ((.seq (.reg [.o (.move 28 (sl 6)),
     .o (.call (some 29) (cf 37) [(sl 28)]),
     .o (.move 27 (sl 29)),
     .o (.extract 30 (sl 27) 0),
     .o (.extract 31 (sl 27) 1),
     .o (.move 7 (sl 30)),
     .o (.move 8 (sl 31))])
  ((.seq (.seq (.reg [.o (.move 32 (sl 7)),
      .o (.move 33 (sl 4)),
      .o (.call (some 34) (cf 19) [(sl 32), (sl 33)]),
      .o (.un 35 .not (sl 34)),
      .o (.move 36 (sl 35)),
      .g 36 false (some 37) (.move 37 (sl 8)),
      .g 36 false (some 38) (.move 38 (sl 5)),
      .g 36 false (some 39) (.bin 39 .neq (sl 37) (sl 38)),
      .o (.pick 40 (sl 36) (cb true) (sl 39))])
   ((.cond (sl 40) (.seq (.reg [.o (.move 2 (cb false))])
    (.ret))
    .skip)))
  ((.seq (.seq (.reg [.o (.move 41 (sl 6)),
      .o (.move 42 (sl 0)),
      .o (.call (some 43) (cf 17) [(sl 42)]),
      .o (.call (some 44) (cf 19) [(sl 41), (sl 43)]),
      .o (.un 45 .not (sl 44))])
   ((.cond (sl 45) (.seq (.reg [.o (.move 2 (cb false))])
    (.ret))
    .skip)))
  ((.seq (.reg [.o (.move 9 (ci 1))])
  ((.seq (.reg [.o (.move 46 (sl 6)),
     .o (.move 47 (sl 9)),
     .o (.call (some 48) (cf 33) [(sl 46), (sl 47)]),
     .o (.move 9 (sl 48))])
  ((.seq (.seq (.reg [.o (.move 49 (sl 9)),
      .o (.bin 50 .lss (sl 49) (ci 0)),
      .o (.move 51 (sl 50)),
      .g 51 false (some 52) (.move 52 (sl 7)),
      .g 51 false (some 53) (.move 53 (sl 4)),
      .g 51 false (some 54) (.call (some 54) (cf 19) [(sl 52), (sl 53)]),
      .g 51 false (some 55) (.un 55 .not (sl 54)),
      .o (.pick 56 (sl 51) (cb true) (sl 55)),
      .o (.move 57 (sl 56)),
      .g 57 false (some 58) (.move 58 (sl 8)),
      .g 57 false (some 59) (.move 59 (sl 5)),
      .g 57 false (some 60) (.bin 60 .neq (sl 58) (sl 59)),
      .o (.pick 61 (sl 57) (cb true) (sl 60))])
   ((.cond (sl 61) (.seq (.reg [.o (.move 2 (cb false))])
    (.ret))
    .skip)))
  ((.seq (.reg [.o (.move 10 (ci 1))])
  ((.seq (.reg [.o (.move 62 (sl 7)),
     .o (.move 63 (sl 10)),
     .o (.call (some 64) (cf 33) [(sl 62), (sl 63)]),
     .o (.move 10 (sl 64))])
  ((.seq (.reg [.o (.move 11 (ci 1))])
  ((.seq (.reg [.o (.move 65 (sl 7)),
     .o (.move 66 (sl 11)),
     .o (.call (some 67) (cf 38) [(sl 65), (sl 66)]),
     .o (.move 11 (sl 67))])
  ((.seq (.seq (.reg [.o (.move 68 (sl 11)),
      .o (.bin 69 .lss (sl 68) (ci 0))])
   ((.cond (sl 69) (.seq (.reg [.o (.move 2 (cb false))])
    (.ret))
    .skip)))
  ((.seq (.seq (.reg [.o (.move 70 (sl 11)),
      .o (.move 71 (sl 10)),
      .o (.bin 72 .neq (sl 70) (sl 71))])
   ((.cond (sl 72) (.seq (.reg [.o (.move 2 (cb false))])
    (.ret))
    .skip)))
  ((.seq (.reg [.o (.move 74 (sl 0)),
     .o (.call (some 75) (cf 17) [(sl 74)]),
     .o (.call (some 76) (cf 37) [(sl 75)]),
     .o (.move 73 (sl 76)),
     .o (.extract 77 (sl 73) 0),
     .o (.extract 78 (sl 73) 1),
     .o (.move 12 (sl 77)),
     .o (.move 13 (sl 78))])
  ((.seq (.seq (.reg [.o (.move 79 (sl 12)),
      .o (.move 80 (sl 4)),
      .o (.call (some 81) (cf 19) [(sl 79), (sl 80)]),
      .o (.un 82 .not (sl 81)),
      .o (.move 83 (sl 82)),
      .g 83 false (some 84) (.move 84 (sl 13)),
      .g 83 false (some 85) (.move 85 (sl 5)),
      .g 83 false (some 86) (.bin 86 .neq (sl 84) (sl 85)),
      .o (.pick 87 (sl 83) (cb true) (sl 86))])
   ((.cond (sl 87) (.seq (.reg [.o (.move 2 (cb false))])
    (.ret))
    .skip)))
  ((.seq (.reg [.o (.move 11 (ci 1))])
  ((.seq (.reg [.o (.move 88 (sl 7)),
     .o (.move 89 (sl 11)),
     .o (.call (some 90) (cf 38) [(sl 88), (sl 89)]),
     .o (.move 11 (sl 90))])
  ((.seq (.seq (.reg [.o (.move 91 (sl 11)),
      .o (.bin 92 .lss (sl 91) (ci 0))])
   ((.cond (sl 92) (.seq (.reg [.o (.move 2 (cb false))])
    (.ret))
    .skip)))
  ((.seq (.seq (.reg [.o (.move 93 (sl 11)),
      .o (.move 94 (sl 10)),
      .o (.bin 95 .neq (sl 93) (sl 94))])
   ((.cond (sl 95) (.seq (.reg [.o (.move 2 (cb false))])
    (.ret))
    .skip)))
  ((.seq (.reg [.o (.move 2 (cb true))])
  (.ret))))))))))))))))))))))))))))))))))))))))))))))))))
theorem fun_laws_FnExactFlipMatrix {rin : List T} {args : List A} {Q : List T → T → Prop} (ha : args.length ≤ 96) (h : cW Try.prog 96 c_laws_FnExactFlipMatrix (retP Try.prog [.tmp 2] rin.length Q) (St.of (enum 0 args) (enum 1000000000 rin))) :
    Fun Try.prog 8 rin args Q :=
  Fun.of Try.func8 rfl rfl rfl (by kernel_rfl) ha (by decide) h

def c_laws_FnExactDeterminant : CC :=
  (.seq (.reg [.o (.move 2 (cb false))])
  ((.seq (.reg [.o (.move 3 (ci 1048576))])
  ((.seq (.reg [.o (.move 9 (sl 0)),
     .o (.move 10 (sl 3)),
     .o (.call (some 11) (cf 15) [(sl 9), (sl 10)]),
     .o (.move 3 (sl 11))])
  ((.seq (.seq (.reg [.o (.move 12 (sl 3)),
      .o (.bin 13 .lss (sl 12) (ci 0))])
   ((.cond (sl 13) (.seq (.reg [.o (.move 2 (cb true))])
    (.ret))
    .skip)))
  ((.seq (.reg [.o (.move 15 (sl 0)),
     .o (.call (some 16) (cf 17) [(sl 15)]),
     .o (.call (some 17) (cf 39) [(sl 16)]),
     .o (.move 14 (sl 17)),
     .o (.extract 18 (sl 14) 0),
     .o (.extract 19 (sl 14) 1),
     .o (.move 4 (sl 18)),
     .o (.move 5 (sl 19))])
  ((.seq (.reg [.o (.move 20 (sl 0)),
     .o (.call (some 21) (cf 17) [(sl 20)]),
     .o (.move 6 (sl 21))])
  ((.seq (.reg [.o (.move 23 (sl 6)),
     .o (.call (some 24) (cf 40) [(sl 23)]),
     .o (.move 22 (sl 24)),
     .o (.extract 25 (sl 22) 0),
     .o (.extract 26 (sl 22) 1),
     .o (.move 7 (sl 25)),
     .o (.move 8 (sl 26))])
  ((.seq (.seq (.reg [.o (.move 27 (sl 7)),
      .o (.move 28 (sl 4)),
      .o (.bin 29 .neq (sl 27) (sl 28)),
      .o (.move 30 (sl 29)),
      .g 30 false (some 31) (.move 31 (sl 8)),
      .g 30 false (some 32) (.move 32 (sl 5)),
      .g 30 false (some 33) (.bin 33 .neq (sl 31) (sl 32)),
      .o (.pick 34 (sl 30) (cb true) (sl 33))])
   ((.cond (sl 34) (.seq (.reg [.o (.move 2 (cb false))])
    (.ret))
    .skip)))
  ((.seq (.seq (.reg [.o (.move 35 (sl 6)),
      .o (.move 36 (sl 0)),
      .o (.call (some 37) (cf 17) [(sl 36)]),
      .o (.call (some 38) (cf 19) [(sl 35), (sl 37)]),
      .o (.un 39 .not (sl 38))])
   ((.cond (sl 39) (.seq (.reg [.o (.move 2 (cb false))])
    (.ret))
    .skip)))
  ((.seq (.reg [.o (.move 2 (cb true))])
  (.ret))))))))))))))))))))
theorem fun_laws_FnExactDeterminant {rin : List T} {args : List A} {Q : List T → T → Prop} (ha : args.length ≤ 40) (h : cW Try.prog 40 c_laws_FnExactDeterminant (retP Try.prog [.tmp 2] rin.length Q) (St.of (enum 0 args) (enum 1000000000 rin))) :
    Fun Try.prog 9 rin args Q :=
  Fun.of Try.func9 rfl rfl rfl (by kernel_rfl) ha (by decide) h

def c_laws_FnExactAdjugate : CC :=
  (.seq (.reg [.o (.move 2 (cb false))])
  ((.seq (.reg [.o (.move 3 (ci 1048576))])
  ((.seq (.reg [.o (.move 14 (sl 0)),
     .o (.move 15 (sl 3)),
     .o (.call (some 16) (cf 15) [(sl 14), (sl 15)]),
     .o (.move 3 (sl 16))])
  ((.seq (.seq (.reg [.o (.move 17 (sl 3)),
      .o (.bin 18 .lss (sl 17) (ci 0))])
   ((.cond (sl 18) (.seq (.reg [.o (.move 2 (cb true))])
    (.ret))
    .skip)))
  ((.seq (.reg [.o (.move 20 (sl 0)),
     .o (.call (some 21) (cf 17) [(sl 20)]),
     .o (.call (some 22) (cf 41) [(sl 21)]),
     .o (.move 19 (sl 22)),
     .o (.extract 23 (sl 19) 0),
     .o (.extract 24 (sl 19) 1),
     .o (.move 4 (sl 23)),
     .o (.move 5 (sl 24))])
  ((.seq (.reg [.o (.move 25 (sl 0)),
     .o (.call (some 26) (cf 17) [(sl 25)]),
     .o (.move 6 (sl 26))])
  ((.seq (.reg [.o (.move 28 (sl 6)),
     .o (.call (some 29) (cf 42) [(sl 28)]),
     .o (.move 27 (sl 29)),
     .o (.extract 30 (sl 27) 0),
     .o (.extract 31 (sl 27) 1),
     .o (.move 7 (sl 30)),
     .o (.move 8 (sl 31))])
  ((.seq (.seq (.reg [.o (.move 32 (sl 7)),
      .o (.move 33 (sl 4)),
      .o (.call (some 34) (cf 19) [(sl 32), (sl 33)]),
      .o (.un 35 .not (sl 34)),
      .o (.move 36 (sl 35)),
      .g 36 false (some 37) (.move 37 (sl 8)),
      .g 36 false (some 38) (.move 38 (sl 5)),
      .g 36 false (some 39) (.bin 39 .neq (sl 37) (sl 38)),
      .o (.pick 40 (sl 36) (cb true) (sl 39))])
   ((.cond (sl 40) (.seq (.reg [.o (.move 2 (cb false))])
    (.ret))
    .skip)))
  ((.seq (.seq (.reg [.o (.move 41 (sl 6)),
      .o (.move 42 (sl 0)),
      .o (.call (some 43) (cf 17) [(sl 42)]),
      .o (.call (some 44) (cf 19) [(sl 41), (sl 43)]),
      .o (.un 45 .not (sl 44))])
   ((.cond (sl 45) (.seq (.reg [.o (.move 2 (cb false))])
    (.ret))
    .skip)))
  ((.seq (.reg [.o (.move 9 (ci 1))])
  ((.seq (.reg [.o (.move 46 (sl 6)),
     .o (.move 47 (sl 9)),
     .o (.call (some 48) (cf 33) [(sl 46), (sl 47)]),
     .o (.move 9 (sl 48))])
  ((.seq (.seq (.reg [.o (.move 49 (sl 9)),
      .o (.bin 50 .lss (sl 49) (ci 0)),
      .o (.move 51 (sl 50)),
      .g 51 false (some 52) (.move 52 (sl 7)),
      .g 51 false (some 53) (.move 53 (sl 4)),
      .g 51 false (some 54) (.call (some 54) (cf 19) [(sl 52), (sl 53)]),
      .g 51 false (some 55) (.un 55 .not (sl 54)),
      .o (.pick 56 (sl 51) (cb true) (sl 55)),
      .o (.move 57 (sl 56)),
      .g 57 false (some 58) (.move 58 (sl 8)),
      .g 57 false (some 59) (.move 59 (sl 5)),
      .g 57 false (some 60) (.bin 60 .neq (sl 58) (sl 59)),
      .o (.pick 61 (sl 57) (cb true) (sl 60))])
   ((.cond (sl 61) (.seq (.reg [.o (.move 2 (cb false))])
    (.ret))
    .skip)))
  ((.seq (.reg [.o (.move 10 (ci 1))])
  ((.seq (.reg [.o (.move 62 (sl 7)),
     .o (.move 63 (sl 10)),
     .o (.call (some 64) (cf 33) [(sl 62), (sl 63)]),
     .o (.move 10 (sl 64))])
  ((.seq (.reg [.o (.move 11 (ci 1))])
  ((.seq (.reg [.o (.move 65 (sl 7)),
     .o (.move 66 (sl 11)),
     .o (.call (some 67) (cf 38) [(sl 65), (sl 66)]),
     .o (.move 11 (sl 67))])
  ((.seq (.seq (.reg [.o (.move 68 (sl 11)),
      .o (.bin 69 .lss (sl 68) (ci 0))])
   ((.cond (sl 69) (.seq (.reg [.o (.move 2 (cb false))])
    (.ret))
    .skip)))
  ((.seq (.seq (.reg [.o (.move 70 (sl 11)),
      .o (.move 71 (sl 10)),
      .o (.bin 72 .neq (sl 70) (sl 71))])
   ((.cond (sl 72) (.seq (.reg [.o (.move 2 (cb false))])
    (.ret))
    .skip)))
  ((.seq (.reg [.o (.move 74 (sl 0)),
     .o (.call (some 75) (cf 17) [(sl 74)]),
     .o (.call (some 76) (cf 42) [(sl 75)]),
     .o (.move 73 (sl 76)),
     .o (.extract 77 (sl 73) 0),
     .o (.extract 78 (sl 73) 1),
     .o (.move 12 (sl 77)),
     .o (.move 13 (sl 78))])
  ((.seq (.seq (.reg [.o (.move 79 (sl 12)),
      .o (.move 80 (sl 4)),
      .o (.call (some 81) (cf 19) [(sl 79), (sl 80)]),
      .o (.un 82 .not (sl 81)),
      .o (.move 83 (sl 82)),
      .g 83 false (some 84) (.move 84 (sl 13)),
      .g 83 false (some 85) (.move 85 (sl 5)),
      .g 83 false (some 86) (.bin 86 .neq (sl 84) (sl 85)),
      .o (.pick 87 (sl 83) (cb true) (sl 86))])
   ((.cond (sl 87) (.seq (.reg [.o (.move 2 (cb false))])
    (.ret))
    .skip)))
  ((.seq (.reg [.o (.move 11 (ci 1))])
  ((.seq (.reg [.o (.move 88 (sl 7)),
     .o (.move 89 (sl 11)),
     .o (.call (some 90) (cf 38) [(sl 88), (sl 89)]),
     .o (.move 11 (sl 90))])
  ((.seq (.seq (.reg [.o (.move 91 (sl 11)),
      .o (.bin 92 .lss (sl 91) (ci 0))])
   ((.cond (sl 92) (.seq (.reg [.o (.move 2 (cb false))])
    (.ret))
    .skip)))
  ((.seq (.seq (.reg [.o (.move 93 (sl 11)),
      .o (.move 94 (sl 10)),
      .o (.bin 95 .neq (sl 93) (sl 94))])
   ((.cond (sl 95) (.seq (.reg [.o (.move 2 (cb false))])
    (.ret))
    .skip)))
  ((.seq (.reg [.o (.move 2 (cb true))])
  (.ret))))))))))))))))))))))))))))))))))))))))))))))))))
theorem fun_laws_FnExactAdjugate {rin : List T} {args : List A} {Q : List T → T → Prop} (ha : args.length ≤ 96) (h : cW Try.prog 96 c_laws_FnExactAdjugate (retP Try.prog [.tmp 2] rin.length Q) (St.of (enum 0 args) (enum 1000000000 rin))) :
    Fun Try.prog 10 rin args Q :=
  Fun.of Try.func10 rfl rfl rfl (by kernel_rfl) ha (by decide) h

def c_laws_FnAdjugates : CC :=
  (.seq (.reg [.o (.move 2 (cb false))])
  ((.seq (.seq (.reg [.o (.move 19 (sl 0)),
      .o (.call (some 20) (cf 43) [(sl 19)])])
   ((.cond (sl 20) (.seq (.reg [.o (.move 2 (cb true))])
    (.ret))
    .skip)))
  ((.seq (.reg [.o (.move 21 (sl 0)),
     .o (.call (some 22) (cf 44) [(sl 21)]),
     .o (.move 3 (sl 22))])
  ((.seq (.reg [.o (.move 24 (sl 3)),
     .o (.call (some 25) (cf 42) [(sl 24)]),
     .o (.move 23 (sl 25)),
     .o (.extract 26 (sl 23) 0),
     .o (.extract 27 (sl 23) 1),
     .o (.move 4 (sl 26)),
     .o (.move 5 (sl 27))])
  ((.seq (.reg [.o (.move 29 (sl 3)),
     .o (.call (some 30) (cf 41) [(sl 29)]),
     .o (.move 28 (sl 30)),
     .o (.extract 31 (sl 28) 0),
     .o (.extract 32 (sl 28) 1),
     .o (.move 6 (sl 31)),
     .o (.move 7 (sl 32))])
  ((.seq (.reg [.o (.move 33 (sl 0)),
     .o (.call (some 34) (cf 45) [(sl 33)]),
     .o (.move 8 (sl 34))])
  ((.seq (.reg [.o (.move 36 (sl 8)),
     .o (.call (some 37) (cf 40) [(sl 36)]),
     .o (.move 35 (sl 37)),
     .o (.extract 38 (sl 35) 0),
     .o (.extract 39 (sl 35) 1),
     .o (.move 9 (sl 38)),
     .o (.move 10 (sl 39))])
  ((.seq (.reg [.o (.move 41 (sl 8)),
     .o (.call (some 42) (cf 39) [(sl 41)]),
     .o (.move 40 (sl 42)),
     .o (.extract 43 (sl 40) 0),
     .o (.extract 44 (sl 40) 1),
     .o (.move 11 (sl 43)),
     .o (.move 12 (sl 44))])
  ((.seq (.seq (.reg [.o (.move 45 (sl 5)),
      .o (.move 46 (sl 7)),
      .o (.bin 47 .neq (sl 45) (sl 46)),
      .o (.move 48 (sl 47)),
      .g 48 false (some 49) (.move 49 (sl 4)),
      .g 48 false (some 50) (.move 50 (sl 6)),
      .g 48 false (some 51) (.call (some 51) (cf 46) [(sl 49), (sl 50)]),
      .g 48 false (some 52) (.un 52 .not (sl 51)),
      .o (.pick 53 (sl 48) (cb true) (sl 52)),
      .o (.move 54 (sl 53)),
      .g 54 false (some 55) (.move 55 (sl 10)),
      .g 54 false (some 56) (.move 56 (sl 12)),
      .g 54 false (some 57) (.bin 57 .neq (sl 55) (sl 56)),
      .o (.pick 58 (sl 54) (cb true) (sl 57)),
      .o (.move 59 (sl 58)),
      .g 59 false (some 60) (.move 60 (sl 9)),
      .g 59 false (some 61) (.move 61 (sl 11)),
      .g 59 false (some 62) (.bin 62 .neq (sl 60) (sl 61)),
      .o (.pick 63 (sl 59) (cb true) (sl 62))])
   ((.cond (sl 63) (.seq (.reg [.o (.move 2 (cb false))])
    (.ret))
    .skip)))
  ((.seq (.seq (.reg [.o (.move 64 (sl 5)),
      .o (.bin 65 .neq (sl 64) (ci 0))])
   ((.cond (sl 65) (.seq (.reg [.o (.move 2 (cb true))])
    (.ret))
    .skip)))
  ((.seq (.reg [.o (.move 67 (sl 3)),
     .o (.call (some 68) (cf 40) [(sl 67)]),
     .o (.move 66 (sl 68)),
     .o (.extract 69 (sl 66) 0),
     .o (.extract 70 (sl 66) 1),
     .o (.move 13 (sl 69)),
     .o (.move 14 (sl 70))])
  ((.seq (.seq (.reg [.o (.move 71 (sl 14)),
      .o (.bin 72 .neq (sl 71) (ci 0))])
   ((.cond (sl 72) (.seq (.reg [.o (.move 2 (cb false))])
    (.ret))
    .skip)))
  ((.seq (.seq (.reg [.o (.move 15 (ci 0))])
   ((.block 0 (.loop (.seq (.seq (.reg [.o (.move 73 (sl 15)),
         .o (.move 74 (sl 3)),
         .o (.lenS 75 (sl 74)),
         .o (.bin 76 .lss (sl 73) (sl 75))])
      ((.cond (sl 76) .skip
       (.exit 0))))
     ((.seq (.block 1 (.seq (.reg [.o (.move 16 (ci 0))])
       ((.block 2 (.loop (.seq (.seq (.reg [.o (.move 79 (sl 16)),
             .o (.move 80 (sl 3)),
             .o (.lenS 81 (sl 80)),
             .o (.bin 82 .lss (sl 79) (sl 81))])
          ((.cond (sl 82) .skip
           (.exit 2))))
         ((.seq (.block 3 (.seq (.reg [.o (.move 17 (ci 0))])
           ((.seq (.seq (.reg [.o (.move 18 (ci 0))])
            ((.block 4 (.loop (.seq (.seq (.reg [.o (.move 85 (sl 18)),
                  .o (.move 86 (sl 3)),
                  .o (.lenS 87 (sl 86)),
                  .o (.bin 88 .lss (sl 85) (sl 87))])
               ((.cond (sl 88) .skip
                (.exit 4))))
              ((.seq (.block 5 (.draw [(.r, .o (.move 91 (sl 17))),
                  (.r, .o (.move 92 (sl 3))),
                  (.r, .o (.move 93 (sl 15))),
                  (.r, .o (.idx 94 1 (sl 92) (sl 93))),
                  (.r, .o (.load1 95 (sl 94))),
                  (.r, .o (.move 96 (sl 18))),
                  (.r, .o (.idx 97 1 (sl 95) (sl 96))),
                  (.r, .o (.load1 98 (sl 97))),
                  (.r, .o (.move 99 (sl 4))),
                  (.r, .o (.move 100 (sl 18))),
                  (.r, .o (.idx 101 1 (sl 99) (sl 100))),
                  (.r, .o (.load1 102 (sl 101))),
                  (.r, .o (.move 103 (sl 16))),
                  (.r, .o (.idx 104 1 (sl 102) (sl 103))),
                  (.r, .o (.load1 105 (sl 104))),
                  (.r, .o (.bin 106 .mul (sl 98) (sl 105))),
                  (.r, .o (.bin 107 .add (sl 91) (sl 106))),
                  (.r, .o (.move 17 (sl 107)))]))
              ((.reg [.o (.move 89 (sl 18)),
                .o (.bin 90 .add (sl 89) (ci 1)),
                .o (.move 18 (sl 90))])))))))))
           ((.seq (.reg [.o (.move 108 (sl 15)),
              .o (.move 109 (sl 16)),
              .o (.bin 110 .eql (sl 108) (sl 109)),
              .o (.move 111 (sl 110)),
              .g 111 true (some 112) (.move 112 (sl 17)),
              .g 111 true (some 113) (.move 113 (sl 13)),
              .g 111 true (some 114) (.bin 114 .neq (sl 112) (sl 113)),
              .o (.pick 115 (sl 111) (sl 114) (cb false)),
              .o (.move 116 (sl 115)),
              .g 116 false (some 117) (.move 117 (sl 15)),
              .g 116 false (some 118) (.move 118 (sl 16)),
              .g 116 false (some 119) (.bin 119 .neq (sl 117) (sl 118)),
              .g 116 false (some 120) (.move 120 (sl 119)),
              .g 120 true (some 121) (.move 121 (sl 17)),
              .g 120 true (some 122) (.bin 122 .neq (sl 121) (ci 0)),
              .g 116 false (some 123) (.pick 123 (sl 120) (sl 122) (cb false)),
              .o (.pick 124 (sl 116) (cb true) (sl 123))])
           ((.cond (sl 124) (.seq (.reg [.o (.move 2 (cb false))])
            (.ret))
            .skip))))))))
         ((.reg [.o (.move 83 (sl 16)),
           .o (.bin 84 .add (sl 83) (ci 1)),
           .o (.move 16 (sl 84))]))))))))))
     ((.reg [.o (.move 77 (sl 15)),
       .o (.bin 78 .add (sl 77) (ci 1)),
       .o (.move 15 (sl 78))])))))))))
  ((.seq (.reg [.o (.move 2 (cb true))])
  (.ret))))))))))))))))))))))))))))
theorem fun_laws_FnAdjugates {rin : List T} {args : List A} {Q : List T → T → Prop} (ha : args.length ≤ 125) (h : cW Try.prog 125 c_laws_FnAdjugates (retP Try.prog [.tmp 2] rin.length Q) (St.of (enum 0 args) (enum 1000000000 rin))) :
    Fun Try.prog 11 rin args Q :=
  Fun.of Try.func11 rfl rfl rfl (by kernel_rfl) ha (by decide) h

def c_laws_FnExactMatrixValue : CC :=
  (.seq (.reg [.o (.move 6 (cb false))])
  ((.seq (.reg [.o (.move 7 (ci 1048576))])
  ((.seq (.reg [.o (.move 15 (sl 0)),
     .o (.move 16 (sl 7)),
     .o (.call (some 17) (cf 15) [(sl 15), (sl 16)]),
     .o (.move 7 (sl 17))])
  ((.seq (.seq (.reg [.o (.move 18 (sl 7)),
      .o (.bin 19 .lss (sl 18) (ci 0))])
   ((.cond (sl 19) (.seq (.reg [.o (.move 6 (cb true))])
    (.ret))
    .skip)))
  ((.seq (.reg [.o (.move 20 (sl 1)),
     .o (.move 21 (sl 7)),
     .o (.call (some 22) (cf 26) [(sl 20), (sl 21)]),
     .o (.move 7 (sl 22))])
  ((.seq (.seq (.reg [.o (.move 23 (sl 7)),
      .o (.bin 24 .lss (sl 23) (ci 0))])
   ((.cond (sl 24) (.seq (.reg [.o (.move 6 (cb true))])
    (.ret))
    .skip)))
  ((.seq (.reg [.o (.move 25 (sl 2)),
     .o (.move 26 (sl 7)),
     .o (.call (some 27) (cf 26) [(sl 25), (sl 26)]),
     .o (.move 7 (sl 27))])
  ((.seq (.seq (.reg [.o (.move 28 (sl 7)),
      .o (.bin 29 .lss (sl 28) (ci 0))])
   ((.cond (sl 29) (.seq (.reg [.o (.move 6 (cb true))])
    (.ret))
    .skip)))
  ((.seq (.reg [.o (.move 31 (sl 0)),
     .o (.call (some 32) (cf 17) [(sl 31)]),
     .o (.move 33 (sl 1)),
     .o (.call (some 34) (cf 28) [(sl 33)]),
     .o (.move 35 (sl 2)),
     .o (.call (some 36) (cf 28) [(sl 35)]),
     .o (.call (some 37) (cf 47) [(sl 32), (sl 34), (sl 36)]),
     .o (.move 30 (sl 37)),
     .o (.extract 38 (sl 30) 0),
     .o (.extract 39 (sl 30) 1),
     .o (.alloc 8 [.v (.int .i64 0), .v (.int .i64 0)]),
     .o (.store 2 (sl 8) (sl 38)),
     .o (.move 9 (sl 39))])
  ((.seq (.reg [.o (.move 40 (sl 0)),
     .o (.call (some 41) (cf 17) [(sl 40)]),
     .o (.move 10 (sl 41))])
  ((.seq (.reg [.o (.move 42 (sl 1)),
     .o (.call (some 43) (cf 28) [(sl 42)]),
     .o (.move 11 (sl 43))])
  ((.seq (.reg [.o (.move 44 (sl 2)),
     .o (.call (some 45) (cf 28) [(sl 44)]),
     .o (.move 12 (sl 45))])
  ((.seq (.reg [.o (.move 47 (sl 10)),
     .o (.move 48 (sl 11)),
     .o (.move 49 (sl 12)),
     .o (.call (some 50) (cf 48) [(sl 47), (sl 48), (sl 49)]),
     .o (.move 46 (sl 50)),
     .o (.extract 51 (sl 46) 0),
     .o (.extract 52 (sl 46) 1),
     .o (.alloc 13 [.v (.int .i64 0), .v (.int .i64 0)]),
     .o (.store 2 (sl 13) (sl 51)),
     .o (.move 14 (sl 52))])
  ((.seq (.seq (.reg [.o (.loadN 53 2 (sl 13)),
      .o (.loadN 54 2 (sl 8)),
      .o (.call (some 55) (cf 49) [(sl 53), (sl 54)]),
      .o (.un 56 .not (sl 55)),
      .o (.move 57 (sl 56)),
      .g 57 false (some 58) (.move 58 (sl 14)),
      .g 57 false (some 59) (.move 59 (sl 9)),
      .g 57 false (some 60) (.bin 60 .neq (sl 58) (sl 59)),
      .o (.pick 61 (sl 57) (cb true) (sl 60))])
   ((.cond (sl 61) (.seq (.reg [.o (.move 6 (cb false))])
    (.ret))
    .skip)))
  ((.seq (.seq (.reg [.o (.move 62 (sl 10)),
      .o (.move 63 (sl 0)),
      .o (.call (some 64) (cf 17) [(sl 63)]),
      .o (.call (some 65) (cf 19) [(sl 62), (sl 64)]),
      .o (.un 66 .not (sl 65))])
   ((.cond (sl 66) (.seq (.reg [.o (.move 6 (cb false))])
    (.ret))
    .skip)))
  ((.seq (.seq (.reg [.o (.move 67 (sl 11)),
      .o (.move 68 (sl 1)),
      .o (.call (some 69) (cf 28) [(sl 68)]),
      .o (.call (some 70) (cf 30) [(sl 67), (sl 69)]),
      .o (.un 71 .not (sl 70))])
   ((.cond (sl 71) (.seq (.reg [.o (.move 6 (cb false))])
    (.ret))
    .skip)))
  ((.seq (.seq (.reg [.o (.move 72 (sl 12)),
      .o (.move 73 (sl 2)),
      .o (.call (some 74) (cf 28) [(sl 73)]),
      .o (.call (some 75) (cf 30) [(sl 72), (sl 74)]),
      .o (.un 76 .not (sl 75))])
   ((.cond (sl 76) (.seq (.reg [.o (.move 6 (cb false))])
    (.ret))
    .skip)))
  ((.seq (.reg [.o (.move 6 (cb true))])
  (.ret))))))))))))))))))))))))))))))))))))
theorem fun_laws_FnExactMatrixValue {rin : List T} {args : List A} {Q : List T → T → Prop} (ha : args.length ≤ 77) (h : cW Try.prog 77 c_laws_FnExactMatrixValue (retP Try.prog [.tmp 6] rin.length Q) (St.of (enum 0 args) (enum 1000000000 rin))) :
    Fun Try.prog 12 rin args Q :=
  Fun.of Try.func12 rfl rfl rfl (by kernel_rfl) ha (by decide) h

def c_laws_FnExactRowGains : CC :=
  (.seq (.reg [.o (.move 4 (cb false))])
  ((.seq (.reg [.o (.move 5 (ci 1048576))])
  ((.seq (.reg [.o (.move 17 (sl 0)),
     .o (.move 18 (sl 5)),
     .o (.call (some 19) (cf 15) [(sl 17), (sl 18)]),
     .o (.move 5 (sl 19))])
  ((.seq (.seq (.reg [.o (.move 20 (sl 5)),
      .o (.bin 21 .lss (sl 20) (ci 0))])
   ((.cond (sl 21) (.seq (.reg [.o (.move 4 (cb true))])
    (.ret))
    .skip)))
  ((.seq (.reg [.o (.move 22 (sl 1)),
     .o (.move 23 (sl 5)),
     .o (.call (some 24) (cf 26) [(sl 22), (sl 23)]),
     .o (.move 5 (sl 24))])
  ((.seq (.seq (.reg [.o (.move 25 (sl 5)),
      .o (.bin 26 .lss (sl 25) (ci 0))])
   ((.cond (sl 26) (.seq (.reg [.o (.move 4 (cb true))])
    (.ret))
    .skip)))
  ((.seq (.reg [.o (.move 28 (sl 0)),
     .o (.call (some 29) (cf 17) [(sl 28)]),
     .o (.move 30 (sl 1)),
     .o (.call (some 31) (cf 28) [(sl 30)]),
     .o (.call (some 32) (cf 50) [(sl 29), (sl 31)]),
     .o (.move 27 (sl 32)),
     .o (.extract 33 (sl 27) 0),
     .o (.extract 34 (sl 27) 1),
     .o (.move 6 (sl 33)),
     .o (.move 7 (sl 34))])
  ((.seq (.reg [.o (.move 35 (sl 0)),
     .o (.call (some 36) (cf 17) [(sl 35)]),
     .o (.move 8 (sl 36))])
  ((.seq (.reg [.o (.move 37 (sl 1)),
     .o (.call (some 38) (cf 28) [(sl 37)]),
     .o (.move 9 (sl 38))])
  ((.seq (.reg [.o (.move 40 (sl 8)),
     .o (.move 41 (sl 9)),
     .o (.call (some 42) (cf 51) [(sl 40), (sl 41)]),
     .o (.move 39 (sl 42)),
     .o (.extract 43 (sl 39) 0),
     .o (.extract 44 (sl 39) 1),
     .o (.move 10 (sl 43)),
     .o (.move 11 (sl 44))])
  ((.seq (.seq (.reg [.o (.move 45 (sl 10)),
      .o (.move 46 (sl 6)),
      .o (.call (some 47) (cf 30) [(sl 45), (sl 46)]),
      .o (.un 48 .not (sl 47)),
      .o (.move 49 (sl 48)),
      .g 49 false (some 50) (.move 50 (sl 11)),
      .g 49 false (some 51) (.move 51 (sl 7)),
      .g 49 false (some 52) (.bin 52 .neq (sl 50) (sl 51)),
      .o (.pick 53 (sl 49) (cb true) (sl 52))])
   ((.cond (sl 53) (.seq (.reg [.o (.move 4 (cb false))])
    (.ret))
    .skip)))
  ((.seq (.seq (.reg [.o (.move 54 (sl 8)),
      .o (.move 55 (sl 0)),
      .o (.call (some 56) (cf 17) [(sl 55)]),
      .o (.call (some 57) (cf 19) [(sl 54), (sl 56)]),
      .o (.un 58 .not (sl 57))])
   ((.cond (sl 58) (.seq (.reg [.o (.move 4 (cb false))])
    (.ret))
    .skip)))
  ((.seq (.seq (.reg [.o (.move 59 (sl 9)),
      .o (.move 60 (sl 1)),
      .o (.call (some 61) (cf 28) [(sl 60)]),
      .o (.call (some 62) (cf 30) [(sl 59), (sl 61)]),
      .o (.un 63 .not (sl 62))])
   ((.cond (sl 63) (.seq (.reg [.o (.move 4 (cb false))])
    (.ret))
    .skip)))
  ((.seq (.reg [.o (.move 12 (ci 1))])
  ((.seq (.reg [.o (.move 64 (sl 8)),
     .o (.move 65 (sl 12)),
     .o (.call (some 66) (cf 33) [(sl 64), (sl 65)]),
     .o (.move 12 (sl 66))])
  ((.seq (.reg [.o (.move 67 (sl 9)),
     .o (.move 68 (sl 12)),
     .o (.call (some 69) (cf 52) [(sl 67), (sl 68)]),
     .o (.move 12 (sl 69))])
  ((.seq (.seq (.reg [.o (.move 70 (sl 12)),
      .o (.bin 71 .lss (sl 70) (ci 0)),
      .o (.move 72 (sl 71)),
      .g 72 false (some 73) (.move 73 (sl 10)),
      .g 72 false (some 74) (.move 74 (sl 6)),
      .g 72 false (some 75) (.call (some 75) (cf 30) [(sl 73), (sl 74)]),
      .g 72 false (some 76) (.un 76 .not (sl 75)),
      .o (.pick 77 (sl 72) (cb true) (sl 76)),
      .o (.move 78 (sl 77)),
      .g 78 false (some 79) (.move 79 (sl 11)),
      .g 78 false (some 80) (.move 80 (sl 7)),
      .g 78 false (some 81) (.bin 81 .neq (sl 79) (sl 80)),
      .o (.pick 82 (sl 78) (cb true) (sl 81))])
   ((.cond (sl 82) (.seq (.reg [.o (.move 4 (cb false))])
    (.ret))
    .skip)))
  ((.seq (.reg [.o (.move 13 (ci 1))])
  ((.seq (.reg [.o (.move 83 (sl 10)),
     .o (.move 84 (sl 13)),
     .o (.call (some 85) (cf 52) [(sl 83), (sl 84)]),
     .o (.move 13 (sl 85))])
  ((.seq (.reg [.o (.move 14 (ci 1))])
  ((.seq (.reg [.o (.move 86 (sl 10)),
     .o (.move 87 (sl 14)),
     .o (.call (some 88) (cf 53) [(sl 86), (sl 87)]),
     .o (.move 14 (sl 88))])
  ((.seq (.seq (.reg [.o (.move 89 (sl 14)),
      .o (.bin 90 .lss (sl 89) (ci 0))])
   ((.cond (sl 90) (.seq (.reg [.o (.move 4 (cb false))])
    (.ret))
    .skip)))
  ((.seq (.seq (.reg [.o (.move 91 (sl 14)),
      .o (.move 92 (sl 13)),
      .o (.bin 93 .neq (sl 91) (sl 92))])
   ((.cond (sl 93) (.seq (.reg [.o (.move 4 (cb false))])
    (.ret))
    .skip)))
  ((.seq (.reg [.o (.move 95 (sl 0)),
     .o (.call (some 96) (cf 17) [(sl 95)]),
     .o (.move 97 (sl 1)),
     .o (.call (some 98) (cf 28) [(sl 97)]),
     .o (.call (some 99) (cf 51) [(sl 96), (sl 98)]),
     .o (.move 94 (sl 99)),
     .o (.extract 100 (sl 94) 0),
     .o (.extract 101 (sl 94) 1),
     .o (.move 15 (sl 100)),
     .o (.move 16 (sl 101))])
  ((.seq (.seq (.reg [.o (.move 102 (sl 15)),
      .o (.move 103 (sl 6)),
      .o (.call (some 104) (cf 30) [(sl 102), (sl 103)]),
      .o (.un 105 .not (sl 104)),
      .o (.move 106 (sl 105)),
      .g 106 false (some 107) (.move 107 (sl 16)),
      .g 106 false (some 108) (.move 108 (sl 7)),
      .g 106 false (some 109) (.bin 109 .neq (sl 107) (sl 108)),
      .o (.pick 110 (sl 106) (cb true) (sl 109))])
   ((.cond (sl 110) (.seq (.reg [.o (.move 4 (cb false))])
    (.ret))
    .skip)))
  ((.seq (.reg [.o (.move 14 (ci 1))])
  ((.seq (.reg [.o (.move 111 (sl 10)),
     .o (.move 112 (sl 14)),
     .o (.call (some 113) (cf 53) [(sl 111), (sl 112)]),
     .o (.move 14 (sl 113))])
  ((.seq (.seq (.reg [.o (.move 114 (sl 14)),
      .o (.bin 115 .lss (sl 114) (ci 0))])
   ((.cond (sl 115) (.seq (.reg [.o (.move 4 (cb false))])
    (.ret))
    .skip)))
  ((.seq (.seq (.reg [.o (.move 116 (sl 14)),
      .o (.move 117 (sl 13)),
      .o (.bin 118 .neq (sl 116) (sl 117))])
   ((.cond (sl 118) (.seq (.reg [.o (.move 4 (cb false))])
    (.ret))
    .skip)))
  ((.seq (.reg [.o (.move 4 (cb true))])
  (.ret))))))))))))))))))))))))))))))))))))))))))))))))))))))))))))
theorem fun_laws_FnExactRowGains {rin : List T} {args : List A} {Q : List T → T → Prop} (ha : args.length ≤ 119) (h : cW Try.prog 119 c_laws_FnExactRowGains (retP Try.prog [.tmp 4] rin.length Q) (St.of (enum 0 args) (enum 1000000000 rin))) :
    Fun Try.prog 13 rin args Q :=
  Fun.of Try.func13 rfl rfl rfl (by kernel_rfl) ha (by decide) h

def c_laws_FnExactColumnGains : CC :=
  (.seq (.reg [.o (.move 4 (cb false))])
  ((.seq (.reg [.o (.move 5 (ci 1048576))])
  ((.seq (.reg [.o (.move 17 (sl 0)),
     .o (.move 18 (sl 5)),
     .o (.call (some 19) (cf 15) [(sl 17), (sl 18)]),
     .o (.move 5 (sl 19))])
  ((.seq (.seq (.reg [.o (.move 20 (sl 5)),
      .o (.bin 21 .lss (sl 20) (ci 0))])
   ((.cond (sl 21) (.seq (.reg [.o (.move 4 (cb true))])
    (.ret))
    .skip)))
  ((.seq (.reg [.o (.move 22 (sl 1)),
     .o (.move 23 (sl 5)),
     .o (.call (some 24) (cf 26) [(sl 22), (sl 23)]),
     .o (.move 5 (sl 24))])
  ((.seq (.seq (.reg [.o (.move 25 (sl 5)),
      .o (.bin 26 .lss (sl 25) (ci 0))])
   ((.cond (sl 26) (.seq (.reg [.o (.move 4 (cb true))])
    (.ret))
    .skip)))
  ((.seq (.reg [.o (.move 28 (sl 0)),
     .o (.call (some 29) (cf 17) [(sl 28)]),
     .o (.move 30 (sl 1)),
     .o (.call (some 31) (cf 28) [(sl 30)]),
     .o (.call (some 32) (cf 54) [(sl 29), (sl 31)]),
     .o (.move 27 (sl 32)),
     .o (.extract 33 (sl 27) 0),
     .o (.extract 34 (sl 27) 1),
     .o (.move 6 (sl 33)),
     .o (.move 7 (sl 34))])
  ((.seq (.reg [.o (.move 35 (sl 0)),
     .o (.call (some 36) (cf 17) [(sl 35)]),
     .o (.move 8 (sl 36))])
  ((.seq (.reg [.o (.move 37 (sl 1)),
     .o (.call (some 38) (cf 28) [(sl 37)]),
     .o (.move 9 (sl 38))])
  ((.seq (.reg [.o (.move 40 (sl 8)),
     .o (.move 41 (sl 9)),
     .o (.call (some 42) (cf 55) [(sl 40), (sl 41)]),
     .o (.move 39 (sl 42)),
     .o (.extract 43 (sl 39) 0),
     .o (.extract 44 (sl 39) 1),
     .o (.move 10 (sl 43)),
     .o (.move 11 (sl 44))])
  ((.seq (.seq (.reg [.o (.move 45 (sl 10)),
      .o (.move 46 (sl 6)),
      .o (.call (some 47) (cf 30) [(sl 45), (sl 46)]),
      .o (.un 48 .not (sl 47)),
      .o (.move 49 (sl 48)),
      .g 49 false (some 50) (.move 50 (sl 11)),
      .g 49 false (some 51) (.move 51 (sl 7)),
      .g 49 false (some 52) (.bin 52 .neq (sl 50) (sl 51)),
      .o (.pick 53 (sl 49) (cb true) (sl 52))])
   ((.cond (sl 53) (.seq (.reg [.o (.move 4 (cb false))])
    (.ret))
    .skip)))
  ((.seq (.seq (.reg [.o (.move 54 (sl 8)),
      .o (.move 55 (sl 0)),
      .o (.call (some 56) (cf 17) [(sl 55)]),
      .o (.call (some 57) (cf 19) [(sl 54), (sl 56)]),
      .o (.un 58 .not (sl 57))])
   ((.cond (sl 58) (.seq (.reg [.o (.move 4 (cb false))])
    (.ret))
    .skip)))
  ((.seq (.seq (.reg [.o (.move 59 (sl 9)),
      .o (.move 60 (sl 1)),
      .o (.call (some 61) (cf 28) [(sl 60)]),
      .o (.call (some 62) (cf 30) [(sl 59), (sl 61)]),
      .o (.un 63 .not (sl 62))])
   ((.cond (sl 63) (.seq (.reg [.o (.move 4 (cb false))])
    (.ret))
    .skip)))
  ((.seq (.reg [.o (.move 12 (ci 1))])
  ((.seq (.reg [.o (.move 64 (sl 8)),
     .o (.move 65 (sl 12)),
     .o (.call (some 66) (cf 33) [(sl 64), (sl 65)]),
     .o (.move 12 (sl 66))])
  ((.seq (.reg [.o (.move 67 (sl 9)),
     .o (.move 68 (sl 12)),
     .o (.call (some 69) (cf 52) [(sl 67), (sl 68)]),
     .o (.move 12 (sl 69))])
  ((.seq (.seq (.reg [.o (.move 70 (sl 12)),
      .o (.bin 71 .lss (sl 70) (ci 0)),
      .o (.move 72 (sl 71)),
      .g 72 false (some 73) (.move 73 (sl 10)),
      .g 72 false (some 74) (.move 74 (sl 6)),
      .g 72 false (some 75) (.call (some 75) (cf 30) [(sl 73), (sl 74)]),
      .g 72 false (some 76) (.un 76 .not (sl 75)),
      .o (.pick 77 (sl 72) (cb true) (sl 76)),
      .o (.move 78 (sl 77)),
      .g 78 false (some 79) (.move 79 (sl 11)),
      .g 78 false (some 80) (.move 80 (sl 7)),
      .g 78 false (some 81) (.bin 81 .neq (sl 79) (sl 80)),
      .o (.pick 82 (sl 78) (cb true) (sl 81))])
   ((.cond (sl 82) (.seq (.reg [.o (.move 4 (cb false))])
    (.ret))
    .skip)))
  ((.seq (.reg [.o (.move 13 (ci 1))])
  ((.seq (.reg [.o (.move 83 (sl 10)),
     .o (.move 84 (sl 13)),
     .o (.call (some 85) (cf 52) [(sl 83), (sl 84)]),
     .o (.move 13 (sl 85))])
  ((.seq (.reg [.o (.move 14 (ci 1))])
  ((.seq (.reg [.o (.move 86 (sl 10)),
     .o (.move 87 (sl 14)),
     .o (.call (some 88) (cf 53) [(sl 86), (sl 87)]),
     .o (.move 14 (sl 88))])
  ((.seq (.seq (.reg [.o (.move 89 (sl 14)),
      .o (.bin 90 .lss (sl 89) (ci 0))])
   ((.cond (sl 90) (.seq (.reg [.o (.move 4 (cb false))])
    (.ret))
    .skip)))
  ((.seq (.seq (.reg [.o (.move 91 (sl 14)),
      .o (.move 92 (sl 13)),
      .o (.bin 93 .neq (sl 91) (sl 92))])
   ((.cond (sl 93) (.seq (.reg [.o (.move 4 (cb false))])
    (.ret))
    .skip)))
  ((.seq (.reg [.o (.move 95 (sl 0)),
     .o (.call (some 96) (cf 17) [(sl 95)]),
     .o (.move 97 (sl 1)),
     .o (.call (some 98) (cf 28) [(sl 97)]),
     .o (.call (some 99) (cf 55) [(sl 96), (sl 98)]),
     .o (.move 94 (sl 99)),
     .o (.extract 100 (sl 94) 0),
     .o (.extract 101 (sl 94) 1),
     .o (.move 15 (sl 100)),
     .o (.move 16 (sl 101))])
  ((.seq (.seq (.reg [.o (.move 102 (sl 15)),
      .o (.move 103 (sl 6)),
      .o (.call (some 104) (cf 30) [(sl 102), (sl 103)]),
      .o (.un 105 .not (sl 104)),
      .o (.move 106 (sl 105)),
      .g 106 false (some 107) (.move 107 (sl 16)),
      .g 106 false (some 108) (.move 108 (sl 7)),
      .g 106 false (some 109) (.bin 109 .neq (sl 107) (sl 108)),
      .o (.pick 110 (sl 106) (cb true) (sl 109))])
   ((.cond (sl 110) (.seq (.reg [.o (.move 4 (cb false))])
    (.ret))
    .skip)))
  ((.seq (.reg [.o (.move 14 (ci 1))])
  ((.seq (.reg [.o (.move 111 (sl 10)),
     .o (.move 112 (sl 14)),
     .o (.call (some 113) (cf 53) [(sl 111), (sl 112)]),
     .o (.move 14 (sl 113))])
  ((.seq (.seq (.reg [.o (.move 114 (sl 14)),
      .o (.bin 115 .lss (sl 114) (ci 0))])
   ((.cond (sl 115) (.seq (.reg [.o (.move 4 (cb false))])
    (.ret))
    .skip)))
  ((.seq (.seq (.reg [.o (.move 116 (sl 14)),
      .o (.move 117 (sl 13)),
      .o (.bin 118 .neq (sl 116) (sl 117))])
   ((.cond (sl 118) (.seq (.reg [.o (.move 4 (cb false))])
    (.ret))
    .skip)))
  ((.seq (.reg [.o (.move 4 (cb true))])
  (.ret))))))))))))))))))))))))))))))))))))))))))))))))))))))))))))
theorem fun_laws_FnExactColumnGains {rin : List T} {args : List A} {Q : List T → T → Prop} (ha : args.length ≤ 119) (h : cW Try.prog 119 c_laws_FnExactColumnGains (retP Try.prog [.tmp 4] rin.length Q) (St.of (enum 0 args) (enum 1000000000 rin))) :
    Fun Try.prog 14 rin args Q :=
  Fun.of Try.func14 rfl rfl rfl (by kernel_rfl) ha (by decide) h

def c_laws_szInt64SS : CC :=
  (.seq (.reg [.o (.move 4 (ci 0))])
  ((.seq (.reg [.o (.move 6 (sl 1)),
     .o (.move 7 (sl 0)),
     .o (.lenS 8 (sl 7)),
     .o (.bin 9 .sub (sl 6) (sl 8)),
     .o (.move 1 (sl 9))])
  ((.seq (.seq (.reg [.o (.move 10 (sl 1)),
      .o (.bin 11 .lss (sl 10) (ci 0))])
   ((.cond (sl 11) (.seq (.reg [.o (.move 4 (ci (-1)))])
    (.ret))
    .skip)))
  ((.seq (.seq (.reg [.o (.move 5 (ci 0))])
   ((.block 0 (.loop (.seq (.seq (.reg [.o (.move 12 (sl 5)),
         .o (.move 13 (sl 0)),
         .o (.lenS 14 (sl 13)),
         .o (.bin 15 .lss (sl 12) (sl 14))])
      ((.cond (sl 15) .skip
       (.exit 0))))
     ((.seq (.block 1 (.seq (.reg [.o (.move 18 (sl 0)),
          .o (.move 19 (sl 5)),
          .o (.idx 20 1 (sl 18) (sl 19)),
          .o (.load1 21 (sl 20)),
          .o (.move 22 (sl 1)),
          .o (.call (some 23) (cf 56) [(sl 21), (sl 22)]),
          .o (.move 1 (sl 23))])
       ((.seq (.reg [.o (.move 24 (sl 1)),
          .o (.bin 25 .lss (sl 24) (ci 0))])
       ((.cond (sl 25) (.seq (.reg [.o (.move 4 (ci (-1)))])
        (.ret))
        .skip))))))
     ((.reg [.o (.move 16 (sl 5)),
       .o (.bin 17 .add (sl 16) (ci 1)),
       .o (.move 5 (sl 17))])))))))))
  ((.seq (.reg [.o (.move 26 (sl 1)),
     .o (.move 4 (sl 26))])
  (.ret))))))))))
theorem fun_laws_szInt64SS {rin : List T} {args : List A} {Q : List T → T → Prop} (ha : args.length ≤ 27) (h : cW Try.prog 27 c_laws_szInt64SS (retP Try.prog [.tmp 4] rin.length Q) (St.of (enum 0 args) (enum 1000000000 rin))) :
    Fun Try.prog 15 rin args Q :=
  Fun.of Try.func15 rfl rfl rfl (by kernel_rfl) ha (by decide) h

def c_spec_IsMatrix : CC :=
  (.seq (.reg [.o (.move 2 (cb false))])
  ((.seq (.seq (.reg [.o (.move 5 (sl 0)),
      .o (.lenS 6 (sl 5)),
      .o (.call (some 7) (cf 57) [(sl 6), (ci 1), (ci 4)]),
      .o (.un 8 .not (sl 7)),
      .o (.move 9 (sl 8)),
      .g 9 false (some 10) (.move 10 (sl 0)),
      .g 9 false (some 11) (.idx 11 1 (sl 10) (ci 0)),
      .g 9 false (some 12) (.load1 12 (sl 11)),
      .g 9 false (some 13) (.lenS 13 (sl 12)),
      .g 9 false (some 14) (.call (some 14) (cf 57) [(sl 13), (ci 1), (ci 4)]),
      .g 9 false (some 15) (.un 15 .not (sl 14)),
      .o (.pick 16 (sl 9) (cb true) (sl 15))])
   ((.cond (sl 16) (.seq (.reg [.o (.move 2 (cb false))])
    (.ret))
    .skip)))
  ((.seq (.seq (.reg [.o (.move 3 (ci 0))])
   ((.block 0 (.loop (.seq (.seq (.reg [.o (.move 17 (sl 3)),
         .o (.move 18 (sl 0)),
         .o (.lenS 19 (sl 18)),
         .o (.bin 20 .lss (sl 17) (sl 19))])
      ((.cond (sl 20) .skip
       (.exit 0))))
     ((.seq (.block 1 (.seq (.seq (.draw [(.r, .o (.move 23 (sl 0))),
           (.r, .o (.move 24 (sl 3))),
           (.r, .o (.idx 25 1 (sl 23) (sl 24))),
           (.r, .o (.load1 26 (sl 25))),
           (.r, .o (.lenS 27 (sl 26))),
           (.r, .o (.move 28 (sl 0))),
           (.r, .o (.idx 29 1 (sl 28) (ci 0))),
           (.r, .o (.load1 30 (sl 29))),
           (.r, .o (.lenS 31 (sl 30))),
           (.r, .o (.bin 32 .neq (sl 27) (sl 31)))])
        ((.cond (sl 32) (.seq (.reg [.o (.move 2 (cb false))])
         (.ret))
         .skip)))
       ((.seq (.reg [.o (.move 4 (ci 0))])
       ((.block 2 (.loop (.seq (.seq (.reg [.o (.move 33 (sl 4)),
             .o (.move 34 (sl 0)),
             .o (.move 35 (sl 3)),
             .o (.idx 36 1 (sl 34) (sl 35)),
             .o (.load1 37 (sl 36)),
             .o (.lenS 38 (sl 37)),
             .o (.bin 39 .lss (sl 33) (sl 38))])
          ((.cond (sl 39) .skip
           (.exit 2))))
         ((.seq (.block 3 (.seq (.reg [.o (.move 42 (sl 0)),
              .o (.move 43 (sl 3)),
              .o (.idx 44 1 (sl 42) (sl 43)),
              .o (.load1 45 (sl 44)),
              .o (.move 46 (sl 4)),
              .o (.idx 47 1 (sl 45) (sl 46)),
              .o (.load1 48 (sl 47)),
              .o (.call (some 49) (cf 57) [(sl 48), (ci (-20)), (ci 20)]),
              .o (.un 50 .not (sl 49))])
           ((.cond (sl 50) (.seq (.reg [.o (.move 2 (cb false))])
            (.ret))
            .skip))))
         ((.reg [.o (.move 40 (sl 4)),
           .o (.bin 41 .add (sl 40) (ci 1)),
           .o (.move 4 (sl 41))]))))))))))))
     ((.reg [.o (.move 21 (sl 3)),
       .o (.bin 22 .add (sl 21) (ci 1)),
       .o (.move 3 (sl 22))])))))))))
  ((.seq (.reg [.o (.move 2 (cb true))])
  (.ret))))))))
theorem fun_spec_IsMatrix {rin : List T} {args : List A} {Q : List T → T → Prop} (ha : args.length ≤ 51) (h : cW Try.prog 51 c_spec_IsMatrix (retP Try.prog [.tmp 2] rin.length Q) (St.of (enum 0 args) (enum 1000000000 rin))) :
    Fun Try.prog 16 rin args Q :=
  Fun.of Try.func16 rfl rfl rfl (by kernel_rfl) ha (by decide) h

def c_laws_toInt64SS : CC :=
  (.seq (.reg [.o (.move 2 (cv (.slice none 0 0)))])
  ((.seq (.reg [.o (.move 5 (sl 0)),
     .o (.lenS 6 (sl 5)),
     .o (.make 7 [.v (.slice none 0 0)] 24 (sl 6) (sl 6)),
     .o (.move 3 (sl 7))])
  ((.seq (.seq (.reg [.o (.move 4 (ci 0))])
   ((.block 0 (.loop (.seq (.seq (.reg [.o (.move 8 (sl 4)),
         .o (.move 9 (sl 0)),
         .o (.lenS 10 (sl 9)),
         .o (.bin 11 .lss (sl 8) (sl 10))])
      ((.cond (sl 11) .skip
       (.exit 0))))
     ((.seq (.block 1 (.reg [.o (.move 14 (sl 3)),
         .o (.move 15 (sl 4)),
         .o (.move 16 (sl 0)),
         .o (.move 17 (sl 4)),
         .o (.idx 18 1 (sl 16) (sl 17)),
         .o (.load1 19 (sl 18)),
         .o (.call (some 20) (cf 21) [(sl 19)]),
         .o (.idx 21 1 (sl 14) (sl 15)),
         .o (.store 1 (sl 21) (sl 20))]))
     ((.reg [.o (.move 12 (sl 4)),
       .o (.bin 13 .add (sl 12) (ci 1)),
       .o (.move 4 (sl 13))])))))))))
  ((.seq (.reg [.o (.move 22 (sl 3)),
     .o (.move 2 (sl 22))])
  (.ret))))))))
theorem fun_laws_toInt64SS {rin : List T} {args : List A} {Q : List T → T → Prop} (ha : args.length ≤ 23) (h : cW Try.prog 23 c_laws_toInt64SS (retP Try.prog [.tmp 2] rin.length Q) (St.of (enum 0 args) (enum 1000000000 rin))) :
    Fun Try.prog 17 rin args Q :=
  Fun.of Try.func17 rfl rfl rfl (by kernel_rfl) ha (by decide) h

def c_impl_IsMatrix : CC :=
  (.seq (.reg [.o (.box 1 (sl 0)),
     .o (.move 2 (cb false))])
  ((.seq (.seq (.reg [.o (.load1 3 (sl 1)),
      .o (.lenS 4 (sl 3)),
      .o (.call (some 5) (cf 58) [(sl 4), (ci 1), (ci 4)]),
      .o (.un 6 .not (sl 5)),
      .o (.move 7 (sl 6)),
      .g 7 false (some 8) (.load1 8 (sl 1)),
      .g 7 false (some 9) (.idx 9 1 (sl 8) (ci 0)),
      .g 7 false (some 10) (.load1 10 (sl 9)),
      .g 7 false (some 11) (.lenS 11 (sl 10)),
      .g 7 false (some 12) (.call (some 12) (cf 58) [(sl 11), (ci 1), (ci 4)]),
      .g 7 false (some 13) (.un 13 .not (sl 12)),
      .o (.pick 14 (sl 7) (cb true) (sl 13))])
   ((.cond (sl 14) (.seq (.reg [.o (.move 2 (cb false))])
    (.ret))
    .skip)))
  ((.seq (.reg [.o (.load1 15 (sl 1)),
     .o (.mkf 16 60 [(sl 1)]),
     .o (.call (some 17) (cf 59) [(sl 15), (sl 16)]),
     .o (.un 18 .not (sl 17)),
     .o (.move 2 (sl 18))])
  (.ret))))))
theorem fun_impl_IsMatrix {rin : List T} {args : List A} {Q : List T → T → Prop} (ha : args.length ≤ 19) (h : cW Try.prog 19 c_impl_IsMatrix (retP Try.prog [.tmp 2] rin.length Q) (St.of (enum 0 args) (enum 1000000000 rin))) :
    Fun Try.prog 18 rin args Q :=
  Fun.of Try.func18 rfl rfl rfl (by kernel_rfl) ha (by decide) h

def c_laws_eqInt64SS : CC :=
  (.seq (.reg [.o (.move 4 (cb false))])
  ((.seq (.seq (.reg [.o (.move 6 (sl 0)),
      .o (.lenS 7 (sl 6)),
      .o (.move 8 (sl 1)),
      .o (.lenS 9 (sl 8)),
      .o (.bin 10 .neq (sl 7) (sl 9))])
   ((.cond (sl 10) (.seq (.reg [.o (.move 4 (cb false))])
    (.ret))
    .skip)))
  ((.seq (.seq (.reg [.o (.move 5 (ci 0))])
   ((.block 0 (.loop (.seq (.seq (.reg [.o (.move 11 (sl 5)),
         .o (.move 12 (sl 0)),
         .o (.lenS 13 (sl 12)),
         .o (.bin 14 .lss (sl 11) (sl 13))])
      ((.cond (sl 14) .skip
       (.exit 0))))
     ((.seq (.block 1 (.seq (.draw [(.r, .o (.move 17 (sl 0))),
          (.r, .o (.move 18 (sl 5))),
          (.r, .o (.idx 19 1 (sl 17) (sl 18))),
          (.r, .o (.load1 20 (sl 19))),
          (.r, .o (.move 21 (sl 1))),
          (.r, .o (.move 22 (sl 5))),
          (.r, .o (.idx 23 1 (sl 21) (sl 22))),
          (.r, .o (.load1 24 (sl 23))),
          (.r, .o (.call (some 25) (cf 23) [(sl 20), (sl 24)])),
          (.r, .o (.un 26 .not (sl 25)))])
       ((.cond (sl 26) (.seq (.reg [.o (.move 4 (cb false))])
        (.ret))
        .skip))))
     ((.reg [.o (.move 15 (sl 5)),
       .o (.bin 16 .add (sl 15) (ci 1)),
       .o (.move 5 (sl 16))])))))))))
  ((.seq (.reg [.o (.move 4 (cb true))])
  (.ret))))))))
theorem fun_laws_eqInt64SS {rin : List T} {args : List A} {Q : List T → T → Prop} (ha : args.length ≤ 27) (h : cW Try.prog 27 c_laws_eqInt64SS (retP Try.prog [.tmp 4] rin.length Q) (St.of (enum 0 args) (enum 1000000000 rin))) :
    Fun Try.prog 19 rin args Q :=
  Fun.of Try.func19 rfl rfl rfl (by kernel_rfl) ha (by decide) h

def c_spec_HalvedWeights : CC :=
  (.seq (.reg [.o (.move 2 (cv (.slice none 0 0))),
     .o (.move 3 (ci 0))])
  ((.seq (.seq (.reg [.o (.move 4 (ci 0))])
   ((.block 0 (.loop (.seq (.seq (.reg [.o (.move 5 (sl 4)),
         .o (.move 6 (sl 0)),
         .o (.lenS 7 (sl 6)),
         .o (.bin 8 .lss (sl 5) (sl 7))])
      ((.cond (sl 8) .skip
       (.exit 0))))
     ((.seq (.block 1 (.seq (.reg [.o (.move 11 (sl 0)),
          .o (.move 12 (sl 4)),
          .o (.idx 13 1 (sl 11) (sl 12)),
          .o (.load1 14 (sl 13)),
          .o (.bin 15 .lss (sl 14) (ci 0))])
       ((.cond (sl 15) (.seq (.reg [.o (.move 2 (cv (.slice none 0 0))),
           .o (.move 3 (ci 2))])
        (.ret))
        .skip))))
     ((.reg [.o (.move 9 (sl 4)),
       .o (.bin 10 .add (sl 9) (ci 1)),
       .o (.move 4 (sl 10))])))))))))
  ((.seq (.seq (.reg [.o (.move 16 (sl 0)),
      .o (.lenS 17 (sl 16)),
      .o (.call (some 18) (cf 57) [(sl 17), (ci 1), (ci 4)]),
      .o (.un 19 .not (sl 18))])
   ((.cond (sl 19) (.seq (.reg [.o (.move 2 (cv (.slice none 0 0))),
       .o (.move 3 (ci 2))])
    (.ret))
    .skip)))
  ((.seq (.reg [.o (.move 20 (sl 0)),
     .o (.call (some 21) (cf 62) [(sl 20)]),
     .o (.move 2 (sl 21)),
     .o (.move 3 (ci 0))])
  (.ret))))))))
theorem fun_spec_HalvedWeights {rin : List T} {args : List A} {Q : List T → T → Prop} (ha : args.length ≤ 22) (h : cW Try.prog 22 c_spec_HalvedWeights (retP Try.prog [.tmp 2, .tmp 3] rin.length Q) (St.of (enum 0 args) (enum 1000000000 rin))) :
    Fun Try.prog 20 rin args Q :=
  Fun.of Try.func20 rfl rfl rfl (by kernel_rfl) ha (by decide) h

def c_laws_toInt64S : CC :=
  (.seq (.reg [.o (.move 2 (cv (.slice none 0 0)))])
  ((.seq (.reg [.o (.move 5 (sl 0)),
     .o (.lenS 6 (sl 5)),
     .o (.make 7 [.v (.int .i64 0)] 8 (sl 6) (sl 6)),
     .o (.move 3 (sl 7))])
  ((.seq (.seq (.reg [.o (.move 4 (ci 0))])
   ((.block 0 (.loop (.seq (.seq (.reg [.o (.move 8 (sl 4)),
         .o (.move 9 (sl 0)),
         .o (.lenS 10 (sl 9)),
         .o (.bin 11 .lss (sl 8) (sl 10))])
      ((.cond (sl 11) .skip
       (.exit 0))))
     ((.seq (.block 1 (.reg [.o (.move 14 (sl 3)),
         .o (.move 15 (sl 4)),
         .o (.move 16 (sl 0)),
         .o (.move 17 (sl 4)),
         .o (.idx 18 1 (sl 16) (sl 17)),
         .o (.load1 19 (sl 18)),
         .o (.idx 20 1 (sl 14) (sl 15)),
         .o (.store 1 (sl 20) (sl 19))]))
     ((.reg [.o (.move 12 (sl 4)),
       .o (.bin 13 .add (sl 12) (ci 1)),
       .o (.move 4 (sl 13))])))))))))
  ((.seq (.reg [.o (.move 21 (sl 3)),
     .o (.move 2 (sl 21))])
  (.ret))))))))
theorem fun_laws_toInt64S {rin : List T} {args : List A} {Q : List T → T → Prop} (ha : args.length ≤ 22) (h : cW Try.prog 22 c_laws_toInt64S (retP Try.prog [.tmp 2] rin.length Q) (St.of (enum 0 args) (enum 1000000000 rin))) :
    Fun Try.prog 21 rin args Q :=
  Fun.of Try.func21 rfl rfl rfl (by kernel_rfl) ha (by decide) h

def c_impl_HalvedWeights : CC :=
  (.seq (.reg [.o (.move 2 (cv (.slice none 0 0))),
     .o (.move 3 (ci 0))])
  ((.seq (.seq (.reg [.o (.move 4 (sl 0)),
      .o (.lenS 5 (sl 4)),
      .o (.call (some 6) (cf 58) [(sl 5), (ci 1), (ci 4)]),
      .o (.un 7 .not (sl 6)),
      .o (.move 8 (sl 7)),
      .g 8 false (some 9) (.move 9 (sl 0)),
      .g 8 false (some 10) (.call (some 10) (cf 63) [(sl 9)]),
      .g 8 false (some 11) (.bin 11 .lss (sl 10) (ci 0)),
      .o (.pick 12 (sl 8) (cb true) (sl 11))])
   ((.cond (sl 12) (.seq (.reg [.o (.move 2 (cv (.slice none 0 0))),
       .o (.move 3 (ci 2))])
    (.ret))
    .skip)))
  ((.seq (.reg [.o (.move 13 (sl 0)),
     .o (.call (some 14) (cf 64) [(sl 13)]),
     .o (.move 2 (sl 14)),
     .o (.move 3 (ci 0))])
  (.ret))))))
theorem fun_impl_HalvedWeights {rin : List T} {args : List A} {Q : List T → T → Prop} (ha : args.length ≤ 15) (h : cW Try.prog 15 c_impl_HalvedWeights (retP Try.prog [.tmp 2, .tmp 3] rin.length Q) (St.of (enum 0 args) (enum 1000000000 rin))) :
    Fun Try.prog 22 rin args Q :=
  Fun.of Try.func22 rfl rfl rfl (by kernel_rfl) ha (by decide) h

def c_laws_eqInt64S : CC :=
  (.seq (.reg [.o (.move 4 (cb false))])
  ((.seq (.seq (.reg [.o (.move 6 (sl 0)),
      .o (.lenS 7 (sl 6)),
      .o (.move 8 (sl 1)),
      .o (.lenS 9 (sl 8)),
      .o (.bin 10 .neq (sl 7) (sl 9))])
   ((.cond (sl 10) (.seq (.reg [.o (.move 4 (cb false))])
    (.ret))
    .skip)))
  ((.seq (.seq (.reg [.o (.move 5 (ci 0))])
   ((.block 0 (.loop (.seq (.seq (.reg [.o (.move 11 (sl 5)),
         .o (.move 12 (sl 0)),
         .o (.lenS 13 (sl 12)),
         .o (.bin 14 .lss (sl 11) (sl 13))])
      ((.cond (sl 14) .skip
       (.exit 0))))
     ((.seq (.block 1 (.seq (.draw [(.r, .o (.move 17 (sl 0))),
          (.r, .o (.move 18 (sl 5))),
          (.r, .o (.idx 19 1 (sl 17) (sl 18))),
          (.r, .o (.load1 20 (sl 19))),
          (.r, .o (.move 21 (sl 1))),
          (.r, .o (.move 22 (sl 5))),
          (.r, .o (.idx 23 1 (sl 21) (sl 22))),
          (.r, .o (.load1 24 (sl 23))),
          (.r, .o (.bin 25 .neq (sl 20) (sl 24)))])
       ((.cond (sl 25) (.seq (.reg [.o (.move 4 (cb false))])
        (.ret))
        .skip))))
     ((.reg [.o (.move 15 (sl 5)),
       .o (.bin 16 .add (sl 15) (ci 1)),
       .o (.move 5 (sl 16))])))))))))
  ((.seq (.reg [.o (.move 4 (cb true))])
  (.ret))))))))
theorem fun_laws_eqInt64S {rin : List T} {args : List A} {Q : List T → T → Prop} (ha : args.length ≤ 26) (h : cW Try.prog 26 c_laws_eqInt64S (retP Try.prog [.tmp 4] rin.length Q) (St.of (enum 0 args) (enum 1000000000 rin))) :
    Fun Try.prog 23 rin args Q :=
  Fun.of Try.func23 rfl rfl rfl (by kernel_rfl) ha (by decide) h

def c_laws_markInt64S : CC :=
  (.seq (.reg [.o (.move 4 (ci 0))])
  ((.seq (.seq (.reg [.o (.move 5 (ci 0))])
   ((.block 0 (.loop (.seq (.seq (.reg [.o (.move 6 (sl 5)),
         .o (.move 7 (sl 0)),
         .o (.lenS 8 (sl 7)),
         .o (.bin 9 .lss (sl 6) (sl 8))])
      ((.cond (sl 9) .skip
       (.exit 0))))
     ((.seq (.block 1 (.seq (.reg [.o (.move 12 (sl 0)),
          .o (.move 13 (sl 5)),
          .o (.move 14 (sl 1)),
          .o (.idx 15 1 (sl 12) (sl 13)),
          .o (.store 1 (sl 15) (sl 14))])
       ((.reg [.o (.move 16 (sl 1)),
         .o (.bin 17 .add (sl 16) (ci 1)),
         .o (.move 1 (sl 17))]))))
     ((.reg [.o (.move 10 (sl 5)),
       .o (.bin 11 .add (sl 10) (ci 1)),
       .o (.move 5 (sl 11))])))))))))
  ((.seq (.reg [.o (.move 18 (sl 1)),
     .o (.move 4 (sl 18))])
  (.ret))))))
theorem fun_laws_markInt64S {rin : List T} {args : List A} {Q : List T → T → Prop} (ha : args.length ≤ 19) (h : cW Try.prog 19 c_laws_markInt64S (retP Try.prog [.tmp 4] rin.length Q) (St.of (enum 0 args) (enum 1000000000 rin))) :
    Fun Try.prog 24 rin args Q :=
  Fun.of Try.func24 rfl rfl rfl (by kernel_rfl) ha (by decide) h

def c_laws_heldInt64S : CC :=
  (.seq (.reg [.o (.move 4 (ci 0))])
  ((.seq (.seq (.reg [.o (.move 5 (ci 0))])
   ((.block 0 (.loop (.seq (.seq (.reg [.o (.move 6 (sl 5)),
         .o (.move 7 (sl 0)),
         .o (.lenS 8 (sl 7)),
         .o (.bin 9 .lss (sl 6) (sl 8))])
      ((.cond (sl 9) .skip
       (.exit 0))))
     ((.seq (.block 1 (.seq (.seq (.reg [.o (.move 12 (sl 0)),
           .o (.move 13 (sl 5)),
           .o (.idx 14 1 (sl 12) (sl 13)),
           .o (.load1 15 (sl 14)),
           .o (.move 16 (sl 1)),
           .o (.bin 17 .neq (sl 15) (sl 16))])
        ((.cond (sl 17) (.seq (.reg [.o (.move 4 (ci (-1)))])
         (.ret))
         .skip)))
       ((.reg [.o (.move 18 (sl 1)),
         .o (.bin 19 .add (sl 18) (ci 1)),
         .o (.move 1 (sl 19))]))))
     ((.reg [.o (.move 10 (sl 5)),
       .o (.bin 11 .add (sl 10) (ci 1)),
       .o (.move 5 (sl 11))])))))))))
  ((.seq (.reg [.o (.move 20 (sl 1)),
     .o (.move 4 (sl 20))])
  (.ret))))))
theorem fun_laws_heldInt64S {rin : List T} {args : List A} {Q : List T → T → Prop} (ha : args.length ≤ 21) (h : cW Try.prog 21 c_laws_heldInt64S (retP Try.prog [.tmp 4] rin.length Q) (St.of (enum 0 args) (enum 1000000000 rin))) :
    Fun Try.prog 25 rin args Q :=
  Fun.of Try.func25 rfl rfl rfl (by kernel_rfl) ha (by decide) h

def c_laws_szRatioS : CC :=
  (.seq (.reg [.o (.move 4 (ci 0))])
  ((.seq (.reg [.o (.move 5 (sl 1)),
     .o (.move 6 (sl 0)),
     .o (.lenS 7 (sl 6)),
     .o (.bin 8 .sub (sl 5) (sl 7)),
     .o (.move 1 (sl 8))])
  ((.seq (.seq (.reg [.o (.move 9 (sl 1)),
      .o (.bin 10 .lss (sl 9) (ci 0))])
   ((.cond (sl 10) (.seq (.reg [.o (.move 4 (ci (-1)))])
    (.ret))
    .skip)))
  ((.seq (.reg [.o (.move 11 (sl 1)),
     .o (.move 4 (sl 11))])
  (.ret))))))))
theorem fun_laws_szRatioS {rin : List T} {args : List A} {Q : List T → T → Prop} (ha : args.length ≤ 12) (h : cW Try.prog 12 c_laws_szRatioS (retP Try.prog [.tmp 4] rin.length Q) (St.of (enum 0 args) (enum 1000000000 rin))) :
    Fun Try.prog 26 rin args Q :=
  Fun.of Try.func26 rfl rfl rfl (by kernel_rfl) ha (by decide) h

def c_laws_toRatioS : CC :=
  (.seq (.reg [.o (.move 2 (cv (.slice none 0 0)))])
  ((.seq (.reg [.o (.move 5 (sl 0)),
     .o (.lenS 6 (sl 5)),
     .o (.make 7 [.v (.int .i64 0), .v (.int .i64 0)] 16 (sl 6) (sl 6)),
     .o (.move 3 (sl 7))])
  ((.seq (.seq (.reg [.o (.move 4 (ci 0))])
   ((.block 0 (.loop (.seq (.seq (.reg [.o (.move 8 (sl 4)),
         .o (.move 9 (sl 0)),
         .o (.lenS 10 (sl 9)),
         .o (.bin 11 .lss (sl 8) (sl 10))])
      ((.cond (sl 11) .skip
       (.exit 0))))
     ((.seq (.block 1 (.reg [.o (.move 14 (sl 3)),
         .o (.move 15 (sl 4)),
         .o (.move 16 (sl 0)),
         .o (.move 17 (sl 4)),
         .o (.idx 18 2 (sl 16) (sl 17)),
         .o (.loadN 19 2 (sl 18)),
         .o (.call (some 20) (cf 68) [(sl 19)]),
         .o (.idx 21 2 (sl 14) (sl 15)),
         .o (.store 2 (sl 21) (sl 20))]))
     ((.reg [.o (.move 12 (sl 4)),
       .o (.bin 13 .add (sl 12) (ci 1)),
       .o (.move 4 (sl 13))])))))))))
  ((.seq (.reg [.o (.move 22 (sl 3)),
     .o (.move 2 (sl 22))])
  (.ret))))))))
theorem fun_laws_toRatioS {rin : List T} {args : List A} {Q : List T → T → Prop} (ha : args.length ≤ 23) (h : cW Try.prog 23 c_laws_toRatioS (retP Try.prog [.tmp 2] rin.length Q) (St.of (enum 0 args) (enum 1000000000 rin))) :
    Fun Try.prog 28 rin args Q :=
  Fun.of Try.func28 rfl rfl rfl (by kernel_rfl) ha (by decide) h

def c_laws_eqRatioS : CC :=
  (.seq (.reg [.o (.move 4 (cb false))])
  ((.seq (.seq (.reg [.o (.move 6 (sl 0)),
      .o (.lenS 7 (sl 6)),
      .o (.move 8 (sl 1)),
      .o (.lenS 9 (sl 8)),
      .o (.bin 10 .neq (sl 7) (sl 9))])
   ((.cond (sl 10) (.seq (.reg [.o (.move 4 (cb false))])
    (.ret))
    .skip)))
  ((.seq (.seq (.reg [.o (.move 5 (ci 0))])
   ((.block 0 (.loop (.seq (.seq (.reg [.o (.move 11 (sl 5)),
         .o (.move 12 (sl 0)),
         .o (.lenS 13 (sl 12)),
         .o (.bin 14 .lss (sl 11) (sl 13))])
      ((.cond (sl 14) .skip
       (.exit 0))))
     ((.seq (.block 1 (.seq (.draw [(.r, .o (.move 17 (sl 0))),
          (.r, .o (.move 18 (sl 5))),
          (.r, .o (.idx 19 2 (sl 17) (sl 18))),
          (.r, .o (.loadN 20 2 (sl 19))),
          (.r, .o (.move 21 (sl 1))),
          (.r, .o (.move 22 (sl 5))),
          (.r, .o (.idx 23 2 (sl 21) (sl 22))),
          (.r, .o (.loadN 24 2 (sl 23))),
          (.r, .o (.call (some 25) (cf 49) [(sl 20), (sl 24)])),
          (.r, .o (.un 26 .not (sl 25)))])
       ((.cond (sl 26) (.seq (.reg [.o (.move 4 (cb false))])
        (.ret))
        .skip))))
     ((.reg [.o (.move 15 (sl 5)),
       .o (.bin 16 .add (sl 15) (ci 1)),
       .o (.move 5 (sl 16))])))))))))
  ((.seq (.reg [.o (.move 4 (cb true))])
  (.ret))))))))
theorem fun_laws_eqRatioS {rin : List T} {args : List A} {Q : List T → T → Prop} (ha : args.length ≤ 27) (h : cW Try.prog 27 c_laws_eqRatioS (retP Try.prog [.tmp 4] rin.length Q) (St.of (enum 0 args) (enum 1000000000 rin))) :
    Fun Try.prog 30 rin args Q :=
  Fun.of Try.func30 rfl rfl rfl (by kernel_rfl) ha (by decide) h

def c_spec_DominatedRows : CC :=
  (.seq (.reg [.o (.move 2 (cv (.slice none 0 0))),
     .o (.move 3 (ci 0))])
  ((.seq (.seq (.reg [.o (.move 10 (sl 0)),
      .o (.call (some 11) (cf 16) [(sl 10)]),
      .o (.un 12 .not (sl 11))])
   ((.cond (sl 12) (.seq (.reg [.o (.move 2 (cv (.slice none 0 0))),
       .o (.move 3 (ci 1))])
    (.ret))
    .skip)))
  ((.seq (.reg [.o (.bslice 13 1 0 []),
     .o (.move 4 (sl 13))])
  ((.seq (.seq (.reg [.o (.move 5 (ci 0))])
   ((.block 0 (.loop (.seq (.seq (.reg [.o (.move 14 (sl 5)),
         .o (.move 15 (sl 0)),
         .o (.lenS 16 (sl 15)),
         .o (.bin 17 .lss (sl 14) (sl 16))])
      ((.cond (sl 17) .skip
       (.exit 0))))
     ((.seq (.block 1 (.seq (.reg [.o (.move 6 (cb false))])
       ((.seq (.seq (.reg [.o (.move 7 (ci 0))])
        ((.block 2 (.loop (.seq (.seq (.reg [.o (.move 20 (sl 7)),
              .o (.move 21 (sl 0)),
              .o (.lenS 22 (sl 21)),
              .o (.bin 23 .lss (sl 20) (sl 22))])
           ((.cond (sl 23) .skip
            (.exit 2))))
          ((.seq (.block 3 (.seq (.reg [.o (.move 8 (cb true))])
            ((.seq (.seq (.reg [.o (.move 9 (ci 0))])
             ((.block 4 (.loop (.seq (.seq (.reg [.o (.move 26 (sl 9)),
                   .o (.move 27 (sl 0)),
                   .o (.idx 28 1 (sl 27) (ci 0)),
                   .o (.load1 29 (sl 28)),
                   .o (.lenS 30 (sl 29)),
                   .o (.bin 31 .lss (sl 26) (sl 30))])
                ((.cond (sl 31) .skip
                 (.exit 4))))
               ((.seq (.block 5 (.draw [(.r, .o (.move 34 (sl 8))),
                   (.r, .o (.move 35 (sl 34))),
                   (.r, .g 35 true (some 36) (.move 36 (sl 0))),
                   (.r, .g 35 true (some 37) (.move 37 (sl 7))),
                   (.r, .g 35 true (some 38) (.idx 38 1 (sl 36) (sl 37))),
                   (.r, .g 35 true (some 39) (.load1 39 (sl 38))),
                   (.r, .g 35 true (some 40) (.move 40 (sl 9))),
                   (.r, .g 35 true (some 41) (.idx 41 1 (sl 39) (sl 40))),
                   (.r, .g 35 true (some 42) (.load1 42 (sl 41))),
                   (.r, .g 35 true (some 43) (.move 43 (sl 0))),
                   (.r, .g 35 true (some 44) (.move 44 (sl 5))),
                   (.r, .g 35 true (some 45) (.idx 45 1 (sl 43) (sl 44))),
                   (.r, .g 35 true (some 46) (.load1 46 (sl 45))),
                   (.r, .g 35 true (some 47) (.move 47 (sl 9))),
                   (.r, .g 35 true (some 48) (.idx 48 1 (sl 46) (sl 47))),
                   (.r, .g 35 true (some 49) (.load1 49 (sl 48))),
                   (.r, .g 35 true (some 50) (.bin 50 .gtr (sl 42) (sl 49))),
                   (.r, .o (.pick 51 (sl 35) (sl 50) (cb false))),
                   (.r, .o (.move 8 (sl 51)))]))
               ((.reg [.o (.move 32 (sl 9)),
                 .o (.bin 33 .add (sl 32) (ci 1)),
                 .o (.move 9 (sl 33))])))))))))
            ((.reg [.o (.move 52 (sl 6)),
              .o (.move 53 (sl 52)),
              .g 53 false (some 54) (.move 54 (sl 8)),
              .o (.pick 55 (sl 53) (cb true) (sl 54)),
              .o (.move 6 (sl 55))]))))))
          ((.reg [.o (.move 24 (sl 7)),
            .o (.bin 25 .add (sl 24) (ci 1)),
            .o (.move 7 (sl 25))])))))))))
       ((.seq (.reg [.o (.move 56 (sl 6))])
       ((.cond (sl 56) (.reg [.o (.move 57 (sl 4)),
          .o (.move 58 (sl 5)),
          .o (.bslice 59 1 1 [(0, (sl 58))]),
          .o (.app 60 1 8 (sl 57) (sl 59)),
          .o (.move 4 (sl 60))])
        .skip))))))))
     ((.reg [.o (.move 18 (sl 5)),
       .o (.bin 19 .add (sl 18) (ci 1)),
       .o (.move 5 (sl 19))])))))))))
  ((.seq (.reg [.o (.move 61 (sl 4)),
     .o (.move 2 (sl 61)),
     .o (.move 3 (ci 0))])
  (.ret))))))))))
theorem fun_spec_DominatedRows {rin : List T} {args : List A} {Q : List T → T → Prop} (ha : args.length ≤ 62) (h : cW Try.prog 62 c_spec_DominatedRows (retP Try.prog [.tmp 2, .tmp 3] rin.length Q) (St.of (enum 0 args) (enum 1000000000 rin))) :
    Fun Try.prog 31 rin args Q :=
  Fun.of Try.func31 rfl rfl rfl (by kernel_rfl) ha (by decide) h

def c_impl_DominatedRows : CC :=
  (.seq (.reg [.o (.move 2 (cv (.slice none 0 0))),
     .o (.move 3 (ci 0))])
  ((.seq (.seq (.reg [.o (.move 8 (sl 0)),
      .o (.call (some 9) (cf 18) [(sl 8)]),
      .o (.un 10 .not (sl 9))])
   ((.cond (sl 10) (.seq (.reg [.o (.move 2 (cv (.slice none 0 0))),
       .o (.move 3 (ci 1))])
    (.ret))
    .skip)))
  ((.seq (.reg [.o (.move 4 (cv (.slice none 0 0)))])
  ((.seq (.seq (.reg [.o (.move 11 (sl 0)),
      .o (.lenS 12 (sl 11)),
      .o (.move 13 (ci 0))])
   ((.block 0 (.loop (.seq (.reg [.o (.bin 14 .lss (sl 13) (sl 12))])
     ((.seq (.cond (sl 14) .skip
       (.exit 0))
     ((.seq (.block 1 (.seq (.reg [.o (.move 15 (sl 13)),
          .o (.idx 16 1 (sl 11) (sl 13)),
          .o (.load1 17 (sl 16)),
          .o (.alloc 6 [.v (.slice none 0 0)]),
          .o (.move 5 (sl 15)),
          .o (.store 1 (sl 6) (sl 17))])
       ((.seq (.reg [.o (.move 18 (sl 0)),
          .o (.mkf 19 71 [(sl 6)]),
          .o (.call (some 20) (cf 59) [(sl 18), (sl 19)]),
          .o (.move 7 (sl 20))])
       ((.seq (.reg [.o (.move 21 (sl 7))])
       ((.cond (sl 21) (.reg [.o (.move 22 (sl 4)),
          .o (.move 23 (sl 5)),
          .o (.bslice 24 1 1 [(0, (sl 23))]),
          .o (.app 25 1 8 (sl 22) (sl 24)),
          .o (.move 4 (sl 25))])
        .skip))))))))
     ((.reg [.o (.bin 26 .add (sl 13) (ci 1)),
       .o (.move 13 (sl 26))])))))))))))
  ((.seq (.reg [.o (.move 27 (sl 4)),
     .o (.move 2 (sl 27)),
     .o (.move 3 (ci 0))])
  (.ret))))))))))
theorem fun_impl_DominatedRows {rin : List T} {args : List A} {Q : List T → T → Prop} (ha : args.length ≤ 28) (h : cW Try.prog 28 c_impl_DominatedRows (retP Try.prog [.tmp 2, .tmp 3] rin.length Q) (St.of (enum 0 args) (enum 1000000000 rin))) :
    Fun Try.prog 32 rin args Q :=
  Fun.of Try.func32 rfl rfl rfl (by kernel_rfl) ha (by decide) h

def c_laws_markInt64SS : CC :=
  (.seq (.reg [.o (.move 4 (ci 0))])
  ((.seq (.seq (.reg [.o (.move 5 (ci 0))])
   ((.block 0 (.loop (.seq (.seq (.reg [.o (.move 6 (sl 5)),
         .o (.move 7 (sl 0)),
         .o (.lenS 8 (sl 7)),
         .o (.bin 9 .lss (sl 6) (sl 8))])
      ((.cond (sl 9) .skip
       (.exit 0))))
     ((.seq (.block 1 (.reg [.o (.move 12 (sl 0)),
         .o (.move 13 (sl 5)),
         .o (.idx 14 1 (sl 12) (sl 13)),
         .o (.load1 15 (sl 14)),
         .o (.move 16 (sl 1)),
         .o (.call (some 17) (cf 24) [(sl 15), (sl 16)]),
         .o (.move 1 (sl 17))]))
     ((.reg [.o (.move 10 (sl 5)),
       .o (.bin 11 .add (sl 10) (ci 1)),
       .o (.move 5 (sl 11))])))))))))
  ((.seq (.reg [.o (.move 18 (sl 1)),
     .o (.move 4 (sl 18))])
  (.ret))))))
theorem fun_laws_markInt64SS {rin : List T} {args : List A} {Q : List T → T → Prop} (ha : args.length ≤ 19) (h : cW Try.prog 19 c_laws_markInt64SS (retP Try.prog [.tmp 4] rin.length Q) (St.of (enum 0 args) (enum 1000000000 rin))) :
    Fun Try.prog 33 rin args Q :=
  Fun.of Try.func33 rfl rfl rfl (by kernel_rfl) ha (by decide) h

def c_spec_SaddlePoint : CC :=
  (.seq (.reg [.o (.move 2 (ci 0)),
     .o (.move 3 (ci 0)),
     .o (.move 4 (ci 0))])
  ((.seq (.seq (.reg [.o (.move 10 (sl 0)),
      .o (.call (some 11) (cf 16) [(sl 10)]),
      .o (.un 12 .not (sl 11))])
   ((.cond (sl 12) (.seq (.reg [.o (.move 2 (ci 0)),
       .o (.move 3 (ci 0)),
       .o (.move 4 (ci 1))])
    (.ret))
    .skip)))
  ((.seq (.seq (.reg [.o (.move 5 (ci 0))])
   ((.block 0 (.loop (.seq (.seq (.reg [.o (.move 13 (sl 5)),
         .o (.move 14 (sl 0)),
         .o (.lenS 15 (sl 14)),
         .o (.bin 16 .lss (sl 13) (sl 15))])
      ((.cond (sl 16) .skip
       (.exit 0))))
     ((.seq (.block 1 (.seq (.reg [.o (.move 6 (ci 0))])
       ((.block 2 (.loop (.seq (.seq (.reg [.o (.move 19 (sl 6)),
             .o (.move 20 (sl 0)),
             .o (.idx 21 1 (sl 20) (ci 0)),
             .o (.load1 22 (sl 21)),
             .o (.lenS 23 (sl 22)),
             .o (.bin 24 .lss (sl 19) (sl 23))])
          ((.cond (sl 24) .skip
           (.exit 2))))
         ((.seq (.block 3 (.seq (.reg [.o (.move 7 (cb true))])
           ((.seq (.seq (.reg [.o (.move 8 (ci 0))])
            ((.block 4 (.loop (.seq (.seq (.reg [.o (.move 27 (sl 8)),
                  .o (.move 28 (sl 0)),
                  .o (.idx 29 1 (sl 28) (ci 0)),
                  .o (.load1 30 (sl 29)),
                  .o (.lenS 31 (sl 30)),
                  .o (.bin 32 .lss (sl 27) (sl 31))])
               ((.cond (sl 32) .skip
                (.exit 4))))
              ((.seq (.block 5 (.draw [(.r, .o (.move 35 (sl 7))),
                  (.r, .o (.move 36 (sl 35))),
                  (.r, .g 36 true (some 37) (.move 37 (sl 0))),
                  (.r, .g 36 true (some 38) (.move 38 (sl 5))),
                  (.r, .g 36 true (some 39) (.idx 39 1 (sl 37) (sl 38))),
                  (.r, .g 36 true (some 40) (.load1 40 (sl 39))),
                  (.r, .g 36 true (some 41) (.move 41 (sl 8))),
                  (.r, .g 36 true (some 42) (.idx 42 1 (sl 40) (sl 41))),
                  (.r, .g 36 true (some 43) (.load1 43 (sl 42))),
                  (.r, .g 36 true (some 44) (.move 44 (sl 0))),
                  (.r, .g 36 true (some 45) (.move 45 (sl 5))),
                  (.r, .g 36 true (some 46) (.idx 46 1 (sl 44) (sl 45))),
                  (.r, .g 36 true (some 47) (.load1 47 (sl 46))),
                  (.r, .g 36 true (some 48) (.move 48 (sl 6))),
                  (.r, .g 36 true (some 49) (.idx 49 1 (sl 47) (sl 48))),
                  (.r, .g 36 true (some 50) (.load1 50 (sl 49))),
                  (.r, .g 36 true (some 51) (.bin 51 .geq (sl 43) (sl 50))),
                  (.r, .o (.pick 52 (sl 36) (sl 51) (cb false))),
                  (.r, .o (.move 7 (sl 52)))]))
              ((.reg [.o (.move 33 (sl 8)),
                .o (.bin 34 .add (sl 33) (ci 1)),
                .o (.move 8 (sl 34))])))))))))
           ((.seq (.seq (.reg [.o (.move 9 (ci 0))])
            ((.block 6 (.loop (.seq (.seq (.reg [.o (.move 53 (sl 9)),
                  .o (.move 54 (sl 0)),
                  .o (.lenS 55 (sl 54)),
                  .o (.bin 56 .lss (sl 53) (sl 55))])
               ((.cond (sl 56) .skip
                (.exit 6))))
              ((.seq (.block 7 (.draw [(.r, .o (.move 59 (sl 7))),
                  (.r, .o (.move 60 (sl 59))),
                  (.r, .g 60 true (some 61) (.move 61 (sl 0))),
                  (.r, .g 60 true (some 62) (.move 62 (sl 9))),
                  (.r, .g 60 true (some 63) (.idx 63 1 (sl 61) (sl 62))),
                  (.r, .g 60 true (some 64) (.load1 64 (sl 63))),
                  (.r, .g 60 true (some 65) (.move 65 (sl 6))),
                  (.r, .g 60 true (some 66) (.idx 66 1 (sl 64) (sl 65))),
                  (.r, .g 60 true (some 67) (.load1 67 (sl 66))),
                  (.r, .g 60 true (some 68) (.move 68 (sl 0))),
                  (.r, .g 60 true (some 69) (.move 69 (sl 5))),
                  (.r, .g 60 true (some 70) (.idx 70 1 (sl 68) (sl 69))),
                  (.r, .g 60 true (some 71) (.load1 71 (sl 70))),
                  (.r, .g 60 true (some 72) (.move 72 (sl 6))),
                  (.r, .g 60 true (some 73) (.idx 73 1 (sl 71) (sl 72))),
                  (.r, .g 60 true (some 74) (.load1 74 (sl 73))),
                  (.r, .g 60 true (some 75) (.bin 75 .leq (sl 67) (sl 74))),
                  (.r, .o (.pick 76 (sl 60) (sl 75) (cb false))),
                  (.r, .o (.move 7 (sl 76)))]))
              ((.reg [.o (.move 57 (sl 9)),
                .o (.bin 58 .add (sl 57) (ci 1)),
                .o (.move 9 (sl 58))])))))))))
           ((.seq (.reg [.o (.move 77 (sl 7))])
           ((.cond (sl 77) (.seq (.reg [.o (.move 78 (sl 5)),
               .o (.move 79 (sl 6)),
               .o (.move 2 (sl 78)),
               .o (.move 3 (sl 79)),
               .o (.move 4 (ci 0))])
            (.ret))
            .skip))))))))))
         ((.reg [.o (.move 25 (sl 6)),
           .o (.bin 26 .add (sl 25) (ci 1)),
           .o (.move 6 (sl 26))]))))))))))
     ((.reg [.o (.move 17 (sl 5)),
       .o (.bin 18 .add (sl 17) (ci 1)),
       .o (.move 5 (sl 18))])))))))))
  ((.seq (.reg [.o (.move 2 (ci 0)),
     .o (.move 3 (ci 0)),
     .o (.move 4 (ci 4))])
  (.ret))))))))
theorem fun_spec_SaddlePoint {rin : List T} {args : List A} {Q : List T → T → Prop} (ha : args.length ≤ 80) (h : cW Try.prog 80 c_spec_SaddlePoint (retP Try.prog [.tmp 2, .tmp 3, .tmp 4] rin.length Q) (St.of (enum 0 args) (enum 1000000000 rin))) :
    Fun Try.prog 34 rin args Q :=
  Fun.of Try.func34 rfl rfl rfl (by kernel_rfl) ha (by decide) h

def c_impl_SaddlePoint : CC :=
  (.seq (.reg [.o (.move 2 (ci 0)),
     .o (.move 3 (ci 0)),
     .o (.move 4 (ci 0))])
  ((.seq (.seq (.reg [.o (.move 10 (sl 0)),
      .o (.call (some 11) (cf 18) [(sl 10)]),
      .o (.un 12 .not (sl 11))])
   ((.cond (sl 12) (.seq (.reg [.o (.move 2 (ci 0)),
       .o (.move 3 (ci 0)),
       .o (.move 4 (ci 1))])
    (.ret))
    .skip)))
  ((.seq (.reg [.o (.move 13 (sl 0)),
     .o (.call (some 14) (cf 72) [(sl 13)]),
     .o (.move 5 (sl 14))])
  ((.seq (.seq (.reg [.o (.move 15 (sl 0)),
      .o (.lenS 16 (sl 15)),
      .o (.move 17 (ci 0))])
   ((.block 0 (.loop (.seq (.reg [.o (.bin 18 .lss (sl 17) (sl 16))])
     ((.seq (.cond (sl 18) .skip
       (.exit 0))
     ((.seq (.block 1 (.seq (.reg [.o (.move 19 (sl 17)),
          .o (.idx 20 1 (sl 15) (sl 17)),
          .o (.load1 21 (sl 20)),
          .o (.move 6 (sl 19)),
          .o (.move 7 (sl 21))])
       ((.seq (.reg [.o (.move 22 (sl 7)),
          .o (.lenS 23 (sl 22)),
          .o (.move 24 (ci 0))])
       ((.block 2 (.loop (.seq (.reg [.o (.bin 25 .lss (sl 24) (sl 23))])
         ((.seq (.cond (sl 25) .skip
           (.exit 2))
         ((.seq (.block 3 (.seq (.reg [.o (.move 26 (sl 24)),
              .o (.idx 27 1 (sl 22) (sl 24)),
              .o (.load1 28 (sl 27)),
              .o (.move 8 (sl 26)),
              .o (.move 9 (sl 28))])
           ((.seq (.reg [.o (.move 29 (sl 9)),
              .o (.move 30 (sl 7)),
              .o (.call (some 31) (cf 63) [(sl 30)]),
              .o (.bin 32 .eql (sl 29) (sl 31)),
              .o (.move 33 (sl 32)),
              .g 33 true (some 34) (.move 34 (sl 9)),
              .g 33 true (some 35) (.move 35 (sl 5)),
              .g 33 true (some 36) (.move 36 (sl 8)),
              .g 33 true (some 37) (.idx 37 1 (sl 35) (sl 36)),
              .g 33 true (some 38) (.load1 38 (sl 37)),
              .g 33 true (some 39) (.call (some 39) (cf 73) [(sl 38)]),
              .g 33 true (some 40) (.bin 40 .eql (sl 34) (sl 39)),
              .o (.pick 41 (sl 33) (sl 40) (cb false))])
           ((.cond (sl 41) (.seq (.reg [.o (.move 42 (sl 6)),
               .o (.move 43 (sl 8)),
               .o (.move 2 (sl 42)),
               .o (.move 3 (sl 43)),
               .o (.move 4 (ci 0))])
            (.ret))
            .skip))))))
         ((.reg [.o (.bin 44 .add (sl 24) (ci 1)),
           .o (.move 24 (sl 44))]))))))))))))))
     ((.reg [.o (.bin 45 .add (sl 17) (ci 1)),
       .o (.move 17 (sl 45))])))))))))))
  ((.seq (.reg [.o (.move 2 (ci 0)),
     .o (.move 3 (ci 0)),
     .o (.move 4 (ci 4))])
  (.ret))))))))))
theorem fun_impl_SaddlePoint {rin : List T} {args : List A} {Q : List T → T → Prop} (ha : args.length ≤ 46) (h : cW Try.prog 46 c_impl_SaddlePoint (retP Try.prog [.tmp 2, .tmp 3, .tmp 4] rin.length Q) (St.of (enum 0 args) (enum 1000000000 rin))) :
    Fun Try.prog 35 rin args Q :=
  Fun.of Try.func35 rfl rfl rfl (by kernel_rfl) ha (by decide) h

def c_spec_FlipMatrix : CC :=
  (.seq (.reg [.o (.move 2 (cv (.slice none 0 0))),
     .o (.move 3 (ci 0))])
  ((.seq (.seq (.reg [.o (.move 8 (sl 0)),
      .o (.call (some 9) (cf 16) [(sl 8)]),
      .o (.un 10 .not (sl 9))])
   ((.cond (sl 10) (.seq (.reg [.o (.move 2 (cv (.slice none 0 0))),
       .o (.move 3 (ci 1))])
    (.ret))
    .skip)))
  ((.seq (.reg [.o (.bslice 11 1 0 []),
     .o (.move 4 (sl 11))])
  ((.seq (.seq (.reg [.o (.move 5 (ci 0))])
   ((.block 0 (.loop (.seq (.seq (.reg [.o (.move 12 (sl 5)),
         .o (.move 13 (sl 0)),
         .o (.idx 14 1 (sl 13) (ci 0)),
         .o (.load1 15 (sl 14)),
         .o (.lenS 16 (sl 15)),
         .o (.bin 17 .lss (sl 12) (sl 16))])
      ((.cond (sl 17) .skip
       (.exit 0))))
     ((.seq (.block 1 (.seq (.reg [.o (.bslice 20 1 0 []),
          .o (.move 6 (sl 20))])
       ((.seq (.seq (.reg [.o (.move 7 (ci 0))])
        ((.block 2 (.loop (.seq (.seq (.reg [.o (.move 21 (sl 7)),
              .o (.move 22 (sl 0)),
              .o (.lenS 23 (sl 22)),
              .o (.bin 24 .lss (sl 21) (sl 23))])
           ((.cond (sl 24) .skip
            (.exit 2))))
          ((.seq (.block 3 (.reg [.o (.move 27 (sl 6)),
              .o (.move 28 (sl 0)),
              .o (.move 29 (sl 7)),
              .o (.idx 30 1 (sl 28) (sl 29)),
              .o (.load1 31 (sl 30)),
              .o (.move 32 (sl 5)),
              .o (.idx 33 1 (sl 31) (sl 32)),
              .o (.load1 34 (sl 33)),
              .o (.un 35 .neg (sl 34)),
              .o (.bslice 36 1 1 [(0, (sl 35))]),
              .o (.app 37 1 8 (sl 27) (sl 36)),
              .o (.move 6 (sl 37))]))
          ((.reg [.o (.move 25 (sl 7)),
            .o (.bin 26 .add (sl 25) (ci 1)),
            .o (.move 7 (sl 26))])))))))))
       ((.reg [.o (.move 38 (sl 4)),
         .o (.move 39 (sl 6)),
         .o (.bslice 40 1 1 [(0, (sl 39))]),
         .o (.app 41 1 24 (sl 38) (sl 40)),
         .o (.move 4 (sl 41))]))))))
     ((.reg [.o (.move 18 (sl 5)),
       .o (.bin 19 .add (sl 18) (ci 1)),
       .o (.move 5 (sl 19))])))))))))
  ((.seq (.reg [.o (.move 42 (sl 4)),
     .o (.move 2 (sl 42)),
     .o (.move 3 (ci 0))])
  (.ret))))))))))
theorem fun_spec_FlipMatrix {rin : List T} {args : List A} {Q : List T → T → Prop} (ha : args.length ≤ 43) (h : cW Try.prog 43 c_spec_FlipMatrix (retP Try.prog [.tmp 2, .tmp 3] rin.length Q) (St.of (enum 0 args) (enum 1000000000 rin))) :
    Fun Try.prog 36 rin args Q :=
  Fun.of Try.func36 rfl rfl rfl (by kernel_rfl) ha (by decide) h

def c_impl_FlipMatrix : CC :=
  (.seq (.reg [.o (.move 2 (cv (.slice none 0 0))),
     .o (.move 3 (ci 0))])
  ((.seq (.seq (.reg [.o (.move 8 (sl 0)),
      .o (.call (some 9) (cf 18) [(sl 8)]),
      .o (.un 10 .not (sl 9))])
   ((.cond (sl 10) (.seq (.reg [.o (.move 2 (cv (.slice none 0 0))),
       .o (.move 3 (ci 1))])
    (.ret))
    .skip)))
  ((.seq (.reg [.o (.move 11 (sl 0)),
     .o (.call (some 12) (cf 72) [(sl 11)]),
     .o (.move 4 (sl 12))])
  ((.seq (.seq (.reg [.o (.move 13 (sl 4)),
      .o (.lenS 14 (sl 13)),
      .o (.move 15 (ci 0))])
   ((.block 0 (.loop (.seq (.reg [.o (.bin 16 .lss (sl 15) (sl 14))])
     ((.seq (.cond (sl 16) .skip
       (.exit 0))
     ((.seq (.block 1 (.seq (.reg [.o (.idx 17 1 (sl 13) (sl 15)),
          .o (.load1 18 (sl 17)),
          .o (.move 6 (sl 18))])
       ((.seq (.reg [.o (.move 19 (sl 6)),
          .o (.lenS 20 (sl 19)),
          .o (.move 21 (ci 0))])
       ((.block 2 (.loop (.seq (.reg [.o (.bin 22 .lss (sl 21) (sl 20))])
         ((.seq (.cond (sl 22) .skip
           (.exit 2))
         ((.seq (.block 3 (.seq (.reg [.o (.move 23 (sl 21)),
              .o (.move 7 (sl 23))])
           ((.reg [.o (.move 24 (sl 6)),
             .o (.move 25 (sl 7)),
             .o (.move 26 (sl 6)),
             .o (.move 27 (sl 7)),
             .o (.idx 28 1 (sl 26) (sl 27)),
             .o (.load1 29 (sl 28)),
             .o (.un 30 .neg (sl 29)),
             .o (.idx 31 1 (sl 24) (sl 25)),
             .o (.store 1 (sl 31) (sl 30))]))))
         ((.reg [.o (.bin 32 .add (sl 21) (ci 1)),
           .o (.move 21 (sl 32))]))))))))))))))
     ((.reg [.o (.bin 33 .add (sl 15) (ci 1)),
       .o (.move 15 (sl 33))])))))))))))
  ((.seq (.reg [.o (.move 34 (sl 4)),
     .o (.move 2 (sl 34)),
     .o (.move 3 (ci 0))])
  (.ret))))))))))
theorem fun_impl_FlipMatrix {rin : List T} {args : List A} {Q : List T → T → Prop} (ha : args.length ≤ 35) (h : cW Try.prog 35 c_impl_FlipMatrix (retP Try.prog [.tmp 2, .tmp 3] rin.length Q) (St.of (enum 0 args) (enum 1000000000 rin))) :
    Fun Try.prog 37 rin args Q :=
  Fun.of Try.func37 rfl rfl rfl (by kernel_rfl) ha (by decide) h

def c_laws_heldInt64SS : CC :=
  (.seq (.reg [.o (.move 4 (ci 0))])
  ((.seq (.seq (.reg [.o (.move 5 (ci 0))])
   ((.block 0 (.loop (.seq (.seq (.reg [.o (.move 6 (sl 5)),
         .o (.move 7 (sl 0)),
         .o (.lenS 8 (sl 7)),
         .o (.bin 9 .lss (sl 6) (sl 8))])
      ((.cond (sl 9) .skip
       (.exit 0))))
     ((.seq (.block 1 (.seq (.reg [.o (.move 12 (sl 0)),
          .o (.move 13 (sl 5)),
          .o (.idx 14 1 (sl 12) (sl 13)),
          .o (.load1 15 (sl 14)),
          .o (.move 16 (sl 1)),
          .o (.call (some 17) (cf 25) [(sl 15), (sl 16)]),
          .o (.move 1 (sl 17))])
       ((.seq (.reg [.o (.move 18 (sl 1)),
          .o (.bin 19 .lss (sl 18) (ci 0))])
       ((.cond (sl 19) (.seq (.reg [.o (.move 4 (ci (-1)))])
        (.ret))
        .skip))))))
     ((.reg [.o (.move 10 (sl 5)),
       .o (.bin 11 .add (sl 10) (ci 1)),
       .o (.move 5 (sl 11))])))))))))
  ((.seq (.reg [.o (.move 20 (sl 1)),
     .o (.move 4 (sl 20))])
  (.ret))))))
theorem fun_laws_heldInt64SS {rin : List T} {args : List A} {Q : List T → T → Prop} (ha : args.length ≤ 21) (h : cW Try.prog 21 c_laws_heldInt64SS (retP Try.prog [.tmp 4] rin.length Q) (St.of (enum 0 args) (enum 1000000000 rin))) :
    Fun Try.prog 38 rin args Q :=
  Fun.of Try.func38 rfl rfl rfl (by kernel_rfl) ha (by decide) h

def c_spec_Determinant : CC :=
  (.seq (.reg [.o (.move 2 (ci 0)),
     .o (.move 3 (ci 0))])
  ((.seq (.reg [.o (.move 5 (sl 0)),
     .o (.call (some 6) (cf 74) [(sl 5)]),
     .o (.move 4 (sl 6))])
  ((.seq (.seq (.reg [.o (.move 7 (sl 4)),
      .o (.bin 8 .neq (sl 7) (ci 0))])
   ((.cond (sl 8) (.seq (.reg [.o (.move 9 (sl 4)),
       .o (.move 2 (ci 0)),
       .o (.move 3 (sl 9))])
    (.ret))
    .skip)))
  ((.seq (.reg [.o (.move 10 (sl 0)),
     .o (.call (some 11) (cf 75) [(sl 10)]),
     .o (.move 2 (sl 11)),
     .o (.move 3 (ci 0))])
  (.ret))))))))
theorem fun_spec_Determinant {rin : List T} {args : List A} {Q : List T → T → Prop} (ha : args.length ≤ 12) (h : cW Try.prog 12 c_spec_Determinant (retP Try.prog [.tmp 2, .tmp 3] rin.length Q) (St.of (enum 0 args) (enum 1000000000 rin))) :
    Fun Try.prog 39 rin args Q :=
  Fun.of Try.func39 rfl rfl rfl (by kernel_rfl) ha (by decide) h

def c_impl_Determinant : CC :=
  (.seq (.reg [.o (.move 2 (ci 0)),
     .o (.move 3 (ci 0))])
  ((.seq (.seq (.reg [.o (.move 4 (sl 0)),
      .o (.call (some 5) (cf 18) [(sl 4)]),
      .o (.un 6 .not (sl 5))])
   ((.cond (sl 6) (.seq (.reg [.o (.move 2 (ci 0)),
       .o (.move 3 (ci 1))])
    (.ret))
    .skip)))
  ((.seq (.seq (.reg [.o (.move 7 (sl 0)),
      .o (.lenS 8 (sl 7)),
      .o (.move 9 (sl 0)),
      .o (.idx 10 1 (sl 9) (ci 0)),
      .o (.load1 11 (sl 10)),
      .o (.lenS 12 (sl 11)),
      .o (.bin 13 .neq (sl 8) (sl 12))])
   ((.cond (sl 13) (.seq (.reg [.o (.move 2 (ci 0)),
       .o (.move 3 (ci 5))])
    (.ret))
    .skip)))
  ((.seq (.reg [.o (.move 14 (sl 0)),
     .o (.call (some 15) (cf 76) [(sl 14)]),
     .o (.move 2 (sl 15)),
     .o (.move 3 (ci 0))])
  (.ret))))))))
theorem fun_impl_Determinant {rin : List T} {args : List A} {Q : List T → T → Prop} (ha : args.length ≤ 16) (h : cW Try.prog 16 c_impl_Determinant (retP Try.prog [.tmp 2, .tmp 3] rin.length Q) (St.of (enum 0 args) (enum 1000000000 rin))) :
    Fun Try.prog 40 rin args Q :=
  Fun.of Try.func40 rfl rfl rfl (by kernel_rfl) ha (by decide) h

def c_spec_Adjugate : CC :=
  (.seq (.reg [.o (.move 2 (cv (.slice none 0 0))),
     .o (.move 3 (ci 0))])
  ((.seq (.reg [.o (.move 5 (sl 0)),
     .o (.call (some 6) (cf 74) [(sl 5)]),
     .o (.move 4 (sl 6))])
  ((.seq (.seq (.reg [.o (.move 7 (sl 4)),
      .o (.bin 8 .neq (sl 7) (ci 0))])
   ((.cond (sl 8) (.seq (.reg [.o (.move 9 (sl 4)),
       .o (.move 2 (cv (.slice none 0 0))),
       .o (.move 3 (sl 9))])
    (.ret))
    .skip)))
  ((.seq (.reg [.o (.move 10 (sl 0)),
     .o (.call (some 11) (cf 77) [(sl 10)]),
     .o (.move 2 (sl 11)),
     .o (.move 3 (ci 0))])
  (.ret))))))))
theorem fun_spec_Adjugate {rin : List T} {args : List A} {Q : List T → T → Prop} (ha : args.length ≤ 12) (h : cW Try.prog 12 c_spec_Adjugate (retP Try.prog [.tmp 2, .tmp 3] rin.length Q) (St.of (enum 0 args) (enum 1000000000 rin))) :
    Fun Try.prog 41 rin args Q :=
  Fun.of Try.func41 rfl rfl rfl (by kernel_rfl) ha (by decide) h

def c_impl_Adjugate : CC :=
  (.seq (.reg [.o (.move 2 (cv (.slice none 0 0))),
     .o (.move 3 (ci 0))])
  ((.seq (.seq (.reg [.o (.move 4 (sl 0)),
      .o (.call (some 5) (cf 18) [(sl 4)]),
      .o (.un 6 .not (sl 5))])
   ((.cond (sl 6) (.seq (.reg [.o (.move 2 (cv (.slice none 0 0))),
       .o (.move 3 (ci 1))])
    (.ret))
    .skip)))
  ((.seq (.seq (.reg [.o (.move 7 (sl 0)),
      .o (.lenS 8 (sl 7)),
      .o (.move 9 (sl 0)),
      .o (.idx 10 1 (sl 9) (ci 0)),
      .o (.load1 11 (sl 10)),
      .o (.lenS 12 (sl 11)),
      .o (.bin 13 .neq (sl 8) (sl 12))])
   ((.cond (sl 13) (.seq (.reg [.o (.move 2 (cv (.slice none 0 0))),
       .o (.move 3 (ci 5))])
    (.ret))
    .skip)))
  ((.seq (.reg [.o (.move 14 (sl 0)),
     .o (.call (some 15) (cf 78) [(sl 14)]),
     .o (.move 2 (sl 15)),
     .o (.move 3 (ci 0))])
  (.ret))))))))
theorem fun_impl_Adjugate {rin : List T} {args : List A} {Q : List T → T → Prop} (ha : args.length ≤ 16) (h : cW Try.prog 16 c_impl_Adjugate (retP Try.prog [.tmp 2, .tmp 3] rin.length Q) (St.of (enum 0 args) (enum 1000000000 rin))) :
    Fun Try.prog 42 rin args Q :=
  Fun.of Try.func42 rfl rfl rfl (by kernel_rfl) ha (by decide) h

def c_laws_big : CC :=
  (.seq (.reg [.o (.move 2 (cb false))])
  ((.seq (.reg [.o (.move 3 (sl 0)),
     .o (.lenS 4 (sl 3)),
     .o (.bin 5 .gtr (sl 4) (ci 4096)),
     .o (.move 2 (sl 5))])
  (.ret))))
theorem fun_laws_big {rin : List T} {args : List A} {Q : List T → T → Prop} (ha : args.length ≤ 6) (h : cW Try.prog 6 c_laws_big (retP Try.prog [.tmp 2] rin.length Q) (St.of (enum 0 args) (enum 1000000000 rin))) :
    Fun Try.prog 43 rin args Q :=
  Fun.of Try.func43 rfl rfl rfl (by kernel_rfl) ha (by decide) h

def c_spec_DrawAdjugate : CC :=
  (.seq (.reg [.o (.move 2 (cv (.slice none 0 0)))])
  ((.seq (.reg [.o (.move 3 (sl 0)),
     .o (.call (some 4) (cf 80) [(sl 3)]),
     .o (.call (some 5) (cf 79) [(sl 4)]),
     .o (.move 2 (sl 5))])
  (.ret))))
theorem fun_spec_DrawAdjugate {rin : List T} {args : List A} {Q : List T → T → Prop} (ha : args.length ≤ 6) (h : cW Try.prog 6 c_spec_DrawAdjugate (retP Try.prog [.tmp 2] rin.length Q) (St.of (enum 0 args) (enum 1000000000 rin))) :
    Fun Try.prog 44 rin args Q :=
  Fun.of Try.func44 rfl rfl rfl (by kernel_rfl) ha (by decide) h

def c_spec_DrawDeterminant : CC :=
  (.seq (.reg [.o (.move 2 (cv (.slice none 0 0)))])
  ((.seq (.reg [.o (.move 3 (sl 0)),
     .o (.call (some 4) (cf 80) [(sl 3)]),
     .o (.call (some 5) (cf 79) [(sl 4)]),
     .o (.move 2 (sl 5))])
  (.ret))))
theorem fun_spec_DrawDeterminant {rin : List T} {args : List A} {Q : List T → T → Prop} (ha : args.length ≤ 6) (h : cW Try.prog 6 c_spec_DrawDeterminant (retP Try.prog [.tmp 2] rin.length Q) (St.of (enum 0 args) (enum 1000000000 rin))) :
    Fun Try.prog 45 rin args Q :=
  Fun.of Try.func45 rfl rfl rfl (by kernel_rfl) ha (by decide) h

def c_laws_likeLists : CC :=
  (.seq (.reg [.o (.move 4 (cb false))])
  ((.seq (.seq (.reg [.o (.move 6 (sl 0)),
      .o (.lenS 7 (sl 6)),
      .o (.move 8 (sl 1)),
      .o (.lenS 9 (sl 8)),
      .o (.bin 10 .neq (sl 7) (sl 9))])
   ((.cond (sl 10) (.seq (.reg [.o (.move 4 (cb false))])
    (.ret))
    .skip)))
  ((.seq (.seq (.reg [.o (.move 5 (ci 0))])
   ((.block 0 (.loop (.seq (.seq (.reg [.o (.move 11 (sl 5)),
         .o (.move 12 (sl 0)),
         .o (.lenS 13 (sl 12)),
         .o (.bin 14 .lss (sl 11) (sl 13))])
      ((.cond (sl 14) .skip
       (.exit 0))))
     ((.seq (.block 1 (.seq (.draw [(.r, .o (.move 17 (sl 0))),
          (.r, .o (.move 18 (sl 5))),
          (.r, .o (.idx 19 1 (sl 17) (sl 18))),
          (.r, .o (.load1 20 (sl 19))),
          (.r, .o (.move 21 (sl 1))),
          (.r, .o (.move 22 (sl 5))),
          (.r, .o (.idx 23 1 (sl 21) (sl 22))),
          (.r, .o (.load1 24 (sl 23))),
          (.r, .o (.call (some 25) (cf 81) [(sl 20), (sl 24)])),
          (.r, .o (.un 26 .not (sl 25)))])
       ((.cond (sl 26) (.seq (.reg [.o (.move 4 (cb false))])
        (.ret))
        .skip))))
     ((.reg [.o (.move 15 (sl 5)),
       .o (.bin 16 .add (sl 15) (ci 1)),
       .o (.move 5 (sl 16))])))))))))
  ((.seq (.reg [.o (.move 4 (cb true))])
  (.ret))))))))
theorem fun_laws_likeLists {rin : List T} {args : List A} {Q : List T → T → Prop} (ha : args.length ≤ 27) (h : cW Try.prog 27 c_laws_likeLists (retP Try.prog [.tmp 4] rin.length Q) (St.of (enum 0 args) (enum 1000000000 rin))) :
    Fun Try.prog 46 rin args Q :=
  Fun.of Try.func46 rfl rfl rfl (by kernel_rfl) ha (by decide) h

def c_spec_MatrixValue : CC :=
  (.seq (.reg [.o (.alloc 6 [.v (.int .i64 0), .v (.int .i64 0)]),
     .o (.move 7 (ci 0))])
  ((.seq (.seq (.reg [.o (.move 9 (sl 0)),
      .o (.call (some 10) (cf 16) [(sl 9)]),
      .o (.un 11 .not (sl 10))])
   ((.cond (sl 11) (.seq (.reg [.o (.build 12 [.v (.int .i64 0), .v (.int .i64 0)] [(0, 1), (1, 1)] []),
       .o (.store 2 (sl 6) (sl 12)),
       .o (.move 7 (ci 1))])
    (.ret))
    .skip)))
  ((.seq (.seq (.reg [.o (.move 13 (sl 1)),
      .o (.move 14 (sl 0)),
      .o (.lenS 15 (sl 14)),
      .o (.call (some 16) (cf 27) [(sl 13), (sl 15)]),
      .o (.un 17 .not (sl 16)),
      .o (.move 18 (sl 17)),
      .g 18 false (some 19) (.move 19 (sl 2)),
      .g 18 false (some 20) (.move 20 (sl 0)),
      .g 18 false (some 21) (.idx 21 1 (sl 20) (ci 0)),
      .g 18 false (some 22) (.load1 22 (sl 21)),
      .g 18 false (some 23) (.lenS 23 (sl 22)),
      .g 18 false (some 24) (.call (some 24) (cf 27) [(sl 19), (sl 23)]),
      .g 18 false (some 25) (.un 25 .not (sl 24)),
      .o (.pick 26 (sl 18) (cb true) (sl 25))])
   ((.cond (sl 26) (.seq (.reg [.o (.build 27 [.v (.int .i64 0), .v (.int .i64 0)] [(0, 1), (1, 1)] []),
       .o (.store 2 (sl 6) (sl 27)),
       .o (.move 7 (ci 2))])
    (.ret))
    .skip)))
  ((.seq (.reg [.o (.build 28 [.v (.int .i64 0)] [(0, 1)] []),
     .o (.box 29 (sl 28)),
     .o (.move 8 (sl 29))])
  ((.seq (.reg [.o (.move 30 (sl 8)),
     .o (.move 31 (sl 8)),
     .o (.move 32 (sl 0)),
     .o (.move 33 (sl 1)),
     .o (.move 34 (sl 2)),
     .o (.call (some 35) (cf 83) [(sl 31), (sl 32), (sl 33), (sl 34)]),
     .o (.call (some 36) (cf 82) [(sl 30), (sl 35)]),
     .o (.extract 37 (sl 36) 0),
     .o (.extract 38 (sl 36) 1),
     .o (.store 2 (sl 6) (sl 37)),
     .o (.move 7 (sl 38))])
  (.ret))))))))))
theorem fun_spec_MatrixValue {rin : List T} {args : List A} {Q : List T → T → Prop} (ha : args.length ≤ 39) (h : cW Try.prog 39 c_spec_MatrixValue (retP Try.prog [.cell 6 52, .tmp 7] rin.length Q) (St.of (enum 0 args) (enum 1000000000 rin))) :
    Fun Try.prog 47 rin args Q :=
  Fun.of Try.func47 rfl rfl rfl (by kernel_rfl) ha (by decide) h

def c_impl_MatrixValue : CC :=
  (.seq (.reg [.o (.alloc 6 [.v (.int .i64 0), .v (.int .i64 0)]),
     .o (.move 7 (ci 0))])
  ((.seq (.seq (.reg [.o (.move 10 (sl 0)),
      .o (.call (some 11) (cf 18) [(sl 10)]),
      .o (.un 12 .not (sl 11))])
   ((.cond (sl 12) (.seq (.reg [.o (.build 13 [.v (.int .i64 0), .v (.int .i64 0)] [(0, 1), (1, 1)] []),
       .o (.store 2 (sl 6) (sl 13)),
       .o (.move 7 (ci 1))])
    (.ret))
    .skip)))
  ((.seq (.seq (.reg [.o (.move 14 (sl 1)),
      .o (.move 15 (sl 0)),
      .o (.lenS 16 (sl 15)),
      .o (.call (some 17) (cf 29) [(sl 14), (sl 16)]),
      .o (.un 18 .not (sl 17)),
      .o (.move 19 (sl 18)),
      .g 19 false (some 20) (.move 20 (sl 2)),
      .g 19 false (some 21) (.move 21 (sl 0)),
      .g 19 false (some 22) (.idx 22 1 (sl 21) (ci 0)),
      .g 19 false (some 23) (.load1 23 (sl 22)),
      .g 19 false (some 24) (.lenS 24 (sl 23)),
      .g 19 false (some 25) (.call (some 25) (cf 29) [(sl 20), (sl 24)]),
      .g 19 false (some 26) (.un 26 .not (sl 25)),
      .o (.pick 27 (sl 19) (cb true) (sl 26))])
   ((.cond (sl 27) (.seq (.reg [.o (.build 28 [.v (.int .i64 0), .v (.int .i64 0)] [(0, 1), (1, 1)] []),
       .o (.store 2 (sl 6) (sl 28)),
       .o (.move 7 (ci 2))])
    (.ret))
    .skip)))
  ((.seq (.reg [.o (.move 30 (sl 0)),
     .o (.move 31 (sl 2)),
     .o (.call (some 32) (cf 84) [(sl 30), (sl 31)]),
     .o (.move 29 (sl 32)),
     .o (.extract 33 (sl 29) 0),
     .o (.extract 34 (sl 29) 1),
     .o (.move 8 (sl 33)),
     .o (.move 9 (sl 34))])
  ((.seq (.seq (.reg [.o (.move 35 (sl 9)),
      .o (.bin 36 .neq (sl 35) (ci 0))])
   ((.cond (sl 36) (.seq (.reg [.o (.build 37 [.v (.int .i64 0), .v (.int .i64 0)] [(0, 1), (1, 1)] []),
       .o (.move 38 (sl 9)),
       .o (.store 2 (sl 6) (sl 37)),
       .o (.move 7 (sl 38))])
    (.ret))
    .skip)))
  ((.seq (.reg [.o (.move 39 (sl 1)),
     .o (.move 40 (sl 8)),
     .o (.call (some 41) (cf 85) [(sl 39), (sl 40)]),
     .o (.extract 42 (sl 41) 0),
     .o (.extract 43 (sl 41) 1),
     .o (.store 2 (sl 6) (sl 42)),
     .o (.move 7 (sl 43))])
  (.ret))))))))))))
theorem fun_impl_MatrixValue {rin : List T} {args : List A} {Q : List T → T → Prop} (ha : args.length ≤ 44) (h : cW Try.prog 44 c_impl_MatrixValue (retP Try.prog [.cell 6 52, .tmp 7] rin.length Q) (St.of (enum 0 args) (enum 1000000000 rin))) :
    Fun Try.prog 48 rin args Q :=
  Fun.of Try.func48 rfl rfl rfl (by kernel_rfl) ha (by decide) h

def c_laws_eqRatio : CC :=
  (.seq (.reg [.o (.box 2 (sl 0)),
     .o (.box 3 (sl 1)),
     .o (.move 4 (cb false))])
  ((.seq (.seq (.reg [.o (.fld 5 0 (sl 2)),
      .o (.load1 6 (sl 5)),
      .o (.fld 7 0 (sl 3)),
      .o (.load1 8 (sl 7)),
      .o (.bin 9 .neq (sl 6) (sl 8))])
   ((.cond (sl 9) (.seq (.reg [.o (.move 4 (cb false))])
    (.ret))
    .skip)))
  ((.seq (.seq (.reg [.o (.fld 10 1 (sl 2)),
      .o (.load1 11 (sl 10)),
      .o (.fld 12 1 (sl 3)),
      .o (.load1 13 (sl 12)),
      .o (.bin 14 .neq (sl 11) (sl 13))])
   ((.cond (sl 14) (.seq (.reg [.o (.move 4 (cb false))])
    (.ret))
    .skip)))
  ((.seq (.reg [.o (.move 4 (cb true))])
  (.ret))))))))
theorem fun_laws_eqRatio {rin : List T} {args : List A} {Q : List T → T → Prop} (ha : args.length ≤ 15) (h : cW Try.prog 15 c_laws_eqRatio (retP Try.prog [.tmp 4] rin.length Q) (St.of (enum 0 args) (enum 1000000000 rin))) :
    Fun Try.prog 49 rin args Q :=
  Fun.of Try.func49 rfl rfl rfl (by kernel_rfl) ha (by decide) h

def c_spec_RowGains : CC :=
  (.seq (.reg [.o (.move 4 (cv (.slice none 0 0))),
     .o (.move 5 (ci 0))])
  ((.seq (.seq (.reg [.o (.move 7 (sl 0)),
      .o (.call (some 8) (cf 16) [(sl 7)]),
      .o (.un 9 .not (sl 8))])
   ((.cond (sl 9) (.seq (.reg [.o (.move 4 (cv (.slice none 0 0))),
       .o (.move 5 (ci 1))])
    (.ret))
    .skip)))
  ((.seq (.seq (.reg [.o (.move 10 (sl 1)),
      .o (.move 11 (sl 0)),
      .o (.idx 12 1 (sl 11) (ci 0)),
      .o (.load1 13 (sl 12)),
      .o (.lenS 14 (sl 13)),
      .o (.call (some 15) (cf 27) [(sl 10), (sl 14)]),
      .o (.un 16 .not (sl 15))])
   ((.cond (sl 16) (.seq (.reg [.o (.move 4 (cv (.slice none 0 0))),
       .o (.move 5 (ci 2))])
    (.ret))
    .skip)))
  ((.seq (.reg [.o (.build 17 [.v (.int .i64 0)] [(0, 1)] []),
     .o (.box 18 (sl 17)),
     .o (.move 6 (sl 18))])
  ((.seq (.reg [.o (.move 19 (sl 6)),
     .o (.move 20 (sl 6)),
     .o (.move 21 (sl 0)),
     .o (.move 22 (sl 1)),
     .o (.call (some 23) (cf 87) [(sl 20), (sl 21), (sl 22)]),
     .o (.call (some 24) (cf 86) [(sl 19), (sl 23)]),
     .o (.extract 25 (sl 24) 0),
     .o (.extract 26 (sl 24) 1),
     .o (.move 4 (sl 25)),
     .o (.move 5 (sl 26))])
  (.ret))))))))))
theorem fun_spec_RowGains {rin : List T} {args : List A} {Q : List T → T → Prop} (ha : args.length ≤ 27) (h : cW Try.prog 27 c_spec_RowGains (retP Try.prog [.tmp 4, .tmp 5] rin.length Q) (St.of (enum 0 args) (enum 1000000000 rin))) :
    Fun Try.prog 50 rin args Q :=
  Fun.of Try.func50 rfl rfl rfl (by kernel_rfl) ha (by decide) h

def c_impl_RowGains : CC :=
  (.seq (.reg [.o (.move 4 (cv (.slice none 0 0))),
     .o (.move 5 (ci 0))])
  ((.seq (.seq (.reg [.o (.move 6 (sl 0)),
      .o (.call (some 7) (cf 18) [(sl 6)]),
      .o (.un 8 .not (sl 7))])
   ((.cond (sl 8) (.seq (.reg [.o (.move 4 (cv (.slice none 0 0))),
       .o (.move 5 (ci 1))])
    (.ret))
    .skip)))
  ((.seq (.seq (.reg [.o (.move 9 (sl 1)),
      .o (.move 10 (sl 0)),
      .o (.idx 11 1 (sl 10) (ci 0)),
      .o (.load1 12 (sl 11)),
      .o (.lenS 13 (sl 12)),
      .o (.call (some 14) (cf 29) [(sl 9), (sl 13)]),
      .o (.un 15 .not (sl 14))])
   ((.cond (sl 15) (.seq (.reg [.o (.move 4 (cv (.slice none 0 0))),
       .o (.move 5 (ci 2))])
    (.ret))
    .skip)))
  ((.seq (.reg [.o (.move 16 (sl 0)),
     .o (.move 17 (sl 1)),
     .o (.call (some 18) (cf 84) [(sl 16), (sl 17)]),
     .o (.extract 19 (sl 18) 0),
     .o (.extract 20 (sl 18) 1),
     .o (.move 4 (sl 19)),
     .o (.move 5 (sl 20))])
  (.ret))))))))
theorem fun_impl_RowGains {rin : List T} {args : List A} {Q : List T → T → Prop} (ha : args.length ≤ 21) (h : cW Try.prog 21 c_impl_RowGains (retP Try.prog [.tmp 4, .tmp 5] rin.length Q) (St.of (enum 0 args) (enum 1000000000 rin))) :
    Fun Try.prog 51 rin args Q :=
  Fun.of Try.func51 rfl rfl rfl (by kernel_rfl) ha (by decide) h

def c_laws_markRatioS : CC :=
  (.seq (.reg [.o (.move 4 (ci 0))])
  ((.seq (.seq (.reg [.o (.move 5 (ci 0))])
   ((.block 0 (.loop (.seq (.seq (.reg [.o (.move 6 (sl 5)),
         .o (.move 7 (sl 0)),
         .o (.lenS 8 (sl 7)),
         .o (.bin 9 .lss (sl 6) (sl 8))])
      ((.cond (sl 9) .skip
       (.exit 0))))
     ((.seq (.block 1 (.seq (.reg [.o (.move 12 (sl 0)),
          .o (.move 13 (sl 5)),
          .o (.move 14 (sl 1)),
          .o (.idx 15 2 (sl 12) (sl 13)),
          .o (.fld 16 0 (sl 15)),
          .o (.store 1 (sl 16) (sl 14))])
       ((.seq (.reg [.o (.move 17 (sl 1)),
          .o (.bin 18 .add (sl 17) (ci 1)),
          .o (.move 1 (sl 18))])
       ((.seq (.reg [.o (.move 19 (sl 0)),
          .o (.move 20 (sl 5)),
          .o (.move 21 (sl 1)),
          .o (.idx 22 2 (sl 19) (sl 20)),
          .o (.fld 23 1 (sl 22)),
          .o (.store 1 (sl 23) (sl 21))])
       ((.reg [.o (.move 24 (sl 1)),
         .o (.bin 25 .add (sl 24) (ci 1)),
         .o (.move 1 (sl 25))]))))))))
     ((.reg [.o (.move 10 (sl 5)),
       .o (.bin 11 .add (sl 10) (ci 1)),
       .o (.move 5 (sl 11))])))))))))
  ((.seq (.reg [.o (.move 26 (sl 1)),
     .o (.move 4 (sl 26))])
  (.ret))))))
theorem fun_laws_markRatioS {rin : List T} {args : List A} {Q : List T → T → Prop} (ha : args.length ≤ 27) (h : cW Try.prog 27 c_laws_markRatioS (retP Try.prog [.tmp 4] rin.length Q) (St.of (enum 0 args) (enum 1000000000 rin))) :
    Fun Try.prog 52 rin args Q :=
  Fun.of Try.func52 rfl rfl rfl (by kernel_rfl) ha (by decide) h

def c_laws_heldRatioS : CC :=
  (.seq (.reg [.o (.move 4 (ci 0))])
  ((.seq (.seq (.reg [.o (.move 5 (ci 0))])
   ((.block 0 (.loop (.seq (.seq (.reg [.o (.move 6 (sl 5)),
         .o (.move 7 (sl 0)),
         .o (.lenS 8 (sl 7)),
         .o (.bin 9 .lss (sl 6) (sl 8))])
      ((.cond (sl 9) .skip
       (.exit 0))))
     ((.seq (.block 1 (.seq (.seq (.reg [.o (.move 12 (sl 0)),
           .o (.move 13 (sl 5)),
           .o (.idx 14 2 (sl 12) (sl 13)),
           .o (.fld 15 0 (sl 14)),
           .o (.load1 16 (sl 15)),
           .o (.move 17 (sl 1)),
           .o (.bin 18 .neq (sl 16) (sl 17))])
        ((.cond (sl 18) (.seq (.reg [.o (.move 4 (ci (-1)))])
         (.ret))
         .skip)))
       ((.seq (.reg [.o (.move 19 (sl 1)),
          .o (.bin 20 .add (sl 19) (ci 1)),
          .o (.move 1 (sl 20))])
       ((.seq (.seq (.reg [.o (.move 21 (sl 0)),
           .o (.move 22 (sl 5)),
           .o (.idx 23 2 (sl 21) (sl 22)),
           .o (.fld 24 1 (sl 23)),
           .o (.load1 25 (sl 24)),
           .o (.move 26 (sl 1)),
           .o (.bin 27 .neq (sl 25) (sl 26))])
        ((.cond (sl 27) (.seq (.reg [.o (.move 4 (ci (-1)))])
         (.ret))
         .skip)))
       ((.reg [.o (.move 28 (sl 1)),
         .o (.bin 29 .add (sl 28) (ci 1)),
         .o (.move 1 (sl 29))]))))))))
     ((.reg [.o (.move 10 (sl 5)),
       .o (.bin 11 .add (sl 10) (ci 1)),
       .o (.move 5 (sl 11))])))))))))
  ((.seq (.reg [.o (.move 30 (sl 1)),
     .o (.move 4 (sl 30))])
  (.ret))))))
theorem fun_laws_heldRatioS {rin : List T} {args : List A} {Q : List T → T → Prop} (ha : args.length ≤ 31) (h : cW Try.prog 31 c_laws_heldRatioS (retP Try.prog [.tmp 4] rin.length Q) (St.of (enum 0 args) (enum 1000000000 rin))) :
    Fun Try.prog 53 rin args Q :=
  Fun.of Try.func53 rfl rfl rfl (by kernel_rfl) ha (by decide) h

def c_spec_ColumnGains : CC :=
  (.seq (.reg [.o (.move 4 (cv (.slice none 0 0))),
     .o (.move 5 (ci 0))])
  ((.seq (.seq (.reg [.o (.move 7 (sl 0)),
      .o (.call (some 8) (cf 16) [(sl 7)]),
      .o (.un 9 .not (sl 8))])
   ((.cond (sl 9) (.seq (.reg [.o (.move 4 (cv (.slice none 0 0))),
       .o (.move 5 (ci 1))])
    (.ret))
    .skip)))
  ((.seq (.seq (.reg [.o (.move 10 (sl 1)),
      .o (.move 11 (sl 0)),
      .o (.lenS 12 (sl 11)),
      .o (.call (some 13) (cf 27) [(sl 10), (sl 12)]),
      .o (.un 14 .not (sl 13))])
   ((.cond (sl 14) (.seq (.reg [.o (.move 4 (cv (.slice none 0 0))),
       .o (.move 5 (ci 2))])
    (.ret))
    .skip)))
  ((.seq (.reg [.o (.build 15 [.v (.int .i64 0)] [(0, 1)] []),
     .o (.box 16 (sl 15)),
     .o (.move 6 (sl 16))])
  ((.seq (.reg [.o (.move 17 (sl 6)),
     .o (.move 18 (sl 6)),
     .o (.move 19 (sl 0)),
     .o (.move 20 (sl 1)),
     .o (.call (some 21) (cf 88) [(sl 18), (sl 19), (sl 20)]),
     .o (.call (some 22) (cf 86) [(sl 17), (sl 21)]),
     .o (.extract 23 (sl 22) 0),
     .o (.extract 24 (sl 22) 1),
     .o (.move 4 (sl 23)),
     .o (.move 5 (sl 24))])
  (.ret))))))))))
theorem fun_spec_ColumnGains {rin : List T} {args : List A} {Q : List T → T → Prop} (ha : args.length ≤ 25) (h : cW Try.prog 25 c_spec_ColumnGains (retP Try.prog [.tmp 4, .tmp 5] rin.length Q) (St.of (enum 0 args) (enum 1000000000 rin))) :
    Fun Try.prog 54 rin args Q :=
  Fun.of Try.func54 rfl rfl rfl (by kernel_rfl) ha (by decide) h

def c_impl_ColumnGains : CC :=
  (.seq (.reg [.o (.move 4 (cv (.slice none 0 0))),
     .o (.move 5 (ci 0))])
  ((.seq (.seq (.reg [.o (.move 6 (sl 0)),
      .o (.call (some 7) (cf 18) [(sl 6)]),
      .o (.un 8 .not (sl 7))])
   ((.cond (sl 8) (.seq (.reg [.o (.move 4 (cv (.slice none 0 0))),
       .o (.move 5 (ci 1))])
    (.ret))
    .skip)))
  ((.seq (.seq (.reg [.o (.move 9 (sl 1)),
      .o (.move 10 (sl 0)),
      .o (.lenS 11 (sl 10)),
      .o (.call (some 12) (cf 29) [(sl 9), (sl 11)]),
      .o (.un 13 .not (sl 12))])
   ((.cond (sl 13) (.seq (.reg [.o (.move 4 (cv (.slice none 0 0))),
       .o (.move 5 (ci 2))])
    (.ret))
    .skip)))
  ((.seq (.reg [.o (.move 14 (sl 0)),
     .o (.call (some 15) (cf 72) [(sl 14)]),
     .o (.move 16 (sl 1)),
     .o (.call (some 17) (cf 84) [(sl 15), (sl 16)]),
     .o (.extract 18 (sl 17) 0),
     .o (.extract 19 (sl 17) 1),
     .o (.move 4 (sl 18)),
     .o (.move 5 (sl 19))])
  (.ret))))))))
theorem fun_impl_ColumnGains {rin : List T} {args : List A} {Q : List T → T → Prop} (ha : args.length ≤ 20) (h : cW Try.prog 20 c_impl_ColumnGains (retP Try.prog [.tmp 4, .tmp 5] rin.length Q) (St.of (enum 0 args) (enum 1000000000 rin))) :
    Fun Try.prog 55 rin args Q :=
  Fun.of Try.func55 rfl rfl rfl (by kernel_rfl) ha (by decide) h

def c_laws_szInt64S : CC :=
  (.seq (.reg [.o (.move 4 (ci 0))])
  ((.seq (.reg [.o (.move 5 (sl 1)),
     .o (.move 6 (sl 0)),
     .o (.lenS 7 (sl 6)),
     .o (.bin 8 .sub (sl 5) (sl 7)),
     .o (.move 1 (sl 8))])
  ((.seq (.seq (.reg [.o (.move 9 (sl 1)),
      .o (.bin 10 .lss (sl 9) (ci 0))])
   ((.cond (sl 10) (.seq (.reg [.o (.move 4 (ci (-1)))])
    (.ret))
    .skip)))
  ((.seq (.reg [.o (.move 11 (sl 1)),
     .o (.move 4 (sl 11))])
  (.ret))))))))
theorem fun_laws_szInt64S {rin : List T} {args : List A} {Q : List T → T → Prop} (ha : args.length ≤ 12) (h : cW Try.prog 12 c_laws_szInt64S (retP Try.prog [.tmp 4] rin.length Q) (St.of (enum 0 args) (enum 1000000000 rin))) :
    Fun Try.prog 56 rin args Q :=
  Fun.of Try.func56 rfl rfl rfl (by kernel_rfl) ha (by decide) h

def c_spec_l01In : CC :=
  (.seq (.reg [.o (.move 6 (cb false))])
  ((.seq (.reg [.o (.move 7 (sl 0)),
     .o (.move 8 (sl 1)),
     .o (.bin 9 .geq (sl 7) (sl 8)),
     .o (.move 10 (sl 9)),
     .g 10 true (some 11) (.move 11 (sl 0)),
     .g 10 true (some 12) (.move 12 (sl 2)),
     .g 10 true (some 13) (.bin 13 .leq (sl 11) (sl 12)),
     .o (.pick 14 (sl 10) (sl 13) (cb false)),
     .o (.move 6 (sl 14))])
  (.ret))))
theorem fun_spec_l01In {rin : List T} {args : List A} {Q : List T → T → Prop} (ha : args.length ≤ 15) (h : cW Try.prog 15 c_spec_l01In (retP Try.prog [.tmp 6] rin.length Q) (St.of (enum 0 args) (enum 1000000000 rin))) :
    Fun Try.prog 57 rin args Q :=
  Fun.of Try.func57 rfl rfl rfl (by kernel_rfl) ha (by decide) h

def c_impl_within : CC :=
  (.seq (.reg [.o (.move 6 (cb false))])
  ((.seq (.reg [.o (.move 7 (sl 0)),
     .o (.move 8 (sl 1)),
     .o (.bin 9 .geq (sl 7) (sl 8)),
     .o (.move 10 (sl 9)),
     .g 10 true (some 11) (.move 11 (sl 0)),
     .g 10 true (some 12) (.move 12 (sl 2)),
     .g 10 true (some 13) (.bin 13 .leq (sl 11) (sl 12)),
     .o (.pick 14 (sl 10) (sl 13) (cb false)),
     .o (.move 6 (sl 14))])
  (.ret))))
theorem fun_impl_within {rin : List T} {args : List A} {Q : List T → T → Prop} (ha : args.length ≤ 15) (h : cW Try.prog 15 c_impl_within (retP Try.prog [.tmp 6] rin.length Q) (St.of (enum 0 args) (enum 1000000000 rin))) :
    Fun Try.prog 58 rin args Q :=
  Fun.of Try.func58 rfl rfl rfl (by kernel_rfl) ha (by decide) h

def c_slices_ContainsFunc_____int64___int64_ : CC :=
  (.seq (.reg [.o (.move 4 (cb false))])
  ((.seq (.reg [.o (.move 5 (sl 0)),
     .o (.move 6 (sl 1)),
     .o (.call (some 7) (cf 89) [(sl 5), (sl 6)]),
     .o (.bin 8 .geq (sl 7) (ci 0)),
     .o (.move 4 (sl 8))])
  (.ret))))
theorem fun_slices_ContainsFunc_____int64___int64_ {rin : List T} {args : List A} {Q : List T → T → Prop} (ha : args.length ≤ 9) (h : cW Try.prog 9 c_slices_ContainsFunc_____int64___int64_ (retP Try.prog [.tmp 4] rin.length Q) (St.of (enum 0 args) (enum 1000000000 rin))) :
    Fun Try.prog 59 rin args Q :=
  Fun.of Try.func59 rfl rfl rfl (by kernel_rfl) ha (by decide) h

def c_impl_IsMatrix_1 : CC :=
  (.seq (.reg [.o (.move 3 (cb false))])
  ((.seq (.reg [.o (.move 4 (sl 0)),
     .o (.lenS 5 (sl 4)),
     .o (.load1 6 (sl 1)),
     .o (.idx 7 1 (sl 6) (ci 0)),
     .o (.load1 8 (sl 7)),
     .o (.lenS 9 (sl 8)),
     .o (.bin 10 .neq (sl 5) (sl 9)),
     .o (.move 11 (sl 10)),
     .g 11 false (some 12) (.move 12 (sl 0)),
     .g 11 false (some 13) (.call (some 13) (cf 61) [(sl 12), (ci (-20)), (ci 20)]),
     .g 11 false (some 14) (.un 14 .not (sl 13)),
     .o (.pick 15 (sl 11) (cb true) (sl 14)),
     .o (.move 3 (sl 15))])
  (.ret))))
theorem fun_impl_IsMatrix_1 {rin : List T} {args : List A} {Q : List T → T → Prop} (ha : args.length ≤ 16) (h : cW Try.prog 16 c_impl_IsMatrix_1 (retP Try.prog [.tmp 3] rin.length Q) (St.of (enum 0 args) (enum 1000000000 rin))) :
    Fun Try.prog 60 rin args Q :=
  Fun.of Try.func60 rfl rfl rfl (by kernel_rfl) ha (by decide) h

def c_impl_allWithin : CC :=
  (.seq (.reg [.o (.move 6 (cb false))])
  ((.seq (.seq (.reg [.o (.move 9 (sl 0)),
      .o (.lenS 10 (sl 9)),
      .o (.move 11 (ci 0))])
   ((.block 0 (.loop (.seq (.reg [.o (.bin 12 .lss (sl 11) (sl 10))])
     ((.seq (.cond (sl 12) .skip
       (.exit 0))
     ((.seq (.block 1 (.seq (.reg [.o (.idx 13 1 (sl 9) (sl 11)),
          .o (.load1 14 (sl 13)),
          .o (.move 8 (sl 14))])
       ((.seq (.reg [.o (.move 15 (sl 8)),
          .o (.move 16 (sl 1)),
          .o (.move 17 (sl 2)),
          .o (.call (some 18) (cf 58) [(sl 15), (sl 16), (sl 17)]),
          .o (.un 19 .not (sl 18))])
       ((.cond (sl 19) (.seq (.reg [.o (.move 6 (cb false))])
        (.ret))
        .skip))))))
     ((.reg [.o (.bin 20 .add (sl 11) (ci 1)),
       .o (.move 11 (sl 20))])))))))))))
  ((.seq (.reg [.o (.move 6 (cb true))])
  (.ret))))))
theorem fun_impl_allWithin {rin : List T} {args : List A} {Q : List T → T → Prop} (ha : args.length ≤ 21) (h : cW Try.prog 21 c_impl_allWithin (retP Try.prog [.tmp 6] rin.length Q) (St.of (enum 0 args) (enum 1000000000 rin))) :
    Fun Try.prog 61 rin args Q :=
  Fun.of Try.func61 rfl rfl rfl (by kernel_rfl) ha (by decide) h

def c_spec_l25Halved : CC :=
  (.seq (.reg [.o (.move 2 (cv (.slice none 0 0)))])
  ((.seq (.reg [.o (.move 7 (sl 0)),
     .o (.call (some 8) (cf 90) [(sl 7)]),
     .o (.move 3 (sl 8))])
  ((.block 0 (.loop (.block 1 (.seq (.reg [.o (.move 4 (ci 0))])
     ((.seq (.seq (.reg [.o (.move 5 (ci 0))])
      ((.block 2 (.loop (.seq (.seq (.reg [.o (.move 9 (sl 5)),
            .o (.move 10 (sl 3)),
            .o (.lenS 11 (sl 10)),
            .o (.bin 12 .lss (sl 9) (sl 11))])
         ((.cond (sl 12) .skip
          (.exit 2))))
        ((.seq (.block 3 (.reg [.o (.move 15 (sl 4)),
            .o (.move 16 (sl 3)),
            .o (.move 17 (sl 5)),
            .o (.idx 18 1 (sl 16) (sl 17)),
            .o (.load1 19 (sl 18)),
            .o (.mm 20 true (sl 15) (sl 19)),
            .o (.move 4 (sl 20))]))
        ((.reg [.o (.move 13 (sl 5)),
          .o (.bin 14 .add (sl 13) (ci 1)),
          .o (.move 5 (sl 14))])))))))))
     ((.seq (.seq (.reg [.o (.move 21 (sl 4)),
         .o (.bin 22 .leq (sl 21) (ci 1000000000))])
      ((.cond (sl 22) (.seq (.reg [.o (.move 23 (sl 3)),
          .o (.move 2 (sl 23))])
       (.ret))
       .skip)))
     ((.seq (.reg [.o (.move 6 (ci 0))])
     ((.block 4 (.loop (.seq (.seq (.reg [.o (.move 24 (sl 6)),
           .o (.move 25 (sl 3)),
           .o (.lenS 26 (sl 25)),
           .o (.bin 27 .lss (sl 24) (sl 26))])
        ((.cond (sl 27) .skip
         (.exit 4))))
       ((.seq (.block 5 (.reg [.o (.move 30 (sl 3)),
           .o (.move 31 (sl 6)),
           .o (.move 32 (sl 3)),
           .o (.move 33 (sl 6)),
           .o (.idx 34 1 (sl 32) (sl 33)),
           .o (.load1 35 (sl 34)),
           .o (.bin 36 .quo (sl 35) (ci 2)),
           .o (.idx 37 1 (sl 30) (sl 31)),
           .o (.store 1 (sl 37) (sl 36))]))
       ((.reg [.o (.move 28 (sl 6)),
         .o (.bin 29 .add (sl 28) (ci 1)),
         .o (.move 6 (sl 29))]))))))))))))))))))))))
theorem fun_spec_l25Halved {rin : List T} {args : List A} {Q : List T → T → Prop} (ha : args.length ≤ 38) (h : cW Try.prog 38 c_spec_l25Halved (retP Try.prog [.tmp 2] rin.length Q) (St.of (enum 0 args) (enum 1000000000 rin))) :
    Fun Try.prog 62 rin args Q :=
  Fun.of Try.func62 rfl rfl rfl (by kernel_rfl) ha (by decide) h

def c_impl_halved : CC :=
  (.seq (.reg [.o (.move 2 (cv (.slice none 0 0)))])
  ((.seq (.reg [.o (.move 5 (sl 0)),
     .o (.call (some 6) (cf 91) [(sl 5)]),
     .o (.move 3 (sl 6))])
  ((.seq (.block 0 (.loop (.seq (.seq (.reg [.o (.move 7 (sl 3)),
         .o (.call (some 8) (cf 73) [(sl 7)]),
         .o (.bin 9 .gtr (sl 8) (ci 1000000000))])
      ((.cond (sl 9) .skip
       (.exit 0))))
     ((.block 1 (.seq (.reg [.o (.move 10 (sl 3)),
         .o (.lenS 11 (sl 10)),
         .o (.move 12 (ci 0))])
      ((.block 2 (.loop (.seq (.reg [.o (.bin 13 .lss (sl 12) (sl 11))])
        ((.seq (.cond (sl 13) .skip
          (.exit 2))
        ((.seq (.block 3 (.seq (.reg [.o (.move 14 (sl 12)),
             .o (.move 4 (sl 14))])
          ((.reg [.o (.move 15 (sl 3)),
            .o (.move 16 (sl 4)),
            .o (.idx 17 1 (sl 15) (sl 16)),
            .o (.load1 18 (sl 17)),
            .o (.bin 19 .quo (sl 18) (ci 2)),
            .o (.idx 20 1 (sl 15) (sl 16)),
            .o (.store 1 (sl 20) (sl 19))]))))
        ((.reg [.o (.bin 21 .add (sl 12) (ci 1)),
          .o (.move 12 (sl 21))]))))))))))))))))
  ((.seq (.reg [.o (.move 22 (sl 3)),
     .o (.move 2 (sl 22))])
  (.ret))))))))
theorem fun_impl_halved {rin : List T} {args : List A} {Q : List T → T → Prop} (ha : args.length ≤ 23) (h : cW Try.prog 23 c_impl_halved (retP Try.prog [.tmp 2] rin.length Q) (St.of (enum 0 args) (enum 1000000000 rin))) :
    Fun Try.prog 64 rin args Q :=
  Fun.of Try.func64 rfl rfl rfl (by kernel_rfl) ha (by decide) h

def c_spec_l19Whole : CC :=
  (.seq (.reg [.o (.alloc 2 [.v (.int .i64 0), .v (.int .i64 0)])])
  ((.seq (.reg [.o (.move 3 (sl 0)),
     .o (.build 4 [.v (.int .i64 0), .v (.int .i64 0)] [(0, 1), (1, 1)] [(0, (sl 3)), (1, (ci 1))]),
     .o (.store 2 (sl 2) (sl 4))])
  (.ret))))
theorem fun_spec_l19Whole {rin : List T} {args : List A} {Q : List T → T → Prop} (ha : args.length ≤ 5) (h : cW Try.prog 5 c_spec_l19Whole (retP Try.prog [.cell 2 52] rin.length Q) (St.of (enum 0 args) (enum 1000000000 rin))) :
    Fun Try.prog 65 rin args Q :=
  Fun.of Try.func65 rfl rfl rfl (by kernel_rfl) ha (by decide) h

def c_spec_IsRatio : CC :=
  (.seq (.reg [.o (.box 1 (sl 0)),
     .o (.move 2 (cb false))])
  ((.seq (.draw [(.r, .o (.fld 3 0 (sl 1))),
     (.r, .o (.load1 4 (sl 3))),
     (.r, .o (.call (some 5) (cf 57) [(sl 4), (ci (-1000000000)), (ci 1000000000)])),
     (.r, .o (.move 6 (sl 5))),
     (.r, .g 6 true (some 7) (.fld 7 1 (sl 1))),
     (.r, .g 6 true (some 8) (.load1 8 (sl 7))),
     (.r, .g 6 true (some 9) (.call (some 9) (cf 57) [(sl 8), (ci 1), (ci 1000000000)])),
     (.r, .o (.pick 10 (sl 6) (sl 9) (cb false))),
     (.r, .o (.move 11 (sl 10))),
     (.r, .g 11 true (some 12) (.fld 12 0 (sl 1))),
     (.r, .g 11 true (some 13) (.load1 13 (sl 12))),
     (.r, .g 11 true (some 14) (.call (some 14) (cf 93) [(sl 13)])),
     (.r, .g 11 true (some 15) (.fld 15 1 (sl 1))),
     (.r, .g 11 true (some 16) (.load1 16 (sl 15))),
     (.r, .g 11 true (some 17) (.call (some 17) (cf 92) [(sl 14), (sl 16)])),
     (.r, .g 11 true (some 18) (.bin 18 .eql (sl 17) (ci 1))),
     (.r, .o (.pick 19 (sl 11) (sl 18) (cb false))),
     (.r, .o (.move 2 (sl 19)))])
  (.ret))))
theorem fun_spec_IsRatio {rin : List T} {args : List A} {Q : List T → T → Prop} (ha : args.length ≤ 20) (h : cW Try.prog 20 c_spec_IsRatio (retP Try.prog [.tmp 2] rin.length Q) (St.of (enum 0 args) (enum 1000000000 rin))) :
    Fun Try.prog 66 rin args Q :=
  Fun.of Try.func66 rfl rfl rfl (by kernel_rfl) ha (by decide) h

def c_spec_l19Add : CC :=
  (.seq (.reg [.o (.box 4 (sl 1)),
     .o (.box 5 (sl 2)),
     .o (.alloc 6 [.v (.int .i64 0), .v (.int .i64 0)])])
  ((.seq (.seq (.reg [.o (.move 9 (sl 0)),
      .o (.nilc 10 (sl 9)),
      .o (.fld 11 0 (sl 10)),
      .o (.load1 12 (sl 11)),
      .o (.bin 13 .neq (sl 12) (ci 0))])
   ((.cond (sl 13) (.seq (.reg [.o (.build 14 [.v (.int .i64 0), .v (.int .i64 0)] [(0, 1), (1, 1)] [(1, (ci 1))]),
       .o (.store 2 (sl 6) (sl 14))])
    (.ret))
    .skip)))
  ((.seq (.reg [.o (.loadN 16 2 (sl 4)),
     .o (.loadN 17 2 (sl 5)),
     .o (.call (some 18) (cf 94) [(sl 16), (sl 17)]),
     .o (.move 15 (sl 18)),
     .o (.extract 19 (sl 15) 0),
     .o (.extract 20 (sl 15) 1),
     .o (.alloc 7 [.v (.int .i64 0), .v (.int .i64 0)]),
     .o (.store 2 (sl 7) (sl 19)),
     .o (.move 8 (sl 20))])
  ((.seq (.reg [.o (.move 21 (sl 0)),
     .o (.move 22 (sl 8)),
     .o (.nilc 23 (sl 21)),
     .o (.fld 24 0 (sl 23)),
     .o (.store 1 (sl 24) (sl 22))])
  ((.seq (.reg [.o (.loadN 25 2 (sl 7)),
     .o (.store 2 (sl 6) (sl 25))])
  (.ret))))))))))
theorem fun_spec_l19Add {rin : List T} {args : List A} {Q : List T → T → Prop} (ha : args.length ≤ 26) (h : cW Try.prog 26 c_spec_l19Add (retP Try.prog [.cell 6 52] rin.length Q) (St.of (enum 0 args) (enum 1000000000 rin))) :
    Fun Try.prog 67 rin args Q :=
  Fun.of Try.func67 rfl rfl rfl (by kernel_rfl) ha (by decide) h

def c_laws_toRatio : CC :=
  (.seq (.reg [.o (.box 1 (sl 0)),
     .o (.alloc 2 [.v (.int .i64 0), .v (.int .i64 0)])])
  ((.seq (.reg [.o (.alloc 3 [.v (.int .i64 0), .v (.int .i64 0)])])
  ((.seq (.reg [.o (.fld 4 0 (sl 1)),
     .o (.load1 5 (sl 4)),
     .o (.fld 6 0 (sl 3)),
     .o (.store 1 (sl 6) (sl 5))])
  ((.seq (.reg [.o (.fld 7 1 (sl 1)),
     .o (.load1 8 (sl 7)),
     .o (.fld 9 1 (sl 3)),
     .o (.store 1 (sl 9) (sl 8))])
  ((.seq (.reg [.o (.loadN 10 2 (sl 3)),
     .o (.store 2 (sl 2) (sl 10))])
  (.ret))))))))))
theorem fun_laws_toRatio {rin : List T} {args : List A} {Q : List T → T → Prop} (ha : args.length ≤ 11) (h : cW Try.prog 11 c_laws_toRatio (retP Try.prog [.cell 2 52] rin.length Q) (St.of (enum 0 args) (enum 1000000000 rin))) :
    Fun Try.prog 68 rin args Q :=
  Fun.of Try.func68 rfl rfl rfl (by kernel_rfl) ha (by decide) h

def c_impl_IsRatio : CC :=
  (.seq (.reg [.o (.box 1 (sl 0)),
     .o (.move 2 (cb false))])
  ((.seq (.draw [(.r, .o (.fld 3 0 (sl 1))),
     (.r, .o (.load1 4 (sl 3))),
     (.r, .o (.call (some 5) (cf 58) [(sl 4), (ci (-1000000000)), (ci 1000000000)])),
     (.r, .o (.move 6 (sl 5))),
     (.r, .g 6 true (some 7) (.fld 7 1 (sl 1))),
     (.r, .g 6 true (some 8) (.load1 8 (sl 7))),
     (.r, .g 6 true (some 9) (.call (some 9) (cf 58) [(sl 8), (ci 1), (ci 1000000000)])),
     (.r, .o (.pick 10 (sl 6) (sl 9) (cb false))),
     (.r, .o (.move 11 (sl 10))),
     (.r, .g 11 true (some 12) (.fld 12 0 (sl 1))),
     (.r, .g 11 true (some 13) (.load1 13 (sl 12))),
     (.r, .g 11 true (some 14) (.call (some 14) (cf 96) [(sl 13)])),
     (.r, .g 11 true (some 15) (.fld 15 1 (sl 1))),
     (.r, .g 11 true (some 16) (.load1 16 (sl 15))),
     (.r, .g 11 true (some 17) (.call (some 17) (cf 95) [(sl 14), (sl 16)])),
     (.r, .g 11 true (some 18) (.bin 18 .eql (sl 17) (ci 1))),
     (.r, .o (.pick 19 (sl 11) (sl 18) (cb false))),
     (.r, .o (.move 2 (sl 19)))])
  (.ret))))
theorem fun_impl_IsRatio {rin : List T} {args : List A} {Q : List T → T → Prop} (ha : args.length ≤ 20) (h : cW Try.prog 20 c_impl_IsRatio (retP Try.prog [.tmp 2] rin.length Q) (St.of (enum 0 args) (enum 1000000000 rin))) :
    Fun Try.prog 69 rin args Q :=
  Fun.of Try.func69 rfl rfl rfl (by kernel_rfl) ha (by decide) h

def c_impl_AddRatios : CC :=
  (.seq (.reg [.o (.box 2 (sl 0)),
     .o (.box 3 (sl 1)),
     .o (.alloc 4 [.v (.int .i64 0), .v (.int .i64 0)]),
     .o (.move 5 (ci 0))])
  ((.seq (.seq (.reg [.o (.loadN 6 2 (sl 2)),
      .o (.call (some 7) (cf 69) [(sl 6)]),
      .o (.un 8 .not (sl 7)),
      .o (.move 9 (sl 8)),
      .g 9 false (some 10) (.loadN 10 2 (sl 3)),
      .g 9 false (some 11) (.call (some 11) (cf 69) [(sl 10)]),
      .g 9 false (some 12) (.un 12 .not (sl 11)),
      .o (.pick 13 (sl 9) (cb true) (sl 12))])
   ((.cond (sl 13) (.seq (.reg [.o (.build 14 [.v (.int .i64 0), .v (.int .i64 0)] [(0, 1), (1, 1)] []),
       .o (.store 2 (sl 4) (sl 14)),
       .o (.move 5 (ci 1))])
    (.ret))
    .skip)))
  ((.seq (.reg [.o (.fld 15 0 (sl 2)),
     .o (.load1 16 (sl 15)),
     .o (.fld 17 1 (sl 3)),
     .o (.load1 18 (sl 17)),
     .o (.bin 19 .mul (sl 16) (sl 18)),
     .o (.fld 20 0 (sl 3)),
     .o (.load1 21 (sl 20)),
     .o (.fld 22 1 (sl 2)),
     .o (.load1 23 (sl 22)),
     .o (.bin 24 .mul (sl 21) (sl 23)),
     .o (.bin 25 .add (sl 19) (sl 24)),
     .o (.fld 26 1 (sl 2)),
     .o (.load1 27 (sl 26)),
     .o (.fld 28 1 (sl 3)),
     .o (.load1 29 (sl 28)),
     .o (.bin 30 .mul (sl 27) (sl 29)),
     .o (.call (some 31) (cf 97) [(sl 25), (sl 30)]),
     .o (.extract 32 (sl 31) 0),
     .o (.extract 33 (sl 31) 1),
     .o (.store 2 (sl 4) (sl 32)),
     .o (.move 5 (sl 33))])
  (.ret))))))
theorem fun_impl_AddRatios {rin : List T} {args : List A} {Q : List T → T → Prop} (ha : args.length ≤ 34) (h : cW Try.prog 34 c_impl_AddRatios (retP Try.prog [.cell 4 52, .tmp 5] rin.length Q) (St.of (enum 0 args) (enum 1000000000 rin))) :
    Fun Try.prog 70 rin args Q :=
  Fun.of Try.func70 rfl rfl rfl (by kernel_rfl) ha (by decide) h

def c_impl_DominatedRows_1 : CC :=
  (.seq (.reg [.o (.move 3 (cb false))])
  ((.seq (.seq (.reg [.o (.load1 6 (sl 1)),
      .o (.lenS 7 (sl 6)),
      .o (.move 8 (ci 0))])
   ((.block 0 (.loop (.seq (.reg [.o (.bin 9 .lss (sl 8) (sl 7))])
     ((.seq (.cond (sl 9) .skip
       (.exit 0))
     ((.seq (.block 1 (.seq (.reg [.o (.move 10 (sl 8)),
          .o (.idx 11 1 (sl 6) (sl 8)),
          .o (.load1 12 (sl 11)),
          .o (.move 4 (sl 10)),
          .o (.move 5 (sl 12))])
       ((.seq (.reg [.o (.move 13 (sl 0)),
          .o (.move 14 (sl 4)),
          .o (.idx 15 1 (sl 13) (sl 14)),
          .o (.load1 16 (sl 15)),
          .o (.move 17 (sl 5)),
          .o (.bin 18 .leq (sl 16) (sl 17))])
       ((.cond (sl 18) (.seq (.reg [.o (.move 3 (cb false))])
        (.ret))
        .skip))))))
     ((.reg [.o (.bin 19 .add (sl 8) (ci 1)),
       .o (.move 8 (sl 19))])))))))))))
  ((.seq (.reg [.o (.move 3 (cb true))])
  (.ret))))))
theorem fun_impl_DominatedRows_1 {rin : List T} {args : List A} {Q : List T → T → Prop} (ha : args.length ≤ 20) (h : cW Try.prog 20 c_impl_DominatedRows_1 (retP Try.prog [.tmp 3] rin.length Q) (St.of (enum 0 args) (enum 1000000000 rin))) :
    Fun Try.prog 71 rin args Q :=
  Fun.of Try.func71 rfl rfl rfl (by kernel_rfl) ha (by decide) h

def c_impl_turned : CC :=
  (.seq (.reg [.o (.move 2 (cv (.slice none 0 0)))])
  ((.seq (.reg [.o (.move 7 (sl 0)),
     .o (.idx 8 1 (sl 7) (ci 0)),
     .o (.load1 9 (sl 8)),
     .o (.lenS 10 (sl 9)),
     .o (.make 11 [.v (.slice none 0 0)] 24 (sl 10) (sl 10)),
     .o (.move 3 (sl 11))])
  ((.seq (.seq (.reg [.o (.move 12 (sl 3)),
      .o (.lenS 13 (sl 12)),
      .o (.move 14 (ci 0))])
   ((.block 0 (.loop (.seq (.reg [.o (.bin 15 .lss (sl 14) (sl 13))])
     ((.seq (.cond (sl 15) .skip
       (.exit 0))
     ((.seq (.block 1 (.seq (.reg [.o (.move 16 (sl 14)),
          .o (.move 4 (sl 16))])
       ((.seq (.reg [.o (.move 17 (sl 0)),
          .o (.lenS 18 (sl 17)),
          .o (.move 19 (ci 0))])
       ((.block 2 (.loop (.seq (.reg [.o (.bin 20 .lss (sl 19) (sl 18))])
         ((.seq (.cond (sl 20) .skip
           (.exit 2))
         ((.seq (.block 3 (.seq (.reg [.o (.idx 21 1 (sl 17) (sl 19)),
              .o (.load1 22 (sl 21)),
              .o (.move 6 (sl 22))])
           ((.draw [(.e, .o (.move 23 (sl 3))),
             (.e, .o (.move 24 (sl 4))),
             (.e, .o (.move 25 (sl 3))),
             (.e, .o (.move 26 (sl 4))),
             (.e, .o (.idx 27 1 (sl 25) (sl 26))),
             (.e, .o (.load1 28 (sl 27))),
             (.r, .o (.move 29 (sl 6))),
             (.r, .o (.move 30 (sl 4))),
             (.r, .o (.idx 31 1 (sl 29) (sl 30))),
             (.r, .o (.load1 32 (sl 31))),
             (.h, .o (.bslice 33 1 1 [(0, (sl 32))])),
             (.h, .o (.app 34 1 8 (sl 28) (sl 33))),
             (.r, .o (.idx 35 1 (sl 23) (sl 24))),
             (.h, .o (.store 1 (sl 35) (sl 34)))]))))
         ((.reg [.o (.bin 36 .add (sl 19) (ci 1)),
           .o (.move 19 (sl 36))]))))))))))))))
     ((.reg [.o (.bin 37 .add (sl 14) (ci 1)),
       .o (.move 14 (sl 37))])))))))))))
  ((.seq (.reg [.o (.move 38 (sl 3)),
     .o (.move 2 (sl 38))])
  (.ret))))))))
theorem fun_impl_turned {rin : List T} {args : List A} {Q : List T → T → Prop} (ha : args.length ≤ 39) (h : cW Try.prog 39 c_impl_turned (retP Try.prog [.tmp 2] rin.length Q) (St.of (enum 0 args) (enum 1000000000 rin))) :
    Fun Try.prog 72 rin args Q :=
  Fun.of Try.func72 rfl rfl rfl (by kernel_rfl) ha (by decide) h

def c_spec_l27Square : CC :=
  (.seq (.reg [.o (.move 2 (ci 0))])
  ((.seq (.seq (.reg [.o (.move 3 (sl 0)),
      .o (.call (some 4) (cf 16) [(sl 3)]),
      .o (.un 5 .not (sl 4))])
   ((.cond (sl 5) (.seq (.reg [.o (.move 2 (ci 1))])
    (.ret))
    .skip)))
  ((.seq (.seq (.reg [.o (.move 6 (sl 0)),
      .o (.lenS 7 (sl 6)),
      .o (.move 8 (sl 0)),
      .o (.idx 9 1 (sl 8) (ci 0)),
      .o (.load1 10 (sl 9)),
      .o (.lenS 11 (sl 10)),
      .o (.bin 12 .neq (sl 7) (sl 11))])
   ((.cond (sl 12) (.seq (.reg [.o (.move 2 (ci 5))])
    (.ret))
    .skip)))
  ((.seq (.reg [.o (.move 2 (ci 0))])
  (.ret))))))))
theorem fun_spec_l27Square {rin : List T} {args : List A} {Q : List T → T → Prop} (ha : args.length ≤ 13) (h : cW Try.prog 13 c_spec_l27Square (retP Try.prog [.tmp 2] rin.length Q) (St.of (enum 0 args) (enum 1000000000 rin))) :
    Fun Try.prog 74 rin args Q :=
  Fun.of Try.func74 rfl rfl rfl (by kernel_rfl) ha (by decide) h

def c_spec_l27Det : CC :=
  (.seq (.reg [.o (.move 2 (ci 0))])
  ((.seq (.seq (.reg [.o (.move 5 (sl 0)),
      .o (.lenS 6 (sl 5)),
      .o (.bin 7 .eql (sl 6) (ci 0))])
   ((.cond (sl 7) (.seq (.reg [.o (.move 2 (ci 1))])
    (.ret))
    .skip)))
  ((.seq (.reg [.o (.move 3 (ci 0))])
  ((.seq (.seq (.reg [.o (.move 4 (ci 0))])
   ((.block 0 (.loop (.seq (.seq (.reg [.o (.move 8 (sl 4)),
         .o (.move 9 (sl 0)),
         .o (.lenS 10 (sl 9)),
         .o (.bin 11 .lss (sl 8) (sl 10))])
      ((.cond (sl 11) .skip
       (.exit 0))))
     ((.seq (.block 1 (.draw [(.e, .o (.move 14 (sl 3))),
         (.r, .o (.move 15 (sl 4))),
         (.r, .o (.call (some 16) (cf 98) [(sl 15)])),
         (.e, .o (.move 17 (sl 0))),
         (.e, .o (.idx 18 1 (sl 17) (ci 0))),
         (.e, .o (.load1 19 (sl 18))),
         (.e, .o (.move 20 (sl 4))),
         (.e, .o (.idx 21 1 (sl 19) (sl 20))),
         (.e, .o (.load1 22 (sl 21))),
         (.e, .o (.bin 23 .mul (sl 16) (sl 22))),
         (.r, .o (.move 24 (sl 0))),
         (.r, .o (.move 25 (sl 4))),
         (.h, .o (.call (some 26) (cf 99) [(sl 24), (ci 0), (sl 25)])),
         (.r, .o (.call (some 27) (cf 75) [(sl 26)])),
         (.r, .o (.bin 28 .mul (sl 23) (sl 27))),
         (.r, .o (.bin 29 .add (sl 14) (sl 28))),
         (.r, .o (.move 3 (sl 29)))]))
     ((.reg [.o (.move 12 (sl 4)),
       .o (.bin 13 .add (sl 12) (ci 1)),
       .o (.move 4 (sl 13))])))))))))
  ((.seq (.reg [.o (.move 30 (sl 3)),
     .o (.move 2 (sl 30))])
  (.ret))))))))))
theorem fun_spec_l27Det {rin : List T} {args : List A} {Q : List T → T → Prop} (ha : args.length ≤ 31) (h : cW Try.prog 31 c_spec_l27Det (retP Try.prog [.tmp 2] rin.length Q) (St.of (enum 0 args) (enum 1000000000 rin))) :
    Fun Try.prog 75 rin args Q :=
  Fun.of Try.func75 rfl rfl rfl (by kernel_rfl) ha (by decide) h

def c_impl_determinant : CC :=
  (.seq (.reg [.o (.move 2 (ci 0))])
  ((.seq (.seq (.reg [.o (.move 7 (sl 0)),
      .o (.lenS 8 (sl 7)),
      .o (.bin 9 .eql (sl 8) (ci 0))])
   ((.cond (sl 9) (.seq (.reg [.o (.move 2 (ci 1))])
    (.ret))
    .skip)))
  ((.seq (.reg [.o (.move 3 (ci 0))])
  ((.seq (.seq (.reg [.o (.move 10 (sl 0)),
      .o (.idx 11 1 (sl 10) (ci 0)),
      .o (.load1 12 (sl 11)),
      .o (.lenS 13 (sl 12)),
      .o (.move 14 (ci 0))])
   ((.block 0 (.loop (.seq (.reg [.o (.bin 15 .lss (sl 14) (sl 13))])
     ((.seq (.cond (sl 15) .skip
       (.exit 0))
     ((.seq (.block 1 (.seq (.reg [.o (.move 16 (sl 14)),
          .o (.idx 17 1 (sl 12) (sl 14)),
          .o (.load1 18 (sl 17)),
          .o (.move 4 (sl 16)),
          .o (.move 5 (sl 18))])
       ((.seq (.reg [.o (.move 19 (sl 5)),
          .o (.move 20 (sl 0)),
          .o (.move 21 (sl 4)),
          .o (.call (some 22) (cf 100) [(sl 20), (ci 0), (sl 21)]),
          .o (.call (some 23) (cf 76) [(sl 22)]),
          .o (.bin 24 .mul (sl 19) (sl 23)),
          .o (.move 6 (sl 24))])
       ((.seq (.seq (.reg [.o (.move 25 (sl 4)),
           .o (.bin 26 .rem (sl 25) (ci 2)),
           .o (.bin 27 .eql (sl 26) (ci 1))])
        ((.cond (sl 27) (.reg [.o (.move 28 (sl 6)),
           .o (.un 29 .neg (sl 28)),
           .o (.move 6 (sl 29))])
         .skip)))
       ((.reg [.o (.move 30 (sl 3)),
         .o (.move 31 (sl 6)),
         .o (.bin 32 .add (sl 30) (sl 31)),
         .o (.move 3 (sl 32))]))))))))
     ((.reg [.o (.bin 33 .add (sl 14) (ci 1)),
       .o (.move 14 (sl 33))])))))))))))
  ((.seq (.reg [.o (.move 34 (sl 3)),
     .o (.move 2 (sl 34))])
  (.ret))))))))))
theorem fun_impl_determinant {rin : List T} {args : List A} {Q : List T → T → Prop} (ha : args.length ≤ 35) (h : cW Try.prog 35 c_impl_determinant (retP Try.prog [.tmp 2] rin.length Q) (St.of (enum 0 args) (enum 1000000000 rin))) :
    Fun Try.prog 76 rin args Q :=
  Fun.of Try.func76 rfl rfl rfl (by kernel_rfl) ha (by decide) h

def c_spec_l27Adj : CC :=
  (.seq (.reg [.o (.move 2 (cv (.slice none 0 0)))])
  ((.seq (.reg [.o (.bslice 7 1 0 []),
     .o (.move 3 (sl 7))])
  ((.seq (.seq (.reg [.o (.move 4 (ci 0))])
   ((.block 0 (.loop (.seq (.seq (.reg [.o (.move 8 (sl 4)),
         .o (.move 9 (sl 0)),
         .o (.lenS 10 (sl 9)),
         .o (.bin 11 .lss (sl 8) (sl 10))])
      ((.cond (sl 11) .skip
       (.exit 0))))
     ((.seq (.block 1 (.seq (.reg [.o (.bslice 14 1 0 []),
          .o (.move 5 (sl 14))])
       ((.seq (.seq (.reg [.o (.move 6 (ci 0))])
        ((.block 2 (.loop (.seq (.seq (.reg [.o (.move 15 (sl 6)),
              .o (.move 16 (sl 0)),
              .o (.lenS 17 (sl 16)),
              .o (.bin 18 .lss (sl 15) (sl 17))])
           ((.cond (sl 18) .skip
            (.exit 2))))
          ((.seq (.block 3 (.reg [.o (.move 21 (sl 5)),
              .o (.move 22 (sl 4)),
              .o (.move 23 (sl 6)),
              .o (.bin 24 .add (sl 22) (sl 23)),
              .o (.call (some 25) (cf 98) [(sl 24)]),
              .o (.move 26 (sl 0)),
              .o (.move 27 (sl 6)),
              .o (.move 28 (sl 4)),
              .o (.call (some 29) (cf 99) [(sl 26), (sl 27), (sl 28)]),
              .o (.call (some 30) (cf 75) [(sl 29)]),
              .o (.bin 31 .mul (sl 25) (sl 30)),
              .o (.bslice 32 1 1 [(0, (sl 31))]),
              .o (.app 33 1 8 (sl 21) (sl 32)),
              .o (.move 5 (sl 33))]))
          ((.reg [.o (.move 19 (sl 6)),
            .o (.bin 20 .add (sl 19) (ci 1)),
            .o (.move 6 (sl 20))])))))))))
       ((.reg [.o (.move 34 (sl 3)),
         .o (.move 35 (sl 5)),
         .o (.bslice 36 1 1 [(0, (sl 35))]),
         .o (.app 37 1 24 (sl 34) (sl 36)),
         .o (.move 3 (sl 37))]))))))
     ((.reg [.o (.move 12 (sl 4)),
       .o (.bin 13 .add (sl 12) (ci 1)),
       .o (.move 4 (sl 13))])))))))))
  ((.seq (.reg [.o (.move 38 (sl 3)),
     .o (.move 2 (sl 38))])
  (.ret))))))))
theorem fun_spec_l27Adj {rin : List T} {args : List A} {Q : List T → T → Prop} (ha : args.length ≤ 39) (h : cW Try.prog 39 c_spec_l27Adj (retP Try.prog [.tmp 2] rin.length Q) (St.of (enum 0 args) (enum 1000000000 rin))) :
    Fun Try.prog 77 rin args Q :=
  Fun.of Try.func77 rfl rfl rfl (by kernel_rfl) ha (by decide) h

def c_impl_adjugate : CC :=
  (.seq (.reg [.o (.move 2 (cv (.slice none 0 0)))])
  ((.seq (.reg [.o (.move 7 (sl 0)),
     .o (.lenS 8 (sl 7)),
     .o (.make 9 [.v (.slice none 0 0)] 24 (sl 8) (sl 8)),
     .o (.move 3 (sl 9))])
  ((.seq (.seq (.reg [.o (.move 10 (sl 0)),
      .o (.lenS 11 (sl 10)),
      .o (.move 12 (ci 0))])
   ((.block 0 (.loop (.seq (.reg [.o (.bin 13 .lss (sl 12) (sl 11))])
     ((.seq (.cond (sl 13) .skip
       (.exit 0))
     ((.seq (.block 1 (.seq (.reg [.o (.move 14 (sl 12)),
          .o (.move 4 (sl 14))])
       ((.seq (.reg [.o (.move 15 (sl 0)),
          .o (.lenS 16 (sl 15)),
          .o (.move 17 (ci 0))])
       ((.block 2 (.loop (.seq (.reg [.o (.bin 18 .lss (sl 17) (sl 16))])
         ((.seq (.cond (sl 18) .skip
           (.exit 2))
         ((.seq (.block 3 (.seq (.reg [.o (.move 19 (sl 17)),
              .o (.move 5 (sl 19))])
           ((.seq (.reg [.o (.move 20 (sl 0)),
              .o (.move 21 (sl 5)),
              .o (.move 22 (sl 4)),
              .o (.call (some 23) (cf 100) [(sl 20), (sl 21), (sl 22)]),
              .o (.call (some 24) (cf 76) [(sl 23)]),
              .o (.move 6 (sl 24))])
           ((.seq (.seq (.reg [.o (.move 25 (sl 4)),
               .o (.move 26 (sl 5)),
               .o (.bin 27 .add (sl 25) (sl 26)),
               .o (.bin 28 .rem (sl 27) (ci 2)),
               .o (.bin 29 .eql (sl 28) (ci 1))])
            ((.cond (sl 29) (.reg [.o (.move 30 (sl 6)),
               .o (.un 31 .neg (sl 30)),
               .o (.move 6 (sl 31))])
             .skip)))
           ((.reg [.o (.move 32 (sl 3)),
             .o (.move 33 (sl 4)),
             .o (.move 34 (sl 3)),
             .o (.move 35 (sl 4)),
             .o (.idx 36 1 (sl 34) (sl 35)),
             .o (.load1 37 (sl 36)),
             .o (.move 38 (sl 6)),
             .o (.bslice 39 1 1 [(0, (sl 38))]),
             .o (.app 40 1 8 (sl 37) (sl 39)),
             .o (.idx 41 1 (sl 32) (sl 33)),
             .o (.store 1 (sl 41) (sl 40))]))))))))
         ((.reg [.o (.bin 42 .add (sl 17) (ci 1)),
           .o (.move 17 (sl 42))]))))))))))))))
     ((.reg [.o (.bin 43 .add (sl 12) (ci 1)),
       .o (.move 12 (sl 43))])))))))))))
  ((.seq (.reg [.o (.move 44 (sl 3)),
     .o (.move 2 (sl 44))])
  (.ret))))))))
theorem fun_impl_adjugate {rin : List T} {args : List A} {Q : List T → T → Prop} (ha : args.length ≤ 45) (h : cW Try.prog 45 c_impl_adjugate (retP Try.prog [.tmp 2] rin.length Q) (St.of (enum 0 args) (enum 1000000000 rin))) :
    Fun Try.prog 78 rin args Q :=
  Fun.of Try.func78 rfl rfl rfl (by kernel_rfl) ha (by decide) h

def c_spec_l27DrawSquare : CC :=
  (.seq (.reg [.o (.move 2 (cv (.slice none 0 0)))])
  ((.seq (.reg [.o (.move 5 (sl 0)),
     .o (.call (some 6) (cf 101) [(sl 5)]),
     .o (.move 3 (sl 6))])
  ((.seq (.seq (.reg [.o (.move 7 (sl 3)),
      .o (.call (some 8) (cf 16) [(sl 7)]),
      .o (.un 9 .not (sl 8)),
      .o (.move 10 (sl 9)),
      .g 10 false (some 11) (.move 11 (sl 0)),
      .g 10 false (some 12) (.call (some 12) (cf 102) [(sl 11), (ci 8)]),
      .g 10 false (some 13) (.bin 13 .eql (sl 12) (ci 0)),
      .o (.pick 14 (sl 10) (cb true) (sl 13))])
   ((.cond (sl 14) (.seq (.reg [.o (.move 15 (sl 3)),
       .o (.move 2 (sl 15))])
    (.ret))
    .skip)))
  ((.seq (.reg [.o (.move 16 (sl 3)),
     .o (.lenS 17 (sl 16)),
     .o (.move 18 (sl 3)),
     .o (.idx 19 1 (sl 18) (ci 0)),
     .o (.load1 20 (sl 19)),
     .o (.lenS 21 (sl 20)),
     .o (.mm 22 false (sl 17) (sl 21)),
     .o (.move 4 (sl 22))])
  ((.seq (.reg [.o (.move 23 (sl 3)),
     .o (.move 24 (sl 4)),
     .o (.call (some 25) (cf 104) [(sl 24)]),
     .o (.move 26 (sl 4)),
     .o (.call (some 27) (cf 104) [(sl 26)]),
     .o (.call (some 28) (cf 103) [(sl 23), (sl 25), (sl 27)]),
     .o (.move 2 (sl 28))])
  (.ret))))))))))
theorem fun_spec_l27DrawSquare {rin : List T} {args : List A} {Q : List T → T → Prop} (ha : args.length ≤ 29) (h : cW Try.prog 29 c_spec_l27DrawSquare (retP Try.prog [.tmp 2] rin.length Q) (St.of (enum 0 args) (enum 1000000000 rin))) :
    Fun Try.prog 79 rin args Q :=
  Fun.of Try.func79 rfl rfl rfl (by kernel_rfl) ha (by decide) h

def c_spec_l01From : CC :=
  (.seq (.reg [.o (.move 2 (cv (.pointer none)))])
  ((.seq (.reg [.o (.move 5 (sl 0)),
     .o (.build 6 [.v (.slice none 0 0), .v (.int .i64 0), .v (.int .i64 0)] [(0, 1), (1, 1), (2, 1)] [(0, (sl 5)), (2, (ci 45007))]),
     .o (.box 7 (sl 6)),
     .o (.move 3 (sl 7))])
  ((.seq (.seq (.reg [.o (.move 4 (ci 0))])
   ((.block 0 (.loop (.seq (.seq (.reg [.o (.move 8 (sl 4)),
         .o (.move 9 (sl 0)),
         .o (.lenS 10 (sl 9)),
         .o (.bin 11 .lss (sl 8) (sl 10)),
         .o (.move 12 (sl 11)),
         .g 12 true (some 13) (.move 13 (sl 4)),
         .g 12 true (some 14) (.bin 14 .lss (sl 13) (ci 64)),
         .o (.pick 15 (sl 12) (sl 14) (cb false))])
      ((.cond (sl 15) .skip
       (.exit 0))))
     ((.seq (.block 1 (.draw [(.r, .o (.move 18 (sl 3))),
         (.r, .o (.move 19 (sl 3))),
         (.r, .o (.nilc 20 (sl 19))),
         (.r, .o (.fld 21 2 (sl 20))),
         (.r, .o (.load1 22 (sl 21))),
         (.r, .o (.bin 23 .mul (sl 22) (ci 61))),
         (.r, .o (.move 24 (sl 0))),
         (.r, .o (.move 25 (sl 4))),
         (.r, .o (.idx 26 1 (sl 24) (sl 25))),
         (.r, .o (.load1 27 (sl 26))),
         (.r, .o (.conv 28 .i64 (sl 27))),
         (.r, .o (.bin 29 .add (sl 23) (sl 28))),
         (.r, .o (.bin 30 .rem (sl 29) (ci 2147483647))),
         (.r, .o (.nilc 31 (sl 18))),
         (.r, .o (.fld 32 2 (sl 31))),
         (.h, .o (.store 1 (sl 32) (sl 30)))]))
     ((.reg [.o (.move 16 (sl 4)),
       .o (.bin 17 .add (sl 16) (ci 1)),
       .o (.move 4 (sl 17))])))))))))
  ((.seq (.reg [.o (.move 33 (sl 3)),
     .o (.move 2 (sl 33))])
  (.ret))))))))
theorem fun_spec_l01From {rin : List T} {args : List A} {Q : List T → T → Prop} (ha : args.length ≤ 34) (h : cW Try.prog 34 c_spec_l01From (retP Try.prog [.tmp 2] rin.length Q) (St.of (enum 0 args) (enum 1000000000 rin))) :
    Fun Try.prog 80 rin args Q :=
  Fun.of Try.func80 rfl rfl rfl (by kernel_rfl) ha (by decide) h

def c_laws_likeInts : CC :=
  (.seq (.reg [.o (.move 4 (cb false))])
  ((.seq (.seq (.reg [.o (.move 6 (sl 0)),
      .o (.lenS 7 (sl 6)),
      .o (.move 8 (sl 1)),
      .o (.lenS 9 (sl 8)),
      .o (.bin 10 .neq (sl 7) (sl 9))])
   ((.cond (sl 10) (.seq (.reg [.o (.move 4 (cb false))])
    (.ret))
    .skip)))
  ((.seq (.seq (.reg [.o (.move 5 (ci 0))])
   ((.block 0 (.loop (.seq (.seq (.reg [.o (.move 11 (sl 5)),
         .o (.move 12 (sl 0)),
         .o (.lenS 13 (sl 12)),
         .o (.bin 14 .lss (sl 11) (sl 13))])
      ((.cond (sl 14) .skip
       (.exit 0))))
     ((.seq (.block 1 (.seq (.draw [(.r, .o (.move 17 (sl 0))),
          (.r, .o (.move 18 (sl 5))),
          (.r, .o (.idx 19 1 (sl 17) (sl 18))),
          (.r, .o (.load1 20 (sl 19))),
          (.r, .o (.move 21 (sl 1))),
          (.r, .o (.move 22 (sl 5))),
          (.r, .o (.idx 23 1 (sl 21) (sl 22))),
          (.r, .o (.load1 24 (sl 23))),
          (.r, .o (.bin 25 .neq (sl 20) (sl 24)))])
       ((.cond (sl 25) (.seq (.reg [.o (.move 4 (cb false))])
        (.ret))
        .skip))))
     ((.reg [.o (.move 15 (sl 5)),
       .o (.bin 16 .add (sl 15) (ci 1)),
       .o (.move 5 (sl 16))])))))))))
  ((.seq (.reg [.o (.move 4 (cb true))])
  (.ret))))))))
theorem fun_laws_likeInts {rin : List T} {args : List A} {Q : List T → T → Prop} (ha : args.length ≤ 26) (h : cW Try.prog 26 c_laws_likeInts (retP Try.prog [.tmp 4] rin.length Q) (St.of (enum 0 args) (enum 1000000000 rin))) :
    Fun Try.prog 81 rin args Q :=
  Fun.of Try.func81 rfl rfl rfl (by kernel_rfl) ha (by decide) h

def c_spec_l19Result : CC :=
  (.seq (.reg [.o (.box 3 (sl 1)),
     .o (.alloc 4 [.v (.int .i64 0), .v (.int .i64 0)]),
     .o (.move 5 (ci 0))])
  ((.seq (.seq (.reg [.o (.move 6 (sl 0)),
      .o (.nilc 7 (sl 6)),
      .o (.fld 8 0 (sl 7)),
      .o (.load1 9 (sl 8)),
      .o (.bin 10 .neq (sl 9) (ci 0))])
   ((.cond (sl 10) (.seq (.draw [(.r, .o (.build 11 [.v (.int .i64 0), .v (.int .i64 0)] [(0, 1), (1, 1)] [])),
       (.e, .o (.move 12 (sl 0))),
       (.e, .o (.nilc 13 (sl 12))),
       (.e, .o (.fld 14 0 (sl 13))),
       (.e, .o (.load1 15 (sl 14))),
       (.h, .o (.store 2 (sl 4) (sl 11))),
       (.r, .o (.move 5 (sl 15)))])
    (.ret))
    .skip)))
  ((.seq (.reg [.o (.loadN 16 2 (sl 3)),
     .o (.store 2 (sl 4) (sl 16)),
     .o (.move 5 (ci 0))])
  (.ret))))))
theorem fun_spec_l19Result {rin : List T} {args : List A} {Q : List T → T → Prop} (ha : args.length ≤ 17) (h : cW Try.prog 17 c_spec_l19Result (retP Try.prog [.cell 4 52, .tmp 5] rin.length Q) (St.of (enum 0 args) (enum 1000000000 rin))) :
    Fun Try.prog 82 rin args Q :=
  Fun.of Try.func82 rfl rfl rfl (by kernel_rfl) ha (by decide) h

def c_spec_l26Value : CC :=
  (.seq (.reg [.o (.alloc 8 [.v (.int .i64 0), .v (.int .i64 0)])])
  ((.seq (.reg [.o (.move 12 (sl 0)),
     .o (.move 13 (sl 1)),
     .o (.move 14 (sl 3)),
     .o (.call (some 15) (cf 87) [(sl 12), (sl 13), (sl 14)]),
     .o (.move 9 (sl 15))])
  ((.seq (.reg [.o (.call (some 16) (cf 65) [(ci 0)]),
     .o (.alloc 10 [.v (.int .i64 0), .v (.int .i64 0)]),
     .o (.store 2 (sl 10) (sl 16))])
  ((.seq (.seq (.reg [.o (.move 11 (ci 0))])
   ((.block 0 (.loop (.seq (.seq (.reg [.o (.move 17 (sl 11)),
         .o (.move 18 (sl 9)),
         .o (.lenS 19 (sl 18)),
         .o (.bin 20 .lss (sl 17) (sl 19))])
      ((.cond (sl 20) .skip
       (.exit 0))))
     ((.seq (.block 1 (.draw [(.r, .o (.move 23 (sl 0))),
         (.r, .o (.loadN 24 2 (sl 10))),
         (.r, .o (.move 25 (sl 0))),
         (.r, .o (.move 26 (sl 2))),
         (.r, .o (.move 27 (sl 11))),
         (.r, .o (.idx 28 2 (sl 26) (sl 27))),
         (.r, .o (.loadN 29 2 (sl 28))),
         (.r, .o (.move 30 (sl 9))),
         (.r, .o (.move 31 (sl 11))),
         (.r, .o (.idx 32 2 (sl 30) (sl 31))),
         (.r, .o (.loadN 33 2 (sl 32))),
         (.r, .o (.call (some 34) (cf 105) [(sl 25), (sl 29), (sl 33)])),
         (.r, .o (.call (some 35) (cf 67) [(sl 23), (sl 24), (sl 34)])),
         (.h, .o (.store 2 (sl 10) (sl 35)))]))
     ((.reg [.o (.move 21 (sl 11)),
       .o (.bin 22 .add (sl 21) (ci 1)),
       .o (.move 11 (sl 22))])))))))))
  ((.seq (.reg [.o (.loadN 36 2 (sl 10)),
     .o (.store 2 (sl 8) (sl 36))])
  (.ret))))))))))
theorem fun_spec_l26Value {rin : List T} {args : List A} {Q : List T → T → Prop} (ha : args.length ≤ 37) (h : cW Try.prog 37 c_spec_l26Value (retP Try.prog [.cell 8 52] rin.length Q) (St.of (enum 0 args) (enum 1000000000 rin))) :
    Fun Try.prog 83 rin args Q :=
  Fun.of Try.func83 rfl rfl rfl (by kernel_rfl) ha (by decide) h

def c_impl_gainsOf : CC :=
  (.seq (.reg [.o (.move 4 (cv (.slice none 0 0))),
     .o (.move 5 (ci 0))])
  ((.seq (.reg [.o (.move 6 (cv (.slice none 0 0)))])
  ((.seq (.seq (.reg [.o (.move 14 (sl 0)),
      .o (.lenS 15 (sl 14)),
      .o (.move 16 (ci 0))])
   ((.block 0 (.loop (.seq (.reg [.o (.bin 17 .lss (sl 16) (sl 15))])
     ((.seq (.cond (sl 17) .skip
       (.exit 0))
     ((.seq (.block 1 (.seq (.reg [.o (.idx 18 1 (sl 14) (sl 16)),
          .o (.load1 19 (sl 18)),
          .o (.move 8 (sl 19))])
       ((.seq (.reg [.o (.move 20 (sl 8)),
          .o (.lenS 21 (sl 20)),
          .o (.make 22 [.v (.int .i64 0), .v (.int .i64 0)] 16 (sl 21) (sl 21)),
          .o (.move 9 (sl 22))])
       ((.seq (.seq (.reg [.o (.move 23 (sl 8)),
           .o (.lenS 24 (sl 23)),
           .o (.move 25 (ci 0))])
        ((.block 2 (.loop (.seq (.reg [.o (.bin 26 .lss (sl 25) (sl 24))])
          ((.seq (.cond (sl 26) .skip
            (.exit 2))
          ((.seq (.block 3 (.seq (.reg [.o (.move 27 (sl 25)),
               .o (.idx 28 1 (sl 23) (sl 25)),
               .o (.load1 29 (sl 28)),
               .o (.move 10 (sl 27)),
               .o (.move 11 (sl 29))])
            ((.reg [.o (.move 30 (sl 9)),
              .o (.move 31 (sl 10)),
              .o (.move 32 (sl 11)),
              .o (.build 33 [.v (.int .i64 0), .v (.int .i64 0)] [(0, 1), (1, 1)] [(0, (sl 32)), (1, (ci 1))]),
              .o (.idx 34 2 (sl 30) (sl 31)),
              .o (.store 2 (sl 34) (sl 33))]))))
          ((.reg [.o (.bin 35 .add (sl 25) (ci 1)),
            .o (.move 25 (sl 35))])))))))))))
       ((.seq (.reg [.o (.move 37 (sl 1)),
          .o (.move 38 (sl 9)),
          .o (.call (some 39) (cf 85) [(sl 37), (sl 38)]),
          .o (.move 36 (sl 39)),
          .o (.extract 40 (sl 36) 0),
          .o (.extract 41 (sl 36) 1),
          .o (.alloc 12 [.v (.int .i64 0), .v (.int .i64 0)]),
          .o (.store 2 (sl 12) (sl 40)),
          .o (.move 13 (sl 41))])
       ((.seq (.seq (.reg [.o (.move 42 (sl 13)),
           .o (.bin 43 .neq (sl 42) (ci 0))])
        ((.cond (sl 43) (.seq (.reg [.o (.move 44 (sl 13)),
            .o (.move 4 (cv (.slice none 0 0))),
            .o (.move 5 (sl 44))])
         (.ret))
         .skip)))
       ((.reg [.o (.move 45 (sl 6)),
         .o (.loadN 46 2 (sl 12)),
         .o (.bslice 47 2 1 [(0, (sl 46))]),
         .o (.app 48 2 16 (sl 45) (sl 47)),
         .o (.move 6 (sl 48))]))))))))))))
     ((.reg [.o (.bin 49 .add (sl 16) (ci 1)),
       .o (.move 16 (sl 49))])))))))))))
  ((.seq (.reg [.o (.move 50 (sl 6)),
     .o (.move 4 (sl 50)),
     .o (.move 5 (ci 0))])
  (.ret))))))))
theorem fun_impl_gainsOf {rin : List T} {args : List A} {Q : List T → T → Prop} (ha : args.length ≤ 51) (h : cW Try.prog 51 c_impl_gainsOf (retP Try.prog [.tmp 4, .tmp 5] rin.length Q) (St.of (enum 0 args) (enum 1000000000 rin))) :
    Fun Try.prog 84 rin args Q :=
  Fun.of Try.func84 rfl rfl rfl (by kernel_rfl) ha (by decide) h

def c_spec_l26List : CC :=
  (.seq (.reg [.o (.move 4 (cv (.slice none 0 0))),
     .o (.move 5 (ci 0))])
  ((.seq (.seq (.reg [.o (.move 6 (sl 0)),
      .o (.nilc 7 (sl 6)),
      .o (.fld 8 0 (sl 7)),
      .o (.load1 9 (sl 8)),
      .o (.bin 10 .neq (sl 9) (ci 0))])
   ((.cond (sl 10) (.seq (.draw [(.r, .o (.move 11 (sl 0))),
       (.r, .o (.nilc 12 (sl 11))),
       (.r, .o (.fld 13 0 (sl 12))),
       (.r, .o (.load1 14 (sl 13))),
       (.r, .o (.move 4 (cv (.slice none 0 0)))),
       (.r, .o (.move 5 (sl 14)))])
    (.ret))
    .skip)))
  ((.seq (.reg [.o (.move 15 (sl 1)),
     .o (.move 4 (sl 15)),
     .o (.move 5 (ci 0))])
  (.ret))))))
theorem fun_spec_l26List {rin : List T} {args : List A} {Q : List T → T → Prop} (ha : args.length ≤ 16) (h : cW Try.prog 16 c_spec_l26List (retP Try.prog [.tmp 4, .tmp 5] rin.length Q) (St.of (enum 0 args) (enum 1000000000 rin))) :
    Fun Try.prog 86 rin args Q :=
  Fun.of Try.func86 rfl rfl rfl (by kernel_rfl) ha (by decide) h

def c_spec_l26Rows : CC :=
  (.seq (.reg [.o (.move 6 (cv (.slice none 0 0)))])
  ((.seq (.reg [.o (.bslice 9 2 0 []),
     .o (.move 7 (sl 9))])
  ((.seq (.seq (.reg [.o (.move 8 (ci 0))])
   ((.block 0 (.loop (.seq (.seq (.reg [.o (.move 10 (sl 8)),
         .o (.move 11 (sl 1)),
         .o (.lenS 12 (sl 11)),
         .o (.bin 13 .lss (sl 10) (sl 12))])
      ((.cond (sl 13) .skip
       (.exit 0))))
     ((.seq (.block 1 (.reg [.o (.move 16 (sl 7)),
         .o (.move 17 (sl 0)),
         .o (.move 18 (sl 2)),
         .o (.move 19 (sl 1)),
         .o (.move 20 (sl 8)),
         .o (.idx 21 1 (sl 19) (sl 20)),
         .o (.load1 22 (sl 21)),
         .o (.call (some 23) (cf 107) [(sl 17), (sl 18), (sl 22)]),
         .o (.bslice 24 2 1 [(0, (sl 23))]),
         .o (.app 25 2 16 (sl 16) (sl 24)),
         .o (.move 7 (sl 25))]))
     ((.reg [.o (.move 14 (sl 8)),
       .o (.bin 15 .add (sl 14) (ci 1)),
       .o (.move 8 (sl 15))])))))))))
  ((.seq (.reg [.o (.move 26 (sl 7)),
     .o (.move 6 (sl 26))])
  (.ret))))))))
theorem fun_spec_l26Rows {rin : List T} {args : List A} {Q : List T → T → Prop} (ha : args.length ≤ 27) (h : cW Try.prog 27 c_spec_l26Rows (retP Try.prog [.tmp 6] rin.length Q) (St.of (enum 0 args) (enum 1000000000 rin))) :
    Fun Try.prog 87 rin args Q :=
  Fun.of Try.func87 rfl rfl rfl (by kernel_rfl) ha (by decide) h

def c_spec_l26Columns : CC :=
  (.seq (.reg [.o (.move 6 (cv (.slice none 0 0)))])
  ((.seq (.reg [.o (.bslice 9 2 0 []),
     .o (.move 7 (sl 9))])
  ((.seq (.seq (.reg [.o (.move 8 (ci 0))])
   ((.block 0 (.loop (.seq (.seq (.reg [.o (.move 10 (sl 8)),
         .o (.move 11 (sl 1)),
         .o (.idx 12 1 (sl 11) (ci 0)),
         .o (.load1 13 (sl 12)),
         .o (.lenS 14 (sl 13)),
         .o (.bin 15 .lss (sl 10) (sl 14))])
      ((.cond (sl 15) .skip
       (.exit 0))))
     ((.seq (.block 1 (.reg [.o (.move 18 (sl 7)),
         .o (.move 19 (sl 0)),
         .o (.move 20 (sl 2)),
         .o (.move 21 (sl 1)),
         .o (.move 22 (sl 8)),
         .o (.call (some 23) (cf 108) [(sl 21), (sl 22)]),
         .o (.call (some 24) (cf 107) [(sl 19), (sl 20), (sl 23)]),
         .o (.bslice 25 2 1 [(0, (sl 24))]),
         .o (.app 26 2 16 (sl 18) (sl 25)),
         .o (.move 7 (sl 26))]))
     ((.reg [.o (.move 16 (sl 8)),
       .o (.bin 17 .add (sl 16) (ci 1)),
       .o (.move 8 (sl 17))])))))))))
  ((.seq (.reg [.o (.move 27 (sl 7)),
     .o (.move 6 (sl 27))])
  (.ret))))))))
theorem fun_spec_l26Columns {rin : List T} {args : List A} {Q : List T → T → Prop} (ha : args.length ≤ 28) (h : cW Try.prog 28 c_spec_l26Columns (retP Try.prog [.tmp 6] rin.length Q) (St.of (enum 0 args) (enum 1000000000 rin))) :
    Fun Try.prog 88 rin args Q :=
  Fun.of Try.func88 rfl rfl rfl (by kernel_rfl) ha (by decide) h

def c_slices_IndexFunc_____int64___int64_ : CC :=
  (.seq (.reg [.o (.move 4 (ci 0))])
  ((.seq (.seq (.reg [.o (.move 6 (sl 0)),
      .o (.lenS 7 (sl 6)),
      .o (.move 8 (ci 0))])
   ((.block 0 (.loop (.seq (.reg [.o (.bin 9 .lss (sl 8) (sl 7))])
     ((.seq (.cond (sl 9) .skip
       (.exit 0))
     ((.seq (.block 1 (.seq (.reg [.o (.move 10 (sl 8)),
          .o (.move 5 (sl 10))])
       ((.seq (.reg [.o (.move 11 (sl 1)),
          .o (.move 12 (sl 0)),
          .o (.move 13 (sl 5)),
          .o (.idx 14 1 (sl 12) (sl 13)),
          .o (.load1 15 (sl 14)),
          .o (.call (some 16) (sl 11) [(sl 15)])])
       ((.cond (sl 16) (.seq (.reg [.o (.move 17 (sl 5)),
           .o (.move 4 (sl 17))])
        (.ret))
        .skip))))))
     ((.reg [.o (.bin 18 .add (sl 8) (ci 1)),
       .o (.move 8 (sl 18))])))))))))))
  ((.seq (.reg [.o (.move 4 (ci (-1)))])
  (.ret))))))
theorem fun_slices_IndexFunc_____int64___int64_ {rin : List T} {args : List A} {Q : List T → T → Prop} (ha : args.length ≤ 19) (h : cW Try.prog 19 c_slices_IndexFunc_____int64___int64_ (retP Try.prog [.tmp 4] rin.length Q) (St.of (enum 0 args) (enum 1000000000 rin))) :
    Fun Try.prog 89 rin args Q :=
  Fun.of Try.func89 rfl rfl rfl (by kernel_rfl) ha (by decide) h

def c_spec_l01Own : CC :=
  (.seq (.reg [.o (.move 2 (cv (.slice none 0 0)))])
  ((.seq (.reg [.o (.bslice 3 1 0 []),
     .o (.move 4 (sl 0)),
     .o (.app 5 1 8 (sl 3) (sl 4)),
     .o (.move 2 (sl 5))])
  (.ret))))
theorem fun_spec_l01Own {rin : List T} {args : List A} {Q : List T → T → Prop} (ha : args.length ≤ 6) (h : cW Try.prog 6 c_spec_l01Own (retP Try.prog [.tmp 2] rin.length Q) (St.of (enum 0 args) (enum 1000000000 rin))) :
    Fun Try.prog 90 rin args Q :=
  Fun.of Try.func90 rfl rfl rfl (by kernel_rfl) ha (by decide) h

def c_spec_l01Gcd : CC :=
  (.seq (.reg [.o (.move 4 (ci 0))])
  ((.seq (.seq (.reg [.o (.move 5 (sl 1)),
      .o (.bin 6 .eql (sl 5) (ci 0))])
   ((.cond (sl 6) (.seq (.reg [.o (.move 7 (sl 0)),
       .o (.move 4 (sl 7))])
    (.ret))
    .skip)))
  ((.seq (.reg [.o (.move 8 (sl 1)),
     .o (.move 9 (sl 0)),
     .o (.move 10 (sl 1)),
     .o (.bin 11 .rem (sl 9) (sl 10)),
     .o (.call (some 12) (cf 92) [(sl 8), (sl 11)]),
     .o (.move 4 (sl 12))])
  (.ret))))))
theorem fun_spec_l01Gcd {rin : List T} {args : List A} {Q : List T → T → Prop} (ha : args.length ≤ 13) (h : cW Try.prog 13 c_spec_l01Gcd (retP Try.prog [.tmp 4] rin.length Q) (St.of (enum 0 args) (enum 1000000000 rin))) :
    Fun Try.prog 92 rin args Q :=
  Fun.of Try.func92 rfl rfl rfl (by kernel_rfl) ha (by decide) h

def c_spec_l01Abs : CC :=
  (.seq (.reg [.o (.move 2 (ci 0))])
  ((.seq (.reg [.o (.move 3 (sl 0)),
     .o (.move 4 (sl 0)),
     .o (.un 5 .neg (sl 4)),
     .o (.mm 6 true (sl 3) (sl 5)),
     .o (.move 2 (sl 6))])
  (.ret))))
theorem fun_spec_l01Abs {rin : List T} {args : List A} {Q : List T → T → Prop} (ha : args.length ≤ 7) (h : cW Try.prog 7 c_spec_l01Abs (retP Try.prog [.tmp 2] rin.length Q) (St.of (enum 0 args) (enum 1000000000 rin))) :
    Fun Try.prog 93 rin args Q :=
  Fun.of Try.func93 rfl rfl rfl (by kernel_rfl) ha (by decide) h

def c_spec_AddRatios : CC :=
  (.seq (.reg [.o (.box 2 (sl 0)),
     .o (.box 3 (sl 1)),
     .o (.alloc 4 [.v (.int .i64 0), .v (.int .i64 0)]),
     .o (.move 5 (ci 0))])
  ((.seq (.seq (.reg [.o (.loadN 6 2 (sl 2)),
      .o (.call (some 7) (cf 66) [(sl 6)]),
      .o (.un 8 .not (sl 7)),
      .o (.move 9 (sl 8)),
      .g 9 false (some 10) (.loadN 10 2 (sl 3)),
      .g 9 false (some 11) (.call (some 11) (cf 66) [(sl 10)]),
      .g 9 false (some 12) (.un 12 .not (sl 11)),
      .o (.pick 13 (sl 9) (cb true) (sl 12))])
   ((.cond (sl 13) (.seq (.reg [.o (.build 14 [.v (.int .i64 0), .v (.int .i64 0)] [(0, 1), (1, 1)] []),
       .o (.store 2 (sl 4) (sl 14)),
       .o (.move 5 (ci 1))])
    (.ret))
    .skip)))
  ((.seq (.reg [.o (.fld 15 0 (sl 2)),
     .o (.load1 16 (sl 15)),
     .o (.fld 17 1 (sl 3)),
     .o (.load1 18 (sl 17)),
     .o (.bin 19 .mul (sl 16) (sl 18)),
     .o (.fld 20 0 (sl 3)),
     .o (.load1 21 (sl 20)),
     .o (.fld 22 1 (sl 2)),
     .o (.load1 23 (sl 22)),
     .o (.bin 24 .mul (sl 21) (sl 23)),
     .o (.bin 25 .add (sl 19) (sl 24)),
     .o (.fld 26 1 (sl 2)),
     .o (.load1 27 (sl 26)),
     .o (.fld 28 1 (sl 3)),
     .o (.load1 29 (sl 28)),
     .o (.bin 30 .mul (sl 27) (sl 29)),
     .o (.call (some 31) (cf 109) [(sl 25), (sl 30)]),
     .o (.extract 32 (sl 31) 0),
     .o (.extract 33 (sl 31) 1),
     .o (.store 2 (sl 4) (sl 32)),
     .o (.move 5 (sl 33))])
  (.ret))))))
theorem fun_spec_AddRatios {rin : List T} {args : List A} {Q : List T → T → Prop} (ha : args.length ≤ 34) (h : cW Try.prog 34 c_spec_AddRatios (retP Try.prog [.cell 4 52, .tmp 5] rin.length Q) (St.of (enum 0 args) (enum 1000000000 rin))) :
    Fun Try.prog 94 rin args Q :=
  Fun.of Try.func94 rfl rfl rfl (by kernel_rfl) ha (by decide) h

def c_impl_divisorOf : CC :=
  (.seq (.reg [.o (.move 4 (ci 0))])
  ((.seq (.block 0 (.loop (.seq (.seq (.reg [.o (.move 5 (sl 1)),
         .o (.bin 6 .gtr (sl 5) (ci 0))])
      ((.cond (sl 6) .skip
       (.exit 0))))
     ((.block 1 (.draw [(.r, .o (.move 7 (sl 1))),
        (.r, .o (.move 8 (sl 0))),
        (.r, .o (.move 9 (sl 1))),
        (.r, .o (.bin 10 .rem (sl 8) (sl 9))),
        (.r, .o (.move 0 (sl 7))),
        (.r, .o (.move 1 (sl 10)))]))))))
  ((.seq (.reg [.o (.move 11 (sl 0)),
     .o (.move 4 (sl 11))])
  (.ret))))))
theorem fun_impl_divisorOf {rin : List T} {args : List A} {Q : List T → T → Prop} (ha : args.length ≤ 12) (h : cW Try.prog 12 c_impl_divisorOf (retP Try.prog [.tmp 4] rin.length Q) (St.of (enum 0 args) (enum 1000000000 rin))) :
    Fun Try.prog 95 rin args Q :=
  Fun.of Try.func95 rfl rfl rfl (by kernel_rfl) ha (by decide) h

def c_impl_absOf : CC :=
  (.seq (.reg [.o (.move 2 (ci 0))])
  ((.seq (.seq (.reg [.o (.move 3 (sl 0)),
      .o (.bin 4 .lss (sl 3) (ci 0))])
   ((.cond (sl 4) (.seq (.reg [.o (.move 5 (sl 0)),
       .o (.un 6 .neg (sl 5)),
       .o (.move 2 (sl 6))])
    (.ret))
    .skip)))
  ((.seq (.reg [.o (.move 7 (sl 0)),
     .o (.move 2 (sl 7))])
  (.ret))))))
theorem fun_impl_absOf {rin : List T} {args : List A} {Q : List T → T → Prop} (ha : args.length ≤ 8) (h : cW Try.prog 8 c_impl_absOf (retP Try.prog [.tmp 2] rin.length Q) (St.of (enum 0 args) (enum 1000000000 rin))) :
    Fun Try.prog 96 rin args Q :=
  Fun.of Try.func96 rfl rfl rfl (by kernel_rfl) ha (by decide) h

def c_impl_reduced : CC :=
  (.seq (.reg [.o (.alloc 4 [.v (.int .i64 0), .v (.int .i64 0)]),
     .o (.move 5 (ci 0))])
  ((.seq (.reg [.o (.move 8 (sl 0)),
     .o (.call (some 9) (cf 96) [(sl 8)]),
     .o (.move 10 (sl 1)),
     .o (.call (some 11) (cf 95) [(sl 9), (sl 10)]),
     .o (.move 6 (sl 11))])
  ((.seq (.draw [(.e, .o (.move 12 (sl 0))),
     (.e, .o (.move 13 (sl 6))),
     (.e, .o (.bin 14 .quo (sl 12) (sl 13))),
     (.e, .o (.move 15 (sl 1))),
     (.e, .o (.move 16 (sl 6))),
     (.e, .o (.bin 17 .quo (sl 15) (sl 16))),
     (.e, .o (.build 18 [.v (.int .i64 0), .v (.int .i64 0)] [(0, 1), (1, 1)] [(0, (sl 14)), (1, (sl 17))])),
     (.h, .o (.alloc 7 [.v (.int .i64 0), .v (.int .i64 0)])),
     (.h, .o (.store 2 (sl 7) (sl 18)))])
  ((.seq (.seq (.reg [.o (.loadN 19 2 (sl 7)),
      .o (.call (some 20) (cf 69) [(sl 19)]),
      .o (.un 21 .not (sl 20))])
   ((.cond (sl 21) (.seq (.reg [.o (.build 22 [.v (.int .i64 0), .v (.int .i64 0)] [(0, 1), (1, 1)] []),
       .o (.store 2 (sl 4) (sl 22)),
       .o (.move 5 (ci 3))])
    (.ret))
    .skip)))
  ((.seq (.reg [.o (.loadN 23 2 (sl 7)),
     .o (.store 2 (sl 4) (sl 23)),
     .o (.move 5 (ci 0))])
  (.ret))))))))))
theorem fun_impl_reduced {rin : List T} {args : List A} {Q : List T → T → Prop} (ha : args.length ≤ 24) (h : cW Try.prog 24 c_impl_reduced (retP Try.prog [.cell 4 52, .tmp 5] rin.length Q) (St.of (enum 0 args) (enum 1000000000 rin))) :
    Fun Try.prog 97 rin args Q :=
  Fun.of Try.func97 rfl rfl rfl (by kernel_rfl) ha (by decide) h

def c_spec_l27Sign : CC :=
  (.seq (.reg [.o (.move 2 (ci 0))])
  ((.seq (.reg [.o (.move 3 (sl 0)),
     .o (.bin 4 .rem (sl 3) (ci 2)),
     .o (.bin 5 .mul (ci 2) (sl 4)),
     .o (.bin 6 .sub (ci 1) (sl 5)),
     .o (.move 2 (sl 6))])
  (.ret))))
theorem fun_spec_l27Sign {rin : List T} {args : List A} {Q : List T → T → Prop} (ha : args.length ≤ 7) (h : cW Try.prog 7 c_spec_l27Sign (retP Try.prog [.tmp 2] rin.length Q) (St.of (enum 0 args) (enum 1000000000 rin))) :
    Fun Try.prog 98 rin args Q :=
  Fun.of Try.func98 rfl rfl rfl (by kernel_rfl) ha (by decide) h

def c_impl_without : CC :=
  (.seq (.reg [.o (.move 6 (cv (.slice none 0 0)))])
  ((.seq (.reg [.o (.move 7 (cv (.slice none 0 0)))])
  ((.seq (.seq (.reg [.o (.move 10 (sl 0)),
      .o (.lenS 11 (sl 10)),
      .o (.move 12 (ci 0))])
   ((.block 0 (.loop (.seq (.reg [.o (.bin 13 .lss (sl 12) (sl 11))])
     ((.seq (.cond (sl 13) .skip
       (.exit 0))
     ((.seq (.block 1 (.seq (.reg [.o (.move 14 (sl 12)),
          .o (.idx 15 1 (sl 10) (sl 12)),
          .o (.load1 16 (sl 15)),
          .o (.move 8 (sl 14)),
          .o (.move 9 (sl 16))])
       ((.seq (.reg [.o (.move 17 (sl 8)),
          .o (.move 18 (sl 1)),
          .o (.bin 19 .neq (sl 17) (sl 18))])
       ((.cond (sl 19) (.reg [.o (.move 20 (sl 7)),
          .o (.move 21 (sl 9)),
          .o (.call (some 22) (cf 91) [(sl 21)]),
          .o (.move 23 (sl 2)),
          .o (.move 24 (sl 2)),
          .o (.bin 25 .add (sl 24) (ci 1)),
          .o (.call (some 26) (cf 110) [(sl 22), (sl 23), (sl 25)]),
          .o (.bslice 27 1 1 [(0, (sl 26))]),
          .o (.app 28 1 24 (sl 20) (sl 27)),
          .o (.move 7 (sl 28))])
        .skip))))))
     ((.reg [.o (.bin 29 .add (sl 12) (ci 1)),
       .o (.move 12 (sl 29))])))))))))))
  ((.seq (.reg [.o (.move 30 (sl 7)),
     .o (.move 6 (sl 30))])
  (.ret))))))))
theorem fun_impl_without {rin : List T} {args : List A} {Q : List T → T → Prop} (ha : args.length ≤ 31) (h : cW Try.prog 31 c_impl_without (retP Try.prog [.tmp 6] rin.length Q) (St.of (enum 0 args) (enum 1000000000 rin))) :
    Fun Try.prog 100 rin args Q :=
  Fun.of Try.func100 rfl rfl rfl (by kernel_rfl) ha (by decide) h

def c_spec_l26Draw : CC :=
  (.seq (.reg [.o (.move 2 (cv (.slice none 0 0)))])
  ((.seq (.reg [.o (.move 10 (sl 0)),
     .o (.call (some 11) (cf 102) [(sl 10), (ci 4)]),
     .o (.bin 12 .add (ci 1) (sl 11)),
     .o (.move 13 (sl 0)),
     .o (.call (some 14) (cf 102) [(sl 13), (ci 4)]),
     .o (.bin 15 .add (ci 1) (sl 14)),
     .o (.move 3 (sl 12)),
     .o (.move 4 (sl 15))])
  ((.seq (.reg [.o (.move 16 (sl 0)),
     .o (.bslice 17 1 3 [(0, (ci 2)), (1, (ci 5)), (2, (ci 20))]),
     .o (.call (some 18) (cf 111) [(sl 16), (sl 17)]),
     .o (.move 5 (sl 18))])
  ((.seq (.reg [.o (.bslice 19 1 0 []),
     .o (.move 6 (sl 19))])
  ((.seq (.seq (.reg [.o (.move 7 (ci 0))])
   ((.block 0 (.loop (.seq (.seq (.reg [.o (.move 20 (sl 7)),
         .o (.move 21 (sl 3)),
         .o (.bin 22 .lss (sl 20) (sl 21))])
      ((.cond (sl 22) .skip
       (.exit 0))))
     ((.seq (.block 1 (.seq (.reg [.o (.bslice 25 1 0 []),
          .o (.move 8 (sl 25))])
       ((.seq (.seq (.reg [.o (.move 9 (ci 0))])
        ((.block 2 (.loop (.seq (.seq (.reg [.o (.move 26 (sl 9)),
              .o (.move 27 (sl 4)),
              .o (.bin 28 .lss (sl 26) (sl 27))])
           ((.cond (sl 28) .skip
            (.exit 2))))
          ((.seq (.block 3 (.reg [.o (.move 31 (sl 8)),
              .o (.move 32 (sl 0)),
              .o (.move 33 (sl 5)),
              .o (.bin 34 .mul (ci 2) (sl 33)),
              .o (.bin 35 .add (sl 34) (ci 1)),
              .o (.call (some 36) (cf 102) [(sl 32), (sl 35)]),
              .o (.move 37 (sl 5)),
              .o (.bin 38 .sub (sl 36) (sl 37)),
              .o (.bslice 39 1 1 [(0, (sl 38))]),
              .o (.app 40 1 8 (sl 31) (sl 39)),
              .o (.move 8 (sl 40))]))
          ((.reg [.o (.move 29 (sl 9)),
            .o (.bin 30 .add (sl 29) (ci 1)),
            .o (.move 9 (sl 30))])))))))))
       ((.reg [.o (.move 41 (sl 6)),
         .o (.move 42 (sl 8)),
         .o (.bslice 43 1 1 [(0, (sl 42))]),
         .o (.app 44 1 24 (sl 41) (sl 43)),
         .o (.move 6 (sl 44))]))))))
     ((.reg [.o (.move 23 (sl 7)),
       .o (.bin 24 .add (sl 23) (ci 1)),
       .o (.move 7 (sl 24))])))))))))
  ((.seq (.seq (.reg [.o (.move 45 (sl 0)),
      .o (.call (some 46) (cf 102) [(sl 45), (ci 24)])])
   ((.block 4 (.seq (.reg [.o (.bin 48 .eql (sl 46) (ci 0)),
       .o (.move 47 (sl 48))])
    ((.cond (sl 47) (.draw [(.e, .o (.move 49 (sl 6))),
       (.e, .o (.idx 50 1 (sl 49) (ci 0))),
       (.e, .o (.load1 51 (sl 50))),
       (.e, .o (.move 52 (sl 0))),
       (.h, .o (.bslice 53 1 3 [(0, (ci 20)), (1, (ci 21)), (2, (ci (-21)))])),
       (.r, .o (.call (some 54) (cf 111) [(sl 52), (sl 53)])),
       (.r, .o (.idx 55 1 (sl 51) (ci 0))),
       (.h, .o (.store 1 (sl 55) (sl 54)))])
     (.seq (.reg [.o (.bin 57 .eql (sl 46) (ci 1)),
        .o (.move 56 (sl 57))])
     ((.cond (sl 56) (.reg [.o (.move 58 (sl 6)),
        .o (.bslice 59 1 5 [(0, (ci 1)), (1, (ci 2)), (2, (ci 3)), (3, (ci 4)), (4, (ci 5))]),
        .o (.bslice 60 1 1 [(0, (sl 59))]),
        .o (.app 61 1 24 (sl 58) (sl 60)),
        .o (.move 6 (sl 61))])
      (.seq (.reg [.o (.bin 63 .eql (sl 46) (ci 2)),
         .o (.move 62 (sl 63))])
      ((.cond (sl 62) (.seq (.reg [.o (.move 2 (cv (.slice none 0 0)))])
       (.ret))
       .skip))))))))))))
  ((.seq (.reg [.o (.move 64 (sl 6)),
     .o (.move 2 (sl 64))])
  (.ret))))))))))))))
theorem fun_spec_l26Draw {rin : List T} {args : List A} {Q : List T → T → Prop} (ha : args.length ≤ 65) (h : cW Try.prog 65 c_spec_l26Draw (retP Try.prog [.tmp 2] rin.length Q) (St.of (enum 0 args) (enum 1000000000 rin))) :
    Fun Try.prog 101 rin args Q :=
  Fun.of Try.func101 rfl rfl rfl (by kernel_rfl) ha (by decide) h

def c_spec_l01Next : CC :=
  (.seq (.reg [.o (.move 4 (ci 0))])
  ((.seq (.seq (.reg [.o (.move 6 (sl 1)),
      .o (.bin 7 .leq (sl 6) (ci 1))])
   ((.cond (sl 7) (.seq (.reg [.o (.move 4 (ci 0))])
    (.ret))
    .skip)))
  ((.seq (.reg [.o (.move 8 (sl 0)),
     .o (.move 9 (sl 0)),
     .o (.nilc 10 (sl 9)),
     .o (.fld 11 2 (sl 10)),
     .o (.load1 12 (sl 11)),
     .o (.bin 13 .mul (sl 12) (ci 48271)),
     .o (.bin 14 .add (sl 13) (ci 29)),
     .o (.bin 15 .rem (sl 14) (ci 2147483647)),
     .o (.nilc 16 (sl 8)),
     .o (.fld 17 2 (sl 16)),
     .o (.store 1 (sl 17) (sl 15))])
  ((.seq (.reg [.o (.move 18 (sl 0)),
     .o (.nilc 19 (sl 18)),
     .o (.fld 20 2 (sl 19)),
     .o (.load1 21 (sl 20)),
     .o (.bin 22 .quo (sl 21) (ci 31)),
     .o (.move 5 (sl 22))])
  ((.seq (.seq (.draw [(.r, .o (.move 23 (sl 0))),
      (.r, .o (.nilc 24 (sl 23))),
      (.r, .o (.fld 25 1 (sl 24))),
      (.r, .o (.load1 26 (sl 25))),
      (.r, .o (.move 27 (sl 0))),
      (.r, .o (.nilc 28 (sl 27))),
      (.r, .o (.fld 29 0 (sl 28))),
      (.r, .o (.load1 30 (sl 29))),
      (.r, .o (.lenS 31 (sl 30))),
      (.r, .o (.bin 32 .lss (sl 26) (sl 31)))])
   ((.cond (sl 32) (.seq (.draw [(.r, .o (.move 33 (sl 5))),
       (.r, .o (.move 34 (sl 0))),
       (.r, .o (.nilc 35 (sl 34))),
       (.r, .o (.fld 36 0 (sl 35))),
       (.r, .o (.load1 37 (sl 36))),
       (.r, .o (.move 38 (sl 0))),
       (.r, .o (.nilc 39 (sl 38))),
       (.r, .o (.fld 40 1 (sl 39))),
       (.r, .o (.load1 41 (sl 40))),
       (.r, .o (.idx 42 1 (sl 37) (sl 41))),
       (.r, .o (.load1 43 (sl 42))),
       (.r, .o (.conv 44 .i64 (sl 43))),
       (.r, .o (.bin 45 .add (sl 33) (sl 44))),
       (.r, .o (.move 5 (sl 45)))])
    ((.seq (.reg [.o (.move 46 (sl 0)),
       .o (.nilc 47 (sl 46)),
       .o (.fld 48 1 (sl 47)),
       .o (.load1 49 (sl 48)),
       .o (.bin 50 .add (sl 49) (ci 1)),
       .o (.nilc 51 (sl 46)),
       .o (.fld 52 1 (sl 51)),
       .o (.store 1 (sl 52) (sl 50))])
    ((.seq (.reg [.o (.move 53 (sl 1)),
       .o (.bin 54 .leq (sl 53) (ci 256)),
       .o (.move 55 (sl 54)),
       .g 55 true (some 56) (.move 56 (sl 0)),
       .g 55 true (some 57) (.nilc 57 (sl 56)),
       .g 55 true (some 58) (.fld 58 1 (sl 57)),
       .g 55 true (some 59) (.load1 59 (sl 58)),
       .g 55 true (some 60) (.bin 60 .rem (sl 59) (ci 2)),
       .g 55 true (some 61) (.bin 61 .eql (sl 60) (ci 0)),
       .o (.pick 62 (sl 55) (sl 61) (cb false))])
    ((.cond (sl 62) (.draw [(.r, .o (.move 63 (sl 0))),
       (.r, .o (.nilc 64 (sl 63))),
       (.r, .o (.fld 65 0 (sl 64))),
       (.r, .o (.load1 66 (sl 65))),
       (.r, .o (.move 67 (sl 0))),
       (.r, .o (.nilc 68 (sl 67))),
       (.r, .o (.fld 69 1 (sl 68))),
       (.r, .o (.load1 70 (sl 69))),
       (.r, .o (.bin 71 .sub (sl 70) (ci 1))),
       (.r, .o (.idx 72 1 (sl 66) (sl 71))),
       (.r, .o (.load1 73 (sl 72))),
       (.r, .o (.conv 74 .i64 (sl 73))),
       (.r, .o (.move 5 (sl 74)))])
     .skip)))))))
    .skip)))
  ((.seq (.reg [.o (.move 75 (sl 5)),
     .o (.move 76 (sl 1)),
     .o (.bin 77 .rem (sl 75) (sl 76)),
     .o (.move 4 (sl 77))])
  (.ret))))))))))))
theorem fun_spec_l01Next {rin : List T} {args : List A} {Q : List T → T → Prop} (ha : args.length ≤ 78) (h : cW Try.prog 78 c_spec_l01Next (retP Try.prog [.tmp 4] rin.length Q) (St.of (enum 0 args) (enum 1000000000 rin))) :
    Fun Try.prog 102 rin args Q :=
  Fun.of Try.func102 rfl rfl rfl (by kernel_rfl) ha (by decide) h

def c_spec_l27Part : CC :=
  (.seq (.reg [.o (.move 6 (cv (.slice none 0 0)))])
  ((.seq (.reg [.o (.bslice 11 1 0 []),
     .o (.move 7 (sl 11))])
  ((.seq (.seq (.reg [.o (.move 8 (ci 0))])
   ((.block 0 (.loop (.seq (.seq (.reg [.o (.move 12 (sl 8)),
         .o (.move 13 (sl 1)),
         .o (.lenS 14 (sl 13)),
         .o (.bin 15 .lss (sl 12) (sl 14))])
      ((.cond (sl 15) .skip
       (.exit 0))))
     ((.seq (.block 1 (.seq (.reg [.o (.bslice 18 1 0 []),
          .o (.move 9 (sl 18))])
       ((.seq (.seq (.reg [.o (.move 10 (ci 0))])
        ((.block 2 (.loop (.seq (.seq (.reg [.o (.move 19 (sl 10)),
              .o (.move 20 (sl 2)),
              .o (.lenS 21 (sl 20)),
              .o (.bin 22 .lss (sl 19) (sl 21))])
           ((.cond (sl 22) .skip
            (.exit 2))))
          ((.seq (.block 3 (.draw [(.e, .o (.move 25 (sl 9))),
              (.r, .o (.move 26 (sl 0))),
              (.r, .o (.move 27 (sl 1))),
              (.r, .o (.move 28 (sl 8))),
              (.r, .o (.idx 29 1 (sl 27) (sl 28))),
              (.r, .o (.load1 30 (sl 29))),
              (.r, .o (.idx 31 1 (sl 26) (sl 30))),
              (.r, .o (.load1 32 (sl 31))),
              (.r, .o (.move 33 (sl 2))),
              (.r, .o (.move 34 (sl 10))),
              (.r, .o (.idx 35 1 (sl 33) (sl 34))),
              (.r, .o (.load1 36 (sl 35))),
              (.r, .o (.idx 37 1 (sl 32) (sl 36))),
              (.r, .o (.load1 38 (sl 37))),
              (.h, .o (.bslice 39 1 1 [(0, (sl 38))])),
              (.h, .o (.app 40 1 8 (sl 25) (sl 39))),
              (.r, .o (.move 9 (sl 40)))]))
          ((.reg [.o (.move 23 (sl 10)),
            .o (.bin 24 .add (sl 23) (ci 1)),
            .o (.move 10 (sl 24))])))))))))
       ((.reg [.o (.move 41 (sl 7)),
         .o (.move 42 (sl 9)),
         .o (.bslice 43 1 1 [(0, (sl 42))]),
         .o (.app 44 1 24 (sl 41) (sl 43)),
         .o (.move 7 (sl 44))]))))))
     ((.reg [.o (.move 16 (sl 8)),
       .o (.bin 17 .add (sl 16) (ci 1)),
       .o (.move 8 (sl 17))])))))))))
  ((.seq (.reg [.o (.move 45 (sl 7)),
     .o (.move 6 (sl 45))])
  (.ret))))))))
theorem fun_spec_l27Part {rin : List T} {args : List A} {Q : List T → T → Prop} (ha : args.length ≤ 46) (h : cW Try.prog 46 c_spec_l27Part (retP Try.prog [.tmp 6] rin.length Q) (St.of (enum 0 args) (enum 1000000000 rin))) :
    Fun Try.prog 103 rin args Q :=
  Fun.of Try.func103 rfl rfl rfl (by kernel_rfl) ha (by decide) h

def c_spec_l27Numbers : CC :=
  (.seq (.reg [.o (.move 2 (cv (.slice none 0 0)))])
  ((.seq (.reg [.o (.bslice 5 1 0 []),
     .o (.move 3 (sl 5))])
  ((.seq (.seq (.reg [.o (.move 4 (ci 0))])
   ((.block 0 (.loop (.seq (.seq (.reg [.o (.move 6 (sl 4)),
         .o (.move 7 (sl 0)),
         .o (.bin 8 .lss (sl 6) (sl 7))])
      ((.cond (sl 8) .skip
       (.exit 0))))
     ((.seq (.block 1 (.reg [.o (.move 11 (sl 3)),
         .o (.move 12 (sl 4)),
         .o (.bslice 13 1 1 [(0, (sl 12))]),
         .o (.app 14 1 8 (sl 11) (sl 13)),
         .o (.move 3 (sl 14))]))
     ((.reg [.o (.move 9 (sl 4)),
       .o (.bin 10 .add (sl 9) (ci 1)),
       .o (.move 4 (sl 10))])))))))))
  ((.seq (.reg [.o (.move 15 (sl 3)),
     .o (.move 2 (sl 15))])
  (.ret))))))))
theorem fun_spec_l27Numbers {rin : List T} {args : List A} {Q : List T → T → Prop} (ha : args.length ≤ 16) (h : cW Try.prog 16 c_spec_l27Numbers (retP Try.prog [.tmp 2] rin.length Q) (St.of (enum 0 args) (enum 1000000000 rin))) :
    Fun Try.prog 104 rin args Q :=
  Fun.of Try.func104 rfl rfl rfl (by kernel_rfl) ha (by decide) h

def c_spec_l19Times : CC :=
  (.seq (.reg [.o (.box 4 (sl 1)),
     .o (.box 5 (sl 2)),
     .o (.alloc 6 [.v (.int .i64 0), .v (.int .i64 0)])])
  ((.seq (.seq (.reg [.o (.move 9 (sl 0)),
      .o (.nilc 10 (sl 9)),
      .o (.fld 11 0 (sl 10)),
      .o (.load1 12 (sl 11)),
      .o (.bin 13 .neq (sl 12) (ci 0))])
   ((.cond (sl 13) (.seq (.reg [.o (.build 14 [.v (.int .i64 0), .v (.int .i64 0)] [(0, 1), (1, 1)] [(1, (ci 1))]),
       .o (.store 2 (sl 6) (sl 14))])
    (.ret))
    .skip)))
  ((.seq (.reg [.o (.loadN 16 2 (sl 4)),
     .o (.loadN 17 2 (sl 5)),
     .o (.call (some 18) (cf 112) [(sl 16), (sl 17)]),
     .o (.move 15 (sl 18)),
     .o (.extract 19 (sl 15) 0),
     .o (.extract 20 (sl 15) 1),
     .o (.alloc 7 [.v (.int .i64 0), .v (.int .i64 0)]),
     .o (.store 2 (sl 7) (sl 19)),
     .o (.move 8 (sl 20))])
  ((.seq (.reg [.o (.move 21 (sl 0)),
     .o (.move 22 (sl 8)),
     .o (.nilc 23 (sl 21)),
     .o (.fld 24 0 (sl 23)),
     .o (.store 1 (sl 24) (sl 22))])
  ((.seq (.reg [.o (.loadN 25 2 (sl 7)),
     .o (.store 2 (sl 6) (sl 25))])
  (.ret))))))))))
theorem fun_spec_l19Times {rin : List T} {args : List A} {Q : List T → T → Prop} (ha : args.length ≤ 26) (h : cW Try.prog 26 c_spec_l19Times (retP Try.prog [.cell 6 52] rin.length Q) (St.of (enum 0 args) (enum 1000000000 rin))) :
    Fun Try.prog 105 rin args Q :=
  Fun.of Try.func105 rfl rfl rfl (by kernel_rfl) ha (by decide) h

def c_impl_MultiplyRatios : CC :=
  (.seq (.reg [.o (.box 2 (sl 0)),
     .o (.box 3 (sl 1)),
     .o (.alloc 4 [.v (.int .i64 0), .v (.int .i64 0)]),
     .o (.move 5 (ci 0))])
  ((.seq (.seq (.reg [.o (.loadN 6 2 (sl 2)),
      .o (.call (some 7) (cf 69) [(sl 6)]),
      .o (.un 8 .not (sl 7)),
      .o (.move 9 (sl 8)),
      .g 9 false (some 10) (.loadN 10 2 (sl 3)),
      .g 9 false (some 11) (.call (some 11) (cf 69) [(sl 10)]),
      .g 9 false (some 12) (.un 12 .not (sl 11)),
      .o (.pick 13 (sl 9) (cb true) (sl 12))])
   ((.cond (sl 13) (.seq (.reg [.o (.build 14 [.v (.int .i64 0), .v (.int .i64 0)] [(0, 1), (1, 1)] []),
       .o (.store 2 (sl 4) (sl 14)),
       .o (.move 5 (ci 1))])
    (.ret))
    .skip)))
  ((.seq (.reg [.o (.fld 15 0 (sl 2)),
     .o (.load1 16 (sl 15)),
     .o (.fld 17 0 (sl 3)),
     .o (.load1 18 (sl 17)),
     .o (.bin 19 .mul (sl 16) (sl 18)),
     .o (.fld 20 1 (sl 2)),
     .o (.load1 21 (sl 20)),
     .o (.fld 22 1 (sl 3)),
     .o (.load1 23 (sl 22)),
     .o (.bin 24 .mul (sl 21) (sl 23)),
     .o (.call (some 25) (cf 97) [(sl 19), (sl 24)]),
     .o (.extract 26 (sl 25) 0),
     .o (.extract 27 (sl 25) 1),
     .o (.store 2 (sl 4) (sl 26)),
     .o (.move 5 (sl 27))])
  (.ret))))))
theorem fun_impl_MultiplyRatios {rin : List T} {args : List A} {Q : List T → T → Prop} (ha : args.length ≤ 28) (h : cW Try.prog 28 c_impl_MultiplyRatios (retP Try.prog [.cell 4 52, .tmp 5] rin.length Q) (St.of (enum 0 args) (enum 1000000000 rin))) :
    Fun Try.prog 106 rin args Q :=
  Fun.of Try.func106 rfl rfl rfl (by kernel_rfl) ha (by decide) h

def c_spec_l26Gain : CC :=
  (.seq (.reg [.o (.alloc 6 [.v (.int .i64 0), .v (.int .i64 0)])])
  ((.seq (.reg [.o (.call (some 9) (cf 65) [(ci 0)]),
     .o (.alloc 7 [.v (.int .i64 0), .v (.int .i64 0)]),
     .o (.store 2 (sl 7) (sl 9))])
  ((.seq (.seq (.reg [.o (.move 8 (ci 0))])
   ((.block 0 (.loop (.seq (.seq (.reg [.o (.move 10 (sl 8)),
         .o (.move 11 (sl 1)),
         .o (.lenS 12 (sl 11)),
         .o (.bin 13 .lss (sl 10) (sl 12))])
      ((.cond (sl 13) .skip
       (.exit 0))))
     ((.seq (.block 1 (.draw [(.r, .o (.move 16 (sl 0))),
         (.r, .o (.loadN 17 2 (sl 7))),
         (.r, .o (.move 18 (sl 0))),
         (.r, .o (.move 19 (sl 1))),
         (.r, .o (.move 20 (sl 8))),
         (.r, .o (.idx 21 2 (sl 19) (sl 20))),
         (.r, .o (.loadN 22 2 (sl 21))),
         (.r, .o (.move 23 (sl 2))),
         (.r, .o (.move 24 (sl 8))),
         (.r, .o (.idx 25 1 (sl 23) (sl 24))),
         (.r, .o (.load1 26 (sl 25))),
         (.r, .o (.call (some 27) (cf 65) [(sl 26)])),
         (.r, .o (.call (some 28) (cf 105) [(sl 18), (sl 22), (sl 27)])),
         (.r, .o (.call (some 29) (cf 67) [(sl 16), (sl 17), (sl 28)])),
         (.h, .o (.store 2 (sl 7) (sl 29)))]))
     ((.reg [.o (.move 14 (sl 8)),
       .o (.bin 15 .add (sl 14) (ci 1)),
       .o (.move 8 (sl 15))])))))))))
  ((.seq (.reg [.o (.loadN 30 2 (sl 7)),
     .o (.store 2 (sl 6) (sl 30))])
  (.ret))))))))
theorem fun_spec_l26Gain {rin : List T} {args : List A} {Q : List T → T → Prop} (ha : args.length ≤ 31) (h : cW Try.prog 31 c_spec_l26Gain (retP Try.prog [.cell 6 52] rin.length Q) (St.of (enum 0 args) (enum 1000000000 rin))) :
    Fun Try.prog 107 rin args Q :=
  Fun.of Try.func107 rfl rfl rfl (by kernel_rfl) ha (by decide) h

def c_spec_l26Column : CC :=
  (.seq (.reg [.o (.move 4 (cv (.slice none 0 0)))])
  ((.seq (.reg [.o (.bslice 7 1 0 []),
     .o (.move 5 (sl 7))])
  ((.seq (.seq (.reg [.o (.move 6 (ci 0))])
   ((.block 0 (.loop (.seq (.seq (.reg [.o (.move 8 (sl 6)),
         .o (.move 9 (sl 0)),
         .o (.lenS 10 (sl 9)),
         .o (.bin 11 .lss (sl 8) (sl 10))])
      ((.cond (sl 11) .skip
       (.exit 0))))
     ((.seq (.block 1 (.reg [.o (.move 14 (sl 5)),
         .o (.move 15 (sl 0)),
         .o (.move 16 (sl 6)),
         .o (.idx 17 1 (sl 15) (sl 16)),
         .o (.load1 18 (sl 17)),
         .o (.move 19 (sl 1)),
         .o (.idx 20 1 (sl 18) (sl 19)),
         .o (.load1 21 (sl 20)),
         .o (.bslice 22 1 1 [(0, (sl 21))]),
         .o (.app 23 1 8 (sl 14) (sl 22)),
         .o (.move 5 (sl 23))]))
     ((.reg [.o (.move 12 (sl 6)),
       .o (.bin 13 .add (sl 12) (ci 1)),
       .o (.move 6 (sl 13))])))))))))
  ((.seq (.reg [.o (.move 24 (sl 5)),
     .o (.move 4 (sl 24))])
  (.ret))))))))
theorem fun_spec_l26Column {rin : List T} {args : List A} {Q : List T → T → Prop} (ha : args.length ≤ 25) (h : cW Try.prog 25 c_spec_l26Column (retP Try.prog [.tmp 4] rin.length Q) (St.of (enum 0 args) (enum 1000000000 rin))) :
    Fun Try.prog 108 rin args Q :=
  Fun.of Try.func108 rfl rfl rfl (by kernel_rfl) ha (by decide) h

def c_spec_l01Ratio : CC :=
  (.seq (.reg [.o (.alloc 4 [.v (.int .i64 0), .v (.int .i64 0)]),
     .o (.move 5 (ci 0))])
  ((.seq (.reg [.o (.move 8 (sl 0)),
     .o (.call (some 9) (cf 93) [(sl 8)]),
     .o (.move 10 (sl 1)),
     .o (.call (some 11) (cf 92) [(sl 9), (sl 10)]),
     .o (.move 6 (sl 11))])
  ((.seq (.draw [(.e, .o (.move 12 (sl 0))),
     (.e, .o (.move 13 (sl 6))),
     (.e, .o (.bin 14 .quo (sl 12) (sl 13))),
     (.e, .o (.move 15 (sl 1))),
     (.e, .o (.move 16 (sl 6))),
     (.e, .o (.bin 17 .quo (sl 15) (sl 16))),
     (.e, .o (.build 18 [.v (.int .i64 0), .v (.int .i64 0)] [(0, 1), (1, 1)] [(0, (sl 14)), (1, (sl 17))])),
     (.h, .o (.alloc 7 [.v (.int .i64 0), .v (.int .i64 0)])),
     (.h, .o (.store 2 (sl 7) (sl 18)))])
  ((.seq (.seq (.reg [.o (.loadN 19 2 (sl 7)),
      .o (.call (some 20) (cf 66) [(sl 19)]),
      .o (.un 21 .not (sl 20))])
   ((.cond (sl 21) (.seq (.reg [.o (.build 22 [.v (.int .i64 0), .v (.int .i64 0)] [(0, 1), (1, 1)] []),
       .o (.store 2 (sl 4) (sl 22)),
       .o (.move 5 (ci 3))])
    (.ret))
    .skip)))
  ((.seq (.reg [.o (.loadN 23 2 (sl 7)),
     .o (.store 2 (sl 4) (sl 23)),
     .o (.move 5 (ci 0))])
  (.ret))))))))))
theorem fun_spec_l01Ratio {rin : List T} {args : List A} {Q : List T → T → Prop} (ha : args.length ≤ 24) (h : cW Try.prog 24 c_spec_l01Ratio (retP Try.prog [.cell 4 52, .tmp 5] rin.length Q) (St.of (enum 0 args) (enum 1000000000 rin))) :
    Fun Try.prog 109 rin args Q :=
  Fun.of Try.func109 rfl rfl rfl (by kernel_rfl) ha (by decide) h

def c_spec_l01Pick : CC :=
  (.seq (.reg [.o (.move 4 (ci 0))])
  ((.seq (.reg [.o (.move 5 (sl 1)),
     .o (.move 6 (sl 0)),
     .o (.move 7 (sl 1)),
     .o (.lenS 8 (sl 7)),
     .o (.call (some 9) (cf 102) [(sl 6), (sl 8)]),
     .o (.idx 10 1 (sl 5) (sl 9)),
     .o (.load1 11 (sl 10)),
     .o (.move 4 (sl 11))])
  (.ret))))
theorem fun_spec_l01Pick {rin : List T} {args : List A} {Q : List T → T → Prop} (ha : args.length ≤ 12) (h : cW Try.prog 12 c_spec_l01Pick (retP Try.prog [.tmp 4] rin.length Q) (St.of (enum 0 args) (enum 1000000000 rin))) :
    Fun Try.prog 111 rin args Q :=
  Fun.of Try.func111 rfl rfl rfl (by kernel_rfl) ha (by decide) h

def c_spec_MultiplyRatios : CC :=
  (.seq (.reg [.o (.box 2 (sl 0)),
     .o (.box 3 (sl 1)),
     .o (.alloc 4 [.v (.int .i64 0), .v (.int .i64 0)]),
     .o (.move 5 (ci 0))])
  ((.seq (.seq (.reg [.o (.loadN 6 2 (sl 2)),
      .o (.call (some 7) (cf 66) [(sl 6)]),
      .o (.un 8 .not (sl 7)),
      .o (.move 9 (sl 8)),
      .g 9 false (some 10) (.loadN 10 2 (sl 3)),
      .g 9 false (some 11) (.call (some 11) (cf 66) [(sl 10)]),
      .g 9 false (some 12) (.un 12 .not (sl 11)),
      .o (.pick 13 (sl 9) (cb true) (sl 12))])
   ((.cond (sl 13) (.seq (.reg [.o (.build 14 [.v (.int .i64 0), .v (.int .i64 0)] [(0, 1), (1, 1)] []),
       .o (.store 2 (sl 4) (sl 14)),
       .o (.move 5 (ci 1))])
    (.ret))
    .skip)))
  ((.seq (.reg [.o (.fld 15 0 (sl 2)),
     .o (.load1 16 (sl 15)),
     .o (.fld 17 0 (sl 3)),
     .o (.load1 18 (sl 17)),
     .o (.bin 19 .mul (sl 16) (sl 18)),
     .o (.fld 20 1 (sl 2)),
     .o (.load1 21 (sl 20)),
     .o (.fld 22 1 (sl 3)),
     .o (.load1 23 (sl 22)),
     .o (.bin 24 .mul (sl 21) (sl 23)),
     .o (.call (some 25) (cf 109) [(sl 19), (sl 24)]),
     .o (.extract 26 (sl 25) 0),
     .o (.extract 27 (sl 25) 1),
     .o (.store 2 (sl 4) (sl 26)),
     .o (.move 5 (sl 27))])
  (.ret))))))
theorem fun_spec_MultiplyRatios {rin : List T} {args : List A} {Q : List T → T → Prop} (ha : args.length ≤ 28) (h : cW Try.prog 28 c_spec_MultiplyRatios (retP Try.prog [.cell 4 52, .tmp 5] rin.length Q) (St.of (enum 0 args) (enum 1000000000 rin))) :
    Fun Try.prog 112 rin args Q :=
  Fun.of Try.func112 rfl rfl rfl (by kernel_rfl) ha (by decide) h

end Go.Ab
