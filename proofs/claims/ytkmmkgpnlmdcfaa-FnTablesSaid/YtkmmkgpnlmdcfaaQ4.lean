/- The functions in compact form, printed by a program (CcDump.lean). -/
import Derived.Test.YtkmmkgpnlmdcfaaRows
import Derived.Test.YtkmmkgpnlmdcfaaQ3
set_option linter.unusedVariables false
namespace Go.Ab
open Go.Proofs

@[go_sem] theorem cellAgg_35 : tyAgg Try.prog 35 = some true := by kernel_rfl
@[go_sem] theorem cellSize_35 : tySize Try.prog 35 = some 3 := by kernel_rfl
@[go_sem] theorem cellAgg_47 : tyAgg Try.prog 47 = some true := by kernel_rfl
@[go_sem] theorem cellSize_47 : tySize Try.prog 47 = some 2 := by kernel_rfl
@[go_sem] theorem cellAgg_75 : tyAgg Try.prog 75 = some true := by kernel_rfl
@[go_sem] theorem cellSize_75 : tySize Try.prog 75 = some 6 := by kernel_rfl
@[go_sem] theorem cellAgg_33 : tyAgg Try.prog 33 = some true := by kernel_rfl
@[go_sem] theorem cellSize_33 : tySize Try.prog 33 = some 1 := by kernel_rfl
@[go_sem] theorem cellAgg_181 : tyAgg Try.prog 181 = some true := by kernel_rfl
@[go_sem] theorem cellSize_181 : tySize Try.prog 181 = some 5 := by kernel_rfl
theorem tyOne : tySize Try.prog 0 = some 1 := by kernel_rfl

def c_spec_TableOf : CC :=
 (.seq (.reg [.o (.box 1 (sl 0)),
 .o (.move 2 (cv (.slice none 0 0))),
 .o (.move 3 (ci 0))])
 ((.seq (.reg [.o (.loadN 4 3 (sl 1)),
 .o (.call (some 5) (cf 97) [(sl 4)]),
 .o (.extract 6 (sl 5) 0),
 .o (.extract 7 (sl 5) 1),
 .o (.move 2 (sl 6)),
 .o (.move 3 (sl 7))])
 (.ret))))
theorem fun_spec_TableOf {rin : List T} {args : List A} {Q : List T → T → Prop} (ha : args.length ≤ 8) (h : cW Try.prog 8 c_spec_TableOf (retP Try.prog [.tmp 2, .tmp 3] rin.length Q) (St.of (enum 0 args) (enum 1000000000 rin))) :
    Fun Try.prog 21 rin args Q :=
  Fun.of (H := ⟨[], []⟩) Try.func21 rfl rfl rfl (by kernel_rfl) ha (by decide) h

def c_impl_TableOf : CC :=
 (.seq (.reg [.o (.box 1 (sl 0)),
 .o (.move 2 (cv (.slice none 0 0))),
 .o (.move 3 (ci 0))])
 ((.seq (.reg [.o (.loadN 4 3 (sl 1)),
 .o (.call (some 5) (cf 100) [(sl 4)]),
 .o (.extract 6 (sl 5) 0),
 .o (.extract 7 (sl 5) 1),
 .o (.move 2 (sl 6)),
 .o (.move 3 (sl 7))])
 (.ret))))
theorem fun_impl_TableOf {rin : List T} {args : List A} {Q : List T → T → Prop} (ha : args.length ≤ 8) (h : cW Try.prog 8 c_impl_TableOf (retP Try.prog [.tmp 2, .tmp 3] rin.length Q) (St.of (enum 0 args) (enum 1000000000 rin))) :
    Fun Try.prog 23 rin args Q :=
  Fun.of (H := ⟨[], []⟩) Try.func23 rfl rfl rfl (by kernel_rfl) ha (by decide) h

def c_spec_PureEquilibrium : CC :=
 (.seq (.reg [.o (.box 1 (sl 0)),
 .o (.move 2 (ci 0)),
 .o (.move 3 (ci 0)),
 .o (.move 4 (ci 0))])
 ((.seq (.reg [.o (.loadN 12 3 (sl 1)),
 .o (.call (some 13) (cf 97) [(sl 12)]),
 .o (.move 11 (sl 13)),
 .o (.extract 14 (sl 11) 0),
 .o (.extract 15 (sl 11) 1),
 .o (.move 5 (sl 14)),
 .o (.move 6 (sl 15))])
 ((.seq (.seq (.reg [.o (.move 16 (sl 6)),
 .o (.bin 17 .neq (sl 16) (ci 0))])
 ((.cond (sl 17) (.seq (.reg [.o (.move 18 (sl 6)),
 .o (.move 2 (ci 0)),
 .o (.move 3 (ci 0)),
 .o (.move 4 (sl 18))])
 (.ret))
 .skip)))
 ((.seq (.reg [.o (.move 20 (sl 5)),
 .o (.call (some 21) (cf 103) [(sl 20)]),
 .o (.move 19 (sl 21)),
 .o (.extract 22 (sl 19) 0),
 .o (.extract 23 (sl 19) 1),
 .o (.move 7 (sl 22)),
 .o (.move 8 (sl 23))])
 ((.seq (.seq (.reg [.o (.move 9 (ci 0))])
 ((.block 0 (.loop (.seq (.seq (.reg [.o (.move 24 (sl 9)),
 .o (.move 25 (sl 5)),
 .o (.lenS 26 (sl 25)),
 .o (.bin 27 .lss (sl 24) (sl 26))])
 ((.cond (sl 27) .skip
 (.exit 0))))
 ((.seq (.block 1 (.seq (.reg [.o (.move 10 (ci 0))])
 ((.block 2 (.loop (.seq (.seq (.reg [.o (.move 30 (sl 10)),
 .o (.move 31 (sl 5)),
 .o (.move 32 (sl 9)),
 .o (.idx 33 1 (sl 31) (sl 32)),
 .o (.load1 34 (sl 33)),
 .o (.lenS 35 (sl 34)),
 .o (.bin 36 .lss (sl 30) (sl 35))])
 ((.cond (sl 36) .skip
 (.exit 2))))
 ((.seq (.block 3 (.seq (.draw [] [(kR, .o (.move 39 (sl 5))),
 (kR, .o (.move 40 (sl 9))),
 (kR, .o (.idx 41 1 (sl 39) (sl 40))),
 (kR, .o (.load1 42 (sl 41))),
 (kR, .o (.move 43 (sl 10))),
 (kR, .o (.idx 44 1 (sl 42) (sl 43))),
 (kR, .o (.load1 45 (sl 44))),
 (kR, .o (.move 46 (sl 7))),
 (kR, .o (.move 47 (sl 9))),
 (kR, .o (.idx 48 1 (sl 46) (sl 47))),
 (kR, .o (.load1 49 (sl 48))),
 (kR, .o (.bin 50 .eql (sl 45) (sl 49))),
 (kR, .o (.move 51 (sl 50))),
 (kR, .g 51 true (some 52) (.move 52 (sl 5))),
 (kR, .g 51 true (some 53) (.move 53 (sl 9))),
 (kR, .g 51 true (some 54) (.idx 54 1 (sl 52) (sl 53))),
 (kR, .g 51 true (some 55) (.load1 55 (sl 54))),
 (kR, .g 51 true (some 56) (.move 56 (sl 10))),
 (kR, .g 51 true (some 57) (.idx 57 1 (sl 55) (sl 56))),
 (kR, .g 51 true (some 58) (.load1 58 (sl 57))),
 (kR, .g 51 true (some 59) (.move 59 (sl 8))),
 (kR, .g 51 true (some 60) (.move 60 (sl 10))),
 (kR, .g 51 true (some 61) (.idx 61 1 (sl 59) (sl 60))),
 (kR, .g 51 true (some 62) (.load1 62 (sl 61))),
 (kR, .g 51 true (some 63) (.bin 63 .eql (sl 58) (sl 62))),
 (kR, .o (.pick 64 (sl 51) (sl 63) (cb false)))])
 ((.cond (sl 64) (.seq (.reg [.o (.move 65 (sl 9)),
 .o (.move 66 (sl 10)),
 .o (.move 2 (sl 65)),
 .o (.move 3 (sl 66)),
 .o (.move 4 (ci 0))])
 (.ret))
 .skip))))
 ((.reg [.o (.move 37 (sl 10)),
 .o (.bin 38 .add (sl 37) (ci 1)),
 .o (.move 10 (sl 38))]))))))))))
 ((.reg [.o (.move 28 (sl 9)),
 .o (.bin 29 .add (sl 28) (ci 1)),
 .o (.move 9 (sl 29))])))))))))
 ((.seq (.reg [.o (.move 2 (ci 0)),
 .o (.move 3 (ci 0)),
 .o (.move 4 (ci 4))])
 (.ret))))))))))))
theorem fun_spec_PureEquilibrium {rin : List T} {args : List A} {Q : List T → T → Prop} (ha : args.length ≤ 67) (h : cW Try.prog 67 c_spec_PureEquilibrium (retP Try.prog [.tmp 2, .tmp 3, .tmp 4] rin.length Q) (St.of (enum 0 args) (enum 1000000000 rin))) :
    Fun Try.prog 29 rin args Q :=
  Fun.of (H := ⟨[], []⟩) Try.func29 rfl rfl rfl (by kernel_rfl) ha (by decide) h

def c_impl_PureEquilibrium : CC :=
 (.seq (.reg [.o (.box 1 (sl 0)),
 .o (.move 2 (ci 0)),
 .o (.move 3 (ci 0)),
 .o (.move 4 (ci 0))])
 ((.seq (.reg [.o (.loadN 13 3 (sl 1)),
 .o (.call (some 14) (cf 100) [(sl 13)]),
 .o (.move 12 (sl 14)),
 .o (.extract 15 (sl 12) 0),
 .o (.extract 16 (sl 12) 1),
 .o (.move 5 (sl 15)),
 .o (.move 6 (sl 16))])
 ((.seq (.seq (.reg [.o (.move 17 (sl 6)),
 .o (.bin 18 .neq (sl 17) (ci 0))])
 ((.cond (sl 18) (.seq (.reg [.o (.move 19 (sl 6)),
 .o (.move 2 (ci 0)),
 .o (.move 3 (ci 0)),
 .o (.move 4 (sl 19))])
 (.ret))
 .skip)))
 ((.seq (.reg [.o (.move 20 (sl 5)),
 .o (.call (some 21) (cf 104) [(sl 20)]),
 .o (.move 7 (sl 21))])
 ((.seq (.seq (.reg [.o (.move 22 (sl 5)),
 .o (.lenS 23 (sl 22)),
 .o (.move 24 (ci 0))])
 ((.block 0 (.loop (.seq (.reg [.o (.bin 25 .lss (sl 24) (sl 23))])
 ((.seq (.cond (sl 25) .skip
 (.exit 0))
 ((.seq (.block 1 (.seq (.reg [.o (.move 26 (sl 24)),
 .o (.idx 27 1 (sl 22) (sl 24)),
 .o (.load1 28 (sl 27)),
 .o (.move 8 (sl 26)),
 .o (.move 9 (sl 28))])
 ((.seq (.reg [.o (.move 29 (sl 9)),
 .o (.lenS 30 (sl 29)),
 .o (.move 31 (ci 0))])
 ((.block 2 (.loop (.seq (.reg [.o (.bin 32 .lss (sl 31) (sl 30))])
 ((.seq (.cond (sl 32) .skip
 (.exit 2))
 ((.seq (.block 3 (.seq (.reg [.o (.move 33 (sl 31)),
 .o (.idx 34 1 (sl 29) (sl 31)),
 .o (.load1 35 (sl 34)),
 .o (.move 10 (sl 33)),
 .o (.move 11 (sl 35))])
 ((.seq (.reg [.o (.move 36 (sl 11)),
 .o (.move 37 (sl 9)),
 .o (.call (some 38) (cf 105) [(sl 37)]),
 .o (.bin 39 .eql (sl 36) (sl 38)),
 .o (.move 40 (sl 39)),
 .g 40 true (some 41) (.move 41 (sl 11)),
 .g 40 true (some 42) (.move 42 (sl 7)),
 .g 40 true (some 43) (.move 43 (sl 10)),
 .g 40 true (some 44) (.idx 44 1 (sl 42) (sl 43)),
 .g 40 true (some 45) (.load1 45 (sl 44)),
 .g 40 true (some 46) (.call (some 46) (cf 106) [(sl 45)]),
 .g 40 true (some 47) (.bin 47 .eql (sl 41) (sl 46)),
 .o (.pick 48 (sl 40) (sl 47) (cb false))])
 ((.cond (sl 48) (.seq (.reg [.o (.move 49 (sl 8)),
 .o (.move 50 (sl 10)),
 .o (.move 2 (sl 49)),
 .o (.move 3 (sl 50)),
 .o (.move 4 (ci 0))])
 (.ret))
 .skip))))))
 ((.reg [.o (.bin 51 .add (sl 31) (ci 1)),
 .o (.move 31 (sl 51))]))))))))))))))
 ((.reg [.o (.bin 52 .add (sl 24) (ci 1)),
 .o (.move 24 (sl 52))])))))))))))
 ((.seq (.reg [.o (.move 2 (ci 0)),
 .o (.move 3 (ci 0)),
 .o (.move 4 (ci 4))])
 (.ret))))))))))))
theorem fun_impl_PureEquilibrium {rin : List T} {args : List A} {Q : List T → T → Prop} (ha : args.length ≤ 53) (h : cW Try.prog 53 c_impl_PureEquilibrium (retP Try.prog [.tmp 2, .tmp 3, .tmp 4] rin.length Q) (St.of (enum 0 args) (enum 1000000000 rin))) :
    Fun Try.prog 30 rin args Q :=
  Fun.of (H := ⟨[], []⟩) Try.func30 rfl rfl rfl (by kernel_rfl) ha (by decide) h

def c_spec_PureBounds : CC :=
 (.seq (.reg [.o (.box 1 (sl 0)),
 .o (.move 2 (ci 0)),
 .o (.move 3 (ci 0)),
 .o (.move 4 (ci 0))])
 ((.seq (.reg [.o (.loadN 14 3 (sl 1)),
 .o (.call (some 15) (cf 97) [(sl 14)]),
 .o (.move 13 (sl 15)),
 .o (.extract 16 (sl 13) 0),
 .o (.extract 17 (sl 13) 1),
 .o (.move 5 (sl 16)),
 .o (.move 6 (sl 17))])
 ((.seq (.seq (.reg [.o (.move 18 (sl 6)),
 .o (.bin 19 .neq (sl 18) (ci 0))])
 ((.cond (sl 19) (.seq (.reg [.o (.move 20 (sl 6)),
 .o (.move 2 (ci 0)),
 .o (.move 3 (ci 0)),
 .o (.move 4 (sl 20))])
 (.ret))
 .skip)))
 ((.seq (.reg [.o (.move 22 (sl 5)),
 .o (.call (some 23) (cf 103) [(sl 22)]),
 .o (.move 21 (sl 23)),
 .o (.extract 24 (sl 21) 0),
 .o (.extract 25 (sl 21) 1),
 .o (.move 7 (sl 24)),
 .o (.move 8 (sl 25))])
 ((.seq (.draw [] [(kR, .o (.move 26 (sl 7))),
 (kR, .o (.idx 27 1 (sl 26) (ci 0))),
 (kR, .o (.load1 28 (sl 27))),
 (kR, .o (.move 29 (sl 8))),
 (kR, .o (.idx 30 1 (sl 29) (ci 0))),
 (kR, .o (.load1 31 (sl 30))),
 (kR, .o (.move 9 (sl 28))),
 (kR, .o (.move 10 (sl 31)))])
 ((.seq (.seq (.reg [.o (.move 11 (ci 0))])
 ((.block 0 (.loop (.seq (.seq (.reg [.o (.move 32 (sl 11)),
 .o (.move 33 (sl 7)),
 .o (.lenS 34 (sl 33)),
 .o (.bin 35 .lss (sl 32) (sl 34))])
 ((.cond (sl 35) .skip
 (.exit 0))))
 ((.seq (.block 1 (.reg [.o (.move 38 (sl 9)),
 .o (.move 39 (sl 7)),
 .o (.move 40 (sl 11)),
 .o (.idx 41 1 (sl 39) (sl 40)),
 .o (.load1 42 (sl 41)),
 .o (.mm 43 true (sl 38) (sl 42)),
 .o (.move 9 (sl 43))]))
 ((.reg [.o (.move 36 (sl 11)),
 .o (.bin 37 .add (sl 36) (ci 1)),
 .o (.move 11 (sl 37))])))))))))
 ((.seq (.seq (.reg [.o (.move 12 (ci 0))])
 ((.block 2 (.loop (.seq (.seq (.reg [.o (.move 44 (sl 12)),
 .o (.move 45 (sl 8)),
 .o (.lenS 46 (sl 45)),
 .o (.bin 47 .lss (sl 44) (sl 46))])
 ((.cond (sl 47) .skip
 (.exit 2))))
 ((.seq (.block 3 (.reg [.o (.move 50 (sl 10)),
 .o (.move 51 (sl 8)),
 .o (.move 52 (sl 12)),
 .o (.idx 53 1 (sl 51) (sl 52)),
 .o (.load1 54 (sl 53)),
 .o (.mm 55 false (sl 50) (sl 54)),
 .o (.move 10 (sl 55))]))
 ((.reg [.o (.move 48 (sl 12)),
 .o (.bin 49 .add (sl 48) (ci 1)),
 .o (.move 12 (sl 49))])))))))))
 ((.seq (.reg [.o (.move 56 (sl 9)),
 .o (.move 57 (sl 10)),
 .o (.move 2 (sl 56)),
 .o (.move 3 (sl 57)),
 .o (.move 4 (ci 0))])
 (.ret))))))))))))))))
theorem fun_spec_PureBounds {rin : List T} {args : List A} {Q : List T → T → Prop} (ha : args.length ≤ 58) (h : cW Try.prog 58 c_spec_PureBounds (retP Try.prog [.tmp 2, .tmp 3, .tmp 4] rin.length Q) (St.of (enum 0 args) (enum 1000000000 rin))) :
    Fun Try.prog 31 rin args Q :=
  Fun.of (H := ⟨[], []⟩) Try.func31 rfl rfl rfl (by kernel_rfl) ha (by decide) h

def c_laws_big : CC :=
 (.seq (.reg [.o (.move 2 (cb false))])
 ((.seq (.reg [.o (.move 3 (sl 0)),
 .o (.lenS 4 (sl 3)),
 .o (.bin 5 .gtr (sl 4) (ci 4096)),
 .o (.move 2 (sl 5))])
 (.ret))))
theorem fun_laws_big {rin : List T} {args : List A} {Q : List T → T → Prop} (ha : args.length ≤ 6) (h : cW Try.prog 6 c_laws_big (retP Try.prog [.tmp 2] rin.length Q) (St.of (enum 0 args) (enum 1000000000 rin))) :
    Fun Try.prog 51 rin args Q :=
  Fun.of (H := ⟨[], []⟩) Try.func51 rfl rfl rfl (by kernel_rfl) ha (by decide) h

def c_spec_DrawTableOf : CC :=
 (.seq (.reg [.o (.alloc 2 [.v (.slice none 0 0), .v (.slice none 0 0), .v (.slice none 0 0)])])
 ((.seq (.reg [.o (.move 3 (sl 0)),
 .o (.call (some 4) (cf 119) [(sl 3)]),
 .o (.call (some 5) (cf 149) [(sl 4)]),
 .o (.store 3 (sl 2) (sl 5))])
 (.ret))))
theorem fun_spec_DrawTableOf {rin : List T} {args : List A} {Q : List T → T → Prop} (ha : args.length ≤ 6) (h : cW Try.prog 6 c_spec_DrawTableOf (retP Try.prog [.cell 2 35] rin.length Q) (St.of (enum 0 args) (enum 1000000000 rin))) :
    Fun Try.prog 83 rin args Q :=
  Fun.of (H := ⟨[], []⟩) Try.func83 rfl rfl rfl (by kernel_rfl) ha (by decide) h

def c_laws_likeLists : CC :=
 (.seq (.reg [.o (.move 4 (cb false))])
 ((.seq (.seq (.reg [.o (.move 6 (sl 0)),
 .o (.lenS 7 (sl 6)),
 .o (.move 8 (sl 1)),
 .o (.lenS 9 (sl 8)),
 .o (.bin 10 .neq (sl 7) (sl 9))])
 ((.cond (sl 10) (.seq (.reg [.o (.move 4 (cb false))])
 (.ret))
 .skip)))
 ((.seq (.seq (.reg [.o (.move 5 (ci 0))])
 ((.block 0 (.loop (.seq (.seq (.reg [.o (.move 11 (sl 5)),
 .o (.move 12 (sl 0)),
 .o (.lenS 13 (sl 12)),
 .o (.bin 14 .lss (sl 11) (sl 13))])
 ((.cond (sl 14) .skip
 (.exit 0))))
 ((.seq (.block 1 (.seq (.draw [] [(kR, .o (.move 17 (sl 0))),
 (kR, .o (.move 18 (sl 5))),
 (kR, .o (.idx 19 1 (sl 17) (sl 18))),
 (kR, .o (.load1 20 (sl 19))),
 (kR, .o (.move 21 (sl 1))),
 (kR, .o (.move 22 (sl 5))),
 (kR, .o (.idx 23 1 (sl 21) (sl 22))),
 (kR, .o (.load1 24 (sl 23))),
 (kR, .o (.call (some 25) (cf 94) [(sl 20), (sl 24)])),
 (kR, .o (.un 26 .not (sl 25)))])
 ((.cond (sl 26) (.seq (.reg [.o (.move 4 (cb false))])
 (.ret))
 .skip))))
 ((.reg [.o (.move 15 (sl 5)),
 .o (.bin 16 .add (sl 15) (ci 1)),
 .o (.move 5 (sl 16))])))))))))
 ((.seq (.reg [.o (.move 4 (cb true))])
 (.ret))))))))
theorem fun_laws_likeLists {rin : List T} {args : List A} {Q : List T → T → Prop} (ha : args.length ≤ 27) (h : cW Try.prog 27 c_laws_likeLists (retP Try.prog [.tmp 4] rin.length Q) (St.of (enum 0 args) (enum 1000000000 rin))) :
    Fun Try.prog 84 rin args Q :=
  Fun.of (H := ⟨[], []⟩) Try.func84 rfl rfl rfl (by kernel_rfl) ha (by decide) h

def c_laws_likeInts : CC :=
 (.seq (.reg [.o (.move 4 (cb false))])
 ((.seq (.seq (.reg [.o (.move 6 (sl 0)),
 .o (.lenS 7 (sl 6)),
 .o (.move 8 (sl 1)),
 .o (.lenS 9 (sl 8)),
 .o (.bin 10 .neq (sl 7) (sl 9))])
 ((.cond (sl 10) (.seq (.reg [.o (.move 4 (cb false))])
 (.ret))
 .skip)))
 ((.seq (.seq (.reg [.o (.move 5 (ci 0))])
 ((.block 0 (.loop (.seq (.seq (.reg [.o (.move 11 (sl 5)),
 .o (.move 12 (sl 0)),
 .o (.lenS 13 (sl 12)),
 .o (.bin 14 .lss (sl 11) (sl 13))])
 ((.cond (sl 14) .skip
 (.exit 0))))
 ((.seq (.block 1 (.seq (.draw [] [(kR, .o (.move 17 (sl 0))),
 (kR, .o (.move 18 (sl 5))),
 (kR, .o (.idx 19 1 (sl 17) (sl 18))),
 (kR, .o (.load1 20 (sl 19))),
 (kR, .o (.move 21 (sl 1))),
 (kR, .o (.move 22 (sl 5))),
 (kR, .o (.idx 23 1 (sl 21) (sl 22))),
 (kR, .o (.load1 24 (sl 23))),
 (kR, .o (.bin 25 .neq (sl 20) (sl 24)))])
 ((.cond (sl 25) (.seq (.reg [.o (.move 4 (cb false))])
 (.ret))
 .skip))))
 ((.reg [.o (.move 15 (sl 5)),
 .o (.bin 16 .add (sl 15) (ci 1)),
 .o (.move 5 (sl 16))])))))))))
 ((.seq (.reg [.o (.move 4 (cb true))])
 (.ret))))))))
theorem fun_laws_likeInts {rin : List T} {args : List A} {Q : List T → T → Prop} (ha : args.length ≤ 26) (h : cW Try.prog 26 c_laws_likeInts (retP Try.prog [.tmp 4] rin.length Q) (St.of (enum 0 args) (enum 1000000000 rin))) :
    Fun Try.prog 94 rin args Q :=
  Fun.of (H := ⟨[], []⟩) Try.func94 rfl rfl rfl (by kernel_rfl) ha (by decide) h

def c_spec_l28Table : CC :=
 (.seq (.reg [.o (.box 1 (sl 0)),
 .o (.move 2 (cv (.slice none 0 0))),
 .o (.move 3 (ci 0))])
 ((.seq (.seq (.reg [.o (.loadN 17 3 (sl 1)),
 .o (.call (some 18) (cf 139) [(sl 17)]),
 .o (.un 19 .not (sl 18))])
 ((.cond (sl 19) (.seq (.reg [.o (.move 2 (cv (.slice none 0 0))),
 .o (.move 3 (ci 1))])
 (.ret))
 .skip)))
 ((.seq (.reg [.o (.loadN 21 3 (sl 1)),
 .o (.call (some 22) (cf 156) [(sl 21), (ci 0)]),
 .o (.move 20 (sl 22)),
 .o (.extract 23 (sl 20) 0),
 .o (.extract 24 (sl 20) 1),
 .o (.move 4 (sl 23)),
 .o (.move 5 (sl 24))])
 ((.seq (.reg [.o (.loadN 26 3 (sl 1)),
 .o (.call (some 27) (cf 156) [(sl 26), (ci 1)]),
 .o (.move 25 (sl 27)),
 .o (.extract 28 (sl 25) 0),
 .o (.extract 29 (sl 25) 1),
 .o (.move 6 (sl 28)),
 .o (.move 7 (sl 29))])
 ((.seq (.seq (.reg [.o (.move 30 (sl 5)),
 .o (.bin 31 .neq (sl 30) (ci 0)),
 .o (.move 32 (sl 31)),
 .g 32 false (some 33) (.move 33 (sl 7)),
 .g 32 false (some 34) (.bin 34 .neq (sl 33) (ci 0)),
 .o (.pick 35 (sl 32) (cb true) (sl 34)),
 .o (.move 36 (sl 35)),
 .g 36 false (some 37) (.move 37 (sl 4)),
 .g 36 false (some 38) (.bin 38 .gtr (sl 37) (ci 16)),
 .o (.pick 39 (sl 36) (cb true) (sl 38)),
 .o (.move 40 (sl 39)),
 .g 40 false (some 41) (.move 41 (sl 6)),
 .g 40 false (some 42) (.bin 42 .gtr (sl 41) (ci 16)),
 .o (.pick 43 (sl 40) (cb true) (sl 42))])
 ((.cond (sl 43) (.seq (.reg [.o (.move 2 (cv (.slice none 0 0))),
 .o (.move 3 (ci 3))])
 (.ret))
 .skip)))
 ((.seq (.reg [.o (.fld 44 0 (sl 1)),
 .o (.loadN 45 1 (sl 44)),
 .o (.call (some 46) (cf 158) [(sl 45), (ci 0)]),
 .o (.call (some 47) (cf 157) [(sl 46)]),
 .o (.move 8 (sl 47))])
 ((.seq (.reg [.o (.bslice 48 1 0 []),
 .o (.move 9 (sl 48))])
 ((.seq (.seq (.reg [.o (.move 10 (ci 0))])
 ((.block 0 (.loop (.seq (.seq (.reg [.o (.move 49 (sl 10)),
 .o (.move 50 (sl 4)),
 .o (.bin 51 .lss (sl 49) (sl 50))])
 ((.cond (sl 51) .skip
 (.exit 0))))
 ((.seq (.block 1 (.seq (.reg [.o (.loadN 55 3 (sl 1)),
 .o (.move 56 (sl 10)),
 .o (.call (some 57) (cf 159) [(sl 55), (ci 0), (sl 56)]),
 .o (.move 54 (sl 57)),
 .o (.extract 58 (sl 54) 0),
 .o (.extract 59 (sl 54) 1),
 .o (.alloc 11 [.v (.int .i64 0), .v (.slice none 0 0)]),
 .o (.store 2 (sl 11) (sl 58)),
 .o (.move 12 (sl 59))])
 ((.seq (.reg [.o (.bslice 60 1 0 []),
 .o (.move 13 (sl 60))])
 ((.seq (.seq (.reg [.o (.move 14 (ci 0))])
 ((.block 2 (.loop (.seq (.seq (.reg [.o (.move 61 (sl 14)),
 .o (.move 62 (sl 6)),
 .o (.bin 63 .lss (sl 61) (sl 62))])
 ((.cond (sl 63) .skip
 (.exit 2))))
 ((.seq (.block 3 (.seq (.reg [.o (.loadN 67 3 (sl 1)),
 .o (.move 68 (sl 14)),
 .o (.call (some 69) (cf 159) [(sl 67), (ci 1), (sl 68)]),
 .o (.move 66 (sl 69)),
 .o (.extract 70 (sl 66) 0),
 .o (.extract 71 (sl 66) 1),
 .o (.alloc 15 [.v (.int .i64 0), .v (.slice none 0 0)]),
 .o (.store 2 (sl 15) (sl 70)),
 .o (.move 16 (sl 71))])
 ((.reg [.o (.move 72 (sl 13)),
 .o (.loadN 73 3 (sl 1)),
 .o (.loadN 74 2 (sl 11)),
 .o (.loadN 75 2 (sl 15)),
 .o (.call (some 76) (cf 125) [(sl 73), (sl 74), (sl 75)]),
 .o (.move 77 (sl 8)),
 .o (.bin 78 .quo (sl 76) (sl 77)),
 .o (.bslice 79 1 1 [(0, (sl 78))]),
 .o (.app 80 1 8 (sl 72) (sl 79)),
 .o (.move 13 (sl 80))]))))
 ((.reg [.o (.move 64 (sl 14)),
 .o (.bin 65 .add (sl 64) (ci 1)),
 .o (.move 14 (sl 65))])))))))))
 ((.reg [.o (.move 81 (sl 9)),
 .o (.move 82 (sl 13)),
 .o (.bslice 83 1 1 [(0, (sl 82))]),
 .o (.app 84 1 24 (sl 81) (sl 83)),
 .o (.move 9 (sl 84))]))))))))
 ((.reg [.o (.move 52 (sl 10)),
 .o (.bin 53 .add (sl 52) (ci 1)),
 .o (.move 10 (sl 53))])))))))))
 ((.seq (.reg [.o (.move 85 (sl 9)),
 .o (.move 2 (sl 85)),
 .o (.move 3 (ci 0))])
 (.ret))))))))))))))))))
theorem fun_spec_l28Table {rin : List T} {args : List A} {Q : List T → T → Prop} (ha : args.length ≤ 86) (h : cW Try.prog 86 c_spec_l28Table (retP Try.prog [.tmp 2, .tmp 3] rin.length Q) (St.of (enum 0 args) (enum 1000000000 rin))) :
    Fun Try.prog 97 rin args Q :=
  Fun.of (H := ⟨[], []⟩) Try.func97 rfl rfl rfl (by kernel_rfl) ha (by decide) h

def c_impl_tableOf : CC :=
 (.seq (.reg [.o (.box 1 (sl 0)),
 .o (.move 2 (cv (.slice none 0 0))),
 .o (.move 3 (ci 0))])
 ((.seq (.reg [.o (.loadN 15 3 (sl 1)),
 .o (.call (some 16) (cf 162) [(sl 15), (ci 0)]),
 .o (.move 14 (sl 16)),
 .o (.extract 17 (sl 14) 0),
 .o (.extract 18 (sl 14) 1),
 .o (.move 4 (sl 17)),
 .o (.move 5 (sl 18))])
 ((.seq (.seq (.reg [.o (.move 19 (sl 5)),
 .o (.bin 20 .neq (sl 19) (ci 0))])
 ((.cond (sl 20) (.seq (.reg [.o (.move 21 (sl 5)),
 .o (.move 2 (cv (.slice none 0 0))),
 .o (.move 3 (sl 21))])
 (.ret))
 .skip)))
 ((.seq (.reg [.o (.loadN 23 3 (sl 1)),
 .o (.call (some 24) (cf 162) [(sl 23), (ci 1)]),
 .o (.move 22 (sl 24)),
 .o (.extract 25 (sl 22) 0),
 .o (.extract 26 (sl 22) 1),
 .o (.move 6 (sl 25)),
 .o (.move 5 (sl 26))])
 ((.seq (.seq (.reg [.o (.move 27 (sl 5)),
 .o (.bin 28 .neq (sl 27) (ci 0))])
 ((.cond (sl 28) (.seq (.reg [.o (.move 29 (sl 5)),
 .o (.move 2 (cv (.slice none 0 0))),
 .o (.move 3 (sl 29))])
 (.ret))
 .skip)))
 ((.seq (.reg [.o (.fld 30 0 (sl 1)),
 .o (.loadN 31 1 (sl 30)),
 .o (.call (some 32) (cf 164) [(sl 31), (ci 0)]),
 .o (.call (some 33) (cf 163) [(ci 60), (sl 32)]),
 .o (.move 7 (sl 33))])
 ((.seq (.reg [.o (.move 8 (cv (.slice none 0 0)))])
 ((.seq (.seq (.reg [.o (.move 34 (sl 4)),
 .o (.lenS 35 (sl 34)),
 .o (.move 36 (ci 0))])
 ((.block 0 (.loop (.seq (.reg [.o (.bin 37 .lss (sl 36) (sl 35))])
 ((.seq (.cond (sl 37) .skip
 (.exit 0))
 ((.seq (.block 1 (.seq (.reg [.o (.idx 38 2 (sl 34) (sl 36)),
 .o (.loadN 39 2 (sl 38)),
 .o (.alloc 10 [.v (.int .i64 0), .v (.slice none 0 0)]),
 .o (.store 2 (sl 10) (sl 39))])
 ((.seq (.reg [.o (.move 11 (cv (.slice none 0 0)))])
 ((.seq (.seq (.reg [.o (.move 40 (sl 6)),
 .o (.lenS 41 (sl 40)),
 .o (.move 42 (ci 0))])
 ((.block 2 (.loop (.seq (.reg [.o (.bin 43 .lss (sl 42) (sl 41))])
 ((.seq (.cond (sl 43) .skip
 (.exit 2))
 ((.seq (.block 3 (.seq (.reg [.o (.idx 44 2 (sl 40) (sl 42)),
 .o (.loadN 45 2 (sl 44)),
 .o (.alloc 13 [.v (.int .i64 0), .v (.slice none 0 0)]),
 .o (.store 2 (sl 13) (sl 45))])
 ((.reg [.o (.move 46 (sl 11)),
 .o (.loadN 47 3 (sl 1)),
 .o (.loadN 48 2 (sl 10)),
 .o (.loadN 49 2 (sl 13)),
 .o (.call (some 50) (cf 121) [(sl 47), (sl 48), (sl 49)]),
 .o (.move 51 (sl 7)),
 .o (.bin 52 .quo (sl 50) (sl 51)),
 .o (.bslice 53 1 1 [(0, (sl 52))]),
 .o (.app 54 1 8 (sl 46) (sl 53)),
 .o (.move 11 (sl 54))]))))
 ((.reg [.o (.bin 55 .add (sl 42) (ci 1)),
 .o (.move 42 (sl 55))])))))))))))
 ((.reg [.o (.move 56 (sl 8)),
 .o (.move 57 (sl 11)),
 .o (.bslice 58 1 1 [(0, (sl 57))]),
 .o (.app 59 1 24 (sl 56) (sl 58)),
 .o (.move 8 (sl 59))]))))))))
 ((.reg [.o (.bin 60 .add (sl 36) (ci 1)),
 .o (.move 36 (sl 60))])))))))))))
 ((.seq (.reg [.o (.move 61 (sl 8)),
 .o (.move 2 (sl 61)),
 .o (.move 3 (ci 0))])
 (.ret))))))))))))))))))
theorem fun_impl_tableOf {rin : List T} {args : List A} {Q : List T → T → Prop} (ha : args.length ≤ 62) (h : cW Try.prog 62 c_impl_tableOf (retP Try.prog [.tmp 2, .tmp 3] rin.length Q) (St.of (enum 0 args) (enum 1000000000 rin))) :
    Fun Try.prog 100 rin args Q :=
  Fun.of (H := ⟨[], []⟩) Try.func100 rfl rfl rfl (by kernel_rfl) ha (by decide) h

def c_spec_l28Extremes : CC :=
 (.seq (.reg [.o (.move 2 (cv (.slice none 0 0))),
 .o (.move 3 (cv (.slice none 0 0)))])
 ((.seq (.reg [.o (.bslice 9 1 0 []),
 .o (.move 10 (sl 0)),
 .o (.idx 11 1 (sl 10) (ci 0)),
 .o (.load1 12 (sl 11)),
 .o (.call (some 13) (cf 167) [(sl 12)]),
 .o (.move 4 (sl 9)),
 .o (.move 5 (sl 13))])
 ((.seq (.seq (.reg [.o (.move 6 (ci 0))])
 ((.block 0 (.loop (.seq (.seq (.reg [.o (.move 14 (sl 6)),
 .o (.move 15 (sl 0)),
 .o (.lenS 16 (sl 15)),
 .o (.bin 17 .lss (sl 14) (sl 16))])
 ((.cond (sl 17) .skip
 (.exit 0))))
 ((.seq (.block 1 (.seq (.reg [.o (.move 20 (sl 0)),
 .o (.move 21 (sl 6)),
 .o (.idx 22 1 (sl 20) (sl 21)),
 .o (.load1 23 (sl 22)),
 .o (.idx 24 1 (sl 23) (ci 0)),
 .o (.load1 25 (sl 24)),
 .o (.move 7 (sl 25))])
 ((.seq (.seq (.reg [.o (.move 8 (ci 0))])
 ((.block 2 (.loop (.seq (.seq (.reg [.o (.move 26 (sl 8)),
 .o (.move 27 (sl 0)),
 .o (.move 28 (sl 6)),
 .o (.idx 29 1 (sl 27) (sl 28)),
 .o (.load1 30 (sl 29)),
 .o (.lenS 31 (sl 30)),
 .o (.bin 32 .lss (sl 26) (sl 31))])
 ((.cond (sl 32) .skip
 (.exit 2))))
 ((.seq (.block 3 (.seq (.reg [.o (.move 35 (sl 7)),
 .o (.move 36 (sl 0)),
 .o (.move 37 (sl 6)),
 .o (.idx 38 1 (sl 36) (sl 37)),
 .o (.load1 39 (sl 38)),
 .o (.move 40 (sl 8)),
 .o (.idx 41 1 (sl 39) (sl 40)),
 .o (.load1 42 (sl 41)),
 .o (.mm 43 false (sl 35) (sl 42)),
 .o (.move 7 (sl 43))])
 ((.draw [] [(kR, .o (.move 44 (sl 5))),
 (kR, .o (.move 45 (sl 8))),
 (kR, .o (.move 46 (sl 5))),
 (kR, .o (.move 47 (sl 8))),
 (kR, .o (.idx 48 1 (sl 46) (sl 47))),
 (kR, .o (.load1 49 (sl 48))),
 (kR, .o (.move 50 (sl 0))),
 (kR, .o (.move 51 (sl 6))),
 (kR, .o (.idx 52 1 (sl 50) (sl 51))),
 (kR, .o (.load1 53 (sl 52))),
 (kR, .o (.move 54 (sl 8))),
 (kR, .o (.idx 55 1 (sl 53) (sl 54))),
 (kR, .o (.load1 56 (sl 55))),
 (kR, .o (.mm 57 true (sl 49) (sl 56))),
 (kR, .o (.idx 58 1 (sl 44) (sl 45))),
 (kH, .o (.store 1 (sl 58) (sl 57)))]))))
 ((.reg [.o (.move 33 (sl 8)),
 .o (.bin 34 .add (sl 33) (ci 1)),
 .o (.move 8 (sl 34))])))))))))
 ((.reg [.o (.move 59 (sl 4)),
 .o (.move 60 (sl 7)),
 .o (.bslice 61 1 1 [(0, (sl 60))]),
 .o (.app 62 1 8 (sl 59) (sl 61)),
 .o (.move 4 (sl 62))]))))))
 ((.reg [.o (.move 18 (sl 6)),
 .o (.bin 19 .add (sl 18) (ci 1)),
 .o (.move 6 (sl 19))])))))))))
 ((.seq (.reg [.o (.move 63 (sl 4)),
 .o (.move 64 (sl 5)),
 .o (.move 2 (sl 63)),
 .o (.move 3 (sl 64))])
 (.ret))))))))
theorem fun_spec_l28Extremes {rin : List T} {args : List A} {Q : List T → T → Prop} (ha : args.length ≤ 65) (h : cW Try.prog 65 c_spec_l28Extremes (retP Try.prog [.tmp 2, .tmp 3] rin.length Q) (St.of (enum 0 args) (enum 1000000000 rin))) :
    Fun Try.prog 103 rin args Q :=
  Fun.of (H := ⟨[], []⟩) Try.func103 rfl rfl rfl (by kernel_rfl) ha (by decide) h

def c_impl_turned : CC :=
 (.seq (.reg [.o (.move 2 (cv (.slice none 0 0)))])
 ((.seq (.reg [.o (.move 7 (sl 0)),
 .o (.idx 8 1 (sl 7) (ci 0)),
 .o (.load1 9 (sl 8)),
 .o (.lenS 10 (sl 9)),
 .o (.make 11 [.v (.slice none 0 0)] 24 (sl 10) (sl 10)),
 .o (.move 3 (sl 11))])
 ((.seq (.seq (.reg [.o (.move 12 (sl 3)),
 .o (.lenS 13 (sl 12)),
 .o (.move 14 (ci 0))])
 ((.block 0 (.loop (.seq (.reg [.o (.bin 15 .lss (sl 14) (sl 13))])
 ((.seq (.cond (sl 15) .skip
 (.exit 0))
 ((.seq (.block 1 (.seq (.reg [.o (.move 16 (sl 14)),
 .o (.move 4 (sl 16))])
 ((.seq (.reg [.o (.move 17 (sl 0)),
 .o (.lenS 18 (sl 17)),
 .o (.move 19 (ci 0))])
 ((.block 2 (.loop (.seq (.reg [.o (.bin 20 .lss (sl 19) (sl 18))])
 ((.seq (.cond (sl 20) .skip
 (.exit 2))
 ((.seq (.block 3 (.seq (.reg [.o (.idx 21 1 (sl 17) (sl 19)),
 .o (.load1 22 (sl 21)),
 .o (.move 6 (sl 22))])
 ((.draw [33] [(kE, .o (.move 23 (sl 3))),
 (kE, .o (.move 24 (sl 4))),
 (kR, .o (.move 25 (sl 3))),
 (kR, .o (.move 26 (sl 4))),
 (kR, .o (.idx 27 1 (sl 25) (sl 26))),
 (kH, .o (.load1 28 (sl 27))),
 (kE, .o (.move 29 (sl 6))),
 (kE, .o (.move 30 (sl 4))),
 (kE, .o (.idx 31 1 (sl 29) (sl 30))),
 (kE, .o (.load1 32 (sl 31))),
 (kN, .o (.bslice 33 1 1 [(0, (sl 32))])),
 (kH, .o (.app 34 1 8 (sl 28) (sl 33))),
 (kR, .o (.idx 35 1 (sl 23) (sl 24))),
 (kH, .o (.store 1 (sl 35) (sl 34)))]))))
 ((.reg [.o (.bin 36 .add (sl 19) (ci 1)),
 .o (.move 19 (sl 36))]))))))))))))))
 ((.reg [.o (.bin 37 .add (sl 14) (ci 1)),
 .o (.move 14 (sl 37))])))))))))))
 ((.seq (.reg [.o (.move 38 (sl 3)),
 .o (.move 2 (sl 38))])
 (.ret))))))))
theorem fun_impl_turned {rin : List T} {args : List A} {Q : List T → T → Prop} (ha : args.length ≤ 39) (h : cW Try.prog 39 c_impl_turned (retP Try.prog [.tmp 2] rin.length Q) (St.of (enum 0 args) (enum 1000000000 rin))) :
    Fun Try.prog 104 rin args Q :=
  Fun.of (H := ⟨[], []⟩) Try.func104 rfl rfl rfl (by kernel_rfl) ha (by decide) h

def c_slices_Min___int64_int64_ : CC :=
 (.seq (.reg [.o (.move 2 (ci 0))])
 ((.seq (.seq (.reg [.o (.move 5 (sl 0)),
 .o (.lenS 6 (sl 5)),
 .o (.bin 7 .lss (sl 6) (ci 1))])
 ((.cond (sl 7) (.reg [.o (.bad (some 8)),
 .o (.bad none)])
 .skip)))
 ((.seq (.reg [.o (.move 9 (sl 0)),
 .o (.idx 10 1 (sl 9) (ci 0)),
 .o (.load1 11 (sl 10)),
 .o (.move 3 (sl 11))])
 ((.seq (.seq (.reg [.o (.move 4 (ci 1))])
 ((.block 0 (.loop (.seq (.seq (.reg [.o (.move 12 (sl 4)),
 .o (.move 13 (sl 0)),
 .o (.lenS 14 (sl 13)),
 .o (.bin 15 .lss (sl 12) (sl 14))])
 ((.cond (sl 15) .skip
 (.exit 0))))
 ((.seq (.block 1 (.reg [.o (.move 18 (sl 3)),
 .o (.move 19 (sl 0)),
 .o (.move 20 (sl 4)),
 .o (.idx 21 1 (sl 19) (sl 20)),
 .o (.load1 22 (sl 21)),
 .o (.mm 23 false (sl 18) (sl 22)),
 .o (.move 3 (sl 23))]))
 ((.reg [.o (.move 16 (sl 4)),
 .o (.bin 17 .add (sl 16) (ci 1)),
 .o (.move 4 (sl 17))])))))))))
 ((.seq (.reg [.o (.move 24 (sl 3)),
 .o (.move 2 (sl 24))])
 (.ret))))))))))
theorem fun_slices_Min___int64_int64_ {rin : List T} {args : List A} {Q : List T → T → Prop} (ha : args.length ≤ 25) (h : cW Try.prog 25 c_slices_Min___int64_int64_ (retP Try.prog [.tmp 2] rin.length Q) (St.of (enum 0 args) (enum 1000000000 rin))) :
    Fun Try.prog 105 rin args Q :=
  Fun.of (H := ⟨[], []⟩) Try.func105 rfl rfl rfl (by kernel_rfl) ha (by decide) h

def c_slices_Max___int64_int64_ : CC :=
 (.seq (.reg [.o (.move 2 (ci 0))])
 ((.seq (.seq (.reg [.o (.move 5 (sl 0)),
 .o (.lenS 6 (sl 5)),
 .o (.bin 7 .lss (sl 6) (ci 1))])
 ((.cond (sl 7) (.reg [.o (.bad (some 8)),
 .o (.bad none)])
 .skip)))
 ((.seq (.reg [.o (.move 9 (sl 0)),
 .o (.idx 10 1 (sl 9) (ci 0)),
 .o (.load1 11 (sl 10)),
 .o (.move 3 (sl 11))])
 ((.seq (.seq (.reg [.o (.move 4 (ci 1))])
 ((.block 0 (.loop (.seq (.seq (.reg [.o (.move 12 (sl 4)),
 .o (.move 13 (sl 0)),
 .o (.lenS 14 (sl 13)),
 .o (.bin 15 .lss (sl 12) (sl 14))])
 ((.cond (sl 15) .skip
 (.exit 0))))
 ((.seq (.block 1 (.reg [.o (.move 18 (sl 3)),
 .o (.move 19 (sl 0)),
 .o (.move 20 (sl 4)),
 .o (.idx 21 1 (sl 19) (sl 20)),
 .o (.load1 22 (sl 21)),
 .o (.mm 23 true (sl 18) (sl 22)),
 .o (.move 3 (sl 23))]))
 ((.reg [.o (.move 16 (sl 4)),
 .o (.bin 17 .add (sl 16) (ci 1)),
 .o (.move 4 (sl 17))])))))))))
 ((.seq (.reg [.o (.move 24 (sl 3)),
 .o (.move 2 (sl 24))])
 (.ret))))))))))
theorem fun_slices_Max___int64_int64_ {rin : List T} {args : List A} {Q : List T → T → Prop} (ha : args.length ≤ 25) (h : cW Try.prog 25 c_slices_Max___int64_int64_ (retP Try.prog [.tmp 2] rin.length Q) (St.of (enum 0 args) (enum 1000000000 rin))) :
    Fun Try.prog 106 rin args Q :=
  Fun.of (H := ⟨[], []⟩) Try.func106 rfl rfl rfl (by kernel_rfl) ha (by decide) h

def c_impl_within : CC :=
 (.seq (.reg [.o (.move 6 (cb false))])
 ((.seq (.reg [.o (.move 7 (sl 0)),
 .o (.move 8 (sl 1)),
 .o (.bin 9 .geq (sl 7) (sl 8)),
 .o (.move 10 (sl 9)),
 .g 10 true (some 11) (.move 11 (sl 0)),
 .g 10 true (some 12) (.move 12 (sl 2)),
 .g 10 true (some 13) (.bin 13 .leq (sl 11) (sl 12)),
 .o (.pick 14 (sl 10) (sl 13) (cb false)),
 .o (.move 6 (sl 14))])
 (.ret))))
theorem fun_impl_within {rin : List T} {args : List A} {Q : List T → T → Prop} (ha : args.length ≤ 15) (h : cW Try.prog 15 c_impl_within (retP Try.prog [.tmp 6] rin.length Q) (St.of (enum 0 args) (enum 1000000000 rin))) :
    Fun Try.prog 110 rin args Q :=
  Fun.of (H := ⟨[], []⟩) Try.func110 rfl rfl rfl (by kernel_rfl) ha (by decide) h

def c_impl_IsGame : CC :=
 (.seq (.reg [.o (.box 1 (sl 0)),
 .o (.move 2 (cb false))])
 ((.seq (.reg [.o (.fld 5 1 (sl 1)),
 .o (.load1 6 (sl 5)),
 .o (.lenS 7 (sl 6)),
 .o (.move 3 (sl 7))])
 ((.seq (.seq (.reg [.o (.fld 8 0 (sl 1)),
 .o (.loadN 9 1 (sl 8)),
 .o (.call (some 10) (cf 175) [(sl 9)]),
 .o (.un 11 .not (sl 10)),
 .o (.move 12 (sl 11)),
 .g 12 false (some 13) (.move 13 (sl 3)),
 .g 12 false (some 14) (.call (some 14) (cf 110) [(sl 13), (ci 1), (ci 6)]),
 .g 12 false (some 15) (.un 15 .not (sl 14)),
 .o (.pick 16 (sl 12) (cb true) (sl 15)),
 .o (.move 17 (sl 16)),
 .g 17 false (some 18) (.fld 18 2 (sl 1)),
 .g 17 false (some 19) (.load1 19 (sl 18)),
 .g 17 false (some 20) (.lenS 20 (sl 19)),
 .g 17 false (some 21) (.move 21 (sl 3)),
 .g 17 false (some 22) (.bin 22 .neq (sl 20) (sl 21)),
 .o (.pick 23 (sl 17) (cb true) (sl 22))])
 ((.cond (sl 23) (.seq (.reg [.o (.move 2 (cb false))])
 (.ret))
 .skip)))
 ((.seq (.seq (.reg [.o (.move 24 (sl 3)),
 .o (.move 25 (ci 0))])
 ((.block 0 (.loop (.seq (.reg [.o (.bin 26 .lss (sl 25) (sl 24))])
 ((.seq (.cond (sl 26) .skip
 (.exit 0))
 ((.seq (.block 1 (.seq (.reg [.o (.move 27 (sl 25)),
 .o (.move 4 (sl 27))])
 ((.seq (.reg [.o (.fld 28 1 (sl 1)),
 .o (.load1 29 (sl 28)),
 .o (.move 30 (sl 4)),
 .o (.idx 31 1 (sl 29) (sl 30)),
 .o (.load1 32 (sl 31)),
 .o (.lenS 33 (sl 32)),
 .o (.move 34 (sl 3)),
 .o (.bin 35 .neq (sl 33) (sl 34)),
 .o (.move 36 (sl 35)),
 .g 36 false (some 37) (.fld 37 2 (sl 1)),
 .g 36 false (some 38) (.load1 38 (sl 37)),
 .g 36 false (some 39) (.move 39 (sl 4)),
 .g 36 false (some 40) (.idx 40 1 (sl 38) (sl 39)),
 .g 36 false (some 41) (.load1 41 (sl 40)),
 .g 36 false (some 42) (.lenS 42 (sl 41)),
 .g 36 false (some 43) (.move 43 (sl 3)),
 .g 36 false (some 44) (.bin 44 .neq (sl 42) (sl 43)),
 .o (.pick 45 (sl 36) (cb true) (sl 44)),
 .o (.move 46 (sl 45)),
 .g 46 false (some 47) (.fld 47 1 (sl 1)),
 .g 46 false (some 48) (.load1 48 (sl 47)),
 .g 46 false (some 49) (.move 49 (sl 4)),
 .g 46 false (some 50) (.idx 50 1 (sl 48) (sl 49)),
 .g 46 false (some 51) (.load1 51 (sl 50)),
 .g 46 false (some 52) (.call (some 52) (cf 176) [(sl 51), (ci 0), (ci 9)]),
 .g 46 false (some 53) (.un 53 .not (sl 52)),
 .o (.pick 54 (sl 46) (cb true) (sl 53)),
 .o (.move 55 (sl 54)),
 .g 55 false (some 56) (.fld 56 2 (sl 1)),
 .g 55 false (some 57) (.load1 57 (sl 56)),
 .g 55 false (some 58) (.move 58 (sl 4)),
 .g 55 false (some 59) (.idx 59 1 (sl 57) (sl 58)),
 .g 55 false (some 60) (.load1 60 (sl 59)),
 .g 55 false (some 61) (.call (some 61) (cf 176) [(sl 60), (ci (-1)), (ci 1)]),
 .g 55 false (some 62) (.un 62 .not (sl 61)),
 .o (.pick 63 (sl 55) (cb true) (sl 62))])
 ((.cond (sl 63) (.seq (.reg [.o (.move 2 (cb false))])
 (.ret))
 .skip))))))
 ((.reg [.o (.bin 64 .add (sl 25) (ci 1)),
 .o (.move 25 (sl 64))])))))))))))
 ((.seq (.reg [.o (.loadN 65 3 (sl 1)),
 .o (.call (some 66) (cf 177) [(sl 65)]),
 .o (.bin 67 .gtr (sl 66) (ci 0)),
 .o (.move 2 (sl 67))])
 (.ret))))))))))
theorem fun_impl_IsGame {rin : List T} {args : List A} {Q : List T → T → Prop} (ha : args.length ≤ 68) (h : cW Try.prog 68 c_impl_IsGame (retP Try.prog [.tmp 2] rin.length Q) (St.of (enum 0 args) (enum 1000000000 rin))) :
    Fun Try.prog 115 rin args Q :=
  Fun.of (H := ⟨[], []⟩) Try.func115 rfl rfl rfl (by kernel_rfl) ha (by decide) h

def c_spec_l01From : CC :=
 (.seq (.reg [.o (.move 2 (cv (.pointer none)))])
 ((.seq (.reg [.o (.move 5 (sl 0)),
 .o (.build 6 [.v (.slice none 0 0), .v (.int .i64 0), .v (.int .i64 0)] [(0, 1), (1, 1), (2, 1)] [(0, (sl 5)), (2, (ci 45007))]),
 .o (.box 7 (sl 6)),
 .o (.move 3 (sl 7))])
 ((.seq (.seq (.reg [.o (.move 4 (ci 0))])
 ((.block 0 (.loop (.seq (.seq (.reg [.o (.move 8 (sl 4)),
 .o (.move 9 (sl 0)),
 .o (.lenS 10 (sl 9)),
 .o (.bin 11 .lss (sl 8) (sl 10)),
 .o (.move 12 (sl 11)),
 .g 12 true (some 13) (.move 13 (sl 4)),
 .g 12 true (some 14) (.bin 14 .lss (sl 13) (ci 64)),
 .o (.pick 15 (sl 12) (sl 14) (cb false))])
 ((.cond (sl 15) .skip
 (.exit 0))))
 ((.seq (.block 1 (.draw [] [(kR, .o (.move 18 (sl 3))),
 (kR, .o (.move 19 (sl 3))),
 (kR, .o (.nilc 20 (sl 19))),
 (kR, .o (.fld 21 2 (sl 20))),
 (kR, .o (.load1 22 (sl 21))),
 (kR, .o (.bin 23 .mul (sl 22) (ci 61))),
 (kR, .o (.move 24 (sl 0))),
 (kR, .o (.move 25 (sl 4))),
 (kR, .o (.idx 26 1 (sl 24) (sl 25))),
 (kR, .o (.load1 27 (sl 26))),
 (kR, .o (.conv 28 .i64 (sl 27))),
 (kR, .o (.bin 29 .add (sl 23) (sl 28))),
 (kR, .o (.bin 30 .rem (sl 29) (ci 2147483647))),
 (kR, .o (.nilc 31 (sl 18))),
 (kR, .o (.fld 32 2 (sl 31))),
 (kH, .o (.store 1 (sl 32) (sl 30)))]))
 ((.reg [.o (.move 16 (sl 4)),
 .o (.bin 17 .add (sl 16) (ci 1)),
 .o (.move 4 (sl 17))])))))))))
 ((.seq (.reg [.o (.move 33 (sl 3)),
 .o (.move 2 (sl 33))])
 (.ret))))))))
theorem fun_spec_l01From {rin : List T} {args : List A} {Q : List T → T → Prop} (ha : args.length ≤ 34) (h : cW Try.prog 34 c_spec_l01From (retP Try.prog [.tmp 2] rin.length Q) (St.of (enum 0 args) (enum 1000000000 rin))) :
    Fun Try.prog 119 rin args Q :=
  Fun.of (H := ⟨[], []⟩) Try.func119 rfl rfl rfl (by kernel_rfl) ha (by decide) h

def c_impl_gameNumber : CC :=
 (.seq (.reg [.o (.box 3 (sl 0)),
 .o (.box 4 (sl 1)),
 .o (.box 5 (sl 2)),
 .o (.move 6 (ci 0))])
 ((.seq (.reg [.o (.loadN 14 3 (sl 3)),
 .o (.loadN 15 2 (sl 4)),
 .o (.loadN 16 2 (sl 5)),
 .o (.call (some 17) (cf 179) [(sl 14), (sl 15), (sl 16)]),
 .o (.move 7 (sl 17))])
 ((.seq (.reg [.o (.fld 18 0 (sl 3)),
 .o (.loadN 19 1 (sl 18)),
 .o (.call (some 20) (cf 164) [(sl 19), (ci 0)]),
 .o (.move 8 (sl 20))])
 ((.seq (.reg [.o (.move 9 (ci 0))])
 ((.seq (.seq (.reg [.o (.fld 21 1 (sl 3)),
 .o (.load1 22 (sl 21)),
 .o (.lenS 23 (sl 22)),
 .o (.move 24 (ci 0))])
 ((.block 0 (.loop (.seq (.reg [.o (.bin 25 .lss (sl 24) (sl 23))])
 ((.seq (.cond (sl 25) .skip
 (.exit 0))
 ((.seq (.block 1 (.seq (.reg [.o (.move 26 (sl 24)),
 .o (.idx 27 1 (sl 22) (sl 24)),
 .o (.load1 28 (sl 27)),
 .o (.move 10 (sl 26)),
 .o (.move 11 (sl 28))])
 ((.seq (.reg [.o (.move 29 (sl 11)),
 .o (.lenS 30 (sl 29)),
 .o (.move 31 (ci 0))])
 ((.block 2 (.loop (.seq (.reg [.o (.bin 32 .lss (sl 31) (sl 30))])
 ((.seq (.cond (sl 32) .skip
 (.exit 2))
 ((.seq (.block 3 (.seq (.reg [.o (.move 33 (sl 31)),
 .o (.idx 34 1 (sl 29) (sl 31)),
 .o (.load1 35 (sl 34)),
 .o (.move 12 (sl 33)),
 .o (.move 13 (sl 35))])
 ((.seq (.reg [.o (.move 36 (sl 13)),
 .o (.bin 37 .gtr (sl 36) (ci 0))])
 ((.cond (sl 37) (.reg [.o (.move 38 (sl 9)),
 .o (.move 39 (sl 13)),
 .o (.move 40 (sl 7)),
 .o (.move 41 (sl 10)),
 .o (.move 42 (sl 12)),
 .o (.move 43 (sl 8)),
 .o (.call (some 44) (cf 180) [(sl 40), (ci 0), (sl 41), (sl 42), (sl 43)]),
 .o (.bin 45 .mul (sl 39) (sl 44)),
 .o (.bin 46 .add (sl 38) (sl 45)),
 .o (.move 9 (sl 46))])
 .skip))))))
 ((.reg [.o (.bin 47 .add (sl 31) (ci 1)),
 .o (.move 31 (sl 47))]))))))))))))))
 ((.reg [.o (.bin 48 .add (sl 24) (ci 1)),
 .o (.move 24 (sl 48))])))))))))))
 ((.seq (.reg [.o (.move 49 (sl 9)),
 .o (.move 6 (sl 49))])
 (.ret))))))))))))
theorem fun_impl_gameNumber {rin : List T} {args : List A} {Q : List T → T → Prop} (ha : args.length ≤ 50) (h : cW Try.prog 50 c_impl_gameNumber (retP Try.prog [.tmp 6] rin.length Q) (St.of (enum 0 args) (enum 1000000000 rin))) :
    Fun Try.prog 121 rin args Q :=
  Fun.of (H := ⟨[], []⟩) Try.func121 rfl rfl rfl (by kernel_rfl) ha (by decide) h

def c_spec_l23Number : CC :=
 (.seq (.reg [.o (.box 3 (sl 0)),
 .o (.box 4 (sl 1)),
 .o (.box 5 (sl 2)),
 .o (.move 6 (ci 0))])
 ((.seq (.reg [.o (.fld 11 0 (sl 3)),
 .o (.loadN 12 1 (sl 11)),
 .o (.call (some 13) (cf 158) [(sl 12), (ci 0)]),
 .o (.move 7 (sl 13))])
 ((.seq (.reg [.o (.move 8 (ci 0))])
 ((.seq (.seq (.reg [.o (.move 9 (ci 0))])
 ((.block 0 (.loop (.seq (.seq (.reg [.o (.move 14 (sl 9)),
 .o (.fld 15 1 (sl 3)),
 .o (.load1 16 (sl 15)),
 .o (.lenS 17 (sl 16)),
 .o (.bin 18 .lss (sl 14) (sl 17))])
 ((.cond (sl 18) .skip
 (.exit 0))))
 ((.seq (.block 1 (.seq (.reg [.o (.move 10 (ci 0))])
 ((.block 2 (.loop (.seq (.seq (.reg [.o (.move 21 (sl 10)),
 .o (.fld 22 1 (sl 3)),
 .o (.load1 23 (sl 22)),
 .o (.lenS 24 (sl 23)),
 .o (.bin 25 .lss (sl 21) (sl 24))])
 ((.cond (sl 25) .skip
 (.exit 2))))
 ((.seq (.block 3 (.seq (.reg [.o (.fld 28 1 (sl 3)),
 .o (.load1 29 (sl 28)),
 .o (.move 30 (sl 9)),
 .o (.idx 31 1 (sl 29) (sl 30)),
 .o (.load1 32 (sl 31)),
 .o (.move 33 (sl 10)),
 .o (.idx 34 1 (sl 32) (sl 33)),
 .o (.load1 35 (sl 34)),
 .o (.bin 36 .gtr (sl 35) (ci 0))])
 ((.cond (sl 36) (.draw [] [(kR, .o (.move 37 (sl 8))),
 (kR, .o (.fld 38 1 (sl 3))),
 (kR, .o (.load1 39 (sl 38))),
 (kR, .o (.move 40 (sl 9))),
 (kR, .o (.idx 41 1 (sl 39) (sl 40))),
 (kR, .o (.load1 42 (sl 41))),
 (kR, .o (.move 43 (sl 10))),
 (kR, .o (.idx 44 1 (sl 42) (sl 43))),
 (kR, .o (.load1 45 (sl 44))),
 (kR, .o (.loadN 46 3 (sl 3))),
 (kR, .o (.loadN 47 2 (sl 4))),
 (kR, .o (.loadN 48 2 (sl 5))),
 (kR, .o (.move 49 (sl 9))),
 (kR, .o (.move 50 (sl 10))),
 (kR, .o (.move 51 (sl 7))),
 (kR, .o (.call (some 52) (cf 183) [(sl 46), (sl 47), (sl 48), (ci 0), (sl 49), (sl 50), (sl 51)])),
 (kR, .o (.bin 53 .mul (sl 45) (sl 52))),
 (kR, .o (.bin 54 .add (sl 37) (sl 53))),
 (kR, .o (.move 8 (sl 54)))])
 .skip))))
 ((.reg [.o (.move 26 (sl 10)),
 .o (.bin 27 .add (sl 26) (ci 1)),
 .o (.move 10 (sl 27))]))))))))))
 ((.reg [.o (.move 19 (sl 9)),
 .o (.bin 20 .add (sl 19) (ci 1)),
 .o (.move 9 (sl 20))])))))))))
 ((.seq (.reg [.o (.move 55 (sl 8)),
 .o (.move 6 (sl 55))])
 (.ret))))))))))
theorem fun_spec_l23Number {rin : List T} {args : List A} {Q : List T → T → Prop} (ha : args.length ≤ 56) (h : cW Try.prog 56 c_spec_l23Number (retP Try.prog [.tmp 6] rin.length Q) (St.of (enum 0 args) (enum 1000000000 rin))) :
    Fun Try.prog 125 rin args Q :=
  Fun.of (H := ⟨[], []⟩) Try.func125 rfl rfl rfl (by kernel_rfl) ha (by decide) h

def c_spec_l01Next : CC :=
 (.seq (.reg [.o (.move 4 (ci 0))])
 ((.seq (.seq (.reg [.o (.move 6 (sl 1)),
 .o (.bin 7 .leq (sl 6) (ci 1))])
 ((.cond (sl 7) (.seq (.reg [.o (.move 4 (ci 0))])
 (.ret))
 .skip)))
 ((.seq (.reg [.o (.move 8 (sl 0)),
 .o (.move 9 (sl 0)),
 .o (.nilc 10 (sl 9)),
 .o (.fld 11 2 (sl 10)),
 .o (.load1 12 (sl 11)),
 .o (.bin 13 .mul (sl 12) (ci 48271)),
 .o (.bin 14 .add (sl 13) (ci 29)),
 .o (.bin 15 .rem (sl 14) (ci 2147483647)),
 .o (.nilc 16 (sl 8)),
 .o (.fld 17 2 (sl 16)),
 .o (.store 1 (sl 17) (sl 15))])
 ((.seq (.reg [.o (.move 18 (sl 0)),
 .o (.nilc 19 (sl 18)),
 .o (.fld 20 2 (sl 19)),
 .o (.load1 21 (sl 20)),
 .o (.bin 22 .quo (sl 21) (ci 31)),
 .o (.move 5 (sl 22))])
 ((.seq (.seq (.draw [] [(kR, .o (.move 23 (sl 0))),
 (kR, .o (.nilc 24 (sl 23))),
 (kR, .o (.fld 25 1 (sl 24))),
 (kR, .o (.load1 26 (sl 25))),
 (kR, .o (.move 27 (sl 0))),
 (kR, .o (.nilc 28 (sl 27))),
 (kR, .o (.fld 29 0 (sl 28))),
 (kR, .o (.load1 30 (sl 29))),
 (kR, .o (.lenS 31 (sl 30))),
 (kR, .o (.bin 32 .lss (sl 26) (sl 31)))])
 ((.cond (sl 32) (.seq (.draw [] [(kR, .o (.move 33 (sl 5))),
 (kR, .o (.move 34 (sl 0))),
 (kR, .o (.nilc 35 (sl 34))),
 (kR, .o (.fld 36 0 (sl 35))),
 (kR, .o (.load1 37 (sl 36))),
 (kR, .o (.move 38 (sl 0))),
 (kR, .o (.nilc 39 (sl 38))),
 (kR, .o (.fld 40 1 (sl 39))),
 (kR, .o (.load1 41 (sl 40))),
 (kR, .o (.idx 42 1 (sl 37) (sl 41))),
 (kR, .o (.load1 43 (sl 42))),
 (kR, .o (.conv 44 .i64 (sl 43))),
 (kR, .o (.bin 45 .add (sl 33) (sl 44))),
 (kR, .o (.move 5 (sl 45)))])
 ((.seq (.reg [.o (.move 46 (sl 0)),
 .o (.nilc 47 (sl 46)),
 .o (.fld 48 1 (sl 47)),
 .o (.load1 49 (sl 48)),
 .o (.bin 50 .add (sl 49) (ci 1)),
 .o (.nilc 51 (sl 46)),
 .o (.fld 52 1 (sl 51)),
 .o (.store 1 (sl 52) (sl 50))])
 ((.seq (.reg [.o (.move 53 (sl 1)),
 .o (.bin 54 .leq (sl 53) (ci 256)),
 .o (.move 55 (sl 54)),
 .g 55 true (some 56) (.move 56 (sl 0)),
 .g 55 true (some 57) (.nilc 57 (sl 56)),
 .g 55 true (some 58) (.fld 58 1 (sl 57)),
 .g 55 true (some 59) (.load1 59 (sl 58)),
 .g 55 true (some 60) (.bin 60 .rem (sl 59) (ci 2)),
 .g 55 true (some 61) (.bin 61 .eql (sl 60) (ci 0)),
 .o (.pick 62 (sl 55) (sl 61) (cb false))])
 ((.cond (sl 62) (.draw [] [(kR, .o (.move 63 (sl 0))),
 (kR, .o (.nilc 64 (sl 63))),
 (kR, .o (.fld 65 0 (sl 64))),
 (kR, .o (.load1 66 (sl 65))),
 (kR, .o (.move 67 (sl 0))),
 (kR, .o (.nilc 68 (sl 67))),
 (kR, .o (.fld 69 1 (sl 68))),
 (kR, .o (.load1 70 (sl 69))),
 (kR, .o (.bin 71 .sub (sl 70) (ci 1))),
 (kR, .o (.idx 72 1 (sl 66) (sl 71))),
 (kR, .o (.load1 73 (sl 72))),
 (kR, .o (.conv 74 .i64 (sl 73))),
 (kR, .o (.move 5 (sl 74)))])
 .skip)))))))
 .skip)))
 ((.seq (.reg [.o (.move 75 (sl 5)),
 .o (.move 76 (sl 1)),
 .o (.bin 77 .rem (sl 75) (sl 76)),
 .o (.move 4 (sl 77))])
 (.ret))))))))))))
theorem fun_spec_l01Next {rin : List T} {args : List A} {Q : List T → T → Prop} (ha : args.length ≤ 78) (h : cW Try.prog 78 c_spec_l01Next (retP Try.prog [.tmp 4] rin.length Q) (St.of (enum 0 args) (enum 1000000000 rin))) :
    Fun Try.prog 126 rin args Q :=
  Fun.of (H := ⟨[], []⟩) Try.func126 rfl rfl rfl (by kernel_rfl) ha (by decide) h

def c_spec_KuhnGame : CC :=
 (.seq (.reg [.o (.alloc 0 [.v (.slice none 0 0), .v (.slice none 0 0), .v (.slice none 0 0)])])
 ((.seq (.reg [.o (.call (some 4) (cf 184) [(ci 1), (ci 1), (ci 0)]),
 .o (.move 3 (sl 4)),
 .o (.extract 5 (sl 3) 0),
 .o (.extract 6 (sl 3) 1),
 .o (.alloc 1 [.v (.slice none 0 0)]),
 .o (.store 1 (sl 1) (sl 5)),
 .o (.move 2 (sl 6))])
 ((.seq (.reg [.o (.loadN 7 1 (sl 1)),
 .o (.call (some 8) (cf 185) [(sl 7), (ci 3), (cb false)]),
 .o (.store 3 (sl 0) (sl 8))])
 (.ret))))))
theorem fun_spec_KuhnGame {rin : List T} {args : List A} {Q : List T → T → Prop} (ha : args.length ≤ 9) (h : cW Try.prog 9 c_spec_KuhnGame (retP Try.prog [.cell 0 35] rin.length Q) (St.of (enum 0 args) (enum 1000000000 rin))) :
    Fun Try.prog 127 rin args Q :=
  Fun.of (H := ⟨[], []⟩) Try.func127 rfl rfl rfl (by kernel_rfl) ha (by decide) h

def c_spec_IsGame : CC :=
 (.seq (.reg [.o (.box 1 (sl 0)),
 .o (.move 2 (cb false))])
 ((.seq (.reg [.o (.fld 4 1 (sl 1)),
 .o (.load1 5 (sl 4)),
 .o (.lenS 6 (sl 5)),
 .o (.move 3 (sl 6))])
 ((.seq (.reg [.o (.fld 7 0 (sl 1)),
 .o (.loadN 8 1 (sl 7)),
 .o (.call (some 9) (cf 194) [(sl 8)]),
 .o (.move 10 (sl 9)),
 .g 10 true (some 11) (.move 11 (sl 3)),
 .g 10 true (some 12) (.call (some 12) (cf 148) [(sl 11), (ci 1), (ci 6)]),
 .o (.pick 13 (sl 10) (sl 12) (cb false)),
 .o (.move 14 (sl 13)),
 .g 14 true (some 15) (.fld 15 1 (sl 1)),
 .g 14 true (some 16) (.load1 16 (sl 15)),
 .g 14 true (some 17) (.move 17 (sl 3)),
 .g 14 true (some 18) (.call (some 18) (cf 195) [(sl 16), (sl 17), (ci 0), (ci 9)]),
 .o (.pick 19 (sl 14) (sl 18) (cb false)),
 .o (.move 20 (sl 19)),
 .g 20 true (some 21) (.fld 21 2 (sl 1)),
 .g 20 true (some 22) (.load1 22 (sl 21)),
 .g 20 true (some 23) (.move 23 (sl 3)),
 .g 20 true (some 24) (.call (some 24) (cf 195) [(sl 22), (sl 23), (ci (-1)), (ci 1)]),
 .o (.pick 25 (sl 20) (sl 24) (cb false)),
 .o (.move 26 (sl 25)),
 .g 26 true (some 27) (.loadN 27 3 (sl 1)),
 .g 26 true (some 28) (.call (some 28) (cf 191) [(sl 27)]),
 .g 26 true (some 29) (.bin 29 .gtr (sl 28) (ci 0)),
 .o (.pick 30 (sl 26) (sl 29) (cb false)),
 .o (.move 2 (sl 30))])
 (.ret))))))
theorem fun_spec_IsGame {rin : List T} {args : List A} {Q : List T → T → Prop} (ha : args.length ≤ 31) (h : cW Try.prog 31 c_spec_IsGame (retP Try.prog [.tmp 2] rin.length Q) (St.of (enum 0 args) (enum 1000000000 rin))) :
    Fun Try.prog 139 rin args Q :=
  Fun.of (H := ⟨[], []⟩) Try.func139 rfl rfl rfl (by kernel_rfl) ha (by decide) h

def c_spec_l01Pick : CC :=
 (.seq (.reg [.o (.move 4 (ci 0))])
 ((.seq (.reg [.o (.move 5 (sl 1)),
 .o (.move 6 (sl 0)),
 .o (.move 7 (sl 1)),
 .o (.lenS 8 (sl 7)),
 .o (.call (some 9) (cf 126) [(sl 6), (sl 8)]),
 .o (.idx 10 1 (sl 5) (sl 9)),
 .o (.load1 11 (sl 10)),
 .o (.move 4 (sl 11))])
 (.ret))))
theorem fun_spec_l01Pick {rin : List T} {args : List A} {Q : List T → T → Prop} (ha : args.length ≤ 12) (h : cW Try.prog 12 c_spec_l01Pick (retP Try.prog [.tmp 4] rin.length Q) (St.of (enum 0 args) (enum 1000000000 rin))) :
    Fun Try.prog 147 rin args Q :=
  Fun.of (H := ⟨[], []⟩) Try.func147 rfl rfl rfl (by kernel_rfl) ha (by decide) h

def c_spec_l01In : CC :=
 (.seq (.reg [.o (.move 6 (cb false))])
 ((.seq (.reg [.o (.move 7 (sl 0)),
 .o (.move 8 (sl 1)),
 .o (.bin 9 .geq (sl 7) (sl 8)),
 .o (.move 10 (sl 9)),
 .g 10 true (some 11) (.move 11 (sl 0)),
 .g 10 true (some 12) (.move 12 (sl 2)),
 .g 10 true (some 13) (.bin 13 .leq (sl 11) (sl 12)),
 .o (.pick 14 (sl 10) (sl 13) (cb false)),
 .o (.move 6 (sl 14))])
 (.ret))))
theorem fun_spec_l01In {rin : List T} {args : List A} {Q : List T → T → Prop} (ha : args.length ≤ 15) (h : cW Try.prog 15 c_spec_l01In (retP Try.prog [.tmp 6] rin.length Q) (St.of (enum 0 args) (enum 1000000000 rin))) :
    Fun Try.prog 148 rin args Q :=
  Fun.of (H := ⟨[], []⟩) Try.func148 rfl rfl rfl (by kernel_rfl) ha (by decide) h

def c_impl_infoSets : CC :=
 (.seq (.reg [.o (.box 2 (sl 0)),
 .o (.move 4 (cv (.slice none 0 0)))])
 ((.seq (.reg [.o (.move 5 (cv (.slice none 0 0)))])
 ((.seq (.seq (.reg [.o (.fld 9 0 (sl 2)),
 .o (.loadN 10 1 (sl 9)),
 .o (.move 11 (sl 1)),
 .o (.call (some 12) (cf 181) [(sl 10), (sl 11)]),
 .o (.lenS 13 (sl 12)),
 .o (.move 14 (ci 0))])
 ((.block 0 (.loop (.seq (.reg [.o (.bin 15 .lss (sl 14) (sl 13))])
 ((.seq (.cond (sl 15) .skip
 (.exit 0))
 ((.seq (.block 1 (.seq (.reg [.o (.idx 16 1 (sl 12) (sl 14)),
 .o (.load1 17 (sl 16)),
 .o (.move 7 (sl 17))])
 ((.seq (.reg [.o (.fld 18 1 (sl 2)),
 .o (.load1 19 (sl 18)),
 .o (.lenS 20 (sl 19)),
 .o (.move 21 (ci 0))])
 ((.block 2 (.loop (.seq (.reg [.o (.bin 22 .lss (sl 21) (sl 20))])
 ((.seq (.cond (sl 22) .skip
 (.exit 2))
 ((.seq (.block 3 (.seq (.reg [.o (.move 23 (sl 21)),
 .o (.move 8 (sl 23))])
 ((.reg [.o (.move 24 (sl 5)),
 .o (.move 25 (sl 7)),
 .o (.move 26 (sl 8)),
 .o (.bslice 27 1 2 [(0, (sl 25)), (1, (sl 26))]),
 .o (.bslice 28 1 1 [(0, (sl 27))]),
 .o (.app 29 1 24 (sl 24) (sl 28)),
 .o (.move 5 (sl 29))]))))
 ((.reg [.o (.bin 30 .add (sl 21) (ci 1)),
 .o (.move 21 (sl 30))]))))))))))))))
 ((.reg [.o (.bin 31 .add (sl 14) (ci 1)),
 .o (.move 14 (sl 31))])))))))))))
 ((.seq (.reg [.o (.move 32 (sl 5)),
 .o (.move 4 (sl 32))])
 (.ret))))))))
theorem fun_impl_infoSets {rin : List T} {args : List A} {Q : List T → T → Prop} (ha : args.length ≤ 33) (h : cW Try.prog 33 c_impl_infoSets (retP Try.prog [.tmp 4] rin.length Q) (St.of (enum 0 args) (enum 1000000000 rin))) :
    Fun Try.prog 152 rin args Q :=
  Fun.of (H := ⟨[], []⟩) Try.func152 rfl rfl rfl (by kernel_rfl) ha (by decide) h

def c_spec_CountPure : CC :=
 (.seq (.reg [.o (.box 2 (sl 0)),
 .o (.move 4 (ci 0)),
 .o (.move 5 (ci 0))])
 ((.seq (.reg [.o (.loadN 10 3 (sl 2)),
 .o (.move 11 (sl 1)),
 .o (.call (some 12) (cf 202) [(sl 10), (sl 11)]),
 .o (.move 6 (sl 12))])
 ((.seq (.seq (.reg [.o (.move 13 (sl 6)),
 .o (.bin 14 .neq (sl 13) (ci 0))])
 ((.cond (sl 14) (.seq (.reg [.o (.move 15 (sl 6)),
 .o (.move 4 (ci 0)),
 .o (.move 5 (sl 15))])
 (.ret))
 .skip)))
 ((.seq (.reg [.o (.loadN 16 3 (sl 2)),
 .o (.move 17 (sl 1)),
 .o (.call (some 18) (cf 196) [(sl 16), (sl 17)]),
 .o (.move 7 (sl 18))])
 ((.seq (.reg [.o (.move 8 (ci 1))])
 ((.seq (.seq (.reg [.o (.move 9 (ci 0))])
 ((.block 0 (.loop (.seq (.seq (.reg [.o (.move 19 (sl 9)),
 .o (.move 20 (sl 7)),
 .o (.lenS 21 (sl 20)),
 .o (.bin 22 .lss (sl 19) (sl 21))])
 ((.cond (sl 22) .skip
 (.exit 0))))
 ((.seq (.block 1 (.seq (.reg [.o (.move 25 (sl 8)),
 .o (.move 26 (sl 7)),
 .o (.move 27 (sl 9)),
 .o (.idx 28 1 (sl 26) (sl 27)),
 .o (.load1 29 (sl 28)),
 .o (.bin 30 .mul (sl 25) (sl 29)),
 .o (.move 8 (sl 30))])
 ((.seq (.reg [.o (.move 31 (sl 8)),
 .o (.bin 32 .gtr (sl 31) (ci 1000000000))])
 ((.cond (sl 32) (.seq (.reg [.o (.move 4 (ci 0)),
 .o (.move 5 (ci 3))])
 (.ret))
 .skip))))))
 ((.reg [.o (.move 23 (sl 9)),
 .o (.bin 24 .add (sl 23) (ci 1)),
 .o (.move 9 (sl 24))])))))))))
 ((.seq (.reg [.o (.move 33 (sl 8)),
 .o (.move 4 (sl 33)),
 .o (.move 5 (ci 0))])
 (.ret))))))))))))))
theorem fun_spec_CountPure {rin : List T} {args : List A} {Q : List T → T → Prop} (ha : args.length ≤ 34) (h : cW Try.prog 34 c_spec_CountPure (retP Try.prog [.tmp 4, .tmp 5] rin.length Q) (St.of (enum 0 args) (enum 1000000000 rin))) :
    Fun Try.prog 156 rin args Q :=
  Fun.of (H := ⟨[], []⟩) Try.func156 rfl rfl rfl (by kernel_rfl) ha (by decide) h

def c_spec_l23Power : CC :=
 (.seq (.reg [.o (.move 2 (ci 0))])
 ((.seq (.reg [.o (.move 3 (ci 1))])
 ((.seq (.block 0 (.loop (.seq (.seq (.reg [.o (.move 4 (sl 0)),
 .o (.bin 5 .gtr (sl 4) (ci 0))])
 ((.cond (sl 5) .skip
 (.exit 0))))
 ((.seq (.block 1 (.reg [.o (.move 8 (sl 3)),
 .o (.bin 9 .mul (sl 8) (ci 60)),
 .o (.move 3 (sl 9))]))
 ((.reg [.o (.move 6 (sl 0)),
 .o (.bin 7 .sub (sl 6) (ci 1)),
 .o (.move 0 (sl 7))])))))))
 ((.seq (.reg [.o (.move 10 (sl 3)),
 .o (.move 2 (sl 10))])
 (.ret))))))))
theorem fun_spec_l23Power {rin : List T} {args : List A} {Q : List T → T → Prop} (ha : args.length ≤ 11) (h : cW Try.prog 11 c_spec_l23Power (retP Try.prog [.tmp 2] rin.length Q) (St.of (enum 0 args) (enum 1000000000 rin))) :
    Fun Try.prog 157 rin args Q :=
  Fun.of (H := ⟨[], []⟩) Try.func157 rfl rfl rfl (by kernel_rfl) ha (by decide) h

def c_spec_l20Depth : CC :=
 (.seq (.reg [.o (.box 2 (sl 0)),
 .o (.move 4 (ci 0))])
 ((.seq (.reg [.o (.fld 8 0 (sl 2)),
 .o (.load1 9 (sl 8)),
 .o (.move 10 (sl 1)),
 .o (.idx 11 5 (sl 9) (sl 10)),
 .o (.loadN 12 5 (sl 11)),
 .o (.alloc 5 [.v (.int .i64 0), .v (.int .i64 0), .v (.int .i64 0), .v (.int .i64 0), .v (.slice none 0 0)]),
 .o (.store 5 (sl 5) (sl 12))])
 ((.seq (.seq (.reg [.o (.fld 13 0 (sl 5)),
 .o (.load1 14 (sl 13)),
 .o (.bin 15 .eql (sl 14) (ci 2))])
 ((.cond (sl 15) (.seq (.reg [.o (.move 4 (ci 0))])
 (.ret))
 .skip)))
 ((.seq (.reg [.o (.move 6 (ci 0))])
 ((.seq (.seq (.reg [.o (.move 7 (ci 0))])
 ((.block 0 (.loop (.seq (.seq (.reg [.o (.move 16 (sl 7)),
 .o (.fld 17 4 (sl 5)),
 .o (.load1 18 (sl 17)),
 .o (.lenS 19 (sl 18)),
 .o (.bin 20 .lss (sl 16) (sl 19))])
 ((.cond (sl 20) .skip
 (.exit 0))))
 ((.seq (.block 1 (.draw [] [(kR, .o (.move 23 (sl 6))),
 (kR, .o (.loadN 24 1 (sl 2))),
 (kR, .o (.fld 25 4 (sl 5))),
 (kR, .o (.load1 26 (sl 25))),
 (kR, .o (.move 27 (sl 7))),
 (kR, .o (.idx 28 1 (sl 26) (sl 27))),
 (kR, .o (.load1 29 (sl 28))),
 (kR, .o (.call (some 30) (cf 158) [(sl 24), (sl 29)])),
 (kR, .o (.mm 31 true (sl 23) (sl 30))),
 (kR, .o (.move 6 (sl 31)))]))
 ((.reg [.o (.move 21 (sl 7)),
 .o (.bin 22 .add (sl 21) (ci 1)),
 .o (.move 7 (sl 22))])))))))))
 ((.seq (.reg [.o (.move 32 (sl 6)),
 .o (.bin 33 .add (sl 32) (ci 1)),
 .o (.move 4 (sl 33))])
 (.ret))))))))))))
theorem fun_spec_l20Depth {rin : List T} {args : List A} {Q : List T → T → Prop} (ha : args.length ≤ 34) (h : cW Try.prog 34 c_spec_l20Depth (retP Try.prog [.tmp 4] rin.length Q) (St.of (enum 0 args) (enum 1000000000 rin))) :
    Fun Try.prog 158 rin args Q :=
  Fun.of (H := ⟨[], []⟩) Try.func158 rfl rfl rfl (by kernel_rfl) ha (by decide) h

def c_spec_PureStrategy : CC :=
 (.seq (.reg [.o (.box 3 (sl 0)),
 .o (.alloc 6 [.v (.int .i64 0), .v (.slice none 0 0)]),
 .o (.move 7 (ci 0))])
 ((.seq (.reg [.o (.loadN 14 3 (sl 3)),
 .o (.move 15 (sl 1)),
 .o (.call (some 16) (cf 156) [(sl 14), (sl 15)]),
 .o (.move 13 (sl 16)),
 .o (.extract 17 (sl 13) 0),
 .o (.extract 18 (sl 13) 1),
 .o (.move 8 (sl 17)),
 .o (.move 9 (sl 18))])
 ((.seq (.seq (.reg [.o (.move 19 (sl 9)),
 .o (.bin 20 .eql (sl 19) (ci 0)),
 .o (.move 21 (sl 20)),
 .g 21 true (some 22) (.move 22 (sl 2)),
 .g 21 true (some 23) (.move 23 (sl 8)),
 .g 21 true (some 24) (.bin 24 .sub (sl 23) (ci 1)),
 .g 21 true (some 25) (.call (some 25) (cf 148) [(sl 22), (ci 0), (sl 24)]),
 .g 21 true (some 26) (.un 26 .not (sl 25)),
 .o (.pick 27 (sl 21) (sl 26) (cb false))])
 ((.cond (sl 27) (.reg [.o (.move 9 (ci 2))])
 .skip)))
 ((.seq (.seq (.reg [.o (.move 28 (sl 9)),
 .o (.bin 29 .neq (sl 28) (ci 0))])
 ((.cond (sl 29) (.seq (.reg [.o (.build 30 [.v (.int .i64 0), .v (.slice none 0 0)] [(0, 1), (1, 1)] []),
 .o (.move 31 (sl 9)),
 .o (.store 2 (sl 6) (sl 30)),
 .o (.move 7 (sl 31))])
 (.ret))
 .skip)))
 ((.seq (.reg [.o (.loadN 32 3 (sl 3)),
 .o (.move 33 (sl 1)),
 .o (.call (some 34) (cf 196) [(sl 32), (sl 33)]),
 .o (.move 10 (sl 34))])
 ((.seq (.reg [.o (.move 35 (sl 10)),
 .o (.lenS 36 (sl 35)),
 .o (.make 37 [.v (.int .i64 0)] 8 (sl 36) (sl 36)),
 .o (.move 11 (sl 37))])
 ((.seq (.seq (.reg [.o (.move 38 (sl 10)),
 .o (.lenS 39 (sl 38)),
 .o (.bin 40 .sub (sl 39) (ci 1)),
 .o (.move 12 (sl 40))])
 ((.block 0 (.loop (.seq (.seq (.reg [.o (.move 41 (sl 12)),
 .o (.bin 42 .geq (sl 41) (ci 0))])
 ((.cond (sl 42) .skip
 (.exit 0))))
 ((.seq (.block 1 (.seq (.reg [.o (.move 45 (sl 11)),
 .o (.move 46 (sl 12)),
 .o (.move 47 (sl 2)),
 .o (.move 48 (sl 10)),
 .o (.move 49 (sl 12)),
 .o (.idx 50 1 (sl 48) (sl 49)),
 .o (.load1 51 (sl 50)),
 .o (.bin 52 .rem (sl 47) (sl 51)),
 .o (.idx 53 1 (sl 45) (sl 46)),
 .o (.store 1 (sl 53) (sl 52))])
 ((.reg [.o (.move 54 (sl 2)),
 .o (.move 55 (sl 10)),
 .o (.move 56 (sl 12)),
 .o (.idx 57 1 (sl 55) (sl 56)),
 .o (.load1 58 (sl 57)),
 .o (.bin 59 .quo (sl 54) (sl 58)),
 .o (.move 2 (sl 59))]))))
 ((.reg [.o (.move 43 (sl 12)),
 .o (.bin 44 .sub (sl 43) (ci 1)),
 .o (.move 12 (sl 44))])))))))))
 ((.seq (.reg [.o (.move 60 (sl 1)),
 .o (.move 61 (sl 10)),
 .o (.move 62 (sl 11)),
 .o (.call (some 63) (cf 203) [(sl 60), (sl 61), (sl 62)]),
 .o (.store 2 (sl 6) (sl 63)),
 .o (.move 7 (ci 0))])
 (.ret))))))))))))))))
theorem fun_spec_PureStrategy {rin : List T} {args : List A} {Q : List T → T → Prop} (ha : args.length ≤ 64) (h : cW Try.prog 64 c_spec_PureStrategy (retP Try.prog [.cell 6 47, .tmp 7] rin.length Q) (St.of (enum 0 args) (enum 1000000000 rin))) :
    Fun Try.prog 159 rin args Q :=
  Fun.of (H := ⟨[], []⟩) Try.func159 rfl rfl rfl (by kernel_rfl) ha (by decide) h

def c_impl_pureStrategies : CC :=
 (.seq (.reg [.o (.box 2 (sl 0)),
 .o (.move 4 (cv (.slice none 0 0))),
 .o (.move 5 (ci 0))])
 ((.seq (.reg [.o (.loadN 13 3 (sl 2)),
 .o (.move 14 (sl 1)),
 .o (.call (some 15) (cf 205) [(sl 13), (sl 14)]),
 .o (.move 12 (sl 15)),
 .o (.extract 16 (sl 12) 0),
 .o (.extract 17 (sl 12) 1),
 .o (.move 6 (sl 16)),
 .o (.move 7 (sl 17))])
 ((.seq (.seq (.reg [.o (.move 18 (sl 7)),
 .o (.bin 19 .eql (sl 18) (ci 0)),
 .o (.move 20 (sl 19)),
 .g 20 true (some 21) (.move 21 (sl 6)),
 .g 20 true (some 22) (.bin 22 .gtr (sl 21) (ci 16)),
 .o (.pick 23 (sl 20) (sl 22) (cb false))])
 ((.cond (sl 23) (.reg [.o (.move 7 (ci 3))])
 .skip)))
 ((.seq (.seq (.reg [.o (.move 24 (sl 7)),
 .o (.bin 25 .neq (sl 24) (ci 0))])
 ((.cond (sl 25) (.seq (.reg [.o (.move 26 (sl 7)),
 .o (.move 4 (cv (.slice none 0 0))),
 .o (.move 5 (sl 26))])
 (.ret))
 .skip)))
 ((.seq (.reg [.o (.move 8 (cv (.slice none 0 0)))])
 ((.seq (.seq (.reg [.o (.move 27 (sl 6)),
 .o (.move 28 (ci 0))])
 ((.block 0 (.loop (.seq (.reg [.o (.bin 29 .lss (sl 28) (sl 27))])
 ((.seq (.cond (sl 29) .skip
 (.exit 0))
 ((.seq (.block 1 (.seq (.reg [.o (.move 30 (sl 28)),
 .o (.move 9 (sl 30))])
 ((.seq (.reg [.o (.loadN 32 3 (sl 2)),
 .o (.move 33 (sl 1)),
 .o (.move 34 (sl 9)),
 .o (.call (some 35) (cf 206) [(sl 32), (sl 33), (sl 34)]),
 .o (.move 31 (sl 35)),
 .o (.extract 36 (sl 31) 0),
 .o (.extract 37 (sl 31) 1),
 .o (.alloc 10 [.v (.int .i64 0), .v (.slice none 0 0)]),
 .o (.store 2 (sl 10) (sl 36)),
 .o (.move 11 (sl 37))])
 ((.reg [.o (.move 38 (sl 8)),
 .o (.loadN 39 2 (sl 10)),
 .o (.bslice 40 2 1 [(0, (sl 39))]),
 .o (.app 41 2 32 (sl 38) (sl 40)),
 .o (.move 8 (sl 41))]))))))
 ((.reg [.o (.bin 42 .add (sl 28) (ci 1)),
 .o (.move 28 (sl 42))])))))))))))
 ((.seq (.reg [.o (.move 43 (sl 8)),
 .o (.move 4 (sl 43)),
 .o (.move 5 (ci 0))])
 (.ret))))))))))))))
theorem fun_impl_pureStrategies {rin : List T} {args : List A} {Q : List T → T → Prop} (ha : args.length ≤ 44) (h : cW Try.prog 44 c_impl_pureStrategies (retP Try.prog [.tmp 4, .tmp 5] rin.length Q) (St.of (enum 0 args) (enum 1000000000 rin))) :
    Fun Try.prog 162 rin args Q :=
  Fun.of (H := ⟨[], []⟩) Try.func162 rfl rfl rfl (by kernel_rfl) ha (by decide) h

def c_impl_powerOf : CC :=
 (.seq (.reg [.o (.move 4 (ci 0))])
 ((.seq (.reg [.o (.move 5 (ci 1))])
 ((.seq (.seq (.reg [.o (.move 6 (sl 1)),
 .o (.move 7 (ci 0))])
 ((.block 0 (.loop (.seq (.reg [.o (.bin 8 .lss (sl 7) (sl 6))])
 ((.seq (.cond (sl 8) .skip
 (.exit 0))
 ((.seq (.block 1 (.reg [.o (.move 9 (sl 5)),
 .o (.move 10 (sl 0)),
 .o (.bin 11 .mul (sl 9) (sl 10)),
 .o (.move 5 (sl 11))]))
 ((.reg [.o (.bin 12 .add (sl 7) (ci 1)),
 .o (.move 7 (sl 12))])))))))))))
 ((.seq (.reg [.o (.move 13 (sl 5)),
 .o (.move 4 (sl 13))])
 (.ret))))))))
theorem fun_impl_powerOf {rin : List T} {args : List A} {Q : List T → T → Prop} (ha : args.length ≤ 14) (h : cW Try.prog 14 c_impl_powerOf (retP Try.prog [.tmp 4] rin.length Q) (St.of (enum 0 args) (enum 1000000000 rin))) :
    Fun Try.prog 163 rin args Q :=
  Fun.of (H := ⟨[], []⟩) Try.func163 rfl rfl rfl (by kernel_rfl) ha (by decide) h

def c_impl_depthFrom : CC :=
 (.seq (.reg [.o (.box 2 (sl 0)),
 .o (.move 4 (ci 0))])
 ((.seq (.reg [.o (.fld 9 0 (sl 2)),
 .o (.load1 10 (sl 9)),
 .o (.move 11 (sl 1)),
 .o (.idx 12 5 (sl 10) (sl 11)),
 .o (.loadN 13 5 (sl 12)),
 .o (.alloc 5 [.v (.int .i64 0), .v (.int .i64 0), .v (.int .i64 0), .v (.int .i64 0), .v (.slice none 0 0)]),
 .o (.store 5 (sl 5) (sl 13))])
 ((.seq (.seq (.reg [.o (.fld 14 0 (sl 5)),
 .o (.load1 15 (sl 14)),
 .o (.bin 16 .eql (sl 15) (ci 2))])
 ((.cond (sl 16) (.seq (.reg [.o (.move 4 (ci 0))])
 (.ret))
 .skip)))
 ((.seq (.reg [.o (.move 6 (ci 0))])
 ((.seq (.seq (.reg [.o (.fld 17 4 (sl 5)),
 .o (.load1 18 (sl 17)),
 .o (.lenS 19 (sl 18)),
 .o (.move 20 (ci 0))])
 ((.block 0 (.loop (.seq (.reg [.o (.bin 21 .lss (sl 20) (sl 19))])
 ((.seq (.cond (sl 21) .skip
 (.exit 0))
 ((.seq (.block 1 (.seq (.reg [.o (.idx 22 1 (sl 18) (sl 20)),
 .o (.load1 23 (sl 22)),
 .o (.move 8 (sl 23))])
 ((.reg [.o (.move 24 (sl 6)),
 .o (.loadN 25 1 (sl 2)),
 .o (.move 26 (sl 8)),
 .o (.call (some 27) (cf 164) [(sl 25), (sl 26)]),
 .o (.mm 28 true (sl 24) (sl 27)),
 .o (.move 6 (sl 28))]))))
 ((.reg [.o (.bin 29 .add (sl 20) (ci 1)),
 .o (.move 20 (sl 29))])))))))))))
 ((.seq (.reg [.o (.move 30 (sl 6)),
 .o (.bin 31 .add (sl 30) (ci 1)),
 .o (.move 4 (sl 31))])
 (.ret))))))))))))
theorem fun_impl_depthFrom {rin : List T} {args : List A} {Q : List T → T → Prop} (ha : args.length ≤ 32) (h : cW Try.prog 32 c_impl_depthFrom (retP Try.prog [.tmp 4] rin.length Q) (St.of (enum 0 args) (enum 1000000000 rin))) :
    Fun Try.prog 164 rin args Q :=
  Fun.of (H := ⟨[], []⟩) Try.func164 rfl rfl rfl (by kernel_rfl) ha (by decide) h

def c_spec_l01Own : CC :=
 (.seq (.reg [.o (.move 2 (cv (.slice none 0 0)))])
 ((.seq (.reg [.o (.bslice 3 1 0 []),
 .o (.move 4 (sl 0)),
 .o (.app 5 1 8 (sl 3) (sl 4)),
 .o (.move 2 (sl 5))])
 (.ret))))
theorem fun_spec_l01Own {rin : List T} {args : List A} {Q : List T → T → Prop} (ha : args.length ≤ 6) (h : cW Try.prog 6 c_spec_l01Own (retP Try.prog [.tmp 2] rin.length Q) (St.of (enum 0 args) (enum 1000000000 rin))) :
    Fun Try.prog 167 rin args Q :=
  Fun.of (H := ⟨[], []⟩) Try.func167 rfl rfl rfl (by kernel_rfl) ha (by decide) h

def c_impl_IsTree : CC :=
 (.seq (.reg [.o (.box 1 (sl 0)),
 .o (.move 2 (cb false))])
 ((.seq (.reg [.o (.fld 11 0 (sl 1)),
 .o (.load1 12 (sl 11)),
 .o (.lenS 13 (sl 12)),
 .o (.move 3 (sl 13))])
 ((.seq (.seq (.reg [.o (.move 14 (sl 3)),
 .o (.call (some 15) (cf 110) [(sl 14), (ci 1), (ci 60)]),
 .o (.un 16 .not (sl 15))])
 ((.cond (sl 16) (.seq (.reg [.o (.move 2 (cb false))])
 (.ret))
 .skip)))
 ((.seq (.reg [.o (.move 17 (sl 3)),
 .o (.make 18 [.v (.int .i64 0)] 8 (sl 17) (sl 17)),
 .o (.move 4 (sl 18))])
 ((.seq (.seq (.reg [.o (.fld 19 0 (sl 1)),
 .o (.load1 20 (sl 19)),
 .o (.lenS 21 (sl 20)),
 .o (.move 22 (ci 0))])
 ((.block 0 (.loop (.seq (.reg [.o (.bin 23 .lss (sl 22) (sl 21))])
 ((.seq (.cond (sl 23) .skip
 (.exit 0))
 ((.seq (.block 1 (.seq (.reg [.o (.move 24 (sl 22)),
 .o (.idx 25 5 (sl 20) (sl 22)),
 .o (.loadN 26 5 (sl 25)),
 .o (.alloc 6 [.v (.int .i64 0), .v (.int .i64 0), .v (.int .i64 0), .v (.int .i64 0), .v (.slice none 0 0)]),
 .o (.move 5 (sl 24)),
 .o (.store 5 (sl 6) (sl 26))])
 ((.seq (.seq (.reg [.o (.fld 27 0 (sl 6)),
 .o (.load1 28 (sl 27)),
 .o (.call (some 29) (cf 110) [(sl 28), (ci 0), (ci 2)]),
 .o (.un 30 .not (sl 29)),
 .o (.move 31 (sl 30)),
 .g 31 false (some 32) (.fld 32 1 (sl 6)),
 .g 31 false (some 33) (.load1 33 (sl 32)),
 .g 31 false (some 34) (.call (some 34) (cf 110) [(sl 33), (ci 0), (ci 100)]),
 .g 31 false (some 35) (.un 35 .not (sl 34)),
 .o (.pick 36 (sl 31) (cb true) (sl 35)),
 .o (.move 37 (sl 36)),
 .g 37 false (some 38) (.fld 38 2 (sl 6)),
 .g 37 false (some 39) (.load1 39 (sl 38)),
 .g 37 false (some 40) (.call (some 40) (cf 110) [(sl 39), (ci 0), (ci 100)]),
 .g 37 false (some 41) (.un 41 .not (sl 40)),
 .o (.pick 42 (sl 37) (cb true) (sl 41))])
 ((.cond (sl 42) (.seq (.reg [.o (.move 2 (cb false))])
 (.ret))
 .skip)))
 ((.seq (.seq (.reg [.o (.fld 43 0 (sl 6)),
 .o (.load1 44 (sl 43)),
 .o (.bin 45 .eql (sl 44) (ci 2))])
 ((.cond (sl 45) (.seq (.seq (.reg [.o (.fld 46 4 (sl 6)),
 .o (.load1 47 (sl 46)),
 .o (.lenS 48 (sl 47)),
 .o (.bin 49 .gtr (sl 48) (ci 0)),
 .o (.move 50 (sl 49)),
 .g 50 false (some 51) (.fld 51 3 (sl 6)),
 .g 50 false (some 52) (.load1 52 (sl 51)),
 .g 50 false (some 53) (.call (some 53) (cf 110) [(sl 52), (ci (-1)), (ci 1)]),
 .g 50 false (some 54) (.un 54 .not (sl 53)),
 .o (.pick 55 (sl 50) (cb true) (sl 54)),
 .o (.move 56 (sl 55)),
 .g 56 false (some 57) (.fld 57 3 (sl 6)),
 .g 56 false (some 58) (.load1 58 (sl 57)),
 .g 56 false (some 59) (.bin 59 .eql (sl 58) (ci (-1))),
 .g 56 false (some 60) (.move 60 (sl 59)),
 .g 60 true (some 61) (.fld 61 1 (sl 6)),
 .g 60 true (some 62) (.load1 62 (sl 61)),
 .g 60 true (some 63) (.fld 63 2 (sl 6)),
 .g 60 true (some 64) (.load1 64 (sl 63)),
 .g 60 true (some 65) (.bin 65 .neq (sl 62) (sl 64)),
 .g 56 false (some 66) (.pick 66 (sl 60) (sl 65) (cb false)),
 .o (.pick 67 (sl 56) (cb true) (sl 66))])
 ((.cond (sl 67) (.seq (.reg [.o (.move 2 (cb false))])
 (.ret))
 .skip)))
 ((.exit 1)))
 .skip)))
 ((.seq (.seq (.reg [.o (.fld 68 3 (sl 6)),
 .o (.load1 69 (sl 68)),
 .o (.bin 70 .neq (sl 69) (ci (-1))),
 .o (.move 71 (sl 70)),
 .g 71 false (some 72) (.fld 72 4 (sl 6)),
 .g 71 false (some 73) (.load1 73 (sl 72)),
 .g 71 false (some 74) (.lenS 74 (sl 73)),
 .g 71 false (some 75) (.call (some 75) (cf 110) [(sl 74), (ci 1), (ci 4)]),
 .g 71 false (some 76) (.un 76 .not (sl 75)),
 .o (.pick 77 (sl 71) (cb true) (sl 76)),
 .o (.move 78 (sl 77)),
 .g 78 false (some 79) (.fld 79 4 (sl 6)),
 .g 78 false (some 80) (.load1 80 (sl 79)),
 .g 78 false (some 81) (.move 81 (sl 5)),
 .g 78 false (some 82) (.bin 82 .add (sl 81) (ci 1)),
 .g 78 false (some 83) (.move 83 (sl 3)),
 .g 78 false (some 84) (.bin 84 .sub (sl 83) (ci 1)),
 .g 78 false (some 85) (.call (some 85) (cf 176) [(sl 80), (sl 82), (sl 84)]),
 .g 78 false (some 86) (.un 86 .not (sl 85)),
 .o (.pick 87 (sl 78) (cb true) (sl 86)),
 .o (.move 88 (sl 87)),
 .g 88 false (some 89) (.fld 89 4 (sl 6)),
 .g 88 false (some 90) (.load1 90 (sl 89)),
 .g 88 false (some 91) (.call (some 91) (cf 212) [(sl 90)]),
 .g 88 false (some 92) (.un 92 .not (sl 91)),
 .o (.pick 93 (sl 88) (cb true) (sl 92))])
 ((.cond (sl 93) (.seq (.reg [.o (.move 2 (cb false))])
 (.ret))
 .skip)))
 ((.seq (.reg [.o (.fld 94 4 (sl 6)),
 .o (.load1 95 (sl 94)),
 .o (.lenS 96 (sl 95)),
 .o (.move 97 (ci 0))])
 ((.block 2 (.loop (.seq (.reg [.o (.bin 98 .lss (sl 97) (sl 96))])
 ((.seq (.cond (sl 98) .skip
 (.exit 2))
 ((.seq (.block 3 (.seq (.reg [.o (.idx 99 1 (sl 95) (sl 97)),
 .o (.load1 100 (sl 99)),
 .o (.move 8 (sl 100))])
 ((.reg [.o (.move 101 (sl 4)),
 .o (.move 102 (sl 8)),
 .o (.idx 103 1 (sl 101) (sl 102)),
 .o (.load1 104 (sl 103)),
 .o (.bin 105 .add (sl 104) (ci 1)),
 .o (.idx 106 1 (sl 101) (sl 102)),
 .o (.store 1 (sl 106) (sl 105))]))))
 ((.reg [.o (.bin 107 .add (sl 97) (ci 1)),
 .o (.move 97 (sl 107))]))))))))))))))))))))
 ((.reg [.o (.bin 108 .add (sl 22) (ci 1)),
 .o (.move 22 (sl 108))])))))))))))
 ((.seq (.seq (.reg [.o (.move 109 (sl 4)),
 .o (.slc 110 1 (sl 109) (some (ci 1)) none),
 .o (.lenS 111 (sl 110)),
 .o (.move 112 (ci 0))])
 ((.block 4 (.loop (.seq (.reg [.o (.bin 113 .lss (sl 112) (sl 111))])
 ((.seq (.cond (sl 113) .skip
 (.exit 4))
 ((.seq (.block 5 (.seq (.reg [.o (.idx 114 1 (sl 110) (sl 112)),
 .o (.load1 115 (sl 114)),
 .o (.move 10 (sl 115))])
 ((.seq (.reg [.o (.move 116 (sl 10)),
 .o (.bin 117 .neq (sl 116) (ci 1))])
 ((.cond (sl 117) (.seq (.reg [.o (.move 2 (cb false))])
 (.ret))
 .skip))))))
 ((.reg [.o (.bin 118 .add (sl 112) (ci 1)),
 .o (.move 112 (sl 118))])))))))))))
 ((.seq (.reg [.o (.loadN 119 1 (sl 1)),
 .o (.call (some 120) (cf 164) [(sl 119), (ci 0)]),
 .o (.bin 121 .leq (sl 120) (ci 5)),
 .o (.move 2 (sl 121))])
 (.ret))))))))))))))
theorem fun_impl_IsTree {rin : List T} {args : List A} {Q : List T → T → Prop} (ha : args.length ≤ 122) (h : cW Try.prog 122 c_impl_IsTree (retP Try.prog [.tmp 2] rin.length Q) (St.of (enum 0 args) (enum 1000000000 rin))) :
    Fun Try.prog 175 rin args Q :=
  Fun.of (H := ⟨[], []⟩) Try.func175 rfl rfl rfl (by kernel_rfl) ha (by decide) h

def c_impl_allWithin : CC :=
 (.seq (.reg [.o (.move 6 (cb false))])
 ((.seq (.seq (.reg [.o (.move 9 (sl 0)),
 .o (.lenS 10 (sl 9)),
 .o (.move 11 (ci 0))])
 ((.block 0 (.loop (.seq (.reg [.o (.bin 12 .lss (sl 11) (sl 10))])
 ((.seq (.cond (sl 12) .skip
 (.exit 0))
 ((.seq (.block 1 (.seq (.reg [.o (.idx 13 1 (sl 9) (sl 11)),
 .o (.load1 14 (sl 13)),
 .o (.move 8 (sl 14))])
 ((.seq (.reg [.o (.move 15 (sl 8)),
 .o (.move 16 (sl 1)),
 .o (.move 17 (sl 2)),
 .o (.call (some 18) (cf 110) [(sl 15), (sl 16), (sl 17)]),
 .o (.un 19 .not (sl 18))])
 ((.cond (sl 19) (.seq (.reg [.o (.move 6 (cb false))])
 (.ret))
 .skip))))))
 ((.reg [.o (.bin 20 .add (sl 11) (ci 1)),
 .o (.move 11 (sl 20))])))))))))))
 ((.seq (.reg [.o (.move 6 (cb true))])
 (.ret))))))
theorem fun_impl_allWithin {rin : List T} {args : List A} {Q : List T → T → Prop} (ha : args.length ≤ 21) (h : cW Try.prog 21 c_impl_allWithin (retP Try.prog [.tmp 6] rin.length Q) (St.of (enum 0 args) (enum 1000000000 rin))) :
    Fun Try.prog 176 rin args Q :=
  Fun.of (H := ⟨[], []⟩) Try.func176 rfl rfl rfl (by kernel_rfl) ha (by decide) h

def c_impl_totalWeight : CC :=
 (.seq (.reg [.o (.box 1 (sl 0)),
 .o (.move 2 (ci 0))])
 ((.seq (.reg [.o (.move 3 (ci 0))])
 ((.seq (.seq (.reg [.o (.fld 6 1 (sl 1)),
 .o (.load1 7 (sl 6)),
 .o (.lenS 8 (sl 7)),
 .o (.move 9 (ci 0))])
 ((.block 0 (.loop (.seq (.reg [.o (.bin 10 .lss (sl 9) (sl 8))])
 ((.seq (.cond (sl 10) .skip
 (.exit 0))
 ((.seq (.block 1 (.seq (.reg [.o (.idx 11 1 (sl 7) (sl 9)),
 .o (.load1 12 (sl 11)),
 .o (.move 5 (sl 12))])
 ((.reg [.o (.move 13 (sl 3)),
 .o (.move 14 (sl 5)),
 .o (.call (some 15) (cf 200) [(sl 14)]),
 .o (.bin 16 .add (sl 13) (sl 15)),
 .o (.move 3 (sl 16))]))))
 ((.reg [.o (.bin 17 .add (sl 9) (ci 1)),
 .o (.move 9 (sl 17))])))))))))))
 ((.seq (.reg [.o (.move 18 (sl 3)),
 .o (.move 2 (sl 18))])
 (.ret))))))))
theorem fun_impl_totalWeight {rin : List T} {args : List A} {Q : List T → T → Prop} (ha : args.length ≤ 19) (h : cW Try.prog 19 c_impl_totalWeight (retP Try.prog [.tmp 2] rin.length Q) (St.of (enum 0 args) (enum 1000000000 rin))) :
    Fun Try.prog 177 rin args Q :=
  Fun.of (H := ⟨[], []⟩) Try.func177 rfl rfl rfl (by kernel_rfl) ha (by decide) h

def c___impl_evaluator__value : CC :=
 (.seq (.reg [.o (.move 10 (ci 0))])
 ((.seq (.reg [.o (.move 15 (sl 0)),
 .o (.nilc 16 (sl 15)),
 .o (.fld 17 0 (sl 16)),
 .o (.fld 18 0 (sl 17)),
 .o (.fld 19 0 (sl 18)),
 .o (.load1 20 (sl 19)),
 .o (.move 21 (sl 1)),
 .o (.idx 22 5 (sl 20) (sl 21)),
 .o (.loadN 23 5 (sl 22)),
 .o (.alloc 11 [.v (.int .i64 0), .v (.int .i64 0), .v (.int .i64 0), .v (.int .i64 0), .v (.slice none 0 0)]),
 .o (.store 5 (sl 11) (sl 23))])
 ((.seq (.seq (.reg [.o (.fld 24 0 (sl 11)),
 .o (.load1 25 (sl 24)),
 .o (.bin 26 .eql (sl 25) (ci 2))])
 ((.cond (sl 26) (.seq (.reg [.o (.move 27 (sl 0)),
 .o (.nilc 28 (sl 27)),
 .o (.fld 29 0 (sl 28)),
 .o (.loadN 30 3 (sl 29)),
 .o (.move 31 (sl 1)),
 .o (.move 32 (sl 2)),
 .o (.move 33 (sl 3)),
 .o (.call (some 34) (cf 213) [(sl 30), (sl 31), (sl 32), (sl 33)]),
 .o (.move 35 (sl 4)),
 .o (.call (some 36) (cf 163) [(ci 60), (sl 35)]),
 .o (.bin 37 .mul (sl 34) (sl 36)),
 .o (.move 10 (sl 37))])
 (.ret))
 .skip)))
 ((.seq (.reg [.o (.move 12 (ci 0))])
 ((.seq (.seq (.reg [.o (.move 38 (sl 0)),
 .o (.move 39 (sl 1)),
 .o (.move 40 (sl 2)),
 .o (.move 41 (sl 3)),
 .o (.call (some 42) (cf 214) [(sl 38), (sl 39), (sl 40), (sl 41)]),
 .o (.lenS 43 (sl 42)),
 .o (.move 44 (ci 0))])
 ((.block 0 (.loop (.seq (.reg [.o (.bin 45 .lss (sl 44) (sl 43))])
 ((.seq (.cond (sl 45) .skip
 (.exit 0))
 ((.seq (.block 1 (.seq (.reg [.o (.move 46 (sl 44)),
 .o (.idx 47 1 (sl 42) (sl 44)),
 .o (.load1 48 (sl 47)),
 .o (.move 13 (sl 46)),
 .o (.move 14 (sl 48))])
 ((.seq (.reg [.o (.move 49 (sl 14)),
 .o (.bin 50 .gtr (sl 49) (ci 0))])
 ((.cond (sl 50) (.reg [.o (.move 51 (sl 12)),
 .o (.move 52 (sl 14)),
 .o (.move 53 (sl 0)),
 .o (.fld 54 4 (sl 11)),
 .o (.load1 55 (sl 54)),
 .o (.move 56 (sl 13)),
 .o (.idx 57 1 (sl 55) (sl 56)),
 .o (.load1 58 (sl 57)),
 .o (.move 59 (sl 2)),
 .o (.move 60 (sl 3)),
 .o (.move 61 (sl 4)),
 .o (.bin 62 .sub (sl 61) (ci 1)),
 .o (.call (some 63) (cf 180) [(sl 53), (sl 58), (sl 59), (sl 60), (sl 62)]),
 .o (.bin 64 .mul (sl 52) (sl 63)),
 .o (.bin 65 .add (sl 51) (sl 64)),
 .o (.move 12 (sl 65))])
 .skip))))))
 ((.reg [.o (.bin 66 .add (sl 44) (ci 1)),
 .o (.move 44 (sl 66))])))))))))))
 ((.seq (.reg [.o (.move 67 (sl 12)),
 .o (.move 10 (sl 67))])
 (.ret))))))))))))
theorem fun___impl_evaluator__value {rin : List T} {args : List A} {Q : List T → T → Prop} (ha : args.length ≤ 68) (h : cW Try.prog 68 c___impl_evaluator__value (retP Try.prog [.tmp 10] rin.length Q) (St.of (enum 0 args) (enum 1000000000 rin))) :
    Fun Try.prog 180 rin args Q :=
  Fun.of (H := ⟨[], []⟩) Try.func180 rfl rfl rfl (by kernel_rfl) ha (by decide) h

def c_impl_nodesOf : CC :=
 (.seq (.reg [.o (.box 2 (sl 0)),
 .o (.move 4 (cv (.slice none 0 0)))])
 ((.seq (.reg [.o (.move 5 (cv (.slice none 0 0)))])
 ((.seq (.seq (.reg [.o (.fld 8 0 (sl 2)),
 .o (.load1 9 (sl 8)),
 .o (.lenS 10 (sl 9)),
 .o (.move 11 (ci 0))])
 ((.block 0 (.loop (.seq (.reg [.o (.bin 12 .lss (sl 11) (sl 10))])
 ((.seq (.cond (sl 12) .skip
 (.exit 0))
 ((.seq (.block 1 (.seq (.reg [.o (.move 13 (sl 11)),
 .o (.idx 14 5 (sl 9) (sl 11)),
 .o (.loadN 15 5 (sl 14)),
 .o (.alloc 7 [.v (.int .i64 0), .v (.int .i64 0), .v (.int .i64 0), .v (.int .i64 0), .v (.slice none 0 0)]),
 .o (.move 6 (sl 13)),
 .o (.store 5 (sl 7) (sl 15))])
 ((.seq (.reg [.o (.fld 16 0 (sl 7)),
 .o (.load1 17 (sl 16)),
 .o (.move 18 (sl 1)),
 .o (.bin 19 .eql (sl 17) (sl 18))])
 ((.cond (sl 19) (.reg [.o (.move 20 (sl 5)),
 .o (.move 21 (sl 6)),
 .o (.bslice 22 1 1 [(0, (sl 21))]),
 .o (.app 23 1 8 (sl 20) (sl 22)),
 .o (.move 5 (sl 23))])
 .skip))))))
 ((.reg [.o (.bin 24 .add (sl 11) (ci 1)),
 .o (.move 11 (sl 24))])))))))))))
 ((.seq (.reg [.o (.move 25 (sl 5)),
 .o (.move 4 (sl 25))])
 (.ret))))))))
theorem fun_impl_nodesOf {rin : List T} {args : List A} {Q : List T → T → Prop} (ha : args.length ≤ 26) (h : cW Try.prog 26 c_impl_nodesOf (retP Try.prog [.tmp 4] rin.length Q) (St.of (enum 0 args) (enum 1000000000 rin))) :
    Fun Try.prog 181 rin args Q :=
  Fun.of (H := ⟨[], []⟩) Try.func181 rfl rfl rfl (by kernel_rfl) ha (by decide) h

def c_spec_l23Value : CC :=
 (.seq (.reg [.o (.box 7 (sl 0)),
 .o (.box 8 (sl 1)),
 .o (.box 9 (sl 2)),
 .o (.move 14 (ci 0))])
 ((.seq (.reg [.o (.fld 19 0 (sl 7)),
 .o (.fld 20 0 (sl 19)),
 .o (.load1 21 (sl 20)),
 .o (.move 22 (sl 3)),
 .o (.idx 23 5 (sl 21) (sl 22)),
 .o (.loadN 24 5 (sl 23)),
 .o (.alloc 15 [.v (.int .i64 0), .v (.int .i64 0), .v (.int .i64 0), .v (.int .i64 0), .v (.slice none 0 0)]),
 .o (.store 5 (sl 15) (sl 24))])
 ((.seq (.seq (.reg [.o (.fld 25 0 (sl 15)),
 .o (.load1 26 (sl 25)),
 .o (.bin 27 .eql (sl 26) (ci 2))])
 ((.cond (sl 27) (.seq (.reg [.o (.loadN 28 3 (sl 7)),
 .o (.move 29 (sl 3)),
 .o (.move 30 (sl 4)),
 .o (.move 31 (sl 5)),
 .o (.call (some 32) (cf 215) [(sl 28), (sl 29), (sl 30), (sl 31)]),
 .o (.move 33 (sl 6)),
 .o (.call (some 34) (cf 157) [(sl 33)]),
 .o (.bin 35 .mul (sl 32) (sl 34)),
 .o (.move 14 (sl 35))])
 (.ret))
 .skip)))
 ((.seq (.reg [.o (.loadN 36 3 (sl 7)),
 .o (.loadN 37 2 (sl 8)),
 .o (.loadN 38 2 (sl 9)),
 .o (.move 39 (sl 3)),
 .o (.move 40 (sl 4)),
 .o (.move 41 (sl 5)),
 .o (.call (some 42) (cf 216) [(sl 36), (sl 37), (sl 38), (sl 39), (sl 40), (sl 41)]),
 .o (.move 16 (sl 42))])
 ((.seq (.reg [.o (.move 17 (ci 0))])
 ((.seq (.seq (.reg [.o (.move 18 (ci 0))])
 ((.block 0 (.loop (.seq (.seq (.reg [.o (.move 43 (sl 18)),
 .o (.fld 44 4 (sl 15)),
 .o (.load1 45 (sl 44)),
 .o (.lenS 46 (sl 45)),
 .o (.bin 47 .lss (sl 43) (sl 46))])
 ((.cond (sl 47) .skip
 (.exit 0))))
 ((.seq (.block 1 (.draw [] [(kR, .o (.move 50 (sl 17))),
 (kR, .o (.move 51 (sl 16))),
 (kR, .o (.move 52 (sl 18))),
 (kR, .o (.idx 53 1 (sl 51) (sl 52))),
 (kR, .o (.load1 54 (sl 53))),
 (kR, .o (.loadN 55 3 (sl 7))),
 (kR, .o (.loadN 56 2 (sl 8))),
 (kR, .o (.loadN 57 2 (sl 9))),
 (kR, .o (.fld 58 4 (sl 15))),
 (kR, .o (.load1 59 (sl 58))),
 (kR, .o (.move 60 (sl 18))),
 (kR, .o (.idx 61 1 (sl 59) (sl 60))),
 (kR, .o (.load1 62 (sl 61))),
 (kR, .o (.move 63 (sl 4))),
 (kR, .o (.move 64 (sl 5))),
 (kR, .o (.move 65 (sl 6))),
 (kR, .o (.bin 66 .sub (sl 65) (ci 1))),
 (kR, .o (.call (some 67) (cf 183) [(sl 55), (sl 56), (sl 57), (sl 62), (sl 63), (sl 64), (sl 66)])),
 (kR, .o (.bin 68 .mul (sl 54) (sl 67))),
 (kR, .o (.bin 69 .add (sl 50) (sl 68))),
 (kR, .o (.move 17 (sl 69)))]))
 ((.reg [.o (.move 48 (sl 18)),
 .o (.bin 49 .add (sl 48) (ci 1)),
 .o (.move 18 (sl 49))])))))))))
 ((.seq (.reg [.o (.move 70 (sl 17)),
 .o (.move 14 (sl 70))])
 (.ret))))))))))))))
theorem fun_spec_l23Value {rin : List T} {args : List A} {Q : List T → T → Prop} (ha : args.length ≤ 71) (h : cW Try.prog 71 c_spec_l23Value (retP Try.prog [.tmp 14] rin.length Q) (St.of (enum 0 args) (enum 1000000000 rin))) :
    Fun Try.prog 183 rin args Q :=
  Fun.of (H := ⟨[], []⟩) Try.func183 rfl rfl rfl (by kernel_rfl) ha (by decide) h

def c_spec_BetTree : CC :=
 (.seq (.reg [.o (.alloc 6 [.v (.slice none 0 0)]),
 .o (.move 7 (ci 0))])
 ((.seq (.seq (.reg [.o (.move 8 (sl 0)),
 .o (.call (some 9) (cf 148) [(sl 8), (ci 0), (ci 100)]),
 .o (.un 10 .not (sl 9)),
 .o (.move 11 (sl 10)),
 .g 11 false (some 12) (.move 12 (sl 1)),
 .g 11 false (some 13) (.call (some 13) (cf 148) [(sl 12), (ci 1), (ci 100)]),
 .g 11 false (some 14) (.un 14 .not (sl 13)),
 .o (.pick 15 (sl 11) (cb true) (sl 14)),
 .o (.move 16 (sl 15)),
 .g 16 false (some 17) (.move 17 (sl 2)),
 .g 16 false (some 18) (.call (some 18) (cf 148) [(sl 17), (ci 0), (ci 2)]),
 .g 16 false (some 19) (.un 19 .not (sl 18)),
 .o (.pick 20 (sl 16) (cb true) (sl 19)),
 .o (.move 21 (sl 20)),
 .g 21 false (some 22) (.move 22 (sl 0)),
 .g 21 false (some 23) (.move 23 (sl 1)),
 .g 21 false (some 24) (.move 24 (sl 2)),
 .g 21 false (some 25) (.bin 25 .add (sl 24) (ci 1)),
 .g 21 false (some 26) (.bin 26 .mul (sl 23) (sl 25)),
 .g 21 false (some 27) (.bin 27 .add (sl 22) (sl 26)),
 .g 21 false (some 28) (.bin 28 .gtr (sl 27) (ci 100)),
 .o (.pick 29 (sl 21) (cb true) (sl 28))])
 ((.cond (sl 29) (.seq (.reg [.o (.build 30 [.v (.slice none 0 0)] [(0, 1)] []),
 .o (.store 1 (sl 6) (sl 30)),
 .o (.move 7 (ci 2))])
 (.ret))
 .skip)))
 ((.seq (.reg [.o (.move 31 (sl 0)),
 .o (.move 32 (sl 0)),
 .o (.move 33 (sl 1)),
 .o (.move 34 (sl 2)),
 .o (.call (some 35) (cf 217) [(cv (.slice none 0 0)), (ci 0), (sl 31), (sl 32), (sl 33), (sl 34), (cb false)]),
 .o (.build 36 [.v (.slice none 0 0)] [(0, 1)] [(0, (sl 35))]),
 .o (.store 1 (sl 6) (sl 36)),
 .o (.move 7 (ci 0))])
 (.ret))))))
theorem fun_spec_BetTree {rin : List T} {args : List A} {Q : List T → T → Prop} (ha : args.length ≤ 37) (h : cW Try.prog 37 c_spec_BetTree (retP Try.prog [.cell 6 33, .tmp 7] rin.length Q) (St.of (enum 0 args) (enum 1000000000 rin))) :
    Fun Try.prog 184 rin args Q :=
  Fun.of (H := ⟨[], []⟩) Try.func184 rfl rfl rfl (by kernel_rfl) ha (by decide) h

def c_spec_l21HighCard : CC :=
 (.seq (.reg [.o (.box 3 (sl 0)),
 .o (.alloc 6 [.v (.slice none 0 0), .v (.slice none 0 0), .v (.slice none 0 0)])])
 ((.seq (.reg [.o (.bslice 13 1 0 []),
 .o (.bslice 14 1 0 []),
 .o (.move 7 (sl 13)),
 .o (.move 8 (sl 14))])
 ((.seq (.seq (.reg [.o (.move 9 (ci 0))])
 ((.block 0 (.loop (.seq (.seq (.reg [.o (.move 15 (sl 9)),
 .o (.move 16 (sl 1)),
 .o (.bin 17 .lss (sl 15) (sl 16))])
 ((.cond (sl 17) .skip
 (.exit 0))))
 ((.seq (.block 1 (.seq (.reg [.o (.bslice 20 1 0 []),
 .o (.bslice 21 1 0 []),
 .o (.move 10 (sl 20)),
 .o (.move 11 (sl 21))])
 ((.seq (.seq (.reg [.o (.move 12 (ci 0))])
 ((.block 2 (.loop (.seq (.seq (.reg [.o (.move 22 (sl 12)),
 .o (.move 23 (sl 1)),
 .o (.bin 24 .lss (sl 22) (sl 23))])
 ((.cond (sl 24) .skip
 (.exit 2))))
 ((.seq (.block 3 (.seq (.seq (.reg [.o (.move 27 (sl 9)),
 .o (.move 28 (sl 12)),
 .o (.bin 29 .eql (sl 27) (sl 28)),
 .o (.move 30 (sl 29)),
 .g 30 true (some 31) (.move 31 (sl 2)),
 .g 30 true (some 32) (.un 32 .not (sl 31)),
 .o (.pick 33 (sl 30) (sl 32) (cb false))])
 ((.cond (sl 33) (.reg [.o (.move 34 (sl 10)),
 .o (.bslice 35 1 1 [(0, (ci 0))]),
 .o (.app 36 1 8 (sl 34) (sl 35)),
 .o (.move 10 (sl 36))])
 (.reg [.o (.move 37 (sl 10)),
 .o (.bslice 38 1 1 [(0, (ci 1))]),
 .o (.app 39 1 8 (sl 37) (sl 38)),
 .o (.move 10 (sl 39))]))))
 ((.reg [.o (.move 40 (sl 11)),
 .o (.move 41 (sl 9)),
 .o (.move 42 (sl 12)),
 .o (.call (some 43) (cf 218) [(sl 41), (sl 42)]),
 .o (.bslice 44 1 1 [(0, (sl 43))]),
 .o (.app 45 1 8 (sl 40) (sl 44)),
 .o (.move 11 (sl 45))]))))
 ((.reg [.o (.move 25 (sl 12)),
 .o (.bin 26 .add (sl 25) (ci 1)),
 .o (.move 12 (sl 26))])))))))))
 ((.seq (.reg [.o (.move 46 (sl 7)),
 .o (.move 47 (sl 10)),
 .o (.bslice 48 1 1 [(0, (sl 47))]),
 .o (.app 49 1 24 (sl 46) (sl 48)),
 .o (.move 7 (sl 49))])
 ((.reg [.o (.move 50 (sl 8)),
 .o (.move 51 (sl 11)),
 .o (.bslice 52 1 1 [(0, (sl 51))]),
 .o (.app 53 1 24 (sl 50) (sl 52)),
 .o (.move 8 (sl 53))]))))))))
 ((.reg [.o (.move 18 (sl 9)),
 .o (.bin 19 .add (sl 18) (ci 1)),
 .o (.move 9 (sl 19))])))))))))
 ((.seq (.reg [.o (.loadN 54 1 (sl 3)),
 .o (.call (some 55) (cf 219) [(sl 54)]),
 .o (.move 56 (sl 7)),
 .o (.move 57 (sl 8)),
 .o (.build 58 [.v (.slice none 0 0), .v (.slice none 0 0), .v (.slice none 0 0)] [(0, 1), (1, 1), (2, 1)] [(0, (sl 55)), (1, (sl 56)), (2, (sl 57))]),
 .o (.store 3 (sl 6) (sl 58))])
 (.ret))))))))
theorem fun_spec_l21HighCard {rin : List T} {args : List A} {Q : List T → T → Prop} (ha : args.length ≤ 59) (h : cW Try.prog 59 c_spec_l21HighCard (retP Try.prog [.cell 6 35] rin.length Q) (St.of (enum 0 args) (enum 1000000000 rin))) :
    Fun Try.prog 185 rin args Q :=
  Fun.of (H := ⟨[], []⟩) Try.func185 rfl rfl rfl (by kernel_rfl) ha (by decide) h

def c_spec_l21Sets : CC :=
 (.seq (.reg [.o (.box 2 (sl 0)),
 .o (.move 4 (cv (.slice none 0 0)))])
 ((.seq (.reg [.o (.fld 9 0 (sl 2)),
 .o (.loadN 10 1 (sl 9)),
 .o (.move 11 (sl 1)),
 .o (.call (some 12) (cf 220) [(sl 10), (sl 11)]),
 .o (.move 5 (sl 12))])
 ((.seq (.reg [.o (.bslice 13 1 0 []),
 .o (.move 6 (sl 13))])
 ((.seq (.seq (.reg [.o (.move 7 (ci 0))])
 ((.block 0 (.loop (.seq (.seq (.reg [.o (.move 14 (sl 7)),
 .o (.move 15 (sl 5)),
 .o (.lenS 16 (sl 15)),
 .o (.bin 17 .lss (sl 14) (sl 16))])
 ((.cond (sl 17) .skip
 (.exit 0))))
 ((.seq (.block 1 (.seq (.reg [.o (.move 8 (ci 0))])
 ((.block 2 (.loop (.seq (.seq (.reg [.o (.move 20 (sl 8)),
 .o (.fld 21 1 (sl 2)),
 .o (.load1 22 (sl 21)),
 .o (.lenS 23 (sl 22)),
 .o (.bin 24 .lss (sl 20) (sl 23))])
 ((.cond (sl 24) .skip
 (.exit 2))))
 ((.seq (.block 3 (.reg [.o (.move 27 (sl 6)),
 .o (.move 28 (sl 5)),
 .o (.move 29 (sl 7)),
 .o (.idx 30 1 (sl 28) (sl 29)),
 .o (.load1 31 (sl 30)),
 .o (.move 32 (sl 8)),
 .o (.bslice 33 1 2 [(0, (sl 31)), (1, (sl 32))]),
 .o (.bslice 34 1 1 [(0, (sl 33))]),
 .o (.app 35 1 24 (sl 27) (sl 34)),
 .o (.move 6 (sl 35))]))
 ((.reg [.o (.move 25 (sl 8)),
 .o (.bin 26 .add (sl 25) (ci 1)),
 .o (.move 8 (sl 26))]))))))))))
 ((.reg [.o (.move 18 (sl 7)),
 .o (.bin 19 .add (sl 18) (ci 1)),
 .o (.move 7 (sl 19))])))))))))
 ((.seq (.reg [.o (.move 36 (sl 6)),
 .o (.move 4 (sl 36))])
 (.ret))))))))))
theorem fun_spec_l21Sets {rin : List T} {args : List A} {Q : List T → T → Prop} (ha : args.length ≤ 37) (h : cW Try.prog 37 c_spec_l21Sets (retP Try.prog [.tmp 4] rin.length Q) (St.of (enum 0 args) (enum 1000000000 rin))) :
    Fun Try.prog 186 rin args Q :=
  Fun.of (H := ⟨[], []⟩) Try.func186 rfl rfl rfl (by kernel_rfl) ha (by decide) h

def c_spec_l01Sum : CC :=
 (.seq (.reg [.o (.move 2 (ci 0))])
 ((.seq (.reg [.o (.move 3 (ci 0))])
 ((.seq (.seq (.reg [.o (.move 4 (ci 0))])
 ((.block 0 (.loop (.seq (.seq (.reg [.o (.move 5 (sl 4)),
 .o (.move 6 (sl 0)),
 .o (.lenS 7 (sl 6)),
 .o (.bin 8 .lss (sl 5) (sl 7))])
 ((.cond (sl 8) .skip
 (.exit 0))))
 ((.seq (.block 1 (.reg [.o (.move 11 (sl 3)),
 .o (.move 12 (sl 0)),
 .o (.move 13 (sl 4)),
 .o (.idx 14 1 (sl 12) (sl 13)),
 .o (.load1 15 (sl 14)),
 .o (.bin 16 .add (sl 11) (sl 15)),
 .o (.move 3 (sl 16))]))
 ((.reg [.o (.move 9 (sl 4)),
 .o (.bin 10 .add (sl 9) (ci 1)),
 .o (.move 4 (sl 10))])))))))))
 ((.seq (.reg [.o (.move 17 (sl 3)),
 .o (.move 2 (sl 17))])
 (.ret))))))))
theorem fun_spec_l01Sum {rin : List T} {args : List A} {Q : List T → T → Prop} (ha : args.length ≤ 18) (h : cW Try.prog 18 c_spec_l01Sum (retP Try.prog [.tmp 2] rin.length Q) (St.of (enum 0 args) (enum 1000000000 rin))) :
    Fun Try.prog 187 rin args Q :=
  Fun.of (H := ⟨[], []⟩) Try.func187 rfl rfl rfl (by kernel_rfl) ha (by decide) h

def c_spec_l21Total : CC :=
 (.seq (.reg [.o (.box 1 (sl 0)),
 .o (.move 2 (ci 0))])
 ((.seq (.reg [.o (.move 3 (ci 0))])
 ((.seq (.seq (.reg [.o (.move 4 (ci 0))])
 ((.block 0 (.loop (.seq (.seq (.reg [.o (.move 5 (sl 4)),
 .o (.fld 6 1 (sl 1)),
 .o (.load1 7 (sl 6)),
 .o (.lenS 8 (sl 7)),
 .o (.bin 9 .lss (sl 5) (sl 8))])
 ((.cond (sl 9) .skip
 (.exit 0))))
 ((.seq (.block 1 (.reg [.o (.move 12 (sl 3)),
 .o (.fld 13 1 (sl 1)),
 .o (.load1 14 (sl 13)),
 .o (.move 15 (sl 4)),
 .o (.idx 16 1 (sl 14) (sl 15)),
 .o (.load1 17 (sl 16)),
 .o (.call (some 18) (cf 187) [(sl 17)]),
 .o (.bin 19 .add (sl 12) (sl 18)),
 .o (.move 3 (sl 19))]))
 ((.reg [.o (.move 10 (sl 4)),
 .o (.bin 11 .add (sl 10) (ci 1)),
 .o (.move 4 (sl 11))])))))))))
 ((.seq (.reg [.o (.move 20 (sl 3)),
 .o (.move 2 (sl 20))])
 (.ret))))))))
theorem fun_spec_l21Total {rin : List T} {args : List A} {Q : List T → T → Prop} (ha : args.length ≤ 21) (h : cW Try.prog 21 c_spec_l21Total (retP Try.prog [.tmp 2] rin.length Q) (St.of (enum 0 args) (enum 1000000000 rin))) :
    Fun Try.prog 191 rin args Q :=
  Fun.of (H := ⟨[], []⟩) Try.func191 rfl rfl rfl (by kernel_rfl) ha (by decide) h

def c_spec_IsTree : CC :=
 (.seq (.reg [.o (.box 1 (sl 0)),
 .o (.move 2 (cb false))])
 ((.seq (.reg [.o (.fld 8 0 (sl 1)),
 .o (.load1 9 (sl 8)),
 .o (.lenS 10 (sl 9)),
 .o (.move 3 (sl 10))])
 ((.seq (.seq (.reg [.o (.move 11 (sl 3)),
 .o (.call (some 12) (cf 148) [(sl 11), (ci 1), (ci 60)]),
 .o (.un 13 .not (sl 12))])
 ((.cond (sl 13) (.seq (.reg [.o (.move 2 (cb false))])
 (.ret))
 .skip)))
 ((.seq (.reg [.o (.move 14 (sl 3)),
 .o (.make 15 [.v (.int .i64 0)] 8 (sl 14) (sl 14)),
 .o (.move 4 (sl 15))])
 ((.seq (.seq (.reg [.o (.move 5 (ci 0))])
 ((.block 0 (.loop (.seq (.seq (.reg [.o (.move 16 (sl 5)),
 .o (.move 17 (sl 3)),
 .o (.bin 18 .lss (sl 16) (sl 17))])
 ((.cond (sl 18) .skip
 (.exit 0))))
 ((.seq (.block 1 (.seq (.seq (.reg [.o (.loadN 21 1 (sl 1)),
 .o (.move 22 (sl 5)),
 .o (.call (some 23) (cf 224) [(sl 21), (sl 22)]),
 .o (.un 24 .not (sl 23))])
 ((.cond (sl 24) (.seq (.reg [.o (.move 2 (cb false))])
 (.ret))
 .skip)))
 ((.seq (.reg [.o (.move 6 (ci 0))])
 ((.block 2 (.loop (.seq (.seq (.reg [.o (.move 25 (sl 6)),
 .o (.fld 26 0 (sl 1)),
 .o (.load1 27 (sl 26)),
 .o (.move 28 (sl 5)),
 .o (.idx 29 5 (sl 27) (sl 28)),
 .o (.fld 30 4 (sl 29)),
 .o (.load1 31 (sl 30)),
 .o (.lenS 32 (sl 31)),
 .o (.bin 33 .lss (sl 25) (sl 32))])
 ((.cond (sl 33) .skip
 (.exit 2))))
 ((.seq (.block 3 (.reg [.o (.move 36 (sl 4)),
 .o (.fld 37 0 (sl 1)),
 .o (.load1 38 (sl 37)),
 .o (.move 39 (sl 5)),
 .o (.idx 40 5 (sl 38) (sl 39)),
 .o (.fld 41 4 (sl 40)),
 .o (.load1 42 (sl 41)),
 .o (.move 43 (sl 6)),
 .o (.idx 44 1 (sl 42) (sl 43)),
 .o (.load1 45 (sl 44)),
 .o (.idx 46 1 (sl 36) (sl 45)),
 .o (.load1 47 (sl 46)),
 .o (.bin 48 .add (sl 47) (ci 1)),
 .o (.idx 49 1 (sl 36) (sl 45)),
 .o (.store 1 (sl 49) (sl 48))]))
 ((.reg [.o (.move 34 (sl 6)),
 .o (.bin 35 .add (sl 34) (ci 1)),
 .o (.move 6 (sl 35))]))))))))))))
 ((.reg [.o (.move 19 (sl 5)),
 .o (.bin 20 .add (sl 19) (ci 1)),
 .o (.move 5 (sl 20))])))))))))
 ((.seq (.seq (.reg [.o (.move 7 (ci 1))])
 ((.block 4 (.loop (.seq (.seq (.reg [.o (.move 50 (sl 7)),
 .o (.move 51 (sl 3)),
 .o (.bin 52 .lss (sl 50) (sl 51))])
 ((.cond (sl 52) .skip
 (.exit 4))))
 ((.seq (.block 5 (.seq (.reg [.o (.move 55 (sl 4)),
 .o (.move 56 (sl 7)),
 .o (.idx 57 1 (sl 55) (sl 56)),
 .o (.load1 58 (sl 57)),
 .o (.bin 59 .neq (sl 58) (ci 1))])
 ((.cond (sl 59) (.seq (.reg [.o (.move 2 (cb false))])
 (.ret))
 .skip))))
 ((.reg [.o (.move 53 (sl 7)),
 .o (.bin 54 .add (sl 53) (ci 1)),
 .o (.move 7 (sl 54))])))))))))
 ((.seq (.reg [.o (.loadN 60 1 (sl 1)),
 .o (.call (some 61) (cf 158) [(sl 60), (ci 0)]),
 .o (.bin 62 .leq (sl 61) (ci 5)),
 .o (.move 2 (sl 62))])
 (.ret))))))))))))))
theorem fun_spec_IsTree {rin : List T} {args : List A} {Q : List T → T → Prop} (ha : args.length ≤ 63) (h : cW Try.prog 63 c_spec_IsTree (retP Try.prog [.tmp 2] rin.length Q) (St.of (enum 0 args) (enum 1000000000 rin))) :
    Fun Try.prog 194 rin args Q :=
  Fun.of (H := ⟨[], []⟩) Try.func194 rfl rfl rfl (by kernel_rfl) ha (by decide) h

def c_spec_l21Matrix : CC :=
 (.seq (.reg [.o (.move 8 (cb false))])
 ((.seq (.seq (.reg [.o (.move 9 (ci 0))])
 ((.block 0 (.loop (.seq (.seq (.reg [.o (.move 11 (sl 9)),
 .o (.move 12 (sl 0)),
 .o (.lenS 13 (sl 12)),
 .o (.bin 14 .lss (sl 11) (sl 13))])
 ((.cond (sl 14) .skip
 (.exit 0))))
 ((.seq (.block 1 (.seq (.seq (.reg [.o (.move 17 (sl 0)),
 .o (.move 18 (sl 9)),
 .o (.idx 19 1 (sl 17) (sl 18)),
 .o (.load1 20 (sl 19)),
 .o (.lenS 21 (sl 20)),
 .o (.move 22 (sl 1)),
 .o (.bin 23 .neq (sl 21) (sl 22))])
 ((.cond (sl 23) (.seq (.reg [.o (.move 8 (cb false))])
 (.ret))
 .skip)))
 ((.seq (.reg [.o (.move 10 (ci 0))])
 ((.block 2 (.loop (.seq (.seq (.reg [.o (.move 24 (sl 10)),
 .o (.move 25 (sl 1)),
 .o (.bin 26 .lss (sl 24) (sl 25))])
 ((.cond (sl 26) .skip
 (.exit 2))))
 ((.seq (.block 3 (.seq (.reg [.o (.move 29 (sl 0)),
 .o (.move 30 (sl 9)),
 .o (.idx 31 1 (sl 29) (sl 30)),
 .o (.load1 32 (sl 31)),
 .o (.move 33 (sl 10)),
 .o (.idx 34 1 (sl 32) (sl 33)),
 .o (.load1 35 (sl 34)),
 .o (.move 36 (sl 2)),
 .o (.move 37 (sl 3)),
 .o (.call (some 38) (cf 148) [(sl 35), (sl 36), (sl 37)]),
 .o (.un 39 .not (sl 38))])
 ((.cond (sl 39) (.seq (.reg [.o (.move 8 (cb false))])
 (.ret))
 .skip))))
 ((.reg [.o (.move 27 (sl 10)),
 .o (.bin 28 .add (sl 27) (ci 1)),
 .o (.move 10 (sl 28))]))))))))))))
 ((.reg [.o (.move 15 (sl 9)),
 .o (.bin 16 .add (sl 15) (ci 1)),
 .o (.move 9 (sl 16))])))))))))
 ((.seq (.reg [.o (.move 40 (sl 0)),
 .o (.lenS 41 (sl 40)),
 .o (.move 42 (sl 1)),
 .o (.bin 43 .eql (sl 41) (sl 42)),
 .o (.move 8 (sl 43))])
 (.ret))))))
theorem fun_spec_l21Matrix {rin : List T} {args : List A} {Q : List T → T → Prop} (ha : args.length ≤ 44) (h : cW Try.prog 44 c_spec_l21Matrix (retP Try.prog [.tmp 8] rin.length Q) (St.of (enum 0 args) (enum 1000000000 rin))) :
    Fun Try.prog 195 rin args Q :=
  Fun.of (H := ⟨[], []⟩) Try.func195 rfl rfl rfl (by kernel_rfl) ha (by decide) h

def c_spec_l22Sizes : CC :=
 (.seq (.reg [.o (.box 2 (sl 0)),
 .o (.move 4 (cv (.slice none 0 0)))])
 ((.seq (.reg [.o (.loadN 8 3 (sl 2)),
 .o (.move 9 (sl 1)),
 .o (.call (some 10) (cf 186) [(sl 8), (sl 9)]),
 .o (.move 5 (sl 10))])
 ((.seq (.reg [.o (.bslice 11 1 0 []),
 .o (.move 6 (sl 11))])
 ((.seq (.seq (.reg [.o (.move 7 (ci 0))])
 ((.block 0 (.loop (.seq (.seq (.reg [.o (.move 12 (sl 7)),
 .o (.move 13 (sl 5)),
 .o (.lenS 14 (sl 13)),
 .o (.bin 15 .lss (sl 12) (sl 14))])
 ((.cond (sl 15) .skip
 (.exit 0))))
 ((.seq (.block 1 (.draw [32] [(kR, .o (.move 18 (sl 6))),
 (kR, .o (.fld 19 0 (sl 2))),
 (kR, .o (.fld 20 0 (sl 19))),
 (kR, .o (.load1 21 (sl 20))),
 (kR, .o (.move 22 (sl 5))),
 (kR, .o (.move 23 (sl 7))),
 (kR, .o (.idx 24 1 (sl 22) (sl 23))),
 (kR, .o (.load1 25 (sl 24))),
 (kR, .o (.idx 26 1 (sl 25) (ci 0))),
 (kR, .o (.load1 27 (sl 26))),
 (kR, .o (.idx 28 5 (sl 21) (sl 27))),
 (kR, .o (.fld 29 4 (sl 28))),
 (kR, .o (.load1 30 (sl 29))),
 (kR, .o (.lenS 31 (sl 30))),
 (kN, .o (.bslice 32 1 1 [(0, (sl 31))])),
 (kH, .o (.app 33 1 8 (sl 18) (sl 32))),
 (kR, .o (.move 6 (sl 33)))]))
 ((.reg [.o (.move 16 (sl 7)),
 .o (.bin 17 .add (sl 16) (ci 1)),
 .o (.move 7 (sl 17))])))))))))
 ((.seq (.reg [.o (.move 34 (sl 6)),
 .o (.move 4 (sl 34))])
 (.ret))))))))))
theorem fun_spec_l22Sizes {rin : List T} {args : List A} {Q : List T → T → Prop} (ha : args.length ≤ 35) (h : cW Try.prog 35 c_spec_l22Sizes (retP Try.prog [.tmp 4] rin.length Q) (St.of (enum 0 args) (enum 1000000000 rin))) :
    Fun Try.prog 196 rin args Q :=
  Fun.of (H := ⟨[], []⟩) Try.func196 rfl rfl rfl (by kernel_rfl) ha (by decide) h

def c_spec_l20Random : CC :=
 (.seq (.reg [.o (.move 6 (cv (.slice none 0 0)))])
 ((.seq (.reg [.o (.move 12 (sl 1)),
 .o (.lenS 13 (sl 12)),
 .o (.move 7 (sl 13))])
 ((.seq (.reg [.o (.move 14 (sl 0)),
 .o (.call (some 15) (cf 126) [(sl 14), (ci 6)]),
 .o (.move 8 (sl 15))])
 ((.seq (.seq (.reg [.o (.move 16 (sl 2)),
 .o (.bin 17 .eql (sl 16) (ci 0)),
 .o (.move 18 (sl 17)),
 .g 18 false (some 19) (.move 19 (sl 1)),
 .g 18 false (some 20) (.lenS 20 (sl 19)),
 .g 18 false (some 21) (.bin 21 .gtr (sl 20) (ci 30)),
 .o (.pick 22 (sl 18) (cb true) (sl 21)),
 .o (.move 23 (sl 22)),
 .g 23 false (some 24) (.move 24 (sl 1)),
 .g 23 false (some 25) (.lenS 25 (sl 24)),
 .g 23 false (some 26) (.bin 26 .gtr (sl 25) (ci 0)),
 .g 23 false (some 27) (.move 27 (sl 26)),
 .g 27 true (some 28) (.move 28 (sl 0)),
 .g 27 true (some 29) (.call (some 29) (cf 126) [(sl 28), (ci 3)]),
 .g 27 true (some 30) (.bin 30 .eql (sl 29) (ci 0)),
 .g 23 false (some 31) (.pick 31 (sl 27) (sl 30) (cb false)),
 .o (.pick 32 (sl 23) (cb true) (sl 31))])
 ((.cond (sl 32) (.seq (.reg [.o (.move 33 (sl 8)),
 .o (.move 34 (sl 8)),
 .o (.move 35 (sl 0)),
 .o (.call (some 36) (cf 126) [(sl 35), (ci 3)]),
 .o (.bin 37 .sub (sl 36) (ci 1)),
 .o (.build 38 [.v (.int .i64 0), .v (.int .i64 0), .v (.int .i64 0), .v (.int .i64 0), .v (.slice none 0 0)] [(0, 1), (1, 1), (2, 1), (3, 1), (4, 1)] [(0, (ci 2)), (1, (sl 33)), (2, (sl 34)), (3, (sl 37))]),
 .o (.alloc 9 [.v (.int .i64 0), .v (.int .i64 0), .v (.int .i64 0), .v (.int .i64 0), .v (.slice none 0 0)]),
 .o (.store 5 (sl 9) (sl 38))])
 ((.seq (.seq (.reg [.o (.fld 39 3 (sl 9)),
 .o (.load1 40 (sl 39)),
 .o (.bin 41 .geq (sl 40) (ci 0))])
 ((.cond (sl 41) (.reg [.o (.move 42 (sl 0)),
 .o (.call (some 43) (cf 126) [(sl 42), (ci 6)]),
 .o (.fld 44 2 (sl 9)),
 .o (.store 1 (sl 44) (sl 43))])
 .skip)))
 ((.seq (.reg [.o (.move 45 (sl 1)),
 .o (.loadN 46 5 (sl 9)),
 .o (.bslice 47 5 1 [(0, (sl 46))]),
 .o (.app 48 5 56 (sl 45) (sl 47)),
 .o (.move 6 (sl 48))])
 (.ret))))))
 .skip)))
 ((.seq (.reg [.o (.move 49 (sl 1)),
 .o (.move 50 (sl 0)),
 .o (.call (some 51) (cf 126) [(sl 50), (ci 2)]),
 .o (.move 52 (sl 8)),
 .o (.move 53 (sl 8)),
 .o (.build 54 [.v (.int .i64 0), .v (.int .i64 0), .v (.int .i64 0), .v (.int .i64 0), .v (.slice none 0 0)] [(0, 1), (1, 1), (2, 1), (3, 1), (4, 1)] [(0, (sl 51)), (1, (sl 52)), (2, (sl 53)), (3, (ci (-1)))]),
 .o (.bslice 55 5 1 [(0, (sl 54))]),
 .o (.app 56 5 56 (sl 49) (sl 55)),
 .o (.move 1 (sl 56))])
 ((.seq (.reg [.o (.bslice 57 1 0 []),
 .o (.move 10 (sl 57))])
 ((.seq (.seq (.reg [.o (.move 58 (sl 0)),
 .o (.call (some 59) (cf 126) [(sl 58), (ci 3)]),
 .o (.bin 60 .add (ci 1) (sl 59)),
 .o (.move 11 (sl 60))])
 ((.block 0 (.loop (.seq (.seq (.reg [.o (.move 61 (sl 11)),
 .o (.bin 62 .gtr (sl 61) (ci 0))])
 ((.cond (sl 62) .skip
 (.exit 0))))
 ((.seq (.block 1 (.seq (.reg [.o (.move 65 (sl 10)),
 .o (.move 66 (sl 1)),
 .o (.lenS 67 (sl 66)),
 .o (.bslice 68 1 1 [(0, (sl 67))]),
 .o (.app 69 1 8 (sl 65) (sl 68)),
 .o (.move 10 (sl 69))])
 ((.reg [.o (.move 70 (sl 0)),
 .o (.move 71 (sl 1)),
 .o (.move 72 (sl 2)),
 .o (.bin 73 .sub (sl 72) (ci 1)),
 .o (.call (some 74) (cf 199) [(sl 70), (sl 71), (sl 73)]),
 .o (.move 1 (sl 74))]))))
 ((.reg [.o (.move 63 (sl 11)),
 .o (.bin 64 .sub (sl 63) (ci 1)),
 .o (.move 11 (sl 64))])))))))))
 ((.seq (.reg [.o (.move 75 (sl 1)),
 .o (.move 76 (sl 7)),
 .o (.move 77 (sl 10)),
 .o (.idx 78 5 (sl 75) (sl 76)),
 .o (.fld 79 4 (sl 78)),
 .o (.store 1 (sl 79) (sl 77))])
 ((.seq (.reg [.o (.move 80 (sl 1)),
 .o (.move 6 (sl 80))])
 (.ret))))))))))))))))))
theorem fun_spec_l20Random {rin : List T} {args : List A} {Q : List T → T → Prop} (ha : args.length ≤ 81) (h : cW Try.prog 81 c_spec_l20Random (retP Try.prog [.tmp 6] rin.length Q) (St.of (enum 0 args) (enum 1000000000 rin))) :
    Fun Try.prog 199 rin args Q :=
  Fun.of (H := ⟨[], []⟩) Try.func199 rfl rfl rfl (by kernel_rfl) ha (by decide) h

def c_impl_sumOf : CC :=
 (.seq (.reg [.o (.move 2 (ci 0))])
 ((.seq (.reg [.o (.move 3 (ci 0))])
 ((.seq (.seq (.reg [.o (.move 6 (sl 0)),
 .o (.lenS 7 (sl 6)),
 .o (.move 8 (ci 0))])
 ((.block 0 (.loop (.seq (.reg [.o (.bin 9 .lss (sl 8) (sl 7))])
 ((.seq (.cond (sl 9) .skip
 (.exit 0))
 ((.seq (.block 1 (.seq (.reg [.o (.idx 10 1 (sl 6) (sl 8)),
 .o (.load1 11 (sl 10)),
 .o (.move 5 (sl 11))])
 ((.reg [.o (.move 12 (sl 3)),
 .o (.move 13 (sl 5)),
 .o (.bin 14 .add (sl 12) (sl 13)),
 .o (.move 3 (sl 14))]))))
 ((.reg [.o (.bin 15 .add (sl 8) (ci 1)),
 .o (.move 8 (sl 15))])))))))))))
 ((.seq (.reg [.o (.move 16 (sl 3)),
 .o (.move 2 (sl 16))])
 (.ret))))))))
theorem fun_impl_sumOf {rin : List T} {args : List A} {Q : List T → T → Prop} (ha : args.length ≤ 17) (h : cW Try.prog 17 c_impl_sumOf (retP Try.prog [.tmp 2] rin.length Q) (St.of (enum 0 args) (enum 1000000000 rin))) :
    Fun Try.prog 200 rin args Q :=
  Fun.of (H := ⟨[], []⟩) Try.func200 rfl rfl rfl (by kernel_rfl) ha (by decide) h

def c_spec_l22Code : CC :=
 (.seq (.reg [.o (.box 2 (sl 0)),
 .o (.move 4 (ci 0))])
 ((.seq (.seq (.reg [.o (.loadN 5 3 (sl 2)),
 .o (.call (some 6) (cf 139) [(sl 5)]),
 .o (.un 7 .not (sl 6))])
 ((.cond (sl 7) (.seq (.reg [.o (.move 4 (ci 1))])
 (.ret))
 .skip)))
 ((.seq (.seq (.reg [.o (.move 8 (sl 1)),
 .o (.call (some 9) (cf 148) [(sl 8), (ci 0), (ci 1)]),
 .o (.un 10 .not (sl 9))])
 ((.cond (sl 10) (.seq (.reg [.o (.move 4 (ci 2))])
 (.ret))
 .skip)))
 ((.seq (.reg [.o (.move 4 (ci 0))])
 (.ret))))))))
theorem fun_spec_l22Code {rin : List T} {args : List A} {Q : List T → T → Prop} (ha : args.length ≤ 11) (h : cW Try.prog 11 c_spec_l22Code (retP Try.prog [.tmp 4] rin.length Q) (St.of (enum 0 args) (enum 1000000000 rin))) :
    Fun Try.prog 202 rin args Q :=
  Fun.of (H := ⟨[], []⟩) Try.func202 rfl rfl rfl (by kernel_rfl) ha (by decide) h

def c_spec_l22Pure : CC :=
 (.seq (.reg [.o (.alloc 6 [.v (.int .i64 0), .v (.slice none 0 0)])])
 ((.seq (.reg [.o (.bslice 10 1 0 []),
 .o (.move 7 (sl 10))])
 ((.seq (.seq (.reg [.o (.move 8 (ci 0))])
 ((.block 0 (.loop (.seq (.seq (.reg [.o (.move 11 (sl 8)),
 .o (.move 12 (sl 1)),
 .o (.lenS 13 (sl 12)),
 .o (.bin 14 .lss (sl 11) (sl 13))])
 ((.cond (sl 14) .skip
 (.exit 0))))
 ((.seq (.block 1 (.seq (.reg [.o (.move 17 (sl 1)),
 .o (.move 18 (sl 8)),
 .o (.idx 19 1 (sl 17) (sl 18)),
 .o (.load1 20 (sl 19)),
 .o (.make 21 [.v (.int .i64 0)] 8 (sl 20) (sl 20)),
 .o (.move 9 (sl 21))])
 ((.seq (.reg [.o (.move 22 (sl 9)),
 .o (.move 23 (sl 2)),
 .o (.move 24 (sl 8)),
 .o (.idx 25 1 (sl 23) (sl 24)),
 .o (.load1 26 (sl 25)),
 .o (.idx 27 1 (sl 22) (sl 26)),
 .o (.store 1 (sl 27) (ci 60))])
 ((.reg [.o (.move 28 (sl 7)),
 .o (.move 29 (sl 9)),
 .o (.bslice 30 1 1 [(0, (sl 29))]),
 .o (.app 31 1 24 (sl 28) (sl 30)),
 .o (.move 7 (sl 31))]))))))
 ((.reg [.o (.move 15 (sl 8)),
 .o (.bin 16 .add (sl 15) (ci 1)),
 .o (.move 8 (sl 16))])))))))))
 ((.seq (.reg [.o (.move 32 (sl 0)),
 .o (.move 33 (sl 7)),
 .o (.build 34 [.v (.int .i64 0), .v (.slice none 0 0)] [(0, 1), (1, 1)] [(0, (sl 32)), (1, (sl 33))]),
 .o (.store 2 (sl 6) (sl 34))])
 (.ret))))))))
theorem fun_spec_l22Pure {rin : List T} {args : List A} {Q : List T → T → Prop} (ha : args.length ≤ 35) (h : cW Try.prog 35 c_spec_l22Pure (retP Try.prog [.cell 6 47] rin.length Q) (St.of (enum 0 args) (enum 1000000000 rin))) :
    Fun Try.prog 203 rin args Q :=
  Fun.of (H := ⟨[], []⟩) Try.func203 rfl rfl rfl (by kernel_rfl) ha (by decide) h

def c_impl_CountPure : CC :=
 (.seq (.reg [.o (.box 2 (sl 0)),
 .o (.move 4 (ci 0)),
 .o (.move 5 (ci 0))])
 ((.seq (.seq (.reg [.o (.loadN 9 3 (sl 2)),
 .o (.call (some 10) (cf 115) [(sl 9)]),
 .o (.un 11 .not (sl 10))])
 ((.cond (sl 11) (.seq (.reg [.o (.move 4 (ci 0)),
 .o (.move 5 (ci 1))])
 (.ret))
 .skip)))
 ((.seq (.seq (.reg [.o (.move 12 (sl 1)),
 .o (.call (some 13) (cf 110) [(sl 12), (ci 0), (ci 1)]),
 .o (.un 14 .not (sl 13))])
 ((.cond (sl 14) (.seq (.reg [.o (.move 4 (ci 0)),
 .o (.move 5 (ci 2))])
 (.ret))
 .skip)))
 ((.seq (.reg [.o (.move 6 (ci 1))])
 ((.seq (.seq (.reg [.o (.loadN 15 3 (sl 2)),
 .o (.move 16 (sl 1)),
 .o (.call (some 17) (cf 152) [(sl 15), (sl 16)]),
 .o (.lenS 18 (sl 17)),
 .o (.move 19 (ci 0))])
 ((.block 0 (.loop (.seq (.reg [.o (.bin 20 .lss (sl 19) (sl 18))])
 ((.seq (.cond (sl 20) .skip
 (.exit 0))
 ((.seq (.block 1 (.seq (.reg [.o (.idx 21 1 (sl 17) (sl 19)),
 .o (.load1 22 (sl 21)),
 .o (.move 8 (sl 22))])
 ((.seq (.draw [] [(kR, .o (.move 23 (sl 6))),
 (kR, .o (.fld 24 0 (sl 2))),
 (kR, .o (.fld 25 0 (sl 24))),
 (kR, .o (.load1 26 (sl 25))),
 (kR, .o (.move 27 (sl 8))),
 (kR, .o (.idx 28 1 (sl 27) (ci 0))),
 (kR, .o (.load1 29 (sl 28))),
 (kR, .o (.idx 30 5 (sl 26) (sl 29))),
 (kR, .o (.fld 31 4 (sl 30))),
 (kR, .o (.load1 32 (sl 31))),
 (kR, .o (.lenS 33 (sl 32))),
 (kR, .o (.bin 34 .mul (sl 23) (sl 33))),
 (kR, .o (.move 6 (sl 34)))])
 ((.seq (.reg [.o (.move 35 (sl 6)),
 .o (.bin 36 .gtr (sl 35) (ci 1000000000))])
 ((.cond (sl 36) (.seq (.reg [.o (.move 4 (ci 0)),
 .o (.move 5 (ci 3))])
 (.ret))
 .skip))))))))
 ((.reg [.o (.bin 37 .add (sl 19) (ci 1)),
 .o (.move 19 (sl 37))])))))))))))
 ((.seq (.reg [.o (.move 38 (sl 6)),
 .o (.move 4 (sl 38)),
 .o (.move 5 (ci 0))])
 (.ret))))))))))))
theorem fun_impl_CountPure {rin : List T} {args : List A} {Q : List T → T → Prop} (ha : args.length ≤ 39) (h : cW Try.prog 39 c_impl_CountPure (retP Try.prog [.tmp 4, .tmp 5] rin.length Q) (St.of (enum 0 args) (enum 1000000000 rin))) :
    Fun Try.prog 205 rin args Q :=
  Fun.of (H := ⟨[], []⟩) Try.func205 rfl rfl rfl (by kernel_rfl) ha (by decide) h

def c_impl_increasing : CC :=
 (.seq (.reg [.o (.move 2 (cb false))])
 ((.seq (.seq (.reg [.o (.move 3 (ci 1))])
 ((.block 0 (.loop (.seq (.seq (.reg [.o (.move 4 (sl 3)),
 .o (.move 5 (sl 0)),
 .o (.lenS 6 (sl 5)),
 .o (.bin 7 .lss (sl 4) (sl 6))])
 ((.cond (sl 7) .skip
 (.exit 0))))
 ((.seq (.block 1 (.seq (.draw [] [(kR, .o (.move 10 (sl 0))),
 (kR, .o (.move 11 (sl 3))),
 (kR, .o (.bin 12 .sub (sl 11) (ci 1))),
 (kR, .o (.idx 13 1 (sl 10) (sl 12))),
 (kR, .o (.load1 14 (sl 13))),
 (kR, .o (.move 15 (sl 0))),
 (kR, .o (.move 16 (sl 3))),
 (kR, .o (.idx 17 1 (sl 15) (sl 16))),
 (kR, .o (.load1 18 (sl 17))),
 (kR, .o (.bin 19 .geq (sl 14) (sl 18)))])
 ((.cond (sl 19) (.seq (.reg [.o (.move 2 (cb false))])
 (.ret))
 .skip))))
 ((.reg [.o (.move 8 (sl 3)),
 .o (.bin 9 .add (sl 8) (ci 1)),
 .o (.move 3 (sl 9))])))))))))
 ((.seq (.reg [.o (.move 2 (cb true))])
 (.ret))))))
theorem fun_impl_increasing {rin : List T} {args : List A} {Q : List T → T → Prop} (ha : args.length ≤ 20) (h : cW Try.prog 20 c_impl_increasing (retP Try.prog [.tmp 2] rin.length Q) (St.of (enum 0 args) (enum 1000000000 rin))) :
    Fun Try.prog 212 rin args Q :=
  Fun.of (H := ⟨[], []⟩) Try.func212 rfl rfl rfl (by kernel_rfl) ha (by decide) h

def c_impl_payoffAt : CC :=
 (.seq (.reg [.o (.box 4 (sl 0)),
 .o (.move 8 (ci 0))])
 ((.seq (.reg [.o (.fld 11 0 (sl 4)),
 .o (.fld 12 0 (sl 11)),
 .o (.load1 13 (sl 12)),
 .o (.move 14 (sl 1)),
 .o (.idx 15 5 (sl 13) (sl 14)),
 .o (.loadN 16 5 (sl 15)),
 .o (.alloc 9 [.v (.int .i64 0), .v (.int .i64 0), .v (.int .i64 0), .v (.int .i64 0), .v (.slice none 0 0)]),
 .o (.store 5 (sl 9) (sl 16))])
 ((.seq (.reg [.o (.fld 17 2 (sl 4)),
 .o (.load1 18 (sl 17)),
 .o (.move 19 (sl 2)),
 .o (.idx 20 1 (sl 18) (sl 19)),
 .o (.load1 21 (sl 20)),
 .o (.move 22 (sl 3)),
 .o (.idx 23 1 (sl 21) (sl 22)),
 .o (.load1 24 (sl 23)),
 .o (.move 10 (sl 24))])
 ((.seq (.seq (.reg [.o (.fld 25 3 (sl 9)),
 .o (.load1 26 (sl 25))])
 ((.block 0 (.seq (.reg [.o (.bin 28 .eql (sl 26) (ci 0)),
 .o (.move 27 (sl 28))])
 ((.cond (sl 27) (.reg [.o (.move 10 (ci (-1)))])
 (.seq (.reg [.o (.bin 30 .eql (sl 26) (ci 1)),
 .o (.move 29 (sl 30))])
 ((.cond (sl 29) (.reg [.o (.move 10 (ci 1))])
 .skip)))))))))
 ((.seq (.seq (.reg [.o (.move 31 (sl 10))])
 ((.block 1 (.seq (.reg [.o (.bin 33 .eql (sl 31) (ci 1)),
 .o (.move 32 (sl 33))])
 ((.cond (sl 32) (.seq (.reg [.o (.fld 34 2 (sl 9)),
 .o (.load1 35 (sl 34)),
 .o (.move 8 (sl 35))])
 (.ret))
 (.seq (.reg [.o (.bin 37 .eql (sl 31) (ci (-1))),
 .o (.move 36 (sl 37))])
 ((.cond (sl 36) (.seq (.reg [.o (.fld 38 1 (sl 9)),
 .o (.load1 39 (sl 38)),
 .o (.un 40 .neg (sl 39)),
 .o (.move 8 (sl 40))])
 (.ret))
 .skip)))))))))
 ((.seq (.reg [.o (.move 8 (ci 0))])
 (.ret))))))))))))
theorem fun_impl_payoffAt {rin : List T} {args : List A} {Q : List T → T → Prop} (ha : args.length ≤ 41) (h : cW Try.prog 41 c_impl_payoffAt (retP Try.prog [.tmp 8] rin.length Q) (St.of (enum 0 args) (enum 1000000000 rin))) :
    Fun Try.prog 213 rin args Q :=
  Fun.of (H := ⟨[], []⟩) Try.func213 rfl rfl rfl (by kernel_rfl) ha (by decide) h

def c___impl_evaluator__partsAt : CC :=
 (.seq (.reg [.o (.move 8 (cv (.slice none 0 0)))])
 ((.seq (.reg [.o (.move 11 (sl 0)),
 .o (.nilc 12 (sl 11)),
 .o (.fld 13 0 (sl 12)),
 .o (.fld 14 0 (sl 13)),
 .o (.fld 15 0 (sl 14)),
 .o (.load1 16 (sl 15)),
 .o (.move 17 (sl 1)),
 .o (.idx 18 5 (sl 16) (sl 17)),
 .o (.fld 19 0 (sl 18)),
 .o (.load1 20 (sl 19)),
 .o (.move 9 (sl 20))])
 ((.seq (.reg [.o (.move 21 (sl 2)),
 .o (.move 10 (sl 21))])
 ((.seq (.seq (.reg [.o (.move 22 (sl 9)),
 .o (.bin 23 .eql (sl 22) (ci 1))])
 ((.cond (sl 23) (.reg [.o (.move 24 (sl 3)),
 .o (.move 10 (sl 24))])
 .skip)))
 ((.seq (.draw [] [(kR, .o (.move 25 (sl 0))),
 (kR, .o (.move 26 (sl 9))),
 (kR, .o (.nilc 27 (sl 25))),
 (kR, .o (.fld 28 5 (sl 27))),
 (kR, .o (.idxA 29 2 1 (sl 28) (sl 26))),
 (kR, .o (.load1 30 (sl 29))),
 (kR, .o (.move 31 (sl 0))),
 (kR, .o (.move 32 (sl 9))),
 (kR, .o (.nilc 33 (sl 31))),
 (kR, .o (.fld 34 3 (sl 33))),
 (kR, .o (.idxA 35 2 1 (sl 34) (sl 32))),
 (kR, .o (.load1 36 (sl 35))),
 (kR, .o (.move 37 (sl 1))),
 (kR, .o (.idx 38 1 (sl 36) (sl 37))),
 (kR, .o (.load1 39 (sl 38))),
 (kR, .o (.move 40 (sl 10))),
 (kR, .o (.bin 41 .add (sl 39) (sl 40))),
 (kR, .o (.idx 42 1 (sl 30) (sl 41))),
 (kR, .o (.load1 43 (sl 42))),
 (kR, .o (.move 8 (sl 43)))])
 (.ret))))))))))
theorem fun___impl_evaluator__partsAt {rin : List T} {args : List A} {Q : List T → T → Prop} (ha : args.length ≤ 44) (h : cW Try.prog 44 c___impl_evaluator__partsAt (retP Try.prog [.tmp 8] rin.length Q) (St.of (enum 0 args) (enum 1000000000 rin))) :
    Fun Try.prog 214 rin args Q :=
  Fun.of (H := ⟨[], []⟩) Try.func214 rfl rfl rfl (by kernel_rfl) ha (by decide) h

def c_spec_l21Payoff : CC :=
 (.seq (.reg [.o (.box 4 (sl 0)),
 .o (.move 8 (ci 0))])
 ((.seq (.reg [.o (.fld 11 0 (sl 4)),
 .o (.fld 12 0 (sl 11)),
 .o (.load1 13 (sl 12)),
 .o (.move 14 (sl 1)),
 .o (.idx 15 5 (sl 13) (sl 14)),
 .o (.loadN 16 5 (sl 15)),
 .o (.alloc 9 [.v (.int .i64 0), .v (.int .i64 0), .v (.int .i64 0), .v (.int .i64 0), .v (.slice none 0 0)]),
 .o (.store 5 (sl 9) (sl 16))])
 ((.seq (.reg [.o (.fld 17 2 (sl 4)),
 .o (.load1 18 (sl 17)),
 .o (.move 19 (sl 2)),
 .o (.idx 20 1 (sl 18) (sl 19)),
 .o (.load1 21 (sl 20)),
 .o (.move 22 (sl 3)),
 .o (.idx 23 1 (sl 21) (sl 22)),
 .o (.load1 24 (sl 23)),
 .o (.move 10 (sl 24))])
 ((.seq (.seq (.reg [.o (.fld 25 3 (sl 9)),
 .o (.load1 26 (sl 25))])
 ((.block 0 (.seq (.reg [.o (.bin 28 .eql (sl 26) (ci 0)),
 .o (.move 27 (sl 28))])
 ((.cond (sl 27) (.reg [.o (.move 10 (ci (-1)))])
 (.seq (.reg [.o (.bin 30 .eql (sl 26) (ci 1)),
 .o (.move 29 (sl 30))])
 ((.cond (sl 29) (.reg [.o (.move 10 (ci 1))])
 .skip)))))))))
 ((.seq (.seq (.reg [.o (.move 31 (sl 10))])
 ((.block 1 (.seq (.reg [.o (.bin 33 .eql (sl 31) (ci (-1))),
 .o (.move 32 (sl 33))])
 ((.cond (sl 32) (.seq (.reg [.o (.fld 34 1 (sl 9)),
 .o (.load1 35 (sl 34)),
 .o (.un 36 .neg (sl 35)),
 .o (.move 8 (sl 36))])
 (.ret))
 (.seq (.reg [.o (.bin 38 .eql (sl 31) (ci 1)),
 .o (.move 37 (sl 38))])
 ((.cond (sl 37) (.seq (.reg [.o (.fld 39 2 (sl 9)),
 .o (.load1 40 (sl 39)),
 .o (.move 8 (sl 40))])
 (.ret))
 .skip)))))))))
 ((.seq (.reg [.o (.move 8 (ci 0))])
 (.ret))))))))))))
theorem fun_spec_l21Payoff {rin : List T} {args : List A} {Q : List T → T → Prop} (ha : args.length ≤ 41) (h : cW Try.prog 41 c_spec_l21Payoff (retP Try.prog [.tmp 8] rin.length Q) (St.of (enum 0 args) (enum 1000000000 rin))) :
    Fun Try.prog 215 rin args Q :=
  Fun.of (H := ⟨[], []⟩) Try.func215 rfl rfl rfl (by kernel_rfl) ha (by decide) h

def c_spec_l23Choice : CC :=
 (.seq (.reg [.o (.box 6 (sl 0)),
 .o (.box 7 (sl 1)),
 .o (.box 8 (sl 2)),
 .o (.move 12 (cv (.slice none 0 0)))])
 ((.seq (.seq (.reg [.o (.fld 13 0 (sl 6)),
 .o (.fld 14 0 (sl 13)),
 .o (.load1 15 (sl 14)),
 .o (.move 16 (sl 3)),
 .o (.idx 17 5 (sl 15) (sl 16)),
 .o (.fld 18 0 (sl 17)),
 .o (.load1 19 (sl 18)),
 .o (.bin 20 .eql (sl 19) (ci 0))])
 ((.cond (sl 20) (.seq (.draw [] [(kR, .o (.fld 21 1 (sl 7))),
 (kR, .o (.load1 22 (sl 21))),
 (kR, .o (.loadN 23 3 (sl 6))),
 (kR, .o (.move 24 (sl 3))),
 (kR, .o (.move 25 (sl 4))),
 (kR, .o (.call (some 26) (cf 221) [(sl 23), (ci 0), (sl 24), (sl 25)])),
 (kR, .o (.idx 27 1 (sl 22) (sl 26))),
 (kR, .o (.load1 28 (sl 27))),
 (kR, .o (.move 12 (sl 28)))])
 (.ret))
 .skip)))
 ((.seq (.draw [] [(kR, .o (.fld 29 1 (sl 8))),
 (kR, .o (.load1 30 (sl 29))),
 (kR, .o (.loadN 31 3 (sl 6))),
 (kR, .o (.move 32 (sl 3))),
 (kR, .o (.move 33 (sl 5))),
 (kR, .o (.call (some 34) (cf 221) [(sl 31), (ci 1), (sl 32), (sl 33)])),
 (kR, .o (.idx 35 1 (sl 30) (sl 34))),
 (kR, .o (.load1 36 (sl 35))),
 (kR, .o (.move 12 (sl 36)))])
 (.ret))))))
theorem fun_spec_l23Choice {rin : List T} {args : List A} {Q : List T → T → Prop} (ha : args.length ≤ 37) (h : cW Try.prog 37 c_spec_l23Choice (retP Try.prog [.tmp 12] rin.length Q) (St.of (enum 0 args) (enum 1000000000 rin))) :
    Fun Try.prog 216 rin args Q :=
  Fun.of (H := ⟨[], []⟩) Try.func216 rfl rfl rfl (by kernel_rfl) ha (by decide) h

def c_spec_l20Grow : CC :=
 (.seq (.reg [.o (.move 14 (cv (.slice none 0 0)))])
 ((.seq (.reg [.o (.move 19 (sl 0)),
 .o (.lenS 20 (sl 19)),
 .o (.move 15 (sl 20))])
 ((.seq (.reg [.o (.move 21 (sl 0)),
 .o (.move 22 (sl 1)),
 .o (.move 23 (sl 2)),
 .o (.move 24 (sl 3)),
 .o (.build 25 [.v (.int .i64 0), .v (.int .i64 0), .v (.int .i64 0), .v (.int .i64 0), .v (.slice none 0 0)] [(0, 1), (1, 1), (2, 1), (3, 1), (4, 1)] [(0, (sl 22)), (1, (sl 23)), (2, (sl 24)), (3, (ci (-1)))]),
 .o (.bslice 26 5 1 [(0, (sl 25))]),
 .o (.app 27 5 56 (sl 21) (sl 26)),
 .o (.move 0 (sl 27))])
 ((.seq (.reg [.o (.move 28 (sl 2)),
 .o (.move 29 (sl 3)),
 .o (.move 16 (sl 28)),
 .o (.move 17 (sl 29))])
 ((.seq (.seq (.reg [.o (.move 30 (sl 1)),
 .o (.bin 31 .eql (sl 30) (ci 1))])
 ((.cond (sl 31) (.reg [.o (.move 32 (sl 3)),
 .o (.move 33 (sl 2)),
 .o (.move 16 (sl 32)),
 .o (.move 17 (sl 33))])
 .skip)))
 ((.seq (.reg [.o (.move 34 (sl 0)),
 .o (.lenS 35 (sl 34)),
 .o (.bslice 36 1 1 [(0, (sl 35))]),
 .o (.move 18 (sl 36))])
 ((.seq (.block 0 (.seq (.reg [.o (.move 46 (sl 16)),
 .o (.move 47 (sl 17)),
 .o (.bin 48 .lss (sl 46) (sl 47)),
 .o (.move 45 (sl 48))])
 ((.cond (sl 45) (.seq (.reg [.o (.move 49 (sl 0)),
 .o (.move 50 (sl 2)),
 .o (.move 51 (sl 3)),
 .o (.move 52 (sl 1)),
 .o (.build 53 [.v (.int .i64 0), .v (.int .i64 0), .v (.int .i64 0), .v (.int .i64 0), .v (.slice none 0 0)] [(0, 1), (1, 1), (2, 1), (3, 1), (4, 1)] [(0, (ci 2)), (1, (sl 50)), (2, (sl 51)), (3, (sl 52))]),
 .o (.bslice 54 5 1 [(0, (sl 53))]),
 .o (.app 55 5 56 (sl 49) (sl 54)),
 .o (.move 0 (sl 55))])
 ((.seq (.reg [.o (.move 56 (sl 18)),
 .o (.move 57 (sl 0)),
 .o (.lenS 58 (sl 57)),
 .o (.bslice 59 1 1 [(0, (sl 58))]),
 .o (.app 60 1 8 (sl 56) (sl 59)),
 .o (.move 18 (sl 60))])
 ((.seq (.reg [.o (.move 61 (sl 0)),
 .o (.move 62 (sl 17)),
 .o (.move 63 (sl 17)),
 .o (.build 64 [.v (.int .i64 0), .v (.int .i64 0), .v (.int .i64 0), .v (.int .i64 0), .v (.slice none 0 0)] [(0, 1), (1, 1), (2, 1), (3, 1), (4, 1)] [(0, (ci 2)), (1, (sl 62)), (2, (sl 63)), (3, (ci (-1)))]),
 .o (.bslice 65 5 1 [(0, (sl 64))]),
 .o (.app 66 5 56 (sl 61) (sl 65)),
 .o (.move 0 (sl 66))])
 ((.seq (.seq (.reg [.o (.move 67 (sl 5)),
 .o (.bin 68 .eql (sl 67) (ci 0))])
 ((.cond (sl 68) (.seq (.reg [.o (.move 69 (sl 0)),
 .o (.move 70 (sl 15)),
 .o (.move 71 (sl 18)),
 .o (.idx 72 5 (sl 69) (sl 70)),
 .o (.fld 73 4 (sl 72)),
 .o (.store 1 (sl 73) (sl 71))])
 ((.seq (.reg [.o (.move 74 (sl 0)),
 .o (.move 14 (sl 74))])
 (.ret))))
 .skip)))
 ((.reg [.o (.move 75 (sl 5)),
 .o (.bin 76 .sub (sl 75) (ci 1)),
 .o (.move 5 (sl 76))])))))))))
 (.seq (.reg [.o (.move 78 (sl 6)),
 .o (.move 77 (sl 78))])
 ((.cond (sl 77) (.reg [.o (.move 79 (sl 0)),
 .o (.move 80 (sl 2)),
 .o (.move 81 (sl 3)),
 .o (.build 82 [.v (.int .i64 0), .v (.int .i64 0), .v (.int .i64 0), .v (.int .i64 0), .v (.slice none 0 0)] [(0, 1), (1, 1), (2, 1), (3, 1), (4, 1)] [(0, (ci 2)), (1, (sl 80)), (2, (sl 81)), (3, (ci (-1)))]),
 .o (.bslice 83 5 1 [(0, (sl 82))]),
 .o (.app 84 5 56 (sl 79) (sl 83)),
 .o (.move 0 (sl 84))])
 (.reg [.o (.move 37 (sl 0)),
 .o (.move 38 (sl 1)),
 .o (.bin 39 .sub (ci 1) (sl 38)),
 .o (.move 40 (sl 2)),
 .o (.move 41 (sl 3)),
 .o (.move 42 (sl 4)),
 .o (.move 43 (sl 5)),
 .o (.call (some 44) (cf 217) [(sl 37), (sl 39), (sl 40), (sl 41), (sl 42), (sl 43), (cb true)]),
 .o (.move 0 (sl 44))]))))))))
 ((.seq (.reg [.o (.move 85 (sl 18)),
 .o (.move 86 (sl 0)),
 .o (.lenS 87 (sl 86)),
 .o (.bslice 88 1 1 [(0, (sl 87))]),
 .o (.app 89 1 8 (sl 85) (sl 88)),
 .o (.move 18 (sl 89))])
 ((.seq (.seq (.reg [.o (.move 90 (sl 1)),
 .o (.bin 91 .eql (sl 90) (ci 0))])
 ((.cond (sl 91) (.reg [.o (.move 92 (sl 17)),
 .o (.move 93 (sl 4)),
 .o (.bin 94 .add (sl 92) (sl 93)),
 .o (.move 2 (sl 94))])
 (.reg [.o (.move 95 (sl 17)),
 .o (.move 96 (sl 4)),
 .o (.bin 97 .add (sl 95) (sl 96)),
 .o (.move 3 (sl 97))]))))
 ((.seq (.reg [.o (.move 98 (sl 0)),
 .o (.move 99 (sl 1)),
 .o (.bin 100 .sub (ci 1) (sl 99)),
 .o (.move 101 (sl 2)),
 .o (.move 102 (sl 3)),
 .o (.move 103 (sl 4)),
 .o (.move 104 (sl 5)),
 .o (.call (some 105) (cf 217) [(sl 98), (sl 100), (sl 101), (sl 102), (sl 103), (sl 104), (cb false)]),
 .o (.move 0 (sl 105))])
 ((.seq (.reg [.o (.move 106 (sl 0)),
 .o (.move 107 (sl 15)),
 .o (.move 108 (sl 18)),
 .o (.idx 109 5 (sl 106) (sl 107)),
 .o (.fld 110 4 (sl 109)),
 .o (.store 1 (sl 110) (sl 108))])
 ((.seq (.reg [.o (.move 111 (sl 0)),
 .o (.move 14 (sl 111))])
 (.ret))))))))))))))))))))))))
theorem fun_spec_l20Grow {rin : List T} {args : List A} {Q : List T → T → Prop} (ha : args.length ≤ 112) (h : cW Try.prog 112 c_spec_l20Grow (retP Try.prog [.tmp 14] rin.length Q) (St.of (enum 0 args) (enum 1000000000 rin))) :
    Fun Try.prog 217 rin args Q :=
  Fun.of (H := ⟨[], []⟩) Try.func217 rfl rfl rfl (by kernel_rfl) ha (by decide) h

def c_spec_l04Order : CC :=
 (.seq (.reg [.o (.move 4 (ci 0))])
 ((.seq (.block 0 (.seq (.reg [.o (.move 6 (sl 0)),
 .o (.move 7 (sl 1)),
 .o (.bin 8 .lss (sl 6) (sl 7)),
 .o (.move 5 (sl 8))])
 ((.cond (sl 5) (.seq (.reg [.o (.move 4 (ci (-1)))])
 (.ret))
 (.seq (.reg [.o (.move 10 (sl 0)),
 .o (.move 11 (sl 1)),
 .o (.bin 12 .gtr (sl 10) (sl 11)),
 .o (.move 9 (sl 12))])
 ((.cond (sl 9) (.seq (.reg [.o (.move 4 (ci 1))])
 (.ret))
 .skip)))))))
 ((.seq (.reg [.o (.move 4 (ci 0))])
 (.ret))))))
theorem fun_spec_l04Order {rin : List T} {args : List A} {Q : List T → T → Prop} (ha : args.length ≤ 13) (h : cW Try.prog 13 c_spec_l04Order (retP Try.prog [.tmp 4] rin.length Q) (St.of (enum 0 args) (enum 1000000000 rin))) :
    Fun Try.prog 218 rin args Q :=
  Fun.of (H := ⟨[], []⟩) Try.func218 rfl rfl rfl (by kernel_rfl) ha (by decide) h

def c_spec_l21Tree : CC :=
 (.seq (.reg [.o (.box 1 (sl 0)),
 .o (.alloc 2 [.v (.slice none 0 0)])])
 ((.seq (.reg [.o (.bslice 6 5 0 []),
 .o (.move 3 (sl 6))])
 ((.seq (.seq (.reg [.o (.move 4 (ci 0))])
 ((.block 0 (.loop (.seq (.seq (.reg [.o (.move 7 (sl 4)),
 .o (.fld 8 0 (sl 1)),
 .o (.load1 9 (sl 8)),
 .o (.lenS 10 (sl 9)),
 .o (.bin 11 .lss (sl 7) (sl 10))])
 ((.cond (sl 11) .skip
 (.exit 0))))
 ((.seq (.block 1 (.seq (.reg [.o (.fld 14 0 (sl 1)),
 .o (.load1 15 (sl 14)),
 .o (.move 16 (sl 4)),
 .o (.idx 17 5 (sl 15) (sl 16)),
 .o (.loadN 18 5 (sl 17)),
 .o (.alloc 5 [.v (.int .i64 0), .v (.int .i64 0), .v (.int .i64 0), .v (.int .i64 0), .v (.slice none 0 0)]),
 .o (.store 5 (sl 5) (sl 18))])
 ((.seq (.reg [.o (.fld 19 4 (sl 5)),
 .o (.load1 20 (sl 19)),
 .o (.call (some 21) (cf 167) [(sl 20)]),
 .o (.fld 22 4 (sl 5)),
 .o (.store 1 (sl 22) (sl 21))])
 ((.reg [.o (.move 23 (sl 3)),
 .o (.loadN 24 5 (sl 5)),
 .o (.bslice 25 5 1 [(0, (sl 24))]),
 .o (.app 26 5 56 (sl 23) (sl 25)),
 .o (.move 3 (sl 26))]))))))
 ((.reg [.o (.move 12 (sl 4)),
 .o (.bin 13 .add (sl 12) (ci 1)),
 .o (.move 4 (sl 13))])))))))))
 ((.seq (.reg [.o (.move 27 (sl 3)),
 .o (.build 28 [.v (.slice none 0 0)] [(0, 1)] [(0, (sl 27))]),
 .o (.store 1 (sl 2) (sl 28))])
 (.ret))))))))
theorem fun_spec_l21Tree {rin : List T} {args : List A} {Q : List T → T → Prop} (ha : args.length ≤ 29) (h : cW Try.prog 29 c_spec_l21Tree (retP Try.prog [.cell 2 33] rin.length Q) (St.of (enum 0 args) (enum 1000000000 rin))) :
    Fun Try.prog 219 rin args Q :=
  Fun.of (H := ⟨[], []⟩) Try.func219 rfl rfl rfl (by kernel_rfl) ha (by decide) h

def c_spec_l20Of : CC :=
 (.seq (.reg [.o (.box 2 (sl 0)),
 .o (.move 4 (cv (.slice none 0 0)))])
 ((.seq (.reg [.o (.bslice 7 1 0 []),
 .o (.move 5 (sl 7))])
 ((.seq (.seq (.reg [.o (.move 6 (ci 0))])
 ((.block 0 (.loop (.seq (.seq (.reg [.o (.move 8 (sl 6)),
 .o (.fld 9 0 (sl 2)),
 .o (.load1 10 (sl 9)),
 .o (.lenS 11 (sl 10)),
 .o (.bin 12 .lss (sl 8) (sl 11))])
 ((.cond (sl 12) .skip
 (.exit 0))))
 ((.seq (.block 1 (.seq (.reg [.o (.fld 15 0 (sl 2)),
 .o (.load1 16 (sl 15)),
 .o (.move 17 (sl 6)),
 .o (.idx 18 5 (sl 16) (sl 17)),
 .o (.fld 19 0 (sl 18)),
 .o (.load1 20 (sl 19)),
 .o (.move 21 (sl 1)),
 .o (.bin 22 .eql (sl 20) (sl 21))])
 ((.cond (sl 22) (.reg [.o (.move 23 (sl 5)),
 .o (.move 24 (sl 6)),
 .o (.bslice 25 1 1 [(0, (sl 24))]),
 .o (.app 26 1 8 (sl 23) (sl 25)),
 .o (.move 5 (sl 26))])
 .skip))))
 ((.reg [.o (.move 13 (sl 6)),
 .o (.bin 14 .add (sl 13) (ci 1)),
 .o (.move 6 (sl 14))])))))))))
 ((.seq (.reg [.o (.move 27 (sl 5)),
 .o (.move 4 (sl 27))])
 (.ret))))))))
theorem fun_spec_l20Of {rin : List T} {args : List A} {Q : List T → T → Prop} (ha : args.length ≤ 28) (h : cW Try.prog 28 c_spec_l20Of (retP Try.prog [.tmp 4] rin.length Q) (St.of (enum 0 args) (enum 1000000000 rin))) :
    Fun Try.prog 220 rin args Q :=
  Fun.of (H := ⟨[], []⟩) Try.func220 rfl rfl rfl (by kernel_rfl) ha (by decide) h

def c_spec_l23Set : CC :=
 (.seq (.reg [.o (.box 4 (sl 0)),
 .o (.move 8 (ci 0))])
 ((.seq (.reg [.o (.fld 11 0 (sl 4)),
 .o (.loadN 12 1 (sl 11)),
 .o (.move 13 (sl 1)),
 .o (.call (some 14) (cf 220) [(sl 12), (sl 13)]),
 .o (.move 9 (sl 14))])
 ((.seq (.seq (.reg [.o (.move 10 (ci 0))])
 ((.block 0 (.loop (.seq (.seq (.reg [.o (.move 15 (sl 10)),
 .o (.move 16 (sl 9)),
 .o (.lenS 17 (sl 16)),
 .o (.bin 18 .lss (sl 15) (sl 17))])
 ((.cond (sl 18) .skip
 (.exit 0))))
 ((.seq (.block 1 (.seq (.reg [.o (.move 21 (sl 9)),
 .o (.move 22 (sl 10)),
 .o (.idx 23 1 (sl 21) (sl 22)),
 .o (.load1 24 (sl 23)),
 .o (.move 25 (sl 2)),
 .o (.bin 26 .eql (sl 24) (sl 25))])
 ((.cond (sl 26) (.seq (.reg [.o (.move 27 (sl 10)),
 .o (.fld 28 1 (sl 4)),
 .o (.load1 29 (sl 28)),
 .o (.lenS 30 (sl 29)),
 .o (.bin 31 .mul (sl 27) (sl 30)),
 .o (.move 32 (sl 3)),
 .o (.bin 33 .add (sl 31) (sl 32)),
 .o (.move 8 (sl 33))])
 (.ret))
 .skip))))
 ((.reg [.o (.move 19 (sl 10)),
 .o (.bin 20 .add (sl 19) (ci 1)),
 .o (.move 10 (sl 20))])))))))))
 ((.seq (.reg [.o (.move 8 (ci (-1)))])
 (.ret))))))))
theorem fun_spec_l23Set {rin : List T} {args : List A} {Q : List T → T → Prop} (ha : args.length ≤ 34) (h : cW Try.prog 34 c_spec_l23Set (retP Try.prog [.tmp 8] rin.length Q) (St.of (enum 0 args) (enum 1000000000 rin))) :
    Fun Try.prog 221 rin args Q :=
  Fun.of (H := ⟨[], []⟩) Try.func221 rfl rfl rfl (by kernel_rfl) ha (by decide) h

def c_spec_l20Node : CC :=
 (.seq (.reg [.o (.box 2 (sl 0)),
 .o (.move 4 (cb false))])
 ((.seq (.reg [.o (.fld 6 0 (sl 2)),
 .o (.load1 7 (sl 6)),
 .o (.move 8 (sl 1)),
 .o (.idx 9 5 (sl 7) (sl 8)),
 .o (.loadN 10 5 (sl 9)),
 .o (.alloc 5 [.v (.int .i64 0), .v (.int .i64 0), .v (.int .i64 0), .v (.int .i64 0), .v (.slice none 0 0)]),
 .o (.store 5 (sl 5) (sl 10))])
 ((.seq (.seq (.reg [.o (.fld 11 0 (sl 5)),
 .o (.load1 12 (sl 11)),
 .o (.call (some 13) (cf 148) [(sl 12), (ci 0), (ci 2)]),
 .o (.un 14 .not (sl 13)),
 .o (.move 15 (sl 14)),
 .g 15 false (some 16) (.fld 16 1 (sl 5)),
 .g 15 false (some 17) (.load1 17 (sl 16)),
 .g 15 false (some 18) (.call (some 18) (cf 148) [(sl 17), (ci 0), (ci 100)]),
 .g 15 false (some 19) (.un 19 .not (sl 18)),
 .o (.pick 20 (sl 15) (cb true) (sl 19)),
 .o (.move 21 (sl 20)),
 .g 21 false (some 22) (.fld 22 2 (sl 5)),
 .g 21 false (some 23) (.load1 23 (sl 22)),
 .g 21 false (some 24) (.call (some 24) (cf 148) [(sl 23), (ci 0), (ci 100)]),
 .g 21 false (some 25) (.un 25 .not (sl 24)),
 .o (.pick 26 (sl 21) (cb true) (sl 25)),
 .o (.move 27 (sl 26)),
 .g 27 false (some 28) (.fld 28 3 (sl 5)),
 .g 27 false (some 29) (.load1 29 (sl 28)),
 .g 27 false (some 30) (.call (some 30) (cf 148) [(sl 29), (ci (-1)), (ci 1)]),
 .g 27 false (some 31) (.un 31 .not (sl 30)),
 .o (.pick 32 (sl 27) (cb true) (sl 31))])
 ((.cond (sl 32) (.seq (.reg [.o (.move 4 (cb false))])
 (.ret))
 .skip)))
 ((.seq (.seq (.reg [.o (.fld 33 0 (sl 5)),
 .o (.load1 34 (sl 33)),
 .o (.bin 35 .eql (sl 34) (ci 2))])
 ((.cond (sl 35) (.seq (.reg [.o (.fld 36 4 (sl 5)),
 .o (.load1 37 (sl 36)),
 .o (.lenS 38 (sl 37)),
 .o (.bin 39 .eql (sl 38) (ci 0)),
 .o (.move 40 (sl 39)),
 .g 40 true (some 41) (.fld 41 3 (sl 5)),
 .g 40 true (some 42) (.load1 42 (sl 41)),
 .g 40 true (some 43) (.bin 43 .geq (sl 42) (ci 0)),
 .g 40 true (some 44) (.move 44 (sl 43)),
 .g 44 false (some 45) (.fld 45 1 (sl 5)),
 .g 44 false (some 46) (.load1 46 (sl 45)),
 .g 44 false (some 47) (.fld 47 2 (sl 5)),
 .g 44 false (some 48) (.load1 48 (sl 47)),
 .g 44 false (some 49) (.bin 49 .eql (sl 46) (sl 48)),
 .g 40 true (some 50) (.pick 50 (sl 44) (cb true) (sl 49)),
 .o (.pick 51 (sl 40) (sl 50) (cb false)),
 .o (.move 4 (sl 51))])
 (.ret))
 .skip)))
 ((.seq (.seq (.reg [.o (.fld 52 3 (sl 5)),
 .o (.load1 53 (sl 52)),
 .o (.bin 54 .neq (sl 53) (ci (-1))),
 .o (.move 55 (sl 54)),
 .g 55 false (some 56) (.fld 56 4 (sl 5)),
 .g 55 false (some 57) (.load1 57 (sl 56)),
 .g 55 false (some 58) (.lenS 58 (sl 57)),
 .g 55 false (some 59) (.call (some 59) (cf 148) [(sl 58), (ci 1), (ci 4)]),
 .g 55 false (some 60) (.un 60 .not (sl 59)),
 .o (.pick 61 (sl 55) (cb true) (sl 60)),
 .o (.move 62 (sl 61)),
 .g 62 false (some 63) (.fld 63 4 (sl 5)),
 .g 62 false (some 64) (.load1 64 (sl 63)),
 .g 62 false (some 65) (.fld 65 0 (sl 2)),
 .g 62 false (some 66) (.load1 66 (sl 65)),
 .g 62 false (some 67) (.lenS 67 (sl 66)),
 .g 62 false (some 68) (.call (some 68) (cf 228) [(sl 64), (sl 67)]),
 .g 62 false (some 69) (.un 69 .not (sl 68)),
 .o (.pick 70 (sl 62) (cb true) (sl 69))])
 ((.cond (sl 70) (.seq (.reg [.o (.move 4 (cb false))])
 (.ret))
 .skip)))
 ((.seq (.reg [.o (.fld 71 4 (sl 5)),
 .o (.load1 72 (sl 71)),
 .o (.idx 73 1 (sl 72) (ci 0)),
 .o (.load1 74 (sl 73)),
 .o (.move 75 (sl 1)),
 .o (.bin 76 .gtr (sl 74) (sl 75)),
 .o (.move 4 (sl 76))])
 (.ret))))))))))))
theorem fun_spec_l20Node {rin : List T} {args : List A} {Q : List T → T → Prop} (ha : args.length ≤ 77) (h : cW Try.prog 77 c_spec_l20Node (retP Try.prog [.tmp 4] rin.length Q) (St.of (enum 0 args) (enum 1000000000 rin))) :
    Fun Try.prog 224 rin args Q :=
  Fun.of (H := ⟨[], []⟩) Try.func224 rfl rfl rfl (by kernel_rfl) ha (by decide) h

def c_spec_l20Valid : CC :=
 (.seq (.reg [.o (.alloc 2 [.v (.slice none 0 0)])])
 ((.seq (.seq (.reg [.o (.move 8 (sl 0)),
 .o (.call (some 9) (cf 126) [(sl 8), (ci 5)])])
 ((.block 0 (.seq (.reg [.o (.bin 11 .eql (sl 9) (ci 0)),
 .o (.move 10 (sl 11))])
 ((.cond (sl 10) (.seq (.reg [.o (.bslice 12 5 0 []),
 .o (.move 3 (sl 12))])
 ((.seq (.reg [.o (.move 13 (sl 0)),
 .o (.move 14 (sl 3)),
 .o (.call (some 15) (cf 199) [(sl 13), (sl 14), (ci 3)]),
 .o (.move 3 (sl 15))])
 ((.seq (.reg [.o (.move 16 (sl 3)),
 .o (.build 17 [.v (.slice none 0 0)] [(0, 1)] [(0, (sl 16))]),
 .o (.store 1 (sl 2) (sl 17))])
 (.ret))))))
 (.seq (.reg [.o (.bin 19 .eql (sl 9) (ci 1)),
 .o (.move 18 (sl 19))])
 ((.cond (sl 18) (.seq (.reg [.o (.move 21 (sl 0)),
 .o (.call (some 22) (cf 126) [(sl 21), (ci 4)]),
 .o (.move 23 (sl 0)),
 .o (.call (some 24) (cf 126) [(sl 23), (ci 5)]),
 .o (.bin 25 .add (ci 1) (sl 24)),
 .o (.call (some 26) (cf 184) [(sl 22), (sl 25), (ci 1)]),
 .o (.move 20 (sl 26)),
 .o (.extract 27 (sl 20) 0),
 .o (.extract 28 (sl 20) 1),
 .o (.alloc 4 [.v (.slice none 0 0)]),
 .o (.store 1 (sl 4) (sl 27)),
 .o (.move 5 (sl 28))])
 ((.seq (.reg [.o (.loadN 29 1 (sl 4)),
 .o (.store 1 (sl 2) (sl 29))])
 (.ret))))
 .skip)))))))))
 ((.seq (.reg [.o (.move 31 (sl 0)),
 .o (.call (some 32) (cf 126) [(sl 31), (ci 3)]),
 .o (.bin 33 .add (ci 1) (sl 32)),
 .o (.move 34 (sl 0)),
 .o (.call (some 35) (cf 126) [(sl 34), (ci 4)]),
 .o (.bin 36 .add (ci 1) (sl 35)),
 .o (.call (some 37) (cf 184) [(sl 33), (sl 36), (ci 0)]),
 .o (.move 30 (sl 37)),
 .o (.extract 38 (sl 30) 0),
 .o (.extract 39 (sl 30) 1),
 .o (.alloc 6 [.v (.slice none 0 0)]),
 .o (.store 1 (sl 6) (sl 38)),
 .o (.move 7 (sl 39))])
 ((.seq (.reg [.o (.loadN 40 1 (sl 6)),
 .o (.store 1 (sl 2) (sl 40))])
 (.ret))))))))
theorem fun_spec_l20Valid {rin : List T} {args : List A} {Q : List T → T → Prop} (ha : args.length ≤ 41) (h : cW Try.prog 41 c_spec_l20Valid (retP Try.prog [.cell 2 33] rin.length Q) (St.of (enum 0 args) (enum 1000000000 rin))) :
    Fun Try.prog 227 rin args Q :=
  Fun.of (H := ⟨[], []⟩) Try.func227 rfl rfl rfl (by kernel_rfl) ha (by decide) h

def c_spec_l01Rises : CC :=
 (.seq (.reg [.o (.move 4 (cb false))])
 ((.seq (.seq (.reg [.o (.move 5 (ci 0))])
 ((.block 0 (.loop (.seq (.seq (.reg [.o (.move 6 (sl 5)),
 .o (.move 7 (sl 0)),
 .o (.lenS 8 (sl 7)),
 .o (.bin 9 .lss (sl 6) (sl 8))])
 ((.cond (sl 9) .skip
 (.exit 0))))
 ((.seq (.block 1 (.seq (.draw [] [(kR, .o (.move 12 (sl 0))),
 (kR, .o (.move 13 (sl 5))),
 (kR, .o (.idx 14 1 (sl 12) (sl 13))),
 (kR, .o (.load1 15 (sl 14))),
 (kR, .o (.move 16 (sl 1))),
 (kR, .o (.bin 17 .sub (sl 16) (ci 1))),
 (kR, .o (.call (some 18) (cf 148) [(sl 15), (ci 0), (sl 17)])),
 (kR, .o (.un 19 .not (sl 18))),
 (kR, .o (.move 20 (sl 19))),
 (kR, .g 20 false (some 21) (.move 21 (sl 5))),
 (kR, .g 20 false (some 22) (.bin 22 .gtr (sl 21) (ci 0))),
 (kR, .g 20 false (some 23) (.move 23 (sl 22))),
 (kR, .g 23 true (some 24) (.move 24 (sl 0))),
 (kR, .g 23 true (some 25) (.move 25 (sl 5))),
 (kR, .g 23 true (some 26) (.idx 26 1 (sl 24) (sl 25))),
 (kR, .g 23 true (some 27) (.load1 27 (sl 26))),
 (kR, .g 23 true (some 28) (.move 28 (sl 0))),
 (kR, .g 23 true (some 29) (.move 29 (sl 5))),
 (kR, .g 23 true (some 30) (.bin 30 .sub (sl 29) (ci 1))),
 (kR, .g 23 true (some 31) (.idx 31 1 (sl 28) (sl 30))),
 (kR, .g 23 true (some 32) (.load1 32 (sl 31))),
 (kR, .g 23 true (some 33) (.bin 33 .leq (sl 27) (sl 32))),
 (kR, .g 20 false (some 34) (.pick 34 (sl 23) (sl 33) (cb false))),
 (kR, .o (.pick 35 (sl 20) (cb true) (sl 34)))])
 ((.cond (sl 35) (.seq (.reg [.o (.move 4 (cb false))])
 (.ret))
 .skip))))
 ((.reg [.o (.move 10 (sl 5)),
 .o (.bin 11 .add (sl 10) (ci 1)),
 .o (.move 5 (sl 11))])))))))))
 ((.seq (.reg [.o (.move 4 (cb true))])
 (.ret))))))
theorem fun_spec_l01Rises {rin : List T} {args : List A} {Q : List T → T → Prop} (ha : args.length ≤ 36) (h : cW Try.prog 36 c_spec_l01Rises (retP Try.prog [.tmp 4] rin.length Q) (St.of (enum 0 args) (enum 1000000000 rin))) :
    Fun Try.prog 228 rin args Q :=
  Fun.of (H := ⟨[], []⟩) Try.func228 rfl rfl rfl (by kernel_rfl) ha (by decide) h

end Go.Ab

/- Contracts: whole numbers, IsMatrix. -/
set_option linter.unusedSimpArgs false
set_option linter.unusedVariables false
namespace Go.Ab
open Go.Proofs

theorem impl_within_ok (n lo hi : Int) : Pure Try.prog 110 [.i n, .i lo, .i hi] (.b (decide (lo ≤ n ∧ n ≤ hi))) := by
  refine fun_impl_within (by simp) ?_
  simp -implicitDefEqProofs only [c_impl_within, go_sem]
  refine ⟨fun h => ?_, fun h => ?_⟩
  · have : lo ≤ n := h
    simp [this]
  · have : ¬ lo ≤ n := h
    simp [this]

theorem impl_allWithin_ok (l : List Int) (lo hi : Int) (hl : l.length ≤ 1000000000000) : Pure Try.prog 176 [ints l, .i lo, .i hi] (.b (l.all fun x => decide (lo ≤ x ∧ x ≤ hi))) := by
  refine fun_impl_allWithin (by simp) ?_
  simp -implicitDefEqProofs only [c_impl_allWithin, ints, go_sem]
  refine SemC.loopR (σ := Nat) (fun i => St.of [(0, .t (ints l)), (1, .t (.i lo)), (2, .t (.i hi)), (6, .t (.b false)), (9, .t (ints l)), (10, .t (.i l.length)), (11, .t (.i i))] []) (fun i => i ≤ l.length ∧ ∀ x ∈ l.take i, lo ≤ x ∧ x ≤ hi) (fun i => l.length - i) 0 (Weak.of _ [] [] (by simp) (by simp) ?_ trivial) ⟨by simp, by simp⟩ fun i hI R hn hr he => ?_
  · simp -implicitDefEqProofs only [ints, wkR, Nat.reduceEqDiff, ↓reduceIte]
  · simp -implicitDefEqProofs only [ints, go_sem]
    refine ⟨fun h => ⟨by omega, by omega, by omega, fun c x hx hc => ?_⟩, fun h => he _ _ ?_⟩
    · subst hc
      rw [toNat_cast] at hx
      refine CallW.pure (impl_within_ok x lo hi) [] rfl Try.call110 ?_ ?_ rfl ?_
      · simp -implicitDefEqProofs only [vaR, go_sem]
      · trivial
      · simp -implicitDefEqProofs only [go_sem]
        refine ⟨fun h1 => hr _ ?_, fun h1 => hn _ (i + 1) (Weak.of _ [] [] (by simp) (by simp) ?_ trivial) ⟨by omega, take_succ_all hx hI.2 (by simpa using h1)⟩ (by omega)⟩
        · simp -implicitDefEqProofs only [go_sem]
          have : l.all (fun x => decide (lo ≤ x ∧ x ≤ hi)) = false := by
            rw [List.all_eq_false]
            exact ⟨x, List.mem_of_getElem? hx, by simp at h1 ⊢; omega⟩
          rw [this]
        · simp -implicitDefEqProofs only [ints, wkR, Nat.reduceEqDiff, ↓reduceIte, next64 (by omega : i < l.length) hl]
    · simp -implicitDefEqProofs only [go_sem]
      have : l.all (fun x => decide (lo ≤ x ∧ x ≤ hi)) = true := by
        rw [List.all_eq_true]
        intro x hx
        have := hI.2 x (by rw [List.take_of_length_le (by omega)]; exact hx)
        simpa using this
      rw [this]
end Go.Ab

/- Contracts: sizes, copies. -/
set_option linter.unusedSimpArgs false
set_option linter.unusedVariables false
namespace Go.Ab
open Go.Proofs

def filled {α : Type} (l : List α) (f : α → T) (z : T) (i : Nat) : List T := (l.take i).map f ++ List.replicate (l.length - i) z
theorem made_one (z : T) (n : Nat) : made [z] n = List.replicate n z := rfl

end Go.Ab

/- Contracts: IsMatrix. -/
set_option linter.unusedSimpArgs false
set_option linter.unusedVariables false
namespace Go.Ab
open Go.Proofs

theorem spec_l01In_ok (n lo hi : Int) : Pure Try.prog 148 [.i n, .i lo, .i hi] (.b (decide (lo ≤ n ∧ n ≤ hi))) := by
  refine fun_spec_l01In (by simp) ?_
  simp -implicitDefEqProofs only [c_spec_l01In, go_sem]
  refine ⟨fun h => ?_, fun h => ?_⟩
  · have : lo ≤ n := h
    simp [this]
  · have : ¬ lo ≤ n := h
    simp [this]

end Go.Ab

/- Contracts: impl.IsMatrix. -/
set_option linter.unusedSimpArgs false
set_option linter.unusedVariables false
namespace Go.Ab
open Go.Proofs

end Go.Ab

/- Contracts: impl.IsMatrix. -/
set_option linter.unusedSimpArgs false
set_option linter.unusedVariables false
namespace Go.Ab
open Go.Proofs

end Go.Ab

/- Contracts: copies of rows, least and greatest numbers, marks. -/
set_option linter.unusedSimpArgs false
set_option linter.unusedVariables false
namespace Go.Ab
open Go.Proofs

theorem spec_l01Own_ok (l : List Int) (hl : l.length ≤ 1000000000000) : Fun Try.prog 167 [] [.t (ints l)] fun o r => o = [] ∧ r = intsO l := by
  refine fun_spec_l01Own (by simp) ?_
  simp -implicitDefEqProofs only [c_spec_l01Own, ints, go_sem]
  exact ⟨by omega, rfl⟩

def minL (l : List Int) : Int := l.tail.foldl min (l.headD 0)
def maxL (l : List Int) : Int := l.tail.foldl max (l.headD 0)
theorem minL_snoc {l : List Int} (h : l ≠ []) (x : Int) : minL (l ++ [x]) = min (minL l) x := by
  cases l with
  | nil => exact absurd rfl h
  | cons a l => simp [minL, List.foldl_append]
theorem maxL_snoc {l : List Int} (h : l ≠ []) (x : Int) : maxL (l ++ [x]) = max (maxL l) x := by
  cases l with
  | nil => exact absurd rfl h
  | cons a l => simp [maxL, List.foldl_append]
theorem take_snoc {α : Type} {l : List α} {i : Nat} {x : α} (h : l[i]? = some x) : l.take (i + 1) = l.take i ++ [x] := by
  rw [List.take_add_one, h]; rfl

theorem slices_Min_ok (l : List Int) (h0 : l ≠ []) (hl : l.length ≤ 1000000000000) : Pure Try.prog 105 [ints l] (.i (minL l)) := by
  have hpos : 0 < l.length := List.length_pos_iff.2 h0
  refine fun_slices_Min___int64_int64_ (by simp) ?_
  simp -implicitDefEqProofs only [c_slices_Min___int64_int64_, go_sem, evR, ints, rows, rat, rats]
  refine ⟨fun h => absurd h (by omega), fun _ => ⟨by omega, by omega, fun x hx => ?_⟩⟩
  refine SemC.loopR (σ := Nat) (fun i => St.of [(0, .t (ints l)), (3, .t (.i (minL (l.take i)))), (4, .t (.i i))] []) (fun i => 1 ≤ i ∧ i ≤ l.length) (fun i => l.length - i) 1 (Weak.of _ [] [] (by simp) (by simp) ?_ trivial) ⟨by simp, hpos⟩ fun i hI R hn hr he => ?_
  · simp -implicitDefEqProofs only [ints, wkR, Nat.reduceEqDiff, ↓reduceIte]
    cases l with
    | nil => simp at hx
    | cons a l => simp at hx; simp [minL, hx]
  · simp -implicitDefEqProofs only [go_sem, evR, ints, rows, rat, rats]
    refine ⟨fun h => ⟨by omega, by omega, by omega, fun x hx => hn _ (i + 1) (Weak.of _ [] [] (by simp) (by simp) ?_ trivial) (by omega) (by omega)⟩, fun h => he _ _ ?_⟩
    · have hne : l.take i ≠ [] := by intro h'; have := congrArg List.length h'; rw [List.length_take, List.length_nil] at this; omega
      simp -implicitDefEqProofs only [ints, wkR, Nat.reduceEqDiff, ↓reduceIte, next64 (by omega : i < l.length) hl, take_snoc hx, minL_snoc hne]
    · simp -implicitDefEqProofs only [go_sem]
      rw [List.take_of_length_le (by omega)]

theorem slices_Max_ok (l : List Int) (h0 : l ≠ []) (hl : l.length ≤ 1000000000000) : Pure Try.prog 106 [ints l] (.i (maxL l)) := by
  have hpos : 0 < l.length := List.length_pos_iff.2 h0
  refine fun_slices_Max___int64_int64_ (by simp) ?_
  simp -implicitDefEqProofs only [c_slices_Max___int64_int64_, go_sem, evR, ints, rows, rat, rats]
  refine ⟨fun h => absurd h (by omega), fun _ => ⟨by omega, by omega, fun x hx => ?_⟩⟩
  refine SemC.loopR (σ := Nat) (fun i => St.of [(0, .t (ints l)), (3, .t (.i (maxL (l.take i)))), (4, .t (.i i))] []) (fun i => 1 ≤ i ∧ i ≤ l.length) (fun i => l.length - i) 1 (Weak.of _ [] [] (by simp) (by simp) ?_ trivial) ⟨by simp, hpos⟩ fun i hI R hn hr he => ?_
  · simp -implicitDefEqProofs only [ints, wkR, Nat.reduceEqDiff, ↓reduceIte]
    cases l with
    | nil => simp at hx
    | cons a l => simp at hx; simp [maxL, hx]
  · simp -implicitDefEqProofs only [go_sem, evR, ints, rows, rat, rats]
    refine ⟨fun h => ⟨by omega, by omega, by omega, fun x hx => hn _ (i + 1) (Weak.of _ [] [] (by simp) (by simp) ?_ trivial) (by omega) (by omega)⟩, fun h => he _ _ ?_⟩
    · have hne : l.take i ≠ [] := by intro h'; have := congrArg List.length h'; rw [List.length_take, List.length_nil] at this; omega
      simp -implicitDefEqProofs only [ints, wkR, Nat.reduceEqDiff, ↓reduceIte, next64 (by omega : i < l.length) hl, take_snoc hx, maxL_snoc hne]
    · simp -implicitDefEqProofs only [go_sem]
      rw [List.take_of_length_le (by omega)]


def marks : Nat → Int → List Int
  | 0, _ => []
  | n + 1, k => k :: marks n (k + 1)
def held : List Int → Int → Int
  | [], k => k
  | x :: l, k => if x = k then held l (k + 1) else -1
end Go.Ab

/- Contracts: HalvedWeights. -/
set_option linter.unusedSimpArgs false
set_option linter.unusedVariables false
namespace Go.Ab
open Go.Proofs

def mx0 (l : List Int) : Int := l.foldl max 0
def half (l : List Int) : List Int := l.map fun x => x / 2
def hvd : Nat → List Int → List Int
  | 0, l => l
  | f + 1, l => if mx0 l ≤ 1000000000 then l else hvd f (half l)

def W (f : Nat) : Int := ((2 ^ (29 + f) : Nat) : Int)
def hw (l : List Int) : List Int × Int := if 1 ≤ l.length ∧ l.length ≤ 4 ∧ ∀ x ∈ l, 0 ≤ x then (hvd 34 l, 0) else ([], 2)
end Go.Ab


/- Parts out of weights, plainly: the greatest remainders first. -/
set_option linter.unusedSimpArgs false
set_option linter.unusedVariables false
namespace Go.Ab
open Go.Proofs

def maxI (r : List Int) : Nat → Nat
  | 0 => 0
  | k + 1 => if r.getD (maxI r k) 0 < r.getD k 0 then k else maxI r k
theorem maxI_lt (r : List Int) : ∀ k, k ≤ r.length → 0 < r.length → maxI r k < r.length
  | 0, _, h => h
  | k + 1, hk, h => by
    have := maxI_lt r k (by omega) h
    rw [maxI]; split <;> omega
theorem maxI_max (r : List Int) : ∀ k i, i < k → r.getD i 0 ≤ r.getD (maxI r k) 0
  | k + 1, i, h => by
    have ih := maxI_max r k
    rw [maxI]
    split
    · rename_i h1
      by_cases hi : i = k
      · rw [hi]; exact Int.le_refl _
      · have := ih i (by omega); omega
    · rename_i h1
      by_cases hi : i = k
      · rw [hi]; omega
      · exact ih i (by omega)
theorem sum_set {p : List Int} {b : Nat} (h : b < p.length) (x : Int) : (p.set b x).sum = p.sum - p.getD b 0 + x := by
  induction p generalizing b with
  | nil => simp at h
  | cons a p ih =>
    cases b with
    | zero => simp; omega
    | succ b =>
      have := ih (b := b) (by simpa using h)
      simp only [List.set_cons_succ, List.sum_cons, List.getD_cons_succ]
      omega
theorem sum_le_of {t : Int} : ∀ (w p : List Int), w.length = p.length → (∀ i, i < w.length → 60 * w.getD i 0 ≤ t * p.getD i 0) → 60 * w.sum ≤ t * p.sum
  | [], [], _, _ => by simp
  | a :: w, b :: p, hl, h => by
    have ih := sum_le_of w p (by simpa using hl) fun i hi => by simpa using h (i + 1) (by simpa using hi)
    have h0 := h 0 (by simp)
    simp only [List.getD_cons_zero] at h0
    simp only [List.sum_cons, Int.mul_add]
    omega
structure HamI (w : List Int) (t : Int) (m : Nat) (p r : List Int) : Prop where
  lp : p.length = w.length
  lr : r.length = w.length
  each : ∀ i, i < w.length → (r.getD i 0 = 60 * w.getD i 0 - t * p.getD i 0 ∧ 0 ≤ r.getD i 0 ∧ r.getD i 0 < t) ∨ (r.getD i 0 = -1 ∧ 60 * w.getD i 0 < t * p.getD i 0 ∧ t * p.getD i 0 < 60 * w.getD i 0 + t)
  sum : p.sum + m = 60
theorem HamI.best {w : List Int} {m : Nat} {p r : List Int} (h : HamI w w.sum (m + 1) p r) (ht : 0 < w.sum) : maxI r r.length < w.length ∧ 0 < r.getD (maxI r r.length) 0 := by
  have ⟨i, hi, hpos⟩ : ∃ i, i < w.length ∧ ¬ 60 * w.getD i 0 ≤ w.sum * p.getD i 0 := by
    by_cases hc : ∃ i, i < w.length ∧ ¬ 60 * w.getD i 0 ≤ w.sum * p.getD i 0
    · exact hc
    · have := sum_le_of (t := w.sum) w p h.lp.symm fun i hi => by
        by_cases h1 : 60 * w.getD i 0 ≤ w.sum * p.getD i 0
        · exact h1
        · exact absurd ⟨i, hi, h1⟩ hc
      have hs := h.sum
      have e : w.sum * p.sum = w.sum * (60 - (m + 1 : Nat)) := by rw [show p.sum = 60 - ((m + 1 : Nat) : Int) by omega]
      rw [e, Int.mul_sub] at this
      have h2 : 0 < w.sum * ((m + 1 : Nat) : Int) := Int.mul_pos ht (by omega)
      omega
  have hri : 0 < r.getD i 0 := by
    rcases h.each i hi with h1 | h1 <;> omega
  have hlr := h.lr
  have h1 := maxI_lt r r.length (Nat.le_refl _) (by omega)
  have h2 := maxI_max r r.length i (by omega)
  exact ⟨by omega, by omega⟩
theorem getD_set_self {l : List Int} {b : Nat} (h : b < l.length) (x : Int) : (l.set b x).getD b 0 = x := by
  rw [List.getD_eq_getElem?_getD, List.getElem?_set_self h]; rfl
theorem getD_set_other {l : List Int} {b i : Nat} (h : i ≠ b) (x : Int) : (l.set b x).getD i 0 = l.getD i 0 := by
  rw [List.getD_eq_getElem?_getD, List.getElem?_set_ne (Ne.symm h), List.getD_eq_getElem?_getD]
theorem HamI.step {w : List Int} {m : Nat} {p r : List Int} (h : HamI w w.sum (m + 1) p r) (ht : 0 < w.sum) : HamI w w.sum m (p.set (maxI r r.length) (p.getD (maxI r r.length) 0 + 1)) (r.set (maxI r r.length) (-1)) := by
  obtain ⟨hb, hr⟩ := h.best ht
  have hlp := h.lp
  have hlr := h.lr
  generalize maxI r r.length = b at hb hr
  refine ⟨by simp [hlp], by simp [hlr], fun i hi => ?_, ?_⟩
  · by_cases hib : i = b
    · subst hib
      right
      rw [getD_set_self (by omega), getD_set_self (by omega)]
      rcases h.each i hi with h1 | h1
      · rw [Int.mul_add]; omega
      · omega
    · rw [getD_set_other hib, getD_set_other hib]
      exact h.each i hi
  · have := h.sum
    rw [sum_set (by omega)]
    omega
end Go.Ab

/- Contracts: sums. -/
set_option linter.unusedSimpArgs false
set_option linter.unusedVariables false
namespace Go.Ab
open Go.Proofs

def smallL (l : List Int) : Prop := l.length ≤ 1000 ∧ ∀ x ∈ l, -1000000000000 ≤ x ∧ x ≤ 1000000000000
theorem smallL_sum {l : List Int} (h : smallL l) (k : Nat) : -1000000000000000 ≤ (l.take k).sum ∧ (l.take k).sum ≤ 1000000000000000 := by
  obtain ⟨h1, h2⟩ := h
  have key : ∀ (l : List Int), (∀ x ∈ l, -1000000000000 ≤ x ∧ x ≤ 1000000000000) → -(1000000000000 * (l.length : Int)) ≤ l.sum ∧ l.sum ≤ 1000000000000 * (l.length : Int) := by
    intro l
    induction l with
    | nil => intro _; simp
    | cons a l ih =>
      intro h
      have := ih fun x hx => h x (List.mem_cons_of_mem _ hx)
      have := h a (by simp)
      simp only [List.sum_cons, List.length_cons]
      omega
  have := key (l.take k) fun x hx => h2 x (List.mem_of_mem_take hx)
  have hl : (l.take k).length ≤ 1000 := by rw [List.length_take]; omega
  omega
theorem sum_snoc (l : List Int) (x : Int) : (l ++ [x]).sum = l.sum + x := by simp
theorem impl_sumOf_ok (l : List Int) (h : smallL l) : Pure Try.prog 200 [ints l] (.i l.sum) := by
  have hl := h.1
  refine fun_impl_sumOf (by simp) ?_
  simp -implicitDefEqProofs only [go_sem, evR, ints, rows, rat, rats, c_impl_sumOf]
  refine SemC.loopR (σ := Nat) (fun i => St.of [(3, .t (.i (l.take i).sum)), (6, .t (ints l)), (7, .t (.i l.length)), (8, .t (.i i))] []) (fun i => i ≤ l.length) (fun i => l.length - i) 0 (Weak.of _ [] [] (by simp) (by simp) ?_ trivial) (by omega) fun i hi R hn hr he => ?_
  · simp -implicitDefEqProofs only [ints, rows, Nat.reduceBEq, wkR, Nat.reduceEqDiff, ↓reduceIte, wrR, List.take_zero, List.sum_nil]
  · simp -implicitDefEqProofs only [go_sem, evR, ints, rows, rat, rats]
    refine ⟨fun h1 => ⟨by omega, by omega, by omega, fun x hx => ?_⟩, fun h1 => he _ _ ?_⟩
    · have e := sum_snoc (l.take i) x
      rw [← take_snoc hx] at e
      have hb := smallL_sum h (i + 1)
      refine hn _ (i + 1) (Weak.of _ [] [] (by simp) (by simp) ?_ trivial) (by omega) (by omega)
      simp -implicitDefEqProofs only [ints, rows, Nat.reduceBEq, wkR, Nat.reduceEqDiff, ↓reduceIte, wrR, next64 (by omega : i < l.length) (by omega), ← e, wrap64 (n := (l.take (i + 1)).sum) (by omega) (by omega)]
    · simp -implicitDefEqProofs only [go_sem, evR, ints, rows, rat, rats]
      rw [List.take_of_length_le (by omega)]
theorem spec_l01Sum_ok (l : List Int) (h : smallL l) : Pure Try.prog 187 [ints l] (.i l.sum) := by
  have hl := h.1
  refine fun_spec_l01Sum (by simp) ?_
  simp -implicitDefEqProofs only [go_sem, evR, ints, rows, rat, rats, c_spec_l01Sum]
  refine SemC.loopR (σ := Nat) (fun i => St.of [(0, .t (ints l)), (3, .t (.i (l.take i).sum)), (4, .t (.i i))] []) (fun i => i ≤ l.length) (fun i => l.length - i) 0 (Weak.of _ [] [] (by simp) (by simp) ?_ trivial) (by omega) fun i hi R hn hr he => ?_
  · simp -implicitDefEqProofs only [ints, rows, Nat.reduceBEq, wkR, Nat.reduceEqDiff, ↓reduceIte, wrR, List.take_zero, List.sum_nil]
  · simp -implicitDefEqProofs only [go_sem, evR, ints, rows, rat, rats]
    refine ⟨fun h1 => ⟨by omega, by omega, by omega, fun x hx => ?_⟩, fun h1 => he _ _ ?_⟩
    · have e := sum_snoc (l.take i) x
      rw [← take_snoc hx] at e
      have hb := smallL_sum h (i + 1)
      refine hn _ (i + 1) (Weak.of _ [] [] (by simp) (by simp) ?_ trivial) (by omega) (by omega)
      simp -implicitDefEqProofs only [ints, rows, Nat.reduceBEq, wkR, Nat.reduceEqDiff, ↓reduceIte, wrR, next64 (by omega : i < l.length) (by omega), ← e, wrap64 (n := (l.take (i + 1)).sum) (by omega) (by omega)]
    · simp -implicitDefEqProofs only [go_sem, evR, ints, rows, rat, rats]
      rw [List.take_of_length_le (by omega)]
end Go.Ab

/- Contracts: parts, the reference's. -/
set_option linter.unusedSimpArgs false
set_option linter.unusedVariables false
namespace Go.Ab
open Go.Proofs

theorem HamI.small {w : List Int} {t : Int} {m : Nat} {p r : List Int} (h : HamI w t m p r) (ht : 0 < t) {i : Nat} (hi : i < w.length) (hw : 0 ≤ w.getD i 0 ∧ w.getD i 0 ≤ 1000000000) : 0 ≤ p.getD i 0 ∧ p.getD i 0 ≤ 100000000000 := by
  have key : -t < t * p.getD i 0 ∧ t * p.getD i 0 < 60 * w.getD i 0 + t := by
    rcases h.each i hi with h1 | h1 <;> omega
  refine ⟨?_, ?_⟩
  · have h1 : t * (-1) < t * p.getD i 0 := by omega
    have := Int.lt_of_mul_lt_mul_left h1 (by omega)
    omega
  · have h1 := Int.mul_le_mul_of_nonneg_right (show (1 : Int) ≤ t by omega) (show 0 ≤ 60 * w.getD i 0 by omega)
    have h2 : t * p.getD i 0 < t * (60 * w.getD i 0 + 1) := by rw [Int.mul_add, Int.mul_one]; omega
    have := Int.lt_of_mul_lt_mul_left h2 (by omega)
    omega
end Go.Ab

/- The bridge, part 4: games, strategies and claims as arguments. -/
set_option linter.unusedSimpArgs false
set_option linter.unusedVariables false
namespace Go.Ab

def rowsL (m : List (List Int)) : Prop := m.length ≤ 9223372036854775807 ∧ ∀ r ∈ m, r.length ≤ 9223372036854775807
def gameL (g : Gm) : Prop := g.nd.length ≤ 9223372036854775807 ∧ (∀ x ∈ g.nd, x.ch.length ≤ 9223372036854775807) ∧ rowsL g.w ∧ rowsL g.v
def gameT (g : Gm) : T := .agg [nodes g.nd, rows g.w, rows g.v]
def stratT (s : Int × List (List Int)) : T := .agg [.i s.1, rows s.2]
structure Cl where
  f : Int × List (List Int)
  s : Int × List (List Int)
  lo : Int
  hi : Int
deriving DecidableEq
end Go.Ab

/- Contracts: increasing numbers, depths of trees. -/
set_option linter.unusedSimpArgs false
set_option linter.unusedVariables false
namespace Go.Ab
open Go.Proofs

theorem incr_iff {l : List Int} : incr l = true ↔ ∀ i, i + 1 < l.length → l.getD i 0 < l.getD (i + 1) 0 := by
  induction l with
  | nil => simp [incr]
  | cons a l ih =>
    cases l with
    | nil => simp [incr]
    | cons b l =>
      rw [incr, Bool.and_eq_true, decide_eq_true_eq, ih]
      constructor
      · rintro ⟨h1, h2⟩ i hi
        cases i with
        | zero => simpa using h1
        | succ i => simpa using h2 i (by simpa using hi)
      · intro h
        refine ⟨by simpa using h 0 (by simp), fun i hi => ?_⟩
        simpa using h (i + 1) (by simpa using hi)
theorem getD_of {l : List Int} {i : Nat} {x : Int} (h : l[i]? = some x) : l.getD i 0 = x := by rw [List.getD_eq_getElem?_getD, h]; rfl
theorem nd_of {l : List Nd} {i : Nat} {x : Nd} (h : l[i]? = some x) : l.getD i nd0 = x := by rw [List.getD_eq_getElem?_getD, h]; rfl
theorem pred64 {i : Nat} (h : 1 ≤ i) (hi : i ≤ 1000000000000) : IntKind.i64.wrap ((i : Int) - 1) = ((i - 1 : Nat) : Int) := by rw [wrap64 (by omega) (by omega)]; omega

theorem impl_increasing_ok (l : List Int) (hl : l.length ≤ 1000000000000) : Pure Try.prog 212 [ints l] (.b (incr l)) := by
  refine fun_impl_increasing (by simp) ?_
  simp -implicitDefEqProofs only [go_sem, evR, ints, rows, rat, rats, c_impl_increasing]
  refine SemC.loopR (σ := Nat) (fun i => St.of [(0, .t (ints l)), (3, .t (.i i))] []) (fun i => 1 ≤ i ∧ ∀ j, j + 1 < i → j + 1 < l.length → l.getD j 0 < l.getD (j + 1) 0) (fun i => l.length - i) 1 (Weak.of _ [] [] (by simp) (by simp) ?_ trivial) ⟨by omega, fun j hj => by omega⟩ fun i hI R hn hr he => ?_
  · simp -implicitDefEqProofs only [ints, rows, wkR, Nat.reduceEqDiff, ↓reduceIte]
  · simp -implicitDefEqProofs only [go_sem, evR, ints, rows, rat, rats]
    refine ⟨fun h => ?_, fun h => he _ _ ?_⟩
    · have hil : i < l.length := by omega
      rw [pred64 hI.1 (by omega)]
      obtain ⟨x, hx⟩ : ∃ x, l[i - 1]? = some x := ⟨_, List.getElem?_eq_getElem (by omega)⟩
      obtain ⟨y, hy⟩ : ∃ y, l[i]? = some y := ⟨_, List.getElem?_eq_getElem (by omega)⟩
      simp -implicitDefEqProofs only [go_sem, evR, ints, rows, rat, rats, hx, hy, toNat_cast]
      refine ⟨by omega, by omega, by omega, by omega, by omega, by omega, fun h1 => hr _ ?_, fun h1 => hn _ (i + 1) (Weak.of _ [] [] (by simp) (by simp) ?_ trivial) ⟨by omega, fun j hj hjl => ?_⟩ (by omega)⟩
      · simp -implicitDefEqProofs only [go_sem, evR, ints, rows, rat, rats]
        have : incr l = false := by
          cases hc : incr l with
          | false => rfl
          | true =>
            have := incr_iff.1 hc (i - 1) (by omega)
            rw [show i - 1 + 1 = i by omega, getD_of hx, getD_of hy] at this
            omega
        rw [this]
      · simp -implicitDefEqProofs only [ints, rows, wkR, Nat.reduceEqDiff, ↓reduceIte, next64 hil hl]
      · by_cases hji : j + 1 = i
        · have e : j = i - 1 := by omega
          rw [hji, e, getD_of hx, getD_of hy]; omega
        · exact hI.2 j (by omega) hjl
    · simp -implicitDefEqProofs only [go_sem, evR, ints, rows, rat, rats]
      have : incr l = true := incr_iff.2 fun j hj => hI.2 j (by omega) hj
      rw [this]

theorem spec_l01Rises_ok (l : List Int) (n : Nat) (hl : l.length ≤ 1000000000000) (hn0 : n ≤ 1000000000000) : Pure Try.prog 228 [ints l, .i n] (.b (rises n l)) := by
  have hw : IntKind.i64.wrap ((n : Int) - 1) = (n : Int) - 1 := wrap64 (by omega) (by omega)
  refine fun_spec_l01Rises (by simp) ?_
  simp -implicitDefEqProofs only [go_sem, evR, ints, rows, rat, rats, c_spec_l01Rises]
  refine SemC.loopR (σ := Nat) (fun i => St.of [(0, .t (ints l)), (1, .t (.i n)), (5, .t (.i i))] []) (fun i => i ≤ l.length ∧ (∀ c ∈ l.take i, 0 ≤ c ∧ c ≤ (n : Int) - 1) ∧ ∀ j, j + 1 < i → j + 1 < l.length → l.getD j 0 < l.getD (j + 1) 0) (fun i => l.length - i) 0 (Weak.of _ [] [] (by simp) (by simp) ?_ trivial) ⟨by simp, by simp, fun j hj => by omega⟩ fun i hI R hn hr he => ?_
  · simp -implicitDefEqProofs only [ints, rows, wkR, Nat.reduceEqDiff, ↓reduceIte]
  · obtain ⟨hi, h2, h3⟩ := hI
    simp -implicitDefEqProofs only [go_sem, evR, ints, rows, rat, rats, hw]
    refine ⟨fun h => ?_, fun h => he _ _ ?_⟩
    · have hil : i < l.length := by omega
      obtain ⟨y, hy⟩ : ∃ y, l[i]? = some y := ⟨_, List.getElem?_eq_getElem hil⟩
      refine ⟨by omega, by omega, by omega, fun y' hy' => ?_⟩
      rw [hy] at hy'; cases hy'
      refine CallV.pure (spec_l01In_ok y 0 ((n : Int) - 1)) [] rfl Try.call148 (fun e R' hR => ?_) (by first | trivial | simp [T.noSh, T.noShL, rat]) (fun _ => rfl) ?_
      · simp -implicitDefEqProofs only [agR, Nat.reduceLeDiff, Nat.reduceSub, vaR, go_sem, ints, rows, rat, rats, ratsO, rtR, intsO, rowsO]
      simp -implicitDefEqProofs only [go_sem, evR, ints, rows, rat, rats]
      have next : 0 ≤ y ∧ y ≤ (n : Int) - 1 → ∀ c ∈ l.take (i + 1), 0 ≤ c ∧ c ≤ (n : Int) - 1 := fun hy1 c hc => by
        rw [List.take_add_one, hy] at hc
        rcases List.mem_append.1 hc with hc | hc
        · exact h2 c hc
        · simp at hc; rw [hc]; exact hy1
      refine ⟨fun h1 => ⟨fun h4 => ?_, fun h4 => ?_⟩, fun h1 => hr _ ?_⟩
      · have h1 : 0 ≤ y ∧ y ≤ (n : Int) - 1 := by simpa using h1
        have hi1 : 1 ≤ i := by omega
        obtain ⟨x, hx⟩ : ∃ x, l[i - 1]? = some x := ⟨_, List.getElem?_eq_getElem (by omega)⟩
        rw [pred64 hi1 (by omega)]
        simp -implicitDefEqProofs only [go_sem, evR, ints, rows, rat, rats, hx, hy, toNat_cast]
        refine ⟨by omega, by omega, by omega, by omega, by omega, by omega, fun h5 => hr _ ?_, fun h5 => hn _ (i + 1) (Weak.of _ [] [] (by simp) (by simp) ?_ trivial) ⟨by omega, next h1, fun j hj hjl => ?_⟩ (by omega)⟩
        · simp -implicitDefEqProofs only [go_sem, evR, ints, rows, rat, rats]
          have : rises n l = false := by
            cases hc : rises n l with
            | false => rfl
            | true =>
              rw [rises, Bool.and_eq_true] at hc
              have := incr_iff.1 hc.2 (i - 1) (by omega)
              rw [show i - 1 + 1 = i by omega, getD_of hx, getD_of hy] at this
              omega
          rw [this]
        · simp -implicitDefEqProofs only [ints, rows, wkR, Nat.reduceEqDiff, ↓reduceIte, next64 hil hl]
        · by_cases hji : j + 1 = i
          · have e : j = i - 1 := by omega
            rw [hji, e, getD_of hx, getD_of hy]; omega
          · exact h3 j (by omega) hjl
      · have h1 : 0 ≤ y ∧ y ≤ (n : Int) - 1 := by simpa using h1
        refine hn _ (i + 1) (Weak.of _ [] [] (by simp) (by simp) ?_ trivial) ⟨by omega, next h1, fun j hj hjl => h3 j (by omega) hjl⟩ (by omega)
        simp -implicitDefEqProofs only [ints, rows, wkR, Nat.reduceEqDiff, ↓reduceIte, next64 hil hl]
      · simp -implicitDefEqProofs only [go_sem, evR, ints, rows, rat, rats]
        have h1 : ¬ (0 ≤ y ∧ y ≤ (n : Int) - 1) := by
          have h1 : y < 0 ∨ (n : Int) - 1 < y := by simpa using h1
          omega
        have : rises n l = false := by
          cases hc : rises n l with
          | false => rfl
          | true =>
            rw [rises, Bool.and_eq_true, List.all_eq_true] at hc
            have := hc.1 y (List.mem_of_getElem? hy)
            exact absurd (by simpa using this) h1
        rw [this]
    · simp -implicitDefEqProofs only [go_sem, evR, ints, rows, rat, rats]
      have : rises n l = true := by
        rw [rises, Bool.and_eq_true, List.all_eq_true]
        refine ⟨fun c hc => by have := h2 c (by rw [List.take_of_length_le (by omega)]; exact hc); simpa using this, incr_iff.2 fun j hj => h3 j (by omega) hj⟩
      rw [this]
end Go.Ab

/- Contracts: depths of trees. -/
set_option linter.unusedSimpArgs false
set_option linter.unusedVariables false
namespace Go.Ab
open Go.Proofs

def depI (l : List Nd) (f : Nat) (cs : List Int) : Int := cs.foldl (fun d c => max d (dep l f c.toNat)) 0
theorem depI_snoc (l : List Nd) (f : Nat) (cs : List Int) (c : Int) : depI l f (cs ++ [c]) = max (depI l f cs) (dep l f c.toNat) := by simp [depI, List.foldl_append]
theorem depI_bound (l : List Nd) (f : Nat) : ∀ cs : List Int, 0 ≤ depI l f cs ∧ depI l f cs ≤ f := by
  intro cs
  have key : ∀ (cs : List Int) (d : Int), 0 ≤ d ∧ d ≤ f → 0 ≤ cs.foldl (fun d c => max d (dep l f c.toNat)) d ∧ cs.foldl (fun d c => max d (dep l f c.toNat)) d ≤ f := by
    intro cs
    induction cs with
    | nil => intro d h; exact h
    | cons c cs ih =>
      intro d h
      rw [List.foldl_cons]
      have := dep_nonneg (l := l) f c.toNat
      exact ih _ (by omega)
  exact key cs 0 (by omega)
theorem dep_succ {l : List Nd} {f i : Nat} {x : Nd} (hx : l[i]? = some x) : dep l (f + 1) i = if x.p = 2 then 0 else depI l f x.ch + 1 := by
  have := nd_of hx
  unfold nd0 at this
  rw [dep, this]; rfl

theorem impl_depthFrom_ok {l : List Nd} (hl : ndsOK l) (hln : l.length ≤ 1000000) : ∀ (f i : Nat), l.length ≤ i + f → i < l.length → f ≤ 1000000 → Pure Try.prog 164 [treeT l, .i i] (.i (dep l f i)) := by
  intro f
  induction f with
  | zero => intro i h1 h2; omega
  | succ f ih =>
    intro i h1 h2 hf
    obtain ⟨x, hx⟩ : ∃ x, l[i]? = some x := ⟨_, List.getElem?_eq_getElem h2⟩
    rw [dep_succ hx]
    refine fun_impl_depthFrom (by simp) ?_
    simp -implicitDefEqProofs only [go_sem, evR, ints, rows, rat, rats, c_impl_depthFrom, treeT, nodes, nd_at hx]
    refine ⟨by omega, by rw [nd_len]; omega, by rw [nd_len]; omega, ?_⟩
    refine ⟨fun h => ?_, fun h => ?_⟩
    · rw [if_pos (by simpa using h)]
    · have hp : x.p ≠ 2 := by simpa using h
      rw [if_neg hp]
      have hch := ndOK_child (hl i x hx)
      have hcl := (ndOK_fields (hl i x hx)).2.2.2.2.2
      refine SemC.loopR (σ := Nat) (fun k => St.of [(2, .own 2), (6, .t (.i (depI l f (x.ch.take k)))), (18, .t (ints x.ch)), (19, .t (.i x.ch.length)), (20, .t (.i k))] [(2, .box [nodes l])]) (fun k => k ≤ x.ch.length) (fun k => x.ch.length - k) 0 (Weak.of _ _ [some 2] (by simp) (by simp) ?_ ?_) (by simp) fun k hk R hn hr he => ?_
      · simp -implicitDefEqProofs only [ints, rows, Nat.reduceBEq, wkR, Nat.reduceEqDiff, ↓reduceIte, wrR, depI, List.take_zero, List.foldl_nil]
      · exact ⟨⟨_, rfl, .refl _⟩, rfl, trivial⟩
      · simp -implicitDefEqProofs only [go_sem, evR, ints, rows, rat, rats, nodes]
        refine ⟨fun h => ⟨by omega, by omega, by omega, fun c hc => ?_⟩, fun h => he _ _ ?_⟩
        · have hcb := hch c (List.mem_of_getElem? hc)
          have hpure := ih c.toNat (by omega) (by omega) (by omega)
          rw [show ((c.toNat : Nat) : Int) = c by omega] at hpure
          simp only [treeT, nodes] at hpure
          refine CallW.pure hpure [] rfl Try.call164 ?_ (by first | trivial | simp [T.noSh, T.noShL, rat]) rfl ?_
          · simp -implicitDefEqProofs only [agR, Nat.reduceLeDiff, Nat.reduceSub, vaR, go_sem, ints, rows, rat, rats, ratsO, rtR, intsO, rowsO]
          simp -implicitDefEqProofs only [go_sem, evR, ints, rows, rat, rats, treeT, nodes]
          have e := depI_snoc l f (x.ch.take k) c
          rw [← take_snoc hc] at e
          refine hn _ (k + 1) (Weak.of _ _ [some 2] (by simp) (by simp) ?_ ?_) (by omega) (by omega)
          · simp -implicitDefEqProofs only [ints, rows, Nat.reduceBEq, wkR, Nat.reduceEqDiff, ↓reduceIte, wrR, next64 (by omega : k < x.ch.length) (by omega), e]
          · exact ⟨⟨_, rfl, .refl _⟩, rfl, trivial⟩
        · simp -implicitDefEqProofs only [go_sem, evR, ints, rows, rat, rats]
          have hb := depI_bound l f x.ch
          rw [show k = x.ch.length by omega, List.take_length, wrap64 (by omega) (by omega)]

theorem spec_l20Depth_ok {l : List Nd} (hl : ndsOK l) (hln : l.length ≤ 1000000) : ∀ (f i : Nat), l.length ≤ i + f → i < l.length → f ≤ 1000000 → Pure Try.prog 158 [treeT l, .i i] (.i (dep l f i)) := by
  intro f
  induction f with
  | zero => intro i h1 h2; omega
  | succ f ih =>
    intro i h1 h2 hf
    obtain ⟨x, hx⟩ : ∃ x, l[i]? = some x := ⟨_, List.getElem?_eq_getElem h2⟩
    rw [dep_succ hx]
    refine fun_spec_l20Depth (by simp) ?_
    simp -implicitDefEqProofs only [go_sem, evR, ints, rows, rat, rats, c_spec_l20Depth, treeT, nodes, nd_at hx]
    refine ⟨by omega, by rw [nd_len]; omega, by rw [nd_len]; omega, ?_⟩
    refine ⟨fun h => ?_, fun h => ?_⟩
    · rw [if_pos (by simpa using h)]
    · have hp : x.p ≠ 2 := by simpa using h
      rw [if_neg hp]
      have hch := ndOK_child (hl i x hx)
      have hcl := (ndOK_fields (hl i x hx)).2.2.2.2.2
      refine SemC.loopR (σ := Nat) (fun k => St.of [(2, .own 2), (5, .own 5), (6, .t (.i (depI l f (x.ch.take k)))), (7, .t (.i k))] [(2, .box [nodes l]), (5, .box [.i x.p, .i x.a, .i x.b, .i x.f, ints x.ch])]) (fun k => k ≤ x.ch.length) (fun k => x.ch.length - k) 0 (Weak.of _ _ [some 2, some 5] (by simp) (by simp) ?_ ?_) (by simp) fun k hk R hn hr he => ?_
      · simp -implicitDefEqProofs only [ints, rows, Nat.reduceBEq, wkR, Nat.reduceEqDiff, ↓reduceIte, wrR, depI, List.take_zero, List.foldl_nil]
      · exact ⟨⟨_, rfl, .refl _⟩, rfl, ⟨_, rfl, .refl _⟩, rfl, trivial⟩
      · simp -implicitDefEqProofs only [go_sem, evR, ints, rows, rat, rats, nodes]
        refine ⟨fun h => ⟨by omega, by omega, by omega, fun c hc => ?_⟩, fun h => he _ _ ?_⟩
        · have hcb := hch c (List.mem_of_getElem? hc)
          have hpure := ih c.toNat (by omega) (by omega) (by omega)
          rw [show ((c.toNat : Nat) : Int) = c by omega] at hpure
          simp only [treeT, nodes] at hpure
          refine CallV.pure hpure [] rfl Try.call158 (fun e R' hR => ?_) (by first | trivial | simp [T.noSh, T.noShL, rat]) (fun _ => rfl) ?_
          · simp -implicitDefEqProofs only [agR, Nat.reduceLeDiff, Nat.reduceSub, vaR, go_sem, ints, rows, rat, rats, ratsO, rtR, intsO, rowsO]
          simp -implicitDefEqProofs only [go_sem, evR, ints, rows, rat, rats, treeT, nodes]
          have e := depI_snoc l f (x.ch.take k) c
          rw [← take_snoc hc] at e
          refine hn _ (k + 1) (Weak.of _ _ [some 2, some 5] (by simp) (by simp) ?_ ?_) (by omega) (by omega)
          · simp -implicitDefEqProofs only [ints, rows, Nat.reduceBEq, wkR, Nat.reduceEqDiff, ↓reduceIte, wrR, next64 (by omega : k < x.ch.length) (by omega), e]
          · exact ⟨⟨_, rfl, .refl _⟩, rfl, ⟨_, rfl, .refl _⟩, rfl, trivial⟩
        · simp -implicitDefEqProofs only [go_sem, evR, ints, rows, rat, rats]
          have hb := depI_bound l f x.ch
          rw [show k = x.ch.length by omega, List.take_length, wrap64 (by omega) (by omega)]
end Go.Ab

/- Contracts: valid trees, the program's. -/
set_option linter.unusedSimpArgs false
set_option linter.unusedVariables false
namespace Go.Ab
open Go.Proofs

theorem isTreeB_nd {l : List Nd} {i : Nat} {x : Nd} (hx : l[i]? = some x) (h : ndOK l.length i x = false) : isTreeB l = false := by
  cases hc : isTreeB l with
  | false => rfl
  | true =>
    have := (isTreeB_spec hc).2.1 i x hx
    rw [h] at this; cases this
theorem isTreeB_occ {l : List Nd} {i : Nat} (hi : i < l.length) (h1 : 1 ≤ i) (h : occ i l ≠ 1) : isTreeB l = false := by
  cases hc : isTreeB l with
  | false => rfl
  | true => rcases (isTreeB_spec hc).2.2.1 i hi with h2 | h2 <;> omega
theorem isTreeB_len {l : List Nd} (h : ¬ (1 ≤ l.length ∧ l.length ≤ 60)) : isTreeB l = false := by
  cases hc : isTreeB l with
  | false => rfl
  | true => exact absurd (isTreeB_spec hc).1 h
theorem isTreeB_fin {l : List Nd} (h1 : 1 ≤ l.length ∧ l.length ≤ 60) (h2 : ndsOK l) (h3 : ∀ i, i < l.length → i = 0 ∨ occ i l = 1) : isTreeB l = decide (dep l l.length 0 ≤ 5) := by
  rw [isTreeB, decide_eq_true h1, (ndsOK_iff l).2 h2]
  have : ((List.range l.length).all fun i => decide (i = 0 ∨ occ i l = 1)) = true := by
    rw [List.all_eq_true]
    intro i hi
    simpa using h3 i (List.mem_range.1 hi)
  rw [this]; simp
theorem ndOK_incr {n i : Nat} {x : Nd} (h : ndOK n i x = true) (hp : x.p ≠ 2) : incr x.ch = true := by
  simp only [ndOK, Bool.and_eq_true] at h
  have h2 := h.2
  rw [if_neg hp] at h2
  simp only [Bool.and_eq_true] at h2
  exact h2.2
theorem ndOK_no {n i : Nat} {x : Nd} (h : ndOK n i x = true → False) : ndOK n i x = false := by
  cases hc : ndOK n i x with
  | false => rfl
  | true => exact (h hc).elim
theorem ndOK_end {n i : Nat} {x : Nd} (h1 : 0 ≤ x.p ∧ x.p ≤ 2) (h2 : 0 ≤ x.a ∧ x.a ≤ 100) (h3 : 0 ≤ x.b ∧ x.b ≤ 100) (hp : x.p = 2) (h4 : x.ch.length = 0) (h5 : -1 ≤ x.f ∧ x.f ≤ 1) (h6 : x.f = -1 → x.a = x.b) : ndOK n i x = true := by
  rw [ndOK, decide_eq_true h1, decide_eq_true h2, decide_eq_true h3, if_pos hp, decide_eq_true (List.length_eq_zero_iff.1 h4), decide_eq_true h5]
  by_cases hf : x.f = -1
  · simp [h6 hf]
  · simp [hf]
theorem ndOK_dec {n i : Nat} {x : Nd} (h1 : 0 ≤ x.p ∧ x.p ≤ 2) (h2 : 0 ≤ x.a ∧ x.a ≤ 100) (h3 : 0 ≤ x.b ∧ x.b ≤ 100) (hp : x.p ≠ 2) (h4 : x.f = -1) (h5 : 1 ≤ x.ch.length ∧ x.ch.length ≤ 4) (h6 : (x.ch.all fun c => decide ((i : Int) + 1 ≤ c ∧ c ≤ (n : Int) - 1)) = true) (h7 : incr x.ch = true) : ndOK n i x = true := by
  rw [ndOK, decide_eq_true h1, decide_eq_true h2, decide_eq_true h3, if_neg hp, decide_eq_true h4, decide_eq_true h5, h6, h7]; rfl

theorem occ_le' (c : Nat) : ∀ (m : List Nd), (∀ x ∈ m, x.ch.length ≤ 4) → occ c m ≤ m.length * 4
  | [], _ => by simp [occ]
  | x :: m, hm => by
    have h1 := occ_le' c m fun y hy => hm y (by simp [hy])
    have h2 := hm x (by simp)
    have e : occ c (x :: m) = (if x.p = 2 then 0 else x.ch.count (c : Int)) + occ c m := by simp [occ]
    have h3 : (if x.p = 2 then 0 else x.ch.count (c : Int)) ≤ 4 := by
      split
      · omega
      · exact Nat.le_trans (List.count_le_length) h2
    rw [e, List.length_cons]; omega
theorem impl_IsTree_ok (l : List Nd) (hl : l.length ≤ 9223372036854775807) (hcl : ∀ x ∈ l, x.ch.length ≤ 9223372036854775807) : Pure Try.prog 175 [treeT l] (.b (isTreeB l)) := by
  refine fun_impl_IsTree (by simp) ?_
  simp -implicitDefEqProofs only [go_sem, evR, ints, rows, rat, rats, c_impl_IsTree, treeT, nodes]
  refine CallW.pure (impl_within_ok l.length 1 60) [] rfl Try.call110 ?_ (by first | trivial | simp [T.noSh, T.noShL, rat]) rfl ?_
  · simp -implicitDefEqProofs only [agR, Nat.reduceLeDiff, Nat.reduceSub, vaR, go_sem, ints, rows, rat, rats, ratsO, rtR, intsO, rowsO]
  simp -implicitDefEqProofs only [go_sem, evR, ints, rows, rat, rats]
  refine ⟨fun h => ?_, fun h => ?_⟩
  · rw [isTreeB_len (by simp at h; omega)]
  · have hn : 1 ≤ l.length ∧ l.length ≤ 60 := by simp at h; omega
    refine ⟨by omega, by omega, ?_⟩
    refine SemC.loopR (σ := Nat) (fun i => St.of [(1, .own 1), (3, .t (.i l.length)), (4, .own 18), (20, .t (nodes l)), (21, .t (.i l.length)), (22, .t (.i i))] [(1, .box [nodes l]), (18, .arr 1 ((cntV l l.length i 0).map T.i))]) (fun i => i ≤ l.length ∧ ∀ j x, j < i → l[j]? = some x → ndOK l.length j x = true) (fun i => l.length - i) 0 (Weak.of _ _ [some 1, some 18] (by simp) (by simp) ?_ ?_) ⟨by simp, fun j x hj => by omega⟩ fun i hI R hn' hr he => ?_
    · simp -implicitDefEqProofs only [ints, rows, Nat.reduceBEq, wkR, Nat.reduceEqDiff, ↓reduceIte, wrR, nodes]
    · exact ⟨⟨_, rfl, .refl _⟩, rfl, ⟨_, rfl, by rw [made_one, cntV_zero, List.map_replicate]; exact .refl _⟩, rfl, trivial⟩
    · obtain ⟨hi, hOK⟩ := hI
      simp -implicitDefEqProofs only [go_sem, evR, ints, rows, rat, rats, nodes]
      refine ⟨fun h => ?_, fun h => he _ _ ?_⟩
      · have hil : i < l.length := by omega
        obtain ⟨x, hx⟩ : ∃ x, l[i]? = some x := ⟨_, List.getElem?_eq_getElem hil⟩
        have hwi : IntKind.i64.wrap ((i : Int) + 1) = (i : Int) + 1 := wrap64 (by omega) (by omega)
        have hwn : IntKind.i64.wrap ((l.length : Int) - 1) = (l.length : Int) - 1 := wrap64 (by omega) (by omega)
        have hno : (ndOK l.length i x = true → False) → isTreeB l = false := fun h => isTreeB_nd hx (ndOK_no h)
        have hxc := hcl x (List.mem_of_getElem? hx)
        refine ⟨by omega, by rw [nd_len]; omega, by rw [nd_len]; omega, ?_⟩
        rw [nd_at hx]
        simp -implicitDefEqProofs only [go_sem, evR, ints, rows, rat, rats]
        refine CallW.pure (impl_within_ok x.p 0 2) [] rfl Try.call110 ?_ (by first | trivial | simp [T.noSh, T.noShL, rat]) rfl ?_
        · simp -implicitDefEqProofs only [agR, Nat.reduceLeDiff, Nat.reduceSub, vaR, go_sem, ints, rows, rat, rats, ratsO, rtR, intsO, rowsO]
        simp -implicitDefEqProofs only [go_sem, evR, ints, rows, rat, rats]
        refine ⟨fun h1 => ?_, fun h1 => hr _ ?_⟩
        rotate_left
        · simp -implicitDefEqProofs only [go_sem, evR, ints, rows, rat, rats]
          rw [hno fun hok => by have := (ndOK_fields hok).1; simp at h1; omega]
        have h1 : 0 ≤ x.p ∧ x.p ≤ 2 := by simpa using h1
        refine CallW.pure (impl_within_ok x.a 0 100) [] rfl Try.call110 ?_ (by first | trivial | simp [T.noSh, T.noShL, rat]) rfl ?_
        · simp -implicitDefEqProofs only [agR, Nat.reduceLeDiff, Nat.reduceSub, vaR, go_sem, ints, rows, rat, rats, ratsO, rtR, intsO, rowsO]
        simp -implicitDefEqProofs only [go_sem, evR, ints, rows, rat, rats]
        refine ⟨fun h2 => ?_, fun h2 => hr _ ?_⟩
        rotate_left
        · simp -implicitDefEqProofs only [go_sem, evR, ints, rows, rat, rats]
          rw [hno fun hok => by have := (ndOK_fields hok).2.1; simp at h2; omega]
        have h2 : 0 ≤ x.a ∧ x.a ≤ 100 := by simpa using h2
        refine CallW.pure (impl_within_ok x.b 0 100) [] rfl Try.call110 ?_ (by first | trivial | simp [T.noSh, T.noShL, rat]) rfl ?_
        · simp -implicitDefEqProofs only [agR, Nat.reduceLeDiff, Nat.reduceSub, vaR, go_sem, ints, rows, rat, rats, ratsO, rtR, intsO, rowsO]
        simp -implicitDefEqProofs only [go_sem, evR, ints, rows, rat, rats]
        refine ⟨fun h3 => hr _ ?_, fun h3 => ⟨fun h4 => ⟨fun h5 => ?_, fun h5 => hr _ ?_⟩, fun h4 => ⟨fun h5 => ?_, fun h5 => hr _ ?_⟩⟩⟩
        · simp -implicitDefEqProofs only [go_sem, evR, ints, rows, rat, rats]
          rw [hno fun hok => by have := (ndOK_fields hok).2.2.1; simp at h3; omega]
        · -- the end of a way
          have h3 : 0 ≤ x.b ∧ x.b ≤ 100 := by simpa using h3
          have h4 : x.p = 2 := by simpa using h4
          refine CallW.pure (impl_within_ok x.f (-1) 1) [] rfl Try.call110 ?_ (by first | trivial | simp [T.noSh, T.noShL, rat]) rfl ?_
          · simp -implicitDefEqProofs only [agR, Nat.reduceLeDiff, Nat.reduceSub, vaR, go_sem, ints, rows, rat, rats, ratsO, rtR, intsO, rowsO]
          simp -implicitDefEqProofs only [go_sem, evR, ints, rows, rat, rats]
          have hnext : ndOK l.length i x = true → ∀ j y, j < i + 1 → l[j]? = some y → ndOK l.length j y = true := fun hok j y hj hy => by
            by_cases hji : j = i
            · subst hji; rw [hx] at hy; cases hy; exact hok
            · exact hOK j y (by omega) hy
          refine ⟨fun h6 => ⟨fun h7 => ⟨fun h8 => hr _ ?_, fun h8 => ?_⟩, fun h7 => ?_⟩, fun h6 => hr _ ?_⟩
          · simp -implicitDefEqProofs only [go_sem, evR, ints, rows, rat, rats]
            rw [hno fun hok => by have := ((ndOK_fields hok).2.2.2.1 h4).2.2.2 (by simpa using h7); simp [this] at h8]
          · refine hn' _ (i + 1) (Weak.of _ _ [some 1, some 18] (by simp) (by simp) ?_ ?_) ⟨by omega, hnext (ndOK_end h1 h2 h3 h4 (by omega) (by simpa using h6) fun _ => by simpa using h8)⟩ (by omega)
            · simp -implicitDefEqProofs only [ints, rows, Nat.reduceBEq, wkR, Nat.reduceEqDiff, ↓reduceIte, wrR, nodes, next64 hil (by omega)]
            · exact ⟨⟨_, rfl, .refl _⟩, rfl, ⟨_, rfl, by rw [cntV_skip hx (List.length_eq_zero_iff.1 (by omega))]; exact .refl _⟩, rfl, trivial⟩
          · refine hn' _ (i + 1) (Weak.of _ _ [some 1, some 18] (by simp) (by simp) ?_ ?_) ⟨by omega, hnext (ndOK_end h1 h2 h3 h4 (by omega) (by simpa using h6) fun hf => by simp [hf] at h7)⟩ (by omega)
            · simp -implicitDefEqProofs only [ints, rows, Nat.reduceBEq, wkR, Nat.reduceEqDiff, ↓reduceIte, wrR, nodes, next64 hil (by omega)]
            · exact ⟨⟨_, rfl, .refl _⟩, rfl, ⟨_, rfl, by rw [cntV_skip hx (List.length_eq_zero_iff.1 (by omega))]; exact .refl _⟩, rfl, trivial⟩
          · simp -implicitDefEqProofs only [go_sem, evR, ints, rows, rat, rats]
            rw [hno fun hok => by have := (ndOK_fields hok).2.2.2.1 h4; simp at h6; omega]
        · simp -implicitDefEqProofs only [go_sem, evR, ints, rows, rat, rats]
          rw [hno fun hok => by have := (ndOK_fields hok).2.2.2.1 (by simpa using h4); rw [this.1] at h5; simp at h5]
        · -- a decision
          have h3 : 0 ≤ x.b ∧ x.b ≤ 100 := by simpa using h3
          have h4 : ¬ x.p = 2 := by simpa using h4
          have h5 : x.f = -1 := by simpa using h5
          refine CallW.pure (impl_within_ok x.ch.length 1 4) [] rfl Try.call110 ?_ (by first | trivial | simp [T.noSh, T.noShL, rat]) rfl ?_
          · simp -implicitDefEqProofs only [agR, Nat.reduceLeDiff, Nat.reduceSub, vaR, go_sem, ints, rows, rat, rats, ratsO, rtR, intsO, rowsO]
          simp -implicitDefEqProofs only [go_sem, evR, ints, rows, rat, rats, hwi, hwn]
          refine ⟨fun h6 => ?_, fun h6 => hr _ ?_⟩
          rotate_left
          · simp -implicitDefEqProofs only [go_sem, evR, ints, rows, rat, rats]
            rw [hno fun hok => by have := (ndOK_fields hok).2.2.2.2.1 h4; have := (ndOK_fields hok).2.2.2.2.2; simp at h6; omega]
          have h6 : 1 ≤ x.ch.length ∧ x.ch.length ≤ 4 := by simp at h6; omega
          refine CallW.pure (impl_allWithin_ok x.ch ((i : Int) + 1) ((l.length : Int) - 1) (by omega)) [] rfl Try.call176 ?_ (by first | trivial | simp [T.noSh, T.noShL, rat]) rfl ?_
          · simp -implicitDefEqProofs only [agR, Nat.reduceLeDiff, Nat.reduceSub, vaR, go_sem, ints, rows, rat, rats, ratsO, rtR, intsO, rowsO]
          simp -implicitDefEqProofs only [go_sem, evR, ints, rows, rat, rats]
          refine ⟨fun h7 => ?_, fun h7 => hr _ ?_⟩
          rotate_left
          · simp -implicitDefEqProofs only [go_sem, evR, ints, rows, rat, rats]
            rw [hno fun hok => by
              have hc := ndOK_child hok
              have : (x.ch.all fun c => decide ((i : Int) + 1 ≤ c ∧ c ≤ (l.length : Int) - 1)) = true := by rw [List.all_eq_true]; intro c hcm; exact decide_eq_true (hc c hcm)
              rw [this] at h7; simp at h7]
          have h7 : (x.ch.all fun c => decide ((i : Int) + 1 ≤ c ∧ c ≤ (l.length : Int) - 1)) = true := by simpa using h7
          refine CallW.pure (impl_increasing_ok x.ch (by omega)) [] rfl Try.call212 ?_ (by first | trivial | simp [T.noSh, T.noShL, rat]) rfl ?_
          · simp -implicitDefEqProofs only [agR, Nat.reduceLeDiff, Nat.reduceSub, vaR, go_sem, ints, rows, rat, rats, ratsO, rtR, intsO, rowsO]
          simp -implicitDefEqProofs only [go_sem, evR, ints, rows, rat, rats]
          refine ⟨fun h8 => hr _ ?_, fun h8 => ?_⟩
          · simp -implicitDefEqProofs only [go_sem, evR, ints, rows, rat, rats]
            rw [hno fun hok => by rw [ndOK_incr hok h4] at h8; simp at h8]
          have h8 : incr x.ch = true := by simpa using h8
          have hok := ndOK_dec h1 h2 h3 h4 h5 h6 h7 h8
          have hch := ndOK_child hok
          have hd : l.getD i nd0 = x := by rw [List.getD_eq_getElem?_getD, hx]; rfl
          refine SemC.loopR (σ := Nat) (fun k => St.of [(1, .own 1), (3, .t (.i l.length)), (4, .own 18), (20, .t (nodes l)), (21, .t (.i l.length)), (22, .t (.i i)), (95, .t (ints x.ch)), (96, .t (.i x.ch.length)), (97, .t (.i k))] [(1, .box [nodes l]), (18, .arr 1 ((cntV l l.length i k).map T.i))]) (fun k => k ≤ x.ch.length) (fun k => x.ch.length - k) 0 (Weak.of _ _ [some 1, some 18] (by simp) (by simp) ?_ ?_) (by simp) fun k hk R2 hn2 hr2 he2 => ?_
          · simp -implicitDefEqProofs only [ints, rows, Nat.reduceBEq, wkR, Nat.reduceEqDiff, ↓reduceIte, wrR, nodes]
          · exact ⟨⟨_, rfl, .refl _⟩, rfl, ⟨_, rfl, .refl _⟩, rfl, trivial⟩
          · have hcl' := cntV_length l l.length i k
            simp -implicitDefEqProofs only [go_sem, evR, ints, rows, rat, rats, nodes]
            refine ⟨fun h9 => ⟨by omega, by omega, by omega, fun c hc => ?_⟩, fun h9 => he2 _ _ ?_⟩
            · have hcb := hch c (List.mem_of_getElem? hc)
              obtain ⟨cn, rfl⟩ : ∃ cn : Nat, c = (cn : Int) := ⟨c.toNat, by omega⟩
              have hg := cntV_get l (n := l.length) (i := i) (k := k) (c := cn) (by omega)
              have hset := cntV_set (l := l) (n := l.length) (i := i) (k := k) (c := cn) (by omega) (by rw [hd]; exact hc)
              have hocc := occ_le' cn (l.take i) fun y hy => by
                obtain ⟨j, hj, rfl⟩ := List.mem_iff_getElem.1 hy
                rw [List.length_take] at hj
                rw [List.getElem_take]
                exact (ndOK_fields (hOK j _ (by omega) (List.getElem?_eq_getElem (by omega)))).2.2.2.2.2
              have hlt : (l.take i).length ≤ 60 := by rw [List.length_take]; omega
              have hcnt := List.count_le_length (a := (cn : Int)) (l := (l.getD i nd0).ch.take k)
              have hctl : ((l.getD i nd0).ch.take k).length ≤ 4 := by rw [List.length_take, hd]; omega
              simp only [toNat_cast, hcl', hg, Option.some.injEq, forall_eq']
              rw [wrap64 (n := (occ cn (l.take i) : Int) + (((l.getD i nd0).ch.take k).count (cn : Int) : Nat) + 1) (by omega) (by omega)]
              refine ⟨by omega, by omega, by omega, by omega, by omega, by omega, hn2 _ (k + 1) (Weak.of _ _ [some 1, some 18] (by simp) (by simp) ?_ ?_) (by omega) (by omega)⟩
              · simp -implicitDefEqProofs only [ints, rows, Nat.reduceBEq, wkR, Nat.reduceEqDiff, ↓reduceIte, wrR, nodes, next64 (by omega : k < x.ch.length) (by omega)]
              · refine ⟨⟨_, rfl, .refl _⟩, rfl, ⟨_, rfl, ?_⟩, rfl, trivial⟩
                rw [← hset, List.map_set]; exact .refl _
            · simp -implicitDefEqProofs only [go_sem, evR, ints, rows, rat, rats]
              have hke : k = x.ch.length := by omega
              refine hn' _ (i + 1) (Weak.of _ _ [some 1, some 18] (by simp) (by simp) ?_ ?_) ⟨by omega, fun j y hj hy => ?_⟩ (by omega)
              · simp -implicitDefEqProofs only [ints, rows, Nat.reduceBEq, wkR, Nat.reduceEqDiff, ↓reduceIte, wrR, nodes, next64 hil (by omega)]
              · exact ⟨⟨_, rfl, .refl _⟩, rfl, ⟨_, rfl, by rw [hke, cntV_next hx (fun hp => absurd hp h4)]; exact .refl _⟩, rfl, trivial⟩
              · by_cases hji : j = i
                · subst hji; rw [hx] at hy; cases hy; exact hok
                · exact hOK j y (by omega) hy
        · simp -implicitDefEqProofs only [go_sem, evR, ints, rows, rat, rats]
          rw [hno fun hok => by have := (ndOK_fields hok).2.2.2.2.1 (by simpa using h4); simp [this.1] at h5]
      · simp -implicitDefEqProofs only [go_sem, evR, ints, rows, rat, rats]
        have hie : i = l.length := by omega
        have hnds : ndsOK l := fun j y hy => hOK j y (by have := (List.getElem?_eq_some_iff.1 hy).1; omega) hy
        have hcl' := cntV_length l l.length i 0
        refine ⟨by omega, by omega, ?_⟩
        refine SemC.loopR (σ := Nat) (fun k => St.of [(1, .own 1), (110, .sub 18 1 (l.length - 1)), (111, .t (.i (l.length - 1 : Nat))), (112, .t (.i k))] [(1, .box [nodes l]), (18, .arr 1 ((cntV l l.length l.length 0).map T.i))]) (fun k => k ≤ l.length - 1 ∧ ∀ j, j < k → occ (j + 1) l = 1) (fun k => l.length - 1 - k) 0 (Weak.of _ _ [some 1, some 18] (by simp) (by simp) ?_ ?_) ⟨by simp, fun j hj => by omega⟩ fun k hI R2 hn2 hr2 he2 => ?_
        · simp -implicitDefEqProofs only [ints, rows, Nat.reduceBEq, wkR, Nat.reduceEqDiff, ↓reduceIte, wrR, nodes, hie, cntV_length]
        · exact ⟨⟨_, rfl, .refl _⟩, rfl, ⟨_, rfl, by rw [hie]; exact .refl _⟩, rfl, trivial⟩
        · obtain ⟨hk, hocc⟩ := hI
          simp -implicitDefEqProofs only [go_sem, evR, ints, rows, rat, rats, nodes]
          refine ⟨fun h9 => ⟨by omega, by omega, by rw [cntV_length]; omega, fun a ha => ?_⟩, fun h9 => he2 _ _ ?_⟩
          · rw [cntV_all l l.length (1 + k) (by omega)] at ha
            cases ha
            refine ⟨fun h10 => hr2 _ ?_, fun h10 => hn2 _ (k + 1) (Weak.of _ _ [some 1, some 18] (by simp) (by simp) ?_ ?_) ⟨by omega, fun j hj => ?_⟩ (by omega)⟩
            · simp -implicitDefEqProofs only [go_sem, evR, ints, rows, rat, rats]
              have h10 : ¬ occ (1 + k) l = 1 := by simp at h10; omega
              rw [isTreeB_occ (by omega : 1 + k < l.length) (by omega) h10]
            · simp -implicitDefEqProofs only [ints, rows, Nat.reduceBEq, wkR, Nat.reduceEqDiff, ↓reduceIte, wrR, nodes, next64 (by omega : k < l.length - 1) (by omega)]
            · exact ⟨⟨_, rfl, .refl _⟩, rfl, ⟨_, rfl, .refl _⟩, rfl, trivial⟩
            · by_cases hjk : j = k
              · have h10 : occ (1 + k) l = 1 := by
                  have : ((occ (1 + k) l : Nat) : Int) = 1 := by simpa using h10
                  omega
                rw [hjk, Nat.add_comm]; exact h10
              · exact hocc j (by omega)
          · simp -implicitDefEqProofs only [go_sem, evR, ints, rows, rat, rats, nodes]
            have hall : ∀ j, j < l.length → j = 0 ∨ occ j l = 1 := fun j hj => by
              by_cases hj0 : j = 0
              · exact .inl hj0
              · right
                have := hocc (j - 1) (by omega)
                rwa [show j - 1 + 1 = j by omega] at this
            have hdep := impl_depthFrom_ok hnds (by omega) l.length 0 (by omega) (by omega) (by omega)
            simp only [treeT, nodes] at hdep
            refine CallW.pure hdep [] rfl Try.call164 ?_ (by first | trivial | simp [T.noSh, T.noShL, rat]) rfl ?_
            · simp -implicitDefEqProofs only [agR, Nat.reduceLeDiff, Nat.reduceSub, vaR, go_sem, ints, rows, rat, rats, ratsO, rtR, intsO, rowsO]
            simp -implicitDefEqProofs only [go_sem, evR, ints, rows, rat, rats]
            rw [isTreeB_fin hn hnds hall]
end Go.Ab

/- Contracts: valid trees, the reference's. -/
set_option linter.unusedSimpArgs false
set_option linter.unusedVariables false
namespace Go.Ab
open Go.Proofs

theorem bnT {b : Bool} (h : (!b) = true) : b = false := by cases b <;> simp_all
theorem bnF {b : Bool} (h : (!b) = false) : b = true := by cases b <;> simp_all
theorem spec_l20Node_ok {l : List Nd} {i : Nat} {x : Nd} (hx : l[i]? = some x) (hl : l.length ≤ 1000000) (hxc : x.ch.length ≤ 9223372036854775807) : Pure Try.prog 224 [treeT l, .i i] (.b (ndOK l.length i x)) := by
  have hil := (List.getElem?_eq_some_iff.1 hx).1
  rw [ndOK_spec]
  refine fun_spec_l20Node (by simp) ?_
  simp -implicitDefEqProofs only [go_sem, evR, ints, rows, rat, rats, c_spec_l20Node, treeT, nodes, nd_at hx]
  refine ⟨by omega, by rw [nd_len]; omega, by rw [nd_len]; omega, ?_⟩
  refine CallW.pure (spec_l01In_ok x.p 0 2) [] rfl Try.call148 ?_ (by first | trivial | simp [T.noSh, T.noShL, rat]) rfl ?_
  · simp -implicitDefEqProofs only [agR, Nat.reduceLeDiff, Nat.reduceSub, vaR, go_sem, ints, rows, rat, rats, ratsO, rtR, intsO, rowsO]
  simp -implicitDefEqProofs only [go_sem, evR, ints, rows, rat, rats]
  refine ⟨fun h1 => ?_, fun h1 => by rw [show decide (0 ≤ x.p ∧ x.p ≤ 2) = false from bnT h1]; rfl⟩
  rw [show decide (0 ≤ x.p ∧ x.p ≤ 2) = true from bnF h1]
  refine CallW.pure (spec_l01In_ok x.a 0 100) [] rfl Try.call148 ?_ (by first | trivial | simp [T.noSh, T.noShL, rat]) rfl ?_
  · simp -implicitDefEqProofs only [agR, Nat.reduceLeDiff, Nat.reduceSub, vaR, go_sem, ints, rows, rat, rats, ratsO, rtR, intsO, rowsO]
  simp -implicitDefEqProofs only [go_sem, evR, ints, rows, rat, rats]
  refine ⟨fun h2 => ?_, fun h2 => by rw [show decide (0 ≤ x.a ∧ x.a ≤ 100) = false from bnT h2]; simp⟩
  rw [show decide (0 ≤ x.a ∧ x.a ≤ 100) = true from bnF h2]
  refine CallW.pure (spec_l01In_ok x.b 0 100) [] rfl Try.call148 ?_ (by first | trivial | simp [T.noSh, T.noShL, rat]) rfl ?_
  · simp -implicitDefEqProofs only [agR, Nat.reduceLeDiff, Nat.reduceSub, vaR, go_sem, ints, rows, rat, rats, ratsO, rtR, intsO, rowsO]
  simp -implicitDefEqProofs only [go_sem, evR, ints, rows, rat, rats]
  refine ⟨fun h3 => ?_, fun h3 => by rw [show decide (0 ≤ x.b ∧ x.b ≤ 100) = false from bnT h3]; simp⟩
  rw [show decide (0 ≤ x.b ∧ x.b ≤ 100) = true from bnF h3]
  refine CallW.pure (spec_l01In_ok x.f (-1) 1) [] rfl Try.call148 ?_ (by first | trivial | simp [T.noSh, T.noShL, rat]) rfl ?_
  · simp -implicitDefEqProofs only [agR, Nat.reduceLeDiff, Nat.reduceSub, vaR, go_sem, ints, rows, rat, rats, ratsO, rtR, intsO, rowsO]
  simp -implicitDefEqProofs only [go_sem, evR, ints, rows, rat, rats]
  refine ⟨fun h4 => by rw [show decide (-1 ≤ x.f ∧ x.f ≤ 1) = false from bnT h4]; simp, fun h4 => ?_⟩
  rw [show decide (-1 ≤ x.f ∧ x.f ≤ 1) = true from bnF h4]
  refine ⟨fun h5 => ?_, fun h5 => ?_⟩
  · have h5 : x.p = 2 := by simpa using h5
    rw [if_pos h5]
    refine ⟨fun h6 => ?_, fun h6 => ?_⟩
    · have h6 : x.ch.length = 0 := by
        have : (x.ch.length : Int) = 0 := by simpa using h6
        omega
      rw [decide_eq_true h6]
      refine ⟨fun h7 => ?_, fun h7 => by rw [decide_eq_true (show 0 ≤ x.f by omega)]; rfl⟩
      rw [decide_eq_false (show ¬ 0 ≤ x.f by omega)]
      by_cases h8 : x.a = x.b
      · rw [decide_eq_true h8, h8]; simp
      · rw [decide_eq_false h8]; simp [h8]
    · have h6 : ¬ x.ch.length = 0 := by
        have : ¬ (x.ch.length : Int) = 0 := by simpa using h6
        omega
      rw [decide_eq_false h6]; rfl
  · have h5 : ¬ x.p = 2 := by simpa using h5
    rw [if_neg h5]
    refine ⟨fun h6 => ?_, fun h6 => ?_⟩
    · have h6 : x.f = -1 := by simpa using h6
      rw [decide_eq_true h6]
      refine CallW.pure (spec_l01In_ok x.ch.length 1 4) [] rfl Try.call148 ?_ (by first | trivial | simp [T.noSh, T.noShL, rat]) rfl ?_
      · simp -implicitDefEqProofs only [agR, Nat.reduceLeDiff, Nat.reduceSub, vaR, go_sem, ints, rows, rat, rats, ratsO, rtR, intsO, rowsO]
      simp -implicitDefEqProofs only [go_sem, evR, ints, rows, rat, rats]
      refine ⟨fun h7 => ?_, fun h7 => ?_⟩
      · have h7 : 1 ≤ x.ch.length ∧ x.ch.length ≤ 4 := by
          have := bnF h7
          simp only [decide_eq_true_eq] at this; omega
        rw [decide_eq_true h7]
        refine CallW.pure (spec_l01Rises_ok x.ch l.length (by omega) (by omega)) [] rfl Try.call228 ?_ (by first | trivial | simp [T.noSh, T.noShL, rat]) rfl ?_
        · simp -implicitDefEqProofs only [agR, Nat.reduceLeDiff, Nat.reduceSub, vaR, go_sem, ints, rows, rat, rats, ratsO, rtR, intsO, rowsO]
        simp -implicitDefEqProofs only [go_sem, evR, ints, rows, rat, rats]
        refine ⟨fun h8 => by rw [bnT h8]; rfl, fun h8 => ⟨by omega, by omega, fun c hc => ?_⟩⟩
        rw [bnF h8]
        have hhd : x.ch.headD 0 = c := by
          cases hch : x.ch with
          | nil => rw [hch] at hc; simp at hc
          | cons a as' => rw [hch] at hc; simpa using hc
        rw [hhd]; rfl
      · have h7 : ¬ (1 ≤ x.ch.length ∧ x.ch.length ≤ 4) := by
          have := bnT h7
          simp only [decide_eq_false_iff_not] at this; omega
        rw [decide_eq_false h7]; rfl
    · have h6 : ¬ x.f = -1 := by simpa using h6
      rw [decide_eq_false h6]; rfl

section
attribute [-go_sem] load1C
theorem spec_IsTree_ok (l : List Nd) (hl : l.length ≤ 9223372036854775807) (hcl : ∀ x ∈ l, x.ch.length ≤ 9223372036854775807) : Pure Try.prog 194 [treeT l] (.b (isTreeB l)) := by
  refine fun_spec_IsTree (by simp) ?_
  simp -implicitDefEqProofs only [go_sem, evR, ints, rows, rat, rats, c_spec_IsTree, treeT, nodes]
  refine CallW.pure (spec_l01In_ok l.length 1 60) [] rfl Try.call148 ?_ (by first | trivial | simp [T.noSh, T.noShL, rat]) rfl ?_
  · simp -implicitDefEqProofs only [agR, Nat.reduceLeDiff, Nat.reduceSub, vaR, go_sem, ints, rows, rat, rats, ratsO, rtR, intsO, rowsO]
  simp -implicitDefEqProofs only [go_sem, evR, ints, rows, rat, rats]
  refine ⟨fun h => ?_, fun h => ?_⟩
  · rw [isTreeB_len (by have := bnT h; simp at this; omega)]
  · have hn : 1 ≤ l.length ∧ l.length ≤ 60 := by
      have := bnF h
      simp only [decide_eq_true_eq] at this; omega
    refine ⟨by omega, by omega, ?_⟩
    refine SemC.loopR (σ := Nat) (fun i => St.of [(1, .own 1), (3, .t (.i l.length)), (4, .own 15), (5, .t (.i i))] [(1, .box [nodes l]), (15, .arr 1 ((cntV l l.length i 0).map T.i))]) (fun i => i ≤ l.length ∧ ∀ j x, j < i → l[j]? = some x → ndOK l.length j x = true) (fun i => l.length - i) 0 (Weak.of _ _ [some 1, some 15] (by simp) (by simp) ?_ ?_) ⟨by simp, fun j x hj => by omega⟩ fun i hI R hn' hr he => ?_
    · simp -implicitDefEqProofs only [ints, rows, Nat.reduceBEq, wkR, Nat.reduceEqDiff, ↓reduceIte, wrR, nodes]
    · exact ⟨⟨_, rfl, .refl _⟩, rfl, ⟨_, rfl, by rw [made_one, cntV_zero, List.map_replicate]; exact .refl _⟩, rfl, trivial⟩
    · obtain ⟨hi, hOK⟩ := hI
      simp -implicitDefEqProofs only [go_sem, evR, ints, rows, rat, rats, nodes]
      refine ⟨fun h => ?_, fun h => he _ _ ?_⟩
      · have hil : i < l.length := by omega
        obtain ⟨x, hx⟩ : ∃ x, l[i]? = some x := ⟨_, List.getElem?_eq_getElem hil⟩
        have hxc := hcl x (List.mem_of_getElem? hx)
        have hnode := spec_l20Node_ok hx (by omega) hxc
        simp only [treeT, nodes] at hnode
        refine CallW.pure hnode [] rfl Try.call224 ?_ (by first | trivial | simp [T.noSh, T.noShL, rat]) rfl ?_
        · simp -implicitDefEqProofs only [agR, Nat.reduceLeDiff, Nat.reduceSub, vaR, go_sem, ints, rows, rat, rats, ratsO, rtR, intsO, rowsO]
        simp -implicitDefEqProofs only [go_sem, evR, ints, rows, rat, rats]
        refine ⟨fun h1 => hr _ ?_, fun h1 => ?_⟩
        · simp -implicitDefEqProofs only [go_sem, evR, ints, rows, rat, rats]
          rw [isTreeB_nd hx (bnT h1)]
        · have hok := bnF h1
          have hch := ndOK_child hok
          have hcl4 := (ndOK_fields hok).2.2.2.2.2
          have hd : l.getD i nd0 = x := by rw [List.getD_eq_getElem?_getD, hx]; rfl
          refine SemC.loopR (σ := Nat) (fun k => St.of [(1, .own 1), (3, .t (.i l.length)), (4, .own 15), (5, .t (.i i)), (6, .t (.i k))] [(1, .box [nodes l]), (15, .arr 1 ((cntV l l.length i k).map T.i))]) (fun k => k ≤ x.ch.length) (fun k => x.ch.length - k) 0 (Weak.of _ _ [some 1, some 15] (by simp) (by simp) ?_ ?_) (by simp) fun k hk R2 hn2 hr2 he2 => ?_
          · simp -implicitDefEqProofs only [ints, rows, Nat.reduceBEq, wkR, Nat.reduceEqDiff, ↓reduceIte, wrR, nodes]
          · exact ⟨⟨_, rfl, .refl _⟩, rfl, ⟨_, rfl, .refl _⟩, rfl, trivial⟩
          · have hcl' := cntV_length l l.length i k
            rcases Nat.lt_or_ge k x.ch.length with h9 | h9
            · obtain ⟨c, hc⟩ : ∃ c, x.ch[k]? = some c := ⟨_, List.getElem?_eq_getElem h9⟩
              have hcb := hch c (List.mem_of_getElem? hc)
              obtain ⟨cn, rfl⟩ : ∃ cn : Nat, c = (cn : Int) := ⟨c.toNat, by omega⟩
              have hg := cntV_get l (n := l.length) (i := i) (k := k) (c := cn) (by omega)
              simp -implicitDefEqProofs only [go_sem, evR, ints, rows, rat, rats, nodes, nd_get4 hx, decide_eq_true (show (k : Int) < (x.ch.length : Int) by omega), hc, hg]
              have hset := cntV_set (l := l) (n := l.length) (i := i) (k := k) (c := cn) (by omega) (by rw [hd]; exact hc)
              refine ⟨by omega, by rw [nd_len]; omega, by rw [nd_len]; omega, by omega, by rw [nd_len]; omega, by rw [nd_len]; omega, by omega, by omega, by omega, by omega, by omega, by omega, by omega, by omega, by omega, hn2 _ (k + 1) (Weak.of _ _ [some 1, some 15] (by simp) (by simp) ?_ ?_) (by omega) (by omega)⟩
              · simp -implicitDefEqProofs only [ints, rows, Nat.reduceBEq, wkR, Nat.reduceEqDiff, ↓reduceIte, wrR, nodes, next64 (by omega : k < x.ch.length) (by omega)]
              · refine ⟨⟨_, rfl, .refl _⟩, rfl, ⟨_, rfl, ?_⟩, rfl, trivial⟩
                have hocc := occ_le' cn (l.take i) fun y hy => by
                  obtain ⟨j, hj, rfl⟩ := List.mem_iff_getElem.1 hy
                  rw [List.length_take] at hj
                  rw [List.getElem_take]
                  exact (ndOK_fields (hOK j _ (by omega) (List.getElem?_eq_getElem (by omega)))).2.2.2.2.2
                have hlt : (l.take i).length ≤ 60 := by rw [List.length_take]; omega
                have hcnt := List.count_le_length (a := (cn : Int)) (l := (l.getD i nd0).ch.take k)
                have hctl : ((l.getD i nd0).ch.take k).length ≤ 4 := by rw [List.length_take, hd]; omega
                rw [wrap64 (n := (occ cn (l.take i) : Int) + (((l.getD i nd0).ch.take k).count (cn : Int) : Nat) + 1) (by omega) (by omega), ← hset, List.map_set]; exact .refl _
            · simp -implicitDefEqProofs only [go_sem, evR, ints, rows, rat, rats, nodes, nd_get4 hx, decide_eq_false (show ¬ (k : Int) < (x.ch.length : Int) by omega)]
              refine ⟨by omega, by rw [nd_len]; omega, by rw [nd_len]; omega, he2 _ _ ?_⟩
              simp -implicitDefEqProofs only [go_sem, evR, ints, rows, rat, rats]
              have hke : k = x.ch.length := by omega
              refine hn' _ (i + 1) (Weak.of _ _ [some 1, some 15] (by simp) (by simp) ?_ ?_) ⟨by omega, fun j y hj hy => ?_⟩ (by omega)
              · simp -implicitDefEqProofs only [ints, rows, Nat.reduceBEq, wkR, Nat.reduceEqDiff, ↓reduceIte, wrR, nodes, next64 hil (by omega)]
              · exact ⟨⟨_, rfl, .refl _⟩, rfl, ⟨_, rfl, by rw [hke, cntV_next hx (fun hp => ((ndOK_fields hok).2.2.2.1 hp).1)]; exact .refl _⟩, rfl, trivial⟩
              · by_cases hji : j = i
                · subst hji; rw [hx] at hy; cases hy; exact hok
                · exact hOK j y (by omega) hy
      · simp -implicitDefEqProofs only [go_sem, evR, ints, rows, rat, rats, nodes]
        have hie : i = l.length := by omega
        have hnds : ndsOK l := fun j y hy => hOK j y (by have := (List.getElem?_eq_some_iff.1 hy).1; omega) hy
        refine SemC.loopR (σ := Nat) (fun k => St.of [(1, .own 1), (3, .t (.i l.length)), (4, .own 15), (7, .t (.i k))] [(1, .box [nodes l]), (15, .arr 1 ((cntV l l.length l.length 0).map T.i))]) (fun k => 1 ≤ k ∧ k ≤ l.length ∧ ∀ j, 1 ≤ j → j < k → occ j l = 1) (fun k => l.length - k) 1 (Weak.of _ _ [some 1, some 15] (by simp) (by simp) ?_ ?_) ⟨by omega, by omega, fun j h1 h2 => by omega⟩ fun k hI R2 hn2 hr2 he2 => ?_
        · simp -implicitDefEqProofs only [ints, rows, Nat.reduceBEq, wkR, Nat.reduceEqDiff, ↓reduceIte, wrR, nodes]
        · exact ⟨⟨_, rfl, .refl _⟩, rfl, ⟨_, rfl, by rw [hie]; exact .refl _⟩, rfl, trivial⟩
        · obtain ⟨hk1, hk, hocc⟩ := hI
          rcases Nat.lt_or_ge k l.length with h9 | h9
          · have hg := cntV_all l l.length k h9
            have hcl' := cntV_length l l.length l.length 0
            simp -implicitDefEqProofs only [go_sem, evR, ints, rows, rat, rats, nodes, hg, decide_eq_true (show (k : Int) < (l.length : Int) by omega)]
            refine ⟨by omega, by omega, by omega, fun h10 => hr2 _ ?_, fun h10 => hn2 _ (k + 1) (Weak.of _ _ [some 1, some 15] (by simp) (by simp) ?_ ?_) ⟨by omega, by omega, fun j h1 h2 => ?_⟩ (by omega)⟩
            · simp -implicitDefEqProofs only [go_sem, evR, ints, rows, rat, rats]
              have h10 : ¬ occ k l = 1 := by simp at h10; omega
              rw [isTreeB_occ h9 (by omega) h10]
            · simp -implicitDefEqProofs only [ints, rows, Nat.reduceBEq, wkR, Nat.reduceEqDiff, ↓reduceIte, wrR, nodes, next64 h9 (by omega)]
            · exact ⟨⟨_, rfl, .refl _⟩, rfl, ⟨_, rfl, .refl _⟩, rfl, trivial⟩
            · by_cases hjk : j = k
              · have h10 : occ k l = 1 := by
                  have : ((occ k l : Nat) : Int) = 1 := by simpa using h10
                  omega
                rw [hjk]; exact h10
              · exact hocc j h1 (by omega)
          · simp -implicitDefEqProofs only [go_sem, evR, ints, rows, rat, rats, nodes, decide_eq_false (show ¬ (k : Int) < (l.length : Int) by omega)]
            refine he2 _ _ ?_
            simp -implicitDefEqProofs only [go_sem, evR, ints, rows, rat, rats]
            have hall : ∀ j, j < l.length → j = 0 ∨ occ j l = 1 := fun j hj => by
              by_cases hj0 : j = 0
              · exact .inl hj0
              · exact .inr (hocc j (by omega) (by omega))
            have hdep := spec_l20Depth_ok hnds (by omega) l.length 0 (by omega) (by omega) (by omega)
            simp only [treeT, nodes] at hdep
            refine CallW.pure hdep [] rfl Try.call158 ?_ (by first | trivial | simp [T.noSh, T.noShL, rat]) rfl ?_
            · simp -implicitDefEqProofs only [agR, Nat.reduceLeDiff, Nat.reduceSub, vaR, go_sem, ints, rows, rat, rats, ratsO, rtR, intsO, rowsO]
            simp -implicitDefEqProofs only [go_sem, evR, ints, rows, rat, rats]
            rw [isTreeB_fin hn hnds hall]
end
end Go.Ab

/- Contracts: valid games. -/
set_option linter.unusedSimpArgs false
set_option linter.unusedVariables false
namespace Go.Ab
open Go.Proofs

theorem sumI_eq : ∀ l : List Int, sumI l = l.sum
  | [] => rfl
  | x :: l => by rw [sumI, List.sum_cons, sumI_eq l]
theorem totW_snoc (w : List (List Int)) (r : List Int) : totW (w ++ [r]) = totW w + r.sum := by
  simp only [totW, List.map_append, List.map_cons, List.map_nil]
  rw [sumI_snoc, sumI_eq r]
theorem totW_nil : totW [] = 0 := rfl
def smallW (w : List (List Int)) : Prop := w.length ≤ 6 ∧ ∀ r ∈ w, r.length ≤ 6 ∧ ∀ x ∈ r, 0 ≤ x ∧ x ≤ 9
theorem smallW_row {w : List (List Int)} (h : smallW w) {r : List Int} (hr : r ∈ w) : smallL r := ⟨by have := (h.2 r hr).1; omega, fun x hx => by have := (h.2 r hr).2 x hx; omega⟩
theorem totW_bound {w : List (List Int)} (h : smallW w) (k : Nat) : 0 ≤ totW (w.take k) ∧ totW (w.take k) ≤ 324 := by
  have h1 : ∀ x ∈ (w.take k).map sumI, 0 ≤ x := fun x hx => by
    obtain ⟨r, hr, rfl⟩ := List.mem_map.1 hx
    exact sumI_nonneg fun y hy => ((h.2 r (List.mem_of_mem_take hr)).2 y hy).1
  have h2 : ∀ x ∈ (w.take k).map sumI, x ≤ 54 := fun x hx => by
    obtain ⟨r, hr, rfl⟩ := List.mem_map.1 hx
    have := sumI_le (b := 9) fun y hy => ((h.2 r (List.mem_of_mem_take hr)).2 y hy).2
    have := (h.2 r (List.mem_of_mem_take hr)).1
    omega
  refine ⟨sumI_nonneg h1, ?_⟩
  have := sumI_le h2
  rw [List.length_map, List.length_take] at this
  have := h.1
  unfold totW; omega
theorem smallW_of {w : List (List Int)} {k : Nat} (h : matK w k 0 9 = true) (hk : k ≤ 6) : smallW w := by
  obtain ⟨h1, h2⟩ := matK_spec h
  exact ⟨by omega, fun r hr => ⟨by have := (h2 r hr).1; omega, fun x hx => by have := (h2 r hr).2 x hx; omega⟩⟩

theorem next63 {i n : Nat} (h : i < n) (hn : n ≤ 9223372036854775807) : IntKind.i64.wrap ((i : Int) + 1) = ((i + 1 : Nat) : Int) := by
  rw [wrap64 (by omega) (by omega)]; omega
section
attribute [-go_sem] load1C
theorem impl_totalWeight_ok (g : Gm) (h : smallW g.w) : Pure Try.prog 177 [gameT g] (.i (totW g.w)) := by
  have hl := h.1
  refine fun_impl_totalWeight (by simp) ?_
  simp -implicitDefEqProofs only [go_sem, evR, ints, rows, rat, rats, c_impl_totalWeight, gameT, nodes]
  refine SemC.loopR (σ := Nat) (fun i => St.of [(3, .t (.i (totW (g.w.take i)))), (7, .t (rows g.w)), (8, .t (.i g.w.length)), (9, .t (.i i))] []) (fun i => i ≤ g.w.length) (fun i => g.w.length - i) 0 (Weak.of _ [] [] (by simp) (by simp) ?_ trivial) (by omega) fun i hi R hn hr he => ?_
  · simp -implicitDefEqProofs only [ints, rows, Nat.reduceBEq, wkR, Nat.reduceEqDiff, ↓reduceIte, wrR, List.take_zero, totW_nil]
  · rcases Nat.lt_or_ge i g.w.length with h9 | h9
    · obtain ⟨r, hx⟩ : ∃ r, g.w[i]? = some r := ⟨_, List.getElem?_eq_getElem h9⟩
      simp -implicitDefEqProofs only [go_sem, evR, ints, rows, rat, rats, hx, decide_eq_true (show (i : Int) < (g.w.length : Int) by omega)]
      refine ⟨by omega, by omega, by omega, ?_⟩
      refine CallW.pure (impl_sumOf_ok r (smallW_row h (List.mem_of_getElem? hx))) [] rfl Try.call200 ?_ (by first | trivial | simp [T.noSh, T.noShL, rat]) rfl ?_
      · simp -implicitDefEqProofs only [agR, Nat.reduceLeDiff, Nat.reduceSub, vaR, go_sem, ints, rows, rat, rats, ratsO, rtR, intsO, rowsO]
      simp -implicitDefEqProofs only [go_sem, evR, ints, rows, rat, rats]
      have e := totW_snoc (g.w.take i) r
      rw [← take_snoc hx] at e
      have hb := totW_bound h (i + 1)
      refine hn _ (i + 1) (Weak.of _ [] [] (by simp) (by simp) ?_ trivial) (by omega) (by omega)
      simp -implicitDefEqProofs only [ints, rows, Nat.reduceBEq, wkR, Nat.reduceEqDiff, ↓reduceIte, wrR, next64 h9 (by omega), ← e, wrap64 (n := totW (g.w.take (i + 1))) (by omega) (by omega)]
    · simp -implicitDefEqProofs only [go_sem, evR, ints, rows, rat, rats, decide_eq_false (show ¬ (i : Int) < (g.w.length : Int) by omega)]
      refine he _ _ ?_
      simp -implicitDefEqProofs only [go_sem, evR, ints, rows, rat, rats]
      rw [List.take_of_length_le (by omega)]
theorem spec_l21Total_ok (g : Gm) (h : smallW g.w) : Pure Try.prog 191 [gameT g] (.i (totW g.w)) := by
  have hl := h.1
  refine fun_spec_l21Total (by simp) ?_
  simp -implicitDefEqProofs only [go_sem, evR, ints, rows, rat, rats, c_spec_l21Total, gameT, nodes]
  refine SemC.loopR (σ := Nat) (fun i => St.of [(1, .own 1), (3, .t (.i (totW (g.w.take i)))), (4, .t (.i i))] [(1, .box [nodes g.nd, rows g.w, rows g.v])]) (fun i => i ≤ g.w.length) (fun i => g.w.length - i) 0 (Weak.of _ _ [some 1] (by simp) (by simp) ?_ ?_) (by omega) fun i hi R hn hr he => ?_
  · simp -implicitDefEqProofs only [ints, rows, Nat.reduceBEq, wkR, Nat.reduceEqDiff, ↓reduceIte, wrR, List.take_zero, totW_nil, nodes]
  · exact ⟨⟨_, rfl, .refl _⟩, rfl, trivial⟩
  · rcases Nat.lt_or_ge i g.w.length with h9 | h9
    · obtain ⟨r, hx⟩ : ∃ r, g.w[i]? = some r := ⟨_, List.getElem?_eq_getElem h9⟩
      simp -implicitDefEqProofs only [go_sem, evR, ints, rows, rat, rats, nodes, hx, decide_eq_true (show (i : Int) < (g.w.length : Int) by omega)]
      refine ⟨by omega, by omega, by omega, ?_⟩
      refine CallW.pure (spec_l01Sum_ok r (smallW_row h (List.mem_of_getElem? hx))) [] rfl Try.call187 ?_ (by first | trivial | simp [T.noSh, T.noShL, rat]) rfl ?_
      · simp -implicitDefEqProofs only [agR, Nat.reduceLeDiff, Nat.reduceSub, vaR, go_sem, ints, rows, rat, rats, ratsO, rtR, intsO, rowsO]
      simp -implicitDefEqProofs only [go_sem, evR, ints, rows, rat, rats]
      have e := totW_snoc (g.w.take i) r
      rw [← take_snoc hx] at e
      have hb := totW_bound h (i + 1)
      refine hn _ (i + 1) (Weak.of _ _ [some 1] (by simp) (by simp) ?_ ?_) (by omega) (by omega)
      · simp -implicitDefEqProofs only [ints, rows, Nat.reduceBEq, wkR, Nat.reduceEqDiff, ↓reduceIte, wrR, nodes, next64 h9 (by omega), ← e, wrap64 (n := totW (g.w.take (i + 1))) (by omega) (by omega)]
      · exact ⟨⟨_, rfl, .refl _⟩, rfl, trivial⟩
    · simp -implicitDefEqProofs only [go_sem, evR, ints, rows, rat, rats, nodes, decide_eq_false (show ¬ (i : Int) < (g.w.length : Int) by omega)]
      refine he _ _ ?_
      simp -implicitDefEqProofs only [go_sem, evR, ints, rows, rat, rats]
      rw [List.take_of_length_le (by omega)]
theorem matK_iff {m : List (List Int)} {k : Nat} {lo hi : Int} : matK m k lo hi = true ↔ m.length = k ∧ ∀ r ∈ m, r.length = k ∧ ∀ x ∈ r, lo ≤ x ∧ x ≤ hi := by
  simp only [matK, Bool.and_eq_true, decide_eq_true_eq, List.all_eq_true]
theorem matK_bad {m : List (List Int)} {k : Nat} {lo hi : Int} (h : ¬ (m.length = k ∧ ∀ r ∈ m, r.length = k ∧ ∀ x ∈ r, lo ≤ x ∧ x ≤ hi)) : matK m k lo hi = false := by
  cases hc : matK m k lo hi with
  | false => rfl
  | true => exact absurd (matK_iff.1 hc) h
theorem spec_l21Matrix_ok (m : List (List Int)) (k : Nat) (lo hi : Int) (hm : m.length ≤ 9223372036854775807) (hk : k ≤ 6) : Pure Try.prog 195 [rows m, .i k, .i lo, .i hi] (.b (matK m k lo hi)) := by
  refine fun_spec_l21Matrix (by simp) ?_
  simp -implicitDefEqProofs only [go_sem, evR, ints, rows, rat, rats, c_spec_l21Matrix]
  refine SemC.loopR (σ := Nat) (fun i => St.of [(0, .t (rows m)), (1, .t (.i k)), (2, .t (.i lo)), (3, .t (.i hi)), (9, .t (.i i))] []) (fun i => i ≤ m.length ∧ ∀ j r, j < i → m[j]? = some r → r.length = k ∧ ∀ x ∈ r, lo ≤ x ∧ x ≤ hi) (fun i => m.length - i) 0 (Weak.of _ [] [] (by simp) (by simp) ?_ trivial) ⟨by omega, fun j r hj => by omega⟩ fun i hI R hn hr he => ?_
  · simp -implicitDefEqProofs only [ints, rows, Nat.reduceBEq, wkR, Nat.reduceEqDiff, ↓reduceIte, wrR]
  · obtain ⟨hi', hrows⟩ := hI
    rcases Nat.lt_or_ge i m.length with h9 | h9
    · obtain ⟨r, hx⟩ : ∃ r, m[i]? = some r := ⟨_, List.getElem?_eq_getElem h9⟩
      simp -implicitDefEqProofs only [go_sem, evR, ints, rows, rat, rats, hx, decide_eq_true (show (i : Int) < (m.length : Int) by omega)]
      refine ⟨by omega, by omega, by omega, fun h1 => hr _ ?_, fun h1 => ?_⟩
      · simp -implicitDefEqProofs only [go_sem, evR, ints, rows, rat, rats]
        rw [matK_bad fun h => by have := (h.2 r (List.mem_of_getElem? hx)).1; simp at h1; omega]
      · have h1 : r.length = k := by simp at h1; omega
        refine SemC.loopR (σ := Nat) (fun j => St.of [(0, .t (rows m)), (1, .t (.i k)), (2, .t (.i lo)), (3, .t (.i hi)), (9, .t (.i i)), (10, .t (.i j))] []) (fun j => j ≤ k ∧ ∀ t x, t < j → r[t]? = some x → lo ≤ x ∧ x ≤ hi) (fun j => k - j) 0 (Weak.of _ [] [] (by simp) (by simp) ?_ trivial) ⟨by omega, fun j x hj => by omega⟩ fun j hJ R2 hn2 hr2 he2 => ?_
        · simp -implicitDefEqProofs only [ints, rows, Nat.reduceBEq, wkR, Nat.reduceEqDiff, ↓reduceIte, wrR]
        · obtain ⟨hj, hels⟩ := hJ
          rcases Nat.lt_or_ge j k with h8 | h8
          · obtain ⟨x, hy⟩ : ∃ x, r[j]? = some x := ⟨_, List.getElem?_eq_getElem (by omega)⟩
            simp -implicitDefEqProofs only [go_sem, evR, ints, rows, rat, rats, hx, hy, decide_eq_true (show (j : Int) < (k : Int) by omega)]
            refine ⟨by omega, by omega, by omega, by omega, by omega, by omega, ?_⟩
            refine CallW.pure (spec_l01In_ok x lo hi) [] rfl Try.call148 ?_ (by first | trivial | simp [T.noSh, T.noShL, rat]) rfl ?_
            · simp -implicitDefEqProofs only [agR, Nat.reduceLeDiff, Nat.reduceSub, vaR, go_sem, ints, rows, rat, rats, ratsO, rtR, intsO, rowsO]
            simp -implicitDefEqProofs only [go_sem, evR, ints, rows, rat, rats]
            refine ⟨fun h2 => hr2 _ ?_, fun h2 => hn2 _ (j + 1) (Weak.of _ [] [] (by simp) (by simp) ?_ trivial) ⟨by omega, fun t y ht hyt => ?_⟩ (by omega)⟩
            · simp -implicitDefEqProofs only [go_sem, evR, ints, rows, rat, rats]
              refine hr _ ?_
              simp -implicitDefEqProofs only [go_sem, evR, ints, rows, rat, rats]
              rw [matK_bad fun h => by have := (h.2 r (List.mem_of_getElem? hx)).2 x (List.mem_of_getElem? hy); have := bnT h2; simp at this; omega]
            · simp -implicitDefEqProofs only [ints, rows, Nat.reduceBEq, wkR, Nat.reduceEqDiff, ↓reduceIte, wrR, next64 h8 (by omega)]
            · by_cases htj : t = j
              · subst htj; rw [hy] at hyt; cases hyt
                have := bnF h2
                simpa using this
              · exact hels t y (by omega) hyt
          · simp -implicitDefEqProofs only [go_sem, evR, ints, rows, rat, rats, decide_eq_false (show ¬ (j : Int) < (k : Int) by omega)]
            refine he2 _ _ ?_
            simp -implicitDefEqProofs only [go_sem, evR, ints, rows, rat, rats]
            refine hn _ (i + 1) (Weak.of _ [] [] (by simp) (by simp) ?_ trivial) ⟨by omega, fun t y ht hyt => ?_⟩ (by omega)
            · simp -implicitDefEqProofs only [ints, rows, Nat.reduceBEq, wkR, Nat.reduceEqDiff, ↓reduceIte, wrR, next63 h9 hm]
            · by_cases htj : t = i
              · subst htj; rw [hx] at hyt; cases hyt
                refine ⟨h1, fun z hz => ?_⟩
                obtain ⟨u, hu, rfl⟩ := List.mem_iff_getElem.1 hz
                exact hels u _ (by omega) (List.getElem?_eq_getElem hu)
              · exact hrows t y (by omega) hyt
    · simp -implicitDefEqProofs only [go_sem, evR, ints, rows, rat, rats, decide_eq_false (show ¬ (i : Int) < (m.length : Int) by omega)]
      refine he _ _ ?_
      simp -implicitDefEqProofs only [go_sem, evR, ints, rows, rat, rats]
      have hall : ∀ r ∈ m, r.length = k ∧ ∀ x ∈ r, lo ≤ x ∧ x ≤ hi := fun r hr => by
        obtain ⟨u, hu, rfl⟩ := List.mem_iff_getElem.1 hr
        exact hrows u _ (by omega) (List.getElem?_eq_getElem hu)
      by_cases hmk : m.length = k
      · rw [matK_iff.2 ⟨hmk, hall⟩, hmk]; simp [T.b]
      · rw [matK_bad fun h => hmk h.1]
        have e : ((m.length : Int) == (k : Int)) = false := by simp; omega
        rw [e]
theorem isGameB_tree {g : Gm} (h : isTreeB g.nd = false) : isGameB g = false := by rw [isGameB, h]; rfl
theorem spec_IsGame_ok (g : Gm) (hg : gameL g) : Pure Try.prog 139 [gameT g] (.b (isGameB g)) := by
  obtain ⟨hg1, hg2, hg3, hg4⟩ := hg
  have ht := spec_IsTree_ok g.nd hg1 hg2
  simp only [treeT, nodes] at ht
  refine fun_spec_IsGame (by simp) ?_
  simp -implicitDefEqProofs only [go_sem, evR, ints, rows, rat, rats, c_spec_IsGame, gameT, nodes]
  refine CallW.pure ht [] rfl Try.call194 ?_ (by first | trivial | simp [T.noSh, T.noShL, rat]) rfl ?_
  · simp -implicitDefEqProofs only [agR, Nat.reduceLeDiff, Nat.reduceSub, vaR, go_sem, ints, rows, rat, rats, ratsO, rtR, intsO, rowsO]
  simp -implicitDefEqProofs only [go_sem, evR, ints, rows, rat, rats]
  refine ⟨fun h1 => ?_, fun h1 => by rw [isGameB_tree (by simpa using h1)]⟩
  have h1 : isTreeB g.nd = true := by simpa using h1
  refine CallW.pure (spec_l01In_ok g.w.length 1 6) [] rfl Try.call148 ?_ (by first | trivial | simp [T.noSh, T.noShL, rat]) rfl ?_
  · simp -implicitDefEqProofs only [agR, Nat.reduceLeDiff, Nat.reduceSub, vaR, go_sem, ints, rows, rat, rats, ratsO, rtR, intsO, rowsO]
  simp -implicitDefEqProofs only [go_sem, evR, ints, rows, rat, rats]
  refine ⟨fun h2 h2' => ?_, fun h2 => ?_⟩
  rotate_left
  · have h2 : ¬ (1 ≤ g.w.length ∧ g.w.length ≤ 6) := by omega
    rw [isGameB, h1, decide_eq_false h2]; rfl
  have h2 : 1 ≤ g.w.length ∧ g.w.length ≤ 6 := by omega
  have hm1 := spec_l21Matrix_ok g.w g.w.length 0 9 hg3.1 h2.2
  have hm2 := spec_l21Matrix_ok g.v g.w.length (-1) 1 hg4.1 h2.2
  simp only [rows] at hm1 hm2
  refine CallW.pure hm1 [] rfl Try.call195 ?_ (by first | trivial | simp [T.noSh, T.noShL, rat]) rfl ?_
  · simp -implicitDefEqProofs only [agR, Nat.reduceLeDiff, Nat.reduceSub, vaR, go_sem, ints, rows, rat, rats, ratsO, rtR, intsO, rowsO]
  simp -implicitDefEqProofs only [go_sem, evR, ints, rows, rat, rats]
  refine ⟨fun h3 => ?_, fun h3 => ?_⟩
  rotate_left
  · have h3 : matK g.w g.w.length 0 9 = false := by simpa using h3
    rw [isGameB, h3]; simp
  have h3 : matK g.w g.w.length 0 9 = true := by simpa using h3
  refine CallW.pure hm2 [] rfl Try.call195 ?_ (by first | trivial | simp [T.noSh, T.noShL, rat]) rfl ?_
  · simp -implicitDefEqProofs only [agR, Nat.reduceLeDiff, Nat.reduceSub, vaR, go_sem, ints, rows, rat, rats, ratsO, rtR, intsO, rowsO]
  simp -implicitDefEqProofs only [go_sem, evR, ints, rows, rat, rats]
  refine ⟨fun h4 => ?_, fun h4 => ?_⟩
  rotate_left
  · have h4 : matK g.v g.w.length (-1) 1 = false := by simpa using h4
    rw [isGameB, h4]; simp
  have h4 : matK g.v g.w.length (-1) 1 = true := by simpa using h4
  have hw := spec_l21Total_ok g (smallW_of h3 h2.2)
  simp only [gameT, nodes, rows] at hw
  refine CallW.pure hw [] rfl Try.call191 ?_ (by first | trivial | simp [T.noSh, T.noShL, rat]) rfl ?_
  · simp -implicitDefEqProofs only [agR, Nat.reduceLeDiff, Nat.reduceSub, vaR, go_sem, ints, rows, rat, rats, ratsO, rtR, intsO, rowsO]
  simp -implicitDefEqProofs only [go_sem, evR, ints, rows, rat, rats]
  rw [isGameB, h1, decide_eq_true h2, h3, h4]; rfl
end
end Go.Ab

/- Contracts: valid games, the program's. -/
set_option linter.unusedSimpArgs false
set_option linter.unusedVariables false
namespace Go.Ab
open Go.Proofs

section
attribute [-go_sem] load1C
def rowK (k : Nat) (lo hi : Int) (r : List Int) : Prop := r.length = k ∧ (r.all fun x => decide (lo ≤ x ∧ x ≤ hi)) = true
theorem matK_rows {m : List (List Int)} {k : Nat} {lo hi : Int} (hm : m.length = k) (h : ∀ i r, i < k → m[i]? = some r → rowK k lo hi r) : matK m k lo hi = true := by
  refine matK_iff.2 ⟨hm, fun r hr => ?_⟩
  obtain ⟨u, hu, rfl⟩ := List.mem_iff_getElem.1 hr
  obtain ⟨h1, h2⟩ := h u _ (by omega) (List.getElem?_eq_getElem hu)
  refine ⟨h1, fun x hx => ?_⟩
  rw [List.all_eq_true] at h2
  simpa using h2 x hx
theorem matK_row {m : List (List Int)} {k : Nat} {lo hi : Int} (h : matK m k lo hi = true) {i : Nat} {r : List Int} (hr : m[i]? = some r) : rowK k lo hi r := by
  obtain ⟨h1, h2⟩ := matK_iff.1 h
  obtain ⟨h3, h4⟩ := h2 r (List.mem_of_getElem? hr)
  exact ⟨h3, List.all_eq_true.2 fun x hx => decide_eq_true (h4 x hx)⟩
theorem isGameB_parts {g : Gm} (h : isGameB g = true) : isTreeB g.nd = true ∧ (1 ≤ g.w.length ∧ g.w.length ≤ 6) ∧ matK g.w g.w.length 0 9 = true ∧ matK g.v g.w.length (-1) 1 = true ∧ 0 < totW g.w := by
  simp only [isGameB, Bool.and_eq_true, decide_eq_true_eq] at h
  exact ⟨h.1.1.1.1, h.1.1.1.2, h.1.1.2, h.1.2, h.2⟩
theorem isGameB_no {g : Gm} (h : isGameB g = true → False) : isGameB g = false := by
  cases hc : isGameB g with
  | false => rfl
  | true => exact (h hc).elim
theorem impl_IsGame_ok (g : Gm) (hg : gameL g) : Pure Try.prog 115 [gameT g] (.b (isGameB g)) := by
  obtain ⟨hg1, hg2, hg3, hg4⟩ := hg
  have ht := impl_IsTree_ok g.nd hg1 hg2
  simp only [treeT, nodes] at ht
  refine fun_impl_IsGame (by simp) ?_
  simp -implicitDefEqProofs only [go_sem, evR, ints, rows, rat, rats, c_impl_IsGame, gameT, nodes]
  refine CallW.pure ht [] rfl Try.call175 ?_ (by first | trivial | simp [T.noSh, T.noShL, rat]) rfl ?_
  · simp -implicitDefEqProofs only [agR, Nat.reduceLeDiff, Nat.reduceSub, vaR, go_sem, ints, rows, rat, rats, ratsO, rtR, intsO, rowsO]
  simp -implicitDefEqProofs only [go_sem, evR, ints, rows, rat, rats]
  refine ⟨fun h1 => ?_, fun h1 => ?_⟩
  rotate_left
  · rw [isGameB_no fun h => by have := (isGameB_parts h).1; rw [this] at h1; simp at h1]
  have h1 : isTreeB g.nd = true := by simpa using h1
  refine CallW.pure (impl_within_ok g.w.length 1 6) [] rfl Try.call110 ?_ (by first | trivial | simp [T.noSh, T.noShL, rat]) rfl ?_
  · simp -implicitDefEqProofs only [agR, Nat.reduceLeDiff, Nat.reduceSub, vaR, go_sem, ints, rows, rat, rats, ratsO, rtR, intsO, rowsO]
  simp -implicitDefEqProofs only [go_sem, evR, ints, rows, rat, rats]
  refine ⟨fun h2 => ⟨fun h3 => ?_, fun h3 => ?_⟩, fun h2 => ?_⟩
  · rw [isGameB_no fun h => by have := (isGameB_parts h).2.2.2.1; have := (matK_iff.1 this).1; simp at h3; omega]
  rotate_left
  · rw [isGameB_no fun h => by have := (isGameB_parts h).2.1; have := bnT h2; simp at this; omega]
  have h2 : 1 ≤ g.w.length ∧ g.w.length ≤ 6 := by have := bnF h2; simp only [decide_eq_true_eq] at this; omega
  have h3 : g.v.length = g.w.length := by simp at h3; omega
  refine SemC.loopR (σ := Nat) (fun i => St.of [(1, .own 1), (3, .t (.i g.w.length)), (24, .t (.i g.w.length)), (25, .t (.i i))] [(1, .box [nodes g.nd, rows g.w, rows g.v])]) (fun i => i ≤ g.w.length ∧ (∀ j r, j < i → g.w[j]? = some r → rowK g.w.length 0 9 r) ∧ ∀ j r, j < i → g.v[j]? = some r → rowK g.w.length (-1) 1 r) (fun i => g.w.length - i) 0 (Weak.of _ _ [some 1] (by simp) (by simp) ?_ ?_) ⟨by omega, fun j r hj => by omega, fun j r hj => by omega⟩ fun i hI R hn hr he => ?_
  · simp -implicitDefEqProofs only [ints, rows, Nat.reduceBEq, wkR, Nat.reduceEqDiff, ↓reduceIte, wrR, nodes]
  · exact ⟨⟨_, rfl, .refl _⟩, rfl, trivial⟩
  · obtain ⟨hi, hw, hv⟩ := hI
    rcases Nat.lt_or_ge i g.w.length with h9 | h9
    · obtain ⟨r, hx⟩ : ∃ r, g.w[i]? = some r := ⟨_, List.getElem?_eq_getElem h9⟩
      obtain ⟨q, hy⟩ : ∃ q, g.v[i]? = some q := ⟨_, List.getElem?_eq_getElem (by omega)⟩
      have hbw : ¬ rowK g.w.length 0 9 r → isGameB g = false := fun hc => isGameB_no fun h => hc (matK_row (isGameB_parts h).2.2.1 hx)
      have hbv : ¬ rowK g.w.length (-1) 1 q → isGameB g = false := fun hc => isGameB_no fun h => hc (matK_row (isGameB_parts h).2.2.2.1 hy)
      simp -implicitDefEqProofs only [go_sem, evR, ints, rows, rat, rats, nodes, hx, hy, decide_eq_true (show (i : Int) < (g.w.length : Int) by omega)]
      refine ⟨by omega, by omega, by omega, fun h4 => ⟨by omega, by omega, by omega, ?_⟩, fun h4 => hr _ ?_⟩
      rotate_left
      · simp -implicitDefEqProofs only [go_sem, evR, ints, rows, rat, rats]
        rw [hbw fun h => by have := h.1; simp at h4; omega]
      have h4 : r.length = g.w.length := by simp at h4; omega
      refine ⟨fun h5 => ⟨by omega, by omega, by omega, ?_⟩, fun h5 => hr _ ?_⟩
      rotate_left
      · simp -implicitDefEqProofs only [go_sem, evR, ints, rows, rat, rats]
        rw [hbv fun h => by have := h.1; simp at h5; omega]
      have h5 : q.length = g.w.length := by simp at h5; omega
      refine CallW.pure (impl_allWithin_ok r 0 9 (by omega)) [] rfl Try.call176 ?_ (by first | trivial | simp [T.noSh, T.noShL, rat]) rfl ?_
      · simp -implicitDefEqProofs only [agR, Nat.reduceLeDiff, Nat.reduceSub, vaR, go_sem, ints, rows, rat, rats, ratsO, rtR, intsO, rowsO]
      simp -implicitDefEqProofs only [go_sem, evR, ints, rows, rat, rats, hx, hy]
      refine ⟨fun h6 => ⟨by omega, by omega, by omega, ?_⟩, fun h6 => hr _ ?_⟩
      rotate_left
      · simp -implicitDefEqProofs only [go_sem, evR, ints, rows, rat, rats]
        rw [hbw fun h => by rw [h.2] at h6; simp at h6]
      have h6 : (r.all fun x => decide (0 ≤ x ∧ x ≤ 9)) = true := by simpa using h6
      refine CallW.pure (impl_allWithin_ok q (-1) 1 (by omega)) [] rfl Try.call176 ?_ (by first | trivial | simp [T.noSh, T.noShL, rat]) rfl ?_
      · simp -implicitDefEqProofs only [agR, Nat.reduceLeDiff, Nat.reduceSub, vaR, go_sem, ints, rows, rat, rats, ratsO, rtR, intsO, rowsO]
      simp -implicitDefEqProofs only [go_sem, evR, ints, rows, rat, rats]
      refine ⟨fun h7 => hr _ ?_, fun h7 => hn _ (i + 1) (Weak.of _ _ [some 1] (by simp) (by simp) ?_ ?_) ⟨by omega, fun j r' hj hr' => ?_, fun j r' hj hr' => ?_⟩ (by omega)⟩
      · simp -implicitDefEqProofs only [go_sem, evR, ints, rows, rat, rats]
        rw [hbv fun h => by rw [h.2] at h7; simp at h7]
      · simp -implicitDefEqProofs only [ints, rows, Nat.reduceBEq, wkR, Nat.reduceEqDiff, ↓reduceIte, wrR, nodes, next64 h9 (by omega)]
      · exact ⟨⟨_, rfl, .refl _⟩, rfl, trivial⟩
      · by_cases hji : j = i
        · subst hji; rw [hx] at hr'; cases hr'; exact ⟨h4, h6⟩
        · exact hw j r' (by omega) hr'
      · by_cases hji : j = i
        · subst hji; rw [hy] at hr'; cases hr'; exact ⟨h5, bnF h7⟩
        · exact hv j r' (by omega) hr'
    · simp -implicitDefEqProofs only [go_sem, evR, ints, rows, rat, rats, nodes, decide_eq_false (show ¬ (i : Int) < (g.w.length : Int) by omega)]
      refine he _ _ ?_
      simp -implicitDefEqProofs only [go_sem, evR, ints, rows, rat, rats]
      have hmw : matK g.w g.w.length 0 9 = true := matK_rows rfl fun j r hj hr => hw j r (by omega) hr
      have hmv : matK g.v g.w.length (-1) 1 = true := matK_rows h3 fun j r hj hr => hv j r (by omega) hr
      have hW := impl_totalWeight_ok g (smallW_of hmw h2.2)
      simp only [gameT, nodes, rows] at hW
      refine CallW.pure hW [] rfl Try.call177 ?_ (by first | trivial | simp [T.noSh, T.noShL, rat]) rfl ?_
      · simp -implicitDefEqProofs only [agR, Nat.reduceLeDiff, Nat.reduceSub, vaR, go_sem, ints, rows, rat, rats, ratsO, rtR, intsO, rowsO]
      simp -implicitDefEqProofs only [go_sem, evR, ints, rows, rat, rats]
      rw [isGameB, h1, decide_eq_true h2, hmw, hmv]; rfl
end
end Go.Ab
