/- The functions in compact form, printed by a program (CcDump.lean). -/
import Derived.Test.YtkmmkgpnlmdcfaaRows
import Derived.Test.YtkmmkgpnlmdcfaaQ3
set_option linter.unusedVariables false
namespace Go.Ab
open Go.Proofs

@[go_sem] theorem cellAgg_35 : tyAgg Try.prog 35 = some true := by kernel_rfl
@[go_sem] theorem cellSize_35 : tySize Try.prog 35 = some 3 := by kernel_rfl
@[go_sem] theorem cellAgg_47 : tyAgg Try.prog 47 = some true := by kernel_rfl
@[go_sem] theorem cellSize_47 : tySize Try.prog 47 = some 2 := by kernel_rfl
@[go_sem] theorem cellAgg_75 : tyAgg Try.prog 75 = some true := by kernel_rfl
@[go_sem] theorem cellSize_75 : tySize Try.prog 75 = some 6 := by kernel_rfl
@[go_sem] theorem cellAgg_33 : tyAgg Try.prog 33 = some true := by kernel_rfl
@[go_sem] theorem cellSize_33 : tySize Try.prog 33 = some 1 := by kernel_rfl
@[go_sem] theorem cellAgg_181 : tyAgg Try.prog 181 = some true := by kernel_rfl
@[go_sem] theorem cellSize_181 : tySize Try.prog 181 = some 5 := by kernel_rfl
theorem tyOne : tySize Try.prog 0 = some 1 := by kernel_rfl

def c_laws_FnClaims : CC :=
 (.seq (.reg [.o (.move 2 (cb false))])
 ((.seq (.seq (.reg [.o (.move 22 (sl 0)),
 .o (.call (some 23) (cf 51) [(sl 22)])])
 ((.cond (sl 23) (.seq (.reg [.o (.move 2 (cb true))])
 (.ret))
 .skip)))
 ((.seq (.reg [.o (.move 25 (sl 0)),
 .o (.call (some 26) (cf 69) [(sl 25)]),
 .o (.move 24 (sl 26)),
 .o (.extract 27 (sl 24) 0),
 .o (.extract 28 (sl 24) 1),
 .o (.extract 29 (sl 24) 2),
 .o (.alloc 3 [.v (.slice none 0 0), .v (.slice none 0 0), .v (.slice none 0 0)]),
 .o (.alloc 4 [.v (.int .i64 0), .v (.slice none 0 0), .v (.int .i64 0), .v (.slice none 0 0), .v (.int .i64 0), .v (.int .i64 0)]),
 .o (.alloc 5 [.v (.int .i64 0), .v (.slice none 0 0), .v (.int .i64 0), .v (.slice none 0 0), .v (.int .i64 0), .v (.int .i64 0)]),
 .o (.store 3 (sl 3) (sl 27)),
 .o (.store 6 (sl 4) (sl 28)),
 .o (.store 6 (sl 5) (sl 29))])
 ((.seq (.reg [.o (.loadN 31 3 (sl 3)),
 .o (.loadN 32 6 (sl 4)),
 .o (.loadN 33 6 (sl 5)),
 .o (.call (some 34) (cf 70) [(sl 31), (sl 32), (sl 33)]),
 .o (.move 30 (sl 34)),
 .o (.extract 35 (sl 30) 0),
 .o (.extract 36 (sl 30) 1),
 .o (.alloc 6 [.v (.int .i64 0), .v (.slice none 0 0), .v (.int .i64 0), .v (.slice none 0 0), .v (.int .i64 0), .v (.int .i64 0)]),
 .o (.store 6 (sl 6) (sl 35)),
 .o (.move 7 (sl 36))])
 ((.seq (.reg [.o (.loadN 38 3 (sl 3)),
 .o (.loadN 39 6 (sl 4)),
 .o (.loadN 40 6 (sl 5)),
 .o (.call (some 41) (cf 71) [(sl 38), (sl 39), (sl 40)]),
 .o (.move 37 (sl 41)),
 .o (.extract 42 (sl 37) 0),
 .o (.extract 43 (sl 37) 1),
 .o (.alloc 8 [.v (.int .i64 0), .v (.slice none 0 0), .v (.int .i64 0), .v (.slice none 0 0), .v (.int .i64 0), .v (.int .i64 0)]),
 .o (.store 6 (sl 8) (sl 42)),
 .o (.move 9 (sl 43))])
 ((.seq (.reg [.o (.move 45 (sl 0)),
 .o (.call (some 46) (cf 72) [(sl 45)]),
 .o (.move 44 (sl 46)),
 .o (.extract 47 (sl 44) 0),
 .o (.extract 48 (sl 44) 1),
 .o (.alloc 10 [.v (.slice none 0 0), .v (.slice none 0 0), .v (.slice none 0 0)]),
 .o (.alloc 11 [.v (.int .i64 0), .v (.slice none 0 0), .v (.int .i64 0), .v (.slice none 0 0), .v (.int .i64 0), .v (.int .i64 0)]),
 .o (.store 3 (sl 10) (sl 47)),
 .o (.store 6 (sl 11) (sl 48))])
 ((.seq (.reg [.o (.loadN 50 3 (sl 10)),
 .o (.loadN 51 6 (sl 11)),
 .o (.call (some 52) (cf 73) [(sl 50), (sl 51)]),
 .o (.move 49 (sl 52)),
 .o (.extract 53 (sl 49) 0),
 .o (.extract 54 (sl 49) 1),
 .o (.move 12 (sl 53)),
 .o (.move 13 (sl 54))])
 ((.seq (.reg [.o (.loadN 56 3 (sl 10)),
 .o (.loadN 57 6 (sl 11)),
 .o (.call (some 58) (cf 74) [(sl 56), (sl 57)]),
 .o (.move 55 (sl 58)),
 .o (.extract 59 (sl 55) 0),
 .o (.extract 60 (sl 55) 1),
 .o (.move 14 (sl 59)),
 .o (.move 15 (sl 60))])
 ((.seq (.seq (.reg [.o (.move 61 (sl 7)),
 .o (.move 62 (sl 9)),
 .o (.bin 63 .neq (sl 61) (sl 62)),
 .o (.move 64 (sl 63)),
 .g 64 false (some 65) (.loadN 65 6 (sl 6)),
 .g 64 false (some 66) (.loadN 66 6 (sl 8)),
 .g 64 false (some 67) (.call (some 67) (cf 75) [(sl 65), (sl 66)]),
 .g 64 false (some 68) (.un 68 .not (sl 67)),
 .o (.pick 69 (sl 64) (cb true) (sl 68)),
 .o (.move 70 (sl 69)),
 .g 70 false (some 71) (.move 71 (sl 13)),
 .g 70 false (some 72) (.move 72 (sl 15)),
 .g 70 false (some 73) (.bin 73 .neq (sl 71) (sl 72)),
 .o (.pick 74 (sl 70) (cb true) (sl 73)),
 .o (.move 75 (sl 74)),
 .g 75 false (some 76) (.move 76 (sl 12)),
 .g 75 false (some 77) (.move 77 (sl 14)),
 .g 75 false (some 78) (.bin 78 .neq (sl 76) (sl 77)),
 .o (.pick 79 (sl 75) (cb true) (sl 78)),
 .o (.move 80 (sl 79)),
 .g 80 false (some 81) (.loadN 81 3 (sl 10)),
 .g 80 false (some 82) (.loadN 82 6 (sl 11)),
 .g 80 false (some 83) (.call (some 83) (cf 76) [(sl 81), (sl 82)]),
 .g 80 false (some 84) (.move 84 (sl 15)),
 .g 80 false (some 85) (.bin 85 .eql (sl 84) (ci 0)),
 .g 80 false (some 86) (.beq 86 true (sl 83) (sl 85)),
 .o (.pick 87 (sl 80) (cb true) (sl 86))])
 ((.cond (sl 87) (.seq (.reg [.o (.move 2 (cb false))])
 (.ret))
 .skip)))
 ((.seq (.seq (.reg [.o (.move 88 (sl 7)),
 .o (.bin 89 .neq (sl 88) (ci 0))])
 ((.cond (sl 89) (.seq (.reg [.o (.move 2 (cb true))])
 (.ret))
 .skip)))
 ((.seq (.reg [.o (.loadN 91 3 (sl 3)),
 .o (.loadN 92 6 (sl 6)),
 .o (.call (some 93) (cf 73) [(sl 91), (sl 92)]),
 .o (.move 90 (sl 93)),
 .o (.extract 94 (sl 90) 0),
 .o (.extract 95 (sl 90) 1),
 .o (.move 16 (sl 94)),
 .o (.move 17 (sl 95))])
 ((.seq (.reg [.o (.loadN 97 3 (sl 3)),
 .o (.loadN 98 6 (sl 4)),
 .o (.call (some 99) (cf 73) [(sl 97), (sl 98)]),
 .o (.move 96 (sl 99)),
 .o (.extract 100 (sl 96) 0),
 .o (.extract 101 (sl 96) 1),
 .o (.move 18 (sl 100)),
 .o (.move 19 (sl 101))])
 ((.seq (.reg [.o (.loadN 103 3 (sl 3)),
 .o (.loadN 104 6 (sl 5)),
 .o (.call (some 105) (cf 73) [(sl 103), (sl 104)]),
 .o (.move 102 (sl 105)),
 .o (.extract 106 (sl 102) 0),
 .o (.extract 107 (sl 102) 1),
 .o (.move 20 (sl 106)),
 .o (.move 21 (sl 107))])
 ((.seq (.reg [.o (.fld 108 4 (sl 4)),
 .o (.load1 109 (sl 108)),
 .o (.fld 110 5 (sl 5)),
 .o (.load1 111 (sl 110)),
 .o (.bin 112 .leq (sl 109) (sl 111)),
 .o (.move 113 (sl 112)),
 .g 113 true (some 114) (.fld 114 4 (sl 5)),
 .g 113 true (some 115) (.load1 115 (sl 114)),
 .g 113 true (some 116) (.fld 116 5 (sl 4)),
 .g 113 true (some 117) (.load1 117 (sl 116)),
 .g 113 true (some 118) (.bin 118 .leq (sl 115) (sl 117)),
 .o (.pick 119 (sl 113) (sl 118) (cb false)),
 .o (.move 120 (sl 119)),
 .g 120 true (some 121) (.loadN 121 3 (sl 3)),
 .g 120 true (some 122) (.loadN 122 6 (sl 6)),
 .g 120 true (some 123) (.call (some 123) (cf 76) [(sl 121), (sl 122)]),
 .o (.pick 124 (sl 120) (sl 123) (cb false)),
 .o (.move 125 (sl 124)),
 .g 125 true (some 126) (.move 126 (sl 17)),
 .g 125 true (some 127) (.bin 127 .eql (sl 126) (ci 0)),
 .o (.pick 128 (sl 125) (sl 127) (cb false)),
 .o (.move 129 (sl 128)),
 .g 129 true (some 130) (.move 130 (sl 19)),
 .g 129 true (some 131) (.bin 131 .eql (sl 130) (ci 0)),
 .o (.pick 132 (sl 129) (sl 131) (cb false)),
 .o (.move 133 (sl 132)),
 .g 133 true (some 134) (.move 134 (sl 21)),
 .g 133 true (some 135) (.bin 135 .eql (sl 134) (ci 0)),
 .o (.pick 136 (sl 133) (sl 135) (cb false)),
 .o (.move 137 (sl 136)),
 .g 137 true (some 138) (.move 138 (sl 16)),
 .g 137 true (some 139) (.bin 139 .geq (sl 138) (ci 0)),
 .o (.pick 140 (sl 137) (sl 139) (cb false)),
 .o (.move 141 (sl 140)),
 .g 141 true (some 142) (.move 142 (sl 16)),
 .g 141 true (some 143) (.move 143 (sl 18)),
 .g 141 true (some 144) (.bin 144 .leq (sl 142) (sl 143)),
 .o (.pick 145 (sl 141) (sl 144) (cb false)),
 .o (.move 146 (sl 145)),
 .g 146 true (some 147) (.move 147 (sl 16)),
 .g 146 true (some 148) (.move 148 (sl 20)),
 .g 146 true (some 149) (.bin 149 .leq (sl 147) (sl 148)),
 .o (.pick 150 (sl 146) (sl 149) (cb false)),
 .o (.move 2 (sl 150))])
 (.ret))))))))))))))))))))))))))))
theorem fun_laws_FnClaims {rin : List T} {args : List A} {Q : List T → T → Prop} (ha : args.length ≤ 151) (h : cW Try.prog 151 c_laws_FnClaims (retP Try.prog [.tmp 2] rin.length Q) (St.of (enum 0 args) (enum 1000000000 rin))) :
    Fun Try.prog 14 rin args Q :=
  Fun.of (H := ⟨[], []⟩) Try.func14 rfl rfl rfl (by kernel_rfl) ha (by decide) h

def c_laws_big : CC :=
 (.seq (.reg [.o (.move 2 (cb false))])
 ((.seq (.reg [.o (.move 3 (sl 0)),
 .o (.lenS 4 (sl 3)),
 .o (.bin 5 .gtr (sl 4) (ci 4096)),
 .o (.move 2 (sl 5))])
 (.ret))))
theorem fun_laws_big {rin : List T} {args : List A} {Q : List T → T → Prop} (ha : args.length ≤ 6) (h : cW Try.prog 6 c_laws_big (retP Try.prog [.tmp 2] rin.length Q) (St.of (enum 0 args) (enum 1000000000 rin))) :
    Fun Try.prog 51 rin args Q :=
  Fun.of (H := ⟨[], []⟩) Try.func51 rfl rfl rfl (by kernel_rfl) ha (by decide) h

def c_laws_likeStrategies : CC :=
 (.seq (.reg [.o (.box 2 (sl 0)),
 .o (.box 3 (sl 1)),
 .o (.move 4 (cb false))])
 ((.seq (.reg [.o (.fld 5 0 (sl 2)),
 .o (.load1 6 (sl 5)),
 .o (.fld 7 0 (sl 3)),
 .o (.load1 8 (sl 7)),
 .o (.bin 9 .eql (sl 6) (sl 8)),
 .o (.move 10 (sl 9)),
 .g 10 true (some 11) (.fld 11 1 (sl 2)),
 .g 10 true (some 12) (.load1 12 (sl 11)),
 .g 10 true (some 13) (.fld 13 1 (sl 3)),
 .g 10 true (some 14) (.load1 14 (sl 13)),
 .g 10 true (some 15) (.call (some 15) (cf 84) [(sl 12), (sl 14)]),
 .o (.pick 16 (sl 10) (sl 15) (cb false)),
 .o (.move 4 (sl 16))])
 (.ret))))
theorem fun_laws_likeStrategies {rin : List T} {args : List A} {Q : List T → T → Prop} (ha : args.length ≤ 17) (h : cW Try.prog 17 c_laws_likeStrategies (retP Try.prog [.tmp 4] rin.length Q) (St.of (enum 0 args) (enum 1000000000 rin))) :
    Fun Try.prog 65 rin args Q :=
  Fun.of (H := ⟨[], []⟩) Try.func65 rfl rfl rfl (by kernel_rfl) ha (by decide) h

def c_spec_JoinClaims : CC :=
 (.seq (.reg [.o (.box 3 (sl 0)),
 .o (.box 4 (sl 1)),
 .o (.box 5 (sl 2)),
 .o (.alloc 6 [.v (.int .i64 0), .v (.slice none 0 0), .v (.int .i64 0), .v (.slice none 0 0), .v (.int .i64 0), .v (.int .i64 0)]),
 .o (.move 7 (ci 0))])
 ((.seq (.reg [.o (.loadN 10 3 (sl 3)),
 .o (.loadN 11 6 (sl 4)),
 .o (.call (some 12) (cf 144) [(sl 10), (sl 11)]),
 .o (.move 8 (sl 12))])
 ((.seq (.seq (.reg [.o (.move 13 (sl 8)),
 .o (.bin 14 .eql (sl 13) (ci 0))])
 ((.cond (sl 14) (.reg [.o (.loadN 15 3 (sl 3)),
 .o (.loadN 16 6 (sl 5)),
 .o (.call (some 17) (cf 144) [(sl 15), (sl 16)]),
 .o (.move 8 (sl 17))])
 .skip)))
 ((.seq (.seq (.reg [.o (.move 18 (sl 8)),
 .o (.bin 19 .neq (sl 18) (ci 0))])
 ((.cond (sl 19) (.seq (.reg [.o (.build 20 [.v (.int .i64 0), .v (.slice none 0 0), .v (.int .i64 0), .v (.slice none 0 0), .v (.int .i64 0), .v (.int .i64 0)] [(0, 2), (2, 2), (4, 1), (5, 1)] []),
 .o (.move 21 (sl 8)),
 .o (.store 6 (sl 6) (sl 20)),
 .o (.move 7 (sl 21))])
 (.ret))
 .skip)))
 ((.seq (.draw [24, 27, 9] [(kR, .o (.fld 22 0 (sl 4))),
 (kR, .o (.loadN 23 2 (sl 22))),
 (.c false [], .o (.call (some 24) (cf 145) [(sl 23)])),
 (.r false [24], .o (.fld 25 2 (sl 4))),
 (.r false [24], .o (.loadN 26 2 (sl 25))),
 (.c false [], .o (.call (some 27) (cf 145) [(sl 26)])),
 (.r false [24, 27], .o (.fld 28 4 (sl 4))),
 (.r false [24, 27], .o (.load1 29 (sl 28))),
 (.r false [24, 27], .o (.fld 30 5 (sl 4))),
 (.r false [24, 27], .o (.load1 31 (sl 30))),
 (kR, .o (.build 32 [.v (.int .i64 0), .v (.slice none 0 0), .v (.int .i64 0), .v (.slice none 0 0), .v (.int .i64 0), .v (.int .i64 0)] [(0, 2), (2, 2), (4, 1), (5, 1)] [(0, (sl 24)), (1, (sl 27)), (2, (sl 29)), (3, (sl 31))])),
 (kN, .o (.alloc 9 [.v (.int .i64 0), .v (.slice none 0 0), .v (.int .i64 0), .v (.slice none 0 0), .v (.int .i64 0), .v (.int .i64 0)])),
 (kH, .o (.store 6 (sl 9) (sl 32)))])
 ((.seq (.seq (.reg [.o (.fld 33 4 (sl 5)),
 .o (.load1 34 (sl 33)),
 .o (.fld 35 4 (sl 4)),
 .o (.load1 36 (sl 35)),
 .o (.bin 37 .gtr (sl 34) (sl 36))])
 ((.cond (sl 37) (.seq (.reg [.o (.fld 38 0 (sl 5)),
 .o (.loadN 39 2 (sl 38)),
 .o (.call (some 40) (cf 145) [(sl 39)]),
 .o (.fld 41 0 (sl 9)),
 .o (.store 2 (sl 41) (sl 40))])
 ((.reg [.o (.fld 42 4 (sl 5)),
 .o (.load1 43 (sl 42)),
 .o (.fld 44 4 (sl 9)),
 .o (.store 1 (sl 44) (sl 43))])))
 .skip)))
 ((.seq (.seq (.reg [.o (.fld 45 5 (sl 5)),
 .o (.load1 46 (sl 45)),
 .o (.fld 47 5 (sl 4)),
 .o (.load1 48 (sl 47)),
 .o (.bin 49 .lss (sl 46) (sl 48))])
 ((.cond (sl 49) (.seq (.reg [.o (.fld 50 2 (sl 5)),
 .o (.loadN 51 2 (sl 50)),
 .o (.call (some 52) (cf 145) [(sl 51)]),
 .o (.fld 53 2 (sl 9)),
 .o (.store 2 (sl 53) (sl 52))])
 ((.reg [.o (.fld 54 5 (sl 5)),
 .o (.load1 55 (sl 54)),
 .o (.fld 56 5 (sl 9)),
 .o (.store 1 (sl 56) (sl 55))])))
 .skip)))
 ((.seq (.reg [.o (.loadN 57 6 (sl 9)),
 .o (.store 6 (sl 6) (sl 57)),
 .o (.move 7 (ci 0))])
 (.ret))))))))))))))))
theorem fun_spec_JoinClaims {rin : List T} {args : List A} {Q : List T → T → Prop} (ha : args.length ≤ 58) (h : cW Try.prog 58 c_spec_JoinClaims (retP Try.prog [.cell 6 75, .tmp 7] rin.length Q) (St.of (enum 0 args) (enum 1000000000 rin))) :
    Fun Try.prog 71 rin args Q :=
  Fun.of (H := ⟨[], []⟩) Try.func71 rfl rfl rfl (by kernel_rfl) ha (by decide) h

def c_spec_DrawWidthOf : CC :=
 (.seq (.reg [.o (.alloc 2 [.v (.slice none 0 0), .v (.slice none 0 0), .v (.slice none 0 0)]),
 .o (.alloc 3 [.v (.int .i64 0), .v (.slice none 0 0), .v (.int .i64 0), .v (.slice none 0 0), .v (.int .i64 0), .v (.int .i64 0)])])
 ((.seq (.reg [.o (.move 4 (sl 0)),
 .o (.call (some 5) (cf 119) [(sl 4)]),
 .o (.call (some 6) (cf 138) [(sl 5)]),
 .o (.extract 7 (sl 6) 0),
 .o (.extract 8 (sl 6) 1),
 .o (.store 3 (sl 2) (sl 7)),
 .o (.store 6 (sl 3) (sl 8))])
 (.ret))))
theorem fun_spec_DrawWidthOf {rin : List T} {args : List A} {Q : List T → T → Prop} (ha : args.length ≤ 9) (h : cW Try.prog 9 c_spec_DrawWidthOf (retP Try.prog [.cell 2 35, .cell 3 75] rin.length Q) (St.of (enum 0 args) (enum 1000000000 rin))) :
    Fun Try.prog 72 rin args Q :=
  Fun.of (H := ⟨[], []⟩) Try.func72 rfl rfl rfl (by kernel_rfl) ha (by decide) h

def c_impl_WidthOf : CC :=
 (.seq (.reg [.o (.box 2 (sl 0)),
 .o (.box 3 (sl 1)),
 .o (.move 4 (ci 0)),
 .o (.move 5 (ci 0))])
 ((.seq (.seq (.reg [.o (.loadN 6 3 (sl 2)),
 .o (.call (some 7) (cf 115) [(sl 6)]),
 .o (.un 8 .not (sl 7))])
 ((.cond (sl 8) (.seq (.reg [.o (.move 4 (ci 0)),
 .o (.move 5 (ci 1))])
 (.ret))
 .skip)))
 ((.seq (.seq (.reg [.o (.loadN 9 3 (sl 2)),
 .o (.loadN 10 6 (sl 3)),
 .o (.call (some 11) (cf 142) [(sl 9), (sl 10)]),
 .o (.un 12 .not (sl 11))])
 ((.cond (sl 12) (.seq (.reg [.o (.move 4 (ci 0)),
 .o (.move 5 (ci 5))])
 (.ret))
 .skip)))
 ((.seq (.reg [.o (.fld 13 5 (sl 3)),
 .o (.load1 14 (sl 13)),
 .o (.fld 15 4 (sl 3)),
 .o (.load1 16 (sl 15)),
 .o (.bin 17 .sub (sl 14) (sl 16)),
 .o (.move 4 (sl 17)),
 .o (.move 5 (ci 0))])
 (.ret))))))))
theorem fun_impl_WidthOf {rin : List T} {args : List A} {Q : List T → T → Prop} (ha : args.length ≤ 18) (h : cW Try.prog 18 c_impl_WidthOf (retP Try.prog [.tmp 4, .tmp 5] rin.length Q) (St.of (enum 0 args) (enum 1000000000 rin))) :
    Fun Try.prog 73 rin args Q :=
  Fun.of (H := ⟨[], []⟩) Try.func73 rfl rfl rfl (by kernel_rfl) ha (by decide) h

def c_spec_WidthOf : CC :=
 (.seq (.reg [.o (.box 2 (sl 0)),
 .o (.box 3 (sl 1)),
 .o (.move 4 (ci 0)),
 .o (.move 5 (ci 0))])
 ((.seq (.reg [.o (.loadN 7 3 (sl 2)),
 .o (.loadN 8 6 (sl 3)),
 .o (.call (some 9) (cf 144) [(sl 7), (sl 8)]),
 .o (.move 6 (sl 9))])
 ((.seq (.seq (.reg [.o (.move 10 (sl 6)),
 .o (.bin 11 .neq (sl 10) (ci 0))])
 ((.cond (sl 11) (.seq (.reg [.o (.move 12 (sl 6)),
 .o (.move 4 (ci 0)),
 .o (.move 5 (sl 12))])
 (.ret))
 .skip)))
 ((.seq (.reg [.o (.fld 13 5 (sl 3)),
 .o (.load1 14 (sl 13)),
 .o (.fld 15 4 (sl 3)),
 .o (.load1 16 (sl 15)),
 .o (.bin 17 .sub (sl 14) (sl 16)),
 .o (.move 4 (sl 17)),
 .o (.move 5 (ci 0))])
 (.ret))))))))
theorem fun_spec_WidthOf {rin : List T} {args : List A} {Q : List T → T → Prop} (ha : args.length ≤ 18) (h : cW Try.prog 18 c_spec_WidthOf (retP Try.prog [.tmp 4, .tmp 5] rin.length Q) (St.of (enum 0 args) (enum 1000000000 rin))) :
    Fun Try.prog 74 rin args Q :=
  Fun.of (H := ⟨[], []⟩) Try.func74 rfl rfl rfl (by kernel_rfl) ha (by decide) h

def c_laws_likeClaims : CC :=
 (.seq (.reg [.o (.box 2 (sl 0)),
 .o (.box 3 (sl 1)),
 .o (.move 4 (cb false))])
 ((.seq (.reg [.o (.fld 5 0 (sl 2)),
 .o (.loadN 6 2 (sl 5)),
 .o (.fld 7 0 (sl 3)),
 .o (.loadN 8 2 (sl 7)),
 .o (.call (some 9) (cf 65) [(sl 6), (sl 8)]),
 .o (.move 10 (sl 9)),
 .g 10 true (some 11) (.fld 11 2 (sl 2)),
 .g 10 true (some 12) (.loadN 12 2 (sl 11)),
 .g 10 true (some 13) (.fld 13 2 (sl 3)),
 .g 10 true (some 14) (.loadN 14 2 (sl 13)),
 .g 10 true (some 15) (.call (some 15) (cf 65) [(sl 12), (sl 14)]),
 .o (.pick 16 (sl 10) (sl 15) (cb false)),
 .o (.move 17 (sl 16)),
 .g 17 true (some 18) (.fld 18 4 (sl 2)),
 .g 17 true (some 19) (.load1 19 (sl 18)),
 .g 17 true (some 20) (.fld 20 4 (sl 3)),
 .g 17 true (some 21) (.load1 21 (sl 20)),
 .g 17 true (some 22) (.bin 22 .eql (sl 19) (sl 21)),
 .o (.pick 23 (sl 17) (sl 22) (cb false)),
 .o (.move 24 (sl 23)),
 .g 24 true (some 25) (.fld 25 5 (sl 2)),
 .g 24 true (some 26) (.load1 26 (sl 25)),
 .g 24 true (some 27) (.fld 27 5 (sl 3)),
 .g 24 true (some 28) (.load1 28 (sl 27)),
 .g 24 true (some 29) (.bin 29 .eql (sl 26) (sl 28)),
 .o (.pick 30 (sl 24) (sl 29) (cb false)),
 .o (.move 4 (sl 30))])
 (.ret))))
theorem fun_laws_likeClaims {rin : List T} {args : List A} {Q : List T → T → Prop} (ha : args.length ≤ 31) (h : cW Try.prog 31 c_laws_likeClaims (retP Try.prog [.tmp 4] rin.length Q) (St.of (enum 0 args) (enum 1000000000 rin))) :
    Fun Try.prog 75 rin args Q :=
  Fun.of (H := ⟨[], []⟩) Try.func75 rfl rfl rfl (by kernel_rfl) ha (by decide) h

def c_impl_IsProved : CC :=
 (.seq (.reg [.o (.box 2 (sl 0)),
 .o (.box 3 (sl 1)),
 .o (.move 4 (cb false))])
 ((.seq (.reg [.o (.loadN 5 3 (sl 2)),
 .o (.call (some 6) (cf 115) [(sl 5)]),
 .o (.move 7 (sl 6)),
 .g 7 true (some 8) (.loadN 8 3 (sl 2)),
 .g 7 true (some 9) (.loadN 9 6 (sl 3)),
 .g 7 true (some 10) (.call (some 10) (cf 142) [(sl 8), (sl 9)]),
 .o (.pick 11 (sl 7) (sl 10) (cb false)),
 .o (.move 4 (sl 11))])
 (.ret))))
theorem fun_impl_IsProved {rin : List T} {args : List A} {Q : List T → T → Prop} (ha : args.length ≤ 12) (h : cW Try.prog 12 c_impl_IsProved (retP Try.prog [.tmp 4] rin.length Q) (St.of (enum 0 args) (enum 1000000000 rin))) :
    Fun Try.prog 76 rin args Q :=
  Fun.of (H := ⟨[], []⟩) Try.func76 rfl rfl rfl (by kernel_rfl) ha (by decide) h

def c_spec_ValueBounds : CC :=
 (.seq (.reg [.o (.box 3 (sl 0)),
 .o (.box 4 (sl 1)),
 .o (.box 5 (sl 2)),
 .o (.move 6 (ci 0)),
 .o (.move 7 (ci 0)),
 .o (.move 8 (ci 0)),
 .o (.move 9 (ci 0))])
 ((.seq (.seq (.reg [.o (.loadN 12 3 (sl 3)),
 .o (.loadN 13 2 (sl 4)),
 .o (.loadN 14 2 (sl 5)),
 .o (.call (some 15) (cf 123) [(sl 12), (sl 13), (sl 14)]),
 .o (.un 16 .not (sl 15))])
 ((.cond (sl 16) (.seq (.reg [.o (.move 6 (ci 0)),
 .o (.move 7 (ci 0)),
 .o (.move 8 (ci 0)),
 .o (.move 9 (ci 1))])
 (.ret))
 .skip)))
 ((.seq (.reg [.o (.loadN 18 3 (sl 3)),
 .o (.loadN 19 2 (sl 4)),
 .o (.loadN 20 2 (sl 5)),
 .o (.call (some 21) (cf 124) [(sl 18), (sl 19), (sl 20)]),
 .o (.move 17 (sl 21)),
 .o (.extract 22 (sl 17) 0),
 .o (.extract 23 (sl 17) 1),
 .o (.move 10 (sl 22)),
 .o (.move 11 (sl 23))])
 ((.seq (.reg [.o (.move 24 (sl 11)),
 .o (.un 25 .neg (sl 24)),
 .o (.move 26 (sl 10)),
 .o (.loadN 27 3 (sl 3)),
 .o (.call (some 28) (cf 134) [(sl 27)]),
 .o (.move 6 (sl 25)),
 .o (.move 7 (sl 26)),
 .o (.move 8 (sl 28)),
 .o (.move 9 (ci 0))])
 (.ret))))))))
theorem fun_spec_ValueBounds {rin : List T} {args : List A} {Q : List T → T → Prop} (ha : args.length ≤ 29) (h : cW Try.prog 29 c_spec_ValueBounds (retP Try.prog [.tmp 6, .tmp 7, .tmp 8, .tmp 9] rin.length Q) (St.of (enum 0 args) (enum 1000000000 rin))) :
    Fun Try.prog 79 rin args Q :=
  Fun.of (H := ⟨[], []⟩) Try.func79 rfl rfl rfl (by kernel_rfl) ha (by decide) h

def c_laws_likeLists : CC :=
 (.seq (.reg [.o (.move 4 (cb false))])
 ((.seq (.seq (.reg [.o (.move 6 (sl 0)),
 .o (.lenS 7 (sl 6)),
 .o (.move 8 (sl 1)),
 .o (.lenS 9 (sl 8)),
 .o (.bin 10 .neq (sl 7) (sl 9))])
 ((.cond (sl 10) (.seq (.reg [.o (.move 4 (cb false))])
 (.ret))
 .skip)))
 ((.seq (.seq (.reg [.o (.move 5 (ci 0))])
 ((.block 0 (.loop (.seq (.seq (.reg [.o (.move 11 (sl 5)),
 .o (.move 12 (sl 0)),
 .o (.lenS 13 (sl 12)),
 .o (.bin 14 .lss (sl 11) (sl 13))])
 ((.cond (sl 14) .skip
 (.exit 0))))
 ((.seq (.block 1 (.seq (.draw [] [(kR, .o (.move 17 (sl 0))),
 (kR, .o (.move 18 (sl 5))),
 (kR, .o (.idx 19 1 (sl 17) (sl 18))),
 (kR, .o (.load1 20 (sl 19))),
 (kR, .o (.move 21 (sl 1))),
 (kR, .o (.move 22 (sl 5))),
 (kR, .o (.idx 23 1 (sl 21) (sl 22))),
 (kR, .o (.load1 24 (sl 23))),
 (kR, .o (.call (some 25) (cf 94) [(sl 20), (sl 24)])),
 (kR, .o (.un 26 .not (sl 25)))])
 ((.cond (sl 26) (.seq (.reg [.o (.move 4 (cb false))])
 (.ret))
 .skip))))
 ((.reg [.o (.move 15 (sl 5)),
 .o (.bin 16 .add (sl 15) (ci 1)),
 .o (.move 5 (sl 16))])))))))))
 ((.seq (.reg [.o (.move 4 (cb true))])
 (.ret))))))))
theorem fun_laws_likeLists {rin : List T} {args : List A} {Q : List T → T → Prop} (ha : args.length ≤ 27) (h : cW Try.prog 27 c_laws_likeLists (retP Try.prog [.tmp 4] rin.length Q) (St.of (enum 0 args) (enum 1000000000 rin))) :
    Fun Try.prog 84 rin args Q :=
  Fun.of (H := ⟨[], []⟩) Try.func84 rfl rfl rfl (by kernel_rfl) ha (by decide) h

def c_laws_likeInts : CC :=
 (.seq (.reg [.o (.move 4 (cb false))])
 ((.seq (.seq (.reg [.o (.move 6 (sl 0)),
 .o (.lenS 7 (sl 6)),
 .o (.move 8 (sl 1)),
 .o (.lenS 9 (sl 8)),
 .o (.bin 10 .neq (sl 7) (sl 9))])
 ((.cond (sl 10) (.seq (.reg [.o (.move 4 (cb false))])
 (.ret))
 .skip)))
 ((.seq (.seq (.reg [.o (.move 5 (ci 0))])
 ((.block 0 (.loop (.seq (.seq (.reg [.o (.move 11 (sl 5)),
 .o (.move 12 (sl 0)),
 .o (.lenS 13 (sl 12)),
 .o (.bin 14 .lss (sl 11) (sl 13))])
 ((.cond (sl 14) .skip
 (.exit 0))))
 ((.seq (.block 1 (.seq (.draw [] [(kR, .o (.move 17 (sl 0))),
 (kR, .o (.move 18 (sl 5))),
 (kR, .o (.idx 19 1 (sl 17) (sl 18))),
 (kR, .o (.load1 20 (sl 19))),
 (kR, .o (.move 21 (sl 1))),
 (kR, .o (.move 22 (sl 5))),
 (kR, .o (.idx 23 1 (sl 21) (sl 22))),
 (kR, .o (.load1 24 (sl 23))),
 (kR, .o (.bin 25 .neq (sl 20) (sl 24)))])
 ((.cond (sl 25) (.seq (.reg [.o (.move 4 (cb false))])
 (.ret))
 .skip))))
 ((.reg [.o (.move 15 (sl 5)),
 .o (.bin 16 .add (sl 15) (ci 1)),
 .o (.move 5 (sl 16))])))))))))
 ((.seq (.reg [.o (.move 4 (cb true))])
 (.ret))))))))
theorem fun_laws_likeInts {rin : List T} {args : List A} {Q : List T → T → Prop} (ha : args.length ≤ 26) (h : cW Try.prog 26 c_laws_likeInts (retP Try.prog [.tmp 4] rin.length Q) (St.of (enum 0 args) (enum 1000000000 rin))) :
    Fun Try.prog 94 rin args Q :=
  Fun.of (H := ⟨[], []⟩) Try.func94 rfl rfl rfl (by kernel_rfl) ha (by decide) h

def c_impl_within : CC :=
 (.seq (.reg [.o (.move 6 (cb false))])
 ((.seq (.reg [.o (.move 7 (sl 0)),
 .o (.move 8 (sl 1)),
 .o (.bin 9 .geq (sl 7) (sl 8)),
 .o (.move 10 (sl 9)),
 .g 10 true (some 11) (.move 11 (sl 0)),
 .g 10 true (some 12) (.move 12 (sl 2)),
 .g 10 true (some 13) (.bin 13 .leq (sl 11) (sl 12)),
 .o (.pick 14 (sl 10) (sl 13) (cb false)),
 .o (.move 6 (sl 14))])
 (.ret))))
theorem fun_impl_within {rin : List T} {args : List A} {Q : List T → T → Prop} (ha : args.length ≤ 15) (h : cW Try.prog 15 c_impl_within (retP Try.prog [.tmp 6] rin.length Q) (St.of (enum 0 args) (enum 1000000000 rin))) :
    Fun Try.prog 110 rin args Q :=
  Fun.of (H := ⟨[], []⟩) Try.func110 rfl rfl rfl (by kernel_rfl) ha (by decide) h

def c_impl_IsGame : CC :=
 (.seq (.reg [.o (.box 1 (sl 0)),
 .o (.move 2 (cb false))])
 ((.seq (.reg [.o (.fld 5 1 (sl 1)),
 .o (.load1 6 (sl 5)),
 .o (.lenS 7 (sl 6)),
 .o (.move 3 (sl 7))])
 ((.seq (.seq (.reg [.o (.fld 8 0 (sl 1)),
 .o (.loadN 9 1 (sl 8)),
 .o (.call (some 10) (cf 175) [(sl 9)]),
 .o (.un 11 .not (sl 10)),
 .o (.move 12 (sl 11)),
 .g 12 false (some 13) (.move 13 (sl 3)),
 .g 12 false (some 14) (.call (some 14) (cf 110) [(sl 13), (ci 1), (ci 6)]),
 .g 12 false (some 15) (.un 15 .not (sl 14)),
 .o (.pick 16 (sl 12) (cb true) (sl 15)),
 .o (.move 17 (sl 16)),
 .g 17 false (some 18) (.fld 18 2 (sl 1)),
 .g 17 false (some 19) (.load1 19 (sl 18)),
 .g 17 false (some 20) (.lenS 20 (sl 19)),
 .g 17 false (some 21) (.move 21 (sl 3)),
 .g 17 false (some 22) (.bin 22 .neq (sl 20) (sl 21)),
 .o (.pick 23 (sl 17) (cb true) (sl 22))])
 ((.cond (sl 23) (.seq (.reg [.o (.move 2 (cb false))])
 (.ret))
 .skip)))
 ((.seq (.seq (.reg [.o (.move 24 (sl 3)),
 .o (.move 25 (ci 0))])
 ((.block 0 (.loop (.seq (.reg [.o (.bin 26 .lss (sl 25) (sl 24))])
 ((.seq (.cond (sl 26) .skip
 (.exit 0))
 ((.seq (.block 1 (.seq (.reg [.o (.move 27 (sl 25)),
 .o (.move 4 (sl 27))])
 ((.seq (.reg [.o (.fld 28 1 (sl 1)),
 .o (.load1 29 (sl 28)),
 .o (.move 30 (sl 4)),
 .o (.idx 31 1 (sl 29) (sl 30)),
 .o (.load1 32 (sl 31)),
 .o (.lenS 33 (sl 32)),
 .o (.move 34 (sl 3)),
 .o (.bin 35 .neq (sl 33) (sl 34)),
 .o (.move 36 (sl 35)),
 .g 36 false (some 37) (.fld 37 2 (sl 1)),
 .g 36 false (some 38) (.load1 38 (sl 37)),
 .g 36 false (some 39) (.move 39 (sl 4)),
 .g 36 false (some 40) (.idx 40 1 (sl 38) (sl 39)),
 .g 36 false (some 41) (.load1 41 (sl 40)),
 .g 36 false (some 42) (.lenS 42 (sl 41)),
 .g 36 false (some 43) (.move 43 (sl 3)),
 .g 36 false (some 44) (.bin 44 .neq (sl 42) (sl 43)),
 .o (.pick 45 (sl 36) (cb true) (sl 44)),
 .o (.move 46 (sl 45)),
 .g 46 false (some 47) (.fld 47 1 (sl 1)),
 .g 46 false (some 48) (.load1 48 (sl 47)),
 .g 46 false (some 49) (.move 49 (sl 4)),
 .g 46 false (some 50) (.idx 50 1 (sl 48) (sl 49)),
 .g 46 false (some 51) (.load1 51 (sl 50)),
 .g 46 false (some 52) (.call (some 52) (cf 176) [(sl 51), (ci 0), (ci 9)]),
 .g 46 false (some 53) (.un 53 .not (sl 52)),
 .o (.pick 54 (sl 46) (cb true) (sl 53)),
 .o (.move 55 (sl 54)),
 .g 55 false (some 56) (.fld 56 2 (sl 1)),
 .g 55 false (some 57) (.load1 57 (sl 56)),
 .g 55 false (some 58) (.move 58 (sl 4)),
 .g 55 false (some 59) (.idx 59 1 (sl 57) (sl 58)),
 .g 55 false (some 60) (.load1 60 (sl 59)),
 .g 55 false (some 61) (.call (some 61) (cf 176) [(sl 60), (ci (-1)), (ci 1)]),
 .g 55 false (some 62) (.un 62 .not (sl 61)),
 .o (.pick 63 (sl 55) (cb true) (sl 62))])
 ((.cond (sl 63) (.seq (.reg [.o (.move 2 (cb false))])
 (.ret))
 .skip))))))
 ((.reg [.o (.bin 64 .add (sl 25) (ci 1)),
 .o (.move 25 (sl 64))])))))))))))
 ((.seq (.reg [.o (.loadN 65 3 (sl 1)),
 .o (.call (some 66) (cf 177) [(sl 65)]),
 .o (.bin 67 .gtr (sl 66) (ci 0)),
 .o (.move 2 (sl 67))])
 (.ret))))))))))
theorem fun_impl_IsGame {rin : List T} {args : List A} {Q : List T → T → Prop} (ha : args.length ≤ 68) (h : cW Try.prog 68 c_impl_IsGame (retP Try.prog [.tmp 2] rin.length Q) (St.of (enum 0 args) (enum 1000000000 rin))) :
    Fun Try.prog 115 rin args Q :=
  Fun.of (H := ⟨[], []⟩) Try.func115 rfl rfl rfl (by kernel_rfl) ha (by decide) h

def c_spec_l23Draw : CC :=
 (.seq (.reg [.o (.alloc 2 [.v (.slice none 0 0), .v (.slice none 0 0), .v (.slice none 0 0)]),
 .o (.alloc 3 [.v (.int .i64 0), .v (.slice none 0 0)]),
 .o (.alloc 4 [.v (.int .i64 0), .v (.slice none 0 0)])])
 ((.seq (.reg [.o (.move 9 (sl 0)),
 .o (.call (some 10) (cf 133) [(sl 9), (ci 0)]),
 .o (.move 8 (sl 10)),
 .o (.extract 11 (sl 8) 0),
 .o (.extract 12 (sl 8) 1),
 .o (.alloc 5 [.v (.slice none 0 0), .v (.slice none 0 0), .v (.slice none 0 0)]),
 .o (.alloc 6 [.v (.int .i64 0), .v (.slice none 0 0)]),
 .o (.store 3 (sl 5) (sl 11)),
 .o (.store 2 (sl 6) (sl 12))])
 ((.seq (.seq (.reg [.o (.loadN 13 3 (sl 5)),
 .o (.call (some 14) (cf 139) [(sl 13)]),
 .o (.un 15 .not (sl 14))])
 ((.cond (sl 15) (.seq (.weak (.draw [] [(kR, .o (.loadN 16 3 (sl 5))),
 (.r false [2], .o (.loadN 17 2 (sl 6))),
 (.r false [2, 3], .o (.build 18 [.v (.int .i64 0), .v (.slice none 0 0)] [(0, 1), (1, 1)] [(0, (ci 1))])),
 (.h (some [2]) [], .o (.store 3 (sl 2) (sl 16))),
 (.h (some [3]) [], .o (.store 2 (sl 3) (sl 17))),
 (kH, .o (.store 2 (sl 4) (sl 18)))]))
 (.ret))
 .skip)))
 ((.seq (.reg [.o (.move 19 (sl 0)),
 .o (.loadN 20 3 (sl 5)),
 .o (.call (some 21) (cf 141) [(sl 19), (sl 20), (ci 1)]),
 .o (.alloc 7 [.v (.int .i64 0), .v (.slice none 0 0)]),
 .o (.store 2 (sl 7) (sl 21))])
 ((.seq (.seq (.reg [.o (.move 22 (sl 0)),
 .o (.call (some 23) (cf 126) [(sl 22), (ci 6)]),
 .o (.bin 24 .eql (sl 23) (ci 0))])
 ((.cond (sl 24) (.reg [.o (.loadN 25 3 (sl 5)),
 .o (.call (some 26) (cf 178) [(sl 25), (ci 1)]),
 .o (.store 2 (sl 7) (sl 26))])
 .skip)))
 ((.seq (.seq (.reg [.o (.move 27 (sl 0)),
 .o (.call (some 28) (cf 126) [(sl 27), (ci 20)]),
 .o (.bin 29 .eql (sl 28) (ci 0))])
 ((.cond (sl 29) (.reg [.o (.fld 30 0 (sl 7)),
 .o (.store 1 (sl 30) (ci 0))])
 .skip)))
 ((.seq (.weak (.draw [] [(kR, .o (.loadN 31 3 (sl 5))),
 (.r false [2], .o (.loadN 32 2 (sl 6))),
 (.r false [2, 3], .o (.loadN 33 2 (sl 7))),
 (.h (some [2]) [], .o (.store 3 (sl 2) (sl 31))),
 (.h (some [3]) [], .o (.store 2 (sl 3) (sl 32))),
 (kH, .o (.store 2 (sl 4) (sl 33)))]))
 (.ret))))))))))))))
theorem fun_spec_l23Draw {rin : List T} {args : List A} {Q : List T → T → Prop} (ha : args.length ≤ 34) (h : cW Try.prog 34 c_spec_l23Draw (retP Try.prog [.cell 2 35, .cell 3 47, .cell 4 47] rin.length Q) (St.of (enum 0 args) (enum 1000000000 rin))) :
    Fun Try.prog 118 rin args Q :=
  Fun.of (H := ⟨[(3, 1, .r false [2]), (3, 2, .r false [2, 3]), (3, 3, .h (some [2]) []), (3, 4, .h (some [3]) []), (9, 1, .r false [2]), (9, 2, .r false [2, 3]), (9, 3, .h (some [2]) []), (9, 4, .h (some [3]) [])], [3, 9]⟩) Try.func118 rfl rfl rfl (by kernel_rfl) ha (by decide) h

def c_spec_l01From : CC :=
 (.seq (.reg [.o (.move 2 (cv (.pointer none)))])
 ((.seq (.reg [.o (.move 5 (sl 0)),
 .o (.build 6 [.v (.slice none 0 0), .v (.int .i64 0), .v (.int .i64 0)] [(0, 1), (1, 1), (2, 1)] [(0, (sl 5)), (2, (ci 45007))]),
 .o (.box 7 (sl 6)),
 .o (.move 3 (sl 7))])
 ((.seq (.seq (.reg [.o (.move 4 (ci 0))])
 ((.block 0 (.loop (.seq (.seq (.reg [.o (.move 8 (sl 4)),
 .o (.move 9 (sl 0)),
 .o (.lenS 10 (sl 9)),
 .o (.bin 11 .lss (sl 8) (sl 10)),
 .o (.move 12 (sl 11)),
 .g 12 true (some 13) (.move 13 (sl 4)),
 .g 12 true (some 14) (.bin 14 .lss (sl 13) (ci 64)),
 .o (.pick 15 (sl 12) (sl 14) (cb false))])
 ((.cond (sl 15) .skip
 (.exit 0))))
 ((.seq (.block 1 (.draw [] [(kR, .o (.move 18 (sl 3))),
 (kR, .o (.move 19 (sl 3))),
 (kR, .o (.nilc 20 (sl 19))),
 (kR, .o (.fld 21 2 (sl 20))),
 (kR, .o (.load1 22 (sl 21))),
 (kR, .o (.bin 23 .mul (sl 22) (ci 61))),
 (kR, .o (.move 24 (sl 0))),
 (kR, .o (.move 25 (sl 4))),
 (kR, .o (.idx 26 1 (sl 24) (sl 25))),
 (kR, .o (.load1 27 (sl 26))),
 (kR, .o (.conv 28 .i64 (sl 27))),
 (kR, .o (.bin 29 .add (sl 23) (sl 28))),
 (kR, .o (.bin 30 .rem (sl 29) (ci 2147483647))),
 (kR, .o (.nilc 31 (sl 18))),
 (kR, .o (.fld 32 2 (sl 31))),
 (kH, .o (.store 1 (sl 32) (sl 30)))]))
 ((.reg [.o (.move 16 (sl 4)),
 .o (.bin 17 .add (sl 16) (ci 1)),
 .o (.move 4 (sl 17))])))))))))
 ((.seq (.reg [.o (.move 33 (sl 3)),
 .o (.move 2 (sl 33))])
 (.ret))))))))
theorem fun_spec_l01From {rin : List T} {args : List A} {Q : List T → T → Prop} (ha : args.length ≤ 34) (h : cW Try.prog 34 c_spec_l01From (retP Try.prog [.tmp 2] rin.length Q) (St.of (enum 0 args) (enum 1000000000 rin))) :
    Fun Try.prog 119 rin args Q :=
  Fun.of (H := ⟨[], []⟩) Try.func119 rfl rfl rfl (by kernel_rfl) ha (by decide) h

def c_impl_arePair : CC :=
 (.seq (.reg [.o (.box 3 (sl 0)),
 .o (.box 4 (sl 1)),
 .o (.box 5 (sl 2)),
 .o (.move 6 (cb false))])
 ((.seq (.reg [.o (.loadN 7 3 (sl 3)),
 .o (.call (some 8) (cf 115) [(sl 7)]),
 .o (.move 9 (sl 8)),
 .g 9 true (some 10) (.fld 10 0 (sl 4)),
 .g 9 true (some 11) (.load1 11 (sl 10)),
 .g 9 true (some 12) (.bin 12 .eql (sl 11) (ci 0)),
 .o (.pick 13 (sl 9) (sl 12) (cb false)),
 .o (.move 14 (sl 13)),
 .g 14 true (some 15) (.fld 15 0 (sl 5)),
 .g 14 true (some 16) (.load1 16 (sl 15)),
 .g 14 true (some 17) (.bin 17 .eql (sl 16) (ci 1)),
 .o (.pick 18 (sl 14) (sl 17) (cb false)),
 .o (.move 19 (sl 18)),
 .g 19 true (some 20) (.loadN 20 3 (sl 3)),
 .g 19 true (some 21) (.loadN 21 2 (sl 4)),
 .g 19 true (some 22) (.call (some 22) (cf 153) [(sl 20), (sl 21)]),
 .o (.pick 23 (sl 19) (sl 22) (cb false)),
 .o (.move 24 (sl 23)),
 .g 24 true (some 25) (.loadN 25 3 (sl 3)),
 .g 24 true (some 26) (.loadN 26 2 (sl 5)),
 .g 24 true (some 27) (.call (some 27) (cf 153) [(sl 25), (sl 26)]),
 .o (.pick 28 (sl 24) (sl 27) (cb false)),
 .o (.move 6 (sl 28))])
 (.ret))))
theorem fun_impl_arePair {rin : List T} {args : List A} {Q : List T → T → Prop} (ha : args.length ≤ 29) (h : cW Try.prog 29 c_impl_arePair (retP Try.prog [.tmp 6] rin.length Q) (St.of (enum 0 args) (enum 1000000000 rin))) :
    Fun Try.prog 120 rin args Q :=
  Fun.of (H := ⟨[], []⟩) Try.func120 rfl rfl rfl (by kernel_rfl) ha (by decide) h

def c_spec_l23Pair : CC :=
 (.seq (.reg [.o (.box 3 (sl 0)),
 .o (.box 4 (sl 1)),
 .o (.box 5 (sl 2)),
 .o (.move 6 (cb false))])
 ((.seq (.reg [.o (.loadN 7 3 (sl 3)),
 .o (.loadN 8 2 (sl 4)),
 .o (.call (some 9) (cf 131) [(sl 7), (sl 8)]),
 .o (.move 10 (sl 9)),
 .g 10 true (some 11) (.loadN 11 3 (sl 3)),
 .g 10 true (some 12) (.loadN 12 2 (sl 5)),
 .g 10 true (some 13) (.call (some 13) (cf 131) [(sl 11), (sl 12)]),
 .o (.pick 14 (sl 10) (sl 13) (cb false)),
 .o (.move 15 (sl 14)),
 .g 15 true (some 16) (.fld 16 0 (sl 4)),
 .g 15 true (some 17) (.load1 17 (sl 16)),
 .g 15 true (some 18) (.bin 18 .eql (sl 17) (ci 0)),
 .o (.pick 19 (sl 15) (sl 18) (cb false)),
 .o (.move 20 (sl 19)),
 .g 20 true (some 21) (.fld 21 0 (sl 5)),
 .g 20 true (some 22) (.load1 22 (sl 21)),
 .g 20 true (some 23) (.bin 23 .eql (sl 22) (ci 1)),
 .o (.pick 24 (sl 20) (sl 23) (cb false)),
 .o (.move 6 (sl 24))])
 (.ret))))
theorem fun_spec_l23Pair {rin : List T} {args : List A} {Q : List T → T → Prop} (ha : args.length ≤ 25) (h : cW Try.prog 25 c_spec_l23Pair (retP Try.prog [.tmp 6] rin.length Q) (St.of (enum 0 args) (enum 1000000000 rin))) :
    Fun Try.prog 123 rin args Q :=
  Fun.of (H := ⟨[], []⟩) Try.func123 rfl rfl rfl (by kernel_rfl) ha (by decide) h

def c_spec_l24Both : CC :=
 (.seq (.reg [.o (.box 3 (sl 0)),
 .o (.box 4 (sl 1)),
 .o (.box 5 (sl 2)),
 .o (.move 6 (ci 0)),
 .o (.move 7 (ci 0))])
 ((.seq (.reg [.o (.loadN 13 3 (sl 3)),
 .o (.loadN 14 2 (sl 5)),
 .o (.call (some 15) (cf 132) [(sl 13), (sl 14)]),
 .o (.move 12 (sl 15)),
 .o (.extract 16 (sl 12) 0),
 .o (.extract 17 (sl 12) 1),
 .o (.alloc 9 [.v (.int .i64 0), .v (.slice none 0 0)]),
 .o (.move 8 (sl 16)),
 .o (.store 2 (sl 9) (sl 17))])
 ((.seq (.reg [.o (.loadN 19 3 (sl 3)),
 .o (.loadN 20 2 (sl 4)),
 .o (.call (some 21) (cf 132) [(sl 19), (sl 20)]),
 .o (.move 18 (sl 21)),
 .o (.extract 22 (sl 18) 0),
 .o (.extract 23 (sl 18) 1),
 .o (.alloc 11 [.v (.int .i64 0), .v (.slice none 0 0)]),
 .o (.move 10 (sl 22)),
 .o (.store 2 (sl 11) (sl 23))])
 ((.seq (.reg [.o (.move 24 (sl 8)),
 .o (.move 25 (sl 10)),
 .o (.move 6 (sl 24)),
 .o (.move 7 (sl 25))])
 (.ret))))))))
theorem fun_spec_l24Both {rin : List T} {args : List A} {Q : List T → T → Prop} (ha : args.length ≤ 26) (h : cW Try.prog 26 c_spec_l24Both (retP Try.prog [.tmp 6, .tmp 7] rin.length Q) (St.of (enum 0 args) (enum 1000000000 rin))) :
    Fun Try.prog 124 rin args Q :=
  Fun.of (H := ⟨[], []⟩) Try.func124 rfl rfl rfl (by kernel_rfl) ha (by decide) h

def c_spec_l01Next : CC :=
 (.seq (.reg [.o (.move 4 (ci 0))])
 ((.seq (.seq (.reg [.o (.move 6 (sl 1)),
 .o (.bin 7 .leq (sl 6) (ci 1))])
 ((.cond (sl 7) (.seq (.reg [.o (.move 4 (ci 0))])
 (.ret))
 .skip)))
 ((.seq (.reg [.o (.move 8 (sl 0)),
 .o (.move 9 (sl 0)),
 .o (.nilc 10 (sl 9)),
 .o (.fld 11 2 (sl 10)),
 .o (.load1 12 (sl 11)),
 .o (.bin 13 .mul (sl 12) (ci 48271)),
 .o (.bin 14 .add (sl 13) (ci 29)),
 .o (.bin 15 .rem (sl 14) (ci 2147483647)),
 .o (.nilc 16 (sl 8)),
 .o (.fld 17 2 (sl 16)),
 .o (.store 1 (sl 17) (sl 15))])
 ((.seq (.reg [.o (.move 18 (sl 0)),
 .o (.nilc 19 (sl 18)),
 .o (.fld 20 2 (sl 19)),
 .o (.load1 21 (sl 20)),
 .o (.bin 22 .quo (sl 21) (ci 31)),
 .o (.move 5 (sl 22))])
 ((.seq (.seq (.draw [] [(kR, .o (.move 23 (sl 0))),
 (kR, .o (.nilc 24 (sl 23))),
 (kR, .o (.fld 25 1 (sl 24))),
 (kR, .o (.load1 26 (sl 25))),
 (kR, .o (.move 27 (sl 0))),
 (kR, .o (.nilc 28 (sl 27))),
 (kR, .o (.fld 29 0 (sl 28))),
 (kR, .o (.load1 30 (sl 29))),
 (kR, .o (.lenS 31 (sl 30))),
 (kR, .o (.bin 32 .lss (sl 26) (sl 31)))])
 ((.cond (sl 32) (.seq (.draw [] [(kR, .o (.move 33 (sl 5))),
 (kR, .o (.move 34 (sl 0))),
 (kR, .o (.nilc 35 (sl 34))),
 (kR, .o (.fld 36 0 (sl 35))),
 (kR, .o (.load1 37 (sl 36))),
 (kR, .o (.move 38 (sl 0))),
 (kR, .o (.nilc 39 (sl 38))),
 (kR, .o (.fld 40 1 (sl 39))),
 (kR, .o (.load1 41 (sl 40))),
 (kR, .o (.idx 42 1 (sl 37) (sl 41))),
 (kR, .o (.load1 43 (sl 42))),
 (kR, .o (.conv 44 .i64 (sl 43))),
 (kR, .o (.bin 45 .add (sl 33) (sl 44))),
 (kR, .o (.move 5 (sl 45)))])
 ((.seq (.reg [.o (.move 46 (sl 0)),
 .o (.nilc 47 (sl 46)),
 .o (.fld 48 1 (sl 47)),
 .o (.load1 49 (sl 48)),
 .o (.bin 50 .add (sl 49) (ci 1)),
 .o (.nilc 51 (sl 46)),
 .o (.fld 52 1 (sl 51)),
 .o (.store 1 (sl 52) (sl 50))])
 ((.seq (.reg [.o (.move 53 (sl 1)),
 .o (.bin 54 .leq (sl 53) (ci 256)),
 .o (.move 55 (sl 54)),
 .g 55 true (some 56) (.move 56 (sl 0)),
 .g 55 true (some 57) (.nilc 57 (sl 56)),
 .g 55 true (some 58) (.fld 58 1 (sl 57)),
 .g 55 true (some 59) (.load1 59 (sl 58)),
 .g 55 true (some 60) (.bin 60 .rem (sl 59) (ci 2)),
 .g 55 true (some 61) (.bin 61 .eql (sl 60) (ci 0)),
 .o (.pick 62 (sl 55) (sl 61) (cb false))])
 ((.cond (sl 62) (.draw [] [(kR, .o (.move 63 (sl 0))),
 (kR, .o (.nilc 64 (sl 63))),
 (kR, .o (.fld 65 0 (sl 64))),
 (kR, .o (.load1 66 (sl 65))),
 (kR, .o (.move 67 (sl 0))),
 (kR, .o (.nilc 68 (sl 67))),
 (kR, .o (.fld 69 1 (sl 68))),
 (kR, .o (.load1 70 (sl 69))),
 (kR, .o (.bin 71 .sub (sl 70) (ci 1))),
 (kR, .o (.idx 72 1 (sl 66) (sl 71))),
 (kR, .o (.load1 73 (sl 72))),
 (kR, .o (.conv 74 .i64 (sl 73))),
 (kR, .o (.move 5 (sl 74)))])
 .skip)))))))
 .skip)))
 ((.seq (.reg [.o (.move 75 (sl 5)),
 .o (.move 76 (sl 1)),
 .o (.bin 77 .rem (sl 75) (sl 76)),
 .o (.move 4 (sl 77))])
 (.ret))))))))))))
theorem fun_spec_l01Next {rin : List T} {args : List A} {Q : List T → T → Prop} (ha : args.length ≤ 78) (h : cW Try.prog 78 c_spec_l01Next (retP Try.prog [.tmp 4] rin.length Q) (St.of (enum 0 args) (enum 1000000000 rin))) :
    Fun Try.prog 126 rin args Q :=
  Fun.of (H := ⟨[], []⟩) Try.func126 rfl rfl rfl (by kernel_rfl) ha (by decide) h

def c_spec_KuhnGame : CC :=
 (.seq (.reg [.o (.alloc 0 [.v (.slice none 0 0), .v (.slice none 0 0), .v (.slice none 0 0)])])
 ((.seq (.reg [.o (.call (some 4) (cf 184) [(ci 1), (ci 1), (ci 0)]),
 .o (.move 3 (sl 4)),
 .o (.extract 5 (sl 3) 0),
 .o (.extract 6 (sl 3) 1),
 .o (.alloc 1 [.v (.slice none 0 0)]),
 .o (.store 1 (sl 1) (sl 5)),
 .o (.move 2 (sl 6))])
 ((.seq (.reg [.o (.loadN 7 1 (sl 1)),
 .o (.call (some 8) (cf 185) [(sl 7), (ci 3), (cb false)]),
 .o (.store 3 (sl 0) (sl 8))])
 (.ret))))))
theorem fun_spec_KuhnGame {rin : List T} {args : List A} {Q : List T → T → Prop} (ha : args.length ≤ 9) (h : cW Try.prog 9 c_spec_KuhnGame (retP Try.prog [.cell 0 35] rin.length Q) (St.of (enum 0 args) (enum 1000000000 rin))) :
    Fun Try.prog 127 rin args Q :=
  Fun.of (H := ⟨[], []⟩) Try.func127 rfl rfl rfl (by kernel_rfl) ha (by decide) h

def c_spec_IsStrategy : CC :=
 (.seq (.reg [.o (.box 2 (sl 0)),
 .o (.box 3 (sl 1)),
 .o (.move 4 (cb false))])
 ((.seq (.seq (.reg [.o (.loadN 8 3 (sl 2)),
 .o (.call (some 9) (cf 139) [(sl 8)]),
 .o (.un 10 .not (sl 9)),
 .o (.move 11 (sl 10)),
 .g 11 false (some 12) (.fld 12 0 (sl 3)),
 .g 11 false (some 13) (.load1 13 (sl 12)),
 .g 11 false (some 14) (.call (some 14) (cf 148) [(sl 13), (ci 0), (ci 1)]),
 .g 11 false (some 15) (.un 15 .not (sl 14)),
 .o (.pick 16 (sl 11) (cb true) (sl 15))])
 ((.cond (sl 16) (.seq (.reg [.o (.move 4 (cb false))])
 (.ret))
 .skip)))
 ((.seq (.reg [.o (.loadN 17 3 (sl 2)),
 .o (.fld 18 0 (sl 3)),
 .o (.load1 19 (sl 18)),
 .o (.call (some 20) (cf 186) [(sl 17), (sl 19)]),
 .o (.move 5 (sl 20))])
 ((.seq (.seq (.reg [.o (.fld 21 1 (sl 3)),
 .o (.load1 22 (sl 21)),
 .o (.lenS 23 (sl 22)),
 .o (.move 24 (sl 5)),
 .o (.lenS 25 (sl 24)),
 .o (.bin 26 .neq (sl 23) (sl 25))])
 ((.cond (sl 26) (.seq (.reg [.o (.move 4 (cb false))])
 (.ret))
 .skip)))
 ((.seq (.seq (.reg [.o (.move 6 (ci 0))])
 ((.block 0 (.loop (.seq (.seq (.reg [.o (.move 27 (sl 6)),
 .o (.move 28 (sl 5)),
 .o (.lenS 29 (sl 28)),
 .o (.bin 30 .lss (sl 27) (sl 29))])
 ((.cond (sl 30) .skip
 (.exit 0))))
 ((.seq (.block 1 (.seq (.seq (.draw [] [(kR, .o (.fld 33 1 (sl 3))),
 (kR, .o (.load1 34 (sl 33))),
 (kR, .o (.move 35 (sl 6))),
 (kR, .o (.idx 36 1 (sl 34) (sl 35))),
 (kR, .o (.load1 37 (sl 36))),
 (kR, .o (.lenS 38 (sl 37))),
 (kR, .o (.fld 39 0 (sl 2))),
 (kR, .o (.fld 40 0 (sl 39))),
 (kR, .o (.load1 41 (sl 40))),
 (kR, .o (.move 42 (sl 5))),
 (kR, .o (.move 43 (sl 6))),
 (kR, .o (.idx 44 1 (sl 42) (sl 43))),
 (kR, .o (.load1 45 (sl 44))),
 (kR, .o (.idx 46 1 (sl 45) (ci 0))),
 (kR, .o (.load1 47 (sl 46))),
 (kR, .o (.idx 48 5 (sl 41) (sl 47))),
 (kR, .o (.fld 49 4 (sl 48))),
 (kR, .o (.load1 50 (sl 49))),
 (kR, .o (.lenS 51 (sl 50))),
 (kR, .o (.bin 52 .neq (sl 38) (sl 51)))])
 ((.cond (sl 52) (.seq (.reg [.o (.move 4 (cb false))])
 (.ret))
 .skip)))
 ((.seq (.seq (.reg [.o (.move 7 (ci 0))])
 ((.block 2 (.loop (.seq (.seq (.reg [.o (.move 53 (sl 7)),
 .o (.fld 54 1 (sl 3)),
 .o (.load1 55 (sl 54)),
 .o (.move 56 (sl 6)),
 .o (.idx 57 1 (sl 55) (sl 56)),
 .o (.load1 58 (sl 57)),
 .o (.lenS 59 (sl 58)),
 .o (.bin 60 .lss (sl 53) (sl 59))])
 ((.cond (sl 60) .skip
 (.exit 2))))
 ((.seq (.block 3 (.seq (.reg [.o (.fld 63 1 (sl 3)),
 .o (.load1 64 (sl 63)),
 .o (.move 65 (sl 6)),
 .o (.idx 66 1 (sl 64) (sl 65)),
 .o (.load1 67 (sl 66)),
 .o (.move 68 (sl 7)),
 .o (.idx 69 1 (sl 67) (sl 68)),
 .o (.load1 70 (sl 69)),
 .o (.call (some 71) (cf 148) [(sl 70), (ci 0), (ci 60)]),
 .o (.un 72 .not (sl 71))])
 ((.cond (sl 72) (.seq (.reg [.o (.move 4 (cb false))])
 (.ret))
 .skip))))
 ((.reg [.o (.move 61 (sl 7)),
 .o (.bin 62 .add (sl 61) (ci 1)),
 .o (.move 7 (sl 62))])))))))))
 ((.seq (.reg [.o (.fld 73 1 (sl 3)),
 .o (.load1 74 (sl 73)),
 .o (.move 75 (sl 6)),
 .o (.idx 76 1 (sl 74) (sl 75)),
 .o (.load1 77 (sl 76)),
 .o (.call (some 78) (cf 187) [(sl 77)]),
 .o (.bin 79 .neq (sl 78) (ci 60))])
 ((.cond (sl 79) (.seq (.reg [.o (.move 4 (cb false))])
 (.ret))
 .skip))))))))
 ((.reg [.o (.move 31 (sl 6)),
 .o (.bin 32 .add (sl 31) (ci 1)),
 .o (.move 6 (sl 32))])))))))))
 ((.seq (.reg [.o (.move 4 (cb true))])
 (.ret))))))))))))
theorem fun_spec_IsStrategy {rin : List T} {args : List A} {Q : List T → T → Prop} (ha : args.length ≤ 80) (h : cW Try.prog 80 c_spec_IsStrategy (retP Try.prog [.tmp 4] rin.length Q) (St.of (enum 0 args) (enum 1000000000 rin))) :
    Fun Try.prog 131 rin args Q :=
  Fun.of (H := ⟨[], []⟩) Try.func131 rfl rfl rfl (by kernel_rfl) ha (by decide) h

def c_spec_l23Unit : CC :=
 (.seq (.reg [.o (.box 1 (sl 0)),
 .o (.move 2 (ci 0))])
 ((.seq (.draw [] [(kR, .o (.loadN 3 3 (sl 1))),
 (kR, .o (.call (some 4) (cf 191) [(sl 3)])),
 (kR, .o (.fld 5 0 (sl 1))),
 (kR, .o (.loadN 6 1 (sl 5))),
 (kR, .o (.call (some 7) (cf 158) [(sl 6), (ci 0)])),
 (kR, .o (.call (some 8) (cf 157) [(sl 7)])),
 (kR, .o (.bin 9 .mul (sl 4) (sl 8))),
 (kR, .o (.move 2 (sl 9)))])
 (.ret))))
theorem fun_spec_l23Unit {rin : List T} {args : List A} {Q : List T → T → Prop} (ha : args.length ≤ 10) (h : cW Try.prog 10 c_spec_l23Unit (retP Try.prog [.tmp 2] rin.length Q) (St.of (enum 0 args) (enum 1000000000 rin))) :
    Fun Try.prog 134 rin args Q :=
  Fun.of (H := ⟨[], []⟩) Try.func134 rfl rfl rfl (by kernel_rfl) ha (by decide) h

def c_spec_IsGame : CC :=
 (.seq (.reg [.o (.box 1 (sl 0)),
 .o (.move 2 (cb false))])
 ((.seq (.reg [.o (.fld 4 1 (sl 1)),
 .o (.load1 5 (sl 4)),
 .o (.lenS 6 (sl 5)),
 .o (.move 3 (sl 6))])
 ((.seq (.reg [.o (.fld 7 0 (sl 1)),
 .o (.loadN 8 1 (sl 7)),
 .o (.call (some 9) (cf 194) [(sl 8)]),
 .o (.move 10 (sl 9)),
 .g 10 true (some 11) (.move 11 (sl 3)),
 .g 10 true (some 12) (.call (some 12) (cf 148) [(sl 11), (ci 1), (ci 6)]),
 .o (.pick 13 (sl 10) (sl 12) (cb false)),
 .o (.move 14 (sl 13)),
 .g 14 true (some 15) (.fld 15 1 (sl 1)),
 .g 14 true (some 16) (.load1 16 (sl 15)),
 .g 14 true (some 17) (.move 17 (sl 3)),
 .g 14 true (some 18) (.call (some 18) (cf 195) [(sl 16), (sl 17), (ci 0), (ci 9)]),
 .o (.pick 19 (sl 14) (sl 18) (cb false)),
 .o (.move 20 (sl 19)),
 .g 20 true (some 21) (.fld 21 2 (sl 1)),
 .g 20 true (some 22) (.load1 22 (sl 21)),
 .g 20 true (some 23) (.move 23 (sl 3)),
 .g 20 true (some 24) (.call (some 24) (cf 195) [(sl 22), (sl 23), (ci (-1)), (ci 1)]),
 .o (.pick 25 (sl 20) (sl 24) (cb false)),
 .o (.move 26 (sl 25)),
 .g 26 true (some 27) (.loadN 27 3 (sl 1)),
 .g 26 true (some 28) (.call (some 28) (cf 191) [(sl 27)]),
 .g 26 true (some 29) (.bin 29 .gtr (sl 28) (ci 0)),
 .o (.pick 30 (sl 26) (sl 29) (cb false)),
 .o (.move 2 (sl 30))])
 (.ret))))))
theorem fun_spec_IsGame {rin : List T} {args : List A} {Q : List T → T → Prop} (ha : args.length ≤ 31) (h : cW Try.prog 31 c_spec_IsGame (retP Try.prog [.tmp 2] rin.length Q) (St.of (enum 0 args) (enum 1000000000 rin))) :
    Fun Try.prog 139 rin args Q :=
  Fun.of (H := ⟨[], []⟩) Try.func139 rfl rfl rfl (by kernel_rfl) ha (by decide) h

def c_spec_MakeClaim : CC :=
 (.seq (.reg [.o (.box 3 (sl 0)),
 .o (.box 4 (sl 1)),
 .o (.box 5 (sl 2)),
 .o (.alloc 6 [.v (.int .i64 0), .v (.slice none 0 0), .v (.int .i64 0), .v (.slice none 0 0), .v (.int .i64 0), .v (.int .i64 0)]),
 .o (.move 7 (ci 0))])
 ((.seq (.reg [.o (.loadN 13 3 (sl 3)),
 .o (.loadN 14 2 (sl 4)),
 .o (.loadN 15 2 (sl 5)),
 .o (.call (some 16) (cf 79) [(sl 13), (sl 14), (sl 15)]),
 .o (.move 12 (sl 16)),
 .o (.extract 17 (sl 12) 0),
 .o (.extract 18 (sl 12) 1),
 .o (.extract 19 (sl 12) 2),
 .o (.extract 20 (sl 12) 3),
 .o (.move 8 (sl 17)),
 .o (.move 9 (sl 18)),
 .o (.move 10 (sl 19)),
 .o (.move 11 (sl 20))])
 ((.seq (.seq (.reg [.o (.move 21 (sl 11)),
 .o (.bin 22 .neq (sl 21) (ci 0))])
 ((.cond (sl 22) (.seq (.reg [.o (.build 23 [.v (.int .i64 0), .v (.slice none 0 0), .v (.int .i64 0), .v (.slice none 0 0), .v (.int .i64 0), .v (.int .i64 0)] [(0, 2), (2, 2), (4, 1), (5, 1)] []),
 .o (.move 24 (sl 11)),
 .o (.store 6 (sl 6) (sl 23)),
 .o (.move 7 (sl 24))])
 (.ret))
 .skip)))
 ((.seq (.draw [26, 28] [(kR, .o (.loadN 25 2 (sl 4))),
 (.c false [], .o (.call (some 26) (cf 145) [(sl 25)])),
 (.r false [26], .o (.loadN 27 2 (sl 5))),
 (.c false [], .o (.call (some 28) (cf 145) [(sl 27)])),
 (.r false [26, 28], .o (.move 29 (sl 8))),
 (.r false [26, 28], .o (.move 30 (sl 9))),
 (kR, .o (.build 31 [.v (.int .i64 0), .v (.slice none 0 0), .v (.int .i64 0), .v (.slice none 0 0), .v (.int .i64 0), .v (.int .i64 0)] [(0, 2), (2, 2), (4, 1), (5, 1)] [(0, (sl 26)), (1, (sl 28)), (2, (sl 29)), (3, (sl 30))])),
 (kH, .o (.store 6 (sl 6) (sl 31))),
 (kR, .o (.move 7 (ci 0)))])
 (.ret))))))))
theorem fun_spec_MakeClaim {rin : List T} {args : List A} {Q : List T → T → Prop} (ha : args.length ≤ 32) (h : cW Try.prog 32 c_spec_MakeClaim (retP Try.prog [.cell 6 75, .tmp 7] rin.length Q) (St.of (enum 0 args) (enum 1000000000 rin))) :
    Fun Try.prog 140 rin args Q :=
  Fun.of (H := ⟨[], []⟩) Try.func140 rfl rfl rfl (by kernel_rfl) ha (by decide) h

def c_spec_l22Random : CC :=
 (.seq (.reg [.o (.box 4 (sl 1)),
 .o (.alloc 6 [.v (.int .i64 0), .v (.slice none 0 0)])])
 ((.seq (.reg [.o (.loadN 12 3 (sl 4)),
 .o (.move 13 (sl 2)),
 .o (.call (some 14) (cf 196) [(sl 12), (sl 13)]),
 .o (.move 7 (sl 14))])
 ((.seq (.reg [.o (.bslice 15 1 0 []),
 .o (.move 8 (sl 15))])
 ((.seq (.seq (.reg [.o (.move 9 (ci 0))])
 ((.block 0 (.loop (.seq (.seq (.reg [.o (.move 16 (sl 9)),
 .o (.move 17 (sl 7)),
 .o (.lenS 18 (sl 17)),
 .o (.bin 19 .lss (sl 16) (sl 18))])
 ((.cond (sl 19) .skip
 (.exit 0))))
 ((.seq (.block 1 (.seq (.reg [.o (.bslice 22 1 0 []),
 .o (.move 10 (sl 22))])
 ((.seq (.seq (.reg [.o (.move 11 (ci 0))])
 ((.block 2 (.loop (.seq (.seq (.reg [.o (.move 23 (sl 11)),
 .o (.move 24 (sl 7)),
 .o (.move 25 (sl 9)),
 .o (.idx 26 1 (sl 24) (sl 25)),
 .o (.load1 27 (sl 26)),
 .o (.bin 28 .lss (sl 23) (sl 27))])
 ((.cond (sl 28) .skip
 (.exit 2))))
 ((.seq (.block 3 (.reg [.o (.move 31 (sl 10)),
 .o (.move 32 (sl 0)),
 .o (.move 33 (sl 0)),
 .o (.call (some 34) (cf 126) [(sl 33), (ci 9)]),
 .o (.bslice 35 1 5 [(0, (ci 0)), (1, (ci 0)), (2, (ci 1)), (3, (ci 2)), (4, (sl 34))]),
 .o (.call (some 36) (cf 147) [(sl 32), (sl 35)]),
 .o (.bslice 37 1 1 [(0, (sl 36))]),
 .o (.app 38 1 8 (sl 31) (sl 37)),
 .o (.move 10 (sl 38))]))
 ((.reg [.o (.move 29 (sl 11)),
 .o (.bin 30 .add (sl 29) (ci 1)),
 .o (.move 11 (sl 30))])))))))))
 ((.reg [.o (.move 39 (sl 8)),
 .o (.move 40 (sl 10)),
 .o (.call (some 41) (cf 172) [(sl 40)]),
 .o (.bslice 42 1 1 [(0, (sl 41))]),
 .o (.app 43 1 24 (sl 39) (sl 42)),
 .o (.move 8 (sl 43))]))))))
 ((.reg [.o (.move 20 (sl 9)),
 .o (.bin 21 .add (sl 20) (ci 1)),
 .o (.move 9 (sl 21))])))))))))
 ((.seq (.reg [.o (.move 44 (sl 2)),
 .o (.move 45 (sl 8)),
 .o (.build 46 [.v (.int .i64 0), .v (.slice none 0 0)] [(0, 1), (1, 1)] [(0, (sl 44)), (1, (sl 45))]),
 .o (.store 2 (sl 6) (sl 46))])
 (.ret))))))))))
theorem fun_spec_l22Random {rin : List T} {args : List A} {Q : List T → T → Prop} (ha : args.length ≤ 47) (h : cW Try.prog 47 c_spec_l22Random (retP Try.prog [.cell 6 47] rin.length Q) (St.of (enum 0 args) (enum 1000000000 rin))) :
    Fun Try.prog 141 rin args Q :=
  Fun.of (H := ⟨[], []⟩) Try.func141 rfl rfl rfl (by kernel_rfl) ha (by decide) h

def c_impl_isProved : CC :=
 (.seq (.reg [.o (.box 2 (sl 0)),
 .o (.box 3 (sl 1)),
 .o (.move 4 (cb false))])
 ((.seq (.seq (.reg [.o (.loadN 7 3 (sl 2)),
 .o (.fld 8 0 (sl 3)),
 .o (.loadN 9 2 (sl 8)),
 .o (.fld 10 2 (sl 3)),
 .o (.loadN 11 2 (sl 10)),
 .o (.call (some 12) (cf 120) [(sl 7), (sl 9), (sl 11)]),
 .o (.un 13 .not (sl 12)),
 .o (.move 14 (sl 13)),
 .g 14 false (some 15) (.fld 15 4 (sl 3)),
 .g 14 false (some 16) (.load1 16 (sl 15)),
 .g 14 false (some 17) (.call (some 17) (cf 110) [(sl 16), (ci (-1000000000000000)), (ci 1000000000000000)]),
 .g 14 false (some 18) (.un 18 .not (sl 17)),
 .o (.pick 19 (sl 14) (cb true) (sl 18)),
 .o (.move 20 (sl 19)),
 .g 20 false (some 21) (.fld 21 5 (sl 3)),
 .g 20 false (some 22) (.load1 22 (sl 21)),
 .g 20 false (some 23) (.call (some 23) (cf 110) [(sl 22), (ci (-1000000000000000)), (ci 1000000000000000)]),
 .g 20 false (some 24) (.un 24 .not (sl 23)),
 .o (.pick 25 (sl 20) (cb true) (sl 24))])
 ((.cond (sl 25) (.seq (.reg [.o (.move 4 (cb false))])
 (.ret))
 .skip)))
 ((.seq (.reg [.o (.loadN 27 3 (sl 2)),
 .o (.fld 28 0 (sl 3)),
 .o (.loadN 29 2 (sl 28)),
 .o (.fld 30 2 (sl 3)),
 .o (.loadN 31 2 (sl 30)),
 .o (.call (some 32) (cf 146) [(sl 27), (sl 29), (sl 31)]),
 .o (.move 26 (sl 32)),
 .o (.extract 33 (sl 26) 0),
 .o (.extract 34 (sl 26) 1),
 .o (.move 5 (sl 33)),
 .o (.move 6 (sl 34))])
 ((.seq (.reg [.o (.fld 35 4 (sl 3)),
 .o (.load1 36 (sl 35)),
 .o (.move 37 (sl 5)),
 .o (.bin 38 .leq (sl 36) (sl 37)),
 .o (.move 39 (sl 38)),
 .g 39 true (some 40) (.fld 40 5 (sl 3)),
 .g 39 true (some 41) (.load1 41 (sl 40)),
 .g 39 true (some 42) (.move 42 (sl 6)),
 .g 39 true (some 43) (.bin 43 .geq (sl 41) (sl 42)),
 .o (.pick 44 (sl 39) (sl 43) (cb false)),
 .o (.move 4 (sl 44))])
 (.ret))))))))
theorem fun_impl_isProved {rin : List T} {args : List A} {Q : List T → T → Prop} (ha : args.length ≤ 45) (h : cW Try.prog 45 c_impl_isProved (retP Try.prog [.tmp 4] rin.length Q) (St.of (enum 0 args) (enum 1000000000 rin))) :
    Fun Try.prog 142 rin args Q :=
  Fun.of (H := ⟨[], []⟩) Try.func142 rfl rfl rfl (by kernel_rfl) ha (by decide) h

def c_impl_cloneStrategy : CC :=
 (.seq (.reg [.o (.box 1 (sl 0)),
 .o (.alloc 2 [.v (.int .i64 0), .v (.slice none 0 0)])])
 ((.seq (.reg [.o (.fld 6 0 (sl 1)),
 .o (.load1 7 (sl 6)),
 .o (.build 8 [.v (.int .i64 0), .v (.slice none 0 0)] [(0, 1), (1, 1)] [(0, (sl 7))]),
 .o (.alloc 3 [.v (.int .i64 0), .v (.slice none 0 0)]),
 .o (.store 2 (sl 3) (sl 8))])
 ((.seq (.seq (.reg [.o (.fld 9 1 (sl 1)),
 .o (.load1 10 (sl 9)),
 .o (.lenS 11 (sl 10)),
 .o (.move 12 (ci 0))])
 ((.block 0 (.loop (.seq (.reg [.o (.bin 13 .lss (sl 12) (sl 11))])
 ((.seq (.cond (sl 13) .skip
 (.exit 0))
 ((.seq (.block 1 (.seq (.reg [.o (.idx 14 1 (sl 10) (sl 12)),
 .o (.load1 15 (sl 14)),
 .o (.move 5 (sl 15))])
 ((.weak (.draw [19] [(.r false [19, 20], .o (.fld 16 1 (sl 3))),
 (.r false [19, 20], .o (.load1 17 (sl 16))),
 (.r false [20], .o (.move 18 (sl 5))),
 (.c false [], .o (.call (some 19) (cf 197) [(sl 18)])),
 (.h (some [19]) [], .o (.bslice 20 1 1 [(0, (sl 19))])),
 (kH, .o (.app 21 1 24 (sl 17) (sl 20))),
 (kR, .o (.fld 22 1 (sl 3))),
 (kH, .o (.store 1 (sl 22) (sl 21)))])))))
 ((.reg [.o (.bin 23 .add (sl 12) (ci 1)),
 .o (.move 12 (sl 23))])))))))))))
 ((.seq (.reg [.o (.loadN 24 2 (sl 3)),
 .o (.store 2 (sl 2) (sl 24))])
 (.ret))))))))
theorem fun_impl_cloneStrategy {rin : List T} {args : List A} {Q : List T → T → Prop} (ha : args.length ≤ 25) (h : cW Try.prog 25 c_impl_cloneStrategy (retP Try.prog [.cell 2 47] rin.length Q) (St.of (enum 0 args) (enum 1000000000 rin))) :
    Fun Try.prog 143 rin args Q :=
  Fun.of (H := ⟨[], []⟩) Try.func143 rfl rfl rfl (by kernel_rfl) ha (by decide) h

def c_spec_l28Code : CC :=
 (.seq (.reg [.o (.box 2 (sl 0)),
 .o (.box 3 (sl 1)),
 .o (.move 4 (ci 0))])
 ((.seq (.seq (.reg [.o (.loadN 5 3 (sl 2)),
 .o (.call (some 6) (cf 139) [(sl 5)]),
 .o (.un 7 .not (sl 6))])
 ((.cond (sl 7) (.seq (.reg [.o (.move 4 (ci 1))])
 (.ret))
 .skip)))
 ((.seq (.seq (.reg [.o (.loadN 8 3 (sl 2)),
 .o (.loadN 9 6 (sl 3)),
 .o (.call (some 10) (cf 198) [(sl 8), (sl 9)]),
 .o (.un 11 .not (sl 10))])
 ((.cond (sl 11) (.seq (.reg [.o (.move 4 (ci 5))])
 (.ret))
 .skip)))
 ((.seq (.reg [.o (.move 4 (ci 0))])
 (.ret))))))))
theorem fun_spec_l28Code {rin : List T} {args : List A} {Q : List T → T → Prop} (ha : args.length ≤ 12) (h : cW Try.prog 12 c_spec_l28Code (retP Try.prog [.tmp 4] rin.length Q) (St.of (enum 0 args) (enum 1000000000 rin))) :
    Fun Try.prog 144 rin args Q :=
  Fun.of (H := ⟨[], []⟩) Try.func144 rfl rfl rfl (by kernel_rfl) ha (by decide) h

def c_spec_l24Own : CC :=
 (.seq (.reg [.o (.box 1 (sl 0)),
 .o (.alloc 2 [.v (.int .i64 0), .v (.slice none 0 0)])])
 ((.seq (.reg [.o (.bslice 5 1 0 []),
 .o (.move 3 (sl 5))])
 ((.seq (.seq (.reg [.o (.move 4 (ci 0))])
 ((.block 0 (.loop (.seq (.seq (.reg [.o (.move 6 (sl 4)),
 .o (.fld 7 1 (sl 1)),
 .o (.load1 8 (sl 7)),
 .o (.lenS 9 (sl 8)),
 .o (.bin 10 .lss (sl 6) (sl 9))])
 ((.cond (sl 10) .skip
 (.exit 0))))
 ((.seq (.block 1 (.reg [.o (.move 13 (sl 3)),
 .o (.fld 14 1 (sl 1)),
 .o (.load1 15 (sl 14)),
 .o (.move 16 (sl 4)),
 .o (.idx 17 1 (sl 15) (sl 16)),
 .o (.load1 18 (sl 17)),
 .o (.call (some 19) (cf 167) [(sl 18)]),
 .o (.bslice 20 1 1 [(0, (sl 19))]),
 .o (.app 21 1 24 (sl 13) (sl 20)),
 .o (.move 3 (sl 21))]))
 ((.reg [.o (.move 11 (sl 4)),
 .o (.bin 12 .add (sl 11) (ci 1)),
 .o (.move 4 (sl 12))])))))))))
 ((.seq (.reg [.o (.fld 22 0 (sl 1)),
 .o (.load1 23 (sl 22)),
 .o (.move 24 (sl 3)),
 .o (.build 25 [.v (.int .i64 0), .v (.slice none 0 0)] [(0, 1), (1, 1)] [(0, (sl 23)), (1, (sl 24))]),
 .o (.store 2 (sl 2) (sl 25))])
 (.ret))))))))
theorem fun_spec_l24Own {rin : List T} {args : List A} {Q : List T → T → Prop} (ha : args.length ≤ 26) (h : cW Try.prog 26 c_spec_l24Own (retP Try.prog [.cell 2 47] rin.length Q) (St.of (enum 0 args) (enum 1000000000 rin))) :
    Fun Try.prog 145 rin args Q :=
  Fun.of (H := ⟨[], []⟩) Try.func145 rfl rfl rfl (by kernel_rfl) ha (by decide) h

def c_impl_valueBounds : CC :=
 (.seq (.reg [.o (.box 3 (sl 0)),
 .o (.box 4 (sl 1)),
 .o (.box 5 (sl 2)),
 .o (.move 6 (ci 0)),
 .o (.move 7 (ci 0))])
 ((.seq (.reg [.o (.loadN 13 3 (sl 3)),
 .o (.loadN 14 2 (sl 4)),
 .o (.call (some 15) (cf 122) [(sl 13), (sl 14)]),
 .o (.move 12 (sl 15)),
 .o (.extract 16 (sl 12) 0),
 .o (.extract 17 (sl 12) 1),
 .o (.alloc 9 [.v (.int .i64 0), .v (.slice none 0 0)]),
 .o (.move 8 (sl 16)),
 .o (.store 2 (sl 9) (sl 17))])
 ((.seq (.reg [.o (.loadN 19 3 (sl 3)),
 .o (.loadN 20 2 (sl 5)),
 .o (.call (some 21) (cf 122) [(sl 19), (sl 20)]),
 .o (.move 18 (sl 21)),
 .o (.extract 22 (sl 18) 0),
 .o (.extract 23 (sl 18) 1),
 .o (.alloc 11 [.v (.int .i64 0), .v (.slice none 0 0)]),
 .o (.move 10 (sl 22)),
 .o (.store 2 (sl 11) (sl 23))])
 ((.seq (.reg [.o (.move 24 (sl 8)),
 .o (.un 25 .neg (sl 24)),
 .o (.move 26 (sl 10)),
 .o (.move 6 (sl 25)),
 .o (.move 7 (sl 26))])
 (.ret))))))))
theorem fun_impl_valueBounds {rin : List T} {args : List A} {Q : List T → T → Prop} (ha : args.length ≤ 27) (h : cW Try.prog 27 c_impl_valueBounds (retP Try.prog [.tmp 6, .tmp 7] rin.length Q) (St.of (enum 0 args) (enum 1000000000 rin))) :
    Fun Try.prog 146 rin args Q :=
  Fun.of (H := ⟨[], []⟩) Try.func146 rfl rfl rfl (by kernel_rfl) ha (by decide) h

def c_spec_l01Pick : CC :=
 (.seq (.reg [.o (.move 4 (ci 0))])
 ((.seq (.reg [.o (.move 5 (sl 1)),
 .o (.move 6 (sl 0)),
 .o (.move 7 (sl 1)),
 .o (.lenS 8 (sl 7)),
 .o (.call (some 9) (cf 126) [(sl 6), (sl 8)]),
 .o (.idx 10 1 (sl 5) (sl 9)),
 .o (.load1 11 (sl 10)),
 .o (.move 4 (sl 11))])
 (.ret))))
theorem fun_spec_l01Pick {rin : List T} {args : List A} {Q : List T → T → Prop} (ha : args.length ≤ 12) (h : cW Try.prog 12 c_spec_l01Pick (retP Try.prog [.tmp 4] rin.length Q) (St.of (enum 0 args) (enum 1000000000 rin))) :
    Fun Try.prog 147 rin args Q :=
  Fun.of (H := ⟨[], []⟩) Try.func147 rfl rfl rfl (by kernel_rfl) ha (by decide) h

def c_spec_l01In : CC :=
 (.seq (.reg [.o (.move 6 (cb false))])
 ((.seq (.reg [.o (.move 7 (sl 0)),
 .o (.move 8 (sl 1)),
 .o (.bin 9 .geq (sl 7) (sl 8)),
 .o (.move 10 (sl 9)),
 .g 10 true (some 11) (.move 11 (sl 0)),
 .g 10 true (some 12) (.move 12 (sl 2)),
 .g 10 true (some 13) (.bin 13 .leq (sl 11) (sl 12)),
 .o (.pick 14 (sl 10) (sl 13) (cb false)),
 .o (.move 6 (sl 14))])
 (.ret))))
theorem fun_spec_l01In {rin : List T} {args : List A} {Q : List T → T → Prop} (ha : args.length ≤ 15) (h : cW Try.prog 15 c_spec_l01In (retP Try.prog [.tmp 6] rin.length Q) (St.of (enum 0 args) (enum 1000000000 rin))) :
    Fun Try.prog 148 rin args Q :=
  Fun.of (H := ⟨[], []⟩) Try.func148 rfl rfl rfl (by kernel_rfl) ha (by decide) h

def c_impl_infoSets : CC :=
 (.seq (.reg [.o (.box 2 (sl 0)),
 .o (.move 4 (cv (.slice none 0 0)))])
 ((.seq (.reg [.o (.move 5 (cv (.slice none 0 0)))])
 ((.seq (.seq (.reg [.o (.fld 9 0 (sl 2)),
 .o (.loadN 10 1 (sl 9)),
 .o (.move 11 (sl 1)),
 .o (.call (some 12) (cf 181) [(sl 10), (sl 11)]),
 .o (.lenS 13 (sl 12)),
 .o (.move 14 (ci 0))])
 ((.block 0 (.loop (.seq (.reg [.o (.bin 15 .lss (sl 14) (sl 13))])
 ((.seq (.cond (sl 15) .skip
 (.exit 0))
 ((.seq (.block 1 (.seq (.reg [.o (.idx 16 1 (sl 12) (sl 14)),
 .o (.load1 17 (sl 16)),
 .o (.move 7 (sl 17))])
 ((.seq (.reg [.o (.fld 18 1 (sl 2)),
 .o (.load1 19 (sl 18)),
 .o (.lenS 20 (sl 19)),
 .o (.move 21 (ci 0))])
 ((.block 2 (.loop (.seq (.reg [.o (.bin 22 .lss (sl 21) (sl 20))])
 ((.seq (.cond (sl 22) .skip
 (.exit 2))
 ((.seq (.block 3 (.seq (.reg [.o (.move 23 (sl 21)),
 .o (.move 8 (sl 23))])
 ((.reg [.o (.move 24 (sl 5)),
 .o (.move 25 (sl 7)),
 .o (.move 26 (sl 8)),
 .o (.bslice 27 1 2 [(0, (sl 25)), (1, (sl 26))]),
 .o (.bslice 28 1 1 [(0, (sl 27))]),
 .o (.app 29 1 24 (sl 24) (sl 28)),
 .o (.move 5 (sl 29))]))))
 ((.reg [.o (.bin 30 .add (sl 21) (ci 1)),
 .o (.move 21 (sl 30))]))))))))))))))
 ((.reg [.o (.bin 31 .add (sl 14) (ci 1)),
 .o (.move 14 (sl 31))])))))))))))
 ((.seq (.reg [.o (.move 32 (sl 5)),
 .o (.move 4 (sl 32))])
 (.ret))))))))
theorem fun_impl_infoSets {rin : List T} {args : List A} {Q : List T → T → Prop} (ha : args.length ≤ 33) (h : cW Try.prog 33 c_impl_infoSets (retP Try.prog [.tmp 4] rin.length Q) (St.of (enum 0 args) (enum 1000000000 rin))) :
    Fun Try.prog 152 rin args Q :=
  Fun.of (H := ⟨[], []⟩) Try.func152 rfl rfl rfl (by kernel_rfl) ha (by decide) h

def c_impl_isStrategy : CC :=
 (.seq (.reg [.o (.box 2 (sl 0)),
 .o (.box 3 (sl 1)),
 .o (.move 4 (cb false))])
 ((.seq (.reg [.o (.loadN 9 3 (sl 2)),
 .o (.fld 10 0 (sl 3)),
 .o (.load1 11 (sl 10)),
 .o (.call (some 12) (cf 152) [(sl 9), (sl 11)]),
 .o (.move 5 (sl 12))])
 ((.seq (.seq (.reg [.o (.fld 13 1 (sl 3)),
 .o (.load1 14 (sl 13)),
 .o (.lenS 15 (sl 14)),
 .o (.move 16 (sl 5)),
 .o (.lenS 17 (sl 16)),
 .o (.bin 18 .neq (sl 15) (sl 17))])
 ((.cond (sl 18) (.seq (.reg [.o (.move 4 (cb false))])
 (.ret))
 .skip)))
 ((.seq (.seq (.reg [.o (.move 19 (sl 5)),
 .o (.lenS 20 (sl 19)),
 .o (.move 21 (ci 0))])
 ((.block 0 (.loop (.seq (.reg [.o (.bin 22 .lss (sl 21) (sl 20))])
 ((.seq (.cond (sl 22) .skip
 (.exit 0))
 ((.seq (.block 1 (.seq (.reg [.o (.move 23 (sl 21)),
 .o (.idx 24 1 (sl 19) (sl 21)),
 .o (.load1 25 (sl 24)),
 .o (.move 6 (sl 23)),
 .o (.move 7 (sl 25))])
 ((.seq (.reg [.o (.fld 26 1 (sl 3)),
 .o (.load1 27 (sl 26)),
 .o (.move 28 (sl 6)),
 .o (.idx 29 1 (sl 27) (sl 28)),
 .o (.load1 30 (sl 29)),
 .o (.move 8 (sl 30))])
 ((.seq (.draw [] [(kR, .o (.move 31 (sl 8))),
 (kR, .o (.lenS 32 (sl 31))),
 (kR, .o (.fld 33 0 (sl 2))),
 (kR, .o (.fld 34 0 (sl 33))),
 (kR, .o (.load1 35 (sl 34))),
 (kR, .o (.move 36 (sl 7))),
 (kR, .o (.idx 37 1 (sl 36) (ci 0))),
 (kR, .o (.load1 38 (sl 37))),
 (kR, .o (.idx 39 5 (sl 35) (sl 38))),
 (kR, .o (.fld 40 4 (sl 39))),
 (kR, .o (.load1 41 (sl 40))),
 (kR, .o (.lenS 42 (sl 41))),
 (kR, .o (.bin 43 .neq (sl 32) (sl 42))),
 (kR, .o (.move 44 (sl 43))),
 (kR, .g 44 false (some 45) (.move 45 (sl 8))),
 (kR, .g 44 false (some 46) (.call (some 46) (cf 176) [(sl 45), (ci 0), (ci 60)])),
 (kR, .g 44 false (some 47) (.un 47 .not (sl 46))),
 (kR, .o (.pick 48 (sl 44) (cb true) (sl 47))),
 (kR, .o (.move 49 (sl 48))),
 (kR, .g 49 false (some 50) (.move 50 (sl 8))),
 (kR, .g 49 false (some 51) (.call (some 51) (cf 200) [(sl 50)])),
 (kR, .g 49 false (some 52) (.bin 52 .neq (sl 51) (ci 60))),
 (kR, .o (.pick 53 (sl 49) (cb true) (sl 52)))])
 ((.cond (sl 53) (.seq (.reg [.o (.move 4 (cb false))])
 (.ret))
 .skip))))))))
 ((.reg [.o (.bin 54 .add (sl 21) (ci 1)),
 .o (.move 21 (sl 54))])))))))))))
 ((.seq (.reg [.o (.move 4 (cb true))])
 (.ret))))))))))
theorem fun_impl_isStrategy {rin : List T} {args : List A} {Q : List T → T → Prop} (ha : args.length ≤ 55) (h : cW Try.prog 55 c_impl_isStrategy (retP Try.prog [.tmp 4] rin.length Q) (St.of (enum 0 args) (enum 1000000000 rin))) :
    Fun Try.prog 153 rin args Q :=
  Fun.of (H := ⟨[], []⟩) Try.func153 rfl rfl rfl (by kernel_rfl) ha (by decide) h

def c_spec_l23Power : CC :=
 (.seq (.reg [.o (.move 2 (ci 0))])
 ((.seq (.reg [.o (.move 3 (ci 1))])
 ((.seq (.block 0 (.loop (.seq (.seq (.reg [.o (.move 4 (sl 0)),
 .o (.bin 5 .gtr (sl 4) (ci 0))])
 ((.cond (sl 5) .skip
 (.exit 0))))
 ((.seq (.block 1 (.reg [.o (.move 8 (sl 3)),
 .o (.bin 9 .mul (sl 8) (ci 60)),
 .o (.move 3 (sl 9))]))
 ((.reg [.o (.move 6 (sl 0)),
 .o (.bin 7 .sub (sl 6) (ci 1)),
 .o (.move 0 (sl 7))])))))))
 ((.seq (.reg [.o (.move 10 (sl 3)),
 .o (.move 2 (sl 10))])
 (.ret))))))))
theorem fun_spec_l23Power {rin : List T} {args : List A} {Q : List T → T → Prop} (ha : args.length ≤ 11) (h : cW Try.prog 11 c_spec_l23Power (retP Try.prog [.tmp 2] rin.length Q) (St.of (enum 0 args) (enum 1000000000 rin))) :
    Fun Try.prog 157 rin args Q :=
  Fun.of (H := ⟨[], []⟩) Try.func157 rfl rfl rfl (by kernel_rfl) ha (by decide) h

def c_spec_l20Depth : CC :=
 (.seq (.reg [.o (.box 2 (sl 0)),
 .o (.move 4 (ci 0))])
 ((.seq (.reg [.o (.fld 8 0 (sl 2)),
 .o (.load1 9 (sl 8)),
 .o (.move 10 (sl 1)),
 .o (.idx 11 5 (sl 9) (sl 10)),
 .o (.loadN 12 5 (sl 11)),
 .o (.alloc 5 [.v (.int .i64 0), .v (.int .i64 0), .v (.int .i64 0), .v (.int .i64 0), .v (.slice none 0 0)]),
 .o (.store 5 (sl 5) (sl 12))])
 ((.seq (.seq (.reg [.o (.fld 13 0 (sl 5)),
 .o (.load1 14 (sl 13)),
 .o (.bin 15 .eql (sl 14) (ci 2))])
 ((.cond (sl 15) (.seq (.reg [.o (.move 4 (ci 0))])
 (.ret))
 .skip)))
 ((.seq (.reg [.o (.move 6 (ci 0))])
 ((.seq (.seq (.reg [.o (.move 7 (ci 0))])
 ((.block 0 (.loop (.seq (.seq (.reg [.o (.move 16 (sl 7)),
 .o (.fld 17 4 (sl 5)),
 .o (.load1 18 (sl 17)),
 .o (.lenS 19 (sl 18)),
 .o (.bin 20 .lss (sl 16) (sl 19))])
 ((.cond (sl 20) .skip
 (.exit 0))))
 ((.seq (.block 1 (.draw [] [(kR, .o (.move 23 (sl 6))),
 (kR, .o (.loadN 24 1 (sl 2))),
 (kR, .o (.fld 25 4 (sl 5))),
 (kR, .o (.load1 26 (sl 25))),
 (kR, .o (.move 27 (sl 7))),
 (kR, .o (.idx 28 1 (sl 26) (sl 27))),
 (kR, .o (.load1 29 (sl 28))),
 (kR, .o (.call (some 30) (cf 158) [(sl 24), (sl 29)])),
 (kR, .o (.mm 31 true (sl 23) (sl 30))),
 (kR, .o (.move 6 (sl 31)))]))
 ((.reg [.o (.move 21 (sl 7)),
 .o (.bin 22 .add (sl 21) (ci 1)),
 .o (.move 7 (sl 22))])))))))))
 ((.seq (.reg [.o (.move 32 (sl 6)),
 .o (.bin 33 .add (sl 32) (ci 1)),
 .o (.move 4 (sl 33))])
 (.ret))))))))))))
theorem fun_spec_l20Depth {rin : List T} {args : List A} {Q : List T → T → Prop} (ha : args.length ≤ 34) (h : cW Try.prog 34 c_spec_l20Depth (retP Try.prog [.tmp 4] rin.length Q) (St.of (enum 0 args) (enum 1000000000 rin))) :
    Fun Try.prog 158 rin args Q :=
  Fun.of (H := ⟨[], []⟩) Try.func158 rfl rfl rfl (by kernel_rfl) ha (by decide) h

def c_impl_powerOf : CC :=
 (.seq (.reg [.o (.move 4 (ci 0))])
 ((.seq (.reg [.o (.move 5 (ci 1))])
 ((.seq (.seq (.reg [.o (.move 6 (sl 1)),
 .o (.move 7 (ci 0))])
 ((.block 0 (.loop (.seq (.reg [.o (.bin 8 .lss (sl 7) (sl 6))])
 ((.seq (.cond (sl 8) .skip
 (.exit 0))
 ((.seq (.block 1 (.reg [.o (.move 9 (sl 5)),
 .o (.move 10 (sl 0)),
 .o (.bin 11 .mul (sl 9) (sl 10)),
 .o (.move 5 (sl 11))]))
 ((.reg [.o (.bin 12 .add (sl 7) (ci 1)),
 .o (.move 7 (sl 12))])))))))))))
 ((.seq (.reg [.o (.move 13 (sl 5)),
 .o (.move 4 (sl 13))])
 (.ret))))))))
theorem fun_impl_powerOf {rin : List T} {args : List A} {Q : List T → T → Prop} (ha : args.length ≤ 14) (h : cW Try.prog 14 c_impl_powerOf (retP Try.prog [.tmp 4] rin.length Q) (St.of (enum 0 args) (enum 1000000000 rin))) :
    Fun Try.prog 163 rin args Q :=
  Fun.of (H := ⟨[], []⟩) Try.func163 rfl rfl rfl (by kernel_rfl) ha (by decide) h

def c_impl_depthFrom : CC :=
 (.seq (.reg [.o (.box 2 (sl 0)),
 .o (.move 4 (ci 0))])
 ((.seq (.reg [.o (.fld 9 0 (sl 2)),
 .o (.load1 10 (sl 9)),
 .o (.move 11 (sl 1)),
 .o (.idx 12 5 (sl 10) (sl 11)),
 .o (.loadN 13 5 (sl 12)),
 .o (.alloc 5 [.v (.int .i64 0), .v (.int .i64 0), .v (.int .i64 0), .v (.int .i64 0), .v (.slice none 0 0)]),
 .o (.store 5 (sl 5) (sl 13))])
 ((.seq (.seq (.reg [.o (.fld 14 0 (sl 5)),
 .o (.load1 15 (sl 14)),
 .o (.bin 16 .eql (sl 15) (ci 2))])
 ((.cond (sl 16) (.seq (.reg [.o (.move 4 (ci 0))])
 (.ret))
 .skip)))
 ((.seq (.reg [.o (.move 6 (ci 0))])
 ((.seq (.seq (.reg [.o (.fld 17 4 (sl 5)),
 .o (.load1 18 (sl 17)),
 .o (.lenS 19 (sl 18)),
 .o (.move 20 (ci 0))])
 ((.block 0 (.loop (.seq (.reg [.o (.bin 21 .lss (sl 20) (sl 19))])
 ((.seq (.cond (sl 21) .skip
 (.exit 0))
 ((.seq (.block 1 (.seq (.reg [.o (.idx 22 1 (sl 18) (sl 20)),
 .o (.load1 23 (sl 22)),
 .o (.move 8 (sl 23))])
 ((.reg [.o (.move 24 (sl 6)),
 .o (.loadN 25 1 (sl 2)),
 .o (.move 26 (sl 8)),
 .o (.call (some 27) (cf 164) [(sl 25), (sl 26)]),
 .o (.mm 28 true (sl 24) (sl 27)),
 .o (.move 6 (sl 28))]))))
 ((.reg [.o (.bin 29 .add (sl 20) (ci 1)),
 .o (.move 20 (sl 29))])))))))))))
 ((.seq (.reg [.o (.move 30 (sl 6)),
 .o (.bin 31 .add (sl 30) (ci 1)),
 .o (.move 4 (sl 31))])
 (.ret))))))))))))
theorem fun_impl_depthFrom {rin : List T} {args : List A} {Q : List T → T → Prop} (ha : args.length ≤ 32) (h : cW Try.prog 32 c_impl_depthFrom (retP Try.prog [.tmp 4] rin.length Q) (St.of (enum 0 args) (enum 1000000000 rin))) :
    Fun Try.prog 164 rin args Q :=
  Fun.of (H := ⟨[], []⟩) Try.func164 rfl rfl rfl (by kernel_rfl) ha (by decide) h

def c_spec_l01Own : CC :=
 (.seq (.reg [.o (.move 2 (cv (.slice none 0 0)))])
 ((.seq (.reg [.o (.bslice 3 1 0 []),
 .o (.move 4 (sl 0)),
 .o (.app 5 1 8 (sl 3) (sl 4)),
 .o (.move 2 (sl 5))])
 (.ret))))
theorem fun_spec_l01Own {rin : List T} {args : List A} {Q : List T → T → Prop} (ha : args.length ≤ 6) (h : cW Try.prog 6 c_spec_l01Own (retP Try.prog [.tmp 2] rin.length Q) (St.of (enum 0 args) (enum 1000000000 rin))) :
    Fun Try.prog 167 rin args Q :=
  Fun.of (H := ⟨[], []⟩) Try.func167 rfl rfl rfl (by kernel_rfl) ha (by decide) h

def c_spec_l22Parts : CC :=
 (.seq (.reg [.o (.move 2 (cv (.slice none 0 0)))])
 ((.seq (.reg [.o (.move 12 (sl 0)),
 .o (.call (some 13) (cf 187) [(sl 12)]),
 .o (.move 3 (sl 13))])
 ((.seq (.seq (.reg [.o (.move 14 (sl 3)),
 .o (.bin 15 .eql (sl 14) (ci 0))])
 ((.cond (sl 15) (.seq (.reg [.o (.bslice 16 1 0 []),
 .o (.move 4 (sl 16))])
 ((.seq (.seq (.reg [.o (.move 5 (ci 0))])
 ((.block 0 (.loop (.seq (.seq (.reg [.o (.move 17 (sl 5)),
 .o (.move 18 (sl 0)),
 .o (.lenS 19 (sl 18)),
 .o (.bin 20 .lss (sl 17) (sl 19))])
 ((.cond (sl 20) .skip
 (.exit 0))))
 ((.seq (.block 1 (.reg [.o (.move 23 (sl 4)),
 .o (.bslice 24 1 1 [(0, (ci 1))]),
 .o (.app 25 1 8 (sl 23) (sl 24)),
 .o (.move 4 (sl 25))]))
 ((.reg [.o (.move 21 (sl 5)),
 .o (.bin 22 .add (sl 21) (ci 1)),
 .o (.move 5 (sl 22))])))))))))
 ((.seq (.reg [.o (.move 26 (sl 4)),
 .o (.call (some 27) (cf 172) [(sl 26)]),
 .o (.move 2 (sl 27))])
 (.ret))))))
 .skip)))
 ((.seq (.reg [.o (.bslice 28 1 0 []),
 .o (.bslice 29 1 0 []),
 .o (.move 6 (sl 28)),
 .o (.move 7 (sl 29))])
 ((.seq (.seq (.reg [.o (.move 8 (ci 0))])
 ((.block 2 (.loop (.seq (.seq (.reg [.o (.move 30 (sl 8)),
 .o (.move 31 (sl 0)),
 .o (.lenS 32 (sl 31)),
 .o (.bin 33 .lss (sl 30) (sl 32))])
 ((.cond (sl 33) .skip
 (.exit 2))))
 ((.seq (.block 3 (.seq (.reg [.o (.move 36 (sl 6)),
 .o (.move 37 (sl 0)),
 .o (.move 38 (sl 8)),
 .o (.idx 39 1 (sl 37) (sl 38)),
 .o (.load1 40 (sl 39)),
 .o (.bin 41 .mul (ci 60) (sl 40)),
 .o (.move 42 (sl 3)),
 .o (.bin 43 .quo (sl 41) (sl 42)),
 .o (.bslice 44 1 1 [(0, (sl 43))]),
 .o (.app 45 1 8 (sl 36) (sl 44)),
 .o (.move 6 (sl 45))])
 ((.reg [.o (.move 46 (sl 7)),
 .o (.move 47 (sl 0)),
 .o (.move 48 (sl 8)),
 .o (.idx 49 1 (sl 47) (sl 48)),
 .o (.load1 50 (sl 49)),
 .o (.bin 51 .mul (ci 60) (sl 50)),
 .o (.move 52 (sl 3)),
 .o (.bin 53 .rem (sl 51) (sl 52)),
 .o (.bslice 54 1 1 [(0, (sl 53))]),
 .o (.app 55 1 8 (sl 46) (sl 54)),
 .o (.move 7 (sl 55))]))))
 ((.reg [.o (.move 34 (sl 8)),
 .o (.bin 35 .add (sl 34) (ci 1)),
 .o (.move 8 (sl 35))])))))))))
 ((.seq (.seq (.reg [.o (.move 56 (sl 6)),
 .o (.call (some 57) (cf 187) [(sl 56)]),
 .o (.bin 58 .sub (ci 60) (sl 57)),
 .o (.move 9 (sl 58))])
 ((.block 4 (.loop (.seq (.seq (.reg [.o (.move 59 (sl 9)),
 .o (.bin 60 .gtr (sl 59) (ci 0))])
 ((.cond (sl 60) .skip
 (.exit 4))))
 ((.seq (.block 5 (.seq (.reg [.o (.move 10 (ci 0))])
 ((.seq (.seq (.reg [.o (.move 11 (ci 1))])
 ((.block 6 (.loop (.seq (.seq (.reg [.o (.move 63 (sl 11)),
 .o (.move 64 (sl 7)),
 .o (.lenS 65 (sl 64)),
 .o (.bin 66 .lss (sl 63) (sl 65))])
 ((.cond (sl 66) .skip
 (.exit 6))))
 ((.seq (.block 7 (.seq (.draw [] [(kR, .o (.move 69 (sl 7))),
 (kR, .o (.move 70 (sl 11))),
 (kR, .o (.idx 71 1 (sl 69) (sl 70))),
 (kR, .o (.load1 72 (sl 71))),
 (kR, .o (.move 73 (sl 7))),
 (kR, .o (.move 74 (sl 10))),
 (kR, .o (.idx 75 1 (sl 73) (sl 74))),
 (kR, .o (.load1 76 (sl 75))),
 (kR, .o (.bin 77 .gtr (sl 72) (sl 76)))])
 ((.cond (sl 77) (.reg [.o (.move 78 (sl 11)),
 .o (.move 10 (sl 78))])
 .skip))))
 ((.reg [.o (.move 67 (sl 11)),
 .o (.bin 68 .add (sl 67) (ci 1)),
 .o (.move 11 (sl 68))])))))))))
 ((.seq (.reg [.o (.move 79 (sl 6)),
 .o (.move 80 (sl 10)),
 .o (.idx 81 1 (sl 79) (sl 80)),
 .o (.load1 82 (sl 81)),
 .o (.bin 83 .add (sl 82) (ci 1)),
 .o (.idx 84 1 (sl 79) (sl 80)),
 .o (.store 1 (sl 84) (sl 83))])
 ((.reg [.o (.move 85 (sl 7)),
 .o (.move 86 (sl 10)),
 .o (.idx 87 1 (sl 85) (sl 86)),
 .o (.store 1 (sl 87) (ci (-1)))]))))))))
 ((.reg [.o (.move 61 (sl 9)),
 .o (.bin 62 .sub (sl 61) (ci 1)),
 .o (.move 9 (sl 62))])))))))))
 ((.seq (.reg [.o (.move 88 (sl 6)),
 .o (.move 2 (sl 88))])
 (.ret))))))))))))))
theorem fun_spec_l22Parts {rin : List T} {args : List A} {Q : List T → T → Prop} (ha : args.length ≤ 89) (h : cW Try.prog 89 c_spec_l22Parts (retP Try.prog [.tmp 2] rin.length Q) (St.of (enum 0 args) (enum 1000000000 rin))) :
    Fun Try.prog 172 rin args Q :=
  Fun.of (H := ⟨[], []⟩) Try.func172 rfl rfl rfl (by kernel_rfl) ha (by decide) h

def c_impl_IsTree : CC :=
 (.seq (.reg [.o (.box 1 (sl 0)),
 .o (.move 2 (cb false))])
 ((.seq (.reg [.o (.fld 11 0 (sl 1)),
 .o (.load1 12 (sl 11)),
 .o (.lenS 13 (sl 12)),
 .o (.move 3 (sl 13))])
 ((.seq (.seq (.reg [.o (.move 14 (sl 3)),
 .o (.call (some 15) (cf 110) [(sl 14), (ci 1), (ci 60)]),
 .o (.un 16 .not (sl 15))])
 ((.cond (sl 16) (.seq (.reg [.o (.move 2 (cb false))])
 (.ret))
 .skip)))
 ((.seq (.reg [.o (.move 17 (sl 3)),
 .o (.make 18 [.v (.int .i64 0)] 8 (sl 17) (sl 17)),
 .o (.move 4 (sl 18))])
 ((.seq (.seq (.reg [.o (.fld 19 0 (sl 1)),
 .o (.load1 20 (sl 19)),
 .o (.lenS 21 (sl 20)),
 .o (.move 22 (ci 0))])
 ((.block 0 (.loop (.seq (.reg [.o (.bin 23 .lss (sl 22) (sl 21))])
 ((.seq (.cond (sl 23) .skip
 (.exit 0))
 ((.seq (.block 1 (.seq (.reg [.o (.move 24 (sl 22)),
 .o (.idx 25 5 (sl 20) (sl 22)),
 .o (.loadN 26 5 (sl 25)),
 .o (.alloc 6 [.v (.int .i64 0), .v (.int .i64 0), .v (.int .i64 0), .v (.int .i64 0), .v (.slice none 0 0)]),
 .o (.move 5 (sl 24)),
 .o (.store 5 (sl 6) (sl 26))])
 ((.seq (.seq (.reg [.o (.fld 27 0 (sl 6)),
 .o (.load1 28 (sl 27)),
 .o (.call (some 29) (cf 110) [(sl 28), (ci 0), (ci 2)]),
 .o (.un 30 .not (sl 29)),
 .o (.move 31 (sl 30)),
 .g 31 false (some 32) (.fld 32 1 (sl 6)),
 .g 31 false (some 33) (.load1 33 (sl 32)),
 .g 31 false (some 34) (.call (some 34) (cf 110) [(sl 33), (ci 0), (ci 100)]),
 .g 31 false (some 35) (.un 35 .not (sl 34)),
 .o (.pick 36 (sl 31) (cb true) (sl 35)),
 .o (.move 37 (sl 36)),
 .g 37 false (some 38) (.fld 38 2 (sl 6)),
 .g 37 false (some 39) (.load1 39 (sl 38)),
 .g 37 false (some 40) (.call (some 40) (cf 110) [(sl 39), (ci 0), (ci 100)]),
 .g 37 false (some 41) (.un 41 .not (sl 40)),
 .o (.pick 42 (sl 37) (cb true) (sl 41))])
 ((.cond (sl 42) (.seq (.reg [.o (.move 2 (cb false))])
 (.ret))
 .skip)))
 ((.seq (.seq (.reg [.o (.fld 43 0 (sl 6)),
 .o (.load1 44 (sl 43)),
 .o (.bin 45 .eql (sl 44) (ci 2))])
 ((.cond (sl 45) (.seq (.seq (.reg [.o (.fld 46 4 (sl 6)),
 .o (.load1 47 (sl 46)),
 .o (.lenS 48 (sl 47)),
 .o (.bin 49 .gtr (sl 48) (ci 0)),
 .o (.move 50 (sl 49)),
 .g 50 false (some 51) (.fld 51 3 (sl 6)),
 .g 50 false (some 52) (.load1 52 (sl 51)),
 .g 50 false (some 53) (.call (some 53) (cf 110) [(sl 52), (ci (-1)), (ci 1)]),
 .g 50 false (some 54) (.un 54 .not (sl 53)),
 .o (.pick 55 (sl 50) (cb true) (sl 54)),
 .o (.move 56 (sl 55)),
 .g 56 false (some 57) (.fld 57 3 (sl 6)),
 .g 56 false (some 58) (.load1 58 (sl 57)),
 .g 56 false (some 59) (.bin 59 .eql (sl 58) (ci (-1))),
 .g 56 false (some 60) (.move 60 (sl 59)),
 .g 60 true (some 61) (.fld 61 1 (sl 6)),
 .g 60 true (some 62) (.load1 62 (sl 61)),
 .g 60 true (some 63) (.fld 63 2 (sl 6)),
 .g 60 true (some 64) (.load1 64 (sl 63)),
 .g 60 true (some 65) (.bin 65 .neq (sl 62) (sl 64)),
 .g 56 false (some 66) (.pick 66 (sl 60) (sl 65) (cb false)),
 .o (.pick 67 (sl 56) (cb true) (sl 66))])
 ((.cond (sl 67) (.seq (.reg [.o (.move 2 (cb false))])
 (.ret))
 .skip)))
 ((.exit 1)))
 .skip)))
 ((.seq (.seq (.reg [.o (.fld 68 3 (sl 6)),
 .o (.load1 69 (sl 68)),
 .o (.bin 70 .neq (sl 69) (ci (-1))),
 .o (.move 71 (sl 70)),
 .g 71 false (some 72) (.fld 72 4 (sl 6)),
 .g 71 false (some 73) (.load1 73 (sl 72)),
 .g 71 false (some 74) (.lenS 74 (sl 73)),
 .g 71 false (some 75) (.call (some 75) (cf 110) [(sl 74), (ci 1), (ci 4)]),
 .g 71 false (some 76) (.un 76 .not (sl 75)),
 .o (.pick 77 (sl 71) (cb true) (sl 76)),
 .o (.move 78 (sl 77)),
 .g 78 false (some 79) (.fld 79 4 (sl 6)),
 .g 78 false (some 80) (.load1 80 (sl 79)),
 .g 78 false (some 81) (.move 81 (sl 5)),
 .g 78 false (some 82) (.bin 82 .add (sl 81) (ci 1)),
 .g 78 false (some 83) (.move 83 (sl 3)),
 .g 78 false (some 84) (.bin 84 .sub (sl 83) (ci 1)),
 .g 78 false (some 85) (.call (some 85) (cf 176) [(sl 80), (sl 82), (sl 84)]),
 .g 78 false (some 86) (.un 86 .not (sl 85)),
 .o (.pick 87 (sl 78) (cb true) (sl 86)),
 .o (.move 88 (sl 87)),
 .g 88 false (some 89) (.fld 89 4 (sl 6)),
 .g 88 false (some 90) (.load1 90 (sl 89)),
 .g 88 false (some 91) (.call (some 91) (cf 212) [(sl 90)]),
 .g 88 false (some 92) (.un 92 .not (sl 91)),
 .o (.pick 93 (sl 88) (cb true) (sl 92))])
 ((.cond (sl 93) (.seq (.reg [.o (.move 2 (cb false))])
 (.ret))
 .skip)))
 ((.seq (.reg [.o (.fld 94 4 (sl 6)),
 .o (.load1 95 (sl 94)),
 .o (.lenS 96 (sl 95)),
 .o (.move 97 (ci 0))])
 ((.block 2 (.loop (.seq (.reg [.o (.bin 98 .lss (sl 97) (sl 96))])
 ((.seq (.cond (sl 98) .skip
 (.exit 2))
 ((.seq (.block 3 (.seq (.reg [.o (.idx 99 1 (sl 95) (sl 97)),
 .o (.load1 100 (sl 99)),
 .o (.move 8 (sl 100))])
 ((.reg [.o (.move 101 (sl 4)),
 .o (.move 102 (sl 8)),
 .o (.idx 103 1 (sl 101) (sl 102)),
 .o (.load1 104 (sl 103)),
 .o (.bin 105 .add (sl 104) (ci 1)),
 .o (.idx 106 1 (sl 101) (sl 102)),
 .o (.store 1 (sl 106) (sl 105))]))))
 ((.reg [.o (.bin 107 .add (sl 97) (ci 1)),
 .o (.move 97 (sl 107))]))))))))))))))))))))
 ((.reg [.o (.bin 108 .add (sl 22) (ci 1)),
 .o (.move 22 (sl 108))])))))))))))
 ((.seq (.seq (.reg [.o (.move 109 (sl 4)),
 .o (.slc 110 1 (sl 109) (some (ci 1)) none),
 .o (.lenS 111 (sl 110)),
 .o (.move 112 (ci 0))])
 ((.block 4 (.loop (.seq (.reg [.o (.bin 113 .lss (sl 112) (sl 111))])
 ((.seq (.cond (sl 113) .skip
 (.exit 4))
 ((.seq (.block 5 (.seq (.reg [.o (.idx 114 1 (sl 110) (sl 112)),
 .o (.load1 115 (sl 114)),
 .o (.move 10 (sl 115))])
 ((.seq (.reg [.o (.move 116 (sl 10)),
 .o (.bin 117 .neq (sl 116) (ci 1))])
 ((.cond (sl 117) (.seq (.reg [.o (.move 2 (cb false))])
 (.ret))
 .skip))))))
 ((.reg [.o (.bin 118 .add (sl 112) (ci 1)),
 .o (.move 112 (sl 118))])))))))))))
 ((.seq (.reg [.o (.loadN 119 1 (sl 1)),
 .o (.call (some 120) (cf 164) [(sl 119), (ci 0)]),
 .o (.bin 121 .leq (sl 120) (ci 5)),
 .o (.move 2 (sl 121))])
 (.ret))))))))))))))
theorem fun_impl_IsTree {rin : List T} {args : List A} {Q : List T → T → Prop} (ha : args.length ≤ 122) (h : cW Try.prog 122 c_impl_IsTree (retP Try.prog [.tmp 2] rin.length Q) (St.of (enum 0 args) (enum 1000000000 rin))) :
    Fun Try.prog 175 rin args Q :=
  Fun.of (H := ⟨[], []⟩) Try.func175 rfl rfl rfl (by kernel_rfl) ha (by decide) h

def c_impl_allWithin : CC :=
 (.seq (.reg [.o (.move 6 (cb false))])
 ((.seq (.seq (.reg [.o (.move 9 (sl 0)),
 .o (.lenS 10 (sl 9)),
 .o (.move 11 (ci 0))])
 ((.block 0 (.loop (.seq (.reg [.o (.bin 12 .lss (sl 11) (sl 10))])
 ((.seq (.cond (sl 12) .skip
 (.exit 0))
 ((.seq (.block 1 (.seq (.reg [.o (.idx 13 1 (sl 9) (sl 11)),
 .o (.load1 14 (sl 13)),
 .o (.move 8 (sl 14))])
 ((.seq (.reg [.o (.move 15 (sl 8)),
 .o (.move 16 (sl 1)),
 .o (.move 17 (sl 2)),
 .o (.call (some 18) (cf 110) [(sl 15), (sl 16), (sl 17)]),
 .o (.un 19 .not (sl 18))])
 ((.cond (sl 19) (.seq (.reg [.o (.move 6 (cb false))])
 (.ret))
 .skip))))))
 ((.reg [.o (.bin 20 .add (sl 11) (ci 1)),
 .o (.move 11 (sl 20))])))))))))))
 ((.seq (.reg [.o (.move 6 (cb true))])
 (.ret))))))
theorem fun_impl_allWithin {rin : List T} {args : List A} {Q : List T → T → Prop} (ha : args.length ≤ 21) (h : cW Try.prog 21 c_impl_allWithin (retP Try.prog [.tmp 6] rin.length Q) (St.of (enum 0 args) (enum 1000000000 rin))) :
    Fun Try.prog 176 rin args Q :=
  Fun.of (H := ⟨[], []⟩) Try.func176 rfl rfl rfl (by kernel_rfl) ha (by decide) h

def c_impl_totalWeight : CC :=
 (.seq (.reg [.o (.box 1 (sl 0)),
 .o (.move 2 (ci 0))])
 ((.seq (.reg [.o (.move 3 (ci 0))])
 ((.seq (.seq (.reg [.o (.fld 6 1 (sl 1)),
 .o (.load1 7 (sl 6)),
 .o (.lenS 8 (sl 7)),
 .o (.move 9 (ci 0))])
 ((.block 0 (.loop (.seq (.reg [.o (.bin 10 .lss (sl 9) (sl 8))])
 ((.seq (.cond (sl 10) .skip
 (.exit 0))
 ((.seq (.block 1 (.seq (.reg [.o (.idx 11 1 (sl 7) (sl 9)),
 .o (.load1 12 (sl 11)),
 .o (.move 5 (sl 12))])
 ((.reg [.o (.move 13 (sl 3)),
 .o (.move 14 (sl 5)),
 .o (.call (some 15) (cf 200) [(sl 14)]),
 .o (.bin 16 .add (sl 13) (sl 15)),
 .o (.move 3 (sl 16))]))))
 ((.reg [.o (.bin 17 .add (sl 9) (ci 1)),
 .o (.move 9 (sl 17))])))))))))))
 ((.seq (.reg [.o (.move 18 (sl 3)),
 .o (.move 2 (sl 18))])
 (.ret))))))))
theorem fun_impl_totalWeight {rin : List T} {args : List A} {Q : List T → T → Prop} (ha : args.length ≤ 19) (h : cW Try.prog 19 c_impl_totalWeight (retP Try.prog [.tmp 2] rin.length Q) (St.of (enum 0 args) (enum 1000000000 rin))) :
    Fun Try.prog 177 rin args Q :=
  Fun.of (H := ⟨[], []⟩) Try.func177 rfl rfl rfl (by kernel_rfl) ha (by decide) h

def c_spec_l22Uniform : CC :=
 (.seq (.reg [.o (.box 2 (sl 0)),
 .o (.alloc 4 [.v (.int .i64 0), .v (.slice none 0 0)])])
 ((.seq (.reg [.o (.loadN 8 3 (sl 2)),
 .o (.move 9 (sl 1)),
 .o (.call (some 10) (cf 196) [(sl 8), (sl 9)]),
 .o (.move 5 (sl 10))])
 ((.seq (.reg [.o (.bslice 11 1 0 []),
 .o (.move 6 (sl 11))])
 ((.seq (.seq (.reg [.o (.move 7 (ci 0))])
 ((.block 0 (.loop (.seq (.seq (.reg [.o (.move 12 (sl 7)),
 .o (.move 13 (sl 5)),
 .o (.lenS 14 (sl 13)),
 .o (.bin 15 .lss (sl 12) (sl 14))])
 ((.cond (sl 15) .skip
 (.exit 0))))
 ((.seq (.block 1 (.reg [.o (.move 18 (sl 6)),
 .o (.move 19 (sl 5)),
 .o (.move 20 (sl 7)),
 .o (.idx 21 1 (sl 19) (sl 20)),
 .o (.load1 22 (sl 21)),
 .o (.make 23 [.v (.int .i64 0)] 8 (sl 22) (sl 22)),
 .o (.call (some 24) (cf 172) [(sl 23)]),
 .o (.bslice 25 1 1 [(0, (sl 24))]),
 .o (.app 26 1 24 (sl 18) (sl 25)),
 .o (.move 6 (sl 26))]))
 ((.reg [.o (.move 16 (sl 7)),
 .o (.bin 17 .add (sl 16) (ci 1)),
 .o (.move 7 (sl 17))])))))))))
 ((.seq (.reg [.o (.move 27 (sl 1)),
 .o (.move 28 (sl 6)),
 .o (.build 29 [.v (.int .i64 0), .v (.slice none 0 0)] [(0, 1), (1, 1)] [(0, (sl 27)), (1, (sl 28))]),
 .o (.store 2 (sl 4) (sl 29))])
 (.ret))))))))))
theorem fun_spec_l22Uniform {rin : List T} {args : List A} {Q : List T → T → Prop} (ha : args.length ≤ 30) (h : cW Try.prog 30 c_spec_l22Uniform (retP Try.prog [.cell 4 47] rin.length Q) (St.of (enum 0 args) (enum 1000000000 rin))) :
    Fun Try.prog 178 rin args Q :=
  Fun.of (H := ⟨[], []⟩) Try.func178 rfl rfl rfl (by kernel_rfl) ha (by decide) h

def c_impl_nodesOf : CC :=
 (.seq (.reg [.o (.box 2 (sl 0)),
 .o (.move 4 (cv (.slice none 0 0)))])
 ((.seq (.reg [.o (.move 5 (cv (.slice none 0 0)))])
 ((.seq (.seq (.reg [.o (.fld 8 0 (sl 2)),
 .o (.load1 9 (sl 8)),
 .o (.lenS 10 (sl 9)),
 .o (.move 11 (ci 0))])
 ((.block 0 (.loop (.seq (.reg [.o (.bin 12 .lss (sl 11) (sl 10))])
 ((.seq (.cond (sl 12) .skip
 (.exit 0))
 ((.seq (.block 1 (.seq (.reg [.o (.move 13 (sl 11)),
 .o (.idx 14 5 (sl 9) (sl 11)),
 .o (.loadN 15 5 (sl 14)),
 .o (.alloc 7 [.v (.int .i64 0), .v (.int .i64 0), .v (.int .i64 0), .v (.int .i64 0), .v (.slice none 0 0)]),
 .o (.move 6 (sl 13)),
 .o (.store 5 (sl 7) (sl 15))])
 ((.seq (.reg [.o (.fld 16 0 (sl 7)),
 .o (.load1 17 (sl 16)),
 .o (.move 18 (sl 1)),
 .o (.bin 19 .eql (sl 17) (sl 18))])
 ((.cond (sl 19) (.reg [.o (.move 20 (sl 5)),
 .o (.move 21 (sl 6)),
 .o (.bslice 22 1 1 [(0, (sl 21))]),
 .o (.app 23 1 8 (sl 20) (sl 22)),
 .o (.move 5 (sl 23))])
 .skip))))))
 ((.reg [.o (.bin 24 .add (sl 11) (ci 1)),
 .o (.move 11 (sl 24))])))))))))))
 ((.seq (.reg [.o (.move 25 (sl 5)),
 .o (.move 4 (sl 25))])
 (.ret))))))))
theorem fun_impl_nodesOf {rin : List T} {args : List A} {Q : List T → T → Prop} (ha : args.length ≤ 26) (h : cW Try.prog 26 c_impl_nodesOf (retP Try.prog [.tmp 4] rin.length Q) (St.of (enum 0 args) (enum 1000000000 rin))) :
    Fun Try.prog 181 rin args Q :=
  Fun.of (H := ⟨[], []⟩) Try.func181 rfl rfl rfl (by kernel_rfl) ha (by decide) h

def c_spec_BetTree : CC :=
 (.seq (.reg [.o (.alloc 6 [.v (.slice none 0 0)]),
 .o (.move 7 (ci 0))])
 ((.seq (.seq (.reg [.o (.move 8 (sl 0)),
 .o (.call (some 9) (cf 148) [(sl 8), (ci 0), (ci 100)]),
 .o (.un 10 .not (sl 9)),
 .o (.move 11 (sl 10)),
 .g 11 false (some 12) (.move 12 (sl 1)),
 .g 11 false (some 13) (.call (some 13) (cf 148) [(sl 12), (ci 1), (ci 100)]),
 .g 11 false (some 14) (.un 14 .not (sl 13)),
 .o (.pick 15 (sl 11) (cb true) (sl 14)),
 .o (.move 16 (sl 15)),
 .g 16 false (some 17) (.move 17 (sl 2)),
 .g 16 false (some 18) (.call (some 18) (cf 148) [(sl 17), (ci 0), (ci 2)]),
 .g 16 false (some 19) (.un 19 .not (sl 18)),
 .o (.pick 20 (sl 16) (cb true) (sl 19)),
 .o (.move 21 (sl 20)),
 .g 21 false (some 22) (.move 22 (sl 0)),
 .g 21 false (some 23) (.move 23 (sl 1)),
 .g 21 false (some 24) (.move 24 (sl 2)),
 .g 21 false (some 25) (.bin 25 .add (sl 24) (ci 1)),
 .g 21 false (some 26) (.bin 26 .mul (sl 23) (sl 25)),
 .g 21 false (some 27) (.bin 27 .add (sl 22) (sl 26)),
 .g 21 false (some 28) (.bin 28 .gtr (sl 27) (ci 100)),
 .o (.pick 29 (sl 21) (cb true) (sl 28))])
 ((.cond (sl 29) (.seq (.reg [.o (.build 30 [.v (.slice none 0 0)] [(0, 1)] []),
 .o (.store 1 (sl 6) (sl 30)),
 .o (.move 7 (ci 2))])
 (.ret))
 .skip)))
 ((.seq (.reg [.o (.move 31 (sl 0)),
 .o (.move 32 (sl 0)),
 .o (.move 33 (sl 1)),
 .o (.move 34 (sl 2)),
 .o (.call (some 35) (cf 217) [(cv (.slice none 0 0)), (ci 0), (sl 31), (sl 32), (sl 33), (sl 34), (cb false)]),
 .o (.build 36 [.v (.slice none 0 0)] [(0, 1)] [(0, (sl 35))]),
 .o (.store 1 (sl 6) (sl 36)),
 .o (.move 7 (ci 0))])
 (.ret))))))
theorem fun_spec_BetTree {rin : List T} {args : List A} {Q : List T → T → Prop} (ha : args.length ≤ 37) (h : cW Try.prog 37 c_spec_BetTree (retP Try.prog [.cell 6 33, .tmp 7] rin.length Q) (St.of (enum 0 args) (enum 1000000000 rin))) :
    Fun Try.prog 184 rin args Q :=
  Fun.of (H := ⟨[], []⟩) Try.func184 rfl rfl rfl (by kernel_rfl) ha (by decide) h

def c_spec_l21HighCard : CC :=
 (.seq (.reg [.o (.box 3 (sl 0)),
 .o (.alloc 6 [.v (.slice none 0 0), .v (.slice none 0 0), .v (.slice none 0 0)])])
 ((.seq (.reg [.o (.bslice 13 1 0 []),
 .o (.bslice 14 1 0 []),
 .o (.move 7 (sl 13)),
 .o (.move 8 (sl 14))])
 ((.seq (.seq (.reg [.o (.move 9 (ci 0))])
 ((.block 0 (.loop (.seq (.seq (.reg [.o (.move 15 (sl 9)),
 .o (.move 16 (sl 1)),
 .o (.bin 17 .lss (sl 15) (sl 16))])
 ((.cond (sl 17) .skip
 (.exit 0))))
 ((.seq (.block 1 (.seq (.reg [.o (.bslice 20 1 0 []),
 .o (.bslice 21 1 0 []),
 .o (.move 10 (sl 20)),
 .o (.move 11 (sl 21))])
 ((.seq (.seq (.reg [.o (.move 12 (ci 0))])
 ((.block 2 (.loop (.seq (.seq (.reg [.o (.move 22 (sl 12)),
 .o (.move 23 (sl 1)),
 .o (.bin 24 .lss (sl 22) (sl 23))])
 ((.cond (sl 24) .skip
 (.exit 2))))
 ((.seq (.block 3 (.seq (.seq (.reg [.o (.move 27 (sl 9)),
 .o (.move 28 (sl 12)),
 .o (.bin 29 .eql (sl 27) (sl 28)),
 .o (.move 30 (sl 29)),
 .g 30 true (some 31) (.move 31 (sl 2)),
 .g 30 true (some 32) (.un 32 .not (sl 31)),
 .o (.pick 33 (sl 30) (sl 32) (cb false))])
 ((.cond (sl 33) (.reg [.o (.move 34 (sl 10)),
 .o (.bslice 35 1 1 [(0, (ci 0))]),
 .o (.app 36 1 8 (sl 34) (sl 35)),
 .o (.move 10 (sl 36))])
 (.reg [.o (.move 37 (sl 10)),
 .o (.bslice 38 1 1 [(0, (ci 1))]),
 .o (.app 39 1 8 (sl 37) (sl 38)),
 .o (.move 10 (sl 39))]))))
 ((.reg [.o (.move 40 (sl 11)),
 .o (.move 41 (sl 9)),
 .o (.move 42 (sl 12)),
 .o (.call (some 43) (cf 218) [(sl 41), (sl 42)]),
 .o (.bslice 44 1 1 [(0, (sl 43))]),
 .o (.app 45 1 8 (sl 40) (sl 44)),
 .o (.move 11 (sl 45))]))))
 ((.reg [.o (.move 25 (sl 12)),
 .o (.bin 26 .add (sl 25) (ci 1)),
 .o (.move 12 (sl 26))])))))))))
 ((.seq (.reg [.o (.move 46 (sl 7)),
 .o (.move 47 (sl 10)),
 .o (.bslice 48 1 1 [(0, (sl 47))]),
 .o (.app 49 1 24 (sl 46) (sl 48)),
 .o (.move 7 (sl 49))])
 ((.reg [.o (.move 50 (sl 8)),
 .o (.move 51 (sl 11)),
 .o (.bslice 52 1 1 [(0, (sl 51))]),
 .o (.app 53 1 24 (sl 50) (sl 52)),
 .o (.move 8 (sl 53))]))))))))
 ((.reg [.o (.move 18 (sl 9)),
 .o (.bin 19 .add (sl 18) (ci 1)),
 .o (.move 9 (sl 19))])))))))))
 ((.seq (.reg [.o (.loadN 54 1 (sl 3)),
 .o (.call (some 55) (cf 219) [(sl 54)]),
 .o (.move 56 (sl 7)),
 .o (.move 57 (sl 8)),
 .o (.build 58 [.v (.slice none 0 0), .v (.slice none 0 0), .v (.slice none 0 0)] [(0, 1), (1, 1), (2, 1)] [(0, (sl 55)), (1, (sl 56)), (2, (sl 57))]),
 .o (.store 3 (sl 6) (sl 58))])
 (.ret))))))))
theorem fun_spec_l21HighCard {rin : List T} {args : List A} {Q : List T → T → Prop} (ha : args.length ≤ 59) (h : cW Try.prog 59 c_spec_l21HighCard (retP Try.prog [.cell 6 35] rin.length Q) (St.of (enum 0 args) (enum 1000000000 rin))) :
    Fun Try.prog 185 rin args Q :=
  Fun.of (H := ⟨[], []⟩) Try.func185 rfl rfl rfl (by kernel_rfl) ha (by decide) h

def c_spec_l21Sets : CC :=
 (.seq (.reg [.o (.box 2 (sl 0)),
 .o (.move 4 (cv (.slice none 0 0)))])
 ((.seq (.reg [.o (.fld 9 0 (sl 2)),
 .o (.loadN 10 1 (sl 9)),
 .o (.move 11 (sl 1)),
 .o (.call (some 12) (cf 220) [(sl 10), (sl 11)]),
 .o (.move 5 (sl 12))])
 ((.seq (.reg [.o (.bslice 13 1 0 []),
 .o (.move 6 (sl 13))])
 ((.seq (.seq (.reg [.o (.move 7 (ci 0))])
 ((.block 0 (.loop (.seq (.seq (.reg [.o (.move 14 (sl 7)),
 .o (.move 15 (sl 5)),
 .o (.lenS 16 (sl 15)),
 .o (.bin 17 .lss (sl 14) (sl 16))])
 ((.cond (sl 17) .skip
 (.exit 0))))
 ((.seq (.block 1 (.seq (.reg [.o (.move 8 (ci 0))])
 ((.block 2 (.loop (.seq (.seq (.reg [.o (.move 20 (sl 8)),
 .o (.fld 21 1 (sl 2)),
 .o (.load1 22 (sl 21)),
 .o (.lenS 23 (sl 22)),
 .o (.bin 24 .lss (sl 20) (sl 23))])
 ((.cond (sl 24) .skip
 (.exit 2))))
 ((.seq (.block 3 (.reg [.o (.move 27 (sl 6)),
 .o (.move 28 (sl 5)),
 .o (.move 29 (sl 7)),
 .o (.idx 30 1 (sl 28) (sl 29)),
 .o (.load1 31 (sl 30)),
 .o (.move 32 (sl 8)),
 .o (.bslice 33 1 2 [(0, (sl 31)), (1, (sl 32))]),
 .o (.bslice 34 1 1 [(0, (sl 33))]),
 .o (.app 35 1 24 (sl 27) (sl 34)),
 .o (.move 6 (sl 35))]))
 ((.reg [.o (.move 25 (sl 8)),
 .o (.bin 26 .add (sl 25) (ci 1)),
 .o (.move 8 (sl 26))]))))))))))
 ((.reg [.o (.move 18 (sl 7)),
 .o (.bin 19 .add (sl 18) (ci 1)),
 .o (.move 7 (sl 19))])))))))))
 ((.seq (.reg [.o (.move 36 (sl 6)),
 .o (.move 4 (sl 36))])
 (.ret))))))))))
theorem fun_spec_l21Sets {rin : List T} {args : List A} {Q : List T → T → Prop} (ha : args.length ≤ 37) (h : cW Try.prog 37 c_spec_l21Sets (retP Try.prog [.tmp 4] rin.length Q) (St.of (enum 0 args) (enum 1000000000 rin))) :
    Fun Try.prog 186 rin args Q :=
  Fun.of (H := ⟨[], []⟩) Try.func186 rfl rfl rfl (by kernel_rfl) ha (by decide) h

def c_spec_l01Sum : CC :=
 (.seq (.reg [.o (.move 2 (ci 0))])
 ((.seq (.reg [.o (.move 3 (ci 0))])
 ((.seq (.seq (.reg [.o (.move 4 (ci 0))])
 ((.block 0 (.loop (.seq (.seq (.reg [.o (.move 5 (sl 4)),
 .o (.move 6 (sl 0)),
 .o (.lenS 7 (sl 6)),
 .o (.bin 8 .lss (sl 5) (sl 7))])
 ((.cond (sl 8) .skip
 (.exit 0))))
 ((.seq (.block 1 (.reg [.o (.move 11 (sl 3)),
 .o (.move 12 (sl 0)),
 .o (.move 13 (sl 4)),
 .o (.idx 14 1 (sl 12) (sl 13)),
 .o (.load1 15 (sl 14)),
 .o (.bin 16 .add (sl 11) (sl 15)),
 .o (.move 3 (sl 16))]))
 ((.reg [.o (.move 9 (sl 4)),
 .o (.bin 10 .add (sl 9) (ci 1)),
 .o (.move 4 (sl 10))])))))))))
 ((.seq (.reg [.o (.move 17 (sl 3)),
 .o (.move 2 (sl 17))])
 (.ret))))))))
theorem fun_spec_l01Sum {rin : List T} {args : List A} {Q : List T → T → Prop} (ha : args.length ≤ 18) (h : cW Try.prog 18 c_spec_l01Sum (retP Try.prog [.tmp 2] rin.length Q) (St.of (enum 0 args) (enum 1000000000 rin))) :
    Fun Try.prog 187 rin args Q :=
  Fun.of (H := ⟨[], []⟩) Try.func187 rfl rfl rfl (by kernel_rfl) ha (by decide) h

def c_spec_l24Deal : CC :=
 (.seq (.reg [.o (.move 6 (ci 0)),
 .o (.move 7 (ci 0))])
 ((.seq (.seq (.reg [.o (.move 8 (sl 0)),
 .o (.nilc 9 (sl 8)),
 .o (.fld 10 3 (sl 9)),
 .o (.load1 11 (sl 10)),
 .o (.bin 12 .eql (sl 11) (ci 0))])
 ((.cond (sl 12) (.seq (.reg [.o (.move 13 (sl 1)),
 .o (.move 14 (sl 2)),
 .o (.move 6 (sl 13)),
 .o (.move 7 (sl 14))])
 (.ret))
 .skip)))
 ((.seq (.reg [.o (.move 15 (sl 2)),
 .o (.move 16 (sl 1)),
 .o (.move 6 (sl 15)),
 .o (.move 7 (sl 16))])
 (.ret))))))
theorem fun_spec_l24Deal {rin : List T} {args : List A} {Q : List T → T → Prop} (ha : args.length ≤ 17) (h : cW Try.prog 17 c_spec_l24Deal (retP Try.prog [.tmp 6, .tmp 7] rin.length Q) (St.of (enum 0 args) (enum 1000000000 rin))) :
    Fun Try.prog 188 rin args Q :=
  Fun.of (H := ⟨[], []⟩) Try.func188 rfl rfl rfl (by kernel_rfl) ha (by decide) h

def c_spec_l21Total : CC :=
 (.seq (.reg [.o (.box 1 (sl 0)),
 .o (.move 2 (ci 0))])
 ((.seq (.reg [.o (.move 3 (ci 0))])
 ((.seq (.seq (.reg [.o (.move 4 (ci 0))])
 ((.block 0 (.loop (.seq (.seq (.reg [.o (.move 5 (sl 4)),
 .o (.fld 6 1 (sl 1)),
 .o (.load1 7 (sl 6)),
 .o (.lenS 8 (sl 7)),
 .o (.bin 9 .lss (sl 5) (sl 8))])
 ((.cond (sl 9) .skip
 (.exit 0))))
 ((.seq (.block 1 (.reg [.o (.move 12 (sl 3)),
 .o (.fld 13 1 (sl 1)),
 .o (.load1 14 (sl 13)),
 .o (.move 15 (sl 4)),
 .o (.idx 16 1 (sl 14) (sl 15)),
 .o (.load1 17 (sl 16)),
 .o (.call (some 18) (cf 187) [(sl 17)]),
 .o (.bin 19 .add (sl 12) (sl 18)),
 .o (.move 3 (sl 19))]))
 ((.reg [.o (.move 10 (sl 4)),
 .o (.bin 11 .add (sl 10) (ci 1)),
 .o (.move 4 (sl 11))])))))))))
 ((.seq (.reg [.o (.move 20 (sl 3)),
 .o (.move 2 (sl 20))])
 (.ret))))))))
theorem fun_spec_l21Total {rin : List T} {args : List A} {Q : List T → T → Prop} (ha : args.length ≤ 21) (h : cW Try.prog 21 c_spec_l21Total (retP Try.prog [.tmp 2] rin.length Q) (St.of (enum 0 args) (enum 1000000000 rin))) :
    Fun Try.prog 191 rin args Q :=
  Fun.of (H := ⟨[], []⟩) Try.func191 rfl rfl rfl (by kernel_rfl) ha (by decide) h

def c_spec_IsTree : CC :=
 (.seq (.reg [.o (.box 1 (sl 0)),
 .o (.move 2 (cb false))])
 ((.seq (.reg [.o (.fld 8 0 (sl 1)),
 .o (.load1 9 (sl 8)),
 .o (.lenS 10 (sl 9)),
 .o (.move 3 (sl 10))])
 ((.seq (.seq (.reg [.o (.move 11 (sl 3)),
 .o (.call (some 12) (cf 148) [(sl 11), (ci 1), (ci 60)]),
 .o (.un 13 .not (sl 12))])
 ((.cond (sl 13) (.seq (.reg [.o (.move 2 (cb false))])
 (.ret))
 .skip)))
 ((.seq (.reg [.o (.move 14 (sl 3)),
 .o (.make 15 [.v (.int .i64 0)] 8 (sl 14) (sl 14)),
 .o (.move 4 (sl 15))])
 ((.seq (.seq (.reg [.o (.move 5 (ci 0))])
 ((.block 0 (.loop (.seq (.seq (.reg [.o (.move 16 (sl 5)),
 .o (.move 17 (sl 3)),
 .o (.bin 18 .lss (sl 16) (sl 17))])
 ((.cond (sl 18) .skip
 (.exit 0))))
 ((.seq (.block 1 (.seq (.seq (.reg [.o (.loadN 21 1 (sl 1)),
 .o (.move 22 (sl 5)),
 .o (.call (some 23) (cf 224) [(sl 21), (sl 22)]),
 .o (.un 24 .not (sl 23))])
 ((.cond (sl 24) (.seq (.reg [.o (.move 2 (cb false))])
 (.ret))
 .skip)))
 ((.seq (.reg [.o (.move 6 (ci 0))])
 ((.block 2 (.loop (.seq (.seq (.reg [.o (.move 25 (sl 6)),
 .o (.fld 26 0 (sl 1)),
 .o (.load1 27 (sl 26)),
 .o (.move 28 (sl 5)),
 .o (.idx 29 5 (sl 27) (sl 28)),
 .o (.fld 30 4 (sl 29)),
 .o (.load1 31 (sl 30)),
 .o (.lenS 32 (sl 31)),
 .o (.bin 33 .lss (sl 25) (sl 32))])
 ((.cond (sl 33) .skip
 (.exit 2))))
 ((.seq (.block 3 (.reg [.o (.move 36 (sl 4)),
 .o (.fld 37 0 (sl 1)),
 .o (.load1 38 (sl 37)),
 .o (.move 39 (sl 5)),
 .o (.idx 40 5 (sl 38) (sl 39)),
 .o (.fld 41 4 (sl 40)),
 .o (.load1 42 (sl 41)),
 .o (.move 43 (sl 6)),
 .o (.idx 44 1 (sl 42) (sl 43)),
 .o (.load1 45 (sl 44)),
 .o (.idx 46 1 (sl 36) (sl 45)),
 .o (.load1 47 (sl 46)),
 .o (.bin 48 .add (sl 47) (ci 1)),
 .o (.idx 49 1 (sl 36) (sl 45)),
 .o (.store 1 (sl 49) (sl 48))]))
 ((.reg [.o (.move 34 (sl 6)),
 .o (.bin 35 .add (sl 34) (ci 1)),
 .o (.move 6 (sl 35))]))))))))))))
 ((.reg [.o (.move 19 (sl 5)),
 .o (.bin 20 .add (sl 19) (ci 1)),
 .o (.move 5 (sl 20))])))))))))
 ((.seq (.seq (.reg [.o (.move 7 (ci 1))])
 ((.block 4 (.loop (.seq (.seq (.reg [.o (.move 50 (sl 7)),
 .o (.move 51 (sl 3)),
 .o (.bin 52 .lss (sl 50) (sl 51))])
 ((.cond (sl 52) .skip
 (.exit 4))))
 ((.seq (.block 5 (.seq (.reg [.o (.move 55 (sl 4)),
 .o (.move 56 (sl 7)),
 .o (.idx 57 1 (sl 55) (sl 56)),
 .o (.load1 58 (sl 57)),
 .o (.bin 59 .neq (sl 58) (ci 1))])
 ((.cond (sl 59) (.seq (.reg [.o (.move 2 (cb false))])
 (.ret))
 .skip))))
 ((.reg [.o (.move 53 (sl 7)),
 .o (.bin 54 .add (sl 53) (ci 1)),
 .o (.move 7 (sl 54))])))))))))
 ((.seq (.reg [.o (.loadN 60 1 (sl 1)),
 .o (.call (some 61) (cf 158) [(sl 60), (ci 0)]),
 .o (.bin 62 .leq (sl 61) (ci 5)),
 .o (.move 2 (sl 62))])
 (.ret))))))))))))))
theorem fun_spec_IsTree {rin : List T} {args : List A} {Q : List T → T → Prop} (ha : args.length ≤ 63) (h : cW Try.prog 63 c_spec_IsTree (retP Try.prog [.tmp 2] rin.length Q) (St.of (enum 0 args) (enum 1000000000 rin))) :
    Fun Try.prog 194 rin args Q :=
  Fun.of (H := ⟨[], []⟩) Try.func194 rfl rfl rfl (by kernel_rfl) ha (by decide) h

def c_spec_l21Matrix : CC :=
 (.seq (.reg [.o (.move 8 (cb false))])
 ((.seq (.seq (.reg [.o (.move 9 (ci 0))])
 ((.block 0 (.loop (.seq (.seq (.reg [.o (.move 11 (sl 9)),
 .o (.move 12 (sl 0)),
 .o (.lenS 13 (sl 12)),
 .o (.bin 14 .lss (sl 11) (sl 13))])
 ((.cond (sl 14) .skip
 (.exit 0))))
 ((.seq (.block 1 (.seq (.seq (.reg [.o (.move 17 (sl 0)),
 .o (.move 18 (sl 9)),
 .o (.idx 19 1 (sl 17) (sl 18)),
 .o (.load1 20 (sl 19)),
 .o (.lenS 21 (sl 20)),
 .o (.move 22 (sl 1)),
 .o (.bin 23 .neq (sl 21) (sl 22))])
 ((.cond (sl 23) (.seq (.reg [.o (.move 8 (cb false))])
 (.ret))
 .skip)))
 ((.seq (.reg [.o (.move 10 (ci 0))])
 ((.block 2 (.loop (.seq (.seq (.reg [.o (.move 24 (sl 10)),
 .o (.move 25 (sl 1)),
 .o (.bin 26 .lss (sl 24) (sl 25))])
 ((.cond (sl 26) .skip
 (.exit 2))))
 ((.seq (.block 3 (.seq (.reg [.o (.move 29 (sl 0)),
 .o (.move 30 (sl 9)),
 .o (.idx 31 1 (sl 29) (sl 30)),
 .o (.load1 32 (sl 31)),
 .o (.move 33 (sl 10)),
 .o (.idx 34 1 (sl 32) (sl 33)),
 .o (.load1 35 (sl 34)),
 .o (.move 36 (sl 2)),
 .o (.move 37 (sl 3)),
 .o (.call (some 38) (cf 148) [(sl 35), (sl 36), (sl 37)]),
 .o (.un 39 .not (sl 38))])
 ((.cond (sl 39) (.seq (.reg [.o (.move 8 (cb false))])
 (.ret))
 .skip))))
 ((.reg [.o (.move 27 (sl 10)),
 .o (.bin 28 .add (sl 27) (ci 1)),
 .o (.move 10 (sl 28))]))))))))))))
 ((.reg [.o (.move 15 (sl 9)),
 .o (.bin 16 .add (sl 15) (ci 1)),
 .o (.move 9 (sl 16))])))))))))
 ((.seq (.reg [.o (.move 40 (sl 0)),
 .o (.lenS 41 (sl 40)),
 .o (.move 42 (sl 1)),
 .o (.bin 43 .eql (sl 41) (sl 42)),
 .o (.move 8 (sl 43))])
 (.ret))))))
theorem fun_spec_l21Matrix {rin : List T} {args : List A} {Q : List T → T → Prop} (ha : args.length ≤ 44) (h : cW Try.prog 44 c_spec_l21Matrix (retP Try.prog [.tmp 8] rin.length Q) (St.of (enum 0 args) (enum 1000000000 rin))) :
    Fun Try.prog 195 rin args Q :=
  Fun.of (H := ⟨[], []⟩) Try.func195 rfl rfl rfl (by kernel_rfl) ha (by decide) h

def c_spec_l22Sizes : CC :=
 (.seq (.reg [.o (.box 2 (sl 0)),
 .o (.move 4 (cv (.slice none 0 0)))])
 ((.seq (.reg [.o (.loadN 8 3 (sl 2)),
 .o (.move 9 (sl 1)),
 .o (.call (some 10) (cf 186) [(sl 8), (sl 9)]),
 .o (.move 5 (sl 10))])
 ((.seq (.reg [.o (.bslice 11 1 0 []),
 .o (.move 6 (sl 11))])
 ((.seq (.seq (.reg [.o (.move 7 (ci 0))])
 ((.block 0 (.loop (.seq (.seq (.reg [.o (.move 12 (sl 7)),
 .o (.move 13 (sl 5)),
 .o (.lenS 14 (sl 13)),
 .o (.bin 15 .lss (sl 12) (sl 14))])
 ((.cond (sl 15) .skip
 (.exit 0))))
 ((.seq (.block 1 (.draw [32] [(kR, .o (.move 18 (sl 6))),
 (kR, .o (.fld 19 0 (sl 2))),
 (kR, .o (.fld 20 0 (sl 19))),
 (kR, .o (.load1 21 (sl 20))),
 (kR, .o (.move 22 (sl 5))),
 (kR, .o (.move 23 (sl 7))),
 (kR, .o (.idx 24 1 (sl 22) (sl 23))),
 (kR, .o (.load1 25 (sl 24))),
 (kR, .o (.idx 26 1 (sl 25) (ci 0))),
 (kR, .o (.load1 27 (sl 26))),
 (kR, .o (.idx 28 5 (sl 21) (sl 27))),
 (kR, .o (.fld 29 4 (sl 28))),
 (kR, .o (.load1 30 (sl 29))),
 (kR, .o (.lenS 31 (sl 30))),
 (kN, .o (.bslice 32 1 1 [(0, (sl 31))])),
 (kH, .o (.app 33 1 8 (sl 18) (sl 32))),
 (kR, .o (.move 6 (sl 33)))]))
 ((.reg [.o (.move 16 (sl 7)),
 .o (.bin 17 .add (sl 16) (ci 1)),
 .o (.move 7 (sl 17))])))))))))
 ((.seq (.reg [.o (.move 34 (sl 6)),
 .o (.move 4 (sl 34))])
 (.ret))))))))))
theorem fun_spec_l22Sizes {rin : List T} {args : List A} {Q : List T → T → Prop} (ha : args.length ≤ 35) (h : cW Try.prog 35 c_spec_l22Sizes (retP Try.prog [.tmp 4] rin.length Q) (St.of (enum 0 args) (enum 1000000000 rin))) :
    Fun Try.prog 196 rin args Q :=
  Fun.of (H := ⟨[], []⟩) Try.func196 rfl rfl rfl (by kernel_rfl) ha (by decide) h

def c_slices_Clone___int64_int64_ : CC :=
 (.seq (.reg [.o (.move 2 (cv (.slice none 0 0)))])
 ((.seq (.seq (.reg [.o (.move 3 (sl 0)),
 .o (.isNil 4 false (sl 3))])
 ((.cond (sl 4) (.seq (.reg [.o (.move 2 (cv (.slice none 0 0)))])
 (.ret))
 .skip)))
 ((.seq (.reg [.o (.bslice 5 1 0 []),
 .o (.move 6 (sl 0)),
 .o (.app 7 1 8 (sl 5) (sl 6)),
 .o (.move 2 (sl 7))])
 (.ret))))))
theorem fun_slices_Clone___int64_int64_ {rin : List T} {args : List A} {Q : List T → T → Prop} (ha : args.length ≤ 8) (h : cW Try.prog 8 c_slices_Clone___int64_int64_ (retP Try.prog [.tmp 2] rin.length Q) (St.of (enum 0 args) (enum 1000000000 rin))) :
    Fun Try.prog 197 rin args Q :=
  Fun.of (H := ⟨[], []⟩) Try.func197 rfl rfl rfl (by kernel_rfl) ha (by decide) h

def c_spec_IsProved : CC :=
 (.seq (.reg [.o (.box 2 (sl 0)),
 .o (.box 3 (sl 1)),
 .o (.move 4 (cb false))])
 ((.seq (.reg [.o (.loadN 10 3 (sl 2)),
 .o (.fld 11 0 (sl 3)),
 .o (.loadN 12 2 (sl 11)),
 .o (.fld 13 2 (sl 3)),
 .o (.loadN 14 2 (sl 13)),
 .o (.call (some 15) (cf 79) [(sl 10), (sl 12), (sl 14)]),
 .o (.move 9 (sl 15)),
 .o (.extract 16 (sl 9) 0),
 .o (.extract 17 (sl 9) 1),
 .o (.extract 18 (sl 9) 2),
 .o (.extract 19 (sl 9) 3),
 .o (.move 5 (sl 16)),
 .o (.move 6 (sl 17)),
 .o (.move 7 (sl 18)),
 .o (.move 8 (sl 19))])
 ((.seq (.reg [.o (.move 20 (sl 8)),
 .o (.bin 21 .eql (sl 20) (ci 0)),
 .o (.move 22 (sl 21)),
 .g 22 true (some 23) (.fld 23 4 (sl 3)),
 .g 22 true (some 24) (.load1 24 (sl 23)),
 .g 22 true (some 25) (.bin 25 .geq (sl 24) (ci (-1000000000000000))),
 .o (.pick 26 (sl 22) (sl 25) (cb false)),
 .o (.move 27 (sl 26)),
 .g 27 true (some 28) (.fld 28 4 (sl 3)),
 .g 27 true (some 29) (.load1 29 (sl 28)),
 .g 27 true (some 30) (.move 30 (sl 5)),
 .g 27 true (some 31) (.bin 31 .leq (sl 29) (sl 30)),
 .o (.pick 32 (sl 27) (sl 31) (cb false)),
 .o (.move 33 (sl 32)),
 .g 33 true (some 34) (.fld 34 5 (sl 3)),
 .g 33 true (some 35) (.load1 35 (sl 34)),
 .g 33 true (some 36) (.move 36 (sl 6)),
 .g 33 true (some 37) (.bin 37 .geq (sl 35) (sl 36)),
 .o (.pick 38 (sl 33) (sl 37) (cb false)),
 .o (.move 39 (sl 38)),
 .g 39 true (some 40) (.fld 40 5 (sl 3)),
 .g 39 true (some 41) (.load1 41 (sl 40)),
 .g 39 true (some 42) (.bin 42 .leq (sl 41) (ci 1000000000000000)),
 .o (.pick 43 (sl 39) (sl 42) (cb false)),
 .o (.move 4 (sl 43))])
 (.ret))))))
theorem fun_spec_IsProved {rin : List T} {args : List A} {Q : List T → T → Prop} (ha : args.length ≤ 44) (h : cW Try.prog 44 c_spec_IsProved (retP Try.prog [.tmp 4] rin.length Q) (St.of (enum 0 args) (enum 1000000000 rin))) :
    Fun Try.prog 198 rin args Q :=
  Fun.of (H := ⟨[], []⟩) Try.func198 rfl rfl rfl (by kernel_rfl) ha (by decide) h

def c_spec_l20Random : CC :=
 (.seq (.reg [.o (.move 6 (cv (.slice none 0 0)))])
 ((.seq (.reg [.o (.move 12 (sl 1)),
 .o (.lenS 13 (sl 12)),
 .o (.move 7 (sl 13))])
 ((.seq (.reg [.o (.move 14 (sl 0)),
 .o (.call (some 15) (cf 126) [(sl 14), (ci 6)]),
 .o (.move 8 (sl 15))])
 ((.seq (.seq (.reg [.o (.move 16 (sl 2)),
 .o (.bin 17 .eql (sl 16) (ci 0)),
 .o (.move 18 (sl 17)),
 .g 18 false (some 19) (.move 19 (sl 1)),
 .g 18 false (some 20) (.lenS 20 (sl 19)),
 .g 18 false (some 21) (.bin 21 .gtr (sl 20) (ci 30)),
 .o (.pick 22 (sl 18) (cb true) (sl 21)),
 .o (.move 23 (sl 22)),
 .g 23 false (some 24) (.move 24 (sl 1)),
 .g 23 false (some 25) (.lenS 25 (sl 24)),
 .g 23 false (some 26) (.bin 26 .gtr (sl 25) (ci 0)),
 .g 23 false (some 27) (.move 27 (sl 26)),
 .g 27 true (some 28) (.move 28 (sl 0)),
 .g 27 true (some 29) (.call (some 29) (cf 126) [(sl 28), (ci 3)]),
 .g 27 true (some 30) (.bin 30 .eql (sl 29) (ci 0)),
 .g 23 false (some 31) (.pick 31 (sl 27) (sl 30) (cb false)),
 .o (.pick 32 (sl 23) (cb true) (sl 31))])
 ((.cond (sl 32) (.seq (.reg [.o (.move 33 (sl 8)),
 .o (.move 34 (sl 8)),
 .o (.move 35 (sl 0)),
 .o (.call (some 36) (cf 126) [(sl 35), (ci 3)]),
 .o (.bin 37 .sub (sl 36) (ci 1)),
 .o (.build 38 [.v (.int .i64 0), .v (.int .i64 0), .v (.int .i64 0), .v (.int .i64 0), .v (.slice none 0 0)] [(0, 1), (1, 1), (2, 1), (3, 1), (4, 1)] [(0, (ci 2)), (1, (sl 33)), (2, (sl 34)), (3, (sl 37))]),
 .o (.alloc 9 [.v (.int .i64 0), .v (.int .i64 0), .v (.int .i64 0), .v (.int .i64 0), .v (.slice none 0 0)]),
 .o (.store 5 (sl 9) (sl 38))])
 ((.seq (.seq (.reg [.o (.fld 39 3 (sl 9)),
 .o (.load1 40 (sl 39)),
 .o (.bin 41 .geq (sl 40) (ci 0))])
 ((.cond (sl 41) (.reg [.o (.move 42 (sl 0)),
 .o (.call (some 43) (cf 126) [(sl 42), (ci 6)]),
 .o (.fld 44 2 (sl 9)),
 .o (.store 1 (sl 44) (sl 43))])
 .skip)))
 ((.seq (.reg [.o (.move 45 (sl 1)),
 .o (.loadN 46 5 (sl 9)),
 .o (.bslice 47 5 1 [(0, (sl 46))]),
 .o (.app 48 5 56 (sl 45) (sl 47)),
 .o (.move 6 (sl 48))])
 (.ret))))))
 .skip)))
 ((.seq (.reg [.o (.move 49 (sl 1)),
 .o (.move 50 (sl 0)),
 .o (.call (some 51) (cf 126) [(sl 50), (ci 2)]),
 .o (.move 52 (sl 8)),
 .o (.move 53 (sl 8)),
 .o (.build 54 [.v (.int .i64 0), .v (.int .i64 0), .v (.int .i64 0), .v (.int .i64 0), .v (.slice none 0 0)] [(0, 1), (1, 1), (2, 1), (3, 1), (4, 1)] [(0, (sl 51)), (1, (sl 52)), (2, (sl 53)), (3, (ci (-1)))]),
 .o (.bslice 55 5 1 [(0, (sl 54))]),
 .o (.app 56 5 56 (sl 49) (sl 55)),
 .o (.move 1 (sl 56))])
 ((.seq (.reg [.o (.bslice 57 1 0 []),
 .o (.move 10 (sl 57))])
 ((.seq (.seq (.reg [.o (.move 58 (sl 0)),
 .o (.call (some 59) (cf 126) [(sl 58), (ci 3)]),
 .o (.bin 60 .add (ci 1) (sl 59)),
 .o (.move 11 (sl 60))])
 ((.block 0 (.loop (.seq (.seq (.reg [.o (.move 61 (sl 11)),
 .o (.bin 62 .gtr (sl 61) (ci 0))])
 ((.cond (sl 62) .skip
 (.exit 0))))
 ((.seq (.block 1 (.seq (.reg [.o (.move 65 (sl 10)),
 .o (.move 66 (sl 1)),
 .o (.lenS 67 (sl 66)),
 .o (.bslice 68 1 1 [(0, (sl 67))]),
 .o (.app 69 1 8 (sl 65) (sl 68)),
 .o (.move 10 (sl 69))])
 ((.reg [.o (.move 70 (sl 0)),
 .o (.move 71 (sl 1)),
 .o (.move 72 (sl 2)),
 .o (.bin 73 .sub (sl 72) (ci 1)),
 .o (.call (some 74) (cf 199) [(sl 70), (sl 71), (sl 73)]),
 .o (.move 1 (sl 74))]))))
 ((.reg [.o (.move 63 (sl 11)),
 .o (.bin 64 .sub (sl 63) (ci 1)),
 .o (.move 11 (sl 64))])))))))))
 ((.seq (.reg [.o (.move 75 (sl 1)),
 .o (.move 76 (sl 7)),
 .o (.move 77 (sl 10)),
 .o (.idx 78 5 (sl 75) (sl 76)),
 .o (.fld 79 4 (sl 78)),
 .o (.store 1 (sl 79) (sl 77))])
 ((.seq (.reg [.o (.move 80 (sl 1)),
 .o (.move 6 (sl 80))])
 (.ret))))))))))))))))))
theorem fun_spec_l20Random {rin : List T} {args : List A} {Q : List T → T → Prop} (ha : args.length ≤ 81) (h : cW Try.prog 81 c_spec_l20Random (retP Try.prog [.tmp 6] rin.length Q) (St.of (enum 0 args) (enum 1000000000 rin))) :
    Fun Try.prog 199 rin args Q :=
  Fun.of (H := ⟨[], []⟩) Try.func199 rfl rfl rfl (by kernel_rfl) ha (by decide) h

def c_impl_sumOf : CC :=
 (.seq (.reg [.o (.move 2 (ci 0))])
 ((.seq (.reg [.o (.move 3 (ci 0))])
 ((.seq (.seq (.reg [.o (.move 6 (sl 0)),
 .o (.lenS 7 (sl 6)),
 .o (.move 8 (ci 0))])
 ((.block 0 (.loop (.seq (.reg [.o (.bin 9 .lss (sl 8) (sl 7))])
 ((.seq (.cond (sl 9) .skip
 (.exit 0))
 ((.seq (.block 1 (.seq (.reg [.o (.idx 10 1 (sl 6) (sl 8)),
 .o (.load1 11 (sl 10)),
 .o (.move 5 (sl 11))])
 ((.reg [.o (.move 12 (sl 3)),
 .o (.move 13 (sl 5)),
 .o (.bin 14 .add (sl 12) (sl 13)),
 .o (.move 3 (sl 14))]))))
 ((.reg [.o (.bin 15 .add (sl 8) (ci 1)),
 .o (.move 8 (sl 15))])))))))))))
 ((.seq (.reg [.o (.move 16 (sl 3)),
 .o (.move 2 (sl 16))])
 (.ret))))))))
theorem fun_impl_sumOf {rin : List T} {args : List A} {Q : List T → T → Prop} (ha : args.length ≤ 17) (h : cW Try.prog 17 c_impl_sumOf (retP Try.prog [.tmp 2] rin.length Q) (St.of (enum 0 args) (enum 1000000000 rin))) :
    Fun Try.prog 200 rin args Q :=
  Fun.of (H := ⟨[], []⟩) Try.func200 rfl rfl rfl (by kernel_rfl) ha (by decide) h

def c_impl_increasing : CC :=
 (.seq (.reg [.o (.move 2 (cb false))])
 ((.seq (.seq (.reg [.o (.move 3 (ci 1))])
 ((.block 0 (.loop (.seq (.seq (.reg [.o (.move 4 (sl 3)),
 .o (.move 5 (sl 0)),
 .o (.lenS 6 (sl 5)),
 .o (.bin 7 .lss (sl 4) (sl 6))])
 ((.cond (sl 7) .skip
 (.exit 0))))
 ((.seq (.block 1 (.seq (.draw [] [(kR, .o (.move 10 (sl 0))),
 (kR, .o (.move 11 (sl 3))),
 (kR, .o (.bin 12 .sub (sl 11) (ci 1))),
 (kR, .o (.idx 13 1 (sl 10) (sl 12))),
 (kR, .o (.load1 14 (sl 13))),
 (kR, .o (.move 15 (sl 0))),
 (kR, .o (.move 16 (sl 3))),
 (kR, .o (.idx 17 1 (sl 15) (sl 16))),
 (kR, .o (.load1 18 (sl 17))),
 (kR, .o (.bin 19 .geq (sl 14) (sl 18)))])
 ((.cond (sl 19) (.seq (.reg [.o (.move 2 (cb false))])
 (.ret))
 .skip))))
 ((.reg [.o (.move 8 (sl 3)),
 .o (.bin 9 .add (sl 8) (ci 1)),
 .o (.move 3 (sl 9))])))))))))
 ((.seq (.reg [.o (.move 2 (cb true))])
 (.ret))))))
theorem fun_impl_increasing {rin : List T} {args : List A} {Q : List T → T → Prop} (ha : args.length ≤ 20) (h : cW Try.prog 20 c_impl_increasing (retP Try.prog [.tmp 2] rin.length Q) (St.of (enum 0 args) (enum 1000000000 rin))) :
    Fun Try.prog 212 rin args Q :=
  Fun.of (H := ⟨[], []⟩) Try.func212 rfl rfl rfl (by kernel_rfl) ha (by decide) h

def c_impl_payoffAt : CC :=
 (.seq (.reg [.o (.box 4 (sl 0)),
 .o (.move 8 (ci 0))])
 ((.seq (.reg [.o (.fld 11 0 (sl 4)),
 .o (.fld 12 0 (sl 11)),
 .o (.load1 13 (sl 12)),
 .o (.move 14 (sl 1)),
 .o (.idx 15 5 (sl 13) (sl 14)),
 .o (.loadN 16 5 (sl 15)),
 .o (.alloc 9 [.v (.int .i64 0), .v (.int .i64 0), .v (.int .i64 0), .v (.int .i64 0), .v (.slice none 0 0)]),
 .o (.store 5 (sl 9) (sl 16))])
 ((.seq (.reg [.o (.fld 17 2 (sl 4)),
 .o (.load1 18 (sl 17)),
 .o (.move 19 (sl 2)),
 .o (.idx 20 1 (sl 18) (sl 19)),
 .o (.load1 21 (sl 20)),
 .o (.move 22 (sl 3)),
 .o (.idx 23 1 (sl 21) (sl 22)),
 .o (.load1 24 (sl 23)),
 .o (.move 10 (sl 24))])
 ((.seq (.seq (.reg [.o (.fld 25 3 (sl 9)),
 .o (.load1 26 (sl 25))])
 ((.block 0 (.seq (.reg [.o (.bin 28 .eql (sl 26) (ci 0)),
 .o (.move 27 (sl 28))])
 ((.cond (sl 27) (.reg [.o (.move 10 (ci (-1)))])
 (.seq (.reg [.o (.bin 30 .eql (sl 26) (ci 1)),
 .o (.move 29 (sl 30))])
 ((.cond (sl 29) (.reg [.o (.move 10 (ci 1))])
 .skip)))))))))
 ((.seq (.seq (.reg [.o (.move 31 (sl 10))])
 ((.block 1 (.seq (.reg [.o (.bin 33 .eql (sl 31) (ci 1)),
 .o (.move 32 (sl 33))])
 ((.cond (sl 32) (.seq (.reg [.o (.fld 34 2 (sl 9)),
 .o (.load1 35 (sl 34)),
 .o (.move 8 (sl 35))])
 (.ret))
 (.seq (.reg [.o (.bin 37 .eql (sl 31) (ci (-1))),
 .o (.move 36 (sl 37))])
 ((.cond (sl 36) (.seq (.reg [.o (.fld 38 1 (sl 9)),
 .o (.load1 39 (sl 38)),
 .o (.un 40 .neg (sl 39)),
 .o (.move 8 (sl 40))])
 (.ret))
 .skip)))))))))
 ((.seq (.reg [.o (.move 8 (ci 0))])
 (.ret))))))))))))
theorem fun_impl_payoffAt {rin : List T} {args : List A} {Q : List T → T → Prop} (ha : args.length ≤ 41) (h : cW Try.prog 41 c_impl_payoffAt (retP Try.prog [.tmp 8] rin.length Q) (St.of (enum 0 args) (enum 1000000000 rin))) :
    Fun Try.prog 213 rin args Q :=
  Fun.of (H := ⟨[], []⟩) Try.func213 rfl rfl rfl (by kernel_rfl) ha (by decide) h

def c_spec_l21Payoff : CC :=
 (.seq (.reg [.o (.box 4 (sl 0)),
 .o (.move 8 (ci 0))])
 ((.seq (.reg [.o (.fld 11 0 (sl 4)),
 .o (.fld 12 0 (sl 11)),
 .o (.load1 13 (sl 12)),
 .o (.move 14 (sl 1)),
 .o (.idx 15 5 (sl 13) (sl 14)),
 .o (.loadN 16 5 (sl 15)),
 .o (.alloc 9 [.v (.int .i64 0), .v (.int .i64 0), .v (.int .i64 0), .v (.int .i64 0), .v (.slice none 0 0)]),
 .o (.store 5 (sl 9) (sl 16))])
 ((.seq (.reg [.o (.fld 17 2 (sl 4)),
 .o (.load1 18 (sl 17)),
 .o (.move 19 (sl 2)),
 .o (.idx 20 1 (sl 18) (sl 19)),
 .o (.load1 21 (sl 20)),
 .o (.move 22 (sl 3)),
 .o (.idx 23 1 (sl 21) (sl 22)),
 .o (.load1 24 (sl 23)),
 .o (.move 10 (sl 24))])
 ((.seq (.seq (.reg [.o (.fld 25 3 (sl 9)),
 .o (.load1 26 (sl 25))])
 ((.block 0 (.seq (.reg [.o (.bin 28 .eql (sl 26) (ci 0)),
 .o (.move 27 (sl 28))])
 ((.cond (sl 27) (.reg [.o (.move 10 (ci (-1)))])
 (.seq (.reg [.o (.bin 30 .eql (sl 26) (ci 1)),
 .o (.move 29 (sl 30))])
 ((.cond (sl 29) (.reg [.o (.move 10 (ci 1))])
 .skip)))))))))
 ((.seq (.seq (.reg [.o (.move 31 (sl 10))])
 ((.block 1 (.seq (.reg [.o (.bin 33 .eql (sl 31) (ci (-1))),
 .o (.move 32 (sl 33))])
 ((.cond (sl 32) (.seq (.reg [.o (.fld 34 1 (sl 9)),
 .o (.load1 35 (sl 34)),
 .o (.un 36 .neg (sl 35)),
 .o (.move 8 (sl 36))])
 (.ret))
 (.seq (.reg [.o (.bin 38 .eql (sl 31) (ci 1)),
 .o (.move 37 (sl 38))])
 ((.cond (sl 37) (.seq (.reg [.o (.fld 39 2 (sl 9)),
 .o (.load1 40 (sl 39)),
 .o (.move 8 (sl 40))])
 (.ret))
 .skip)))))))))
 ((.seq (.reg [.o (.move 8 (ci 0))])
 (.ret))))))))))))
theorem fun_spec_l21Payoff {rin : List T} {args : List A} {Q : List T → T → Prop} (ha : args.length ≤ 41) (h : cW Try.prog 41 c_spec_l21Payoff (retP Try.prog [.tmp 8] rin.length Q) (St.of (enum 0 args) (enum 1000000000 rin))) :
    Fun Try.prog 215 rin args Q :=
  Fun.of (H := ⟨[], []⟩) Try.func215 rfl rfl rfl (by kernel_rfl) ha (by decide) h

def c_spec_l20Grow : CC :=
 (.seq (.reg [.o (.move 14 (cv (.slice none 0 0)))])
 ((.seq (.reg [.o (.move 19 (sl 0)),
 .o (.lenS 20 (sl 19)),
 .o (.move 15 (sl 20))])
 ((.seq (.reg [.o (.move 21 (sl 0)),
 .o (.move 22 (sl 1)),
 .o (.move 23 (sl 2)),
 .o (.move 24 (sl 3)),
 .o (.build 25 [.v (.int .i64 0), .v (.int .i64 0), .v (.int .i64 0), .v (.int .i64 0), .v (.slice none 0 0)] [(0, 1), (1, 1), (2, 1), (3, 1), (4, 1)] [(0, (sl 22)), (1, (sl 23)), (2, (sl 24)), (3, (ci (-1)))]),
 .o (.bslice 26 5 1 [(0, (sl 25))]),
 .o (.app 27 5 56 (sl 21) (sl 26)),
 .o (.move 0 (sl 27))])
 ((.seq (.reg [.o (.move 28 (sl 2)),
 .o (.move 29 (sl 3)),
 .o (.move 16 (sl 28)),
 .o (.move 17 (sl 29))])
 ((.seq (.seq (.reg [.o (.move 30 (sl 1)),
 .o (.bin 31 .eql (sl 30) (ci 1))])
 ((.cond (sl 31) (.reg [.o (.move 32 (sl 3)),
 .o (.move 33 (sl 2)),
 .o (.move 16 (sl 32)),
 .o (.move 17 (sl 33))])
 .skip)))
 ((.seq (.reg [.o (.move 34 (sl 0)),
 .o (.lenS 35 (sl 34)),
 .o (.bslice 36 1 1 [(0, (sl 35))]),
 .o (.move 18 (sl 36))])
 ((.seq (.block 0 (.seq (.reg [.o (.move 46 (sl 16)),
 .o (.move 47 (sl 17)),
 .o (.bin 48 .lss (sl 46) (sl 47)),
 .o (.move 45 (sl 48))])
 ((.cond (sl 45) (.seq (.reg [.o (.move 49 (sl 0)),
 .o (.move 50 (sl 2)),
 .o (.move 51 (sl 3)),
 .o (.move 52 (sl 1)),
 .o (.build 53 [.v (.int .i64 0), .v (.int .i64 0), .v (.int .i64 0), .v (.int .i64 0), .v (.slice none 0 0)] [(0, 1), (1, 1), (2, 1), (3, 1), (4, 1)] [(0, (ci 2)), (1, (sl 50)), (2, (sl 51)), (3, (sl 52))]),
 .o (.bslice 54 5 1 [(0, (sl 53))]),
 .o (.app 55 5 56 (sl 49) (sl 54)),
 .o (.move 0 (sl 55))])
 ((.seq (.reg [.o (.move 56 (sl 18)),
 .o (.move 57 (sl 0)),
 .o (.lenS 58 (sl 57)),
 .o (.bslice 59 1 1 [(0, (sl 58))]),
 .o (.app 60 1 8 (sl 56) (sl 59)),
 .o (.move 18 (sl 60))])
 ((.seq (.reg [.o (.move 61 (sl 0)),
 .o (.move 62 (sl 17)),
 .o (.move 63 (sl 17)),
 .o (.build 64 [.v (.int .i64 0), .v (.int .i64 0), .v (.int .i64 0), .v (.int .i64 0), .v (.slice none 0 0)] [(0, 1), (1, 1), (2, 1), (3, 1), (4, 1)] [(0, (ci 2)), (1, (sl 62)), (2, (sl 63)), (3, (ci (-1)))]),
 .o (.bslice 65 5 1 [(0, (sl 64))]),
 .o (.app 66 5 56 (sl 61) (sl 65)),
 .o (.move 0 (sl 66))])
 ((.seq (.seq (.reg [.o (.move 67 (sl 5)),
 .o (.bin 68 .eql (sl 67) (ci 0))])
 ((.cond (sl 68) (.seq (.reg [.o (.move 69 (sl 0)),
 .o (.move 70 (sl 15)),
 .o (.move 71 (sl 18)),
 .o (.idx 72 5 (sl 69) (sl 70)),
 .o (.fld 73 4 (sl 72)),
 .o (.store 1 (sl 73) (sl 71))])
 ((.seq (.reg [.o (.move 74 (sl 0)),
 .o (.move 14 (sl 74))])
 (.ret))))
 .skip)))
 ((.reg [.o (.move 75 (sl 5)),
 .o (.bin 76 .sub (sl 75) (ci 1)),
 .o (.move 5 (sl 76))])))))))))
 (.seq (.reg [.o (.move 78 (sl 6)),
 .o (.move 77 (sl 78))])
 ((.cond (sl 77) (.reg [.o (.move 79 (sl 0)),
 .o (.move 80 (sl 2)),
 .o (.move 81 (sl 3)),
 .o (.build 82 [.v (.int .i64 0), .v (.int .i64 0), .v (.int .i64 0), .v (.int .i64 0), .v (.slice none 0 0)] [(0, 1), (1, 1), (2, 1), (3, 1), (4, 1)] [(0, (ci 2)), (1, (sl 80)), (2, (sl 81)), (3, (ci (-1)))]),
 .o (.bslice 83 5 1 [(0, (sl 82))]),
 .o (.app 84 5 56 (sl 79) (sl 83)),
 .o (.move 0 (sl 84))])
 (.reg [.o (.move 37 (sl 0)),
 .o (.move 38 (sl 1)),
 .o (.bin 39 .sub (ci 1) (sl 38)),
 .o (.move 40 (sl 2)),
 .o (.move 41 (sl 3)),
 .o (.move 42 (sl 4)),
 .o (.move 43 (sl 5)),
 .o (.call (some 44) (cf 217) [(sl 37), (sl 39), (sl 40), (sl 41), (sl 42), (sl 43), (cb true)]),
 .o (.move 0 (sl 44))]))))))))
 ((.seq (.reg [.o (.move 85 (sl 18)),
 .o (.move 86 (sl 0)),
 .o (.lenS 87 (sl 86)),
 .o (.bslice 88 1 1 [(0, (sl 87))]),
 .o (.app 89 1 8 (sl 85) (sl 88)),
 .o (.move 18 (sl 89))])
 ((.seq (.seq (.reg [.o (.move 90 (sl 1)),
 .o (.bin 91 .eql (sl 90) (ci 0))])
 ((.cond (sl 91) (.reg [.o (.move 92 (sl 17)),
 .o (.move 93 (sl 4)),
 .o (.bin 94 .add (sl 92) (sl 93)),
 .o (.move 2 (sl 94))])
 (.reg [.o (.move 95 (sl 17)),
 .o (.move 96 (sl 4)),
 .o (.bin 97 .add (sl 95) (sl 96)),
 .o (.move 3 (sl 97))]))))
 ((.seq (.reg [.o (.move 98 (sl 0)),
 .o (.move 99 (sl 1)),
 .o (.bin 100 .sub (ci 1) (sl 99)),
 .o (.move 101 (sl 2)),
 .o (.move 102 (sl 3)),
 .o (.move 103 (sl 4)),
 .o (.move 104 (sl 5)),
 .o (.call (some 105) (cf 217) [(sl 98), (sl 100), (sl 101), (sl 102), (sl 103), (sl 104), (cb false)]),
 .o (.move 0 (sl 105))])
 ((.seq (.reg [.o (.move 106 (sl 0)),
 .o (.move 107 (sl 15)),
 .o (.move 108 (sl 18)),
 .o (.idx 109 5 (sl 106) (sl 107)),
 .o (.fld 110 4 (sl 109)),
 .o (.store 1 (sl 110) (sl 108))])
 ((.seq (.reg [.o (.move 111 (sl 0)),
 .o (.move 14 (sl 111))])
 (.ret))))))))))))))))))))))))
theorem fun_spec_l20Grow {rin : List T} {args : List A} {Q : List T → T → Prop} (ha : args.length ≤ 112) (h : cW Try.prog 112 c_spec_l20Grow (retP Try.prog [.tmp 14] rin.length Q) (St.of (enum 0 args) (enum 1000000000 rin))) :
    Fun Try.prog 217 rin args Q :=
  Fun.of (H := ⟨[], []⟩) Try.func217 rfl rfl rfl (by kernel_rfl) ha (by decide) h

def c_spec_l04Order : CC :=
 (.seq (.reg [.o (.move 4 (ci 0))])
 ((.seq (.block 0 (.seq (.reg [.o (.move 6 (sl 0)),
 .o (.move 7 (sl 1)),
 .o (.bin 8 .lss (sl 6) (sl 7)),
 .o (.move 5 (sl 8))])
 ((.cond (sl 5) (.seq (.reg [.o (.move 4 (ci (-1)))])
 (.ret))
 (.seq (.reg [.o (.move 10 (sl 0)),
 .o (.move 11 (sl 1)),
 .o (.bin 12 .gtr (sl 10) (sl 11)),
 .o (.move 9 (sl 12))])
 ((.cond (sl 9) (.seq (.reg [.o (.move 4 (ci 1))])
 (.ret))
 .skip)))))))
 ((.seq (.reg [.o (.move 4 (ci 0))])
 (.ret))))))
theorem fun_spec_l04Order {rin : List T} {args : List A} {Q : List T → T → Prop} (ha : args.length ≤ 13) (h : cW Try.prog 13 c_spec_l04Order (retP Try.prog [.tmp 4] rin.length Q) (St.of (enum 0 args) (enum 1000000000 rin))) :
    Fun Try.prog 218 rin args Q :=
  Fun.of (H := ⟨[], []⟩) Try.func218 rfl rfl rfl (by kernel_rfl) ha (by decide) h

def c_spec_l21Tree : CC :=
 (.seq (.reg [.o (.box 1 (sl 0)),
 .o (.alloc 2 [.v (.slice none 0 0)])])
 ((.seq (.reg [.o (.bslice 6 5 0 []),
 .o (.move 3 (sl 6))])
 ((.seq (.seq (.reg [.o (.move 4 (ci 0))])
 ((.block 0 (.loop (.seq (.seq (.reg [.o (.move 7 (sl 4)),
 .o (.fld 8 0 (sl 1)),
 .o (.load1 9 (sl 8)),
 .o (.lenS 10 (sl 9)),
 .o (.bin 11 .lss (sl 7) (sl 10))])
 ((.cond (sl 11) .skip
 (.exit 0))))
 ((.seq (.block 1 (.seq (.reg [.o (.fld 14 0 (sl 1)),
 .o (.load1 15 (sl 14)),
 .o (.move 16 (sl 4)),
 .o (.idx 17 5 (sl 15) (sl 16)),
 .o (.loadN 18 5 (sl 17)),
 .o (.alloc 5 [.v (.int .i64 0), .v (.int .i64 0), .v (.int .i64 0), .v (.int .i64 0), .v (.slice none 0 0)]),
 .o (.store 5 (sl 5) (sl 18))])
 ((.seq (.reg [.o (.fld 19 4 (sl 5)),
 .o (.load1 20 (sl 19)),
 .o (.call (some 21) (cf 167) [(sl 20)]),
 .o (.fld 22 4 (sl 5)),
 .o (.store 1 (sl 22) (sl 21))])
 ((.reg [.o (.move 23 (sl 3)),
 .o (.loadN 24 5 (sl 5)),
 .o (.bslice 25 5 1 [(0, (sl 24))]),
 .o (.app 26 5 56 (sl 23) (sl 25)),
 .o (.move 3 (sl 26))]))))))
 ((.reg [.o (.move 12 (sl 4)),
 .o (.bin 13 .add (sl 12) (ci 1)),
 .o (.move 4 (sl 13))])))))))))
 ((.seq (.reg [.o (.move 27 (sl 3)),
 .o (.build 28 [.v (.slice none 0 0)] [(0, 1)] [(0, (sl 27))]),
 .o (.store 1 (sl 2) (sl 28))])
 (.ret))))))))
theorem fun_spec_l21Tree {rin : List T} {args : List A} {Q : List T → T → Prop} (ha : args.length ≤ 29) (h : cW Try.prog 29 c_spec_l21Tree (retP Try.prog [.cell 2 33] rin.length Q) (St.of (enum 0 args) (enum 1000000000 rin))) :
    Fun Try.prog 219 rin args Q :=
  Fun.of (H := ⟨[], []⟩) Try.func219 rfl rfl rfl (by kernel_rfl) ha (by decide) h

def c_spec_l20Of : CC :=
 (.seq (.reg [.o (.box 2 (sl 0)),
 .o (.move 4 (cv (.slice none 0 0)))])
 ((.seq (.reg [.o (.bslice 7 1 0 []),
 .o (.move 5 (sl 7))])
 ((.seq (.seq (.reg [.o (.move 6 (ci 0))])
 ((.block 0 (.loop (.seq (.seq (.reg [.o (.move 8 (sl 6)),
 .o (.fld 9 0 (sl 2)),
 .o (.load1 10 (sl 9)),
 .o (.lenS 11 (sl 10)),
 .o (.bin 12 .lss (sl 8) (sl 11))])
 ((.cond (sl 12) .skip
 (.exit 0))))
 ((.seq (.block 1 (.seq (.reg [.o (.fld 15 0 (sl 2)),
 .o (.load1 16 (sl 15)),
 .o (.move 17 (sl 6)),
 .o (.idx 18 5 (sl 16) (sl 17)),
 .o (.fld 19 0 (sl 18)),
 .o (.load1 20 (sl 19)),
 .o (.move 21 (sl 1)),
 .o (.bin 22 .eql (sl 20) (sl 21))])
 ((.cond (sl 22) (.reg [.o (.move 23 (sl 5)),
 .o (.move 24 (sl 6)),
 .o (.bslice 25 1 1 [(0, (sl 24))]),
 .o (.app 26 1 8 (sl 23) (sl 25)),
 .o (.move 5 (sl 26))])
 .skip))))
 ((.reg [.o (.move 13 (sl 6)),
 .o (.bin 14 .add (sl 13) (ci 1)),
 .o (.move 6 (sl 14))])))))))))
 ((.seq (.reg [.o (.move 27 (sl 5)),
 .o (.move 4 (sl 27))])
 (.ret))))))))
theorem fun_spec_l20Of {rin : List T} {args : List A} {Q : List T → T → Prop} (ha : args.length ≤ 28) (h : cW Try.prog 28 c_spec_l20Of (retP Try.prog [.tmp 4] rin.length Q) (St.of (enum 0 args) (enum 1000000000 rin))) :
    Fun Try.prog 220 rin args Q :=
  Fun.of (H := ⟨[], []⟩) Try.func220 rfl rfl rfl (by kernel_rfl) ha (by decide) h

def c_spec_l23Set : CC :=
 (.seq (.reg [.o (.box 4 (sl 0)),
 .o (.move 8 (ci 0))])
 ((.seq (.reg [.o (.fld 11 0 (sl 4)),
 .o (.loadN 12 1 (sl 11)),
 .o (.move 13 (sl 1)),
 .o (.call (some 14) (cf 220) [(sl 12), (sl 13)]),
 .o (.move 9 (sl 14))])
 ((.seq (.seq (.reg [.o (.move 10 (ci 0))])
 ((.block 0 (.loop (.seq (.seq (.reg [.o (.move 15 (sl 10)),
 .o (.move 16 (sl 9)),
 .o (.lenS 17 (sl 16)),
 .o (.bin 18 .lss (sl 15) (sl 17))])
 ((.cond (sl 18) .skip
 (.exit 0))))
 ((.seq (.block 1 (.seq (.reg [.o (.move 21 (sl 9)),
 .o (.move 22 (sl 10)),
 .o (.idx 23 1 (sl 21) (sl 22)),
 .o (.load1 24 (sl 23)),
 .o (.move 25 (sl 2)),
 .o (.bin 26 .eql (sl 24) (sl 25))])
 ((.cond (sl 26) (.seq (.reg [.o (.move 27 (sl 10)),
 .o (.fld 28 1 (sl 4)),
 .o (.load1 29 (sl 28)),
 .o (.lenS 30 (sl 29)),
 .o (.bin 31 .mul (sl 27) (sl 30)),
 .o (.move 32 (sl 3)),
 .o (.bin 33 .add (sl 31) (sl 32)),
 .o (.move 8 (sl 33))])
 (.ret))
 .skip))))
 ((.reg [.o (.move 19 (sl 10)),
 .o (.bin 20 .add (sl 19) (ci 1)),
 .o (.move 10 (sl 20))])))))))))
 ((.seq (.reg [.o (.move 8 (ci (-1)))])
 (.ret))))))))
theorem fun_spec_l23Set {rin : List T} {args : List A} {Q : List T → T → Prop} (ha : args.length ≤ 34) (h : cW Try.prog 34 c_spec_l23Set (retP Try.prog [.tmp 8] rin.length Q) (St.of (enum 0 args) (enum 1000000000 rin))) :
    Fun Try.prog 221 rin args Q :=
  Fun.of (H := ⟨[], []⟩) Try.func221 rfl rfl rfl (by kernel_rfl) ha (by decide) h

def c_spec_l20Node : CC :=
 (.seq (.reg [.o (.box 2 (sl 0)),
 .o (.move 4 (cb false))])
 ((.seq (.reg [.o (.fld 6 0 (sl 2)),
 .o (.load1 7 (sl 6)),
 .o (.move 8 (sl 1)),
 .o (.idx 9 5 (sl 7) (sl 8)),
 .o (.loadN 10 5 (sl 9)),
 .o (.alloc 5 [.v (.int .i64 0), .v (.int .i64 0), .v (.int .i64 0), .v (.int .i64 0), .v (.slice none 0 0)]),
 .o (.store 5 (sl 5) (sl 10))])
 ((.seq (.seq (.reg [.o (.fld 11 0 (sl 5)),
 .o (.load1 12 (sl 11)),
 .o (.call (some 13) (cf 148) [(sl 12), (ci 0), (ci 2)]),
 .o (.un 14 .not (sl 13)),
 .o (.move 15 (sl 14)),
 .g 15 false (some 16) (.fld 16 1 (sl 5)),
 .g 15 false (some 17) (.load1 17 (sl 16)),
 .g 15 false (some 18) (.call (some 18) (cf 148) [(sl 17), (ci 0), (ci 100)]),
 .g 15 false (some 19) (.un 19 .not (sl 18)),
 .o (.pick 20 (sl 15) (cb true) (sl 19)),
 .o (.move 21 (sl 20)),
 .g 21 false (some 22) (.fld 22 2 (sl 5)),
 .g 21 false (some 23) (.load1 23 (sl 22)),
 .g 21 false (some 24) (.call (some 24) (cf 148) [(sl 23), (ci 0), (ci 100)]),
 .g 21 false (some 25) (.un 25 .not (sl 24)),
 .o (.pick 26 (sl 21) (cb true) (sl 25)),
 .o (.move 27 (sl 26)),
 .g 27 false (some 28) (.fld 28 3 (sl 5)),
 .g 27 false (some 29) (.load1 29 (sl 28)),
 .g 27 false (some 30) (.call (some 30) (cf 148) [(sl 29), (ci (-1)), (ci 1)]),
 .g 27 false (some 31) (.un 31 .not (sl 30)),
 .o (.pick 32 (sl 27) (cb true) (sl 31))])
 ((.cond (sl 32) (.seq (.reg [.o (.move 4 (cb false))])
 (.ret))
 .skip)))
 ((.seq (.seq (.reg [.o (.fld 33 0 (sl 5)),
 .o (.load1 34 (sl 33)),
 .o (.bin 35 .eql (sl 34) (ci 2))])
 ((.cond (sl 35) (.seq (.reg [.o (.fld 36 4 (sl 5)),
 .o (.load1 37 (sl 36)),
 .o (.lenS 38 (sl 37)),
 .o (.bin 39 .eql (sl 38) (ci 0)),
 .o (.move 40 (sl 39)),
 .g 40 true (some 41) (.fld 41 3 (sl 5)),
 .g 40 true (some 42) (.load1 42 (sl 41)),
 .g 40 true (some 43) (.bin 43 .geq (sl 42) (ci 0)),
 .g 40 true (some 44) (.move 44 (sl 43)),
 .g 44 false (some 45) (.fld 45 1 (sl 5)),
 .g 44 false (some 46) (.load1 46 (sl 45)),
 .g 44 false (some 47) (.fld 47 2 (sl 5)),
 .g 44 false (some 48) (.load1 48 (sl 47)),
 .g 44 false (some 49) (.bin 49 .eql (sl 46) (sl 48)),
 .g 40 true (some 50) (.pick 50 (sl 44) (cb true) (sl 49)),
 .o (.pick 51 (sl 40) (sl 50) (cb false)),
 .o (.move 4 (sl 51))])
 (.ret))
 .skip)))
 ((.seq (.seq (.reg [.o (.fld 52 3 (sl 5)),
 .o (.load1 53 (sl 52)),
 .o (.bin 54 .neq (sl 53) (ci (-1))),
 .o (.move 55 (sl 54)),
 .g 55 false (some 56) (.fld 56 4 (sl 5)),
 .g 55 false (some 57) (.load1 57 (sl 56)),
 .g 55 false (some 58) (.lenS 58 (sl 57)),
 .g 55 false (some 59) (.call (some 59) (cf 148) [(sl 58), (ci 1), (ci 4)]),
 .g 55 false (some 60) (.un 60 .not (sl 59)),
 .o (.pick 61 (sl 55) (cb true) (sl 60)),
 .o (.move 62 (sl 61)),
 .g 62 false (some 63) (.fld 63 4 (sl 5)),
 .g 62 false (some 64) (.load1 64 (sl 63)),
 .g 62 false (some 65) (.fld 65 0 (sl 2)),
 .g 62 false (some 66) (.load1 66 (sl 65)),
 .g 62 false (some 67) (.lenS 67 (sl 66)),
 .g 62 false (some 68) (.call (some 68) (cf 228) [(sl 64), (sl 67)]),
 .g 62 false (some 69) (.un 69 .not (sl 68)),
 .o (.pick 70 (sl 62) (cb true) (sl 69))])
 ((.cond (sl 70) (.seq (.reg [.o (.move 4 (cb false))])
 (.ret))
 .skip)))
 ((.seq (.reg [.o (.fld 71 4 (sl 5)),
 .o (.load1 72 (sl 71)),
 .o (.idx 73 1 (sl 72) (ci 0)),
 .o (.load1 74 (sl 73)),
 .o (.move 75 (sl 1)),
 .o (.bin 76 .gtr (sl 74) (sl 75)),
 .o (.move 4 (sl 76))])
 (.ret))))))))))))
theorem fun_spec_l20Node {rin : List T} {args : List A} {Q : List T → T → Prop} (ha : args.length ≤ 77) (h : cW Try.prog 77 c_spec_l20Node (retP Try.prog [.tmp 4] rin.length Q) (St.of (enum 0 args) (enum 1000000000 rin))) :
    Fun Try.prog 224 rin args Q :=
  Fun.of (H := ⟨[], []⟩) Try.func224 rfl rfl rfl (by kernel_rfl) ha (by decide) h

def c_spec_l20Valid : CC :=
 (.seq (.reg [.o (.alloc 2 [.v (.slice none 0 0)])])
 ((.seq (.seq (.reg [.o (.move 8 (sl 0)),
 .o (.call (some 9) (cf 126) [(sl 8), (ci 5)])])
 ((.block 0 (.seq (.reg [.o (.bin 11 .eql (sl 9) (ci 0)),
 .o (.move 10 (sl 11))])
 ((.cond (sl 10) (.seq (.reg [.o (.bslice 12 5 0 []),
 .o (.move 3 (sl 12))])
 ((.seq (.reg [.o (.move 13 (sl 0)),
 .o (.move 14 (sl 3)),
 .o (.call (some 15) (cf 199) [(sl 13), (sl 14), (ci 3)]),
 .o (.move 3 (sl 15))])
 ((.seq (.reg [.o (.move 16 (sl 3)),
 .o (.build 17 [.v (.slice none 0 0)] [(0, 1)] [(0, (sl 16))]),
 .o (.store 1 (sl 2) (sl 17))])
 (.ret))))))
 (.seq (.reg [.o (.bin 19 .eql (sl 9) (ci 1)),
 .o (.move 18 (sl 19))])
 ((.cond (sl 18) (.seq (.reg [.o (.move 21 (sl 0)),
 .o (.call (some 22) (cf 126) [(sl 21), (ci 4)]),
 .o (.move 23 (sl 0)),
 .o (.call (some 24) (cf 126) [(sl 23), (ci 5)]),
 .o (.bin 25 .add (ci 1) (sl 24)),
 .o (.call (some 26) (cf 184) [(sl 22), (sl 25), (ci 1)]),
 .o (.move 20 (sl 26)),
 .o (.extract 27 (sl 20) 0),
 .o (.extract 28 (sl 20) 1),
 .o (.alloc 4 [.v (.slice none 0 0)]),
 .o (.store 1 (sl 4) (sl 27)),
 .o (.move 5 (sl 28))])
 ((.seq (.reg [.o (.loadN 29 1 (sl 4)),
 .o (.store 1 (sl 2) (sl 29))])
 (.ret))))
 .skip)))))))))
 ((.seq (.reg [.o (.move 31 (sl 0)),
 .o (.call (some 32) (cf 126) [(sl 31), (ci 3)]),
 .o (.bin 33 .add (ci 1) (sl 32)),
 .o (.move 34 (sl 0)),
 .o (.call (some 35) (cf 126) [(sl 34), (ci 4)]),
 .o (.bin 36 .add (ci 1) (sl 35)),
 .o (.call (some 37) (cf 184) [(sl 33), (sl 36), (ci 0)]),
 .o (.move 30 (sl 37)),
 .o (.extract 38 (sl 30) 0),
 .o (.extract 39 (sl 30) 1),
 .o (.alloc 6 [.v (.slice none 0 0)]),
 .o (.store 1 (sl 6) (sl 38)),
 .o (.move 7 (sl 39))])
 ((.seq (.reg [.o (.loadN 40 1 (sl 6)),
 .o (.store 1 (sl 2) (sl 40))])
 (.ret))))))))
theorem fun_spec_l20Valid {rin : List T} {args : List A} {Q : List T → T → Prop} (ha : args.length ≤ 41) (h : cW Try.prog 41 c_spec_l20Valid (retP Try.prog [.cell 2 33] rin.length Q) (St.of (enum 0 args) (enum 1000000000 rin))) :
    Fun Try.prog 227 rin args Q :=
  Fun.of (H := ⟨[], []⟩) Try.func227 rfl rfl rfl (by kernel_rfl) ha (by decide) h

def c_spec_l01Rises : CC :=
 (.seq (.reg [.o (.move 4 (cb false))])
 ((.seq (.seq (.reg [.o (.move 5 (ci 0))])
 ((.block 0 (.loop (.seq (.seq (.reg [.o (.move 6 (sl 5)),
 .o (.move 7 (sl 0)),
 .o (.lenS 8 (sl 7)),
 .o (.bin 9 .lss (sl 6) (sl 8))])
 ((.cond (sl 9) .skip
 (.exit 0))))
 ((.seq (.block 1 (.seq (.draw [] [(kR, .o (.move 12 (sl 0))),
 (kR, .o (.move 13 (sl 5))),
 (kR, .o (.idx 14 1 (sl 12) (sl 13))),
 (kR, .o (.load1 15 (sl 14))),
 (kR, .o (.move 16 (sl 1))),
 (kR, .o (.bin 17 .sub (sl 16) (ci 1))),
 (kR, .o (.call (some 18) (cf 148) [(sl 15), (ci 0), (sl 17)])),
 (kR, .o (.un 19 .not (sl 18))),
 (kR, .o (.move 20 (sl 19))),
 (kR, .g 20 false (some 21) (.move 21 (sl 5))),
 (kR, .g 20 false (some 22) (.bin 22 .gtr (sl 21) (ci 0))),
 (kR, .g 20 false (some 23) (.move 23 (sl 22))),
 (kR, .g 23 true (some 24) (.move 24 (sl 0))),
 (kR, .g 23 true (some 25) (.move 25 (sl 5))),
 (kR, .g 23 true (some 26) (.idx 26 1 (sl 24) (sl 25))),
 (kR, .g 23 true (some 27) (.load1 27 (sl 26))),
 (kR, .g 23 true (some 28) (.move 28 (sl 0))),
 (kR, .g 23 true (some 29) (.move 29 (sl 5))),
 (kR, .g 23 true (some 30) (.bin 30 .sub (sl 29) (ci 1))),
 (kR, .g 23 true (some 31) (.idx 31 1 (sl 28) (sl 30))),
 (kR, .g 23 true (some 32) (.load1 32 (sl 31))),
 (kR, .g 23 true (some 33) (.bin 33 .leq (sl 27) (sl 32))),
 (kR, .g 20 false (some 34) (.pick 34 (sl 23) (sl 33) (cb false))),
 (kR, .o (.pick 35 (sl 20) (cb true) (sl 34)))])
 ((.cond (sl 35) (.seq (.reg [.o (.move 4 (cb false))])
 (.ret))
 .skip))))
 ((.reg [.o (.move 10 (sl 5)),
 .o (.bin 11 .add (sl 10) (ci 1)),
 .o (.move 5 (sl 11))])))))))))
 ((.seq (.reg [.o (.move 4 (cb true))])
 (.ret))))))
theorem fun_spec_l01Rises {rin : List T} {args : List A} {Q : List T → T → Prop} (ha : args.length ≤ 36) (h : cW Try.prog 36 c_spec_l01Rises (retP Try.prog [.tmp 4] rin.length Q) (St.of (enum 0 args) (enum 1000000000 rin))) :
    Fun Try.prog 228 rin args Q :=
  Fun.of (H := ⟨[], []⟩) Try.func228 rfl rfl rfl (by kernel_rfl) ha (by decide) h

end Go.Ab

/- Contracts: whole numbers, IsMatrix. -/
set_option linter.unusedSimpArgs false
set_option linter.unusedVariables false
namespace Go.Ab
open Go.Proofs

theorem impl_within_ok (n lo hi : Int) : Pure Try.prog 110 [.i n, .i lo, .i hi] (.b (decide (lo ≤ n ∧ n ≤ hi))) := by
  refine fun_impl_within (by simp) ?_
  simp -implicitDefEqProofs only [c_impl_within, go_sem]
  refine ⟨fun h => ?_, fun h => ?_⟩
  · have : lo ≤ n := h
    simp [this]
  · have : ¬ lo ≤ n := h
    simp [this]

theorem impl_allWithin_ok (l : List Int) (lo hi : Int) (hl : l.length ≤ 1000000000000) : Pure Try.prog 176 [ints l, .i lo, .i hi] (.b (l.all fun x => decide (lo ≤ x ∧ x ≤ hi))) := by
  refine fun_impl_allWithin (by simp) ?_
  simp -implicitDefEqProofs only [c_impl_allWithin, ints, go_sem]
  refine SemC.loopR (σ := Nat) (fun i => St.of [(0, .t (ints l)), (1, .t (.i lo)), (2, .t (.i hi)), (6, .t (.b false)), (9, .t (ints l)), (10, .t (.i l.length)), (11, .t (.i i))] []) (fun i => i ≤ l.length ∧ ∀ x ∈ l.take i, lo ≤ x ∧ x ≤ hi) (fun i => l.length - i) 0 (Weak.of _ [] [] (by simp) (by simp) ?_ trivial) ⟨by simp, by simp⟩ fun i hI R hn hr he => ?_
  · simp -implicitDefEqProofs only [ints, wkR, Nat.reduceEqDiff, ↓reduceIte]
  · simp -implicitDefEqProofs only [ints, go_sem]
    refine ⟨fun h => ⟨by omega, by omega, by omega, fun c x hx hc => ?_⟩, fun h => he _ _ ?_⟩
    · subst hc
      rw [toNat_cast] at hx
      refine CallW.pure (impl_within_ok x lo hi) [] rfl Try.call110 ?_ ?_ rfl ?_
      · simp -implicitDefEqProofs only [vaR, go_sem]
      · trivial
      · simp -implicitDefEqProofs only [go_sem]
        refine ⟨fun h1 => hr _ ?_, fun h1 => hn _ (i + 1) (Weak.of _ [] [] (by simp) (by simp) ?_ trivial) ⟨by omega, take_succ_all hx hI.2 (by simpa using h1)⟩ (by omega)⟩
        · simp -implicitDefEqProofs only [go_sem]
          have : l.all (fun x => decide (lo ≤ x ∧ x ≤ hi)) = false := by
            rw [List.all_eq_false]
            exact ⟨x, List.mem_of_getElem? hx, by simp at h1 ⊢; omega⟩
          rw [this]
        · simp -implicitDefEqProofs only [ints, wkR, Nat.reduceEqDiff, ↓reduceIte, next64 (by omega : i < l.length) hl]
    · simp -implicitDefEqProofs only [go_sem]
      have : l.all (fun x => decide (lo ≤ x ∧ x ≤ hi)) = true := by
        rw [List.all_eq_true]
        intro x hx
        have := hI.2 x (by rw [List.take_of_length_le (by omega)]; exact hx)
        simpa using this
      rw [this]
end Go.Ab

/- Contracts: sizes, copies. -/
set_option linter.unusedSimpArgs false
set_option linter.unusedVariables false
namespace Go.Ab
open Go.Proofs

def filled {α : Type} (l : List α) (f : α → T) (z : T) (i : Nat) : List T := (l.take i).map f ++ List.replicate (l.length - i) z
theorem filled_length {α : Type} (l : List α) (f : α → T) (z : T) (i : Nat) (h : i ≤ l.length) : (filled l f z i).length = l.length := by
  simp [filled]; omega
theorem filled_set {α : Type} {l : List α} {f : α → T} {z : T} {i : Nat} {x : α} (h : l[i]? = some x) : (filled l f z i).set i (f x) = filled l f z (i + 1) := by
  obtain ⟨hi, rfl⟩ := List.getElem?_eq_some_iff.1 h
  refine List.ext_getElem? fun j => ?_
  simp only [filled, List.getElem?_set, List.getElem?_append, List.length_map, List.length_take, List.length_append, List.length_replicate, List.getElem?_map, List.getElem?_take, List.getElem?_replicate, Nat.min_eq_left (Nat.le_of_lt hi), Nat.min_eq_left hi]
  by_cases hj : i = j
  · subst hj
    simp [hi]
    omega
  · by_cases h1 : j < i
    · simp [hj, h1, show j < i + 1 by omega]
    · simp only [hj, h1, show ¬ j < i + 1 by omega, if_false]
      by_cases h2 : j < l.length
      · rw [if_pos (by omega), if_pos (by omega)]
      · rw [if_neg (by omega), if_neg (by omega)]
theorem filled_zero {α : Type} (l : List α) (f : α → T) (z : T) : filled l f z 0 = List.replicate l.length z := by simp [filled]
theorem filled_all {α : Type} (l : List α) (f : α → T) (z : T) : filled l f z l.length = l.map f := by simp [filled]
theorem made_one (z : T) (n : Nat) : made [z] n = List.replicate n z := rfl

end Go.Ab

/- Contracts: IsMatrix. -/
set_option linter.unusedSimpArgs false
set_option linter.unusedVariables false
namespace Go.Ab
open Go.Proofs

theorem spec_l01In_ok (n lo hi : Int) : Pure Try.prog 148 [.i n, .i lo, .i hi] (.b (decide (lo ≤ n ∧ n ≤ hi))) := by
  refine fun_spec_l01In (by simp) ?_
  simp -implicitDefEqProofs only [c_spec_l01In, go_sem]
  refine ⟨fun h => ?_, fun h => ?_⟩
  · have : lo ≤ n := h
    simp [this]
  · have : ¬ lo ≤ n := h
    simp [this]

end Go.Ab

/- Contracts: increasing numbers, depths of trees. -/
set_option linter.unusedSimpArgs false
set_option linter.unusedVariables false
namespace Go.Ab
open Go.Proofs

theorem incr_iff {l : List Int} : incr l = true ↔ ∀ i, i + 1 < l.length → l.getD i 0 < l.getD (i + 1) 0 := by
  induction l with
  | nil => simp [incr]
  | cons a l ih =>
    cases l with
    | nil => simp [incr]
    | cons b l =>
      rw [incr, Bool.and_eq_true, decide_eq_true_eq, ih]
      constructor
      · rintro ⟨h1, h2⟩ i hi
        cases i with
        | zero => simpa using h1
        | succ i => simpa using h2 i (by simpa using hi)
      · intro h
        refine ⟨by simpa using h 0 (by simp), fun i hi => ?_⟩
        simpa using h (i + 1) (by simpa using hi)
theorem getD_of {l : List Int} {i : Nat} {x : Int} (h : l[i]? = some x) : l.getD i 0 = x := by rw [List.getD_eq_getElem?_getD, h]; rfl
theorem nd_of {l : List Nd} {i : Nat} {x : Nd} (h : l[i]? = some x) : l.getD i nd0 = x := by rw [List.getD_eq_getElem?_getD, h]; rfl
theorem pred64 {i : Nat} (h : 1 ≤ i) (hi : i ≤ 1000000000000) : IntKind.i64.wrap ((i : Int) - 1) = ((i - 1 : Nat) : Int) := by rw [wrap64 (by omega) (by omega)]; omega

theorem impl_increasing_ok (l : List Int) (hl : l.length ≤ 1000000000000) : Pure Try.prog 212 [ints l] (.b (incr l)) := by
  refine fun_impl_increasing (by simp) ?_
  simp -implicitDefEqProofs only [go_sem, evR, ints, rows, rat, rats, c_impl_increasing]
  refine SemC.loopR (σ := Nat) (fun i => St.of [(0, .t (ints l)), (3, .t (.i i))] []) (fun i => 1 ≤ i ∧ ∀ j, j + 1 < i → j + 1 < l.length → l.getD j 0 < l.getD (j + 1) 0) (fun i => l.length - i) 1 (Weak.of _ [] [] (by simp) (by simp) ?_ trivial) ⟨by omega, fun j hj => by omega⟩ fun i hI R hn hr he => ?_
  · simp -implicitDefEqProofs only [ints, rows, wkR, Nat.reduceEqDiff, ↓reduceIte]
  · simp -implicitDefEqProofs only [go_sem, evR, ints, rows, rat, rats]
    refine ⟨fun h => ?_, fun h => he _ _ ?_⟩
    · have hil : i < l.length := by omega
      rw [pred64 hI.1 (by omega)]
      obtain ⟨x, hx⟩ : ∃ x, l[i - 1]? = some x := ⟨_, List.getElem?_eq_getElem (by omega)⟩
      obtain ⟨y, hy⟩ : ∃ y, l[i]? = some y := ⟨_, List.getElem?_eq_getElem (by omega)⟩
      simp -implicitDefEqProofs only [go_sem, evR, ints, rows, rat, rats, hx, hy, toNat_cast]
      refine ⟨by omega, by omega, by omega, by omega, by omega, by omega, fun h1 => hr _ ?_, fun h1 => hn _ (i + 1) (Weak.of _ [] [] (by simp) (by simp) ?_ trivial) ⟨by omega, fun j hj hjl => ?_⟩ (by omega)⟩
      · simp -implicitDefEqProofs only [go_sem, evR, ints, rows, rat, rats]
        have : incr l = false := by
          cases hc : incr l with
          | false => rfl
          | true =>
            have := incr_iff.1 hc (i - 1) (by omega)
            rw [show i - 1 + 1 = i by omega, getD_of hx, getD_of hy] at this
            omega
        rw [this]
      · simp -implicitDefEqProofs only [ints, rows, wkR, Nat.reduceEqDiff, ↓reduceIte, next64 hil hl]
      · by_cases hji : j + 1 = i
        · have e : j = i - 1 := by omega
          rw [hji, e, getD_of hx, getD_of hy]; omega
        · exact hI.2 j (by omega) hjl
    · simp -implicitDefEqProofs only [go_sem, evR, ints, rows, rat, rats]
      have : incr l = true := incr_iff.2 fun j hj => hI.2 j (by omega) hj
      rw [this]

theorem spec_l01Rises_ok (l : List Int) (n : Nat) (hl : l.length ≤ 1000000000000) (hn0 : n ≤ 1000000000000) : Pure Try.prog 228 [ints l, .i n] (.b (rises n l)) := by
  have hw : IntKind.i64.wrap ((n : Int) - 1) = (n : Int) - 1 := wrap64 (by omega) (by omega)
  refine fun_spec_l01Rises (by simp) ?_
  simp -implicitDefEqProofs only [go_sem, evR, ints, rows, rat, rats, c_spec_l01Rises]
  refine SemC.loopR (σ := Nat) (fun i => St.of [(0, .t (ints l)), (1, .t (.i n)), (5, .t (.i i))] []) (fun i => i ≤ l.length ∧ (∀ c ∈ l.take i, 0 ≤ c ∧ c ≤ (n : Int) - 1) ∧ ∀ j, j + 1 < i → j + 1 < l.length → l.getD j 0 < l.getD (j + 1) 0) (fun i => l.length - i) 0 (Weak.of _ [] [] (by simp) (by simp) ?_ trivial) ⟨by simp, by simp, fun j hj => by omega⟩ fun i hI R hn hr he => ?_
  · simp -implicitDefEqProofs only [ints, rows, wkR, Nat.reduceEqDiff, ↓reduceIte]
  · obtain ⟨hi, h2, h3⟩ := hI
    simp -implicitDefEqProofs only [go_sem, evR, ints, rows, rat, rats, hw]
    refine ⟨fun h => ?_, fun h => he _ _ ?_⟩
    · have hil : i < l.length := by omega
      obtain ⟨y, hy⟩ : ∃ y, l[i]? = some y := ⟨_, List.getElem?_eq_getElem hil⟩
      refine ⟨by omega, by omega, by omega, fun y' hy' => ?_⟩
      rw [hy] at hy'; cases hy'
      refine CallV.pure (spec_l01In_ok y 0 ((n : Int) - 1)) [] rfl Try.call148 (fun e R' hR => ?_) (by first | trivial | simp [T.noSh, T.noShL, rat]) (fun _ => rfl) ?_
      · simp -implicitDefEqProofs only [agR, Nat.reduceLeDiff, Nat.reduceSub, vaR, go_sem, ints, rows, rat, rats, ratsO, rtR, intsO, rowsO]
      simp -implicitDefEqProofs only [go_sem, evR, ints, rows, rat, rats]
      have next : 0 ≤ y ∧ y ≤ (n : Int) - 1 → ∀ c ∈ l.take (i + 1), 0 ≤ c ∧ c ≤ (n : Int) - 1 := fun hy1 c hc => by
        rw [List.take_add_one, hy] at hc
        rcases List.mem_append.1 hc with hc | hc
        · exact h2 c hc
        · simp at hc; rw [hc]; exact hy1
      refine ⟨fun h1 => ⟨fun h4 => ?_, fun h4 => ?_⟩, fun h1 => hr _ ?_⟩
      · have h1 : 0 ≤ y ∧ y ≤ (n : Int) - 1 := by simpa using h1
        have hi1 : 1 ≤ i := by omega
        obtain ⟨x, hx⟩ : ∃ x, l[i - 1]? = some x := ⟨_, List.getElem?_eq_getElem (by omega)⟩
        rw [pred64 hi1 (by omega)]
        simp -implicitDefEqProofs only [go_sem, evR, ints, rows, rat, rats, hx, hy, toNat_cast]
        refine ⟨by omega, by omega, by omega, by omega, by omega, by omega, fun h5 => hr _ ?_, fun h5 => hn _ (i + 1) (Weak.of _ [] [] (by simp) (by simp) ?_ trivial) ⟨by omega, next h1, fun j hj hjl => ?_⟩ (by omega)⟩
        · simp -implicitDefEqProofs only [go_sem, evR, ints, rows, rat, rats]
          have : rises n l = false := by
            cases hc : rises n l with
            | false => rfl
            | true =>
              rw [rises, Bool.and_eq_true] at hc
              have := incr_iff.1 hc.2 (i - 1) (by omega)
              rw [show i - 1 + 1 = i by omega, getD_of hx, getD_of hy] at this
              omega
          rw [this]
        · simp -implicitDefEqProofs only [ints, rows, wkR, Nat.reduceEqDiff, ↓reduceIte, next64 hil hl]
        · by_cases hji : j + 1 = i
          · have e : j = i - 1 := by omega
            rw [hji, e, getD_of hx, getD_of hy]; omega
          · exact h3 j (by omega) hjl
      · have h1 : 0 ≤ y ∧ y ≤ (n : Int) - 1 := by simpa using h1
        refine hn _ (i + 1) (Weak.of _ [] [] (by simp) (by simp) ?_ trivial) ⟨by omega, next h1, fun j hj hjl => h3 j (by omega) hjl⟩ (by omega)
        simp -implicitDefEqProofs only [ints, rows, wkR, Nat.reduceEqDiff, ↓reduceIte, next64 hil hl]
      · simp -implicitDefEqProofs only [go_sem, evR, ints, rows, rat, rats]
        have h1 : ¬ (0 ≤ y ∧ y ≤ (n : Int) - 1) := by
          have h1 : y < 0 ∨ (n : Int) - 1 < y := by simpa using h1
          omega
        have : rises n l = false := by
          cases hc : rises n l with
          | false => rfl
          | true =>
            rw [rises, Bool.and_eq_true, List.all_eq_true] at hc
            have := hc.1 y (List.mem_of_getElem? hy)
            exact absurd (by simpa using this) h1
        rw [this]
    · simp -implicitDefEqProofs only [go_sem, evR, ints, rows, rat, rats]
      have : rises n l = true := by
        rw [rises, Bool.and_eq_true, List.all_eq_true]
        refine ⟨fun c hc => by have := h2 c (by rw [List.take_of_length_le (by omega)]; exact hc); simpa using this, incr_iff.2 fun j hj => h3 j (by omega) hj⟩
      rw [this]
end Go.Ab

/- Contracts: impl.IsMatrix. -/
set_option linter.unusedSimpArgs false
set_option linter.unusedVariables false
namespace Go.Ab
open Go.Proofs

end Go.Ab

/- Contracts: impl.IsMatrix. -/
set_option linter.unusedSimpArgs false
set_option linter.unusedVariables false
namespace Go.Ab
open Go.Proofs

end Go.Ab

/- Contracts: copies of rows, least and greatest numbers, marks. -/
set_option linter.unusedSimpArgs false
set_option linter.unusedVariables false
namespace Go.Ab
open Go.Proofs

theorem spec_l01Own_ok (l : List Int) (hl : l.length ≤ 1000000000000) : Fun Try.prog 167 [] [.t (ints l)] fun o r => o = [] ∧ r = intsO l := by
  refine fun_spec_l01Own (by simp) ?_
  simp -implicitDefEqProofs only [c_spec_l01Own, ints, go_sem]
  exact ⟨by omega, rfl⟩

theorem slices_Clone_ok (l : List Int) (hl : l.length ≤ 1000000000000) : Fun Try.prog 197 [] [.t (ints l)] fun o r => o = [] ∧ r = intsO l := by
  refine Fun.le (Q := fun o r => o = [] ∧ (r = intsO l ∨ (l = [] ∧ r = .v (.slice none 0 0)))) ?_ ?_
  · refine fun_slices_Clone___int64_int64_ (by simp) ?_
    simp -implicitDefEqProofs only [c_slices_Clone___int64_int64_, ints, go_sem]
    intro b hb
    exact ⟨fun h => .inr (by simpa using hb h), fun _ => ⟨by omega, .inl rfl⟩⟩
  · rintro o r ⟨rfl, rfl | ⟨rfl, rfl⟩⟩
    · exact ⟨_, .refl _, rfl, rfl⟩
    · exact ⟨_, .nilArr 1, rfl, rfl⟩

theorem take_snoc {α : Type} {l : List α} {i : Nat} {x : α} (h : l[i]? = some x) : l.take (i + 1) = l.take i ++ [x] := by
  rw [List.take_add_one, h]; rfl

def marks : Nat → Int → List Int
  | 0, _ => []
  | n + 1, k => k :: marks n (k + 1)
def held : List Int → Int → Int
  | [], k => k
  | x :: l, k => if x = k then held l (k + 1) else -1
end Go.Ab

/- Contracts: depths of trees. -/
set_option linter.unusedSimpArgs false
set_option linter.unusedVariables false
namespace Go.Ab
open Go.Proofs

def depI (l : List Nd) (f : Nat) (cs : List Int) : Int := cs.foldl (fun d c => max d (dep l f c.toNat)) 0
theorem depI_snoc (l : List Nd) (f : Nat) (cs : List Int) (c : Int) : depI l f (cs ++ [c]) = max (depI l f cs) (dep l f c.toNat) := by simp [depI, List.foldl_append]
theorem depI_bound (l : List Nd) (f : Nat) : ∀ cs : List Int, 0 ≤ depI l f cs ∧ depI l f cs ≤ f := by
  intro cs
  have key : ∀ (cs : List Int) (d : Int), 0 ≤ d ∧ d ≤ f → 0 ≤ cs.foldl (fun d c => max d (dep l f c.toNat)) d ∧ cs.foldl (fun d c => max d (dep l f c.toNat)) d ≤ f := by
    intro cs
    induction cs with
    | nil => intro d h; exact h
    | cons c cs ih =>
      intro d h
      rw [List.foldl_cons]
      have := dep_nonneg (l := l) f c.toNat
      exact ih _ (by omega)
  exact key cs 0 (by omega)
theorem dep_succ {l : List Nd} {f i : Nat} {x : Nd} (hx : l[i]? = some x) : dep l (f + 1) i = if x.p = 2 then 0 else depI l f x.ch + 1 := by
  have := nd_of hx
  unfold nd0 at this
  rw [dep, this]; rfl

theorem impl_depthFrom_ok {l : List Nd} (hl : ndsOK l) (hln : l.length ≤ 1000000) : ∀ (f i : Nat), l.length ≤ i + f → i < l.length → f ≤ 1000000 → Pure Try.prog 164 [treeT l, .i i] (.i (dep l f i)) := by
  intro f
  induction f with
  | zero => intro i h1 h2; omega
  | succ f ih =>
    intro i h1 h2 hf
    obtain ⟨x, hx⟩ : ∃ x, l[i]? = some x := ⟨_, List.getElem?_eq_getElem h2⟩
    rw [dep_succ hx]
    refine fun_impl_depthFrom (by simp) ?_
    simp -implicitDefEqProofs only [go_sem, evR, ints, rows, rat, rats, c_impl_depthFrom, treeT, nodes, nd_at hx]
    refine ⟨by omega, by rw [nd_len]; omega, by rw [nd_len]; omega, ?_⟩
    refine ⟨fun h => ?_, fun h => ?_⟩
    · rw [if_pos (by simpa using h)]
    · have hp : x.p ≠ 2 := by simpa using h
      rw [if_neg hp]
      have hch := ndOK_child (hl i x hx)
      have hcl := (ndOK_fields (hl i x hx)).2.2.2.2.2
      refine SemC.loopR (σ := Nat) (fun k => St.of [(2, .own 2), (6, .t (.i (depI l f (x.ch.take k)))), (18, .t (ints x.ch)), (19, .t (.i x.ch.length)), (20, .t (.i k))] [(2, .box [nodes l])]) (fun k => k ≤ x.ch.length) (fun k => x.ch.length - k) 0 (Weak.of _ _ [some 2] (by simp) (by simp) ?_ ?_) (by simp) fun k hk R hn hr he => ?_
      · simp -implicitDefEqProofs only [ints, rows, Nat.reduceBEq, wkR, Nat.reduceEqDiff, ↓reduceIte, wrR, depI, List.take_zero, List.foldl_nil]
      · exact ⟨⟨_, rfl, .refl _⟩, rfl, trivial⟩
      · simp -implicitDefEqProofs only [go_sem, evR, ints, rows, rat, rats, nodes]
        refine ⟨fun h => ⟨by omega, by omega, by omega, fun c hc => ?_⟩, fun h => he _ _ ?_⟩
        · have hcb := hch c (List.mem_of_getElem? hc)
          have hpure := ih c.toNat (by omega) (by omega) (by omega)
          rw [show ((c.toNat : Nat) : Int) = c by omega] at hpure
          simp only [treeT, nodes] at hpure
          refine CallW.pure hpure [] rfl Try.call164 ?_ (by first | trivial | simp [T.noSh, T.noShL, rat]) rfl ?_
          · simp -implicitDefEqProofs only [agR, Nat.reduceLeDiff, Nat.reduceSub, vaR, go_sem, ints, rows, rat, rats, ratsO, rtR, intsO, rowsO]
          simp -implicitDefEqProofs only [go_sem, evR, ints, rows, rat, rats, treeT, nodes]
          have e := depI_snoc l f (x.ch.take k) c
          rw [← take_snoc hc] at e
          refine hn _ (k + 1) (Weak.of _ _ [some 2] (by simp) (by simp) ?_ ?_) (by omega) (by omega)
          · simp -implicitDefEqProofs only [ints, rows, Nat.reduceBEq, wkR, Nat.reduceEqDiff, ↓reduceIte, wrR, next64 (by omega : k < x.ch.length) (by omega), e]
          · exact ⟨⟨_, rfl, .refl _⟩, rfl, trivial⟩
        · simp -implicitDefEqProofs only [go_sem, evR, ints, rows, rat, rats]
          have hb := depI_bound l f x.ch
          rw [show k = x.ch.length by omega, List.take_length, wrap64 (by omega) (by omega)]

theorem spec_l20Depth_ok {l : List Nd} (hl : ndsOK l) (hln : l.length ≤ 1000000) : ∀ (f i : Nat), l.length ≤ i + f → i < l.length → f ≤ 1000000 → Pure Try.prog 158 [treeT l, .i i] (.i (dep l f i)) := by
  intro f
  induction f with
  | zero => intro i h1 h2; omega
  | succ f ih =>
    intro i h1 h2 hf
    obtain ⟨x, hx⟩ : ∃ x, l[i]? = some x := ⟨_, List.getElem?_eq_getElem h2⟩
    rw [dep_succ hx]
    refine fun_spec_l20Depth (by simp) ?_
    simp -implicitDefEqProofs only [go_sem, evR, ints, rows, rat, rats, c_spec_l20Depth, treeT, nodes, nd_at hx]
    refine ⟨by omega, by rw [nd_len]; omega, by rw [nd_len]; omega, ?_⟩
    refine ⟨fun h => ?_, fun h => ?_⟩
    · rw [if_pos (by simpa using h)]
    · have hp : x.p ≠ 2 := by simpa using h
      rw [if_neg hp]
      have hch := ndOK_child (hl i x hx)
      have hcl := (ndOK_fields (hl i x hx)).2.2.2.2.2
      refine SemC.loopR (σ := Nat) (fun k => St.of [(2, .own 2), (5, .own 5), (6, .t (.i (depI l f (x.ch.take k)))), (7, .t (.i k))] [(2, .box [nodes l]), (5, .box [.i x.p, .i x.a, .i x.b, .i x.f, ints x.ch])]) (fun k => k ≤ x.ch.length) (fun k => x.ch.length - k) 0 (Weak.of _ _ [some 2, some 5] (by simp) (by simp) ?_ ?_) (by simp) fun k hk R hn hr he => ?_
      · simp -implicitDefEqProofs only [ints, rows, Nat.reduceBEq, wkR, Nat.reduceEqDiff, ↓reduceIte, wrR, depI, List.take_zero, List.foldl_nil]
      · exact ⟨⟨_, rfl, .refl _⟩, rfl, ⟨_, rfl, .refl _⟩, rfl, trivial⟩
      · simp -implicitDefEqProofs only [go_sem, evR, ints, rows, rat, rats, nodes]
        refine ⟨fun h => ⟨by omega, by omega, by omega, fun c hc => ?_⟩, fun h => he _ _ ?_⟩
        · have hcb := hch c (List.mem_of_getElem? hc)
          have hpure := ih c.toNat (by omega) (by omega) (by omega)
          rw [show ((c.toNat : Nat) : Int) = c by omega] at hpure
          simp only [treeT, nodes] at hpure
          refine CallV.pure hpure [] rfl Try.call158 (fun e R' hR => ?_) (by first | trivial | simp [T.noSh, T.noShL, rat]) (fun _ => rfl) ?_
          · simp -implicitDefEqProofs only [agR, Nat.reduceLeDiff, Nat.reduceSub, vaR, go_sem, ints, rows, rat, rats, ratsO, rtR, intsO, rowsO]
          simp -implicitDefEqProofs only [go_sem, evR, ints, rows, rat, rats, treeT, nodes]
          have e := depI_snoc l f (x.ch.take k) c
          rw [← take_snoc hc] at e
          refine hn _ (k + 1) (Weak.of _ _ [some 2, some 5] (by simp) (by simp) ?_ ?_) (by omega) (by omega)
          · simp -implicitDefEqProofs only [ints, rows, Nat.reduceBEq, wkR, Nat.reduceEqDiff, ↓reduceIte, wrR, next64 (by omega : k < x.ch.length) (by omega), e]
          · exact ⟨⟨_, rfl, .refl _⟩, rfl, ⟨_, rfl, .refl _⟩, rfl, trivial⟩
        · simp -implicitDefEqProofs only [go_sem, evR, ints, rows, rat, rats]
          have hb := depI_bound l f x.ch
          rw [show k = x.ch.length by omega, List.take_length, wrap64 (by omega) (by omega)]
end Go.Ab

/- Contracts: valid trees, the program's. -/
set_option linter.unusedSimpArgs false
set_option linter.unusedVariables false
namespace Go.Ab
open Go.Proofs

theorem isTreeB_nd {l : List Nd} {i : Nat} {x : Nd} (hx : l[i]? = some x) (h : ndOK l.length i x = false) : isTreeB l = false := by
  cases hc : isTreeB l with
  | false => rfl
  | true =>
    have := (isTreeB_spec hc).2.1 i x hx
    rw [h] at this; cases this
theorem isTreeB_occ {l : List Nd} {i : Nat} (hi : i < l.length) (h1 : 1 ≤ i) (h : occ i l ≠ 1) : isTreeB l = false := by
  cases hc : isTreeB l with
  | false => rfl
  | true => rcases (isTreeB_spec hc).2.2.1 i hi with h2 | h2 <;> omega
theorem isTreeB_len {l : List Nd} (h : ¬ (1 ≤ l.length ∧ l.length ≤ 60)) : isTreeB l = false := by
  cases hc : isTreeB l with
  | false => rfl
  | true => exact absurd (isTreeB_spec hc).1 h
theorem isTreeB_fin {l : List Nd} (h1 : 1 ≤ l.length ∧ l.length ≤ 60) (h2 : ndsOK l) (h3 : ∀ i, i < l.length → i = 0 ∨ occ i l = 1) : isTreeB l = decide (dep l l.length 0 ≤ 5) := by
  rw [isTreeB, decide_eq_true h1, (ndsOK_iff l).2 h2]
  have : ((List.range l.length).all fun i => decide (i = 0 ∨ occ i l = 1)) = true := by
    rw [List.all_eq_true]
    intro i hi
    simpa using h3 i (List.mem_range.1 hi)
  rw [this]; simp
theorem ndOK_incr {n i : Nat} {x : Nd} (h : ndOK n i x = true) (hp : x.p ≠ 2) : incr x.ch = true := by
  simp only [ndOK, Bool.and_eq_true] at h
  have h2 := h.2
  rw [if_neg hp] at h2
  simp only [Bool.and_eq_true] at h2
  exact h2.2
theorem ndOK_no {n i : Nat} {x : Nd} (h : ndOK n i x = true → False) : ndOK n i x = false := by
  cases hc : ndOK n i x with
  | false => rfl
  | true => exact (h hc).elim
theorem ndOK_end {n i : Nat} {x : Nd} (h1 : 0 ≤ x.p ∧ x.p ≤ 2) (h2 : 0 ≤ x.a ∧ x.a ≤ 100) (h3 : 0 ≤ x.b ∧ x.b ≤ 100) (hp : x.p = 2) (h4 : x.ch.length = 0) (h5 : -1 ≤ x.f ∧ x.f ≤ 1) (h6 : x.f = -1 → x.a = x.b) : ndOK n i x = true := by
  rw [ndOK, decide_eq_true h1, decide_eq_true h2, decide_eq_true h3, if_pos hp, decide_eq_true (List.length_eq_zero_iff.1 h4), decide_eq_true h5]
  by_cases hf : x.f = -1
  · simp [h6 hf]
  · simp [hf]
theorem ndOK_dec {n i : Nat} {x : Nd} (h1 : 0 ≤ x.p ∧ x.p ≤ 2) (h2 : 0 ≤ x.a ∧ x.a ≤ 100) (h3 : 0 ≤ x.b ∧ x.b ≤ 100) (hp : x.p ≠ 2) (h4 : x.f = -1) (h5 : 1 ≤ x.ch.length ∧ x.ch.length ≤ 4) (h6 : (x.ch.all fun c => decide ((i : Int) + 1 ≤ c ∧ c ≤ (n : Int) - 1)) = true) (h7 : incr x.ch = true) : ndOK n i x = true := by
  rw [ndOK, decide_eq_true h1, decide_eq_true h2, decide_eq_true h3, if_neg hp, decide_eq_true h4, decide_eq_true h5, h6, h7]; rfl

theorem occ_le' (c : Nat) : ∀ (m : List Nd), (∀ x ∈ m, x.ch.length ≤ 4) → occ c m ≤ m.length * 4
  | [], _ => by simp [occ]
  | x :: m, hm => by
    have h1 := occ_le' c m fun y hy => hm y (by simp [hy])
    have h2 := hm x (by simp)
    have e : occ c (x :: m) = (if x.p = 2 then 0 else x.ch.count (c : Int)) + occ c m := by simp [occ]
    have h3 : (if x.p = 2 then 0 else x.ch.count (c : Int)) ≤ 4 := by
      split
      · omega
      · exact Nat.le_trans (List.count_le_length) h2
    rw [e, List.length_cons]; omega
theorem impl_IsTree_ok (l : List Nd) (hl : l.length ≤ 9223372036854775807) (hcl : ∀ x ∈ l, x.ch.length ≤ 9223372036854775807) : Pure Try.prog 175 [treeT l] (.b (isTreeB l)) := by
  refine fun_impl_IsTree (by simp) ?_
  simp -implicitDefEqProofs only [go_sem, evR, ints, rows, rat, rats, c_impl_IsTree, treeT, nodes]
  refine CallW.pure (impl_within_ok l.length 1 60) [] rfl Try.call110 ?_ (by first | trivial | simp [T.noSh, T.noShL, rat]) rfl ?_
  · simp -implicitDefEqProofs only [agR, Nat.reduceLeDiff, Nat.reduceSub, vaR, go_sem, ints, rows, rat, rats, ratsO, rtR, intsO, rowsO]
  simp -implicitDefEqProofs only [go_sem, evR, ints, rows, rat, rats]
  refine ⟨fun h => ?_, fun h => ?_⟩
  · rw [isTreeB_len (by simp at h; omega)]
  · have hn : 1 ≤ l.length ∧ l.length ≤ 60 := by simp at h; omega
    refine ⟨by omega, by omega, ?_⟩
    refine SemC.loopR (σ := Nat) (fun i => St.of [(1, .own 1), (3, .t (.i l.length)), (4, .own 18), (20, .t (nodes l)), (21, .t (.i l.length)), (22, .t (.i i))] [(1, .box [nodes l]), (18, .arr 1 ((cntV l l.length i 0).map T.i))]) (fun i => i ≤ l.length ∧ ∀ j x, j < i → l[j]? = some x → ndOK l.length j x = true) (fun i => l.length - i) 0 (Weak.of _ _ [some 1, some 18] (by simp) (by simp) ?_ ?_) ⟨by simp, fun j x hj => by omega⟩ fun i hI R hn' hr he => ?_
    · simp -implicitDefEqProofs only [ints, rows, Nat.reduceBEq, wkR, Nat.reduceEqDiff, ↓reduceIte, wrR, nodes]
    · exact ⟨⟨_, rfl, .refl _⟩, rfl, ⟨_, rfl, by rw [made_one, cntV_zero, List.map_replicate]; exact .refl _⟩, rfl, trivial⟩
    · obtain ⟨hi, hOK⟩ := hI
      simp -implicitDefEqProofs only [go_sem, evR, ints, rows, rat, rats, nodes]
      refine ⟨fun h => ?_, fun h => he _ _ ?_⟩
      · have hil : i < l.length := by omega
        obtain ⟨x, hx⟩ : ∃ x, l[i]? = some x := ⟨_, List.getElem?_eq_getElem hil⟩
        have hwi : IntKind.i64.wrap ((i : Int) + 1) = (i : Int) + 1 := wrap64 (by omega) (by omega)
        have hwn : IntKind.i64.wrap ((l.length : Int) - 1) = (l.length : Int) - 1 := wrap64 (by omega) (by omega)
        have hno : (ndOK l.length i x = true → False) → isTreeB l = false := fun h => isTreeB_nd hx (ndOK_no h)
        have hxc := hcl x (List.mem_of_getElem? hx)
        refine ⟨by omega, by rw [nd_len]; omega, by rw [nd_len]; omega, ?_⟩
        rw [nd_at hx]
        simp -implicitDefEqProofs only [go_sem, evR, ints, rows, rat, rats]
        refine CallW.pure (impl_within_ok x.p 0 2) [] rfl Try.call110 ?_ (by first | trivial | simp [T.noSh, T.noShL, rat]) rfl ?_
        · simp -implicitDefEqProofs only [agR, Nat.reduceLeDiff, Nat.reduceSub, vaR, go_sem, ints, rows, rat, rats, ratsO, rtR, intsO, rowsO]
        simp -implicitDefEqProofs only [go_sem, evR, ints, rows, rat, rats]
        refine ⟨fun h1 => ?_, fun h1 => hr _ ?_⟩
        rotate_left
        · simp -implicitDefEqProofs only [go_sem, evR, ints, rows, rat, rats]
          rw [hno fun hok => by have := (ndOK_fields hok).1; simp at h1; omega]
        have h1 : 0 ≤ x.p ∧ x.p ≤ 2 := by simpa using h1
        refine CallW.pure (impl_within_ok x.a 0 100) [] rfl Try.call110 ?_ (by first | trivial | simp [T.noSh, T.noShL, rat]) rfl ?_
        · simp -implicitDefEqProofs only [agR, Nat.reduceLeDiff, Nat.reduceSub, vaR, go_sem, ints, rows, rat, rats, ratsO, rtR, intsO, rowsO]
        simp -implicitDefEqProofs only [go_sem, evR, ints, rows, rat, rats]
        refine ⟨fun h2 => ?_, fun h2 => hr _ ?_⟩
        rotate_left
        · simp -implicitDefEqProofs only [go_sem, evR, ints, rows, rat, rats]
          rw [hno fun hok => by have := (ndOK_fields hok).2.1; simp at h2; omega]
        have h2 : 0 ≤ x.a ∧ x.a ≤ 100 := by simpa using h2
        refine CallW.pure (impl_within_ok x.b 0 100) [] rfl Try.call110 ?_ (by first | trivial | simp [T.noSh, T.noShL, rat]) rfl ?_
        · simp -implicitDefEqProofs only [agR, Nat.reduceLeDiff, Nat.reduceSub, vaR, go_sem, ints, rows, rat, rats, ratsO, rtR, intsO, rowsO]
        simp -implicitDefEqProofs only [go_sem, evR, ints, rows, rat, rats]
        refine ⟨fun h3 => hr _ ?_, fun h3 => ⟨fun h4 => ⟨fun h5 => ?_, fun h5 => hr _ ?_⟩, fun h4 => ⟨fun h5 => ?_, fun h5 => hr _ ?_⟩⟩⟩
        · simp -implicitDefEqProofs only [go_sem, evR, ints, rows, rat, rats]
          rw [hno fun hok => by have := (ndOK_fields hok).2.2.1; simp at h3; omega]
        · -- the end of a way
          have h3 : 0 ≤ x.b ∧ x.b ≤ 100 := by simpa using h3
          have h4 : x.p = 2 := by simpa using h4
          refine CallW.pure (impl_within_ok x.f (-1) 1) [] rfl Try.call110 ?_ (by first | trivial | simp [T.noSh, T.noShL, rat]) rfl ?_
          · simp -implicitDefEqProofs only [agR, Nat.reduceLeDiff, Nat.reduceSub, vaR, go_sem, ints, rows, rat, rats, ratsO, rtR, intsO, rowsO]
          simp -implicitDefEqProofs only [go_sem, evR, ints, rows, rat, rats]
          have hnext : ndOK l.length i x = true → ∀ j y, j < i + 1 → l[j]? = some y → ndOK l.length j y = true := fun hok j y hj hy => by
            by_cases hji : j = i
            · subst hji; rw [hx] at hy; cases hy; exact hok
            · exact hOK j y (by omega) hy
          refine ⟨fun h6 => ⟨fun h7 => ⟨fun h8 => hr _ ?_, fun h8 => ?_⟩, fun h7 => ?_⟩, fun h6 => hr _ ?_⟩
          · simp -implicitDefEqProofs only [go_sem, evR, ints, rows, rat, rats]
            rw [hno fun hok => by have := ((ndOK_fields hok).2.2.2.1 h4).2.2.2 (by simpa using h7); simp [this] at h8]
          · refine hn' _ (i + 1) (Weak.of _ _ [some 1, some 18] (by simp) (by simp) ?_ ?_) ⟨by omega, hnext (ndOK_end h1 h2 h3 h4 (by omega) (by simpa using h6) fun _ => by simpa using h8)⟩ (by omega)
            · simp -implicitDefEqProofs only [ints, rows, Nat.reduceBEq, wkR, Nat.reduceEqDiff, ↓reduceIte, wrR, nodes, next64 hil (by omega)]
            · exact ⟨⟨_, rfl, .refl _⟩, rfl, ⟨_, rfl, by rw [cntV_skip hx (List.length_eq_zero_iff.1 (by omega))]; exact .refl _⟩, rfl, trivial⟩
          · refine hn' _ (i + 1) (Weak.of _ _ [some 1, some 18] (by simp) (by simp) ?_ ?_) ⟨by omega, hnext (ndOK_end h1 h2 h3 h4 (by omega) (by simpa using h6) fun hf => by simp [hf] at h7)⟩ (by omega)
            · simp -implicitDefEqProofs only [ints, rows, Nat.reduceBEq, wkR, Nat.reduceEqDiff, ↓reduceIte, wrR, nodes, next64 hil (by omega)]
            · exact ⟨⟨_, rfl, .refl _⟩, rfl, ⟨_, rfl, by rw [cntV_skip hx (List.length_eq_zero_iff.1 (by omega))]; exact .refl _⟩, rfl, trivial⟩
          · simp -implicitDefEqProofs only [go_sem, evR, ints, rows, rat, rats]
            rw [hno fun hok => by have := (ndOK_fields hok).2.2.2.1 h4; simp at h6; omega]
        · simp -implicitDefEqProofs only [go_sem, evR, ints, rows, rat, rats]
          rw [hno fun hok => by have := (ndOK_fields hok).2.2.2.1 (by simpa using h4); rw [this.1] at h5; simp at h5]
        · -- a decision
          have h3 : 0 ≤ x.b ∧ x.b ≤ 100 := by simpa using h3
          have h4 : ¬ x.p = 2 := by simpa using h4
          have h5 : x.f = -1 := by simpa using h5
          refine CallW.pure (impl_within_ok x.ch.length 1 4) [] rfl Try.call110 ?_ (by first | trivial | simp [T.noSh, T.noShL, rat]) rfl ?_
          · simp -implicitDefEqProofs only [agR, Nat.reduceLeDiff, Nat.reduceSub, vaR, go_sem, ints, rows, rat, rats, ratsO, rtR, intsO, rowsO]
          simp -implicitDefEqProofs only [go_sem, evR, ints, rows, rat, rats, hwi, hwn]
          refine ⟨fun h6 => ?_, fun h6 => hr _ ?_⟩
          rotate_left
          · simp -implicitDefEqProofs only [go_sem, evR, ints, rows, rat, rats]
            rw [hno fun hok => by have := (ndOK_fields hok).2.2.2.2.1 h4; have := (ndOK_fields hok).2.2.2.2.2; simp at h6; omega]
          have h6 : 1 ≤ x.ch.length ∧ x.ch.length ≤ 4 := by simp at h6; omega
          refine CallW.pure (impl_allWithin_ok x.ch ((i : Int) + 1) ((l.length : Int) - 1) (by omega)) [] rfl Try.call176 ?_ (by first | trivial | simp [T.noSh, T.noShL, rat]) rfl ?_
          · simp -implicitDefEqProofs only [agR, Nat.reduceLeDiff, Nat.reduceSub, vaR, go_sem, ints, rows, rat, rats, ratsO, rtR, intsO, rowsO]
          simp -implicitDefEqProofs only [go_sem, evR, ints, rows, rat, rats]
          refine ⟨fun h7 => ?_, fun h7 => hr _ ?_⟩
          rotate_left
          · simp -implicitDefEqProofs only [go_sem, evR, ints, rows, rat, rats]
            rw [hno fun hok => by
              have hc := ndOK_child hok
              have : (x.ch.all fun c => decide ((i : Int) + 1 ≤ c ∧ c ≤ (l.length : Int) - 1)) = true := by rw [List.all_eq_true]; intro c hcm; exact decide_eq_true (hc c hcm)
              rw [this] at h7; simp at h7]
          have h7 : (x.ch.all fun c => decide ((i : Int) + 1 ≤ c ∧ c ≤ (l.length : Int) - 1)) = true := by simpa using h7
          refine CallW.pure (impl_increasing_ok x.ch (by omega)) [] rfl Try.call212 ?_ (by first | trivial | simp [T.noSh, T.noShL, rat]) rfl ?_
          · simp -implicitDefEqProofs only [agR, Nat.reduceLeDiff, Nat.reduceSub, vaR, go_sem, ints, rows, rat, rats, ratsO, rtR, intsO, rowsO]
          simp -implicitDefEqProofs only [go_sem, evR, ints, rows, rat, rats]
          refine ⟨fun h8 => hr _ ?_, fun h8 => ?_⟩
          · simp -implicitDefEqProofs only [go_sem, evR, ints, rows, rat, rats]
            rw [hno fun hok => by rw [ndOK_incr hok h4] at h8; simp at h8]
          have h8 : incr x.ch = true := by simpa using h8
          have hok := ndOK_dec h1 h2 h3 h4 h5 h6 h7 h8
          have hch := ndOK_child hok
          have hd : l.getD i nd0 = x := by rw [List.getD_eq_getElem?_getD, hx]; rfl
          refine SemC.loopR (σ := Nat) (fun k => St.of [(1, .own 1), (3, .t (.i l.length)), (4, .own 18), (20, .t (nodes l)), (21, .t (.i l.length)), (22, .t (.i i)), (95, .t (ints x.ch)), (96, .t (.i x.ch.length)), (97, .t (.i k))] [(1, .box [nodes l]), (18, .arr 1 ((cntV l l.length i k).map T.i))]) (fun k => k ≤ x.ch.length) (fun k => x.ch.length - k) 0 (Weak.of _ _ [some 1, some 18] (by simp) (by simp) ?_ ?_) (by simp) fun k hk R2 hn2 hr2 he2 => ?_
          · simp -implicitDefEqProofs only [ints, rows, Nat.reduceBEq, wkR, Nat.reduceEqDiff, ↓reduceIte, wrR, nodes]
          · exact ⟨⟨_, rfl, .refl _⟩, rfl, ⟨_, rfl, .refl _⟩, rfl, trivial⟩
          · have hcl' := cntV_length l l.length i k
            simp -implicitDefEqProofs only [go_sem, evR, ints, rows, rat, rats, nodes]
            refine ⟨fun h9 => ⟨by omega, by omega, by omega, fun c hc => ?_⟩, fun h9 => he2 _ _ ?_⟩
            · have hcb := hch c (List.mem_of_getElem? hc)
              obtain ⟨cn, rfl⟩ : ∃ cn : Nat, c = (cn : Int) := ⟨c.toNat, by omega⟩
              have hg := cntV_get l (n := l.length) (i := i) (k := k) (c := cn) (by omega)
              have hset := cntV_set (l := l) (n := l.length) (i := i) (k := k) (c := cn) (by omega) (by rw [hd]; exact hc)
              have hocc := occ_le' cn (l.take i) fun y hy => by
                obtain ⟨j, hj, rfl⟩ := List.mem_iff_getElem.1 hy
                rw [List.length_take] at hj
                rw [List.getElem_take]
                exact (ndOK_fields (hOK j _ (by omega) (List.getElem?_eq_getElem (by omega)))).2.2.2.2.2
              have hlt : (l.take i).length ≤ 60 := by rw [List.length_take]; omega
              have hcnt := List.count_le_length (a := (cn : Int)) (l := (l.getD i nd0).ch.take k)
              have hctl : ((l.getD i nd0).ch.take k).length ≤ 4 := by rw [List.length_take, hd]; omega
              simp only [toNat_cast, hcl', hg, Option.some.injEq, forall_eq']
              rw [wrap64 (n := (occ cn (l.take i) : Int) + (((l.getD i nd0).ch.take k).count (cn : Int) : Nat) + 1) (by omega) (by omega)]
              refine ⟨by omega, by omega, by omega, by omega, by omega, by omega, hn2 _ (k + 1) (Weak.of _ _ [some 1, some 18] (by simp) (by simp) ?_ ?_) (by omega) (by omega)⟩
              · simp -implicitDefEqProofs only [ints, rows, Nat.reduceBEq, wkR, Nat.reduceEqDiff, ↓reduceIte, wrR, nodes, next64 (by omega : k < x.ch.length) (by omega)]
              · refine ⟨⟨_, rfl, .refl _⟩, rfl, ⟨_, rfl, ?_⟩, rfl, trivial⟩
                rw [← hset, List.map_set]; exact .refl _
            · simp -implicitDefEqProofs only [go_sem, evR, ints, rows, rat, rats]
              have hke : k = x.ch.length := by omega
              refine hn' _ (i + 1) (Weak.of _ _ [some 1, some 18] (by simp) (by simp) ?_ ?_) ⟨by omega, fun j y hj hy => ?_⟩ (by omega)
              · simp -implicitDefEqProofs only [ints, rows, Nat.reduceBEq, wkR, Nat.reduceEqDiff, ↓reduceIte, wrR, nodes, next64 hil (by omega)]
              · exact ⟨⟨_, rfl, .refl _⟩, rfl, ⟨_, rfl, by rw [hke, cntV_next hx (fun hp => absurd hp h4)]; exact .refl _⟩, rfl, trivial⟩
              · by_cases hji : j = i
                · subst hji; rw [hx] at hy; cases hy; exact hok
                · exact hOK j y (by omega) hy
        · simp -implicitDefEqProofs only [go_sem, evR, ints, rows, rat, rats]
          rw [hno fun hok => by have := (ndOK_fields hok).2.2.2.2.1 (by simpa using h4); simp [this.1] at h5]
      · simp -implicitDefEqProofs only [go_sem, evR, ints, rows, rat, rats]
        have hie : i = l.length := by omega
        have hnds : ndsOK l := fun j y hy => hOK j y (by have := (List.getElem?_eq_some_iff.1 hy).1; omega) hy
        have hcl' := cntV_length l l.length i 0
        refine ⟨by omega, by omega, ?_⟩
        refine SemC.loopR (σ := Nat) (fun k => St.of [(1, .own 1), (110, .sub 18 1 (l.length - 1)), (111, .t (.i (l.length - 1 : Nat))), (112, .t (.i k))] [(1, .box [nodes l]), (18, .arr 1 ((cntV l l.length l.length 0).map T.i))]) (fun k => k ≤ l.length - 1 ∧ ∀ j, j < k → occ (j + 1) l = 1) (fun k => l.length - 1 - k) 0 (Weak.of _ _ [some 1, some 18] (by simp) (by simp) ?_ ?_) ⟨by simp, fun j hj => by omega⟩ fun k hI R2 hn2 hr2 he2 => ?_
        · simp -implicitDefEqProofs only [ints, rows, Nat.reduceBEq, wkR, Nat.reduceEqDiff, ↓reduceIte, wrR, nodes, hie, cntV_length]
        · exact ⟨⟨_, rfl, .refl _⟩, rfl, ⟨_, rfl, by rw [hie]; exact .refl _⟩, rfl, trivial⟩
        · obtain ⟨hk, hocc⟩ := hI
          simp -implicitDefEqProofs only [go_sem, evR, ints, rows, rat, rats, nodes]
          refine ⟨fun h9 => ⟨by omega, by omega, by rw [cntV_length]; omega, fun a ha => ?_⟩, fun h9 => he2 _ _ ?_⟩
          · rw [cntV_all l l.length (1 + k) (by omega)] at ha
            cases ha
            refine ⟨fun h10 => hr2 _ ?_, fun h10 => hn2 _ (k + 1) (Weak.of _ _ [some 1, some 18] (by simp) (by simp) ?_ ?_) ⟨by omega, fun j hj => ?_⟩ (by omega)⟩
            · simp -implicitDefEqProofs only [go_sem, evR, ints, rows, rat, rats]
              have h10 : ¬ occ (1 + k) l = 1 := by simp at h10; omega
              rw [isTreeB_occ (by omega : 1 + k < l.length) (by omega) h10]
            · simp -implicitDefEqProofs only [ints, rows, Nat.reduceBEq, wkR, Nat.reduceEqDiff, ↓reduceIte, wrR, nodes, next64 (by omega : k < l.length - 1) (by omega)]
            · exact ⟨⟨_, rfl, .refl _⟩, rfl, ⟨_, rfl, .refl _⟩, rfl, trivial⟩
            · by_cases hjk : j = k
              · have h10 : occ (1 + k) l = 1 := by
                  have : ((occ (1 + k) l : Nat) : Int) = 1 := by simpa using h10
                  omega
                rw [hjk, Nat.add_comm]; exact h10
              · exact hocc j (by omega)
          · simp -implicitDefEqProofs only [go_sem, evR, ints, rows, rat, rats, nodes]
            have hall : ∀ j, j < l.length → j = 0 ∨ occ j l = 1 := fun j hj => by
              by_cases hj0 : j = 0
              · exact .inl hj0
              · right
                have := hocc (j - 1) (by omega)
                rwa [show j - 1 + 1 = j by omega] at this
            have hdep := impl_depthFrom_ok hnds (by omega) l.length 0 (by omega) (by omega) (by omega)
            simp only [treeT, nodes] at hdep
            refine CallW.pure hdep [] rfl Try.call164 ?_ (by first | trivial | simp [T.noSh, T.noShL, rat]) rfl ?_
            · simp -implicitDefEqProofs only [agR, Nat.reduceLeDiff, Nat.reduceSub, vaR, go_sem, ints, rows, rat, rats, ratsO, rtR, intsO, rowsO]
            simp -implicitDefEqProofs only [go_sem, evR, ints, rows, rat, rats]
            rw [isTreeB_fin hn hnds hall]
end Go.Ab

/- Contracts: valid trees, the reference's. -/
set_option linter.unusedSimpArgs false
set_option linter.unusedVariables false
namespace Go.Ab
open Go.Proofs

theorem bnT {b : Bool} (h : (!b) = true) : b = false := by cases b <;> simp_all
theorem bnF {b : Bool} (h : (!b) = false) : b = true := by cases b <;> simp_all
theorem spec_l20Node_ok {l : List Nd} {i : Nat} {x : Nd} (hx : l[i]? = some x) (hl : l.length ≤ 1000000) (hxc : x.ch.length ≤ 9223372036854775807) : Pure Try.prog 224 [treeT l, .i i] (.b (ndOK l.length i x)) := by
  have hil := (List.getElem?_eq_some_iff.1 hx).1
  rw [ndOK_spec]
  refine fun_spec_l20Node (by simp) ?_
  simp -implicitDefEqProofs only [go_sem, evR, ints, rows, rat, rats, c_spec_l20Node, treeT, nodes, nd_at hx]
  refine ⟨by omega, by rw [nd_len]; omega, by rw [nd_len]; omega, ?_⟩
  refine CallW.pure (spec_l01In_ok x.p 0 2) [] rfl Try.call148 ?_ (by first | trivial | simp [T.noSh, T.noShL, rat]) rfl ?_
  · simp -implicitDefEqProofs only [agR, Nat.reduceLeDiff, Nat.reduceSub, vaR, go_sem, ints, rows, rat, rats, ratsO, rtR, intsO, rowsO]
  simp -implicitDefEqProofs only [go_sem, evR, ints, rows, rat, rats]
  refine ⟨fun h1 => ?_, fun h1 => by rw [show decide (0 ≤ x.p ∧ x.p ≤ 2) = false from bnT h1]; rfl⟩
  rw [show decide (0 ≤ x.p ∧ x.p ≤ 2) = true from bnF h1]
  refine CallW.pure (spec_l01In_ok x.a 0 100) [] rfl Try.call148 ?_ (by first | trivial | simp [T.noSh, T.noShL, rat]) rfl ?_
  · simp -implicitDefEqProofs only [agR, Nat.reduceLeDiff, Nat.reduceSub, vaR, go_sem, ints, rows, rat, rats, ratsO, rtR, intsO, rowsO]
  simp -implicitDefEqProofs only [go_sem, evR, ints, rows, rat, rats]
  refine ⟨fun h2 => ?_, fun h2 => by rw [show decide (0 ≤ x.a ∧ x.a ≤ 100) = false from bnT h2]; simp⟩
  rw [show decide (0 ≤ x.a ∧ x.a ≤ 100) = true from bnF h2]
  refine CallW.pure (spec_l01In_ok x.b 0 100) [] rfl Try.call148 ?_ (by first | trivial | simp [T.noSh, T.noShL, rat]) rfl ?_
  · simp -implicitDefEqProofs only [agR, Nat.reduceLeDiff, Nat.reduceSub, vaR, go_sem, ints, rows, rat, rats, ratsO, rtR, intsO, rowsO]
  simp -implicitDefEqProofs only [go_sem, evR, ints, rows, rat, rats]
  refine ⟨fun h3 => ?_, fun h3 => by rw [show decide (0 ≤ x.b ∧ x.b ≤ 100) = false from bnT h3]; simp⟩
  rw [show decide (0 ≤ x.b ∧ x.b ≤ 100) = true from bnF h3]
  refine CallW.pure (spec_l01In_ok x.f (-1) 1) [] rfl Try.call148 ?_ (by first | trivial | simp [T.noSh, T.noShL, rat]) rfl ?_
  · simp -implicitDefEqProofs only [agR, Nat.reduceLeDiff, Nat.reduceSub, vaR, go_sem, ints, rows, rat, rats, ratsO, rtR, intsO, rowsO]
  simp -implicitDefEqProofs only [go_sem, evR, ints, rows, rat, rats]
  refine ⟨fun h4 => by rw [show decide (-1 ≤ x.f ∧ x.f ≤ 1) = false from bnT h4]; simp, fun h4 => ?_⟩
  rw [show decide (-1 ≤ x.f ∧ x.f ≤ 1) = true from bnF h4]
  refine ⟨fun h5 => ?_, fun h5 => ?_⟩
  · have h5 : x.p = 2 := by simpa using h5
    rw [if_pos h5]
    refine ⟨fun h6 => ?_, fun h6 => ?_⟩
    · have h6 : x.ch.length = 0 := by
        have : (x.ch.length : Int) = 0 := by simpa using h6
        omega
      rw [decide_eq_true h6]
      refine ⟨fun h7 => ?_, fun h7 => by rw [decide_eq_true (show 0 ≤ x.f by omega)]; rfl⟩
      rw [decide_eq_false (show ¬ 0 ≤ x.f by omega)]
      by_cases h8 : x.a = x.b
      · rw [decide_eq_true h8, h8]; simp
      · rw [decide_eq_false h8]; simp [h8]
    · have h6 : ¬ x.ch.length = 0 := by
        have : ¬ (x.ch.length : Int) = 0 := by simpa using h6
        omega
      rw [decide_eq_false h6]; rfl
  · have h5 : ¬ x.p = 2 := by simpa using h5
    rw [if_neg h5]
    refine ⟨fun h6 => ?_, fun h6 => ?_⟩
    · have h6 : x.f = -1 := by simpa using h6
      rw [decide_eq_true h6]
      refine CallW.pure (spec_l01In_ok x.ch.length 1 4) [] rfl Try.call148 ?_ (by first | trivial | simp [T.noSh, T.noShL, rat]) rfl ?_
      · simp -implicitDefEqProofs only [agR, Nat.reduceLeDiff, Nat.reduceSub, vaR, go_sem, ints, rows, rat, rats, ratsO, rtR, intsO, rowsO]
      simp -implicitDefEqProofs only [go_sem, evR, ints, rows, rat, rats]
      refine ⟨fun h7 => ?_, fun h7 => ?_⟩
      · have h7 : 1 ≤ x.ch.length ∧ x.ch.length ≤ 4 := by
          have := bnF h7
          simp only [decide_eq_true_eq] at this; omega
        rw [decide_eq_true h7]
        refine CallW.pure (spec_l01Rises_ok x.ch l.length (by omega) (by omega)) [] rfl Try.call228 ?_ (by first | trivial | simp [T.noSh, T.noShL, rat]) rfl ?_
        · simp -implicitDefEqProofs only [agR, Nat.reduceLeDiff, Nat.reduceSub, vaR, go_sem, ints, rows, rat, rats, ratsO, rtR, intsO, rowsO]
        simp -implicitDefEqProofs only [go_sem, evR, ints, rows, rat, rats]
        refine ⟨fun h8 => by rw [bnT h8]; rfl, fun h8 => ⟨by omega, by omega, fun c hc => ?_⟩⟩
        rw [bnF h8]
        have hhd : x.ch.headD 0 = c := by
          cases hch : x.ch with
          | nil => rw [hch] at hc; simp at hc
          | cons a as' => rw [hch] at hc; simpa using hc
        rw [hhd]; rfl
      · have h7 : ¬ (1 ≤ x.ch.length ∧ x.ch.length ≤ 4) := by
          have := bnT h7
          simp only [decide_eq_false_iff_not] at this; omega
        rw [decide_eq_false h7]; rfl
    · have h6 : ¬ x.f = -1 := by simpa using h6
      rw [decide_eq_false h6]; rfl

section
attribute [-go_sem] load1C
theorem spec_IsTree_ok (l : List Nd) (hl : l.length ≤ 9223372036854775807) (hcl : ∀ x ∈ l, x.ch.length ≤ 9223372036854775807) : Pure Try.prog 194 [treeT l] (.b (isTreeB l)) := by
  refine fun_spec_IsTree (by simp) ?_
  simp -implicitDefEqProofs only [go_sem, evR, ints, rows, rat, rats, c_spec_IsTree, treeT, nodes]
  refine CallW.pure (spec_l01In_ok l.length 1 60) [] rfl Try.call148 ?_ (by first | trivial | simp [T.noSh, T.noShL, rat]) rfl ?_
  · simp -implicitDefEqProofs only [agR, Nat.reduceLeDiff, Nat.reduceSub, vaR, go_sem, ints, rows, rat, rats, ratsO, rtR, intsO, rowsO]
  simp -implicitDefEqProofs only [go_sem, evR, ints, rows, rat, rats]
  refine ⟨fun h => ?_, fun h => ?_⟩
  · rw [isTreeB_len (by have := bnT h; simp at this; omega)]
  · have hn : 1 ≤ l.length ∧ l.length ≤ 60 := by
      have := bnF h
      simp only [decide_eq_true_eq] at this; omega
    refine ⟨by omega, by omega, ?_⟩
    refine SemC.loopR (σ := Nat) (fun i => St.of [(1, .own 1), (3, .t (.i l.length)), (4, .own 15), (5, .t (.i i))] [(1, .box [nodes l]), (15, .arr 1 ((cntV l l.length i 0).map T.i))]) (fun i => i ≤ l.length ∧ ∀ j x, j < i → l[j]? = some x → ndOK l.length j x = true) (fun i => l.length - i) 0 (Weak.of _ _ [some 1, some 15] (by simp) (by simp) ?_ ?_) ⟨by simp, fun j x hj => by omega⟩ fun i hI R hn' hr he => ?_
    · simp -implicitDefEqProofs only [ints, rows, Nat.reduceBEq, wkR, Nat.reduceEqDiff, ↓reduceIte, wrR, nodes]
    · exact ⟨⟨_, rfl, .refl _⟩, rfl, ⟨_, rfl, by rw [made_one, cntV_zero, List.map_replicate]; exact .refl _⟩, rfl, trivial⟩
    · obtain ⟨hi, hOK⟩ := hI
      simp -implicitDefEqProofs only [go_sem, evR, ints, rows, rat, rats, nodes]
      refine ⟨fun h => ?_, fun h => he _ _ ?_⟩
      · have hil : i < l.length := by omega
        obtain ⟨x, hx⟩ : ∃ x, l[i]? = some x := ⟨_, List.getElem?_eq_getElem hil⟩
        have hxc := hcl x (List.mem_of_getElem? hx)
        have hnode := spec_l20Node_ok hx (by omega) hxc
        simp only [treeT, nodes] at hnode
        refine CallW.pure hnode [] rfl Try.call224 ?_ (by first | trivial | simp [T.noSh, T.noShL, rat]) rfl ?_
        · simp -implicitDefEqProofs only [agR, Nat.reduceLeDiff, Nat.reduceSub, vaR, go_sem, ints, rows, rat, rats, ratsO, rtR, intsO, rowsO]
        simp -implicitDefEqProofs only [go_sem, evR, ints, rows, rat, rats]
        refine ⟨fun h1 => hr _ ?_, fun h1 => ?_⟩
        · simp -implicitDefEqProofs only [go_sem, evR, ints, rows, rat, rats]
          rw [isTreeB_nd hx (bnT h1)]
        · have hok := bnF h1
          have hch := ndOK_child hok
          have hcl4 := (ndOK_fields hok).2.2.2.2.2
          have hd : l.getD i nd0 = x := by rw [List.getD_eq_getElem?_getD, hx]; rfl
          refine SemC.loopR (σ := Nat) (fun k => St.of [(1, .own 1), (3, .t (.i l.length)), (4, .own 15), (5, .t (.i i)), (6, .t (.i k))] [(1, .box [nodes l]), (15, .arr 1 ((cntV l l.length i k).map T.i))]) (fun k => k ≤ x.ch.length) (fun k => x.ch.length - k) 0 (Weak.of _ _ [some 1, some 15] (by simp) (by simp) ?_ ?_) (by simp) fun k hk R2 hn2 hr2 he2 => ?_
          · simp -implicitDefEqProofs only [ints, rows, Nat.reduceBEq, wkR, Nat.reduceEqDiff, ↓reduceIte, wrR, nodes]
          · exact ⟨⟨_, rfl, .refl _⟩, rfl, ⟨_, rfl, .refl _⟩, rfl, trivial⟩
          · have hcl' := cntV_length l l.length i k
            rcases Nat.lt_or_ge k x.ch.length with h9 | h9
            · obtain ⟨c, hc⟩ : ∃ c, x.ch[k]? = some c := ⟨_, List.getElem?_eq_getElem h9⟩
              have hcb := hch c (List.mem_of_getElem? hc)
              obtain ⟨cn, rfl⟩ : ∃ cn : Nat, c = (cn : Int) := ⟨c.toNat, by omega⟩
              have hg := cntV_get l (n := l.length) (i := i) (k := k) (c := cn) (by omega)
              simp -implicitDefEqProofs only [go_sem, evR, ints, rows, rat, rats, nodes, nd_get4 hx, decide_eq_true (show (k : Int) < (x.ch.length : Int) by omega), hc, hg]
              have hset := cntV_set (l := l) (n := l.length) (i := i) (k := k) (c := cn) (by omega) (by rw [hd]; exact hc)
              refine ⟨by omega, by rw [nd_len]; omega, by rw [nd_len]; omega, by omega, by rw [nd_len]; omega, by rw [nd_len]; omega, by omega, by omega, by omega, by omega, by omega, by omega, by omega, by omega, by omega, hn2 _ (k + 1) (Weak.of _ _ [some 1, some 15] (by simp) (by simp) ?_ ?_) (by omega) (by omega)⟩
              · simp -implicitDefEqProofs only [ints, rows, Nat.reduceBEq, wkR, Nat.reduceEqDiff, ↓reduceIte, wrR, nodes, next64 (by omega : k < x.ch.length) (by omega)]
              · refine ⟨⟨_, rfl, .refl _⟩, rfl, ⟨_, rfl, ?_⟩, rfl, trivial⟩
                have hocc := occ_le' cn (l.take i) fun y hy => by
                  obtain ⟨j, hj, rfl⟩ := List.mem_iff_getElem.1 hy
                  rw [List.length_take] at hj
                  rw [List.getElem_take]
                  exact (ndOK_fields (hOK j _ (by omega) (List.getElem?_eq_getElem (by omega)))).2.2.2.2.2
                have hlt : (l.take i).length ≤ 60 := by rw [List.length_take]; omega
                have hcnt := List.count_le_length (a := (cn : Int)) (l := (l.getD i nd0).ch.take k)
                have hctl : ((l.getD i nd0).ch.take k).length ≤ 4 := by rw [List.length_take, hd]; omega
                rw [wrap64 (n := (occ cn (l.take i) : Int) + (((l.getD i nd0).ch.take k).count (cn : Int) : Nat) + 1) (by omega) (by omega), ← hset, List.map_set]; exact .refl _
            · simp -implicitDefEqProofs only [go_sem, evR, ints, rows, rat, rats, nodes, nd_get4 hx, decide_eq_false (show ¬ (k : Int) < (x.ch.length : Int) by omega)]
              refine ⟨by omega, by rw [nd_len]; omega, by rw [nd_len]; omega, he2 _ _ ?_⟩
              simp -implicitDefEqProofs only [go_sem, evR, ints, rows, rat, rats]
              have hke : k = x.ch.length := by omega
              refine hn' _ (i + 1) (Weak.of _ _ [some 1, some 15] (by simp) (by simp) ?_ ?_) ⟨by omega, fun j y hj hy => ?_⟩ (by omega)
              · simp -implicitDefEqProofs only [ints, rows, Nat.reduceBEq, wkR, Nat.reduceEqDiff, ↓reduceIte, wrR, nodes, next64 hil (by omega)]
              · exact ⟨⟨_, rfl, .refl _⟩, rfl, ⟨_, rfl, by rw [hke, cntV_next hx (fun hp => ((ndOK_fields hok).2.2.2.1 hp).1)]; exact .refl _⟩, rfl, trivial⟩
              · by_cases hji : j = i
                · subst hji; rw [hx] at hy; cases hy; exact hok
                · exact hOK j y (by omega) hy
      · simp -implicitDefEqProofs only [go_sem, evR, ints, rows, rat, rats, nodes]
        have hie : i = l.length := by omega
        have hnds : ndsOK l := fun j y hy => hOK j y (by have := (List.getElem?_eq_some_iff.1 hy).1; omega) hy
        refine SemC.loopR (σ := Nat) (fun k => St.of [(1, .own 1), (3, .t (.i l.length)), (4, .own 15), (7, .t (.i k))] [(1, .box [nodes l]), (15, .arr 1 ((cntV l l.length l.length 0).map T.i))]) (fun k => 1 ≤ k ∧ k ≤ l.length ∧ ∀ j, 1 ≤ j → j < k → occ j l = 1) (fun k => l.length - k) 1 (Weak.of _ _ [some 1, some 15] (by simp) (by simp) ?_ ?_) ⟨by omega, by omega, fun j h1 h2 => by omega⟩ fun k hI R2 hn2 hr2 he2 => ?_
        · simp -implicitDefEqProofs only [ints, rows, Nat.reduceBEq, wkR, Nat.reduceEqDiff, ↓reduceIte, wrR, nodes]
        · exact ⟨⟨_, rfl, .refl _⟩, rfl, ⟨_, rfl, by rw [hie]; exact .refl _⟩, rfl, trivial⟩
        · obtain ⟨hk1, hk, hocc⟩ := hI
          rcases Nat.lt_or_ge k l.length with h9 | h9
          · have hg := cntV_all l l.length k h9
            have hcl' := cntV_length l l.length l.length 0
            simp -implicitDefEqProofs only [go_sem, evR, ints, rows, rat, rats, nodes, hg, decide_eq_true (show (k : Int) < (l.length : Int) by omega)]
            refine ⟨by omega, by omega, by omega, fun h10 => hr2 _ ?_, fun h10 => hn2 _ (k + 1) (Weak.of _ _ [some 1, some 15] (by simp) (by simp) ?_ ?_) ⟨by omega, by omega, fun j h1 h2 => ?_⟩ (by omega)⟩
            · simp -implicitDefEqProofs only [go_sem, evR, ints, rows, rat, rats]
              have h10 : ¬ occ k l = 1 := by simp at h10; omega
              rw [isTreeB_occ h9 (by omega) h10]
            · simp -implicitDefEqProofs only [ints, rows, Nat.reduceBEq, wkR, Nat.reduceEqDiff, ↓reduceIte, wrR, nodes, next64 h9 (by omega)]
            · exact ⟨⟨_, rfl, .refl _⟩, rfl, ⟨_, rfl, .refl _⟩, rfl, trivial⟩
            · by_cases hjk : j = k
              · have h10 : occ k l = 1 := by
                  have : ((occ k l : Nat) : Int) = 1 := by simpa using h10
                  omega
                rw [hjk]; exact h10
              · exact hocc j h1 (by omega)
          · simp -implicitDefEqProofs only [go_sem, evR, ints, rows, rat, rats, nodes, decide_eq_false (show ¬ (k : Int) < (l.length : Int) by omega)]
            refine he2 _ _ ?_
            simp -implicitDefEqProofs only [go_sem, evR, ints, rows, rat, rats]
            have hall : ∀ j, j < l.length → j = 0 ∨ occ j l = 1 := fun j hj => by
              by_cases hj0 : j = 0
              · exact .inl hj0
              · exact .inr (hocc j (by omega) (by omega))
            have hdep := spec_l20Depth_ok hnds (by omega) l.length 0 (by omega) (by omega) (by omega)
            simp only [treeT, nodes] at hdep
            refine CallW.pure hdep [] rfl Try.call158 ?_ (by first | trivial | simp [T.noSh, T.noShL, rat]) rfl ?_
            · simp -implicitDefEqProofs only [agR, Nat.reduceLeDiff, Nat.reduceSub, vaR, go_sem, ints, rows, rat, rats, ratsO, rtR, intsO, rowsO]
            simp -implicitDefEqProofs only [go_sem, evR, ints, rows, rat, rats]
            rw [isTreeB_fin hn hnds hall]
end
end Go.Ab

/- Parts out of weights, plainly: the greatest remainders first. -/
set_option linter.unusedSimpArgs false
set_option linter.unusedVariables false
namespace Go.Ab
open Go.Proofs

def maxI (r : List Int) : Nat → Nat
  | 0 => 0
  | k + 1 => if r.getD (maxI r k) 0 < r.getD k 0 then k else maxI r k
theorem maxI_lt (r : List Int) : ∀ k, k ≤ r.length → 0 < r.length → maxI r k < r.length
  | 0, _, h => h
  | k + 1, hk, h => by
    have := maxI_lt r k (by omega) h
    rw [maxI]; split <;> omega
theorem maxI_one (r : List Int) : maxI r 1 = 0 := by
  rw [maxI, show maxI r 0 = 0 from rfl, if_neg (Int.lt_irrefl _)]
theorem maxI_max (r : List Int) : ∀ k i, i < k → r.getD i 0 ≤ r.getD (maxI r k) 0
  | k + 1, i, h => by
    have ih := maxI_max r k
    rw [maxI]
    split
    · rename_i h1
      by_cases hi : i = k
      · rw [hi]; exact Int.le_refl _
      · have := ih i (by omega); omega
    · rename_i h1
      by_cases hi : i = k
      · rw [hi]; omega
      · exact ih i (by omega)
def hamGo : Nat → List Int → List Int → List Int
  | 0, p, _ => p
  | n + 1, p, r => hamGo n (p.set (maxI r r.length) (p.getD (maxI r r.length) 0 + 1)) (r.set (maxI r r.length) (-1))
def quoL (t : Int) (w : List Int) : List Int := w.map fun x => 60 * x / t
def remL (t : Int) (w : List Int) : List Int := w.map fun x => 60 * x % t
def onesL (w : List Int) : List Int := w.map fun _ => 1
def ham1 (w : List Int) : List Int := hamGo (60 - (quoL w.sum w).sum).toNat (quoL w.sum w) (remL w.sum w)
def ham (w : List Int) : List Int := if w.sum = 0 then ham1 (onesL w) else ham1 w

theorem sum_set {p : List Int} {b : Nat} (h : b < p.length) (x : Int) : (p.set b x).sum = p.sum - p.getD b 0 + x := by
  induction p generalizing b with
  | nil => simp at h
  | cons a p ih =>
    cases b with
    | zero => simp; omega
    | succ b =>
      have := ih (b := b) (by simpa using h)
      simp only [List.set_cons_succ, List.sum_cons, List.getD_cons_succ]
      omega
theorem sum_nonneg' {w : List Int} (h : ∀ x ∈ w, 0 ≤ x) : 0 ≤ w.sum := by
  induction w with
  | nil => simp
  | cons a w ih =>
    have := ih fun x hx => h x (List.mem_cons_of_mem _ hx)
    have := h a (by simp)
    simp only [List.sum_cons]; omega
theorem sum_le_of {t : Int} : ∀ (w p : List Int), w.length = p.length → (∀ i, i < w.length → 60 * w.getD i 0 ≤ t * p.getD i 0) → 60 * w.sum ≤ t * p.sum
  | [], [], _, _ => by simp
  | a :: w, b :: p, hl, h => by
    have ih := sum_le_of w p (by simpa using hl) fun i hi => by simpa using h (i + 1) (by simpa using hi)
    have h0 := h 0 (by simp)
    simp only [List.getD_cons_zero] at h0
    simp only [List.sum_cons, Int.mul_add]
    omega
structure HamI (w : List Int) (t : Int) (m : Nat) (p r : List Int) : Prop where
  lp : p.length = w.length
  lr : r.length = w.length
  each : ∀ i, i < w.length → (r.getD i 0 = 60 * w.getD i 0 - t * p.getD i 0 ∧ 0 ≤ r.getD i 0 ∧ r.getD i 0 < t) ∨ (r.getD i 0 = -1 ∧ 60 * w.getD i 0 < t * p.getD i 0 ∧ t * p.getD i 0 < 60 * w.getD i 0 + t)
  sum : p.sum + m = 60
theorem HamI.best {w : List Int} {m : Nat} {p r : List Int} (h : HamI w w.sum (m + 1) p r) (ht : 0 < w.sum) : maxI r r.length < w.length ∧ 0 < r.getD (maxI r r.length) 0 := by
  have ⟨i, hi, hpos⟩ : ∃ i, i < w.length ∧ ¬ 60 * w.getD i 0 ≤ w.sum * p.getD i 0 := by
    by_cases hc : ∃ i, i < w.length ∧ ¬ 60 * w.getD i 0 ≤ w.sum * p.getD i 0
    · exact hc
    · have := sum_le_of (t := w.sum) w p h.lp.symm fun i hi => by
        by_cases h1 : 60 * w.getD i 0 ≤ w.sum * p.getD i 0
        · exact h1
        · exact absurd ⟨i, hi, h1⟩ hc
      have hs := h.sum
      have e : w.sum * p.sum = w.sum * (60 - (m + 1 : Nat)) := by rw [show p.sum = 60 - ((m + 1 : Nat) : Int) by omega]
      rw [e, Int.mul_sub] at this
      have h2 : 0 < w.sum * ((m + 1 : Nat) : Int) := Int.mul_pos ht (by omega)
      omega
  have hri : 0 < r.getD i 0 := by
    rcases h.each i hi with h1 | h1 <;> omega
  have hlr := h.lr
  have h1 := maxI_lt r r.length (Nat.le_refl _) (by omega)
  have h2 := maxI_max r r.length i (by omega)
  exact ⟨by omega, by omega⟩
theorem getD_set_self {l : List Int} {b : Nat} (h : b < l.length) (x : Int) : (l.set b x).getD b 0 = x := by
  rw [List.getD_eq_getElem?_getD, List.getElem?_set_self h]; rfl
theorem getD_set_other {l : List Int} {b i : Nat} (h : i ≠ b) (x : Int) : (l.set b x).getD i 0 = l.getD i 0 := by
  rw [List.getD_eq_getElem?_getD, List.getElem?_set_ne (Ne.symm h), List.getD_eq_getElem?_getD]
theorem HamI.step {w : List Int} {m : Nat} {p r : List Int} (h : HamI w w.sum (m + 1) p r) (ht : 0 < w.sum) : HamI w w.sum m (p.set (maxI r r.length) (p.getD (maxI r r.length) 0 + 1)) (r.set (maxI r r.length) (-1)) := by
  obtain ⟨hb, hr⟩ := h.best ht
  have hlp := h.lp
  have hlr := h.lr
  generalize maxI r r.length = b at hb hr
  refine ⟨by simp [hlp], by simp [hlr], fun i hi => ?_, ?_⟩
  · by_cases hib : i = b
    · subst hib
      right
      rw [getD_set_self (by omega), getD_set_self (by omega)]
      rcases h.each i hi with h1 | h1
      · rw [Int.mul_add]; omega
      · omega
    · rw [getD_set_other hib, getD_set_other hib]
      exact h.each i hi
  · have := h.sum
    rw [sum_set (by omega)]
    omega
theorem hamGo_spec {w : List Int} (ht : 0 < w.sum) : ∀ (m : Nat) (p r : List Int), HamI w w.sum m p r →
    (hamGo m p r).length = w.length ∧ (hamGo m p r).sum = 60 ∧ ∀ i, i < w.length → 60 * w.getD i 0 - w.sum < w.sum * (hamGo m p r).getD i 0 ∧ w.sum * (hamGo m p r).getD i 0 < 60 * w.getD i 0 + w.sum
  | 0, p, r, h => ⟨h.lp, by have := h.sum; simpa [hamGo] using this, fun i hi => by
      rw [hamGo]
      rcases h.each i hi with h1 | h1 <;> omega⟩
  | m + 1, p, r, h => hamGo_spec ht m _ _ (h.step ht)
theorem getD_map' {w : List Int} {f : Int → Int} {i : Nat} (h : i < w.length) : (w.map f).getD i 0 = f (w.getD i 0) := by
  rw [List.getD_eq_getElem?_getD, List.getD_eq_getElem?_getD, List.getElem?_map, List.getElem?_eq_getElem h]; rfl
theorem quo_sum {t : Int} (ht : 0 < t) : ∀ w : List Int, t * (quoL t w).sum ≤ 60 * w.sum
  | [] => by simp [quoL]
  | a :: w => by
    have ih := quo_sum ht w
    have h1 := Int.mul_ediv_self_le (x := 60 * a) (k := t) (by omega)
    simp only [quoL, List.map_cons, List.sum_cons, Int.mul_add] at ih ⊢
    omega
theorem ham_start {w : List Int} (hw : ∀ x ∈ w, 0 ≤ x) (ht : 0 < w.sum) : HamI w w.sum (60 - (quoL w.sum w).sum).toNat (quoL w.sum w) (remL w.sum w) := by
  refine ⟨by simp [quoL], by simp [remL], fun i hi => .inl ?_, ?_⟩
  · rw [quoL, remL, getD_map' hi, getD_map' hi]
    have h1 := Int.mul_ediv_add_emod (60 * w.getD i 0) w.sum
    have h2 := Int.emod_nonneg (60 * w.getD i 0) (show w.sum ≠ 0 by omega)
    have h3 := Int.emod_lt_of_pos (60 * w.getD i 0) ht
    omega
  · have h1 := quo_sum ht w
    have h2 : (quoL w.sum w).sum ≤ 60 := by
      rw [Int.mul_comm 60] at h1
      exact Int.le_of_mul_le_mul_left h1 ht
    omega
theorem ham1_spec {w : List Int} (hw : ∀ x ∈ w, 0 ≤ x) (ht : 0 < w.sum) : (ham1 w).length = w.length ∧ (ham1 w).sum = 60 ∧ ∀ i, i < w.length → 60 * w.getD i 0 - w.sum < w.sum * (ham1 w).getD i 0 ∧ w.sum * (ham1 w).getD i 0 < 60 * w.getD i 0 + w.sum :=
  hamGo_spec ht _ _ _ (ham_start hw ht)
theorem ones_sum (w : List Int) : (onesL w).sum = w.length := by
  induction w with
  | nil => rfl
  | cons a w ih =>
    simp only [onesL, List.map_cons, List.sum_cons] at ih ⊢
    simp only [List.length_cons]; omega
theorem ham_spec {w : List Int} (hw : ∀ x ∈ w, 0 ≤ x) (hl : 1 ≤ w.length) : (ham w).length = w.length ∧ (ham w).sum = 60 ∧ (0 < w.sum → ∀ i, i < w.length → 60 * w.getD i 0 - w.sum < w.sum * (ham w).getD i 0 ∧ w.sum * (ham w).getD i 0 < 60 * w.getD i 0 + w.sum) := by
  have h0 := sum_nonneg' hw
  unfold ham
  split
  · rename_i h
    have h1 := ham1_spec (w := onesL w) (fun x hx => by simp [onesL] at hx; omega) (by rw [ones_sum]; omega)
    refine ⟨by rw [h1.1]; simp [onesL], h1.2.1, fun h' => by omega⟩
  · rename_i h
    obtain ⟨h1, h2, h3⟩ := ham1_spec hw (by omega)
    exact ⟨h1, h2, fun _ => h3⟩
end Go.Ab

/- Contracts: sums. -/
set_option linter.unusedSimpArgs false
set_option linter.unusedVariables false
namespace Go.Ab
open Go.Proofs

def smallL (l : List Int) : Prop := l.length ≤ 1000 ∧ ∀ x ∈ l, -1000000000000 ≤ x ∧ x ≤ 1000000000000
theorem smallL_sum {l : List Int} (h : smallL l) (k : Nat) : -1000000000000000 ≤ (l.take k).sum ∧ (l.take k).sum ≤ 1000000000000000 := by
  obtain ⟨h1, h2⟩ := h
  have key : ∀ (l : List Int), (∀ x ∈ l, -1000000000000 ≤ x ∧ x ≤ 1000000000000) → -(1000000000000 * (l.length : Int)) ≤ l.sum ∧ l.sum ≤ 1000000000000 * (l.length : Int) := by
    intro l
    induction l with
    | nil => intro _; simp
    | cons a l ih =>
      intro h
      have := ih fun x hx => h x (List.mem_cons_of_mem _ hx)
      have := h a (by simp)
      simp only [List.sum_cons, List.length_cons]
      omega
  have := key (l.take k) fun x hx => h2 x (List.mem_of_mem_take hx)
  have hl : (l.take k).length ≤ 1000 := by rw [List.length_take]; omega
  omega
theorem sum_snoc (l : List Int) (x : Int) : (l ++ [x]).sum = l.sum + x := by simp
theorem impl_sumOf_ok (l : List Int) (h : smallL l) : Pure Try.prog 200 [ints l] (.i l.sum) := by
  have hl := h.1
  refine fun_impl_sumOf (by simp) ?_
  simp -implicitDefEqProofs only [go_sem, evR, ints, rows, rat, rats, c_impl_sumOf]
  refine SemC.loopR (σ := Nat) (fun i => St.of [(3, .t (.i (l.take i).sum)), (6, .t (ints l)), (7, .t (.i l.length)), (8, .t (.i i))] []) (fun i => i ≤ l.length) (fun i => l.length - i) 0 (Weak.of _ [] [] (by simp) (by simp) ?_ trivial) (by omega) fun i hi R hn hr he => ?_
  · simp -implicitDefEqProofs only [ints, rows, Nat.reduceBEq, wkR, Nat.reduceEqDiff, ↓reduceIte, wrR, List.take_zero, List.sum_nil]
  · simp -implicitDefEqProofs only [go_sem, evR, ints, rows, rat, rats]
    refine ⟨fun h1 => ⟨by omega, by omega, by omega, fun x hx => ?_⟩, fun h1 => he _ _ ?_⟩
    · have e := sum_snoc (l.take i) x
      rw [← take_snoc hx] at e
      have hb := smallL_sum h (i + 1)
      refine hn _ (i + 1) (Weak.of _ [] [] (by simp) (by simp) ?_ trivial) (by omega) (by omega)
      simp -implicitDefEqProofs only [ints, rows, Nat.reduceBEq, wkR, Nat.reduceEqDiff, ↓reduceIte, wrR, next64 (by omega : i < l.length) (by omega), ← e, wrap64 (n := (l.take (i + 1)).sum) (by omega) (by omega)]
    · simp -implicitDefEqProofs only [go_sem, evR, ints, rows, rat, rats]
      rw [List.take_of_length_le (by omega)]
theorem spec_l01Sum_ok (l : List Int) (h : smallL l) : Pure Try.prog 187 [ints l] (.i l.sum) := by
  have hl := h.1
  refine fun_spec_l01Sum (by simp) ?_
  simp -implicitDefEqProofs only [go_sem, evR, ints, rows, rat, rats, c_spec_l01Sum]
  refine SemC.loopR (σ := Nat) (fun i => St.of [(0, .t (ints l)), (3, .t (.i (l.take i).sum)), (4, .t (.i i))] []) (fun i => i ≤ l.length) (fun i => l.length - i) 0 (Weak.of _ [] [] (by simp) (by simp) ?_ trivial) (by omega) fun i hi R hn hr he => ?_
  · simp -implicitDefEqProofs only [ints, rows, Nat.reduceBEq, wkR, Nat.reduceEqDiff, ↓reduceIte, wrR, List.take_zero, List.sum_nil]
  · simp -implicitDefEqProofs only [go_sem, evR, ints, rows, rat, rats]
    refine ⟨fun h1 => ⟨by omega, by omega, by omega, fun x hx => ?_⟩, fun h1 => he _ _ ?_⟩
    · have e := sum_snoc (l.take i) x
      rw [← take_snoc hx] at e
      have hb := smallL_sum h (i + 1)
      refine hn _ (i + 1) (Weak.of _ [] [] (by simp) (by simp) ?_ trivial) (by omega) (by omega)
      simp -implicitDefEqProofs only [ints, rows, Nat.reduceBEq, wkR, Nat.reduceEqDiff, ↓reduceIte, wrR, next64 (by omega : i < l.length) (by omega), ← e, wrap64 (n := (l.take (i + 1)).sum) (by omega) (by omega)]
    · simp -implicitDefEqProofs only [go_sem, evR, ints, rows, rat, rats]
      rw [List.take_of_length_le (by omega)]
end Go.Ab

/- Contracts: valid games. -/
set_option linter.unusedSimpArgs false
set_option linter.unusedVariables false
namespace Go.Ab
open Go.Proofs

theorem sumI_eq : ∀ l : List Int, sumI l = l.sum
  | [] => rfl
  | x :: l => by rw [sumI, List.sum_cons, sumI_eq l]
theorem totW_snoc (w : List (List Int)) (r : List Int) : totW (w ++ [r]) = totW w + r.sum := by
  simp only [totW, List.map_append, List.map_cons, List.map_nil]
  rw [sumI_snoc, sumI_eq r]
theorem totW_nil : totW [] = 0 := rfl
def smallW (w : List (List Int)) : Prop := w.length ≤ 6 ∧ ∀ r ∈ w, r.length ≤ 6 ∧ ∀ x ∈ r, 0 ≤ x ∧ x ≤ 9
theorem smallW_row {w : List (List Int)} (h : smallW w) {r : List Int} (hr : r ∈ w) : smallL r := ⟨by have := (h.2 r hr).1; omega, fun x hx => by have := (h.2 r hr).2 x hx; omega⟩
theorem totW_bound {w : List (List Int)} (h : smallW w) (k : Nat) : 0 ≤ totW (w.take k) ∧ totW (w.take k) ≤ 324 := by
  have h1 : ∀ x ∈ (w.take k).map sumI, 0 ≤ x := fun x hx => by
    obtain ⟨r, hr, rfl⟩ := List.mem_map.1 hx
    exact sumI_nonneg fun y hy => ((h.2 r (List.mem_of_mem_take hr)).2 y hy).1
  have h2 : ∀ x ∈ (w.take k).map sumI, x ≤ 54 := fun x hx => by
    obtain ⟨r, hr, rfl⟩ := List.mem_map.1 hx
    have := sumI_le (b := 9) fun y hy => ((h.2 r (List.mem_of_mem_take hr)).2 y hy).2
    have := (h.2 r (List.mem_of_mem_take hr)).1
    omega
  refine ⟨sumI_nonneg h1, ?_⟩
  have := sumI_le h2
  rw [List.length_map, List.length_take] at this
  have := h.1
  unfold totW; omega
theorem smallW_of {w : List (List Int)} {k : Nat} (h : matK w k 0 9 = true) (hk : k ≤ 6) : smallW w := by
  obtain ⟨h1, h2⟩ := matK_spec h
  exact ⟨by omega, fun r hr => ⟨by have := (h2 r hr).1; omega, fun x hx => by have := (h2 r hr).2 x hx; omega⟩⟩

theorem next63 {i n : Nat} (h : i < n) (hn : n ≤ 9223372036854775807) : IntKind.i64.wrap ((i : Int) + 1) = ((i + 1 : Nat) : Int) := by
  rw [wrap64 (by omega) (by omega)]; omega
section
attribute [-go_sem] load1C
theorem impl_totalWeight_ok (g : Gm) (h : smallW g.w) : Pure Try.prog 177 [gameT g] (.i (totW g.w)) := by
  have hl := h.1
  refine fun_impl_totalWeight (by simp) ?_
  simp -implicitDefEqProofs only [go_sem, evR, ints, rows, rat, rats, c_impl_totalWeight, gameT, nodes]
  refine SemC.loopR (σ := Nat) (fun i => St.of [(3, .t (.i (totW (g.w.take i)))), (7, .t (rows g.w)), (8, .t (.i g.w.length)), (9, .t (.i i))] []) (fun i => i ≤ g.w.length) (fun i => g.w.length - i) 0 (Weak.of _ [] [] (by simp) (by simp) ?_ trivial) (by omega) fun i hi R hn hr he => ?_
  · simp -implicitDefEqProofs only [ints, rows, Nat.reduceBEq, wkR, Nat.reduceEqDiff, ↓reduceIte, wrR, List.take_zero, totW_nil]
  · rcases Nat.lt_or_ge i g.w.length with h9 | h9
    · obtain ⟨r, hx⟩ : ∃ r, g.w[i]? = some r := ⟨_, List.getElem?_eq_getElem h9⟩
      simp -implicitDefEqProofs only [go_sem, evR, ints, rows, rat, rats, hx, decide_eq_true (show (i : Int) < (g.w.length : Int) by omega)]
      refine ⟨by omega, by omega, by omega, ?_⟩
      refine CallW.pure (impl_sumOf_ok r (smallW_row h (List.mem_of_getElem? hx))) [] rfl Try.call200 ?_ (by first | trivial | simp [T.noSh, T.noShL, rat]) rfl ?_
      · simp -implicitDefEqProofs only [agR, Nat.reduceLeDiff, Nat.reduceSub, vaR, go_sem, ints, rows, rat, rats, ratsO, rtR, intsO, rowsO]
      simp -implicitDefEqProofs only [go_sem, evR, ints, rows, rat, rats]
      have e := totW_snoc (g.w.take i) r
      rw [← take_snoc hx] at e
      have hb := totW_bound h (i + 1)
      refine hn _ (i + 1) (Weak.of _ [] [] (by simp) (by simp) ?_ trivial) (by omega) (by omega)
      simp -implicitDefEqProofs only [ints, rows, Nat.reduceBEq, wkR, Nat.reduceEqDiff, ↓reduceIte, wrR, next64 h9 (by omega), ← e, wrap64 (n := totW (g.w.take (i + 1))) (by omega) (by omega)]
    · simp -implicitDefEqProofs only [go_sem, evR, ints, rows, rat, rats, decide_eq_false (show ¬ (i : Int) < (g.w.length : Int) by omega)]
      refine he _ _ ?_
      simp -implicitDefEqProofs only [go_sem, evR, ints, rows, rat, rats]
      rw [List.take_of_length_le (by omega)]
theorem spec_l21Total_ok (g : Gm) (h : smallW g.w) : Pure Try.prog 191 [gameT g] (.i (totW g.w)) := by
  have hl := h.1
  refine fun_spec_l21Total (by simp) ?_
  simp -implicitDefEqProofs only [go_sem, evR, ints, rows, rat, rats, c_spec_l21Total, gameT, nodes]
  refine SemC.loopR (σ := Nat) (fun i => St.of [(1, .own 1), (3, .t (.i (totW (g.w.take i)))), (4, .t (.i i))] [(1, .box [nodes g.nd, rows g.w, rows g.v])]) (fun i => i ≤ g.w.length) (fun i => g.w.length - i) 0 (Weak.of _ _ [some 1] (by simp) (by simp) ?_ ?_) (by omega) fun i hi R hn hr he => ?_
  · simp -implicitDefEqProofs only [ints, rows, Nat.reduceBEq, wkR, Nat.reduceEqDiff, ↓reduceIte, wrR, List.take_zero, totW_nil, nodes]
  · exact ⟨⟨_, rfl, .refl _⟩, rfl, trivial⟩
  · rcases Nat.lt_or_ge i g.w.length with h9 | h9
    · obtain ⟨r, hx⟩ : ∃ r, g.w[i]? = some r := ⟨_, List.getElem?_eq_getElem h9⟩
      simp -implicitDefEqProofs only [go_sem, evR, ints, rows, rat, rats, nodes, hx, decide_eq_true (show (i : Int) < (g.w.length : Int) by omega)]
      refine ⟨by omega, by omega, by omega, ?_⟩
      refine CallW.pure (spec_l01Sum_ok r (smallW_row h (List.mem_of_getElem? hx))) [] rfl Try.call187 ?_ (by first | trivial | simp [T.noSh, T.noShL, rat]) rfl ?_
      · simp -implicitDefEqProofs only [agR, Nat.reduceLeDiff, Nat.reduceSub, vaR, go_sem, ints, rows, rat, rats, ratsO, rtR, intsO, rowsO]
      simp -implicitDefEqProofs only [go_sem, evR, ints, rows, rat, rats]
      have e := totW_snoc (g.w.take i) r
      rw [← take_snoc hx] at e
      have hb := totW_bound h (i + 1)
      refine hn _ (i + 1) (Weak.of _ _ [some 1] (by simp) (by simp) ?_ ?_) (by omega) (by omega)
      · simp -implicitDefEqProofs only [ints, rows, Nat.reduceBEq, wkR, Nat.reduceEqDiff, ↓reduceIte, wrR, nodes, next64 h9 (by omega), ← e, wrap64 (n := totW (g.w.take (i + 1))) (by omega) (by omega)]
      · exact ⟨⟨_, rfl, .refl _⟩, rfl, trivial⟩
    · simp -implicitDefEqProofs only [go_sem, evR, ints, rows, rat, rats, nodes, decide_eq_false (show ¬ (i : Int) < (g.w.length : Int) by omega)]
      refine he _ _ ?_
      simp -implicitDefEqProofs only [go_sem, evR, ints, rows, rat, rats]
      rw [List.take_of_length_le (by omega)]
theorem matK_iff {m : List (List Int)} {k : Nat} {lo hi : Int} : matK m k lo hi = true ↔ m.length = k ∧ ∀ r ∈ m, r.length = k ∧ ∀ x ∈ r, lo ≤ x ∧ x ≤ hi := by
  simp only [matK, Bool.and_eq_true, decide_eq_true_eq, List.all_eq_true]
theorem matK_bad {m : List (List Int)} {k : Nat} {lo hi : Int} (h : ¬ (m.length = k ∧ ∀ r ∈ m, r.length = k ∧ ∀ x ∈ r, lo ≤ x ∧ x ≤ hi)) : matK m k lo hi = false := by
  cases hc : matK m k lo hi with
  | false => rfl
  | true => exact absurd (matK_iff.1 hc) h
theorem spec_l21Matrix_ok (m : List (List Int)) (k : Nat) (lo hi : Int) (hm : m.length ≤ 9223372036854775807) (hk : k ≤ 6) : Pure Try.prog 195 [rows m, .i k, .i lo, .i hi] (.b (matK m k lo hi)) := by
  refine fun_spec_l21Matrix (by simp) ?_
  simp -implicitDefEqProofs only [go_sem, evR, ints, rows, rat, rats, c_spec_l21Matrix]
  refine SemC.loopR (σ := Nat) (fun i => St.of [(0, .t (rows m)), (1, .t (.i k)), (2, .t (.i lo)), (3, .t (.i hi)), (9, .t (.i i))] []) (fun i => i ≤ m.length ∧ ∀ j r, j < i → m[j]? = some r → r.length = k ∧ ∀ x ∈ r, lo ≤ x ∧ x ≤ hi) (fun i => m.length - i) 0 (Weak.of _ [] [] (by simp) (by simp) ?_ trivial) ⟨by omega, fun j r hj => by omega⟩ fun i hI R hn hr he => ?_
  · simp -implicitDefEqProofs only [ints, rows, Nat.reduceBEq, wkR, Nat.reduceEqDiff, ↓reduceIte, wrR]
  · obtain ⟨hi', hrows⟩ := hI
    rcases Nat.lt_or_ge i m.length with h9 | h9
    · obtain ⟨r, hx⟩ : ∃ r, m[i]? = some r := ⟨_, List.getElem?_eq_getElem h9⟩
      simp -implicitDefEqProofs only [go_sem, evR, ints, rows, rat, rats, hx, decide_eq_true (show (i : Int) < (m.length : Int) by omega)]
      refine ⟨by omega, by omega, by omega, fun h1 => hr _ ?_, fun h1 => ?_⟩
      · simp -implicitDefEqProofs only [go_sem, evR, ints, rows, rat, rats]
        rw [matK_bad fun h => by have := (h.2 r (List.mem_of_getElem? hx)).1; simp at h1; omega]
      · have h1 : r.length = k := by simp at h1; omega
        refine SemC.loopR (σ := Nat) (fun j => St.of [(0, .t (rows m)), (1, .t (.i k)), (2, .t (.i lo)), (3, .t (.i hi)), (9, .t (.i i)), (10, .t (.i j))] []) (fun j => j ≤ k ∧ ∀ t x, t < j → r[t]? = some x → lo ≤ x ∧ x ≤ hi) (fun j => k - j) 0 (Weak.of _ [] [] (by simp) (by simp) ?_ trivial) ⟨by omega, fun j x hj => by omega⟩ fun j hJ R2 hn2 hr2 he2 => ?_
        · simp -implicitDefEqProofs only [ints, rows, Nat.reduceBEq, wkR, Nat.reduceEqDiff, ↓reduceIte, wrR]
        · obtain ⟨hj, hels⟩ := hJ
          rcases Nat.lt_or_ge j k with h8 | h8
          · obtain ⟨x, hy⟩ : ∃ x, r[j]? = some x := ⟨_, List.getElem?_eq_getElem (by omega)⟩
            simp -implicitDefEqProofs only [go_sem, evR, ints, rows, rat, rats, hx, hy, decide_eq_true (show (j : Int) < (k : Int) by omega)]
            refine ⟨by omega, by omega, by omega, by omega, by omega, by omega, ?_⟩
            refine CallW.pure (spec_l01In_ok x lo hi) [] rfl Try.call148 ?_ (by first | trivial | simp [T.noSh, T.noShL, rat]) rfl ?_
            · simp -implicitDefEqProofs only [agR, Nat.reduceLeDiff, Nat.reduceSub, vaR, go_sem, ints, rows, rat, rats, ratsO, rtR, intsO, rowsO]
            simp -implicitDefEqProofs only [go_sem, evR, ints, rows, rat, rats]
            refine ⟨fun h2 => hr2 _ ?_, fun h2 => hn2 _ (j + 1) (Weak.of _ [] [] (by simp) (by simp) ?_ trivial) ⟨by omega, fun t y ht hyt => ?_⟩ (by omega)⟩
            · simp -implicitDefEqProofs only [go_sem, evR, ints, rows, rat, rats]
              refine hr _ ?_
              simp -implicitDefEqProofs only [go_sem, evR, ints, rows, rat, rats]
              rw [matK_bad fun h => by have := (h.2 r (List.mem_of_getElem? hx)).2 x (List.mem_of_getElem? hy); have := bnT h2; simp at this; omega]
            · simp -implicitDefEqProofs only [ints, rows, Nat.reduceBEq, wkR, Nat.reduceEqDiff, ↓reduceIte, wrR, next64 h8 (by omega)]
            · by_cases htj : t = j
              · subst htj; rw [hy] at hyt; cases hyt
                have := bnF h2
                simpa using this
              · exact hels t y (by omega) hyt
          · simp -implicitDefEqProofs only [go_sem, evR, ints, rows, rat, rats, decide_eq_false (show ¬ (j : Int) < (k : Int) by omega)]
            refine he2 _ _ ?_
            simp -implicitDefEqProofs only [go_sem, evR, ints, rows, rat, rats]
            refine hn _ (i + 1) (Weak.of _ [] [] (by simp) (by simp) ?_ trivial) ⟨by omega, fun t y ht hyt => ?_⟩ (by omega)
            · simp -implicitDefEqProofs only [ints, rows, Nat.reduceBEq, wkR, Nat.reduceEqDiff, ↓reduceIte, wrR, next63 h9 hm]
            · by_cases htj : t = i
              · subst htj; rw [hx] at hyt; cases hyt
                refine ⟨h1, fun z hz => ?_⟩
                obtain ⟨u, hu, rfl⟩ := List.mem_iff_getElem.1 hz
                exact hels u _ (by omega) (List.getElem?_eq_getElem hu)
              · exact hrows t y (by omega) hyt
    · simp -implicitDefEqProofs only [go_sem, evR, ints, rows, rat, rats, decide_eq_false (show ¬ (i : Int) < (m.length : Int) by omega)]
      refine he _ _ ?_
      simp -implicitDefEqProofs only [go_sem, evR, ints, rows, rat, rats]
      have hall : ∀ r ∈ m, r.length = k ∧ ∀ x ∈ r, lo ≤ x ∧ x ≤ hi := fun r hr => by
        obtain ⟨u, hu, rfl⟩ := List.mem_iff_getElem.1 hr
        exact hrows u _ (by omega) (List.getElem?_eq_getElem hu)
      by_cases hmk : m.length = k
      · rw [matK_iff.2 ⟨hmk, hall⟩, hmk]; simp [T.b]
      · rw [matK_bad fun h => hmk h.1]
        have e : ((m.length : Int) == (k : Int)) = false := by simp; omega
        rw [e]
theorem isGameB_tree {g : Gm} (h : isTreeB g.nd = false) : isGameB g = false := by rw [isGameB, h]; rfl
theorem spec_IsGame_ok (g : Gm) (hg : gameL g) : Pure Try.prog 139 [gameT g] (.b (isGameB g)) := by
  obtain ⟨hg1, hg2, hg3, hg4⟩ := hg
  have ht := spec_IsTree_ok g.nd hg1 hg2
  simp only [treeT, nodes] at ht
  refine fun_spec_IsGame (by simp) ?_
  simp -implicitDefEqProofs only [go_sem, evR, ints, rows, rat, rats, c_spec_IsGame, gameT, nodes]
  refine CallW.pure ht [] rfl Try.call194 ?_ (by first | trivial | simp [T.noSh, T.noShL, rat]) rfl ?_
  · simp -implicitDefEqProofs only [agR, Nat.reduceLeDiff, Nat.reduceSub, vaR, go_sem, ints, rows, rat, rats, ratsO, rtR, intsO, rowsO]
  simp -implicitDefEqProofs only [go_sem, evR, ints, rows, rat, rats]
  refine ⟨fun h1 => ?_, fun h1 => by rw [isGameB_tree (by simpa using h1)]⟩
  have h1 : isTreeB g.nd = true := by simpa using h1
  refine CallW.pure (spec_l01In_ok g.w.length 1 6) [] rfl Try.call148 ?_ (by first | trivial | simp [T.noSh, T.noShL, rat]) rfl ?_
  · simp -implicitDefEqProofs only [agR, Nat.reduceLeDiff, Nat.reduceSub, vaR, go_sem, ints, rows, rat, rats, ratsO, rtR, intsO, rowsO]
  simp -implicitDefEqProofs only [go_sem, evR, ints, rows, rat, rats]
  refine ⟨fun h2 h2' => ?_, fun h2 => ?_⟩
  rotate_left
  · have h2 : ¬ (1 ≤ g.w.length ∧ g.w.length ≤ 6) := by omega
    rw [isGameB, h1, decide_eq_false h2]; rfl
  have h2 : 1 ≤ g.w.length ∧ g.w.length ≤ 6 := by omega
  have hm1 := spec_l21Matrix_ok g.w g.w.length 0 9 hg3.1 h2.2
  have hm2 := spec_l21Matrix_ok g.v g.w.length (-1) 1 hg4.1 h2.2
  simp only [rows] at hm1 hm2
  refine CallW.pure hm1 [] rfl Try.call195 ?_ (by first | trivial | simp [T.noSh, T.noShL, rat]) rfl ?_
  · simp -implicitDefEqProofs only [agR, Nat.reduceLeDiff, Nat.reduceSub, vaR, go_sem, ints, rows, rat, rats, ratsO, rtR, intsO, rowsO]
  simp -implicitDefEqProofs only [go_sem, evR, ints, rows, rat, rats]
  refine ⟨fun h3 => ?_, fun h3 => ?_⟩
  rotate_left
  · have h3 : matK g.w g.w.length 0 9 = false := by simpa using h3
    rw [isGameB, h3]; simp
  have h3 : matK g.w g.w.length 0 9 = true := by simpa using h3
  refine CallW.pure hm2 [] rfl Try.call195 ?_ (by first | trivial | simp [T.noSh, T.noShL, rat]) rfl ?_
  · simp -implicitDefEqProofs only [agR, Nat.reduceLeDiff, Nat.reduceSub, vaR, go_sem, ints, rows, rat, rats, ratsO, rtR, intsO, rowsO]
  simp -implicitDefEqProofs only [go_sem, evR, ints, rows, rat, rats]
  refine ⟨fun h4 => ?_, fun h4 => ?_⟩
  rotate_left
  · have h4 : matK g.v g.w.length (-1) 1 = false := by simpa using h4
    rw [isGameB, h4]; simp
  have h4 : matK g.v g.w.length (-1) 1 = true := by simpa using h4
  have hw := spec_l21Total_ok g (smallW_of h3 h2.2)
  simp only [gameT, nodes, rows] at hw
  refine CallW.pure hw [] rfl Try.call191 ?_ (by first | trivial | simp [T.noSh, T.noShL, rat]) rfl ?_
  · simp -implicitDefEqProofs only [agR, Nat.reduceLeDiff, Nat.reduceSub, vaR, go_sem, ints, rows, rat, rats, ratsO, rtR, intsO, rowsO]
  simp -implicitDefEqProofs only [go_sem, evR, ints, rows, rat, rats]
  rw [isGameB, h1, decide_eq_true h2, h3, h4]; rfl
end
end Go.Ab

/- Contracts: valid games, the program's. -/
set_option linter.unusedSimpArgs false
set_option linter.unusedVariables false
namespace Go.Ab
open Go.Proofs

section
attribute [-go_sem] load1C
def rowK (k : Nat) (lo hi : Int) (r : List Int) : Prop := r.length = k ∧ (r.all fun x => decide (lo ≤ x ∧ x ≤ hi)) = true
theorem matK_rows {m : List (List Int)} {k : Nat} {lo hi : Int} (hm : m.length = k) (h : ∀ i r, i < k → m[i]? = some r → rowK k lo hi r) : matK m k lo hi = true := by
  refine matK_iff.2 ⟨hm, fun r hr => ?_⟩
  obtain ⟨u, hu, rfl⟩ := List.mem_iff_getElem.1 hr
  obtain ⟨h1, h2⟩ := h u _ (by omega) (List.getElem?_eq_getElem hu)
  refine ⟨h1, fun x hx => ?_⟩
  rw [List.all_eq_true] at h2
  simpa using h2 x hx
theorem matK_row {m : List (List Int)} {k : Nat} {lo hi : Int} (h : matK m k lo hi = true) {i : Nat} {r : List Int} (hr : m[i]? = some r) : rowK k lo hi r := by
  obtain ⟨h1, h2⟩ := matK_iff.1 h
  obtain ⟨h3, h4⟩ := h2 r (List.mem_of_getElem? hr)
  exact ⟨h3, List.all_eq_true.2 fun x hx => decide_eq_true (h4 x hx)⟩
theorem isGameB_parts {g : Gm} (h : isGameB g = true) : isTreeB g.nd = true ∧ (1 ≤ g.w.length ∧ g.w.length ≤ 6) ∧ matK g.w g.w.length 0 9 = true ∧ matK g.v g.w.length (-1) 1 = true ∧ 0 < totW g.w := by
  simp only [isGameB, Bool.and_eq_true, decide_eq_true_eq] at h
  exact ⟨h.1.1.1.1, h.1.1.1.2, h.1.1.2, h.1.2, h.2⟩
theorem isGameB_no {g : Gm} (h : isGameB g = true → False) : isGameB g = false := by
  cases hc : isGameB g with
  | false => rfl
  | true => exact (h hc).elim
theorem impl_IsGame_ok (g : Gm) (hg : gameL g) : Pure Try.prog 115 [gameT g] (.b (isGameB g)) := by
  obtain ⟨hg1, hg2, hg3, hg4⟩ := hg
  have ht := impl_IsTree_ok g.nd hg1 hg2
  simp only [treeT, nodes] at ht
  refine fun_impl_IsGame (by simp) ?_
  simp -implicitDefEqProofs only [go_sem, evR, ints, rows, rat, rats, c_impl_IsGame, gameT, nodes]
  refine CallW.pure ht [] rfl Try.call175 ?_ (by first | trivial | simp [T.noSh, T.noShL, rat]) rfl ?_
  · simp -implicitDefEqProofs only [agR, Nat.reduceLeDiff, Nat.reduceSub, vaR, go_sem, ints, rows, rat, rats, ratsO, rtR, intsO, rowsO]
  simp -implicitDefEqProofs only [go_sem, evR, ints, rows, rat, rats]
  refine ⟨fun h1 => ?_, fun h1 => ?_⟩
  rotate_left
  · rw [isGameB_no fun h => by have := (isGameB_parts h).1; rw [this] at h1; simp at h1]
  have h1 : isTreeB g.nd = true := by simpa using h1
  refine CallW.pure (impl_within_ok g.w.length 1 6) [] rfl Try.call110 ?_ (by first | trivial | simp [T.noSh, T.noShL, rat]) rfl ?_
  · simp -implicitDefEqProofs only [agR, Nat.reduceLeDiff, Nat.reduceSub, vaR, go_sem, ints, rows, rat, rats, ratsO, rtR, intsO, rowsO]
  simp -implicitDefEqProofs only [go_sem, evR, ints, rows, rat, rats]
  refine ⟨fun h2 => ⟨fun h3 => ?_, fun h3 => ?_⟩, fun h2 => ?_⟩
  · rw [isGameB_no fun h => by have := (isGameB_parts h).2.2.2.1; have := (matK_iff.1 this).1; simp at h3; omega]
  rotate_left
  · rw [isGameB_no fun h => by have := (isGameB_parts h).2.1; have := bnT h2; simp at this; omega]
  have h2 : 1 ≤ g.w.length ∧ g.w.length ≤ 6 := by have := bnF h2; simp only [decide_eq_true_eq] at this; omega
  have h3 : g.v.length = g.w.length := by simp at h3; omega
  refine SemC.loopR (σ := Nat) (fun i => St.of [(1, .own 1), (3, .t (.i g.w.length)), (24, .t (.i g.w.length)), (25, .t (.i i))] [(1, .box [nodes g.nd, rows g.w, rows g.v])]) (fun i => i ≤ g.w.length ∧ (∀ j r, j < i → g.w[j]? = some r → rowK g.w.length 0 9 r) ∧ ∀ j r, j < i → g.v[j]? = some r → rowK g.w.length (-1) 1 r) (fun i => g.w.length - i) 0 (Weak.of _ _ [some 1] (by simp) (by simp) ?_ ?_) ⟨by omega, fun j r hj => by omega, fun j r hj => by omega⟩ fun i hI R hn hr he => ?_
  · simp -implicitDefEqProofs only [ints, rows, Nat.reduceBEq, wkR, Nat.reduceEqDiff, ↓reduceIte, wrR, nodes]
  · exact ⟨⟨_, rfl, .refl _⟩, rfl, trivial⟩
  · obtain ⟨hi, hw, hv⟩ := hI
    rcases Nat.lt_or_ge i g.w.length with h9 | h9
    · obtain ⟨r, hx⟩ : ∃ r, g.w[i]? = some r := ⟨_, List.getElem?_eq_getElem h9⟩
      obtain ⟨q, hy⟩ : ∃ q, g.v[i]? = some q := ⟨_, List.getElem?_eq_getElem (by omega)⟩
      have hbw : ¬ rowK g.w.length 0 9 r → isGameB g = false := fun hc => isGameB_no fun h => hc (matK_row (isGameB_parts h).2.2.1 hx)
      have hbv : ¬ rowK g.w.length (-1) 1 q → isGameB g = false := fun hc => isGameB_no fun h => hc (matK_row (isGameB_parts h).2.2.2.1 hy)
      simp -implicitDefEqProofs only [go_sem, evR, ints, rows, rat, rats, nodes, hx, hy, decide_eq_true (show (i : Int) < (g.w.length : Int) by omega)]
      refine ⟨by omega, by omega, by omega, fun h4 => ⟨by omega, by omega, by omega, ?_⟩, fun h4 => hr _ ?_⟩
      rotate_left
      · simp -implicitDefEqProofs only [go_sem, evR, ints, rows, rat, rats]
        rw [hbw fun h => by have := h.1; simp at h4; omega]
      have h4 : r.length = g.w.length := by simp at h4; omega
      refine ⟨fun h5 => ⟨by omega, by omega, by omega, ?_⟩, fun h5 => hr _ ?_⟩
      rotate_left
      · simp -implicitDefEqProofs only [go_sem, evR, ints, rows, rat, rats]
        rw [hbv fun h => by have := h.1; simp at h5; omega]
      have h5 : q.length = g.w.length := by simp at h5; omega
      refine CallW.pure (impl_allWithin_ok r 0 9 (by omega)) [] rfl Try.call176 ?_ (by first | trivial | simp [T.noSh, T.noShL, rat]) rfl ?_
      · simp -implicitDefEqProofs only [agR, Nat.reduceLeDiff, Nat.reduceSub, vaR, go_sem, ints, rows, rat, rats, ratsO, rtR, intsO, rowsO]
      simp -implicitDefEqProofs only [go_sem, evR, ints, rows, rat, rats, hx, hy]
      refine ⟨fun h6 => ⟨by omega, by omega, by omega, ?_⟩, fun h6 => hr _ ?_⟩
      rotate_left
      · simp -implicitDefEqProofs only [go_sem, evR, ints, rows, rat, rats]
        rw [hbw fun h => by rw [h.2] at h6; simp at h6]
      have h6 : (r.all fun x => decide (0 ≤ x ∧ x ≤ 9)) = true := by simpa using h6
      refine CallW.pure (impl_allWithin_ok q (-1) 1 (by omega)) [] rfl Try.call176 ?_ (by first | trivial | simp [T.noSh, T.noShL, rat]) rfl ?_
      · simp -implicitDefEqProofs only [agR, Nat.reduceLeDiff, Nat.reduceSub, vaR, go_sem, ints, rows, rat, rats, ratsO, rtR, intsO, rowsO]
      simp -implicitDefEqProofs only [go_sem, evR, ints, rows, rat, rats]
      refine ⟨fun h7 => hr _ ?_, fun h7 => hn _ (i + 1) (Weak.of _ _ [some 1] (by simp) (by simp) ?_ ?_) ⟨by omega, fun j r' hj hr' => ?_, fun j r' hj hr' => ?_⟩ (by omega)⟩
      · simp -implicitDefEqProofs only [go_sem, evR, ints, rows, rat, rats]
        rw [hbv fun h => by rw [h.2] at h7; simp at h7]
      · simp -implicitDefEqProofs only [ints, rows, Nat.reduceBEq, wkR, Nat.reduceEqDiff, ↓reduceIte, wrR, nodes, next64 h9 (by omega)]
      · exact ⟨⟨_, rfl, .refl _⟩, rfl, trivial⟩
      · by_cases hji : j = i
        · subst hji; rw [hx] at hr'; cases hr'; exact ⟨h4, h6⟩
        · exact hw j r' (by omega) hr'
      · by_cases hji : j = i
        · subst hji; rw [hy] at hr'; cases hr'; exact ⟨h5, bnF h7⟩
        · exact hv j r' (by omega) hr'
    · simp -implicitDefEqProofs only [go_sem, evR, ints, rows, rat, rats, nodes, decide_eq_false (show ¬ (i : Int) < (g.w.length : Int) by omega)]
      refine he _ _ ?_
      simp -implicitDefEqProofs only [go_sem, evR, ints, rows, rat, rats]
      have hmw : matK g.w g.w.length 0 9 = true := matK_rows rfl fun j r hj hr => hw j r (by omega) hr
      have hmv : matK g.v g.w.length (-1) 1 = true := matK_rows h3 fun j r hj hr => hv j r (by omega) hr
      have hW := impl_totalWeight_ok g (smallW_of hmw h2.2)
      simp only [gameT, nodes, rows] at hW
      refine CallW.pure hW [] rfl Try.call177 ?_ (by first | trivial | simp [T.noSh, T.noShL, rat]) rfl ?_
      · simp -implicitDefEqProofs only [agR, Nat.reduceLeDiff, Nat.reduceSub, vaR, go_sem, ints, rows, rat, rats, ratsO, rtR, intsO, rowsO]
      simp -implicitDefEqProofs only [go_sem, evR, ints, rows, rat, rats]
      rw [isGameB, h1, decide_eq_true h2, hmw, hmv]; rfl
end
end Go.Ab
