/- The functions in compact form, printed by a program (CcDump.lean). -/
import Derived.Test.YtkmmkgpnlmdcfaaRows
import Derived.Test.YtkmmkgpnlmdcfaaQ3
set_option linter.unusedSimpArgs false
set_option linter.unusedVariables false
set_option maxRecDepth 20000
namespace Go.Ab
open Go.Proofs

@[go_sem] theorem q05l : q0w0 Try.prog 35 = some true := by kernel_rfl
@[go_sem] theorem q05q : q0wn Try.prog 35 = some 3 := by kernel_rfl
@[go_sem] theorem q05m : q0w0 Try.prog 47 = some true := by kernel_rfl
@[go_sem] theorem q05r : q0wn Try.prog 47 = some 2 := by kernel_rfl
@[go_sem] theorem q05n : q0w0 Try.prog 75 = some true := by kernel_rfl
@[go_sem] theorem q05s : q0wn Try.prog 75 = some 6 := by kernel_rfl
@[go_sem] theorem q05k : q0w0 Try.prog 33 = some true := by kernel_rfl
@[go_sem] theorem q05p : q0wn Try.prog 33 = some 1 := by kernel_rfl
@[go_sem] theorem q05j : q0w0 Try.prog 181 = some true := by kernel_rfl
@[go_sem] theorem q05o : q0wn Try.prog 181 = some 5 := by kernel_rfl
theorem q0wk : q0wn Try.prog 0 = some 1 := by kernel_rfl

def q16m : CC :=
 (.seq (.reg [.o (.move 2 (cb false))])
 ((.seq (.seq (.reg [.o (.move 26 (sl 0)),
 .o (.call (some 27) (cf 51) [(sl 26)])])
 ((.cond (sl 27) (.seq (.reg [.o (.move 2 (cb true))])
 (.ret))
 .skip)))
 ((.seq (.reg [.o (.move 29 (sl 0)),
 .o (.call (some 30) (cf 89) [(sl 29)]),
 .o (.move 28 (sl 30)),
 .o (.extract 31 (sl 28) 0),
 .o (.extract 32 (sl 28) 1),
 .o (.alloc 3 [.v (.slice none 0 0), .v (.slice none 0 0), .v (.slice none 0 0)]),
 .o (.store 3 (sl 3) (sl 31)),
 .o (.move 4 (sl 32))])
 ((.seq (.reg [.o (.loadN 34 3 (sl 3)),
 .o (.move 35 (sl 4)),
 .o (.call (some 36) (cf 43) [(sl 34), (sl 35)]),
 .o (.move 33 (sl 36)),
 .o (.extract 37 (sl 33) 0),
 .o (.extract 38 (sl 33) 1),
 .o (.extract 39 (sl 33) 2),
 .o (.alloc 5 [.v (.int .i64 0), .v (.slice none 0 0)]),
 .o (.alloc 6 [.v (.int .i64 0), .v (.slice none 0 0)]),
 .o (.store 2 (sl 5) (sl 37)),
 .o (.store 2 (sl 6) (sl 38)),
 .o (.move 7 (sl 39))])
 ((.seq (.reg [.o (.loadN 41 3 (sl 3)),
 .o (.move 42 (sl 4)),
 .o (.call (some 43) (cf 42) [(sl 41), (sl 42)]),
 .o (.move 40 (sl 43)),
 .o (.extract 44 (sl 40) 0),
 .o (.extract 45 (sl 40) 1),
 .o (.extract 46 (sl 40) 2),
 .o (.alloc 8 [.v (.int .i64 0), .v (.slice none 0 0)]),
 .o (.alloc 9 [.v (.int .i64 0), .v (.slice none 0 0)]),
 .o (.store 2 (sl 8) (sl 44)),
 .o (.store 2 (sl 9) (sl 45)),
 .o (.move 10 (sl 46))])
 ((.seq (.reg [.o (.move 48 (sl 0)),
 .o (.call (some 49) (cf 90) [(sl 48)]),
 .o (.move 47 (sl 49)),
 .o (.extract 50 (sl 47) 0),
 .o (.extract 51 (sl 47) 1),
 .o (.alloc 11 [.v (.slice none 0 0), .v (.slice none 0 0), .v (.slice none 0 0)]),
 .o (.store 3 (sl 11) (sl 50)),
 .o (.move 12 (sl 51))])
 ((.seq (.reg [.o (.loadN 53 3 (sl 11)),
 .o (.move 54 (sl 12)),
 .o (.call (some 55) (cf 38) [(sl 53), (sl 54)]),
 .o (.move 52 (sl 55)),
 .o (.extract 56 (sl 52) 0),
 .o (.extract 57 (sl 52) 1),
 .o (.extract 58 (sl 52) 2),
 .o (.alloc 13 [.v (.int .i64 0), .v (.slice none 0 0)]),
 .o (.alloc 14 [.v (.int .i64 0), .v (.slice none 0 0)]),
 .o (.store 2 (sl 13) (sl 56)),
 .o (.store 2 (sl 14) (sl 57)),
 .o (.move 15 (sl 58))])
 ((.seq (.reg [.o (.loadN 60 3 (sl 11)),
 .o (.move 61 (sl 12)),
 .o (.call (some 62) (cf 37) [(sl 60), (sl 61)]),
 .o (.move 59 (sl 62)),
 .o (.extract 63 (sl 59) 0),
 .o (.extract 64 (sl 59) 1),
 .o (.extract 65 (sl 59) 2),
 .o (.alloc 16 [.v (.int .i64 0), .v (.slice none 0 0)]),
 .o (.alloc 17 [.v (.int .i64 0), .v (.slice none 0 0)]),
 .o (.store 2 (sl 16) (sl 63)),
 .o (.store 2 (sl 17) (sl 64)),
 .o (.move 18 (sl 65))])
 ((.seq (.seq (.reg [.o (.move 66 (sl 7)),
 .o (.move 67 (sl 10)),
 .o (.bin 68 .neq (sl 66) (sl 67)),
 .o (.move 69 (sl 68)),
 .g 69 false (some 70) (.loadN 70 2 (sl 5)),
 .g 69 false (some 71) (.loadN 71 2 (sl 8)),
 .g 69 false (some 72) (.call (some 72) (cf 65) [(sl 70), (sl 71)]),
 .g 69 false (some 73) (.un 73 .not (sl 72)),
 .o (.pick 74 (sl 69) (cb true) (sl 73)),
 .o (.move 75 (sl 74)),
 .g 75 false (some 76) (.loadN 76 2 (sl 6)),
 .g 75 false (some 77) (.loadN 77 2 (sl 9)),
 .g 75 false (some 78) (.call (some 78) (cf 65) [(sl 76), (sl 77)]),
 .g 75 false (some 79) (.un 79 .not (sl 78)),
 .o (.pick 80 (sl 75) (cb true) (sl 79)),
 .o (.move 81 (sl 80)),
 .g 81 false (some 82) (.move 82 (sl 15)),
 .g 81 false (some 83) (.move 83 (sl 18)),
 .g 81 false (some 84) (.bin 84 .neq (sl 82) (sl 83)),
 .o (.pick 85 (sl 81) (cb true) (sl 84)),
 .o (.move 86 (sl 85)),
 .g 86 false (some 87) (.loadN 87 2 (sl 13)),
 .g 86 false (some 88) (.loadN 88 2 (sl 16)),
 .g 86 false (some 89) (.call (some 89) (cf 65) [(sl 87), (sl 88)]),
 .g 86 false (some 90) (.un 90 .not (sl 89)),
 .o (.pick 91 (sl 86) (cb true) (sl 90)),
 .o (.move 92 (sl 91)),
 .g 92 false (some 93) (.loadN 93 2 (sl 14)),
 .g 92 false (some 94) (.loadN 94 2 (sl 17)),
 .g 92 false (some 95) (.call (some 95) (cf 65) [(sl 93), (sl 94)]),
 .g 92 false (some 96) (.un 96 .not (sl 95)),
 .o (.pick 97 (sl 92) (cb true) (sl 96))])
 ((.cond (sl 97) (.seq (.reg [.o (.move 2 (cb false))])
 (.ret))
 .skip)))
 ((.seq (.seq (.reg [.o (.move 98 (sl 15)),
 .o (.bin 99 .eql (sl 98) (ci 0)),
 .o (.move 100 (sl 99)),
 .g 100 true (some 101) (.loadN 101 3 (sl 11)),
 .g 100 true (some 102) (.loadN 102 2 (sl 13)),
 .g 100 true (some 103) (.call (some 103) (cf 91) [(sl 101), (sl 102)]),
 .g 100 true (some 104) (.un 104 .not (sl 103)),
 .g 100 true (some 105) (.move 105 (sl 104)),
 .g 105 false (some 106) (.loadN 106 3 (sl 11)),
 .g 105 false (some 107) (.loadN 107 2 (sl 14)),
 .g 105 false (some 108) (.call (some 108) (cf 91) [(sl 106), (sl 107)]),
 .g 105 false (some 109) (.un 109 .not (sl 108)),
 .g 100 true (some 110) (.pick 110 (sl 105) (cb true) (sl 109)),
 .o (.pick 111 (sl 100) (sl 110) (cb false))])
 ((.cond (sl 111) (.seq (.reg [.o (.move 2 (cb false))])
 (.ret))
 .skip)))
 ((.seq (.seq (.reg [.o (.move 112 (sl 7)),
 .o (.bin 113 .neq (sl 112) (ci 0))])
 ((.cond (sl 113) (.seq (.reg [.o (.move 2 (cb true))])
 (.ret))
 .skip)))
 ((.seq (.reg [.o (.loadN 115 3 (sl 3)),
 .o (.call (some 116) (cf 43) [(sl 115), (ci 0)]),
 .o (.move 114 (sl 116)),
 .o (.extract 117 (sl 114) 0),
 .o (.extract 118 (sl 114) 1),
 .o (.extract 119 (sl 114) 2),
 .o (.alloc 19 [.v (.int .i64 0), .v (.slice none 0 0)]),
 .o (.alloc 20 [.v (.int .i64 0), .v (.slice none 0 0)]),
 .o (.store 2 (sl 19) (sl 117)),
 .o (.store 2 (sl 20) (sl 118)),
 .o (.move 21 (sl 119))])
 ((.seq (.reg [.o (.loadN 121 3 (sl 3)),
 .o (.call (some 122) (cf 67) [(sl 121), (ci 0)]),
 .o (.move 120 (sl 122)),
 .o (.extract 123 (sl 120) 0),
 .o (.extract 124 (sl 120) 1),
 .o (.alloc 22 [.v (.int .i64 0), .v (.slice none 0 0)]),
 .o (.store 2 (sl 22) (sl 123)),
 .o (.move 23 (sl 124))])
 ((.seq (.reg [.o (.loadN 126 3 (sl 3)),
 .o (.call (some 127) (cf 67) [(sl 126), (ci 1)]),
 .o (.move 125 (sl 127)),
 .o (.extract 128 (sl 125) 0),
 .o (.extract 129 (sl 125) 1),
 .o (.alloc 24 [.v (.int .i64 0), .v (.slice none 0 0)]),
 .o (.store 2 (sl 24) (sl 128)),
 .o (.move 25 (sl 129))])
 ((.seq (.reg [.o (.move 130 (sl 21)),
 .o (.bin 131 .eql (sl 130) (ci 0)),
 .o (.move 132 (sl 131)),
 .g 132 true (some 133) (.move 133 (sl 23)),
 .g 132 true (some 134) (.bin 134 .eql (sl 133) (ci 0)),
 .o (.pick 135 (sl 132) (sl 134) (cb false)),
 .o (.move 136 (sl 135)),
 .g 136 true (some 137) (.move 137 (sl 25)),
 .g 136 true (some 138) (.bin 138 .eql (sl 137) (ci 0)),
 .o (.pick 139 (sl 136) (sl 138) (cb false)),
 .o (.move 140 (sl 139)),
 .g 140 true (some 141) (.loadN 141 2 (sl 19)),
 .g 140 true (some 142) (.loadN 142 2 (sl 22)),
 .g 140 true (some 143) (.call (some 143) (cf 65) [(sl 141), (sl 142)]),
 .o (.pick 144 (sl 140) (sl 143) (cb false)),
 .o (.move 145 (sl 144)),
 .g 145 true (some 146) (.loadN 146 2 (sl 20)),
 .g 145 true (some 147) (.loadN 147 2 (sl 24)),
 .g 145 true (some 148) (.call (some 148) (cf 65) [(sl 146), (sl 147)]),
 .o (.pick 149 (sl 145) (sl 148) (cb false)),
 .o (.move 150 (sl 149)),
 .g 150 true (some 151) (.loadN 151 3 (sl 3)),
 .g 150 true (some 152) (.loadN 152 2 (sl 5)),
 .g 150 true (some 153) (.call (some 153) (cf 91) [(sl 151), (sl 152)]),
 .o (.pick 154 (sl 150) (sl 153) (cb false)),
 .o (.move 155 (sl 154)),
 .g 155 true (some 156) (.loadN 156 3 (sl 3)),
 .g 155 true (some 157) (.loadN 157 2 (sl 6)),
 .g 155 true (some 158) (.call (some 158) (cf 91) [(sl 156), (sl 157)]),
 .o (.pick 159 (sl 155) (sl 158) (cb false)),
 .o (.move 2 (sl 159))])
 (.ret))))))))))))))))))))))))))))))
theorem q174 {rin : List T} {args : List A} {Q : List T -> T -> Prop} (ha : args.length <= 160) (h : cW Try.prog 160 q16m (retP Try.prog [.tmp 2] rin.length Q) (St.of (enum 0 args) (enum 1000000000 rin))) :
    Fun Try.prog 18 rin args Q :=
  Fun.of (H := ⟨[], []⟩) Try.func18 rfl rfl rfl (by kernel_rfl) ha (by decide) h

def q0ya : CC :=
 (.seq (.reg [.o (.move 2 (cb false))])
 ((.seq (.reg [.o (.move 3 (sl 0)),
 .o (.lenS 4 (sl 3)),
 .o (.bin 5 .gtr (sl 4) (ci 4096)),
 .o (.move 2 (sl 5))])
 (.ret))))
theorem q0zf {rin : List T} {args : List A} {Q : List T -> T -> Prop} (ha : args.length <= 6) (h : cW Try.prog 6 q0ya (retP Try.prog [.tmp 2] rin.length Q) (St.of (enum 0 args) (enum 1000000000 rin))) :
    Fun Try.prog 51 rin args Q :=
  Fun.of (H := ⟨[], []⟩) Try.func51 rfl rfl rfl (by kernel_rfl) ha (by decide) h

def q16o : CC :=
 (.seq (.reg [.o (.box 2 (sl 0)),
 .o (.box 3 (sl 1)),
 .o (.move 4 (cb false))])
 ((.seq (.reg [.o (.fld 5 0 (sl 2)),
 .o (.load1 6 (sl 5)),
 .o (.fld 7 0 (sl 3)),
 .o (.load1 8 (sl 7)),
 .o (.bin 9 .eql (sl 6) (sl 8)),
 .o (.move 10 (sl 9)),
 .g 10 true (some 11) (.fld 11 1 (sl 2)),
 .g 10 true (some 12) (.load1 12 (sl 11)),
 .g 10 true (some 13) (.fld 13 1 (sl 3)),
 .g 10 true (some 14) (.load1 14 (sl 13)),
 .g 10 true (some 15) (.call (some 15) (cf 84) [(sl 12), (sl 14)]),
 .o (.pick 16 (sl 10) (sl 15) (cb false)),
 .o (.move 4 (sl 16))])
 (.ret))))
theorem q176 {rin : List T} {args : List A} {Q : List T -> T -> Prop} (ha : args.length <= 17) (h : cW Try.prog 17 q16o (retP Try.prog [.tmp 4] rin.length Q) (St.of (enum 0 args) (enum 1000000000 rin))) :
    Fun Try.prog 65 rin args Q :=
  Fun.of (H := ⟨[], []⟩) Try.func65 rfl rfl rfl (by kernel_rfl) ha (by decide) h

def q16i : CC :=
 (.seq (.reg [.o (.box 2 (sl 0)),
 .o (.alloc 4 [.v (.int .i64 0), .v (.slice none 0 0)]),
 .o (.move 5 (ci 0))])
 ((.seq (.seq (.reg [.o (.loadN 6 3 (sl 2)),
 .o (.call (some 7) (cf 115) [(sl 6)]),
 .o (.un 8 .not (sl 7))])
 ((.cond (sl 8) (.seq (.reg [.o (.build 9 [.v (.int .i64 0), .v (.slice none 0 0)] [(0, 1), (1, 1)] []),
 .o (.store 2 (sl 4) (sl 9)),
 .o (.move 5 (ci 1))])
 (.ret))
 .skip)))
 ((.seq (.seq (.reg [.o (.move 10 (sl 1)),
 .o (.call (some 11) (cf 110) [(sl 10), (ci 0), (ci 1)]),
 .o (.un 12 .not (sl 11))])
 ((.cond (sl 12) (.seq (.reg [.o (.build 13 [.v (.int .i64 0), .v (.slice none 0 0)] [(0, 1), (1, 1)] []),
 .o (.store 2 (sl 4) (sl 13)),
 .o (.move 5 (ci 2))])
 (.ret))
 .skip)))
 ((.seq (.reg [.o (.loadN 14 3 (sl 2)),
 .o (.move 15 (sl 1)),
 .o (.call (some 16) (cf 137) [(sl 14), (sl 15)]),
 .o (.store 2 (sl 4) (sl 16)),
 .o (.move 5 (ci 0))])
 (.ret))))))))
theorem q170 {rin : List T} {args : List A} {Q : List T -> T -> Prop} (ha : args.length <= 17) (h : cW Try.prog 17 q16i (retP Try.prog [.cell 4 47, .tmp 5] rin.length Q) (St.of (enum 0 args) (enum 1000000000 rin))) :
    Fun Try.prog 67 rin args Q :=
  Fun.of (H := ⟨[], []⟩) Try.func67 rfl rfl rfl (by kernel_rfl) ha (by decide) h

def q16n : CC :=
 (.seq (.reg [.o (.move 4 (cb false))])
 ((.seq (.seq (.reg [.o (.move 6 (sl 0)),
 .o (.lenS 7 (sl 6)),
 .o (.move 8 (sl 1)),
 .o (.lenS 9 (sl 8)),
 .o (.bin 10 .neq (sl 7) (sl 9))])
 ((.cond (sl 10) (.seq (.reg [.o (.move 4 (cb false))])
 (.ret))
 .skip)))
 ((.seq (.seq (.reg [.o (.move 5 (ci 0))])
 ((.block 0 (.loop (.seq (.seq (.reg [.o (.move 11 (sl 5)),
 .o (.move 12 (sl 0)),
 .o (.lenS 13 (sl 12)),
 .o (.bin 14 .lss (sl 11) (sl 13))])
 ((.cond (sl 14) .skip
 (.exit 0))))
 ((.seq (.block 1 (.seq (.draw [] [(kR, .o (.move 17 (sl 0))),
 (kR, .o (.move 18 (sl 5))),
 (kR, .o (.idx 19 1 (sl 17) (sl 18))),
 (kR, .o (.load1 20 (sl 19))),
 (kR, .o (.move 21 (sl 1))),
 (kR, .o (.move 22 (sl 5))),
 (kR, .o (.idx 23 1 (sl 21) (sl 22))),
 (kR, .o (.load1 24 (sl 23))),
 (kR, .o (.call (some 25) (cf 94) [(sl 20), (sl 24)])),
 (kR, .o (.un 26 .not (sl 25)))])
 ((.cond (sl 26) (.seq (.reg [.o (.move 4 (cb false))])
 (.ret))
 .skip))))
 ((.reg [.o (.move 15 (sl 5)),
 .o (.bin 16 .add (sl 15) (ci 1)),
 .o (.move 5 (sl 16))])))))))))
 ((.seq (.reg [.o (.move 4 (cb true))])
 (.ret))))))))
theorem q175 {rin : List T} {args : List A} {Q : List T -> T -> Prop} (ha : args.length <= 27) (h : cW Try.prog 27 q16n (retP Try.prog [.tmp 4] rin.length Q) (St.of (enum 0 args) (enum 1000000000 rin))) :
    Fun Try.prog 84 rin args Q :=
  Fun.of (H := ⟨[], []⟩) Try.func84 rfl rfl rfl (by kernel_rfl) ha (by decide) h

def q16r : CC :=
 (.seq (.reg [.o (.alloc 2 [.v (.slice none 0 0), .v (.slice none 0 0), .v (.slice none 0 0)]),
 .o (.move 3 (ci 0))])
 ((.seq (.reg [.o (.move 4 (sl 0)),
 .o (.call (some 5) (cf 119) [(sl 4)]),
 .o (.call (some 6) (cf 150) [(sl 5)]),
 .o (.extract 7 (sl 6) 0),
 .o (.extract 8 (sl 6) 1),
 .o (.store 3 (sl 2) (sl 7)),
 .o (.move 3 (sl 8))])
 (.ret))))
theorem q179 {rin : List T} {args : List A} {Q : List T -> T -> Prop} (ha : args.length <= 9) (h : cW Try.prog 9 q16r (retP Try.prog [.cell 2 35, .tmp 3] rin.length Q) (St.of (enum 0 args) (enum 1000000000 rin))) :
    Fun Try.prog 89 rin args Q :=
  Fun.of (H := ⟨[], []⟩) Try.func89 rfl rfl rfl (by kernel_rfl) ha (by decide) h

def q16s : CC :=
 (.seq (.reg [.o (.alloc 2 [.v (.slice none 0 0), .v (.slice none 0 0), .v (.slice none 0 0)]),
 .o (.move 3 (ci 0))])
 ((.seq (.reg [.o (.move 4 (sl 0)),
 .o (.call (some 5) (cf 119) [(sl 4)]),
 .o (.call (some 6) (cf 150) [(sl 5)]),
 .o (.extract 7 (sl 6) 0),
 .o (.extract 8 (sl 6) 1),
 .o (.store 3 (sl 2) (sl 7)),
 .o (.move 3 (sl 8))])
 (.ret))))
theorem q17a {rin : List T} {args : List A} {Q : List T -> T -> Prop} (ha : args.length <= 9) (h : cW Try.prog 9 q16s (retP Try.prog [.cell 2 35, .tmp 3] rin.length Q) (St.of (enum 0 args) (enum 1000000000 rin))) :
    Fun Try.prog 90 rin args Q :=
  Fun.of (H := ⟨[], []⟩) Try.func90 rfl rfl rfl (by kernel_rfl) ha (by decide) h

def q16h : CC :=
 (.seq (.reg [.o (.box 2 (sl 0)),
 .o (.box 3 (sl 1)),
 .o (.move 4 (cb false))])
 ((.seq (.seq (.reg [.o (.loadN 5 3 (sl 2)),
 .o (.call (some 6) (cf 115) [(sl 5)]),
 .o (.un 7 .not (sl 6)),
 .o (.move 8 (sl 7)),
 .g 8 false (some 9) (.fld 9 0 (sl 3)),
 .g 8 false (some 10) (.load1 10 (sl 9)),
 .g 8 false (some 11) (.call (some 11) (cf 110) [(sl 10), (ci 0), (ci 1)]),
 .g 8 false (some 12) (.un 12 .not (sl 11)),
 .o (.pick 13 (sl 8) (cb true) (sl 12))])
 ((.cond (sl 13) (.seq (.reg [.o (.move 4 (cb false))])
 (.ret))
 .skip)))
 ((.seq (.reg [.o (.loadN 14 3 (sl 2)),
 .o (.loadN 15 2 (sl 3)),
 .o (.call (some 16) (cf 153) [(sl 14), (sl 15)]),
 .o (.move 4 (sl 16))])
 (.ret))))))
theorem q16z {rin : List T} {args : List A} {Q : List T -> T -> Prop} (ha : args.length <= 17) (h : cW Try.prog 17 q16h (retP Try.prog [.tmp 4] rin.length Q) (St.of (enum 0 args) (enum 1000000000 rin))) :
    Fun Try.prog 91 rin args Q :=
  Fun.of (H := ⟨[], []⟩) Try.func91 rfl rfl rfl (by kernel_rfl) ha (by decide) h

def q0yb : CC :=
 (.seq (.reg [.o (.move 4 (cb false))])
 ((.seq (.seq (.reg [.o (.move 6 (sl 0)),
 .o (.lenS 7 (sl 6)),
 .o (.move 8 (sl 1)),
 .o (.lenS 9 (sl 8)),
 .o (.bin 10 .neq (sl 7) (sl 9))])
 ((.cond (sl 10) (.seq (.reg [.o (.move 4 (cb false))])
 (.ret))
 .skip)))
 ((.seq (.seq (.reg [.o (.move 5 (ci 0))])
 ((.block 0 (.loop (.seq (.seq (.reg [.o (.move 11 (sl 5)),
 .o (.move 12 (sl 0)),
 .o (.lenS 13 (sl 12)),
 .o (.bin 14 .lss (sl 11) (sl 13))])
 ((.cond (sl 14) .skip
 (.exit 0))))
 ((.seq (.block 1 (.seq (.draw [] [(kR, .o (.move 17 (sl 0))),
 (kR, .o (.move 18 (sl 5))),
 (kR, .o (.idx 19 1 (sl 17) (sl 18))),
 (kR, .o (.load1 20 (sl 19))),
 (kR, .o (.move 21 (sl 1))),
 (kR, .o (.move 22 (sl 5))),
 (kR, .o (.idx 23 1 (sl 21) (sl 22))),
 (kR, .o (.load1 24 (sl 23))),
 (kR, .o (.bin 25 .neq (sl 20) (sl 24)))])
 ((.cond (sl 25) (.seq (.reg [.o (.move 4 (cb false))])
 (.ret))
 .skip))))
 ((.reg [.o (.move 15 (sl 5)),
 .o (.bin 16 .add (sl 15) (ci 1)),
 .o (.move 5 (sl 16))])))))))))
 ((.seq (.reg [.o (.move 4 (cb true))])
 (.ret))))))))
theorem q0zg {rin : List T} {args : List A} {Q : List T -> T -> Prop} (ha : args.length <= 26) (h : cW Try.prog 26 q0yb (retP Try.prog [.tmp 4] rin.length Q) (St.of (enum 0 args) (enum 1000000000 rin))) :
    Fun Try.prog 94 rin args Q :=
  Fun.of (H := ⟨[], []⟩) Try.func94 rfl rfl rfl (by kernel_rfl) ha (by decide) h

def q04h : CC :=
 (.seq (.reg [.o (.move 2 (ci 0))])
 ((.seq (.seq (.reg [.o (.move 5 (sl 0)),
 .o (.lenS 6 (sl 5)),
 .o (.bin 7 .lss (sl 6) (ci 1))])
 ((.cond (sl 7) (.reg [.o (.bad (some 8)),
 .o (.bad none)])
 .skip)))
 ((.seq (.reg [.o (.move 9 (sl 0)),
 .o (.idx 10 1 (sl 9) (ci 0)),
 .o (.load1 11 (sl 10)),
 .o (.move 3 (sl 11))])
 ((.seq (.seq (.reg [.o (.move 4 (ci 1))])
 ((.block 0 (.loop (.seq (.seq (.reg [.o (.move 12 (sl 4)),
 .o (.move 13 (sl 0)),
 .o (.lenS 14 (sl 13)),
 .o (.bin 15 .lss (sl 12) (sl 14))])
 ((.cond (sl 15) .skip
 (.exit 0))))
 ((.seq (.block 1 (.reg [.o (.move 18 (sl 3)),
 .o (.move 19 (sl 0)),
 .o (.move 20 (sl 4)),
 .o (.idx 21 1 (sl 19) (sl 20)),
 .o (.load1 22 (sl 21)),
 .o (.mm 23 true (sl 18) (sl 22)),
 .o (.move 3 (sl 23))]))
 ((.reg [.o (.move 16 (sl 4)),
 .o (.bin 17 .add (sl 16) (ci 1)),
 .o (.move 4 (sl 17))])))))))))
 ((.seq (.reg [.o (.move 24 (sl 3)),
 .o (.move 2 (sl 24))])
 (.ret))))))))))
theorem q0bf {rin : List T} {args : List A} {Q : List T -> T -> Prop} (ha : args.length <= 25) (h : cW Try.prog 25 q04h (retP Try.prog [.tmp 2] rin.length Q) (St.of (enum 0 args) (enum 1000000000 rin))) :
    Fun Try.prog 106 rin args Q :=
  Fun.of (H := ⟨[], []⟩) Try.func106 rfl rfl rfl (by kernel_rfl) ha (by decide) h

def q058 : CC :=
 (.seq (.reg [.o (.box 3 (sl 0)),
 .o (.move 6 (ci 0))])
 ((.seq (.seq (.reg [.o (.loadN 7 3 (sl 3)),
 .o (.call (some 8) (cf 139) [(sl 7)]),
 .o (.un 9 .not (sl 8))])
 ((.cond (sl 9) (.seq (.reg [.o (.move 6 (ci 1))])
 (.ret))
 .skip)))
 ((.seq (.seq (.reg [.o (.move 10 (sl 2)),
 .o (.call (some 11) (cf 148) [(sl 10), (ci 0), (ci 30)]),
 .o (.un 12 .not (sl 11)),
 .o (.move 13 (sl 12)),
 .g 13 false (some 14) (.move 14 (sl 1)),
 .g 13 false (some 15) (.call (some 15) (cf 148) [(sl 14), (ci 0), (ci 1)]),
 .g 13 false (some 16) (.un 16 .not (sl 15)),
 .o (.pick 17 (sl 13) (cb true) (sl 16))])
 ((.cond (sl 17) (.seq (.reg [.o (.move 6 (ci 2))])
 (.ret))
 .skip)))
 ((.seq (.reg [.o (.move 6 (ci 0))])
 (.ret))))))))
theorem q0c6 {rin : List T} {args : List A} {Q : List T -> T -> Prop} (ha : args.length <= 18) (h : cW Try.prog 18 q058 (retP Try.prog [.tmp 6] rin.length Q) (St.of (enum 0 args) (enum 1000000000 rin))) :
    Fun Try.prog 107 rin args Q :=
  Fun.of (H := ⟨[], []⟩) Try.func107 rfl rfl rfl (by kernel_rfl) ha (by decide) h

def q16t : CC :=
 (.seq (.reg [.o (.box 2 (sl 0)),
 .o (.move 4 (cv (.pointer none)))])
 ((.seq (.reg [.o (.loadN 6 3 (sl 2)),
 .o (.call (some 7) (cf 168) [(sl 6)]),
 .o (.move 5 (sl 7))])
 ((.seq (.block 0 (.loop (.seq (.seq (.reg [.o (.move 8 (sl 1)),
 .o (.bin 9 .gtr (sl 8) (ci 0))])
 ((.cond (sl 9) .skip
 (.exit 0))))
 ((.seq (.block 1 (.reg [.o (.move 12 (sl 5)),
 .o (.call (some 13) (cf 169) [(sl 12)])]))
 ((.reg [.o (.move 10 (sl 1)),
 .o (.bin 11 .sub (sl 10) (ci 1)),
 .o (.move 1 (sl 11))])))))))
 ((.seq (.reg [.o (.move 14 (sl 5)),
 .o (.move 4 (sl 14))])
 (.ret))))))))
theorem q17b {rin : List T} {args : List A} {Q : List T -> T -> Prop} (ha : args.length <= 15) (h : cW Try.prog 15 q16t (retP Try.prog [.tmp 4] rin.length Q) (St.of (enum 0 args) (enum 1000000000 rin))) :
    Fun Try.prog 108 rin args Q :=
  Fun.of (H := ⟨[], []⟩) Try.func108 rfl rfl rfl (by kernel_rfl) ha (by decide) h

def q16k : CC :=
 (.seq (.reg [.o (.box 2 (sl 0)),
 .o (.move 4 (cv (.pointer none))),
 .o (.move 5 (ci 0))])
 ((.seq (.seq (.reg [.o (.loadN 7 3 (sl 2)),
 .o (.call (some 8) (cf 115) [(sl 7)]),
 .o (.un 9 .not (sl 8))])
 ((.cond (sl 9) (.seq (.reg [.o (.move 4 (cv (.pointer none))),
 .o (.move 5 (ci 1))])
 (.ret))
 .skip)))
 ((.seq (.seq (.reg [.o (.move 10 (sl 1)),
 .o (.call (some 11) (cf 110) [(sl 10), (ci 0), (ci 30)]),
 .o (.un 12 .not (sl 11))])
 ((.cond (sl 12) (.seq (.reg [.o (.move 4 (cv (.pointer none))),
 .o (.move 5 (ci 2))])
 (.ret))
 .skip)))
 ((.seq (.reg [.o (.loadN 13 3 (sl 2)),
 .o (.call (some 14) (cf 170) [(sl 13)]),
 .o (.move 6 (sl 14))])
 ((.seq (.seq (.reg [.o (.move 15 (sl 1)),
 .o (.move 16 (ci 0))])
 ((.block 0 (.loop (.seq (.reg [.o (.bin 17 .lss (sl 16) (sl 15))])
 ((.seq (.cond (sl 17) .skip
 (.exit 0))
 ((.seq (.block 1 (.reg [.o (.move 18 (sl 6)),
 .o (.call (some 19) (cf 171) [(sl 18)])]))
 ((.reg [.o (.bin 20 .add (sl 16) (ci 1)),
 .o (.move 16 (sl 20))])))))))))))
 ((.seq (.reg [.o (.move 21 (sl 6)),
 .o (.move 4 (sl 21)),
 .o (.move 5 (ci 0))])
 (.ret))))))))))))
theorem q172 {rin : List T} {args : List A} {Q : List T -> T -> Prop} (ha : args.length <= 22) (h : cW Try.prog 22 q16k (retP Try.prog [.tmp 4, .tmp 5] rin.length Q) (St.of (enum 0 args) (enum 1000000000 rin))) :
    Fun Try.prog 109 rin args Q :=
  Fun.of (H := ⟨[], []⟩) Try.func109 rfl rfl rfl (by kernel_rfl) ha (by decide) h

def q03v : CC :=
 (.seq (.reg [.o (.move 6 (cb false))])
 ((.seq (.reg [.o (.move 7 (sl 0)),
 .o (.move 8 (sl 1)),
 .o (.bin 9 .geq (sl 7) (sl 8)),
 .o (.move 10 (sl 9)),
 .g 10 true (some 11) (.move 11 (sl 0)),
 .g 10 true (some 12) (.move 12 (sl 2)),
 .g 10 true (some 13) (.bin 13 .leq (sl 11) (sl 12)),
 .o (.pick 14 (sl 10) (sl 13) (cb false)),
 .o (.move 6 (sl 14))])
 (.ret))))
theorem q0at {rin : List T} {args : List A} {Q : List T -> T -> Prop} (ha : args.length <= 15) (h : cW Try.prog 15 q03v (retP Try.prog [.tmp 6] rin.length Q) (St.of (enum 0 args) (enum 1000000000 rin))) :
    Fun Try.prog 110 rin args Q :=
  Fun.of (H := ⟨[], []⟩) Try.func110 rfl rfl rfl (by kernel_rfl) ha (by decide) h

def q05f : CC :=
 (.seq (.reg [.o (.alloc 4 [.v (.int .i64 0), .v (.slice none 0 0)])])
 ((.seq (.reg [.o (.bslice 9 1 0 []),
 .o (.move 5 (sl 9))])
 ((.seq (.seq (.reg [.o (.move 6 (ci 0))])
 ((.block 0 (.loop (.seq (.seq (.reg [.o (.move 10 (sl 6)),
 .o (.move 11 (sl 1)),
 .o (.lenS 12 (sl 11)),
 .o (.bin 13 .lss (sl 10) (sl 12))])
 ((.cond (sl 13) .skip
 (.exit 0))))
 ((.seq (.block 1 (.seq (.reg [.o (.bslice 16 1 0 []),
 .o (.move 7 (sl 16))])
 ((.seq (.seq (.reg [.o (.move 8 (ci 0))])
 ((.block 2 (.loop (.seq (.seq (.reg [.o (.move 17 (sl 8)),
 .o (.move 18 (sl 1)),
 .o (.move 19 (sl 6)),
 .o (.idx 20 1 (sl 18) (sl 19)),
 .o (.load1 21 (sl 20)),
 .o (.lenS 22 (sl 21)),
 .o (.bin 23 .lss (sl 17) (sl 22))])
 ((.cond (sl 23) .skip
 (.exit 2))))
 ((.seq (.block 3 (.reg [.o (.move 26 (sl 7)),
 .o (.move 27 (sl 1)),
 .o (.move 28 (sl 6)),
 .o (.idx 29 1 (sl 27) (sl 28)),
 .o (.load1 30 (sl 29)),
 .o (.move 31 (sl 8)),
 .o (.idx 32 1 (sl 30) (sl 31)),
 .o (.load1 33 (sl 32)),
 .o (.mm 34 true (ci 0) (sl 33)),
 .o (.bslice 35 1 1 [(0, (sl 34))]),
 .o (.app 36 1 8 (sl 26) (sl 35)),
 .o (.move 7 (sl 36))]))
 ((.reg [.o (.move 24 (sl 8)),
 .o (.bin 25 .add (sl 24) (ci 1)),
 .o (.move 8 (sl 25))])))))))))
 ((.reg [.o (.move 37 (sl 5)),
 .o (.move 38 (sl 7)),
 .o (.call (some 39) (cf 173) [(sl 38)]),
 .o (.call (some 40) (cf 172) [(sl 39)]),
 .o (.bslice 41 1 1 [(0, (sl 40))]),
 .o (.app 42 1 24 (sl 37) (sl 41)),
 .o (.move 5 (sl 42))]))))))
 ((.reg [.o (.move 14 (sl 6)),
 .o (.bin 15 .add (sl 14) (ci 1)),
 .o (.move 6 (sl 15))])))))))))
 ((.seq (.reg [.o (.move 43 (sl 0)),
 .o (.move 44 (sl 5)),
 .o (.build 45 [.v (.int .i64 0), .v (.slice none 0 0)] [(0, 1), (1, 1)] [(0, (sl 43)), (1, (sl 44))]),
 .o (.store 2 (sl 4) (sl 45))])
 (.ret))))))))
theorem q0cd {rin : List T} {args : List A} {Q : List T -> T -> Prop} (ha : args.length <= 46) (h : cW Try.prog 46 q05f (retP Try.prog [.cell 4 47] rin.length Q) (St.of (enum 0 args) (enum 1000000000 rin))) :
    Fun Try.prog 111 rin args Q :=
  Fun.of (H := ⟨[], []⟩) Try.func111 rfl rfl rfl (by kernel_rfl) ha (by decide) h

def q036 : CC :=
 (.seq (.reg [.o (.alloc 2 [.v (.int .i64 0), .v (.slice none 0 0)]),
 .o (.alloc 3 [.v (.int .i64 0), .v (.slice none 0 0)])])
 ((.seq (.draw [9, 15] [(kR, .o (.move 4 (sl 0))),
 (kR, .o (.nilc 5 (sl 4))),
 (kR, .o (.fld 6 3 (sl 5))),
 (kR, .o (.idxA 7 2 1 (sl 6) (ci 0))),
 (kR, .o (.load1 8 (sl 7))),
 (.c false [], .o (.call (some 9) (cf 174) [(ci 0), (sl 8)])),
 (.r false [9], .o (.move 10 (sl 0))),
 (.r false [9], .o (.nilc 11 (sl 10))),
 (.r false [9], .o (.fld 12 3 (sl 11))),
 (.r false [9], .o (.idxA 13 2 1 (sl 12) (ci 1))),
 (.r false [9], .o (.load1 14 (sl 13))),
 (.c false [], .o (.call (some 15) (cf 174) [(ci 1), (sl 14)])),
 (kH, .o (.store 2 (sl 2) (sl 9))),
 (kH, .o (.store 2 (sl 3) (sl 15)))])
 (.ret))))
theorem q0a4 {rin : List T} {args : List A} {Q : List T -> T -> Prop} (ha : args.length <= 16) (h : cW Try.prog 16 q036 (retP Try.prog [.cell 2 47, .cell 3 47] rin.length Q) (St.of (enum 0 args) (enum 1000000000 rin))) :
    Fun Try.prog 112 rin args Q :=
  Fun.of (H := ⟨[], []⟩) Try.func112 rfl rfl rfl (by kernel_rfl) ha (by decide) h

def q035 : CC :=
 (.seq (.reg [.o (.alloc 2 [.v (.int .i64 0), .v (.slice none 0 0)]),
 .o (.alloc 3 [.v (.int .i64 0), .v (.slice none 0 0)])])
 ((.seq (.draw [9, 15] [(kR, .o (.move 4 (sl 0))),
 (kR, .o (.nilc 5 (sl 4))),
 (kR, .o (.fld 6 5 (sl 5))),
 (kR, .o (.idxA 7 2 1 (sl 6) (ci 0))),
 (kR, .o (.load1 8 (sl 7))),
 (.c false [], .o (.call (some 9) (cf 174) [(ci 0), (sl 8)])),
 (.r false [9], .o (.move 10 (sl 0))),
 (.r false [9], .o (.nilc 11 (sl 10))),
 (.r false [9], .o (.fld 12 5 (sl 11))),
 (.r false [9], .o (.idxA 13 2 1 (sl 12) (ci 1))),
 (.r false [9], .o (.load1 14 (sl 13))),
 (.c false [], .o (.call (some 15) (cf 174) [(ci 1), (sl 14)])),
 (kH, .o (.store 2 (sl 2) (sl 9))),
 (kH, .o (.store 2 (sl 3) (sl 15)))])
 (.ret))))
theorem q0a3 {rin : List T} {args : List A} {Q : List T -> T -> Prop} (ha : args.length <= 16) (h : cW Try.prog 16 q035 (retP Try.prog [.cell 2 47, .cell 3 47] rin.length Q) (St.of (enum 0 args) (enum 1000000000 rin))) :
    Fun Try.prog 113 rin args Q :=
  Fun.of (H := ⟨[], []⟩) Try.func113 rfl rfl rfl (by kernel_rfl) ha (by decide) h

def q03b : CC :=
 (.seq (.reg [.o (.box 1 (sl 0)),
 .o (.move 2 (cb false))])
 ((.seq (.reg [.o (.fld 5 1 (sl 1)),
 .o (.load1 6 (sl 5)),
 .o (.lenS 7 (sl 6)),
 .o (.move 3 (sl 7))])
 ((.seq (.seq (.reg [.o (.fld 8 0 (sl 1)),
 .o (.loadN 9 1 (sl 8)),
 .o (.call (some 10) (cf 175) [(sl 9)]),
 .o (.un 11 .not (sl 10)),
 .o (.move 12 (sl 11)),
 .g 12 false (some 13) (.move 13 (sl 3)),
 .g 12 false (some 14) (.call (some 14) (cf 110) [(sl 13), (ci 1), (ci 6)]),
 .g 12 false (some 15) (.un 15 .not (sl 14)),
 .o (.pick 16 (sl 12) (cb true) (sl 15)),
 .o (.move 17 (sl 16)),
 .g 17 false (some 18) (.fld 18 2 (sl 1)),
 .g 17 false (some 19) (.load1 19 (sl 18)),
 .g 17 false (some 20) (.lenS 20 (sl 19)),
 .g 17 false (some 21) (.move 21 (sl 3)),
 .g 17 false (some 22) (.bin 22 .neq (sl 20) (sl 21)),
 .o (.pick 23 (sl 17) (cb true) (sl 22))])
 ((.cond (sl 23) (.seq (.reg [.o (.move 2 (cb false))])
 (.ret))
 .skip)))
 ((.seq (.seq (.reg [.o (.move 24 (sl 3)),
 .o (.move 25 (ci 0))])
 ((.block 0 (.loop (.seq (.reg [.o (.bin 26 .lss (sl 25) (sl 24))])
 ((.seq (.cond (sl 26) .skip
 (.exit 0))
 ((.seq (.block 1 (.seq (.reg [.o (.move 27 (sl 25)),
 .o (.move 4 (sl 27))])
 ((.seq (.reg [.o (.fld 28 1 (sl 1)),
 .o (.load1 29 (sl 28)),
 .o (.move 30 (sl 4)),
 .o (.idx 31 1 (sl 29) (sl 30)),
 .o (.load1 32 (sl 31)),
 .o (.lenS 33 (sl 32)),
 .o (.move 34 (sl 3)),
 .o (.bin 35 .neq (sl 33) (sl 34)),
 .o (.move 36 (sl 35)),
 .g 36 false (some 37) (.fld 37 2 (sl 1)),
 .g 36 false (some 38) (.load1 38 (sl 37)),
 .g 36 false (some 39) (.move 39 (sl 4)),
 .g 36 false (some 40) (.idx 40 1 (sl 38) (sl 39)),
 .g 36 false (some 41) (.load1 41 (sl 40)),
 .g 36 false (some 42) (.lenS 42 (sl 41)),
 .g 36 false (some 43) (.move 43 (sl 3)),
 .g 36 false (some 44) (.bin 44 .neq (sl 42) (sl 43)),
 .o (.pick 45 (sl 36) (cb true) (sl 44)),
 .o (.move 46 (sl 45)),
 .g 46 false (some 47) (.fld 47 1 (sl 1)),
 .g 46 false (some 48) (.load1 48 (sl 47)),
 .g 46 false (some 49) (.move 49 (sl 4)),
 .g 46 false (some 50) (.idx 50 1 (sl 48) (sl 49)),
 .g 46 false (some 51) (.load1 51 (sl 50)),
 .g 46 false (some 52) (.call (some 52) (cf 176) [(sl 51), (ci 0), (ci 9)]),
 .g 46 false (some 53) (.un 53 .not (sl 52)),
 .o (.pick 54 (sl 46) (cb true) (sl 53)),
 .o (.move 55 (sl 54)),
 .g 55 false (some 56) (.fld 56 2 (sl 1)),
 .g 55 false (some 57) (.load1 57 (sl 56)),
 .g 55 false (some 58) (.move 58 (sl 4)),
 .g 55 false (some 59) (.idx 59 1 (sl 57) (sl 58)),
 .g 55 false (some 60) (.load1 60 (sl 59)),
 .g 55 false (some 61) (.call (some 61) (cf 176) [(sl 60), (ci (-1)), (ci 1)]),
 .g 55 false (some 62) (.un 62 .not (sl 61)),
 .o (.pick 63 (sl 55) (cb true) (sl 62))])
 ((.cond (sl 63) (.seq (.reg [.o (.move 2 (cb false))])
 (.ret))
 .skip))))))
 ((.reg [.o (.bin 64 .add (sl 25) (ci 1)),
 .o (.move 25 (sl 64))])))))))))))
 ((.seq (.reg [.o (.loadN 65 3 (sl 1)),
 .o (.call (some 66) (cf 177) [(sl 65)]),
 .o (.bin 67 .gtr (sl 66) (ci 0)),
 .o (.move 2 (sl 67))])
 (.ret))))))))))
theorem q0a9 {rin : List T} {args : List A} {Q : List T -> T -> Prop} (ha : args.length <= 68) (h : cW Try.prog 68 q03b (retP Try.prog [.tmp 2] rin.length Q) (St.of (enum 0 args) (enum 1000000000 rin))) :
    Fun Try.prog 115 rin args Q :=
  Fun.of (H := ⟨[], []⟩) Try.func115 rfl rfl rfl (by kernel_rfl) ha (by decide) h

def q04g : CC :=
 (.seq (.reg [.o (.move 4 (ci 0))])
 ((.seq (.seq (.reg [.o (.move 6 (sl 0)),
 .o (.lenS 7 (sl 6)),
 .o (.move 8 (ci 0))])
 ((.block 0 (.loop (.seq (.reg [.o (.bin 9 .lss (sl 8) (sl 7))])
 ((.seq (.cond (sl 9) .skip
 (.exit 0))
 ((.seq (.block 1 (.seq (.reg [.o (.move 10 (sl 8)),
 .o (.move 5 (sl 10))])
 ((.seq (.reg [.o (.move 11 (sl 1)),
 .o (.move 12 (sl 0)),
 .o (.move 13 (sl 5)),
 .o (.idx 14 1 (sl 12) (sl 13)),
 .o (.load1 15 (sl 14)),
 .o (.bin 16 .eql (sl 11) (sl 15))])
 ((.cond (sl 16) (.seq (.reg [.o (.move 17 (sl 5)),
 .o (.move 4 (sl 17))])
 (.ret))
 .skip))))))
 ((.reg [.o (.bin 18 .add (sl 8) (ci 1)),
 .o (.move 8 (sl 18))])))))))))))
 ((.seq (.reg [.o (.move 4 (ci (-1)))])
 (.ret))))))
theorem q0be {rin : List T} {args : List A} {Q : List T -> T -> Prop} (ha : args.length <= 19) (h : cW Try.prog 19 q04g (retP Try.prog [.tmp 4] rin.length Q) (St.of (enum 0 args) (enum 1000000000 rin))) :
    Fun Try.prog 117 rin args Q :=
  Fun.of (H := ⟨[], []⟩) Try.func117 rfl rfl rfl (by kernel_rfl) ha (by decide) h

def q0yh : CC :=
 (.seq (.reg [.o (.move 2 (cv (.pointer none)))])
 ((.seq (.reg [.o (.move 5 (sl 0)),
 .o (.build 6 [.v (.slice none 0 0), .v (.int .i64 0), .v (.int .i64 0)] [(0, 1), (1, 1), (2, 1)] [(0, (sl 5)), (2, (ci 45007))]),
 .o (.box 7 (sl 6)),
 .o (.move 3 (sl 7))])
 ((.seq (.seq (.reg [.o (.move 4 (ci 0))])
 ((.block 0 (.loop (.seq (.seq (.reg [.o (.move 8 (sl 4)),
 .o (.move 9 (sl 0)),
 .o (.lenS 10 (sl 9)),
 .o (.bin 11 .lss (sl 8) (sl 10)),
 .o (.move 12 (sl 11)),
 .g 12 true (some 13) (.move 13 (sl 4)),
 .g 12 true (some 14) (.bin 14 .lss (sl 13) (ci 64)),
 .o (.pick 15 (sl 12) (sl 14) (cb false))])
 ((.cond (sl 15) .skip
 (.exit 0))))
 ((.seq (.block 1 (.draw [] [(kR, .o (.move 18 (sl 3))),
 (kR, .o (.move 19 (sl 3))),
 (kR, .o (.nilc 20 (sl 19))),
 (kR, .o (.fld 21 2 (sl 20))),
 (kR, .o (.load1 22 (sl 21))),
 (kR, .o (.bin 23 .mul (sl 22) (ci 61))),
 (kR, .o (.move 24 (sl 0))),
 (kR, .o (.move 25 (sl 4))),
 (kR, .o (.idx 26 1 (sl 24) (sl 25))),
 (kR, .o (.load1 27 (sl 26))),
 (kR, .o (.conv 28 .i64 (sl 27))),
 (kR, .o (.bin 29 .add (sl 23) (sl 28))),
 (kR, .o (.bin 30 .rem (sl 29) (ci 2147483647))),
 (kR, .o (.nilc 31 (sl 18))),
 (kR, .o (.fld 32 2 (sl 31))),
 (kH, .o (.store 1 (sl 32) (sl 30)))]))
 ((.reg [.o (.move 16 (sl 4)),
 .o (.bin 17 .add (sl 16) (ci 1)),
 .o (.move 4 (sl 17))])))))))))
 ((.seq (.reg [.o (.move 33 (sl 3)),
 .o (.move 2 (sl 33))])
 (.ret))))))))
theorem q0zm {rin : List T} {args : List A} {Q : List T -> T -> Prop} (ha : args.length <= 34) (h : cW Try.prog 34 q0yh (retP Try.prog [.tmp 2] rin.length Q) (St.of (enum 0 args) (enum 1000000000 rin))) :
    Fun Try.prog 119 rin args Q :=
  Fun.of (H := ⟨[], []⟩) Try.func119 rfl rfl rfl (by kernel_rfl) ha (by decide) h

def q0yi : CC :=
 (.seq (.reg [.o (.move 4 (ci 0))])
 ((.seq (.seq (.reg [.o (.move 6 (sl 1)),
 .o (.bin 7 .leq (sl 6) (ci 1))])
 ((.cond (sl 7) (.seq (.reg [.o (.move 4 (ci 0))])
 (.ret))
 .skip)))
 ((.seq (.reg [.o (.move 8 (sl 0)),
 .o (.move 9 (sl 0)),
 .o (.nilc 10 (sl 9)),
 .o (.fld 11 2 (sl 10)),
 .o (.load1 12 (sl 11)),
 .o (.bin 13 .mul (sl 12) (ci 48271)),
 .o (.bin 14 .add (sl 13) (ci 29)),
 .o (.bin 15 .rem (sl 14) (ci 2147483647)),
 .o (.nilc 16 (sl 8)),
 .o (.fld 17 2 (sl 16)),
 .o (.store 1 (sl 17) (sl 15))])
 ((.seq (.reg [.o (.move 18 (sl 0)),
 .o (.nilc 19 (sl 18)),
 .o (.fld 20 2 (sl 19)),
 .o (.load1 21 (sl 20)),
 .o (.bin 22 .quo (sl 21) (ci 31)),
 .o (.move 5 (sl 22))])
 ((.seq (.seq (.draw [] [(kR, .o (.move 23 (sl 0))),
 (kR, .o (.nilc 24 (sl 23))),
 (kR, .o (.fld 25 1 (sl 24))),
 (kR, .o (.load1 26 (sl 25))),
 (kR, .o (.move 27 (sl 0))),
 (kR, .o (.nilc 28 (sl 27))),
 (kR, .o (.fld 29 0 (sl 28))),
 (kR, .o (.load1 30 (sl 29))),
 (kR, .o (.lenS 31 (sl 30))),
 (kR, .o (.bin 32 .lss (sl 26) (sl 31)))])
 ((.cond (sl 32) (.seq (.draw [] [(kR, .o (.move 33 (sl 5))),
 (kR, .o (.move 34 (sl 0))),
 (kR, .o (.nilc 35 (sl 34))),
 (kR, .o (.fld 36 0 (sl 35))),
 (kR, .o (.load1 37 (sl 36))),
 (kR, .o (.move 38 (sl 0))),
 (kR, .o (.nilc 39 (sl 38))),
 (kR, .o (.fld 40 1 (sl 39))),
 (kR, .o (.load1 41 (sl 40))),
 (kR, .o (.idx 42 1 (sl 37) (sl 41))),
 (kR, .o (.load1 43 (sl 42))),
 (kR, .o (.conv 44 .i64 (sl 43))),
 (kR, .o (.bin 45 .add (sl 33) (sl 44))),
 (kR, .o (.move 5 (sl 45)))])
 ((.seq (.reg [.o (.move 46 (sl 0)),
 .o (.nilc 47 (sl 46)),
 .o (.fld 48 1 (sl 47)),
 .o (.load1 49 (sl 48)),
 .o (.bin 50 .add (sl 49) (ci 1)),
 .o (.nilc 51 (sl 46)),
 .o (.fld 52 1 (sl 51)),
 .o (.store 1 (sl 52) (sl 50))])
 ((.seq (.reg [.o (.move 53 (sl 1)),
 .o (.bin 54 .leq (sl 53) (ci 256)),
 .o (.move 55 (sl 54)),
 .g 55 true (some 56) (.move 56 (sl 0)),
 .g 55 true (some 57) (.nilc 57 (sl 56)),
 .g 55 true (some 58) (.fld 58 1 (sl 57)),
 .g 55 true (some 59) (.load1 59 (sl 58)),
 .g 55 true (some 60) (.bin 60 .rem (sl 59) (ci 2)),
 .g 55 true (some 61) (.bin 61 .eql (sl 60) (ci 0)),
 .o (.pick 62 (sl 55) (sl 61) (cb false))])
 ((.cond (sl 62) (.draw [] [(kR, .o (.move 63 (sl 0))),
 (kR, .o (.nilc 64 (sl 63))),
 (kR, .o (.fld 65 0 (sl 64))),
 (kR, .o (.load1 66 (sl 65))),
 (kR, .o (.move 67 (sl 0))),
 (kR, .o (.nilc 68 (sl 67))),
 (kR, .o (.fld 69 1 (sl 68))),
 (kR, .o (.load1 70 (sl 69))),
 (kR, .o (.bin 71 .sub (sl 70) (ci 1))),
 (kR, .o (.idx 72 1 (sl 66) (sl 71))),
 (kR, .o (.load1 73 (sl 72))),
 (kR, .o (.conv 74 .i64 (sl 73))),
 (kR, .o (.move 5 (sl 74)))])
 .skip)))))))
 .skip)))
 ((.seq (.reg [.o (.move 75 (sl 5)),
 .o (.move 76 (sl 1)),
 .o (.bin 77 .rem (sl 75) (sl 76)),
 .o (.move 4 (sl 77))])
 (.ret))))))))))))
theorem q0zn {rin : List T} {args : List A} {Q : List T -> T -> Prop} (ha : args.length <= 78) (h : cW Try.prog 78 q0yi (retP Try.prog [.tmp 4] rin.length Q) (St.of (enum 0 args) (enum 1000000000 rin))) :
    Fun Try.prog 126 rin args Q :=
  Fun.of (H := ⟨[], []⟩) Try.func126 rfl rfl rfl (by kernel_rfl) ha (by decide) h

def q0yf : CC :=
 (.seq (.reg [.o (.alloc 0 [.v (.slice none 0 0), .v (.slice none 0 0), .v (.slice none 0 0)])])
 ((.seq (.reg [.o (.call (some 4) (cf 184) [(ci 1), (ci 1), (ci 0)]),
 .o (.move 3 (sl 4)),
 .o (.extract 5 (sl 3) 0),
 .o (.extract 6 (sl 3) 1),
 .o (.alloc 1 [.v (.slice none 0 0)]),
 .o (.store 1 (sl 1) (sl 5)),
 .o (.move 2 (sl 6))])
 ((.seq (.reg [.o (.loadN 7 1 (sl 1)),
 .o (.call (some 8) (cf 185) [(sl 7), (ci 3), (cb false)]),
 .o (.store 3 (sl 0) (sl 8))])
 (.ret))))))
theorem q0zk {rin : List T} {args : List A} {Q : List T -> T -> Prop} (ha : args.length <= 9) (h : cW Try.prog 9 q0yf (retP Try.prog [.cell 0 35] rin.length Q) (St.of (enum 0 args) (enum 1000000000 rin))) :
    Fun Try.prog 127 rin args Q :=
  Fun.of (H := ⟨[], []⟩) Try.func127 rfl rfl rfl (by kernel_rfl) ha (by decide) h

def q04k : CC :=
 (.seq (.reg [.o (.box 1 (sl 0)),
 .o (.move 2 (cb false))])
 ((.seq (.reg [.o (.fld 4 1 (sl 1)),
 .o (.load1 5 (sl 4)),
 .o (.lenS 6 (sl 5)),
 .o (.move 3 (sl 6))])
 ((.seq (.reg [.o (.fld 7 0 (sl 1)),
 .o (.loadN 8 1 (sl 7)),
 .o (.call (some 9) (cf 194) [(sl 8)]),
 .o (.move 10 (sl 9)),
 .g 10 true (some 11) (.move 11 (sl 3)),
 .g 10 true (some 12) (.call (some 12) (cf 148) [(sl 11), (ci 1), (ci 6)]),
 .o (.pick 13 (sl 10) (sl 12) (cb false)),
 .o (.move 14 (sl 13)),
 .g 14 true (some 15) (.fld 15 1 (sl 1)),
 .g 14 true (some 16) (.load1 16 (sl 15)),
 .g 14 true (some 17) (.move 17 (sl 3)),
 .g 14 true (some 18) (.call (some 18) (cf 195) [(sl 16), (sl 17), (ci 0), (ci 9)]),
 .o (.pick 19 (sl 14) (sl 18) (cb false)),
 .o (.move 20 (sl 19)),
 .g 20 true (some 21) (.fld 21 2 (sl 1)),
 .g 20 true (some 22) (.load1 22 (sl 21)),
 .g 20 true (some 23) (.move 23 (sl 3)),
 .g 20 true (some 24) (.call (some 24) (cf 195) [(sl 22), (sl 23), (ci (-1)), (ci 1)]),
 .o (.pick 25 (sl 20) (sl 24) (cb false)),
 .o (.move 26 (sl 25)),
 .g 26 true (some 27) (.loadN 27 3 (sl 1)),
 .g 26 true (some 28) (.call (some 28) (cf 191) [(sl 27)]),
 .g 26 true (some 29) (.bin 29 .gtr (sl 28) (ci 0)),
 .o (.pick 30 (sl 26) (sl 29) (cb false)),
 .o (.move 2 (sl 30))])
 (.ret))))))
theorem q0bi {rin : List T} {args : List A} {Q : List T -> T -> Prop} (ha : args.length <= 31) (h : cW Try.prog 31 q04k (retP Try.prog [.tmp 2] rin.length Q) (St.of (enum 0 args) (enum 1000000000 rin))) :
    Fun Try.prog 139 rin args Q :=
  Fun.of (H := ⟨[], []⟩) Try.func139 rfl rfl rfl (by kernel_rfl) ha (by decide) h

def q0yj : CC :=
 (.seq (.reg [.o (.move 4 (ci 0))])
 ((.seq (.reg [.o (.move 5 (sl 1)),
 .o (.move 6 (sl 0)),
 .o (.move 7 (sl 1)),
 .o (.lenS 8 (sl 7)),
 .o (.call (some 9) (cf 126) [(sl 6), (sl 8)]),
 .o (.idx 10 1 (sl 5) (sl 9)),
 .o (.load1 11 (sl 10)),
 .o (.move 4 (sl 11))])
 (.ret))))
theorem q0zo {rin : List T} {args : List A} {Q : List T -> T -> Prop} (ha : args.length <= 12) (h : cW Try.prog 12 q0yj (retP Try.prog [.tmp 4] rin.length Q) (St.of (enum 0 args) (enum 1000000000 rin))) :
    Fun Try.prog 147 rin args Q :=
  Fun.of (H := ⟨[], []⟩) Try.func147 rfl rfl rfl (by kernel_rfl) ha (by decide) h

def q04m : CC :=
 (.seq (.reg [.o (.move 6 (cb false))])
 ((.seq (.reg [.o (.move 7 (sl 0)),
 .o (.move 8 (sl 1)),
 .o (.bin 9 .geq (sl 7) (sl 8)),
 .o (.move 10 (sl 9)),
 .g 10 true (some 11) (.move 11 (sl 0)),
 .g 10 true (some 12) (.move 12 (sl 2)),
 .g 10 true (some 13) (.bin 13 .leq (sl 11) (sl 12)),
 .o (.pick 14 (sl 10) (sl 13) (cb false)),
 .o (.move 6 (sl 14))])
 (.ret))))
theorem q0bk {rin : List T} {args : List A} {Q : List T -> T -> Prop} (ha : args.length <= 15) (h : cW Try.prog 15 q04m (retP Try.prog [.tmp 6] rin.length Q) (St.of (enum 0 args) (enum 1000000000 rin))) :
    Fun Try.prog 148 rin args Q :=
  Fun.of (H := ⟨[], []⟩) Try.func148 rfl rfl rfl (by kernel_rfl) ha (by decide) h

def q03j : CC :=
 (.seq (.reg [.o (.box 2 (sl 0)),
 .o (.move 4 (cv (.slice none 0 0)))])
 ((.seq (.reg [.o (.move 5 (cv (.slice none 0 0)))])
 ((.seq (.seq (.reg [.o (.fld 9 0 (sl 2)),
 .o (.loadN 10 1 (sl 9)),
 .o (.move 11 (sl 1)),
 .o (.call (some 12) (cf 181) [(sl 10), (sl 11)]),
 .o (.lenS 13 (sl 12)),
 .o (.move 14 (ci 0))])
 ((.block 0 (.loop (.seq (.reg [.o (.bin 15 .lss (sl 14) (sl 13))])
 ((.seq (.cond (sl 15) .skip
 (.exit 0))
 ((.seq (.block 1 (.seq (.reg [.o (.idx 16 1 (sl 12) (sl 14)),
 .o (.load1 17 (sl 16)),
 .o (.move 7 (sl 17))])
 ((.seq (.reg [.o (.fld 18 1 (sl 2)),
 .o (.load1 19 (sl 18)),
 .o (.lenS 20 (sl 19)),
 .o (.move 21 (ci 0))])
 ((.block 2 (.loop (.seq (.reg [.o (.bin 22 .lss (sl 21) (sl 20))])
 ((.seq (.cond (sl 22) .skip
 (.exit 2))
 ((.seq (.block 3 (.seq (.reg [.o (.move 23 (sl 21)),
 .o (.move 8 (sl 23))])
 ((.reg [.o (.move 24 (sl 5)),
 .o (.move 25 (sl 7)),
 .o (.move 26 (sl 8)),
 .o (.bslice 27 1 2 [(0, (sl 25)), (1, (sl 26))]),
 .o (.bslice 28 1 1 [(0, (sl 27))]),
 .o (.app 29 1 24 (sl 24) (sl 28)),
 .o (.move 5 (sl 29))]))))
 ((.reg [.o (.bin 30 .add (sl 21) (ci 1)),
 .o (.move 21 (sl 30))]))))))))))))))
 ((.reg [.o (.bin 31 .add (sl 14) (ci 1)),
 .o (.move 14 (sl 31))])))))))))))
 ((.seq (.reg [.o (.move 32 (sl 5)),
 .o (.move 4 (sl 32))])
 (.ret))))))))
theorem q0ah {rin : List T} {args : List A} {Q : List T -> T -> Prop} (ha : args.length <= 33) (h : cW Try.prog 33 q03j (retP Try.prog [.tmp 4] rin.length Q) (St.of (enum 0 args) (enum 1000000000 rin))) :
    Fun Try.prog 152 rin args Q :=
  Fun.of (H := ⟨[], []⟩) Try.func152 rfl rfl rfl (by kernel_rfl) ha (by decide) h

def q16j : CC :=
 (.seq (.reg [.o (.box 2 (sl 0)),
 .o (.box 3 (sl 1)),
 .o (.move 4 (cb false))])
 ((.seq (.reg [.o (.loadN 9 3 (sl 2)),
 .o (.fld 10 0 (sl 3)),
 .o (.load1 11 (sl 10)),
 .o (.call (some 12) (cf 152) [(sl 9), (sl 11)]),
 .o (.move 5 (sl 12))])
 ((.seq (.seq (.reg [.o (.fld 13 1 (sl 3)),
 .o (.load1 14 (sl 13)),
 .o (.lenS 15 (sl 14)),
 .o (.move 16 (sl 5)),
 .o (.lenS 17 (sl 16)),
 .o (.bin 18 .neq (sl 15) (sl 17))])
 ((.cond (sl 18) (.seq (.reg [.o (.move 4 (cb false))])
 (.ret))
 .skip)))
 ((.seq (.seq (.reg [.o (.move 19 (sl 5)),
 .o (.lenS 20 (sl 19)),
 .o (.move 21 (ci 0))])
 ((.block 0 (.loop (.seq (.reg [.o (.bin 22 .lss (sl 21) (sl 20))])
 ((.seq (.cond (sl 22) .skip
 (.exit 0))
 ((.seq (.block 1 (.seq (.reg [.o (.move 23 (sl 21)),
 .o (.idx 24 1 (sl 19) (sl 21)),
 .o (.load1 25 (sl 24)),
 .o (.move 6 (sl 23)),
 .o (.move 7 (sl 25))])
 ((.seq (.reg [.o (.fld 26 1 (sl 3)),
 .o (.load1 27 (sl 26)),
 .o (.move 28 (sl 6)),
 .o (.idx 29 1 (sl 27) (sl 28)),
 .o (.load1 30 (sl 29)),
 .o (.move 8 (sl 30))])
 ((.seq (.draw [] [(kR, .o (.move 31 (sl 8))),
 (kR, .o (.lenS 32 (sl 31))),
 (kR, .o (.fld 33 0 (sl 2))),
 (kR, .o (.fld 34 0 (sl 33))),
 (kR, .o (.load1 35 (sl 34))),
 (kR, .o (.move 36 (sl 7))),
 (kR, .o (.idx 37 1 (sl 36) (ci 0))),
 (kR, .o (.load1 38 (sl 37))),
 (kR, .o (.idx 39 5 (sl 35) (sl 38))),
 (kR, .o (.fld 40 4 (sl 39))),
 (kR, .o (.load1 41 (sl 40))),
 (kR, .o (.lenS 42 (sl 41))),
 (kR, .o (.bin 43 .neq (sl 32) (sl 42))),
 (kR, .o (.move 44 (sl 43))),
 (kR, .g 44 false (some 45) (.move 45 (sl 8))),
 (kR, .g 44 false (some 46) (.call (some 46) (cf 176) [(sl 45), (ci 0), (ci 60)])),
 (kR, .g 44 false (some 47) (.un 47 .not (sl 46))),
 (kR, .o (.pick 48 (sl 44) (cb true) (sl 47))),
 (kR, .o (.move 49 (sl 48))),
 (kR, .g 49 false (some 50) (.move 50 (sl 8))),
 (kR, .g 49 false (some 51) (.call (some 51) (cf 200) [(sl 50)])),
 (kR, .g 49 false (some 52) (.bin 52 .neq (sl 51) (ci 60))),
 (kR, .o (.pick 53 (sl 49) (cb true) (sl 52)))])
 ((.cond (sl 53) (.seq (.reg [.o (.move 4 (cb false))])
 (.ret))
 .skip))))))))
 ((.reg [.o (.bin 54 .add (sl 21) (ci 1)),
 .o (.move 21 (sl 54))])))))))))))
 ((.seq (.reg [.o (.move 4 (cb true))])
 (.ret))))))))))
theorem q171 {rin : List T} {args : List A} {Q : List T -> T -> Prop} (ha : args.length <= 55) (h : cW Try.prog 55 q16j (retP Try.prog [.tmp 4] rin.length Q) (St.of (enum 0 args) (enum 1000000000 rin))) :
    Fun Try.prog 153 rin args Q :=
  Fun.of (H := ⟨[], []⟩) Try.func153 rfl rfl rfl (by kernel_rfl) ha (by decide) h

def q051 : CC :=
 (.seq (.reg [.o (.move 2 (ci 0))])
 ((.seq (.reg [.o (.move 3 (ci 1))])
 ((.seq (.block 0 (.loop (.seq (.seq (.reg [.o (.move 4 (sl 0)),
 .o (.bin 5 .gtr (sl 4) (ci 0))])
 ((.cond (sl 5) .skip
 (.exit 0))))
 ((.seq (.block 1 (.reg [.o (.move 8 (sl 3)),
 .o (.bin 9 .mul (sl 8) (ci 60)),
 .o (.move 3 (sl 9))]))
 ((.reg [.o (.move 6 (sl 0)),
 .o (.bin 7 .sub (sl 6) (ci 1)),
 .o (.move 0 (sl 7))])))))))
 ((.seq (.reg [.o (.move 10 (sl 3)),
 .o (.move 2 (sl 10))])
 (.ret))))))))
theorem q0bz {rin : List T} {args : List A} {Q : List T -> T -> Prop} (ha : args.length <= 11) (h : cW Try.prog 11 q051 (retP Try.prog [.tmp 2] rin.length Q) (St.of (enum 0 args) (enum 1000000000 rin))) :
    Fun Try.prog 157 rin args Q :=
  Fun.of (H := ⟨[], []⟩) Try.func157 rfl rfl rfl (by kernel_rfl) ha (by decide) h

def q04q : CC :=
 (.seq (.reg [.o (.box 2 (sl 0)),
 .o (.move 4 (ci 0))])
 ((.seq (.reg [.o (.fld 8 0 (sl 2)),
 .o (.load1 9 (sl 8)),
 .o (.move 10 (sl 1)),
 .o (.idx 11 5 (sl 9) (sl 10)),
 .o (.loadN 12 5 (sl 11)),
 .o (.alloc 5 [.v (.int .i64 0), .v (.int .i64 0), .v (.int .i64 0), .v (.int .i64 0), .v (.slice none 0 0)]),
 .o (.store 5 (sl 5) (sl 12))])
 ((.seq (.seq (.reg [.o (.fld 13 0 (sl 5)),
 .o (.load1 14 (sl 13)),
 .o (.bin 15 .eql (sl 14) (ci 2))])
 ((.cond (sl 15) (.seq (.reg [.o (.move 4 (ci 0))])
 (.ret))
 .skip)))
 ((.seq (.reg [.o (.move 6 (ci 0))])
 ((.seq (.seq (.reg [.o (.move 7 (ci 0))])
 ((.block 0 (.loop (.seq (.seq (.reg [.o (.move 16 (sl 7)),
 .o (.fld 17 4 (sl 5)),
 .o (.load1 18 (sl 17)),
 .o (.lenS 19 (sl 18)),
 .o (.bin 20 .lss (sl 16) (sl 19))])
 ((.cond (sl 20) .skip
 (.exit 0))))
 ((.seq (.block 1 (.draw [] [(kR, .o (.move 23 (sl 6))),
 (kR, .o (.loadN 24 1 (sl 2))),
 (kR, .o (.fld 25 4 (sl 5))),
 (kR, .o (.load1 26 (sl 25))),
 (kR, .o (.move 27 (sl 7))),
 (kR, .o (.idx 28 1 (sl 26) (sl 27))),
 (kR, .o (.load1 29 (sl 28))),
 (kR, .o (.call (some 30) (cf 158) [(sl 24), (sl 29)])),
 (kR, .o (.mm 31 true (sl 23) (sl 30))),
 (kR, .o (.move 6 (sl 31)))]))
 ((.reg [.o (.move 21 (sl 7)),
 .o (.bin 22 .add (sl 21) (ci 1)),
 .o (.move 7 (sl 22))])))))))))
 ((.seq (.reg [.o (.move 32 (sl 6)),
 .o (.bin 33 .add (sl 32) (ci 1)),
 .o (.move 4 (sl 33))])
 (.ret))))))))))))
theorem q0bo {rin : List T} {args : List A} {Q : List T -> T -> Prop} (ha : args.length <= 34) (h : cW Try.prog 34 q04q (retP Try.prog [.tmp 4] rin.length Q) (St.of (enum 0 args) (enum 1000000000 rin))) :
    Fun Try.prog 158 rin args Q :=
  Fun.of (H := ⟨[], []⟩) Try.func158 rfl rfl rfl (by kernel_rfl) ha (by decide) h

def q03p : CC :=
 (.seq (.reg [.o (.move 4 (ci 0))])
 ((.seq (.reg [.o (.move 5 (ci 1))])
 ((.seq (.seq (.reg [.o (.move 6 (sl 1)),
 .o (.move 7 (ci 0))])
 ((.block 0 (.loop (.seq (.reg [.o (.bin 8 .lss (sl 7) (sl 6))])
 ((.seq (.cond (sl 8) .skip
 (.exit 0))
 ((.seq (.block 1 (.reg [.o (.move 9 (sl 5)),
 .o (.move 10 (sl 0)),
 .o (.bin 11 .mul (sl 9) (sl 10)),
 .o (.move 5 (sl 11))]))
 ((.reg [.o (.bin 12 .add (sl 7) (ci 1)),
 .o (.move 7 (sl 12))])))))))))))
 ((.seq (.reg [.o (.move 13 (sl 5)),
 .o (.move 4 (sl 13))])
 (.ret))))))))
theorem q0an {rin : List T} {args : List A} {Q : List T -> T -> Prop} (ha : args.length <= 14) (h : cW Try.prog 14 q03p (retP Try.prog [.tmp 4] rin.length Q) (St.of (enum 0 args) (enum 1000000000 rin))) :
    Fun Try.prog 163 rin args Q :=
  Fun.of (H := ⟨[], []⟩) Try.func163 rfl rfl rfl (by kernel_rfl) ha (by decide) h

def q03f : CC :=
 (.seq (.reg [.o (.box 2 (sl 0)),
 .o (.move 4 (ci 0))])
 ((.seq (.reg [.o (.fld 9 0 (sl 2)),
 .o (.load1 10 (sl 9)),
 .o (.move 11 (sl 1)),
 .o (.idx 12 5 (sl 10) (sl 11)),
 .o (.loadN 13 5 (sl 12)),
 .o (.alloc 5 [.v (.int .i64 0), .v (.int .i64 0), .v (.int .i64 0), .v (.int .i64 0), .v (.slice none 0 0)]),
 .o (.store 5 (sl 5) (sl 13))])
 ((.seq (.seq (.reg [.o (.fld 14 0 (sl 5)),
 .o (.load1 15 (sl 14)),
 .o (.bin 16 .eql (sl 15) (ci 2))])
 ((.cond (sl 16) (.seq (.reg [.o (.move 4 (ci 0))])
 (.ret))
 .skip)))
 ((.seq (.reg [.o (.move 6 (ci 0))])
 ((.seq (.seq (.reg [.o (.fld 17 4 (sl 5)),
 .o (.load1 18 (sl 17)),
 .o (.lenS 19 (sl 18)),
 .o (.move 20 (ci 0))])
 ((.block 0 (.loop (.seq (.reg [.o (.bin 21 .lss (sl 20) (sl 19))])
 ((.seq (.cond (sl 21) .skip
 (.exit 0))
 ((.seq (.block 1 (.seq (.reg [.o (.idx 22 1 (sl 18) (sl 20)),
 .o (.load1 23 (sl 22)),
 .o (.move 8 (sl 23))])
 ((.reg [.o (.move 24 (sl 6)),
 .o (.loadN 25 1 (sl 2)),
 .o (.move 26 (sl 8)),
 .o (.call (some 27) (cf 164) [(sl 25), (sl 26)]),
 .o (.mm 28 true (sl 24) (sl 27)),
 .o (.move 6 (sl 28))]))))
 ((.reg [.o (.bin 29 .add (sl 20) (ci 1)),
 .o (.move 20 (sl 29))])))))))))))
 ((.seq (.reg [.o (.move 30 (sl 6)),
 .o (.bin 31 .add (sl 30) (ci 1)),
 .o (.move 4 (sl 31))])
 (.ret))))))))))))
theorem q0ad {rin : List T} {args : List A} {Q : List T -> T -> Prop} (ha : args.length <= 32) (h : cW Try.prog 32 q03f (retP Try.prog [.tmp 4] rin.length Q) (St.of (enum 0 args) (enum 1000000000 rin))) :
    Fun Try.prog 164 rin args Q :=
  Fun.of (H := ⟨[], []⟩) Try.func164 rfl rfl rfl (by kernel_rfl) ha (by decide) h

def q04n : CC :=
 (.seq (.reg [.o (.move 2 (cv (.slice none 0 0)))])
 ((.seq (.reg [.o (.bslice 3 1 0 []),
 .o (.move 4 (sl 0)),
 .o (.app 5 1 8 (sl 3) (sl 4)),
 .o (.move 2 (sl 5))])
 (.ret))))
theorem q0bl {rin : List T} {args : List A} {Q : List T -> T -> Prop} (ha : args.length <= 6) (h : cW Try.prog 6 q04n (retP Try.prog [.tmp 2] rin.length Q) (St.of (enum 0 args) (enum 1000000000 rin))) :
    Fun Try.prog 167 rin args Q :=
  Fun.of (H := ⟨[], []⟩) Try.func167 rfl rfl rfl (by kernel_rfl) ha (by decide) h

def q05c : CC :=
 (.seq (.reg [.o (.box 1 (sl 0)),
 .o (.move 2 (cv (.pointer none)))])
 ((.seq (.reg [.o (.loadN 9 3 (sl 1)),
 .o (.build 10 [.v (.slice none 0 0), .v (.slice none 0 0), .v (.slice none 0 0), .v (.slice none 0 0), .v (.slice none 0 0)] [(0, 3), (3, 1), (4, 1)] [(0, (sl 9))]),
 .o (.box 11 (sl 10)),
 .o (.move 3 (sl 11))])
 ((.seq (.seq (.reg [.o (.move 4 (ci 0))])
 ((.block 0 (.loop (.seq (.seq (.reg [.o (.move 12 (sl 4)),
 .o (.bin 13 .lss (sl 12) (ci 2))])
 ((.cond (sl 13) .skip
 (.exit 0))))
 ((.seq (.block 1 (.seq (.reg [.o (.loadN 16 3 (sl 1)),
 .o (.move 17 (sl 4)),
 .o (.call (some 18) (cf 196) [(sl 16), (sl 17)]),
 .o (.move 5 (sl 18))])
 ((.seq (.reg [.o (.bslice 19 1 0 []),
 .o (.bslice 20 1 0 []),
 .o (.move 6 (sl 19)),
 .o (.move 7 (sl 20))])
 ((.seq (.seq (.reg [.o (.move 8 (ci 0))])
 ((.block 2 (.loop (.seq (.seq (.reg [.o (.move 21 (sl 8)),
 .o (.move 22 (sl 5)),
 .o (.lenS 23 (sl 22)),
 .o (.bin 24 .lss (sl 21) (sl 23))])
 ((.cond (sl 24) .skip
 (.exit 2))))
 ((.seq (.block 3 (.seq (.reg [.o (.move 27 (sl 6)),
 .o (.move 28 (sl 5)),
 .o (.move 29 (sl 8)),
 .o (.idx 30 1 (sl 28) (sl 29)),
 .o (.load1 31 (sl 30)),
 .o (.make 32 [.v (.int .i64 0)] 8 (sl 31) (sl 31)),
 .o (.bslice 33 1 1 [(0, (sl 32))]),
 .o (.app 34 1 24 (sl 27) (sl 33)),
 .o (.move 6 (sl 34))])
 ((.reg [.o (.move 35 (sl 7)),
 .o (.move 36 (sl 5)),
 .o (.move 37 (sl 8)),
 .o (.idx 38 1 (sl 36) (sl 37)),
 .o (.load1 39 (sl 38)),
 .o (.make 40 [.v (.int .i64 0)] 8 (sl 39) (sl 39)),
 .o (.bslice 41 1 1 [(0, (sl 40))]),
 .o (.app 42 1 24 (sl 35) (sl 41)),
 .o (.move 7 (sl 42))]))))
 ((.reg [.o (.move 25 (sl 8)),
 .o (.bin 26 .add (sl 25) (ci 1)),
 .o (.move 8 (sl 26))])))))))))
 ((.seq (.reg [.o (.move 43 (sl 3)),
 .o (.move 44 (sl 3)),
 .o (.nilc 45 (sl 44)),
 .o (.fld 46 3 (sl 45)),
 .o (.load1 47 (sl 46)),
 .o (.move 48 (sl 6)),
 .o (.bslice 49 1 1 [(0, (sl 48))]),
 .o (.app 50 1 24 (sl 47) (sl 49)),
 .o (.nilc 51 (sl 43)),
 .o (.fld 52 3 (sl 51)),
 .o (.store 1 (sl 52) (sl 50))])
 ((.reg [.o (.move 53 (sl 3)),
 .o (.move 54 (sl 3)),
 .o (.nilc 55 (sl 54)),
 .o (.fld 56 4 (sl 55)),
 .o (.load1 57 (sl 56)),
 .o (.move 58 (sl 7)),
 .o (.bslice 59 1 1 [(0, (sl 58))]),
 .o (.app 60 1 24 (sl 57) (sl 59)),
 .o (.nilc 61 (sl 53)),
 .o (.fld 62 4 (sl 61)),
 .o (.store 1 (sl 62) (sl 60))]))))))))))
 ((.reg [.o (.move 14 (sl 4)),
 .o (.bin 15 .add (sl 14) (ci 1)),
 .o (.move 4 (sl 15))])))))))))
 ((.seq (.reg [.o (.move 63 (sl 3)),
 .o (.move 2 (sl 63))])
 (.ret))))))))
theorem q0ca {rin : List T} {args : List A} {Q : List T -> T -> Prop} (ha : args.length <= 64) (h : cW Try.prog 64 q05c (retP Try.prog [.tmp 2] rin.length Q) (St.of (enum 0 args) (enum 1000000000 rin))) :
    Fun Try.prog 168 rin args Q :=
  Fun.of (H := ⟨[], []⟩) Try.func168 rfl rfl rfl (by kernel_rfl) ha (by decide) h

def q04y : CC :=
 (.seq (.reg [.o (.move 2 (cv (.slice none 0 0)))])
 ((.seq (.reg [.o (.move 12 (sl 0)),
 .o (.call (some 13) (cf 187) [(sl 12)]),
 .o (.move 3 (sl 13))])
 ((.seq (.seq (.reg [.o (.move 14 (sl 3)),
 .o (.bin 15 .eql (sl 14) (ci 0))])
 ((.cond (sl 15) (.seq (.reg [.o (.bslice 16 1 0 []),
 .o (.move 4 (sl 16))])
 ((.seq (.seq (.reg [.o (.move 5 (ci 0))])
 ((.block 0 (.loop (.seq (.seq (.reg [.o (.move 17 (sl 5)),
 .o (.move 18 (sl 0)),
 .o (.lenS 19 (sl 18)),
 .o (.bin 20 .lss (sl 17) (sl 19))])
 ((.cond (sl 20) .skip
 (.exit 0))))
 ((.seq (.block 1 (.reg [.o (.move 23 (sl 4)),
 .o (.bslice 24 1 1 [(0, (ci 1))]),
 .o (.app 25 1 8 (sl 23) (sl 24)),
 .o (.move 4 (sl 25))]))
 ((.reg [.o (.move 21 (sl 5)),
 .o (.bin 22 .add (sl 21) (ci 1)),
 .o (.move 5 (sl 22))])))))))))
 ((.seq (.reg [.o (.move 26 (sl 4)),
 .o (.call (some 27) (cf 172) [(sl 26)]),
 .o (.move 2 (sl 27))])
 (.ret))))))
 .skip)))
 ((.seq (.reg [.o (.bslice 28 1 0 []),
 .o (.bslice 29 1 0 []),
 .o (.move 6 (sl 28)),
 .o (.move 7 (sl 29))])
 ((.seq (.seq (.reg [.o (.move 8 (ci 0))])
 ((.block 2 (.loop (.seq (.seq (.reg [.o (.move 30 (sl 8)),
 .o (.move 31 (sl 0)),
 .o (.lenS 32 (sl 31)),
 .o (.bin 33 .lss (sl 30) (sl 32))])
 ((.cond (sl 33) .skip
 (.exit 2))))
 ((.seq (.block 3 (.seq (.reg [.o (.move 36 (sl 6)),
 .o (.move 37 (sl 0)),
 .o (.move 38 (sl 8)),
 .o (.idx 39 1 (sl 37) (sl 38)),
 .o (.load1 40 (sl 39)),
 .o (.bin 41 .mul (ci 60) (sl 40)),
 .o (.move 42 (sl 3)),
 .o (.bin 43 .quo (sl 41) (sl 42)),
 .o (.bslice 44 1 1 [(0, (sl 43))]),
 .o (.app 45 1 8 (sl 36) (sl 44)),
 .o (.move 6 (sl 45))])
 ((.reg [.o (.move 46 (sl 7)),
 .o (.move 47 (sl 0)),
 .o (.move 48 (sl 8)),
 .o (.idx 49 1 (sl 47) (sl 48)),
 .o (.load1 50 (sl 49)),
 .o (.bin 51 .mul (ci 60) (sl 50)),
 .o (.move 52 (sl 3)),
 .o (.bin 53 .rem (sl 51) (sl 52)),
 .o (.bslice 54 1 1 [(0, (sl 53))]),
 .o (.app 55 1 8 (sl 46) (sl 54)),
 .o (.move 7 (sl 55))]))))
 ((.reg [.o (.move 34 (sl 8)),
 .o (.bin 35 .add (sl 34) (ci 1)),
 .o (.move 8 (sl 35))])))))))))
 ((.seq (.seq (.reg [.o (.move 56 (sl 6)),
 .o (.call (some 57) (cf 187) [(sl 56)]),
 .o (.bin 58 .sub (ci 60) (sl 57)),
 .o (.move 9 (sl 58))])
 ((.block 4 (.loop (.seq (.seq (.reg [.o (.move 59 (sl 9)),
 .o (.bin 60 .gtr (sl 59) (ci 0))])
 ((.cond (sl 60) .skip
 (.exit 4))))
 ((.seq (.block 5 (.seq (.reg [.o (.move 10 (ci 0))])
 ((.seq (.seq (.reg [.o (.move 11 (ci 1))])
 ((.block 6 (.loop (.seq (.seq (.reg [.o (.move 63 (sl 11)),
 .o (.move 64 (sl 7)),
 .o (.lenS 65 (sl 64)),
 .o (.bin 66 .lss (sl 63) (sl 65))])
 ((.cond (sl 66) .skip
 (.exit 6))))
 ((.seq (.block 7 (.seq (.draw [] [(kR, .o (.move 69 (sl 7))),
 (kR, .o (.move 70 (sl 11))),
 (kR, .o (.idx 71 1 (sl 69) (sl 70))),
 (kR, .o (.load1 72 (sl 71))),
 (kR, .o (.move 73 (sl 7))),
 (kR, .o (.move 74 (sl 10))),
 (kR, .o (.idx 75 1 (sl 73) (sl 74))),
 (kR, .o (.load1 76 (sl 75))),
 (kR, .o (.bin 77 .gtr (sl 72) (sl 76)))])
 ((.cond (sl 77) (.reg [.o (.move 78 (sl 11)),
 .o (.move 10 (sl 78))])
 .skip))))
 ((.reg [.o (.move 67 (sl 11)),
 .o (.bin 68 .add (sl 67) (ci 1)),
 .o (.move 11 (sl 68))])))))))))
 ((.seq (.reg [.o (.move 79 (sl 6)),
 .o (.move 80 (sl 10)),
 .o (.idx 81 1 (sl 79) (sl 80)),
 .o (.load1 82 (sl 81)),
 .o (.bin 83 .add (sl 82) (ci 1)),
 .o (.idx 84 1 (sl 79) (sl 80)),
 .o (.store 1 (sl 84) (sl 83))])
 ((.reg [.o (.move 85 (sl 7)),
 .o (.move 86 (sl 10)),
 .o (.idx 87 1 (sl 85) (sl 86)),
 .o (.store 1 (sl 87) (ci (-1)))]))))))))
 ((.reg [.o (.move 61 (sl 9)),
 .o (.bin 62 .sub (sl 61) (ci 1)),
 .o (.move 9 (sl 62))])))))))))
 ((.seq (.reg [.o (.move 88 (sl 6)),
 .o (.move 2 (sl 88))])
 (.ret))))))))))))))
theorem q0bw {rin : List T} {args : List A} {Q : List T -> T -> Prop} (ha : args.length <= 89) (h : cW Try.prog 89 q04y (retP Try.prog [.tmp 2] rin.length Q) (St.of (enum 0 args) (enum 1000000000 rin))) :
    Fun Try.prog 172 rin args Q :=
  Fun.of (H := ⟨[], []⟩) Try.func172 rfl rfl rfl (by kernel_rfl) ha (by decide) h

def q05b : CC :=
 (.seq (.reg [.o (.move 2 (cv (.slice none 0 0)))])
 ((.seq (.reg [.o (.move 7 (sl 0)),
 .o (.call (some 8) (cf 167) [(sl 7)]),
 .o (.move 3 (sl 8))])
 ((.block 0 (.loop (.block 1 (.seq (.reg [.o (.move 4 (ci 0))])
 ((.seq (.seq (.reg [.o (.move 5 (ci 0))])
 ((.block 2 (.loop (.seq (.seq (.reg [.o (.move 9 (sl 5)),
 .o (.move 10 (sl 3)),
 .o (.lenS 11 (sl 10)),
 .o (.bin 12 .lss (sl 9) (sl 11))])
 ((.cond (sl 12) .skip
 (.exit 2))))
 ((.seq (.block 3 (.reg [.o (.move 15 (sl 4)),
 .o (.move 16 (sl 3)),
 .o (.move 17 (sl 5)),
 .o (.idx 18 1 (sl 16) (sl 17)),
 .o (.load1 19 (sl 18)),
 .o (.mm 20 true (sl 15) (sl 19)),
 .o (.move 4 (sl 20))]))
 ((.reg [.o (.move 13 (sl 5)),
 .o (.bin 14 .add (sl 13) (ci 1)),
 .o (.move 5 (sl 14))])))))))))
 ((.seq (.seq (.reg [.o (.move 21 (sl 4)),
 .o (.bin 22 .leq (sl 21) (ci 1000000000))])
 ((.cond (sl 22) (.seq (.reg [.o (.move 23 (sl 3)),
 .o (.move 2 (sl 23))])
 (.ret))
 .skip)))
 ((.seq (.reg [.o (.move 6 (ci 0))])
 ((.block 4 (.loop (.seq (.seq (.reg [.o (.move 24 (sl 6)),
 .o (.move 25 (sl 3)),
 .o (.lenS 26 (sl 25)),
 .o (.bin 27 .lss (sl 24) (sl 26))])
 ((.cond (sl 27) .skip
 (.exit 4))))
 ((.seq (.block 5 (.reg [.o (.move 30 (sl 3)),
 .o (.move 31 (sl 6)),
 .o (.move 32 (sl 3)),
 .o (.move 33 (sl 6)),
 .o (.idx 34 1 (sl 32) (sl 33)),
 .o (.load1 35 (sl 34)),
 .o (.bin 36 .quo (sl 35) (ci 2)),
 .o (.idx 37 1 (sl 30) (sl 31)),
 .o (.store 1 (sl 37) (sl 36))]))
 ((.reg [.o (.move 28 (sl 6)),
 .o (.bin 29 .add (sl 28) (ci 1)),
 .o (.move 6 (sl 29))]))))))))))))))))))))))
theorem q0c9 {rin : List T} {args : List A} {Q : List T -> T -> Prop} (ha : args.length <= 38) (h : cW Try.prog 38 q05b (retP Try.prog [.tmp 2] rin.length Q) (St.of (enum 0 args) (enum 1000000000 rin))) :
    Fun Try.prog 173 rin args Q :=
  Fun.of (H := ⟨[], []⟩) Try.func173 rfl rfl rfl (by kernel_rfl) ha (by decide) h

def q03c : CC :=
 (.seq (.reg [.o (.box 1 (sl 0)),
 .o (.move 2 (cb false))])
 ((.seq (.reg [.o (.fld 11 0 (sl 1)),
 .o (.load1 12 (sl 11)),
 .o (.lenS 13 (sl 12)),
 .o (.move 3 (sl 13))])
 ((.seq (.seq (.reg [.o (.move 14 (sl 3)),
 .o (.call (some 15) (cf 110) [(sl 14), (ci 1), (ci 60)]),
 .o (.un 16 .not (sl 15))])
 ((.cond (sl 16) (.seq (.reg [.o (.move 2 (cb false))])
 (.ret))
 .skip)))
 ((.seq (.reg [.o (.move 17 (sl 3)),
 .o (.make 18 [.v (.int .i64 0)] 8 (sl 17) (sl 17)),
 .o (.move 4 (sl 18))])
 ((.seq (.seq (.reg [.o (.fld 19 0 (sl 1)),
 .o (.load1 20 (sl 19)),
 .o (.lenS 21 (sl 20)),
 .o (.move 22 (ci 0))])
 ((.block 0 (.loop (.seq (.reg [.o (.bin 23 .lss (sl 22) (sl 21))])
 ((.seq (.cond (sl 23) .skip
 (.exit 0))
 ((.seq (.block 1 (.seq (.reg [.o (.move 24 (sl 22)),
 .o (.idx 25 5 (sl 20) (sl 22)),
 .o (.loadN 26 5 (sl 25)),
 .o (.alloc 6 [.v (.int .i64 0), .v (.int .i64 0), .v (.int .i64 0), .v (.int .i64 0), .v (.slice none 0 0)]),
 .o (.move 5 (sl 24)),
 .o (.store 5 (sl 6) (sl 26))])
 ((.seq (.seq (.reg [.o (.fld 27 0 (sl 6)),
 .o (.load1 28 (sl 27)),
 .o (.call (some 29) (cf 110) [(sl 28), (ci 0), (ci 2)]),
 .o (.un 30 .not (sl 29)),
 .o (.move 31 (sl 30)),
 .g 31 false (some 32) (.fld 32 1 (sl 6)),
 .g 31 false (some 33) (.load1 33 (sl 32)),
 .g 31 false (some 34) (.call (some 34) (cf 110) [(sl 33), (ci 0), (ci 100)]),
 .g 31 false (some 35) (.un 35 .not (sl 34)),
 .o (.pick 36 (sl 31) (cb true) (sl 35)),
 .o (.move 37 (sl 36)),
 .g 37 false (some 38) (.fld 38 2 (sl 6)),
 .g 37 false (some 39) (.load1 39 (sl 38)),
 .g 37 false (some 40) (.call (some 40) (cf 110) [(sl 39), (ci 0), (ci 100)]),
 .g 37 false (some 41) (.un 41 .not (sl 40)),
 .o (.pick 42 (sl 37) (cb true) (sl 41))])
 ((.cond (sl 42) (.seq (.reg [.o (.move 2 (cb false))])
 (.ret))
 .skip)))
 ((.seq (.seq (.reg [.o (.fld 43 0 (sl 6)),
 .o (.load1 44 (sl 43)),
 .o (.bin 45 .eql (sl 44) (ci 2))])
 ((.cond (sl 45) (.seq (.seq (.reg [.o (.fld 46 4 (sl 6)),
 .o (.load1 47 (sl 46)),
 .o (.lenS 48 (sl 47)),
 .o (.bin 49 .gtr (sl 48) (ci 0)),
 .o (.move 50 (sl 49)),
 .g 50 false (some 51) (.fld 51 3 (sl 6)),
 .g 50 false (some 52) (.load1 52 (sl 51)),
 .g 50 false (some 53) (.call (some 53) (cf 110) [(sl 52), (ci (-1)), (ci 1)]),
 .g 50 false (some 54) (.un 54 .not (sl 53)),
 .o (.pick 55 (sl 50) (cb true) (sl 54)),
 .o (.move 56 (sl 55)),
 .g 56 false (some 57) (.fld 57 3 (sl 6)),
 .g 56 false (some 58) (.load1 58 (sl 57)),
 .g 56 false (some 59) (.bin 59 .eql (sl 58) (ci (-1))),
 .g 56 false (some 60) (.move 60 (sl 59)),
 .g 60 true (some 61) (.fld 61 1 (sl 6)),
 .g 60 true (some 62) (.load1 62 (sl 61)),
 .g 60 true (some 63) (.fld 63 2 (sl 6)),
 .g 60 true (some 64) (.load1 64 (sl 63)),
 .g 60 true (some 65) (.bin 65 .neq (sl 62) (sl 64)),
 .g 56 false (some 66) (.pick 66 (sl 60) (sl 65) (cb false)),
 .o (.pick 67 (sl 56) (cb true) (sl 66))])
 ((.cond (sl 67) (.seq (.reg [.o (.move 2 (cb false))])
 (.ret))
 .skip)))
 ((.exit 1)))
 .skip)))
 ((.seq (.seq (.reg [.o (.fld 68 3 (sl 6)),
 .o (.load1 69 (sl 68)),
 .o (.bin 70 .neq (sl 69) (ci (-1))),
 .o (.move 71 (sl 70)),
 .g 71 false (some 72) (.fld 72 4 (sl 6)),
 .g 71 false (some 73) (.load1 73 (sl 72)),
 .g 71 false (some 74) (.lenS 74 (sl 73)),
 .g 71 false (some 75) (.call (some 75) (cf 110) [(sl 74), (ci 1), (ci 4)]),
 .g 71 false (some 76) (.un 76 .not (sl 75)),
 .o (.pick 77 (sl 71) (cb true) (sl 76)),
 .o (.move 78 (sl 77)),
 .g 78 false (some 79) (.fld 79 4 (sl 6)),
 .g 78 false (some 80) (.load1 80 (sl 79)),
 .g 78 false (some 81) (.move 81 (sl 5)),
 .g 78 false (some 82) (.bin 82 .add (sl 81) (ci 1)),
 .g 78 false (some 83) (.move 83 (sl 3)),
 .g 78 false (some 84) (.bin 84 .sub (sl 83) (ci 1)),
 .g 78 false (some 85) (.call (some 85) (cf 176) [(sl 80), (sl 82), (sl 84)]),
 .g 78 false (some 86) (.un 86 .not (sl 85)),
 .o (.pick 87 (sl 78) (cb true) (sl 86)),
 .o (.move 88 (sl 87)),
 .g 88 false (some 89) (.fld 89 4 (sl 6)),
 .g 88 false (some 90) (.load1 90 (sl 89)),
 .g 88 false (some 91) (.call (some 91) (cf 212) [(sl 90)]),
 .g 88 false (some 92) (.un 92 .not (sl 91)),
 .o (.pick 93 (sl 88) (cb true) (sl 92))])
 ((.cond (sl 93) (.seq (.reg [.o (.move 2 (cb false))])
 (.ret))
 .skip)))
 ((.seq (.reg [.o (.fld 94 4 (sl 6)),
 .o (.load1 95 (sl 94)),
 .o (.lenS 96 (sl 95)),
 .o (.move 97 (ci 0))])
 ((.block 2 (.loop (.seq (.reg [.o (.bin 98 .lss (sl 97) (sl 96))])
 ((.seq (.cond (sl 98) .skip
 (.exit 2))
 ((.seq (.block 3 (.seq (.reg [.o (.idx 99 1 (sl 95) (sl 97)),
 .o (.load1 100 (sl 99)),
 .o (.move 8 (sl 100))])
 ((.reg [.o (.move 101 (sl 4)),
 .o (.move 102 (sl 8)),
 .o (.idx 103 1 (sl 101) (sl 102)),
 .o (.load1 104 (sl 103)),
 .o (.bin 105 .add (sl 104) (ci 1)),
 .o (.idx 106 1 (sl 101) (sl 102)),
 .o (.store 1 (sl 106) (sl 105))]))))
 ((.reg [.o (.bin 107 .add (sl 97) (ci 1)),
 .o (.move 97 (sl 107))]))))))))))))))))))))
 ((.reg [.o (.bin 108 .add (sl 22) (ci 1)),
 .o (.move 22 (sl 108))])))))))))))
 ((.seq (.seq (.reg [.o (.move 109 (sl 4)),
 .o (.slc 110 1 (sl 109) (some (ci 1)) none),
 .o (.lenS 111 (sl 110)),
 .o (.move 112 (ci 0))])
 ((.block 4 (.loop (.seq (.reg [.o (.bin 113 .lss (sl 112) (sl 111))])
 ((.seq (.cond (sl 113) .skip
 (.exit 4))
 ((.seq (.block 5 (.seq (.reg [.o (.idx 114 1 (sl 110) (sl 112)),
 .o (.load1 115 (sl 114)),
 .o (.move 10 (sl 115))])
 ((.seq (.reg [.o (.move 116 (sl 10)),
 .o (.bin 117 .neq (sl 116) (ci 1))])
 ((.cond (sl 117) (.seq (.reg [.o (.move 2 (cb false))])
 (.ret))
 .skip))))))
 ((.reg [.o (.bin 118 .add (sl 112) (ci 1)),
 .o (.move 112 (sl 118))])))))))))))
 ((.seq (.reg [.o (.loadN 119 1 (sl 1)),
 .o (.call (some 120) (cf 164) [(sl 119), (ci 0)]),
 .o (.bin 121 .leq (sl 120) (ci 5)),
 .o (.move 2 (sl 121))])
 (.ret))))))))))))))
theorem q0aa {rin : List T} {args : List A} {Q : List T -> T -> Prop} (ha : args.length <= 122) (h : cW Try.prog 122 q03c (retP Try.prog [.tmp 2] rin.length Q) (St.of (enum 0 args) (enum 1000000000 rin))) :
    Fun Try.prog 175 rin args Q :=
  Fun.of (H := ⟨[], []⟩) Try.func175 rfl rfl rfl (by kernel_rfl) ha (by decide) h

def q03d : CC :=
 (.seq (.reg [.o (.move 6 (cb false))])
 ((.seq (.seq (.reg [.o (.move 9 (sl 0)),
 .o (.lenS 10 (sl 9)),
 .o (.move 11 (ci 0))])
 ((.block 0 (.loop (.seq (.reg [.o (.bin 12 .lss (sl 11) (sl 10))])
 ((.seq (.cond (sl 12) .skip
 (.exit 0))
 ((.seq (.block 1 (.seq (.reg [.o (.idx 13 1 (sl 9) (sl 11)),
 .o (.load1 14 (sl 13)),
 .o (.move 8 (sl 14))])
 ((.seq (.reg [.o (.move 15 (sl 8)),
 .o (.move 16 (sl 1)),
 .o (.move 17 (sl 2)),
 .o (.call (some 18) (cf 110) [(sl 15), (sl 16), (sl 17)]),
 .o (.un 19 .not (sl 18))])
 ((.cond (sl 19) (.seq (.reg [.o (.move 6 (cb false))])
 (.ret))
 .skip))))))
 ((.reg [.o (.bin 20 .add (sl 11) (ci 1)),
 .o (.move 11 (sl 20))])))))))))))
 ((.seq (.reg [.o (.move 6 (cb true))])
 (.ret))))))
theorem q0ab {rin : List T} {args : List A} {Q : List T -> T -> Prop} (ha : args.length <= 21) (h : cW Try.prog 21 q03d (retP Try.prog [.tmp 6] rin.length Q) (St.of (enum 0 args) (enum 1000000000 rin))) :
    Fun Try.prog 176 rin args Q :=
  Fun.of (H := ⟨[], []⟩) Try.func176 rfl rfl rfl (by kernel_rfl) ha (by decide) h

def q03s : CC :=
 (.seq (.reg [.o (.box 1 (sl 0)),
 .o (.move 2 (ci 0))])
 ((.seq (.reg [.o (.move 3 (ci 0))])
 ((.seq (.seq (.reg [.o (.fld 6 1 (sl 1)),
 .o (.load1 7 (sl 6)),
 .o (.lenS 8 (sl 7)),
 .o (.move 9 (ci 0))])
 ((.block 0 (.loop (.seq (.reg [.o (.bin 10 .lss (sl 9) (sl 8))])
 ((.seq (.cond (sl 10) .skip
 (.exit 0))
 ((.seq (.block 1 (.seq (.reg [.o (.idx 11 1 (sl 7) (sl 9)),
 .o (.load1 12 (sl 11)),
 .o (.move 5 (sl 12))])
 ((.reg [.o (.move 13 (sl 3)),
 .o (.move 14 (sl 5)),
 .o (.call (some 15) (cf 200) [(sl 14)]),
 .o (.bin 16 .add (sl 13) (sl 15)),
 .o (.move 3 (sl 16))]))))
 ((.reg [.o (.bin 17 .add (sl 9) (ci 1)),
 .o (.move 9 (sl 17))])))))))))))
 ((.seq (.reg [.o (.move 18 (sl 3)),
 .o (.move 2 (sl 18))])
 (.ret))))))))
theorem q0aq {rin : List T} {args : List A} {Q : List T -> T -> Prop} (ha : args.length <= 19) (h : cW Try.prog 19 q03s (retP Try.prog [.tmp 2] rin.length Q) (St.of (enum 0 args) (enum 1000000000 rin))) :
    Fun Try.prog 177 rin args Q :=
  Fun.of (H := ⟨[], []⟩) Try.func177 rfl rfl rfl (by kernel_rfl) ha (by decide) h

def q033 : CC :=
 (.seq (.reg [.o (.move 10 (ci 0))])
 ((.seq (.reg [.o (.move 15 (sl 0)),
 .o (.nilc 16 (sl 15)),
 .o (.fld 17 0 (sl 16)),
 .o (.fld 18 0 (sl 17)),
 .o (.fld 19 0 (sl 18)),
 .o (.load1 20 (sl 19)),
 .o (.move 21 (sl 1)),
 .o (.idx 22 5 (sl 20) (sl 21)),
 .o (.loadN 23 5 (sl 22)),
 .o (.alloc 11 [.v (.int .i64 0), .v (.int .i64 0), .v (.int .i64 0), .v (.int .i64 0), .v (.slice none 0 0)]),
 .o (.store 5 (sl 11) (sl 23))])
 ((.seq (.seq (.reg [.o (.fld 24 0 (sl 11)),
 .o (.load1 25 (sl 24)),
 .o (.bin 26 .eql (sl 25) (ci 2))])
 ((.cond (sl 26) (.seq (.reg [.o (.move 27 (sl 0)),
 .o (.nilc 28 (sl 27)),
 .o (.fld 29 0 (sl 28)),
 .o (.loadN 30 3 (sl 29)),
 .o (.move 31 (sl 1)),
 .o (.move 32 (sl 2)),
 .o (.move 33 (sl 3)),
 .o (.call (some 34) (cf 213) [(sl 30), (sl 31), (sl 32), (sl 33)]),
 .o (.move 35 (sl 4)),
 .o (.call (some 36) (cf 163) [(ci 60), (sl 35)]),
 .o (.bin 37 .mul (sl 34) (sl 36)),
 .o (.move 10 (sl 37))])
 (.ret))
 .skip)))
 ((.seq (.reg [.o (.move 12 (ci 0))])
 ((.seq (.seq (.reg [.o (.move 38 (sl 0)),
 .o (.move 39 (sl 1)),
 .o (.move 40 (sl 2)),
 .o (.move 41 (sl 3)),
 .o (.call (some 42) (cf 214) [(sl 38), (sl 39), (sl 40), (sl 41)]),
 .o (.lenS 43 (sl 42)),
 .o (.move 44 (ci 0))])
 ((.block 0 (.loop (.seq (.reg [.o (.bin 45 .lss (sl 44) (sl 43))])
 ((.seq (.cond (sl 45) .skip
 (.exit 0))
 ((.seq (.block 1 (.seq (.reg [.o (.move 46 (sl 44)),
 .o (.idx 47 1 (sl 42) (sl 44)),
 .o (.load1 48 (sl 47)),
 .o (.move 13 (sl 46)),
 .o (.move 14 (sl 48))])
 ((.seq (.reg [.o (.move 49 (sl 14)),
 .o (.bin 50 .gtr (sl 49) (ci 0))])
 ((.cond (sl 50) (.reg [.o (.move 51 (sl 12)),
 .o (.move 52 (sl 14)),
 .o (.move 53 (sl 0)),
 .o (.fld 54 4 (sl 11)),
 .o (.load1 55 (sl 54)),
 .o (.move 56 (sl 13)),
 .o (.idx 57 1 (sl 55) (sl 56)),
 .o (.load1 58 (sl 57)),
 .o (.move 59 (sl 2)),
 .o (.move 60 (sl 3)),
 .o (.move 61 (sl 4)),
 .o (.bin 62 .sub (sl 61) (ci 1)),
 .o (.call (some 63) (cf 180) [(sl 53), (sl 58), (sl 59), (sl 60), (sl 62)]),
 .o (.bin 64 .mul (sl 52) (sl 63)),
 .o (.bin 65 .add (sl 51) (sl 64)),
 .o (.move 12 (sl 65))])
 .skip))))))
 ((.reg [.o (.bin 66 .add (sl 44) (ci 1)),
 .o (.move 44 (sl 66))])))))))))))
 ((.seq (.reg [.o (.move 67 (sl 12)),
 .o (.move 10 (sl 67))])
 (.ret))))))))))))
theorem q0a1 {rin : List T} {args : List A} {Q : List T -> T -> Prop} (ha : args.length <= 68) (h : cW Try.prog 68 q033 (retP Try.prog [.tmp 10] rin.length Q) (St.of (enum 0 args) (enum 1000000000 rin))) :
    Fun Try.prog 180 rin args Q :=
  Fun.of (H := ⟨[], []⟩) Try.func180 rfl rfl rfl (by kernel_rfl) ha (by decide) h

def q03m : CC :=
 (.seq (.reg [.o (.box 2 (sl 0)),
 .o (.move 4 (cv (.slice none 0 0)))])
 ((.seq (.reg [.o (.move 5 (cv (.slice none 0 0)))])
 ((.seq (.seq (.reg [.o (.fld 8 0 (sl 2)),
 .o (.load1 9 (sl 8)),
 .o (.lenS 10 (sl 9)),
 .o (.move 11 (ci 0))])
 ((.block 0 (.loop (.seq (.reg [.o (.bin 12 .lss (sl 11) (sl 10))])
 ((.seq (.cond (sl 12) .skip
 (.exit 0))
 ((.seq (.block 1 (.seq (.reg [.o (.move 13 (sl 11)),
 .o (.idx 14 5 (sl 9) (sl 11)),
 .o (.loadN 15 5 (sl 14)),
 .o (.alloc 7 [.v (.int .i64 0), .v (.int .i64 0), .v (.int .i64 0), .v (.int .i64 0), .v (.slice none 0 0)]),
 .o (.move 6 (sl 13)),
 .o (.store 5 (sl 7) (sl 15))])
 ((.seq (.reg [.o (.fld 16 0 (sl 7)),
 .o (.load1 17 (sl 16)),
 .o (.move 18 (sl 1)),
 .o (.bin 19 .eql (sl 17) (sl 18))])
 ((.cond (sl 19) (.reg [.o (.move 20 (sl 5)),
 .o (.move 21 (sl 6)),
 .o (.bslice 22 1 1 [(0, (sl 21))]),
 .o (.app 23 1 8 (sl 20) (sl 22)),
 .o (.move 5 (sl 23))])
 .skip))))))
 ((.reg [.o (.bin 24 .add (sl 11) (ci 1)),
 .o (.move 11 (sl 24))])))))))))))
 ((.seq (.reg [.o (.move 25 (sl 5)),
 .o (.move 4 (sl 25))])
 (.ret))))))))
theorem q0ak {rin : List T} {args : List A} {Q : List T -> T -> Prop} (ha : args.length <= 26) (h : cW Try.prog 26 q03m (retP Try.prog [.tmp 4] rin.length Q) (St.of (enum 0 args) (enum 1000000000 rin))) :
    Fun Try.prog 181 rin args Q :=
  Fun.of (H := ⟨[], []⟩) Try.func181 rfl rfl rfl (by kernel_rfl) ha (by decide) h

def q053 : CC :=
 (.seq (.reg [.o (.box 7 (sl 0)),
 .o (.box 8 (sl 1)),
 .o (.box 9 (sl 2)),
 .o (.move 14 (ci 0))])
 ((.seq (.reg [.o (.fld 19 0 (sl 7)),
 .o (.fld 20 0 (sl 19)),
 .o (.load1 21 (sl 20)),
 .o (.move 22 (sl 3)),
 .o (.idx 23 5 (sl 21) (sl 22)),
 .o (.loadN 24 5 (sl 23)),
 .o (.alloc 15 [.v (.int .i64 0), .v (.int .i64 0), .v (.int .i64 0), .v (.int .i64 0), .v (.slice none 0 0)]),
 .o (.store 5 (sl 15) (sl 24))])
 ((.seq (.seq (.reg [.o (.fld 25 0 (sl 15)),
 .o (.load1 26 (sl 25)),
 .o (.bin 27 .eql (sl 26) (ci 2))])
 ((.cond (sl 27) (.seq (.reg [.o (.loadN 28 3 (sl 7)),
 .o (.move 29 (sl 3)),
 .o (.move 30 (sl 4)),
 .o (.move 31 (sl 5)),
 .o (.call (some 32) (cf 215) [(sl 28), (sl 29), (sl 30), (sl 31)]),
 .o (.move 33 (sl 6)),
 .o (.call (some 34) (cf 157) [(sl 33)]),
 .o (.bin 35 .mul (sl 32) (sl 34)),
 .o (.move 14 (sl 35))])
 (.ret))
 .skip)))
 ((.seq (.reg [.o (.loadN 36 3 (sl 7)),
 .o (.loadN 37 2 (sl 8)),
 .o (.loadN 38 2 (sl 9)),
 .o (.move 39 (sl 3)),
 .o (.move 40 (sl 4)),
 .o (.move 41 (sl 5)),
 .o (.call (some 42) (cf 216) [(sl 36), (sl 37), (sl 38), (sl 39), (sl 40), (sl 41)]),
 .o (.move 16 (sl 42))])
 ((.seq (.reg [.o (.move 17 (ci 0))])
 ((.seq (.seq (.reg [.o (.move 18 (ci 0))])
 ((.block 0 (.loop (.seq (.seq (.reg [.o (.move 43 (sl 18)),
 .o (.fld 44 4 (sl 15)),
 .o (.load1 45 (sl 44)),
 .o (.lenS 46 (sl 45)),
 .o (.bin 47 .lss (sl 43) (sl 46))])
 ((.cond (sl 47) .skip
 (.exit 0))))
 ((.seq (.block 1 (.draw [] [(kR, .o (.move 50 (sl 17))),
 (kR, .o (.move 51 (sl 16))),
 (kR, .o (.move 52 (sl 18))),
 (kR, .o (.idx 53 1 (sl 51) (sl 52))),
 (kR, .o (.load1 54 (sl 53))),
 (kR, .o (.loadN 55 3 (sl 7))),
 (kR, .o (.loadN 56 2 (sl 8))),
 (kR, .o (.loadN 57 2 (sl 9))),
 (kR, .o (.fld 58 4 (sl 15))),
 (kR, .o (.load1 59 (sl 58))),
 (kR, .o (.move 60 (sl 18))),
 (kR, .o (.idx 61 1 (sl 59) (sl 60))),
 (kR, .o (.load1 62 (sl 61))),
 (kR, .o (.move 63 (sl 4))),
 (kR, .o (.move 64 (sl 5))),
 (kR, .o (.move 65 (sl 6))),
 (kR, .o (.bin 66 .sub (sl 65) (ci 1))),
 (kR, .o (.call (some 67) (cf 183) [(sl 55), (sl 56), (sl 57), (sl 62), (sl 63), (sl 64), (sl 66)])),
 (kR, .o (.bin 68 .mul (sl 54) (sl 67))),
 (kR, .o (.bin 69 .add (sl 50) (sl 68))),
 (kR, .o (.move 17 (sl 69)))]))
 ((.reg [.o (.move 48 (sl 18)),
 .o (.bin 49 .add (sl 48) (ci 1)),
 .o (.move 18 (sl 49))])))))))))
 ((.seq (.reg [.o (.move 70 (sl 17)),
 .o (.move 14 (sl 70))])
 (.ret))))))))))))))
theorem q0c1 {rin : List T} {args : List A} {Q : List T -> T -> Prop} (ha : args.length <= 71) (h : cW Try.prog 71 q053 (retP Try.prog [.tmp 14] rin.length Q) (St.of (enum 0 args) (enum 1000000000 rin))) :
    Fun Try.prog 183 rin args Q :=
  Fun.of (H := ⟨[], []⟩) Try.func183 rfl rfl rfl (by kernel_rfl) ha (by decide) h

def q0yc : CC :=
 (.seq (.reg [.o (.alloc 6 [.v (.slice none 0 0)]),
 .o (.move 7 (ci 0))])
 ((.seq (.seq (.reg [.o (.move 8 (sl 0)),
 .o (.call (some 9) (cf 148) [(sl 8), (ci 0), (ci 100)]),
 .o (.un 10 .not (sl 9)),
 .o (.move 11 (sl 10)),
 .g 11 false (some 12) (.move 12 (sl 1)),
 .g 11 false (some 13) (.call (some 13) (cf 148) [(sl 12), (ci 1), (ci 100)]),
 .g 11 false (some 14) (.un 14 .not (sl 13)),
 .o (.pick 15 (sl 11) (cb true) (sl 14)),
 .o (.move 16 (sl 15)),
 .g 16 false (some 17) (.move 17 (sl 2)),
 .g 16 false (some 18) (.call (some 18) (cf 148) [(sl 17), (ci 0), (ci 2)]),
 .g 16 false (some 19) (.un 19 .not (sl 18)),
 .o (.pick 20 (sl 16) (cb true) (sl 19)),
 .o (.move 21 (sl 20)),
 .g 21 false (some 22) (.move 22 (sl 0)),
 .g 21 false (some 23) (.move 23 (sl 1)),
 .g 21 false (some 24) (.move 24 (sl 2)),
 .g 21 false (some 25) (.bin 25 .add (sl 24) (ci 1)),
 .g 21 false (some 26) (.bin 26 .mul (sl 23) (sl 25)),
 .g 21 false (some 27) (.bin 27 .add (sl 22) (sl 26)),
 .g 21 false (some 28) (.bin 28 .gtr (sl 27) (ci 100)),
 .o (.pick 29 (sl 21) (cb true) (sl 28))])
 ((.cond (sl 29) (.seq (.reg [.o (.build 30 [.v (.slice none 0 0)] [(0, 1)] []),
 .o (.store 1 (sl 6) (sl 30)),
 .o (.move 7 (ci 2))])
 (.ret))
 .skip)))
 ((.seq (.reg [.o (.move 31 (sl 0)),
 .o (.move 32 (sl 0)),
 .o (.move 33 (sl 1)),
 .o (.move 34 (sl 2)),
 .o (.call (some 35) (cf 217) [(cv (.slice none 0 0)), (ci 0), (sl 31), (sl 32), (sl 33), (sl 34), (cb false)]),
 .o (.build 36 [.v (.slice none 0 0)] [(0, 1)] [(0, (sl 35))]),
 .o (.store 1 (sl 6) (sl 36)),
 .o (.move 7 (ci 0))])
 (.ret))))))
theorem q0zh {rin : List T} {args : List A} {Q : List T -> T -> Prop} (ha : args.length <= 37) (h : cW Try.prog 37 q0yc (retP Try.prog [.cell 6 33, .tmp 7] rin.length Q) (St.of (enum 0 args) (enum 1000000000 rin))) :
    Fun Try.prog 184 rin args Q :=
  Fun.of (H := ⟨[], []⟩) Try.func184 rfl rfl rfl (by kernel_rfl) ha (by decide) h

def q0yq : CC :=
 (.seq (.reg [.o (.box 3 (sl 0)),
 .o (.alloc 6 [.v (.slice none 0 0), .v (.slice none 0 0), .v (.slice none 0 0)])])
 ((.seq (.reg [.o (.bslice 13 1 0 []),
 .o (.bslice 14 1 0 []),
 .o (.move 7 (sl 13)),
 .o (.move 8 (sl 14))])
 ((.seq (.seq (.reg [.o (.move 9 (ci 0))])
 ((.block 0 (.loop (.seq (.seq (.reg [.o (.move 15 (sl 9)),
 .o (.move 16 (sl 1)),
 .o (.bin 17 .lss (sl 15) (sl 16))])
 ((.cond (sl 17) .skip
 (.exit 0))))
 ((.seq (.block 1 (.seq (.reg [.o (.bslice 20 1 0 []),
 .o (.bslice 21 1 0 []),
 .o (.move 10 (sl 20)),
 .o (.move 11 (sl 21))])
 ((.seq (.seq (.reg [.o (.move 12 (ci 0))])
 ((.block 2 (.loop (.seq (.seq (.reg [.o (.move 22 (sl 12)),
 .o (.move 23 (sl 1)),
 .o (.bin 24 .lss (sl 22) (sl 23))])
 ((.cond (sl 24) .skip
 (.exit 2))))
 ((.seq (.block 3 (.seq (.seq (.reg [.o (.move 27 (sl 9)),
 .o (.move 28 (sl 12)),
 .o (.bin 29 .eql (sl 27) (sl 28)),
 .o (.move 30 (sl 29)),
 .g 30 true (some 31) (.move 31 (sl 2)),
 .g 30 true (some 32) (.un 32 .not (sl 31)),
 .o (.pick 33 (sl 30) (sl 32) (cb false))])
 ((.cond (sl 33) (.reg [.o (.move 34 (sl 10)),
 .o (.bslice 35 1 1 [(0, (ci 0))]),
 .o (.app 36 1 8 (sl 34) (sl 35)),
 .o (.move 10 (sl 36))])
 (.reg [.o (.move 37 (sl 10)),
 .o (.bslice 38 1 1 [(0, (ci 1))]),
 .o (.app 39 1 8 (sl 37) (sl 38)),
 .o (.move 10 (sl 39))]))))
 ((.reg [.o (.move 40 (sl 11)),
 .o (.move 41 (sl 9)),
 .o (.move 42 (sl 12)),
 .o (.call (some 43) (cf 218) [(sl 41), (sl 42)]),
 .o (.bslice 44 1 1 [(0, (sl 43))]),
 .o (.app 45 1 8 (sl 40) (sl 44)),
 .o (.move 11 (sl 45))]))))
 ((.reg [.o (.move 25 (sl 12)),
 .o (.bin 26 .add (sl 25) (ci 1)),
 .o (.move 12 (sl 26))])))))))))
 ((.seq (.reg [.o (.move 46 (sl 7)),
 .o (.move 47 (sl 10)),
 .o (.bslice 48 1 1 [(0, (sl 47))]),
 .o (.app 49 1 24 (sl 46) (sl 48)),
 .o (.move 7 (sl 49))])
 ((.reg [.o (.move 50 (sl 8)),
 .o (.move 51 (sl 11)),
 .o (.bslice 52 1 1 [(0, (sl 51))]),
 .o (.app 53 1 24 (sl 50) (sl 52)),
 .o (.move 8 (sl 53))]))))))))
 ((.reg [.o (.move 18 (sl 9)),
 .o (.bin 19 .add (sl 18) (ci 1)),
 .o (.move 9 (sl 19))])))))))))
 ((.seq (.reg [.o (.loadN 54 1 (sl 3)),
 .o (.call (some 55) (cf 219) [(sl 54)]),
 .o (.move 56 (sl 7)),
 .o (.move 57 (sl 8)),
 .o (.build 58 [.v (.slice none 0 0), .v (.slice none 0 0), .v (.slice none 0 0)] [(0, 1), (1, 1), (2, 1)] [(0, (sl 55)), (1, (sl 56)), (2, (sl 57))]),
 .o (.store 3 (sl 6) (sl 58))])
 (.ret))))))))
theorem q0zv {rin : List T} {args : List A} {Q : List T -> T -> Prop} (ha : args.length <= 59) (h : cW Try.prog 59 q0yq (retP Try.prog [.cell 6 35] rin.length Q) (St.of (enum 0 args) (enum 1000000000 rin))) :
    Fun Try.prog 185 rin args Q :=
  Fun.of (H := ⟨[], []⟩) Try.func185 rfl rfl rfl (by kernel_rfl) ha (by decide) h

def q04w : CC :=
 (.seq (.reg [.o (.box 2 (sl 0)),
 .o (.move 4 (cv (.slice none 0 0)))])
 ((.seq (.reg [.o (.fld 9 0 (sl 2)),
 .o (.loadN 10 1 (sl 9)),
 .o (.move 11 (sl 1)),
 .o (.call (some 12) (cf 220) [(sl 10), (sl 11)]),
 .o (.move 5 (sl 12))])
 ((.seq (.reg [.o (.bslice 13 1 0 []),
 .o (.move 6 (sl 13))])
 ((.seq (.seq (.reg [.o (.move 7 (ci 0))])
 ((.block 0 (.loop (.seq (.seq (.reg [.o (.move 14 (sl 7)),
 .o (.move 15 (sl 5)),
 .o (.lenS 16 (sl 15)),
 .o (.bin 17 .lss (sl 14) (sl 16))])
 ((.cond (sl 17) .skip
 (.exit 0))))
 ((.seq (.block 1 (.seq (.reg [.o (.move 8 (ci 0))])
 ((.block 2 (.loop (.seq (.seq (.reg [.o (.move 20 (sl 8)),
 .o (.fld 21 1 (sl 2)),
 .o (.load1 22 (sl 21)),
 .o (.lenS 23 (sl 22)),
 .o (.bin 24 .lss (sl 20) (sl 23))])
 ((.cond (sl 24) .skip
 (.exit 2))))
 ((.seq (.block 3 (.reg [.o (.move 27 (sl 6)),
 .o (.move 28 (sl 5)),
 .o (.move 29 (sl 7)),
 .o (.idx 30 1 (sl 28) (sl 29)),
 .o (.load1 31 (sl 30)),
 .o (.move 32 (sl 8)),
 .o (.bslice 33 1 2 [(0, (sl 31)), (1, (sl 32))]),
 .o (.bslice 34 1 1 [(0, (sl 33))]),
 .o (.app 35 1 24 (sl 27) (sl 34)),
 .o (.move 6 (sl 35))]))
 ((.reg [.o (.move 25 (sl 8)),
 .o (.bin 26 .add (sl 25) (ci 1)),
 .o (.move 8 (sl 26))]))))))))))
 ((.reg [.o (.move 18 (sl 7)),
 .o (.bin 19 .add (sl 18) (ci 1)),
 .o (.move 7 (sl 19))])))))))))
 ((.seq (.reg [.o (.move 36 (sl 6)),
 .o (.move 4 (sl 36))])
 (.ret))))))))))
theorem q0bu {rin : List T} {args : List A} {Q : List T -> T -> Prop} (ha : args.length <= 37) (h : cW Try.prog 37 q04w (retP Try.prog [.tmp 4] rin.length Q) (St.of (enum 0 args) (enum 1000000000 rin))) :
    Fun Try.prog 186 rin args Q :=
  Fun.of (H := ⟨[], []⟩) Try.func186 rfl rfl rfl (by kernel_rfl) ha (by decide) h

def q04p : CC :=
 (.seq (.reg [.o (.move 2 (ci 0))])
 ((.seq (.reg [.o (.move 3 (ci 0))])
 ((.seq (.seq (.reg [.o (.move 4 (ci 0))])
 ((.block 0 (.loop (.seq (.seq (.reg [.o (.move 5 (sl 4)),
 .o (.move 6 (sl 0)),
 .o (.lenS 7 (sl 6)),
 .o (.bin 8 .lss (sl 5) (sl 7))])
 ((.cond (sl 8) .skip
 (.exit 0))))
 ((.seq (.block 1 (.reg [.o (.move 11 (sl 3)),
 .o (.move 12 (sl 0)),
 .o (.move 13 (sl 4)),
 .o (.idx 14 1 (sl 12) (sl 13)),
 .o (.load1 15 (sl 14)),
 .o (.bin 16 .add (sl 11) (sl 15)),
 .o (.move 3 (sl 16))]))
 ((.reg [.o (.move 9 (sl 4)),
 .o (.bin 10 .add (sl 9) (ci 1)),
 .o (.move 4 (sl 10))])))))))))
 ((.seq (.reg [.o (.move 17 (sl 3)),
 .o (.move 2 (sl 17))])
 (.ret))))))))
theorem q0bn {rin : List T} {args : List A} {Q : List T -> T -> Prop} (ha : args.length <= 18) (h : cW Try.prog 18 q04p (retP Try.prog [.tmp 2] rin.length Q) (St.of (enum 0 args) (enum 1000000000 rin))) :
    Fun Try.prog 187 rin args Q :=
  Fun.of (H := ⟨[], []⟩) Try.func187 rfl rfl rfl (by kernel_rfl) ha (by decide) h

def q04x : CC :=
 (.seq (.reg [.o (.box 1 (sl 0)),
 .o (.move 2 (ci 0))])
 ((.seq (.reg [.o (.move 3 (ci 0))])
 ((.seq (.seq (.reg [.o (.move 4 (ci 0))])
 ((.block 0 (.loop (.seq (.seq (.reg [.o (.move 5 (sl 4)),
 .o (.fld 6 1 (sl 1)),
 .o (.load1 7 (sl 6)),
 .o (.lenS 8 (sl 7)),
 .o (.bin 9 .lss (sl 5) (sl 8))])
 ((.cond (sl 9) .skip
 (.exit 0))))
 ((.seq (.block 1 (.reg [.o (.move 12 (sl 3)),
 .o (.fld 13 1 (sl 1)),
 .o (.load1 14 (sl 13)),
 .o (.move 15 (sl 4)),
 .o (.idx 16 1 (sl 14) (sl 15)),
 .o (.load1 17 (sl 16)),
 .o (.call (some 18) (cf 187) [(sl 17)]),
 .o (.bin 19 .add (sl 12) (sl 18)),
 .o (.move 3 (sl 19))]))
 ((.reg [.o (.move 10 (sl 4)),
 .o (.bin 11 .add (sl 10) (ci 1)),
 .o (.move 4 (sl 11))])))))))))
 ((.seq (.reg [.o (.move 20 (sl 3)),
 .o (.move 2 (sl 20))])
 (.ret))))))))
theorem q0bv {rin : List T} {args : List A} {Q : List T -> T -> Prop} (ha : args.length <= 21) (h : cW Try.prog 21 q04x (retP Try.prog [.tmp 2] rin.length Q) (St.of (enum 0 args) (enum 1000000000 rin))) :
    Fun Try.prog 191 rin args Q :=
  Fun.of (H := ⟨[], []⟩) Try.func191 rfl rfl rfl (by kernel_rfl) ha (by decide) h

def q03n : CC :=
 (.seq (.reg [.o (.move 2 (cv (.slice none 0 0)))])
 ((.seq (.reg [.o (.move 10 (sl 0)),
 .o (.call (some 11) (cf 200) [(sl 10)]),
 .o (.move 3 (sl 11))])
 ((.seq (.draw [14, 17] [(kR, .o (.move 12 (sl 0))),
 (kR, .o (.lenS 13 (sl 12))),
 (kN, .o (.make 14 [.v (.int .i64 0)] 8 (sl 13) (sl 13))),
 (.r false [14], .o (.move 15 (sl 0))),
 (.r false [14], .o (.lenS 16 (sl 15))),
 (kN, .o (.make 17 [.v (.int .i64 0)] 8 (sl 16) (sl 16))),
 (.r false [17], .o (.move 4 (sl 14))),
 (kR, .o (.move 5 (sl 17)))])
 ((.seq (.reg [.o (.move 6 (ci 60))])
 ((.seq (.seq (.reg [.o (.move 18 (sl 0)),
 .o (.lenS 19 (sl 18)),
 .o (.move 20 (ci 0))])
 ((.block 0 (.loop (.seq (.reg [.o (.bin 21 .lss (sl 20) (sl 19))])
 ((.seq (.cond (sl 21) .skip
 (.exit 0))
 ((.seq (.block 1 (.seq (.reg [.o (.move 22 (sl 20)),
 .o (.idx 23 1 (sl 18) (sl 20)),
 .o (.load1 24 (sl 23)),
 .o (.move 7 (sl 22)),
 .o (.move 8 (sl 24))])
 ((.seq (.seq (.reg [.o (.move 25 (sl 3)),
 .o (.bin 26 .eql (sl 25) (ci 0))])
 ((.cond (sl 26) (.draw [] [(kR, .o (.move 27 (sl 4))),
 (kR, .o (.move 28 (sl 7))),
 (kE, .o (.move 29 (sl 5))),
 (kE, .o (.move 30 (sl 7))),
 (kR, .o (.move 31 (sl 0))),
 (kR, .o (.lenS 32 (sl 31))),
 (kR, .o (.bin 33 .quo (ci 60) (sl 32))),
 (kE, .o (.move 34 (sl 0))),
 (kE, .o (.lenS 35 (sl 34))),
 (kE, .o (.bin 36 .rem (ci 60) (sl 35))),
 (kR, .o (.idx 37 1 (sl 27) (sl 28))),
 (kH, .o (.store 1 (sl 37) (sl 33))),
 (kR, .o (.idx 38 1 (sl 29) (sl 30))),
 (kH, .o (.store 1 (sl 38) (sl 36)))])
 (.draw [] [(kR, .o (.move 39 (sl 4))),
 (kR, .o (.move 40 (sl 7))),
 (kE, .o (.move 41 (sl 5))),
 (kE, .o (.move 42 (sl 7))),
 (kR, .o (.move 43 (sl 8))),
 (kR, .o (.bin 44 .mul (ci 60) (sl 43))),
 (kR, .o (.move 45 (sl 3))),
 (kR, .o (.bin 46 .quo (sl 44) (sl 45))),
 (kE, .o (.move 47 (sl 8))),
 (kE, .o (.bin 48 .mul (ci 60) (sl 47))),
 (kE, .o (.move 49 (sl 3))),
 (kE, .o (.bin 50 .rem (sl 48) (sl 49))),
 (kR, .o (.idx 51 1 (sl 39) (sl 40))),
 (kH, .o (.store 1 (sl 51) (sl 46))),
 (kR, .o (.idx 52 1 (sl 41) (sl 42))),
 (kH, .o (.store 1 (sl 52) (sl 50)))]))))
 ((.reg [.o (.move 53 (sl 6)),
 .o (.move 54 (sl 4)),
 .o (.move 55 (sl 7)),
 .o (.idx 56 1 (sl 54) (sl 55)),
 .o (.load1 57 (sl 56)),
 .o (.bin 58 .sub (sl 53) (sl 57)),
 .o (.move 6 (sl 58))]))))))
 ((.reg [.o (.bin 59 .add (sl 20) (ci 1)),
 .o (.move 20 (sl 59))])))))))))))
 ((.seq (.block 2 (.loop (.seq (.seq (.reg [.o (.move 60 (sl 6)),
 .o (.bin 61 .gtr (sl 60) (ci 0))])
 ((.cond (sl 61) .skip
 (.exit 2))))
 ((.seq (.block 3 (.seq (.reg [.o (.move 64 (sl 5)),
 .o (.move 65 (sl 5)),
 .o (.call (some 66) (cf 106) [(sl 65)]),
 .o (.call (some 67) (cf 117) [(sl 64), (sl 66)]),
 .o (.move 9 (sl 67))])
 ((.seq (.reg [.o (.move 68 (sl 4)),
 .o (.move 69 (sl 9)),
 .o (.idx 70 1 (sl 68) (sl 69)),
 .o (.load1 71 (sl 70)),
 .o (.bin 72 .add (sl 71) (ci 1)),
 .o (.idx 73 1 (sl 68) (sl 69)),
 .o (.store 1 (sl 73) (sl 72))])
 ((.reg [.o (.move 74 (sl 5)),
 .o (.move 75 (sl 9)),
 .o (.idx 76 1 (sl 74) (sl 75)),
 .o (.store 1 (sl 76) (ci (-1)))]))))))
 ((.reg [.o (.move 62 (sl 6)),
 .o (.bin 63 .sub (sl 62) (ci 1)),
 .o (.move 6 (sl 63))])))))))
 ((.seq (.reg [.o (.move 77 (sl 4)),
 .o (.move 2 (sl 77))])
 (.ret))))))))))))))
theorem q0al {rin : List T} {args : List A} {Q : List T -> T -> Prop} (ha : args.length <= 78) (h : cW Try.prog 78 q03n (retP Try.prog [.tmp 2] rin.length Q) (St.of (enum 0 args) (enum 1000000000 rin))) :
    Fun Try.prog 193 rin args Q :=
  Fun.of (H := ⟨[], []⟩) Try.func193 rfl rfl rfl (by kernel_rfl) ha (by decide) h

def q04l : CC :=
 (.seq (.reg [.o (.box 1 (sl 0)),
 .o (.move 2 (cb false))])
 ((.seq (.reg [.o (.fld 8 0 (sl 1)),
 .o (.load1 9 (sl 8)),
 .o (.lenS 10 (sl 9)),
 .o (.move 3 (sl 10))])
 ((.seq (.seq (.reg [.o (.move 11 (sl 3)),
 .o (.call (some 12) (cf 148) [(sl 11), (ci 1), (ci 60)]),
 .o (.un 13 .not (sl 12))])
 ((.cond (sl 13) (.seq (.reg [.o (.move 2 (cb false))])
 (.ret))
 .skip)))
 ((.seq (.reg [.o (.move 14 (sl 3)),
 .o (.make 15 [.v (.int .i64 0)] 8 (sl 14) (sl 14)),
 .o (.move 4 (sl 15))])
 ((.seq (.seq (.reg [.o (.move 5 (ci 0))])
 ((.block 0 (.loop (.seq (.seq (.reg [.o (.move 16 (sl 5)),
 .o (.move 17 (sl 3)),
 .o (.bin 18 .lss (sl 16) (sl 17))])
 ((.cond (sl 18) .skip
 (.exit 0))))
 ((.seq (.block 1 (.seq (.seq (.reg [.o (.loadN 21 1 (sl 1)),
 .o (.move 22 (sl 5)),
 .o (.call (some 23) (cf 224) [(sl 21), (sl 22)]),
 .o (.un 24 .not (sl 23))])
 ((.cond (sl 24) (.seq (.reg [.o (.move 2 (cb false))])
 (.ret))
 .skip)))
 ((.seq (.reg [.o (.move 6 (ci 0))])
 ((.block 2 (.loop (.seq (.seq (.reg [.o (.move 25 (sl 6)),
 .o (.fld 26 0 (sl 1)),
 .o (.load1 27 (sl 26)),
 .o (.move 28 (sl 5)),
 .o (.idx 29 5 (sl 27) (sl 28)),
 .o (.fld 30 4 (sl 29)),
 .o (.load1 31 (sl 30)),
 .o (.lenS 32 (sl 31)),
 .o (.bin 33 .lss (sl 25) (sl 32))])
 ((.cond (sl 33) .skip
 (.exit 2))))
 ((.seq (.block 3 (.reg [.o (.move 36 (sl 4)),
 .o (.fld 37 0 (sl 1)),
 .o (.load1 38 (sl 37)),
 .o (.move 39 (sl 5)),
 .o (.idx 40 5 (sl 38) (sl 39)),
 .o (.fld 41 4 (sl 40)),
 .o (.load1 42 (sl 41)),
 .o (.move 43 (sl 6)),
 .o (.idx 44 1 (sl 42) (sl 43)),
 .o (.load1 45 (sl 44)),
 .o (.idx 46 1 (sl 36) (sl 45)),
 .o (.load1 47 (sl 46)),
 .o (.bin 48 .add (sl 47) (ci 1)),
 .o (.idx 49 1 (sl 36) (sl 45)),
 .o (.store 1 (sl 49) (sl 48))]))
 ((.reg [.o (.move 34 (sl 6)),
 .o (.bin 35 .add (sl 34) (ci 1)),
 .o (.move 6 (sl 35))]))))))))))))
 ((.reg [.o (.move 19 (sl 5)),
 .o (.bin 20 .add (sl 19) (ci 1)),
 .o (.move 5 (sl 20))])))))))))
 ((.seq (.seq (.reg [.o (.move 7 (ci 1))])
 ((.block 4 (.loop (.seq (.seq (.reg [.o (.move 50 (sl 7)),
 .o (.move 51 (sl 3)),
 .o (.bin 52 .lss (sl 50) (sl 51))])
 ((.cond (sl 52) .skip
 (.exit 4))))
 ((.seq (.block 5 (.seq (.reg [.o (.move 55 (sl 4)),
 .o (.move 56 (sl 7)),
 .o (.idx 57 1 (sl 55) (sl 56)),
 .o (.load1 58 (sl 57)),
 .o (.bin 59 .neq (sl 58) (ci 1))])
 ((.cond (sl 59) (.seq (.reg [.o (.move 2 (cb false))])
 (.ret))
 .skip))))
 ((.reg [.o (.move 53 (sl 7)),
 .o (.bin 54 .add (sl 53) (ci 1)),
 .o (.move 7 (sl 54))])))))))))
 ((.seq (.reg [.o (.loadN 60 1 (sl 1)),
 .o (.call (some 61) (cf 158) [(sl 60), (ci 0)]),
 .o (.bin 62 .leq (sl 61) (ci 5)),
 .o (.move 2 (sl 62))])
 (.ret))))))))))))))
theorem q0bj {rin : List T} {args : List A} {Q : List T -> T -> Prop} (ha : args.length <= 63) (h : cW Try.prog 63 q04l (retP Try.prog [.tmp 2] rin.length Q) (St.of (enum 0 args) (enum 1000000000 rin))) :
    Fun Try.prog 194 rin args Q :=
  Fun.of (H := ⟨[], []⟩) Try.func194 rfl rfl rfl (by kernel_rfl) ha (by decide) h

def q04u : CC :=
 (.seq (.reg [.o (.move 8 (cb false))])
 ((.seq (.seq (.reg [.o (.move 9 (ci 0))])
 ((.block 0 (.loop (.seq (.seq (.reg [.o (.move 11 (sl 9)),
 .o (.move 12 (sl 0)),
 .o (.lenS 13 (sl 12)),
 .o (.bin 14 .lss (sl 11) (sl 13))])
 ((.cond (sl 14) .skip
 (.exit 0))))
 ((.seq (.block 1 (.seq (.seq (.reg [.o (.move 17 (sl 0)),
 .o (.move 18 (sl 9)),
 .o (.idx 19 1 (sl 17) (sl 18)),
 .o (.load1 20 (sl 19)),
 .o (.lenS 21 (sl 20)),
 .o (.move 22 (sl 1)),
 .o (.bin 23 .neq (sl 21) (sl 22))])
 ((.cond (sl 23) (.seq (.reg [.o (.move 8 (cb false))])
 (.ret))
 .skip)))
 ((.seq (.reg [.o (.move 10 (ci 0))])
 ((.block 2 (.loop (.seq (.seq (.reg [.o (.move 24 (sl 10)),
 .o (.move 25 (sl 1)),
 .o (.bin 26 .lss (sl 24) (sl 25))])
 ((.cond (sl 26) .skip
 (.exit 2))))
 ((.seq (.block 3 (.seq (.reg [.o (.move 29 (sl 0)),
 .o (.move 30 (sl 9)),
 .o (.idx 31 1 (sl 29) (sl 30)),
 .o (.load1 32 (sl 31)),
 .o (.move 33 (sl 10)),
 .o (.idx 34 1 (sl 32) (sl 33)),
 .o (.load1 35 (sl 34)),
 .o (.move 36 (sl 2)),
 .o (.move 37 (sl 3)),
 .o (.call (some 38) (cf 148) [(sl 35), (sl 36), (sl 37)]),
 .o (.un 39 .not (sl 38))])
 ((.cond (sl 39) (.seq (.reg [.o (.move 8 (cb false))])
 (.ret))
 .skip))))
 ((.reg [.o (.move 27 (sl 10)),
 .o (.bin 28 .add (sl 27) (ci 1)),
 .o (.move 10 (sl 28))]))))))))))))
 ((.reg [.o (.move 15 (sl 9)),
 .o (.bin 16 .add (sl 15) (ci 1)),
 .o (.move 9 (sl 16))])))))))))
 ((.seq (.reg [.o (.move 40 (sl 0)),
 .o (.lenS 41 (sl 40)),
 .o (.move 42 (sl 1)),
 .o (.bin 43 .eql (sl 41) (sl 42)),
 .o (.move 8 (sl 43))])
 (.ret))))))
theorem q0bs {rin : List T} {args : List A} {Q : List T -> T -> Prop} (ha : args.length <= 44) (h : cW Try.prog 44 q04u (retP Try.prog [.tmp 8] rin.length Q) (St.of (enum 0 args) (enum 1000000000 rin))) :
    Fun Try.prog 195 rin args Q :=
  Fun.of (H := ⟨[], []⟩) Try.func195 rfl rfl rfl (by kernel_rfl) ha (by decide) h

def q04z : CC :=
 (.seq (.reg [.o (.box 2 (sl 0)),
 .o (.move 4 (cv (.slice none 0 0)))])
 ((.seq (.reg [.o (.loadN 8 3 (sl 2)),
 .o (.move 9 (sl 1)),
 .o (.call (some 10) (cf 186) [(sl 8), (sl 9)]),
 .o (.move 5 (sl 10))])
 ((.seq (.reg [.o (.bslice 11 1 0 []),
 .o (.move 6 (sl 11))])
 ((.seq (.seq (.reg [.o (.move 7 (ci 0))])
 ((.block 0 (.loop (.seq (.seq (.reg [.o (.move 12 (sl 7)),
 .o (.move 13 (sl 5)),
 .o (.lenS 14 (sl 13)),
 .o (.bin 15 .lss (sl 12) (sl 14))])
 ((.cond (sl 15) .skip
 (.exit 0))))
 ((.seq (.block 1 (.draw [32] [(kR, .o (.move 18 (sl 6))),
 (kR, .o (.fld 19 0 (sl 2))),
 (kR, .o (.fld 20 0 (sl 19))),
 (kR, .o (.load1 21 (sl 20))),
 (kR, .o (.move 22 (sl 5))),
 (kR, .o (.move 23 (sl 7))),
 (kR, .o (.idx 24 1 (sl 22) (sl 23))),
 (kR, .o (.load1 25 (sl 24))),
 (kR, .o (.idx 26 1 (sl 25) (ci 0))),
 (kR, .o (.load1 27 (sl 26))),
 (kR, .o (.idx 28 5 (sl 21) (sl 27))),
 (kR, .o (.fld 29 4 (sl 28))),
 (kR, .o (.load1 30 (sl 29))),
 (kR, .o (.lenS 31 (sl 30))),
 (kN, .o (.bslice 32 1 1 [(0, (sl 31))])),
 (kH, .o (.app 33 1 8 (sl 18) (sl 32))),
 (kR, .o (.move 6 (sl 33)))]))
 ((.reg [.o (.move 16 (sl 7)),
 .o (.bin 17 .add (sl 16) (ci 1)),
 .o (.move 7 (sl 17))])))))))))
 ((.seq (.reg [.o (.move 34 (sl 6)),
 .o (.move 4 (sl 34))])
 (.ret))))))))))
theorem q0bx {rin : List T} {args : List A} {Q : List T -> T -> Prop} (ha : args.length <= 35) (h : cW Try.prog 35 q04z (retP Try.prog [.tmp 4] rin.length Q) (St.of (enum 0 args) (enum 1000000000 rin))) :
    Fun Try.prog 196 rin args Q :=
  Fun.of (H := ⟨[], []⟩) Try.func196 rfl rfl rfl (by kernel_rfl) ha (by decide) h

def q04f : CC :=
 (.seq (.reg [.o (.move 2 (cv (.slice none 0 0)))])
 ((.seq (.seq (.reg [.o (.move 3 (sl 0)),
 .o (.isNil 4 false (sl 3))])
 ((.cond (sl 4) (.seq (.reg [.o (.move 2 (cv (.slice none 0 0)))])
 (.ret))
 .skip)))
 ((.seq (.reg [.o (.bslice 5 1 0 []),
 .o (.move 6 (sl 0)),
 .o (.app 7 1 8 (sl 5) (sl 6)),
 .o (.move 2 (sl 7))])
 (.ret))))))
theorem q0bd {rin : List T} {args : List A} {Q : List T -> T -> Prop} (ha : args.length <= 8) (h : cW Try.prog 8 q04f (retP Try.prog [.tmp 2] rin.length Q) (St.of (enum 0 args) (enum 1000000000 rin))) :
    Fun Try.prog 197 rin args Q :=
  Fun.of (H := ⟨[], []⟩) Try.func197 rfl rfl rfl (by kernel_rfl) ha (by decide) h

def q0yn : CC :=
 (.seq (.reg [.o (.move 6 (cv (.slice none 0 0)))])
 ((.seq (.reg [.o (.move 12 (sl 1)),
 .o (.lenS 13 (sl 12)),
 .o (.move 7 (sl 13))])
 ((.seq (.reg [.o (.move 14 (sl 0)),
 .o (.call (some 15) (cf 126) [(sl 14), (ci 6)]),
 .o (.move 8 (sl 15))])
 ((.seq (.seq (.reg [.o (.move 16 (sl 2)),
 .o (.bin 17 .eql (sl 16) (ci 0)),
 .o (.move 18 (sl 17)),
 .g 18 false (some 19) (.move 19 (sl 1)),
 .g 18 false (some 20) (.lenS 20 (sl 19)),
 .g 18 false (some 21) (.bin 21 .gtr (sl 20) (ci 30)),
 .o (.pick 22 (sl 18) (cb true) (sl 21)),
 .o (.move 23 (sl 22)),
 .g 23 false (some 24) (.move 24 (sl 1)),
 .g 23 false (some 25) (.lenS 25 (sl 24)),
 .g 23 false (some 26) (.bin 26 .gtr (sl 25) (ci 0)),
 .g 23 false (some 27) (.move 27 (sl 26)),
 .g 27 true (some 28) (.move 28 (sl 0)),
 .g 27 true (some 29) (.call (some 29) (cf 126) [(sl 28), (ci 3)]),
 .g 27 true (some 30) (.bin 30 .eql (sl 29) (ci 0)),
 .g 23 false (some 31) (.pick 31 (sl 27) (sl 30) (cb false)),
 .o (.pick 32 (sl 23) (cb true) (sl 31))])
 ((.cond (sl 32) (.seq (.reg [.o (.move 33 (sl 8)),
 .o (.move 34 (sl 8)),
 .o (.move 35 (sl 0)),
 .o (.call (some 36) (cf 126) [(sl 35), (ci 3)]),
 .o (.bin 37 .sub (sl 36) (ci 1)),
 .o (.build 38 [.v (.int .i64 0), .v (.int .i64 0), .v (.int .i64 0), .v (.int .i64 0), .v (.slice none 0 0)] [(0, 1), (1, 1), (2, 1), (3, 1), (4, 1)] [(0, (ci 2)), (1, (sl 33)), (2, (sl 34)), (3, (sl 37))]),
 .o (.alloc 9 [.v (.int .i64 0), .v (.int .i64 0), .v (.int .i64 0), .v (.int .i64 0), .v (.slice none 0 0)]),
 .o (.store 5 (sl 9) (sl 38))])
 ((.seq (.seq (.reg [.o (.fld 39 3 (sl 9)),
 .o (.load1 40 (sl 39)),
 .o (.bin 41 .geq (sl 40) (ci 0))])
 ((.cond (sl 41) (.reg [.o (.move 42 (sl 0)),
 .o (.call (some 43) (cf 126) [(sl 42), (ci 6)]),
 .o (.fld 44 2 (sl 9)),
 .o (.store 1 (sl 44) (sl 43))])
 .skip)))
 ((.seq (.reg [.o (.move 45 (sl 1)),
 .o (.loadN 46 5 (sl 9)),
 .o (.bslice 47 5 1 [(0, (sl 46))]),
 .o (.app 48 5 56 (sl 45) (sl 47)),
 .o (.move 6 (sl 48))])
 (.ret))))))
 .skip)))
 ((.seq (.reg [.o (.move 49 (sl 1)),
 .o (.move 50 (sl 0)),
 .o (.call (some 51) (cf 126) [(sl 50), (ci 2)]),
 .o (.move 52 (sl 8)),
 .o (.move 53 (sl 8)),
 .o (.build 54 [.v (.int .i64 0), .v (.int .i64 0), .v (.int .i64 0), .v (.int .i64 0), .v (.slice none 0 0)] [(0, 1), (1, 1), (2, 1), (3, 1), (4, 1)] [(0, (sl 51)), (1, (sl 52)), (2, (sl 53)), (3, (ci (-1)))]),
 .o (.bslice 55 5 1 [(0, (sl 54))]),
 .o (.app 56 5 56 (sl 49) (sl 55)),
 .o (.move 1 (sl 56))])
 ((.seq (.reg [.o (.bslice 57 1 0 []),
 .o (.move 10 (sl 57))])
 ((.seq (.seq (.reg [.o (.move 58 (sl 0)),
 .o (.call (some 59) (cf 126) [(sl 58), (ci 3)]),
 .o (.bin 60 .add (ci 1) (sl 59)),
 .o (.move 11 (sl 60))])
 ((.block 0 (.loop (.seq (.seq (.reg [.o (.move 61 (sl 11)),
 .o (.bin 62 .gtr (sl 61) (ci 0))])
 ((.cond (sl 62) .skip
 (.exit 0))))
 ((.seq (.block 1 (.seq (.reg [.o (.move 65 (sl 10)),
 .o (.move 66 (sl 1)),
 .o (.lenS 67 (sl 66)),
 .o (.bslice 68 1 1 [(0, (sl 67))]),
 .o (.app 69 1 8 (sl 65) (sl 68)),
 .o (.move 10 (sl 69))])
 ((.reg [.o (.move 70 (sl 0)),
 .o (.move 71 (sl 1)),
 .o (.move 72 (sl 2)),
 .o (.bin 73 .sub (sl 72) (ci 1)),
 .o (.call (some 74) (cf 199) [(sl 70), (sl 71), (sl 73)]),
 .o (.move 1 (sl 74))]))))
 ((.reg [.o (.move 63 (sl 11)),
 .o (.bin 64 .sub (sl 63) (ci 1)),
 .o (.move 11 (sl 64))])))))))))
 ((.seq (.reg [.o (.move 75 (sl 1)),
 .o (.move 76 (sl 7)),
 .o (.move 77 (sl 10)),
 .o (.idx 78 5 (sl 75) (sl 76)),
 .o (.fld 79 4 (sl 78)),
 .o (.store 1 (sl 79) (sl 77))])
 ((.seq (.reg [.o (.move 80 (sl 1)),
 .o (.move 6 (sl 80))])
 (.ret))))))))))))))))))
theorem q0zs {rin : List T} {args : List A} {Q : List T -> T -> Prop} (ha : args.length <= 81) (h : cW Try.prog 81 q0yn (retP Try.prog [.tmp 6] rin.length Q) (St.of (enum 0 args) (enum 1000000000 rin))) :
    Fun Try.prog 199 rin args Q :=
  Fun.of (H := ⟨[], []⟩) Try.func199 rfl rfl rfl (by kernel_rfl) ha (by decide) h

def q03r : CC :=
 (.seq (.reg [.o (.move 2 (ci 0))])
 ((.seq (.reg [.o (.move 3 (ci 0))])
 ((.seq (.seq (.reg [.o (.move 6 (sl 0)),
 .o (.lenS 7 (sl 6)),
 .o (.move 8 (ci 0))])
 ((.block 0 (.loop (.seq (.reg [.o (.bin 9 .lss (sl 8) (sl 7))])
 ((.seq (.cond (sl 9) .skip
 (.exit 0))
 ((.seq (.block 1 (.seq (.reg [.o (.idx 10 1 (sl 6) (sl 8)),
 .o (.load1 11 (sl 10)),
 .o (.move 5 (sl 11))])
 ((.reg [.o (.move 12 (sl 3)),
 .o (.move 13 (sl 5)),
 .o (.bin 14 .add (sl 12) (sl 13)),
 .o (.move 3 (sl 14))]))))
 ((.reg [.o (.bin 15 .add (sl 8) (ci 1)),
 .o (.move 8 (sl 15))])))))))))))
 ((.seq (.reg [.o (.move 16 (sl 3)),
 .o (.move 2 (sl 16))])
 (.ret))))))))
theorem q0ap {rin : List T} {args : List A} {Q : List T -> T -> Prop} (ha : args.length <= 17) (h : cW Try.prog 17 q03r (retP Try.prog [.tmp 2] rin.length Q) (St.of (enum 0 args) (enum 1000000000 rin))) :
    Fun Try.prog 200 rin args Q :=
  Fun.of (H := ⟨[], []⟩) Try.func200 rfl rfl rfl (by kernel_rfl) ha (by decide) h

def q059 : CC :=
 (.seq (.reg [.o (.box 6 (sl 0)),
 .o (.box 7 (sl 1)),
 .o (.box 8 (sl 2)),
 .o (.move 12 (cv (.slice none 0 0)))])
 ((.seq (.reg [.o (.fld 23 0 (sl 6)),
 .o (.fld 24 0 (sl 23)),
 .o (.load1 25 (sl 24)),
 .o (.move 26 (sl 4)),
 .o (.idx 27 5 (sl 25) (sl 26)),
 .o (.loadN 28 5 (sl 27)),
 .o (.alloc 13 [.v (.int .i64 0), .v (.int .i64 0), .v (.int .i64 0), .v (.int .i64 0), .v (.slice none 0 0)]),
 .o (.store 5 (sl 13) (sl 28))])
 ((.seq (.reg [.o (.loadN 29 2 (sl 8)),
 .o (.alloc 14 [.v (.int .i64 0), .v (.slice none 0 0)]),
 .o (.store 2 (sl 14) (sl 29))])
 ((.seq (.seq (.reg [.o (.move 30 (sl 3)),
 .o (.bin 31 .eql (sl 30) (ci 1))])
 ((.cond (sl 31) (.reg [.o (.loadN 32 2 (sl 7)),
 .o (.store 2 (sl 14) (sl 32))])
 .skip)))
 ((.seq (.reg [.o (.fld 33 0 (sl 6)),
 .o (.loadN 34 1 (sl 33)),
 .o (.move 35 (sl 4)),
 .o (.call (some 36) (cf 158) [(sl 34), (sl 35)]),
 .o (.bin 37 .sub (sl 36) (ci 1)),
 .o (.move 15 (sl 37))])
 ((.seq (.reg [.o (.bslice 38 1 0 []),
 .o (.move 16 (sl 38))])
 ((.seq (.seq (.reg [.o (.move 17 (ci 0))])
 ((.block 0 (.loop (.seq (.seq (.reg [.o (.move 39 (sl 17)),
 .o (.fld 40 4 (sl 13)),
 .o (.load1 41 (sl 40)),
 .o (.lenS 42 (sl 41)),
 .o (.bin 43 .lss (sl 39) (sl 42))])
 ((.cond (sl 43) .skip
 (.exit 0))))
 ((.seq (.block 1 (.seq (.reg [.o (.move 18 (ci 0))])
 ((.seq (.seq (.reg [.o (.move 19 (ci 0))])
 ((.block 2 (.loop (.seq (.seq (.reg [.o (.move 46 (sl 19)),
 .o (.fld 47 1 (sl 6)),
 .o (.load1 48 (sl 47)),
 .o (.lenS 49 (sl 48)),
 .o (.bin 50 .lss (sl 46) (sl 49))])
 ((.cond (sl 50) .skip
 (.exit 2))))
 ((.seq (.block 3 (.seq (.reg [.o (.move 53 (sl 5)),
 .o (.move 54 (sl 19)),
 .o (.move 20 (sl 53)),
 .o (.move 21 (sl 54)),
 .o (.move 22 (ci 1))])
 ((.seq (.seq (.reg [.o (.move 55 (sl 3)),
 .o (.bin 56 .eql (sl 55) (ci 1))])
 ((.cond (sl 56) (.reg [.o (.move 57 (sl 19)),
 .o (.move 58 (sl 5)),
 .o (.move 20 (sl 57)),
 .o (.move 21 (sl 58)),
 .o (.move 22 (ci (-1)))])
 .skip)))
 ((.seq (.reg [.o (.fld 59 1 (sl 6)),
 .o (.load1 60 (sl 59)),
 .o (.move 61 (sl 20)),
 .o (.idx 62 1 (sl 60) (sl 61)),
 .o (.load1 63 (sl 62)),
 .o (.move 64 (sl 21)),
 .o (.idx 65 1 (sl 63) (sl 64)),
 .o (.load1 66 (sl 65)),
 .o (.bin 67 .gtr (sl 66) (ci 0))])
 ((.cond (sl 67) (.draw [] [(kR, .o (.move 68 (sl 18))),
 (kR, .o (.move 69 (sl 22))),
 (kR, .o (.fld 70 1 (sl 6))),
 (kR, .o (.load1 71 (sl 70))),
 (kR, .o (.move 72 (sl 20))),
 (kR, .o (.idx 73 1 (sl 71) (sl 72))),
 (kR, .o (.load1 74 (sl 73))),
 (kR, .o (.move 75 (sl 21))),
 (kR, .o (.idx 76 1 (sl 74) (sl 75))),
 (kR, .o (.load1 77 (sl 76))),
 (kR, .o (.bin 78 .mul (sl 69) (sl 77))),
 (kR, .o (.loadN 79 3 (sl 6))),
 (kR, .o (.loadN 80 2 (sl 14))),
 (kR, .o (.move 81 (sl 4))),
 (kR, .o (.move 82 (sl 19))),
 (kR, .o (.call (some 83) (cf 209) [(sl 79), (sl 80), (sl 81), (sl 82)])),
 (kR, .o (.bin 84 .mul (sl 78) (sl 83))),
 (kR, .o (.loadN 85 3 (sl 6))),
 (kR, .o (.loadN 86 2 (sl 7))),
 (kR, .o (.loadN 87 2 (sl 8))),
 (kR, .o (.fld 88 4 (sl 13))),
 (kR, .o (.load1 89 (sl 88))),
 (kR, .o (.move 90 (sl 17))),
 (kR, .o (.idx 91 1 (sl 89) (sl 90))),
 (kR, .o (.load1 92 (sl 91))),
 (kR, .o (.move 93 (sl 20))),
 (kR, .o (.move 94 (sl 21))),
 (kR, .o (.move 95 (sl 15))),
 (kR, .o (.call (some 96) (cf 183) [(sl 85), (sl 86), (sl 87), (sl 92), (sl 93), (sl 94), (sl 95)])),
 (kR, .o (.bin 97 .mul (sl 84) (sl 96))),
 (kR, .o (.bin 98 .add (sl 68) (sl 97))),
 (kR, .o (.move 18 (sl 98)))])
 .skip))))))))
 ((.reg [.o (.move 51 (sl 19)),
 .o (.bin 52 .add (sl 51) (ci 1)),
 .o (.move 19 (sl 52))])))))))))
 ((.reg [.o (.move 99 (sl 16)),
 .o (.move 100 (sl 18)),
 .o (.bslice 101 1 1 [(0, (sl 100))]),
 .o (.app 102 1 8 (sl 99) (sl 101)),
 .o (.move 16 (sl 102))]))))))
 ((.reg [.o (.move 44 (sl 17)),
 .o (.bin 45 .add (sl 44) (ci 1)),
 .o (.move 17 (sl 45))])))))))))
 ((.seq (.reg [.o (.move 103 (sl 16)),
 .o (.move 12 (sl 103))])
 (.ret))))))))))))))))
theorem q0c7 {rin : List T} {args : List A} {Q : List T -> T -> Prop} (ha : args.length <= 104) (h : cW Try.prog 104 q059 (retP Try.prog [.tmp 12] rin.length Q) (St.of (enum 0 args) (enum 1000000000 rin))) :
    Fun Try.prog 208 rin args Q :=
  Fun.of (H := ⟨[], []⟩) Try.func208 rfl rfl rfl (by kernel_rfl) ha (by decide) h

def q05d : CC :=
 (.seq (.reg [.o (.box 4 (sl 0)),
 .o (.box 5 (sl 1)),
 .o (.move 8 (ci 0))])
 ((.seq (.reg [.o (.fld 13 0 (sl 4)),
 .o (.loadN 14 1 (sl 13)),
 .o (.move 15 (sl 2)),
 .o (.call (some 16) (cf 225) [(sl 14), (sl 15)]),
 .o (.move 9 (sl 16))])
 ((.seq (.reg [.o (.move 10 (ci 0)),
 .o (.move 11 (ci 1))])
 ((.seq (.seq (.reg [.o (.move 12 (ci 0))])
 ((.block 0 (.loop (.seq (.seq (.reg [.o (.move 17 (sl 12)),
 .o (.move 18 (sl 9)),
 .o (.lenS 19 (sl 18)),
 .o (.bin 20 .lss (sl 17) (sl 19))])
 ((.cond (sl 20) .skip
 (.exit 0))))
 ((.seq (.block 1 (.seq (.seq (.draw [] [(kR, .o (.fld 23 0 (sl 4))),
 (kR, .o (.fld 24 0 (sl 23))),
 (kR, .o (.load1 25 (sl 24))),
 (kR, .o (.move 26 (sl 10))),
 (kR, .o (.idx 27 5 (sl 25) (sl 26))),
 (kR, .o (.fld 28 0 (sl 27))),
 (kR, .o (.load1 29 (sl 28))),
 (kR, .o (.fld 30 0 (sl 5))),
 (kR, .o (.load1 31 (sl 30))),
 (kR, .o (.bin 32 .eql (sl 29) (sl 31)))])
 ((.cond (sl 32) (.draw [] [(kR, .o (.move 33 (sl 11))),
 (kR, .o (.fld 34 1 (sl 5))),
 (kR, .o (.load1 35 (sl 34))),
 (kR, .o (.loadN 36 3 (sl 4))),
 (kR, .o (.fld 37 0 (sl 5))),
 (kR, .o (.load1 38 (sl 37))),
 (kR, .o (.move 39 (sl 10))),
 (kR, .o (.move 40 (sl 3))),
 (kR, .o (.call (some 41) (cf 221) [(sl 36), (sl 38), (sl 39), (sl 40)])),
 (kR, .o (.idx 42 1 (sl 35) (sl 41))),
 (kR, .o (.load1 43 (sl 42))),
 (kR, .o (.move 44 (sl 9))),
 (kR, .o (.move 45 (sl 12))),
 (kR, .o (.idx 46 1 (sl 44) (sl 45))),
 (kR, .o (.load1 47 (sl 46))),
 (kR, .o (.idx 48 1 (sl 43) (sl 47))),
 (kR, .o (.load1 49 (sl 48))),
 (kR, .o (.bin 50 .mul (sl 33) (sl 49))),
 (kR, .o (.move 11 (sl 50)))])
 .skip)))
 ((.draw [] [(kR, .o (.fld 51 0 (sl 4))),
 (kR, .o (.fld 52 0 (sl 51))),
 (kR, .o (.load1 53 (sl 52))),
 (kR, .o (.move 54 (sl 10))),
 (kR, .o (.idx 55 5 (sl 53) (sl 54))),
 (kR, .o (.fld 56 4 (sl 55))),
 (kR, .o (.load1 57 (sl 56))),
 (kR, .o (.move 58 (sl 9))),
 (kR, .o (.move 59 (sl 12))),
 (kR, .o (.idx 60 1 (sl 58) (sl 59))),
 (kR, .o (.load1 61 (sl 60))),
 (kR, .o (.idx 62 1 (sl 57) (sl 61))),
 (kR, .o (.load1 63 (sl 62))),
 (kR, .o (.move 10 (sl 63)))]))))
 ((.reg [.o (.move 21 (sl 12)),
 .o (.bin 22 .add (sl 21) (ci 1)),
 .o (.move 12 (sl 22))])))))))))
 ((.seq (.reg [.o (.move 64 (sl 11)),
 .o (.move 8 (sl 64))])
 (.ret))))))))))
theorem q0cb {rin : List T} {args : List A} {Q : List T -> T -> Prop} (ha : args.length <= 65) (h : cW Try.prog 65 q05d (retP Try.prog [.tmp 8] rin.length Q) (St.of (enum 0 args) (enum 1000000000 rin))) :
    Fun Try.prog 209 rin args Q :=
  Fun.of (H := ⟨[], []⟩) Try.func209 rfl rfl rfl (by kernel_rfl) ha (by decide) h

def q03h : CC :=
 (.seq (.reg [.o (.move 2 (cv (.slice none 0 0)))])
 ((.seq (.reg [.o (.move 5 (sl 0)),
 .o (.call (some 6) (cf 197) [(sl 5)]),
 .o (.move 3 (sl 6))])
 ((.seq (.block 0 (.loop (.seq (.seq (.reg [.o (.move 7 (sl 3)),
 .o (.call (some 8) (cf 106) [(sl 7)]),
 .o (.bin 9 .gtr (sl 8) (ci 1000000000))])
 ((.cond (sl 9) .skip
 (.exit 0))))
 ((.block 1 (.seq (.reg [.o (.move 10 (sl 3)),
 .o (.lenS 11 (sl 10)),
 .o (.move 12 (ci 0))])
 ((.block 2 (.loop (.seq (.reg [.o (.bin 13 .lss (sl 12) (sl 11))])
 ((.seq (.cond (sl 13) .skip
 (.exit 2))
 ((.seq (.block 3 (.seq (.reg [.o (.move 14 (sl 12)),
 .o (.move 4 (sl 14))])
 ((.reg [.o (.move 15 (sl 3)),
 .o (.move 16 (sl 4)),
 .o (.idx 17 1 (sl 15) (sl 16)),
 .o (.load1 18 (sl 17)),
 .o (.bin 19 .quo (sl 18) (ci 2)),
 .o (.idx 20 1 (sl 15) (sl 16)),
 .o (.store 1 (sl 20) (sl 19))]))))
 ((.reg [.o (.bin 21 .add (sl 12) (ci 1)),
 .o (.move 12 (sl 21))]))))))))))))))))
 ((.seq (.reg [.o (.move 22 (sl 3)),
 .o (.move 2 (sl 22))])
 (.ret))))))))
theorem q0af {rin : List T} {args : List A} {Q : List T -> T -> Prop} (ha : args.length <= 23) (h : cW Try.prog 23 q03h (retP Try.prog [.tmp 2] rin.length Q) (St.of (enum 0 args) (enum 1000000000 rin))) :
    Fun Try.prog 211 rin args Q :=
  Fun.of (H := ⟨[], []⟩) Try.func211 rfl rfl rfl (by kernel_rfl) ha (by decide) h

def q03i : CC :=
 (.seq (.reg [.o (.move 2 (cb false))])
 ((.seq (.seq (.reg [.o (.move 3 (ci 1))])
 ((.block 0 (.loop (.seq (.seq (.reg [.o (.move 4 (sl 3)),
 .o (.move 5 (sl 0)),
 .o (.lenS 6 (sl 5)),
 .o (.bin 7 .lss (sl 4) (sl 6))])
 ((.cond (sl 7) .skip
 (.exit 0))))
 ((.seq (.block 1 (.seq (.draw [] [(kR, .o (.move 10 (sl 0))),
 (kR, .o (.move 11 (sl 3))),
 (kR, .o (.bin 12 .sub (sl 11) (ci 1))),
 (kR, .o (.idx 13 1 (sl 10) (sl 12))),
 (kR, .o (.load1 14 (sl 13))),
 (kR, .o (.move 15 (sl 0))),
 (kR, .o (.move 16 (sl 3))),
 (kR, .o (.idx 17 1 (sl 15) (sl 16))),
 (kR, .o (.load1 18 (sl 17))),
 (kR, .o (.bin 19 .geq (sl 14) (sl 18)))])
 ((.cond (sl 19) (.seq (.reg [.o (.move 2 (cb false))])
 (.ret))
 .skip))))
 ((.reg [.o (.move 8 (sl 3)),
 .o (.bin 9 .add (sl 8) (ci 1)),
 .o (.move 3 (sl 9))])))))))))
 ((.seq (.reg [.o (.move 2 (cb true))])
 (.ret))))))
theorem q0ag {rin : List T} {args : List A} {Q : List T -> T -> Prop} (ha : args.length <= 20) (h : cW Try.prog 20 q03i (retP Try.prog [.tmp 2] rin.length Q) (St.of (enum 0 args) (enum 1000000000 rin))) :
    Fun Try.prog 212 rin args Q :=
  Fun.of (H := ⟨[], []⟩) Try.func212 rfl rfl rfl (by kernel_rfl) ha (by decide) h

def q03o : CC :=
 (.seq (.reg [.o (.box 4 (sl 0)),
 .o (.move 8 (ci 0))])
 ((.seq (.reg [.o (.fld 11 0 (sl 4)),
 .o (.fld 12 0 (sl 11)),
 .o (.load1 13 (sl 12)),
 .o (.move 14 (sl 1)),
 .o (.idx 15 5 (sl 13) (sl 14)),
 .o (.loadN 16 5 (sl 15)),
 .o (.alloc 9 [.v (.int .i64 0), .v (.int .i64 0), .v (.int .i64 0), .v (.int .i64 0), .v (.slice none 0 0)]),
 .o (.store 5 (sl 9) (sl 16))])
 ((.seq (.reg [.o (.fld 17 2 (sl 4)),
 .o (.load1 18 (sl 17)),
 .o (.move 19 (sl 2)),
 .o (.idx 20 1 (sl 18) (sl 19)),
 .o (.load1 21 (sl 20)),
 .o (.move 22 (sl 3)),
 .o (.idx 23 1 (sl 21) (sl 22)),
 .o (.load1 24 (sl 23)),
 .o (.move 10 (sl 24))])
 ((.seq (.seq (.reg [.o (.fld 25 3 (sl 9)),
 .o (.load1 26 (sl 25))])
 ((.block 0 (.seq (.reg [.o (.bin 28 .eql (sl 26) (ci 0)),
 .o (.move 27 (sl 28))])
 ((.cond (sl 27) (.reg [.o (.move 10 (ci (-1)))])
 (.seq (.reg [.o (.bin 30 .eql (sl 26) (ci 1)),
 .o (.move 29 (sl 30))])
 ((.cond (sl 29) (.reg [.o (.move 10 (ci 1))])
 .skip)))))))))
 ((.seq (.seq (.reg [.o (.move 31 (sl 10))])
 ((.block 1 (.seq (.reg [.o (.bin 33 .eql (sl 31) (ci 1)),
 .o (.move 32 (sl 33))])
 ((.cond (sl 32) (.seq (.reg [.o (.fld 34 2 (sl 9)),
 .o (.load1 35 (sl 34)),
 .o (.move 8 (sl 35))])
 (.ret))
 (.seq (.reg [.o (.bin 37 .eql (sl 31) (ci (-1))),
 .o (.move 36 (sl 37))])
 ((.cond (sl 36) (.seq (.reg [.o (.fld 38 1 (sl 9)),
 .o (.load1 39 (sl 38)),
 .o (.un 40 .neg (sl 39)),
 .o (.move 8 (sl 40))])
 (.ret))
 .skip)))))))))
 ((.seq (.reg [.o (.move 8 (ci 0))])
 (.ret))))))))))))
theorem q0am {rin : List T} {args : List A} {Q : List T -> T -> Prop} (ha : args.length <= 41) (h : cW Try.prog 41 q03o (retP Try.prog [.tmp 8] rin.length Q) (St.of (enum 0 args) (enum 1000000000 rin))) :
    Fun Try.prog 213 rin args Q :=
  Fun.of (H := ⟨[], []⟩) Try.func213 rfl rfl rfl (by kernel_rfl) ha (by decide) h

def q032 : CC :=
 (.seq (.reg [.o (.move 8 (cv (.slice none 0 0)))])
 ((.seq (.reg [.o (.move 11 (sl 0)),
 .o (.nilc 12 (sl 11)),
 .o (.fld 13 0 (sl 12)),
 .o (.fld 14 0 (sl 13)),
 .o (.fld 15 0 (sl 14)),
 .o (.load1 16 (sl 15)),
 .o (.move 17 (sl 1)),
 .o (.idx 18 5 (sl 16) (sl 17)),
 .o (.fld 19 0 (sl 18)),
 .o (.load1 20 (sl 19)),
 .o (.move 9 (sl 20))])
 ((.seq (.reg [.o (.move 21 (sl 2)),
 .o (.move 10 (sl 21))])
 ((.seq (.seq (.reg [.o (.move 22 (sl 9)),
 .o (.bin 23 .eql (sl 22) (ci 1))])
 ((.cond (sl 23) (.reg [.o (.move 24 (sl 3)),
 .o (.move 10 (sl 24))])
 .skip)))
 ((.seq (.draw [] [(kR, .o (.move 25 (sl 0))),
 (kR, .o (.move 26 (sl 9))),
 (kR, .o (.nilc 27 (sl 25))),
 (kR, .o (.fld 28 5 (sl 27))),
 (kR, .o (.idxA 29 2 1 (sl 28) (sl 26))),
 (kR, .o (.load1 30 (sl 29))),
 (kR, .o (.move 31 (sl 0))),
 (kR, .o (.move 32 (sl 9))),
 (kR, .o (.nilc 33 (sl 31))),
 (kR, .o (.fld 34 3 (sl 33))),
 (kR, .o (.idxA 35 2 1 (sl 34) (sl 32))),
 (kR, .o (.load1 36 (sl 35))),
 (kR, .o (.move 37 (sl 1))),
 (kR, .o (.idx 38 1 (sl 36) (sl 37))),
 (kR, .o (.load1 39 (sl 38))),
 (kR, .o (.move 40 (sl 10))),
 (kR, .o (.bin 41 .add (sl 39) (sl 40))),
 (kR, .o (.idx 42 1 (sl 30) (sl 41))),
 (kR, .o (.load1 43 (sl 42))),
 (kR, .o (.move 8 (sl 43)))])
 (.ret))))))))))
theorem q0a0 {rin : List T} {args : List A} {Q : List T -> T -> Prop} (ha : args.length <= 44) (h : cW Try.prog 44 q032 (retP Try.prog [.tmp 8] rin.length Q) (St.of (enum 0 args) (enum 1000000000 rin))) :
    Fun Try.prog 214 rin args Q :=
  Fun.of (H := ⟨[], []⟩) Try.func214 rfl rfl rfl (by kernel_rfl) ha (by decide) h

def q04v : CC :=
 (.seq (.reg [.o (.box 4 (sl 0)),
 .o (.move 8 (ci 0))])
 ((.seq (.reg [.o (.fld 11 0 (sl 4)),
 .o (.fld 12 0 (sl 11)),
 .o (.load1 13 (sl 12)),
 .o (.move 14 (sl 1)),
 .o (.idx 15 5 (sl 13) (sl 14)),
 .o (.loadN 16 5 (sl 15)),
 .o (.alloc 9 [.v (.int .i64 0), .v (.int .i64 0), .v (.int .i64 0), .v (.int .i64 0), .v (.slice none 0 0)]),
 .o (.store 5 (sl 9) (sl 16))])
 ((.seq (.reg [.o (.fld 17 2 (sl 4)),
 .o (.load1 18 (sl 17)),
 .o (.move 19 (sl 2)),
 .o (.idx 20 1 (sl 18) (sl 19)),
 .o (.load1 21 (sl 20)),
 .o (.move 22 (sl 3)),
 .o (.idx 23 1 (sl 21) (sl 22)),
 .o (.load1 24 (sl 23)),
 .o (.move 10 (sl 24))])
 ((.seq (.seq (.reg [.o (.fld 25 3 (sl 9)),
 .o (.load1 26 (sl 25))])
 ((.block 0 (.seq (.reg [.o (.bin 28 .eql (sl 26) (ci 0)),
 .o (.move 27 (sl 28))])
 ((.cond (sl 27) (.reg [.o (.move 10 (ci (-1)))])
 (.seq (.reg [.o (.bin 30 .eql (sl 26) (ci 1)),
 .o (.move 29 (sl 30))])
 ((.cond (sl 29) (.reg [.o (.move 10 (ci 1))])
 .skip)))))))))
 ((.seq (.seq (.reg [.o (.move 31 (sl 10))])
 ((.block 1 (.seq (.reg [.o (.bin 33 .eql (sl 31) (ci (-1))),
 .o (.move 32 (sl 33))])
 ((.cond (sl 32) (.seq (.reg [.o (.fld 34 1 (sl 9)),
 .o (.load1 35 (sl 34)),
 .o (.un 36 .neg (sl 35)),
 .o (.move 8 (sl 36))])
 (.ret))
 (.seq (.reg [.o (.bin 38 .eql (sl 31) (ci 1)),
 .o (.move 37 (sl 38))])
 ((.cond (sl 37) (.seq (.reg [.o (.fld 39 2 (sl 9)),
 .o (.load1 40 (sl 39)),
 .o (.move 8 (sl 40))])
 (.ret))
 .skip)))))))))
 ((.seq (.reg [.o (.move 8 (ci 0))])
 (.ret))))))))))))
theorem q0bt {rin : List T} {args : List A} {Q : List T -> T -> Prop} (ha : args.length <= 41) (h : cW Try.prog 41 q04v (retP Try.prog [.tmp 8] rin.length Q) (St.of (enum 0 args) (enum 1000000000 rin))) :
    Fun Try.prog 215 rin args Q :=
  Fun.of (H := ⟨[], []⟩) Try.func215 rfl rfl rfl (by kernel_rfl) ha (by decide) h

def q050 : CC :=
 (.seq (.reg [.o (.box 6 (sl 0)),
 .o (.box 7 (sl 1)),
 .o (.box 8 (sl 2)),
 .o (.move 12 (cv (.slice none 0 0)))])
 ((.seq (.seq (.reg [.o (.fld 13 0 (sl 6)),
 .o (.fld 14 0 (sl 13)),
 .o (.load1 15 (sl 14)),
 .o (.move 16 (sl 3)),
 .o (.idx 17 5 (sl 15) (sl 16)),
 .o (.fld 18 0 (sl 17)),
 .o (.load1 19 (sl 18)),
 .o (.bin 20 .eql (sl 19) (ci 0))])
 ((.cond (sl 20) (.seq (.draw [] [(kR, .o (.fld 21 1 (sl 7))),
 (kR, .o (.load1 22 (sl 21))),
 (kR, .o (.loadN 23 3 (sl 6))),
 (kR, .o (.move 24 (sl 3))),
 (kR, .o (.move 25 (sl 4))),
 (kR, .o (.call (some 26) (cf 221) [(sl 23), (ci 0), (sl 24), (sl 25)])),
 (kR, .o (.idx 27 1 (sl 22) (sl 26))),
 (kR, .o (.load1 28 (sl 27))),
 (kR, .o (.move 12 (sl 28)))])
 (.ret))
 .skip)))
 ((.seq (.draw [] [(kR, .o (.fld 29 1 (sl 8))),
 (kR, .o (.load1 30 (sl 29))),
 (kR, .o (.loadN 31 3 (sl 6))),
 (kR, .o (.move 32 (sl 3))),
 (kR, .o (.move 33 (sl 5))),
 (kR, .o (.call (some 34) (cf 221) [(sl 31), (ci 1), (sl 32), (sl 33)])),
 (kR, .o (.idx 35 1 (sl 30) (sl 34))),
 (kR, .o (.load1 36 (sl 35))),
 (kR, .o (.move 12 (sl 36)))])
 (.ret))))))
theorem q0by {rin : List T} {args : List A} {Q : List T -> T -> Prop} (ha : args.length <= 37) (h : cW Try.prog 37 q050 (retP Try.prog [.tmp 12] rin.length Q) (St.of (enum 0 args) (enum 1000000000 rin))) :
    Fun Try.prog 216 rin args Q :=
  Fun.of (H := ⟨[], []⟩) Try.func216 rfl rfl rfl (by kernel_rfl) ha (by decide) h

def q0ym : CC :=
 (.seq (.reg [.o (.move 14 (cv (.slice none 0 0)))])
 ((.seq (.reg [.o (.move 19 (sl 0)),
 .o (.lenS 20 (sl 19)),
 .o (.move 15 (sl 20))])
 ((.seq (.reg [.o (.move 21 (sl 0)),
 .o (.move 22 (sl 1)),
 .o (.move 23 (sl 2)),
 .o (.move 24 (sl 3)),
 .o (.build 25 [.v (.int .i64 0), .v (.int .i64 0), .v (.int .i64 0), .v (.int .i64 0), .v (.slice none 0 0)] [(0, 1), (1, 1), (2, 1), (3, 1), (4, 1)] [(0, (sl 22)), (1, (sl 23)), (2, (sl 24)), (3, (ci (-1)))]),
 .o (.bslice 26 5 1 [(0, (sl 25))]),
 .o (.app 27 5 56 (sl 21) (sl 26)),
 .o (.move 0 (sl 27))])
 ((.seq (.reg [.o (.move 28 (sl 2)),
 .o (.move 29 (sl 3)),
 .o (.move 16 (sl 28)),
 .o (.move 17 (sl 29))])
 ((.seq (.seq (.reg [.o (.move 30 (sl 1)),
 .o (.bin 31 .eql (sl 30) (ci 1))])
 ((.cond (sl 31) (.reg [.o (.move 32 (sl 3)),
 .o (.move 33 (sl 2)),
 .o (.move 16 (sl 32)),
 .o (.move 17 (sl 33))])
 .skip)))
 ((.seq (.reg [.o (.move 34 (sl 0)),
 .o (.lenS 35 (sl 34)),
 .o (.bslice 36 1 1 [(0, (sl 35))]),
 .o (.move 18 (sl 36))])
 ((.seq (.block 0 (.seq (.reg [.o (.move 46 (sl 16)),
 .o (.move 47 (sl 17)),
 .o (.bin 48 .lss (sl 46) (sl 47)),
 .o (.move 45 (sl 48))])
 ((.cond (sl 45) (.seq (.reg [.o (.move 49 (sl 0)),
 .o (.move 50 (sl 2)),
 .o (.move 51 (sl 3)),
 .o (.move 52 (sl 1)),
 .o (.build 53 [.v (.int .i64 0), .v (.int .i64 0), .v (.int .i64 0), .v (.int .i64 0), .v (.slice none 0 0)] [(0, 1), (1, 1), (2, 1), (3, 1), (4, 1)] [(0, (ci 2)), (1, (sl 50)), (2, (sl 51)), (3, (sl 52))]),
 .o (.bslice 54 5 1 [(0, (sl 53))]),
 .o (.app 55 5 56 (sl 49) (sl 54)),
 .o (.move 0 (sl 55))])
 ((.seq (.reg [.o (.move 56 (sl 18)),
 .o (.move 57 (sl 0)),
 .o (.lenS 58 (sl 57)),
 .o (.bslice 59 1 1 [(0, (sl 58))]),
 .o (.app 60 1 8 (sl 56) (sl 59)),
 .o (.move 18 (sl 60))])
 ((.seq (.reg [.o (.move 61 (sl 0)),
 .o (.move 62 (sl 17)),
 .o (.move 63 (sl 17)),
 .o (.build 64 [.v (.int .i64 0), .v (.int .i64 0), .v (.int .i64 0), .v (.int .i64 0), .v (.slice none 0 0)] [(0, 1), (1, 1), (2, 1), (3, 1), (4, 1)] [(0, (ci 2)), (1, (sl 62)), (2, (sl 63)), (3, (ci (-1)))]),
 .o (.bslice 65 5 1 [(0, (sl 64))]),
 .o (.app 66 5 56 (sl 61) (sl 65)),
 .o (.move 0 (sl 66))])
 ((.seq (.seq (.reg [.o (.move 67 (sl 5)),
 .o (.bin 68 .eql (sl 67) (ci 0))])
 ((.cond (sl 68) (.seq (.reg [.o (.move 69 (sl 0)),
 .o (.move 70 (sl 15)),
 .o (.move 71 (sl 18)),
 .o (.idx 72 5 (sl 69) (sl 70)),
 .o (.fld 73 4 (sl 72)),
 .o (.store 1 (sl 73) (sl 71))])
 ((.seq (.reg [.o (.move 74 (sl 0)),
 .o (.move 14 (sl 74))])
 (.ret))))
 .skip)))
 ((.reg [.o (.move 75 (sl 5)),
 .o (.bin 76 .sub (sl 75) (ci 1)),
 .o (.move 5 (sl 76))])))))))))
 (.seq (.reg [.o (.move 78 (sl 6)),
 .o (.move 77 (sl 78))])
 ((.cond (sl 77) (.reg [.o (.move 79 (sl 0)),
 .o (.move 80 (sl 2)),
 .o (.move 81 (sl 3)),
 .o (.build 82 [.v (.int .i64 0), .v (.int .i64 0), .v (.int .i64 0), .v (.int .i64 0), .v (.slice none 0 0)] [(0, 1), (1, 1), (2, 1), (3, 1), (4, 1)] [(0, (ci 2)), (1, (sl 80)), (2, (sl 81)), (3, (ci (-1)))]),
 .o (.bslice 83 5 1 [(0, (sl 82))]),
 .o (.app 84 5 56 (sl 79) (sl 83)),
 .o (.move 0 (sl 84))])
 (.reg [.o (.move 37 (sl 0)),
 .o (.move 38 (sl 1)),
 .o (.bin 39 .sub (ci 1) (sl 38)),
 .o (.move 40 (sl 2)),
 .o (.move 41 (sl 3)),
 .o (.move 42 (sl 4)),
 .o (.move 43 (sl 5)),
 .o (.call (some 44) (cf 217) [(sl 37), (sl 39), (sl 40), (sl 41), (sl 42), (sl 43), (cb true)]),
 .o (.move 0 (sl 44))]))))))))
 ((.seq (.reg [.o (.move 85 (sl 18)),
 .o (.move 86 (sl 0)),
 .o (.lenS 87 (sl 86)),
 .o (.bslice 88 1 1 [(0, (sl 87))]),
 .o (.app 89 1 8 (sl 85) (sl 88)),
 .o (.move 18 (sl 89))])
 ((.seq (.seq (.reg [.o (.move 90 (sl 1)),
 .o (.bin 91 .eql (sl 90) (ci 0))])
 ((.cond (sl 91) (.reg [.o (.move 92 (sl 17)),
 .o (.move 93 (sl 4)),
 .o (.bin 94 .add (sl 92) (sl 93)),
 .o (.move 2 (sl 94))])
 (.reg [.o (.move 95 (sl 17)),
 .o (.move 96 (sl 4)),
 .o (.bin 97 .add (sl 95) (sl 96)),
 .o (.move 3 (sl 97))]))))
 ((.seq (.reg [.o (.move 98 (sl 0)),
 .o (.move 99 (sl 1)),
 .o (.bin 100 .sub (ci 1) (sl 99)),
 .o (.move 101 (sl 2)),
 .o (.move 102 (sl 3)),
 .o (.move 103 (sl 4)),
 .o (.move 104 (sl 5)),
 .o (.call (some 105) (cf 217) [(sl 98), (sl 100), (sl 101), (sl 102), (sl 103), (sl 104), (cb false)]),
 .o (.move 0 (sl 105))])
 ((.seq (.reg [.o (.move 106 (sl 0)),
 .o (.move 107 (sl 15)),
 .o (.move 108 (sl 18)),
 .o (.idx 109 5 (sl 106) (sl 107)),
 .o (.fld 110 4 (sl 109)),
 .o (.store 1 (sl 110) (sl 108))])
 ((.seq (.reg [.o (.move 111 (sl 0)),
 .o (.move 14 (sl 111))])
 (.ret))))))))))))))))))))))))
theorem q0zr {rin : List T} {args : List A} {Q : List T -> T -> Prop} (ha : args.length <= 112) (h : cW Try.prog 112 q0ym (retP Try.prog [.tmp 14] rin.length Q) (St.of (enum 0 args) (enum 1000000000 rin))) :
    Fun Try.prog 217 rin args Q :=
  Fun.of (H := ⟨[], []⟩) Try.func217 rfl rfl rfl (by kernel_rfl) ha (by decide) h

def q0yk : CC :=
 (.seq (.reg [.o (.move 4 (ci 0))])
 ((.seq (.block 0 (.seq (.reg [.o (.move 6 (sl 0)),
 .o (.move 7 (sl 1)),
 .o (.bin 8 .lss (sl 6) (sl 7)),
 .o (.move 5 (sl 8))])
 ((.cond (sl 5) (.seq (.reg [.o (.move 4 (ci (-1)))])
 (.ret))
 (.seq (.reg [.o (.move 10 (sl 0)),
 .o (.move 11 (sl 1)),
 .o (.bin 12 .gtr (sl 10) (sl 11)),
 .o (.move 9 (sl 12))])
 ((.cond (sl 9) (.seq (.reg [.o (.move 4 (ci 1))])
 (.ret))
 .skip)))))))
 ((.seq (.reg [.o (.move 4 (ci 0))])
 (.ret))))))
theorem q0zp {rin : List T} {args : List A} {Q : List T -> T -> Prop} (ha : args.length <= 13) (h : cW Try.prog 13 q0yk (retP Try.prog [.tmp 4] rin.length Q) (St.of (enum 0 args) (enum 1000000000 rin))) :
    Fun Try.prog 218 rin args Q :=
  Fun.of (H := ⟨[], []⟩) Try.func218 rfl rfl rfl (by kernel_rfl) ha (by decide) h

def q0yr : CC :=
 (.seq (.reg [.o (.box 1 (sl 0)),
 .o (.alloc 2 [.v (.slice none 0 0)])])
 ((.seq (.reg [.o (.bslice 6 5 0 []),
 .o (.move 3 (sl 6))])
 ((.seq (.seq (.reg [.o (.move 4 (ci 0))])
 ((.block 0 (.loop (.seq (.seq (.reg [.o (.move 7 (sl 4)),
 .o (.fld 8 0 (sl 1)),
 .o (.load1 9 (sl 8)),
 .o (.lenS 10 (sl 9)),
 .o (.bin 11 .lss (sl 7) (sl 10))])
 ((.cond (sl 11) .skip
 (.exit 0))))
 ((.seq (.block 1 (.seq (.reg [.o (.fld 14 0 (sl 1)),
 .o (.load1 15 (sl 14)),
 .o (.move 16 (sl 4)),
 .o (.idx 17 5 (sl 15) (sl 16)),
 .o (.loadN 18 5 (sl 17)),
 .o (.alloc 5 [.v (.int .i64 0), .v (.int .i64 0), .v (.int .i64 0), .v (.int .i64 0), .v (.slice none 0 0)]),
 .o (.store 5 (sl 5) (sl 18))])
 ((.seq (.reg [.o (.fld 19 4 (sl 5)),
 .o (.load1 20 (sl 19)),
 .o (.call (some 21) (cf 167) [(sl 20)]),
 .o (.fld 22 4 (sl 5)),
 .o (.store 1 (sl 22) (sl 21))])
 ((.reg [.o (.move 23 (sl 3)),
 .o (.loadN 24 5 (sl 5)),
 .o (.bslice 25 5 1 [(0, (sl 24))]),
 .o (.app 26 5 56 (sl 23) (sl 25)),
 .o (.move 3 (sl 26))]))))))
 ((.reg [.o (.move 12 (sl 4)),
 .o (.bin 13 .add (sl 12) (ci 1)),
 .o (.move 4 (sl 13))])))))))))
 ((.seq (.reg [.o (.move 27 (sl 3)),
 .o (.build 28 [.v (.slice none 0 0)] [(0, 1)] [(0, (sl 27))]),
 .o (.store 1 (sl 2) (sl 28))])
 (.ret))))))))
theorem q0zw {rin : List T} {args : List A} {Q : List T -> T -> Prop} (ha : args.length <= 29) (h : cW Try.prog 29 q0yr (retP Try.prog [.cell 2 33] rin.length Q) (St.of (enum 0 args) (enum 1000000000 rin))) :
    Fun Try.prog 219 rin args Q :=
  Fun.of (H := ⟨[], []⟩) Try.func219 rfl rfl rfl (by kernel_rfl) ha (by decide) h

def q04s : CC :=
 (.seq (.reg [.o (.box 2 (sl 0)),
 .o (.move 4 (cv (.slice none 0 0)))])
 ((.seq (.reg [.o (.bslice 7 1 0 []),
 .o (.move 5 (sl 7))])
 ((.seq (.seq (.reg [.o (.move 6 (ci 0))])
 ((.block 0 (.loop (.seq (.seq (.reg [.o (.move 8 (sl 6)),
 .o (.fld 9 0 (sl 2)),
 .o (.load1 10 (sl 9)),
 .o (.lenS 11 (sl 10)),
 .o (.bin 12 .lss (sl 8) (sl 11))])
 ((.cond (sl 12) .skip
 (.exit 0))))
 ((.seq (.block 1 (.seq (.reg [.o (.fld 15 0 (sl 2)),
 .o (.load1 16 (sl 15)),
 .o (.move 17 (sl 6)),
 .o (.idx 18 5 (sl 16) (sl 17)),
 .o (.fld 19 0 (sl 18)),
 .o (.load1 20 (sl 19)),
 .o (.move 21 (sl 1)),
 .o (.bin 22 .eql (sl 20) (sl 21))])
 ((.cond (sl 22) (.reg [.o (.move 23 (sl 5)),
 .o (.move 24 (sl 6)),
 .o (.bslice 25 1 1 [(0, (sl 24))]),
 .o (.app 26 1 8 (sl 23) (sl 25)),
 .o (.move 5 (sl 26))])
 .skip))))
 ((.reg [.o (.move 13 (sl 6)),
 .o (.bin 14 .add (sl 13) (ci 1)),
 .o (.move 6 (sl 14))])))))))))
 ((.seq (.reg [.o (.move 27 (sl 5)),
 .o (.move 4 (sl 27))])
 (.ret))))))))
theorem q0bq {rin : List T} {args : List A} {Q : List T -> T -> Prop} (ha : args.length <= 28) (h : cW Try.prog 28 q04s (retP Try.prog [.tmp 4] rin.length Q) (St.of (enum 0 args) (enum 1000000000 rin))) :
    Fun Try.prog 220 rin args Q :=
  Fun.of (H := ⟨[], []⟩) Try.func220 rfl rfl rfl (by kernel_rfl) ha (by decide) h

def q052 : CC :=
 (.seq (.reg [.o (.box 4 (sl 0)),
 .o (.move 8 (ci 0))])
 ((.seq (.reg [.o (.fld 11 0 (sl 4)),
 .o (.loadN 12 1 (sl 11)),
 .o (.move 13 (sl 1)),
 .o (.call (some 14) (cf 220) [(sl 12), (sl 13)]),
 .o (.move 9 (sl 14))])
 ((.seq (.seq (.reg [.o (.move 10 (ci 0))])
 ((.block 0 (.loop (.seq (.seq (.reg [.o (.move 15 (sl 10)),
 .o (.move 16 (sl 9)),
 .o (.lenS 17 (sl 16)),
 .o (.bin 18 .lss (sl 15) (sl 17))])
 ((.cond (sl 18) .skip
 (.exit 0))))
 ((.seq (.block 1 (.seq (.reg [.o (.move 21 (sl 9)),
 .o (.move 22 (sl 10)),
 .o (.idx 23 1 (sl 21) (sl 22)),
 .o (.load1 24 (sl 23)),
 .o (.move 25 (sl 2)),
 .o (.bin 26 .eql (sl 24) (sl 25))])
 ((.cond (sl 26) (.seq (.reg [.o (.move 27 (sl 10)),
 .o (.fld 28 1 (sl 4)),
 .o (.load1 29 (sl 28)),
 .o (.lenS 30 (sl 29)),
 .o (.bin 31 .mul (sl 27) (sl 30)),
 .o (.move 32 (sl 3)),
 .o (.bin 33 .add (sl 31) (sl 32)),
 .o (.move 8 (sl 33))])
 (.ret))
 .skip))))
 ((.reg [.o (.move 19 (sl 10)),
 .o (.bin 20 .add (sl 19) (ci 1)),
 .o (.move 10 (sl 20))])))))))))
 ((.seq (.reg [.o (.move 8 (ci (-1)))])
 (.ret))))))))
theorem q0c0 {rin : List T} {args : List A} {Q : List T -> T -> Prop} (ha : args.length <= 34) (h : cW Try.prog 34 q052 (retP Try.prog [.tmp 8] rin.length Q) (St.of (enum 0 args) (enum 1000000000 rin))) :
    Fun Try.prog 221 rin args Q :=
  Fun.of (H := ⟨[], []⟩) Try.func221 rfl rfl rfl (by kernel_rfl) ha (by decide) h

def q04r : CC :=
 (.seq (.reg [.o (.box 2 (sl 0)),
 .o (.move 4 (cb false))])
 ((.seq (.reg [.o (.fld 6 0 (sl 2)),
 .o (.load1 7 (sl 6)),
 .o (.move 8 (sl 1)),
 .o (.idx 9 5 (sl 7) (sl 8)),
 .o (.loadN 10 5 (sl 9)),
 .o (.alloc 5 [.v (.int .i64 0), .v (.int .i64 0), .v (.int .i64 0), .v (.int .i64 0), .v (.slice none 0 0)]),
 .o (.store 5 (sl 5) (sl 10))])
 ((.seq (.seq (.reg [.o (.fld 11 0 (sl 5)),
 .o (.load1 12 (sl 11)),
 .o (.call (some 13) (cf 148) [(sl 12), (ci 0), (ci 2)]),
 .o (.un 14 .not (sl 13)),
 .o (.move 15 (sl 14)),
 .g 15 false (some 16) (.fld 16 1 (sl 5)),
 .g 15 false (some 17) (.load1 17 (sl 16)),
 .g 15 false (some 18) (.call (some 18) (cf 148) [(sl 17), (ci 0), (ci 100)]),
 .g 15 false (some 19) (.un 19 .not (sl 18)),
 .o (.pick 20 (sl 15) (cb true) (sl 19)),
 .o (.move 21 (sl 20)),
 .g 21 false (some 22) (.fld 22 2 (sl 5)),
 .g 21 false (some 23) (.load1 23 (sl 22)),
 .g 21 false (some 24) (.call (some 24) (cf 148) [(sl 23), (ci 0), (ci 100)]),
 .g 21 false (some 25) (.un 25 .not (sl 24)),
 .o (.pick 26 (sl 21) (cb true) (sl 25)),
 .o (.move 27 (sl 26)),
 .g 27 false (some 28) (.fld 28 3 (sl 5)),
 .g 27 false (some 29) (.load1 29 (sl 28)),
 .g 27 false (some 30) (.call (some 30) (cf 148) [(sl 29), (ci (-1)), (ci 1)]),
 .g 27 false (some 31) (.un 31 .not (sl 30)),
 .o (.pick 32 (sl 27) (cb true) (sl 31))])
 ((.cond (sl 32) (.seq (.reg [.o (.move 4 (cb false))])
 (.ret))
 .skip)))
 ((.seq (.seq (.reg [.o (.fld 33 0 (sl 5)),
 .o (.load1 34 (sl 33)),
 .o (.bin 35 .eql (sl 34) (ci 2))])
 ((.cond (sl 35) (.seq (.reg [.o (.fld 36 4 (sl 5)),
 .o (.load1 37 (sl 36)),
 .o (.lenS 38 (sl 37)),
 .o (.bin 39 .eql (sl 38) (ci 0)),
 .o (.move 40 (sl 39)),
 .g 40 true (some 41) (.fld 41 3 (sl 5)),
 .g 40 true (some 42) (.load1 42 (sl 41)),
 .g 40 true (some 43) (.bin 43 .geq (sl 42) (ci 0)),
 .g 40 true (some 44) (.move 44 (sl 43)),
 .g 44 false (some 45) (.fld 45 1 (sl 5)),
 .g 44 false (some 46) (.load1 46 (sl 45)),
 .g 44 false (some 47) (.fld 47 2 (sl 5)),
 .g 44 false (some 48) (.load1 48 (sl 47)),
 .g 44 false (some 49) (.bin 49 .eql (sl 46) (sl 48)),
 .g 40 true (some 50) (.pick 50 (sl 44) (cb true) (sl 49)),
 .o (.pick 51 (sl 40) (sl 50) (cb false)),
 .o (.move 4 (sl 51))])
 (.ret))
 .skip)))
 ((.seq (.seq (.reg [.o (.fld 52 3 (sl 5)),
 .o (.load1 53 (sl 52)),
 .o (.bin 54 .neq (sl 53) (ci (-1))),
 .o (.move 55 (sl 54)),
 .g 55 false (some 56) (.fld 56 4 (sl 5)),
 .g 55 false (some 57) (.load1 57 (sl 56)),
 .g 55 false (some 58) (.lenS 58 (sl 57)),
 .g 55 false (some 59) (.call (some 59) (cf 148) [(sl 58), (ci 1), (ci 4)]),
 .g 55 false (some 60) (.un 60 .not (sl 59)),
 .o (.pick 61 (sl 55) (cb true) (sl 60)),
 .o (.move 62 (sl 61)),
 .g 62 false (some 63) (.fld 63 4 (sl 5)),
 .g 62 false (some 64) (.load1 64 (sl 63)),
 .g 62 false (some 65) (.fld 65 0 (sl 2)),
 .g 62 false (some 66) (.load1 66 (sl 65)),
 .g 62 false (some 67) (.lenS 67 (sl 66)),
 .g 62 false (some 68) (.call (some 68) (cf 228) [(sl 64), (sl 67)]),
 .g 62 false (some 69) (.un 69 .not (sl 68)),
 .o (.pick 70 (sl 62) (cb true) (sl 69))])
 ((.cond (sl 70) (.seq (.reg [.o (.move 4 (cb false))])
 (.ret))
 .skip)))
 ((.seq (.reg [.o (.fld 71 4 (sl 5)),
 .o (.load1 72 (sl 71)),
 .o (.idx 73 1 (sl 72) (ci 0)),
 .o (.load1 74 (sl 73)),
 .o (.move 75 (sl 1)),
 .o (.bin 76 .gtr (sl 74) (sl 75)),
 .o (.move 4 (sl 76))])
 (.ret))))))))))))
theorem q0bp {rin : List T} {args : List A} {Q : List T -> T -> Prop} (ha : args.length <= 77) (h : cW Try.prog 77 q04r (retP Try.prog [.tmp 4] rin.length Q) (St.of (enum 0 args) (enum 1000000000 rin))) :
    Fun Try.prog 224 rin args Q :=
  Fun.of (H := ⟨[], []⟩) Try.func224 rfl rfl rfl (by kernel_rfl) ha (by decide) h

def q04t : CC :=
 (.seq (.reg [.o (.box 2 (sl 0)),
 .o (.move 4 (cv (.slice none 0 0)))])
 ((.seq (.seq (.reg [.o (.move 7 (sl 1)),
 .o (.bin 8 .eql (sl 7) (ci 0))])
 ((.cond (sl 8) (.seq (.reg [.o (.bslice 9 1 0 []),
 .o (.move 4 (sl 9))])
 (.ret))
 .skip)))
 ((.seq (.seq (.reg [.o (.move 5 (ci 0))])
 ((.block 0 (.loop (.seq (.seq (.reg [.o (.move 10 (sl 5)),
 .o (.move 11 (sl 1)),
 .o (.bin 12 .lss (sl 10) (sl 11))])
 ((.cond (sl 12) .skip
 (.exit 0))))
 ((.seq (.block 1 (.seq (.reg [.o (.move 6 (ci 0))])
 ((.block 2 (.loop (.seq (.seq (.reg [.o (.move 15 (sl 6)),
 .o (.fld 16 0 (sl 2)),
 .o (.load1 17 (sl 16)),
 .o (.move 18 (sl 5)),
 .o (.idx 19 5 (sl 17) (sl 18)),
 .o (.fld 20 4 (sl 19)),
 .o (.load1 21 (sl 20)),
 .o (.lenS 22 (sl 21)),
 .o (.bin 23 .lss (sl 15) (sl 22))])
 ((.cond (sl 23) .skip
 (.exit 2))))
 ((.seq (.block 3 (.seq (.reg [.o (.fld 26 0 (sl 2)),
 .o (.load1 27 (sl 26)),
 .o (.move 28 (sl 5)),
 .o (.idx 29 5 (sl 27) (sl 28)),
 .o (.fld 30 4 (sl 29)),
 .o (.load1 31 (sl 30)),
 .o (.move 32 (sl 6)),
 .o (.idx 33 1 (sl 31) (sl 32)),
 .o (.load1 34 (sl 33)),
 .o (.move 35 (sl 1)),
 .o (.bin 36 .eql (sl 34) (sl 35))])
 ((.cond (sl 36) (.seq (.reg [.o (.loadN 37 1 (sl 2)),
 .o (.move 38 (sl 5)),
 .o (.call (some 39) (cf 225) [(sl 37), (sl 38)]),
 .o (.move 40 (sl 6)),
 .o (.bslice 41 1 1 [(0, (sl 40))]),
 .o (.app 42 1 8 (sl 39) (sl 41)),
 .o (.move 4 (sl 42))])
 (.ret))
 .skip))))
 ((.reg [.o (.move 24 (sl 6)),
 .o (.bin 25 .add (sl 24) (ci 1)),
 .o (.move 6 (sl 25))]))))))))))
 ((.reg [.o (.move 13 (sl 5)),
 .o (.bin 14 .add (sl 13) (ci 1)),
 .o (.move 5 (sl 14))])))))))))
 ((.seq (.reg [.o (.move 4 (cv (.slice none 0 0)))])
 (.ret))))))))
theorem q0br {rin : List T} {args : List A} {Q : List T -> T -> Prop} (ha : args.length <= 43) (h : cW Try.prog 43 q04t (retP Try.prog [.tmp 4] rin.length Q) (St.of (enum 0 args) (enum 1000000000 rin))) :
    Fun Try.prog 225 rin args Q :=
  Fun.of (H := ⟨[], []⟩) Try.func225 rfl rfl rfl (by kernel_rfl) ha (by decide) h

def q034 : CC :=
 (.seq (.reg [.o (.move 10 (ci 0))])
 ((.seq (.reg [.o (.move 11 (ci 1))])
 ((.seq (.block 0 (.loop (.seq (.seq (.reg [.o (.move 13 (sl 1)),
 .o (.bin 14 .gtr (sl 13) (ci 0))])
 ((.cond (sl 14) .skip
 (.exit 0))))
 ((.block 1 (.seq (.reg [.o (.move 15 (sl 0)),
 .o (.nilc 16 (sl 15)),
 .o (.fld 17 7 (sl 16)),
 .o (.load1 18 (sl 17)),
 .o (.move 19 (sl 1)),
 .o (.idx 20 1 (sl 18) (sl 19)),
 .o (.load1 21 (sl 20)),
 .o (.move 12 (sl 21))])
 ((.seq (.seq (.reg [.o (.move 22 (sl 0)),
 .o (.nilc 23 (sl 22)),
 .o (.fld 24 0 (sl 23)),
 .o (.fld 25 0 (sl 24)),
 .o (.fld 26 0 (sl 25)),
 .o (.load1 27 (sl 26)),
 .o (.move 28 (sl 12)),
 .o (.idx 29 5 (sl 27) (sl 28)),
 .o (.fld 30 0 (sl 29)),
 .o (.load1 31 (sl 30)),
 .o (.move 32 (sl 2)),
 .o (.bin 33 .eql (sl 31) (sl 32))])
 ((.cond (sl 33) (.draw [] [(kE, .o (.move 34 (sl 11))),
 (kR, .o (.move 35 (sl 0))),
 (kR, .o (.move 36 (sl 12))),
 (kR, .o (.move 37 (sl 3))),
 (kR, .o (.move 38 (sl 4))),
 (kH, .o (.call (some 39) (cf 214) [(sl 35), (sl 36), (sl 37), (sl 38)])),
 (kE, .o (.move 40 (sl 0))),
 (kE, .o (.nilc 41 (sl 40))),
 (kE, .o (.fld 42 0 (sl 41))),
 (kE, .o (.fld 43 0 (sl 42))),
 (kE, .o (.fld 44 0 (sl 43))),
 (kE, .o (.load1 45 (sl 44))),
 (kE, .o (.move 46 (sl 12))),
 (kE, .o (.idx 47 5 (sl 45) (sl 46))),
 (kE, .o (.fld 48 4 (sl 47))),
 (kE, .o (.load1 49 (sl 48))),
 (kE, .o (.move 50 (sl 1))),
 (kR, .o (.call (some 51) (cf 117) [(sl 49), (sl 50)])),
 (kR, .o (.idx 52 1 (sl 39) (sl 51))),
 (kR, .o (.load1 53 (sl 52))),
 (kR, .o (.bin 54 .mul (sl 34) (sl 53))),
 (kR, .o (.move 11 (sl 54)))])
 .skip)))
 ((.reg [.o (.move 55 (sl 12)),
 .o (.move 1 (sl 55))]))))))))))
 ((.seq (.reg [.o (.move 56 (sl 11)),
 .o (.move 10 (sl 56))])
 (.ret))))))))
theorem q0a2 {rin : List T} {args : List A} {Q : List T -> T -> Prop} (ha : args.length <= 57) (h : cW Try.prog 57 q034 (retP Try.prog [.tmp 10] rin.length Q) (St.of (enum 0 args) (enum 1000000000 rin))) :
    Fun Try.prog 226 rin args Q :=
  Fun.of (H := ⟨[], []⟩) Try.func226 rfl rfl rfl (by kernel_rfl) ha (by decide) h

def q0yo : CC :=
 (.seq (.reg [.o (.alloc 2 [.v (.slice none 0 0)])])
 ((.seq (.seq (.reg [.o (.move 8 (sl 0)),
 .o (.call (some 9) (cf 126) [(sl 8), (ci 5)])])
 ((.block 0 (.seq (.reg [.o (.bin 11 .eql (sl 9) (ci 0)),
 .o (.move 10 (sl 11))])
 ((.cond (sl 10) (.seq (.reg [.o (.bslice 12 5 0 []),
 .o (.move 3 (sl 12))])
 ((.seq (.reg [.o (.move 13 (sl 0)),
 .o (.move 14 (sl 3)),
 .o (.call (some 15) (cf 199) [(sl 13), (sl 14), (ci 3)]),
 .o (.move 3 (sl 15))])
 ((.seq (.reg [.o (.move 16 (sl 3)),
 .o (.build 17 [.v (.slice none 0 0)] [(0, 1)] [(0, (sl 16))]),
 .o (.store 1 (sl 2) (sl 17))])
 (.ret))))))
 (.seq (.reg [.o (.bin 19 .eql (sl 9) (ci 1)),
 .o (.move 18 (sl 19))])
 ((.cond (sl 18) (.seq (.reg [.o (.move 21 (sl 0)),
 .o (.call (some 22) (cf 126) [(sl 21), (ci 4)]),
 .o (.move 23 (sl 0)),
 .o (.call (some 24) (cf 126) [(sl 23), (ci 5)]),
 .o (.bin 25 .add (ci 1) (sl 24)),
 .o (.call (some 26) (cf 184) [(sl 22), (sl 25), (ci 1)]),
 .o (.move 20 (sl 26)),
 .o (.extract 27 (sl 20) 0),
 .o (.extract 28 (sl 20) 1),
 .o (.alloc 4 [.v (.slice none 0 0)]),
 .o (.store 1 (sl 4) (sl 27)),
 .o (.move 5 (sl 28))])
 ((.seq (.reg [.o (.loadN 29 1 (sl 4)),
 .o (.store 1 (sl 2) (sl 29))])
 (.ret))))
 .skip)))))))))
 ((.seq (.reg [.o (.move 31 (sl 0)),
 .o (.call (some 32) (cf 126) [(sl 31), (ci 3)]),
 .o (.bin 33 .add (ci 1) (sl 32)),
 .o (.move 34 (sl 0)),
 .o (.call (some 35) (cf 126) [(sl 34), (ci 4)]),
 .o (.bin 36 .add (ci 1) (sl 35)),
 .o (.call (some 37) (cf 184) [(sl 33), (sl 36), (ci 0)]),
 .o (.move 30 (sl 37)),
 .o (.extract 38 (sl 30) 0),
 .o (.extract 39 (sl 30) 1),
 .o (.alloc 6 [.v (.slice none 0 0)]),
 .o (.store 1 (sl 6) (sl 38)),
 .o (.move 7 (sl 39))])
 ((.seq (.reg [.o (.loadN 40 1 (sl 6)),
 .o (.store 1 (sl 2) (sl 40))])
 (.ret))))))))
theorem q0zt {rin : List T} {args : List A} {Q : List T -> T -> Prop} (ha : args.length <= 41) (h : cW Try.prog 41 q0yo (retP Try.prog [.cell 2 33] rin.length Q) (St.of (enum 0 args) (enum 1000000000 rin))) :
    Fun Try.prog 227 rin args Q :=
  Fun.of (H := ⟨[], []⟩) Try.func227 rfl rfl rfl (by kernel_rfl) ha (by decide) h

def q04o : CC :=
 (.seq (.reg [.o (.move 4 (cb false))])
 ((.seq (.seq (.reg [.o (.move 5 (ci 0))])
 ((.block 0 (.loop (.seq (.seq (.reg [.o (.move 6 (sl 5)),
 .o (.move 7 (sl 0)),
 .o (.lenS 8 (sl 7)),
 .o (.bin 9 .lss (sl 6) (sl 8))])
 ((.cond (sl 9) .skip
 (.exit 0))))
 ((.seq (.block 1 (.seq (.draw [] [(kR, .o (.move 12 (sl 0))),
 (kR, .o (.move 13 (sl 5))),
 (kR, .o (.idx 14 1 (sl 12) (sl 13))),
 (kR, .o (.load1 15 (sl 14))),
 (kR, .o (.move 16 (sl 1))),
 (kR, .o (.bin 17 .sub (sl 16) (ci 1))),
 (kR, .o (.call (some 18) (cf 148) [(sl 15), (ci 0), (sl 17)])),
 (kR, .o (.un 19 .not (sl 18))),
 (kR, .o (.move 20 (sl 19))),
 (kR, .g 20 false (some 21) (.move 21 (sl 5))),
 (kR, .g 20 false (some 22) (.bin 22 .gtr (sl 21) (ci 0))),
 (kR, .g 20 false (some 23) (.move 23 (sl 22))),
 (kR, .g 23 true (some 24) (.move 24 (sl 0))),
 (kR, .g 23 true (some 25) (.move 25 (sl 5))),
 (kR, .g 23 true (some 26) (.idx 26 1 (sl 24) (sl 25))),
 (kR, .g 23 true (some 27) (.load1 27 (sl 26))),
 (kR, .g 23 true (some 28) (.move 28 (sl 0))),
 (kR, .g 23 true (some 29) (.move 29 (sl 5))),
 (kR, .g 23 true (some 30) (.bin 30 .sub (sl 29) (ci 1))),
 (kR, .g 23 true (some 31) (.idx 31 1 (sl 28) (sl 30))),
 (kR, .g 23 true (some 32) (.load1 32 (sl 31))),
 (kR, .g 23 true (some 33) (.bin 33 .leq (sl 27) (sl 32))),
 (kR, .g 20 false (some 34) (.pick 34 (sl 23) (sl 33) (cb false))),
 (kR, .o (.pick 35 (sl 20) (cb true) (sl 34)))])
 ((.cond (sl 35) (.seq (.reg [.o (.move 4 (cb false))])
 (.ret))
 .skip))))
 ((.reg [.o (.move 10 (sl 5)),
 .o (.bin 11 .add (sl 10) (ci 1)),
 .o (.move 5 (sl 11))])))))))))
 ((.seq (.reg [.o (.move 4 (cb true))])
 (.ret))))))
theorem q0bm {rin : List T} {args : List A} {Q : List T -> T -> Prop} (ha : args.length <= 36) (h : cW Try.prog 36 q04o (retP Try.prog [.tmp 4] rin.length Q) (St.of (enum 0 args) (enum 1000000000 rin))) :
    Fun Try.prog 228 rin args Q :=
  Fun.of (H := ⟨[], []⟩) Try.func228 rfl rfl rfl (by kernel_rfl) ha (by decide) h

theorem q0f9 (n lo hi : Int) : Pure Try.prog 110 [.i n, .i lo, .i hi] (.b (decide (lo <= n /\ n <= hi))) := by
  refine q0at (by simp) ?_
  simp -implicitDefEqProofs only [q03v, go_sem]
  refine ⟨fun h => ?_, fun h => ?_⟩
  · have : lo <= n := h
    simp [this]
  · have : ¬ lo <= n := h
    simp [this]

theorem q0eg (l : List Int) (lo hi : Int) (hl : l.length <= 1000000000000) : Pure Try.prog 176 [ints l, .i lo, .i hi] (.b (l.all fun x => decide (lo <= x /\ x <= hi))) := by
  refine q0ab (by simp) ?_
  simp -implicitDefEqProofs only [q03d, ints, go_sem]
  refine SemC.loopR (σ := Nat) (fun i => St.of [(0, .t (ints l)), (1, .t (.i lo)), (2, .t (.i hi)), (6, .t (.b false)), (9, .t (ints l)), (10, .t (.i l.length)), (11, .t (.i i))] []) (fun i => i <= l.length /\ ∀ x ∈ l.take i, lo <= x /\ x <= hi) (fun i => l.length - i) 0 (Weak.of _ [] [] (by simp) (by simp) ?_ trivial) ⟨by simp, by simp⟩ fun i hI R hn hr he => ?_
  · simp -implicitDefEqProofs only [ints, wkR, Nat.reduceEqDiff, ↓reduceIte]
  · simp -implicitDefEqProofs only [ints, go_sem]
    refine ⟨fun h => ⟨by omega, by omega, by omega, fun c x hx hc => ?_⟩, fun h => he _ _ ?_⟩
    · subst hc
      rw [q0ve] at hx
      refine q006.pure (q0f9 x lo hi) [] rfl Try.call110 ?_ ?_ rfl ?_
      · simp -implicitDefEqProofs only [vaR, go_sem]
      · trivial
      · simp -implicitDefEqProofs only [go_sem]
        refine ⟨fun h1 => hr _ ?_, fun h1 => hn _ (i + 1) (Weak.of _ [] [] (by simp) (by simp) ?_ trivial) ⟨by omega, q0uk hx hI.2 (by simpa using h1)⟩ (by omega)⟩
        · simp -implicitDefEqProofs only [go_sem]
          have : l.all (fun x => decide (lo <= x /\ x <= hi)) = false := by
            rw [List.all_eq_false]
            exact ⟨x, List.mem_of_getElem? hx, by simp at h1 ⊢; omega⟩
          rw [this]
        · simp -implicitDefEqProofs only [ints, wkR, Nat.reduceEqDiff, ↓reduceIte, q0lb (by omega : i < l.length) hl]
    · simp -implicitDefEqProofs only [go_sem]
      have : l.all (fun x => decide (lo <= x /\ x <= hi)) = true := by
        rw [List.all_eq_true]
        intro x hx
        have := hI.2 x (by rw [List.take_of_length_le (by omega)]; exact hx)
        simpa using this
      rw [this]

def filled {α : Type} (l : List α) (f : α -> T) (z : T) (i : Nat) : List T := (l.take i).map f ++ List.replicate (l.length - i) z
theorem q095 {α : Type} (l : List α) (f : α -> T) (z : T) (i : Nat) (h : i <= l.length) : (filled l f z i).length = l.length := by
  simp [filled]; omega
theorem q096 {α : Type} {l : List α} {f : α -> T} {z : T} {i : Nat} {x : α} (h : l[i]? = some x) : (filled l f z i).set i (f x) = filled l f z (i + 1) := by
  obtain ⟨hi, rfl⟩ := List.getElem?_eq_some_iff.1 h
  refine List.ext_getElem? fun j => ?_
  simp only [filled, List.getElem?_set, List.getElem?_append, List.length_map, List.length_take, List.length_append, List.length_replicate, List.getElem?_map, List.getElem?_take, List.getElem?_replicate, Nat.min_eq_left (Nat.le_of_lt hi), Nat.min_eq_left hi]
  by_cases hj : i = j
  · subst hj
    simp [hi]
    omega
  · by_cases h1 : j < i
    · simp [hj, h1, show j < i + 1 by omega]
    · simp only [hj, h1, show ¬ j < i + 1 by omega, if_false]
      by_cases h2 : j < l.length
      · rw [if_pos (by omega), if_pos (by omega)]
      · rw [if_neg (by omega), if_neg (by omega)]
theorem q097 {α : Type} (l : List α) (f : α -> T) (z : T) : filled l f z 0 = List.replicate l.length z := by simp [filled]
theorem q093 {α : Type} (l : List α) (f : α -> T) (z : T) : filled l f z l.length = l.map f := by simp [filled]
theorem q0jc (z : T) (n : Nat) : made [z] n = List.replicate n z := rfl

theorem q0s4 (n lo hi : Int) : Pure Try.prog 148 [.i n, .i lo, .i hi] (.b (decide (lo <= n /\ n <= hi))) := by
  refine q0bk (by simp) ?_
  simp -implicitDefEqProofs only [q04m, go_sem]
  refine ⟨fun h => ?_, fun h => ?_⟩
  · have : lo <= n := h
    simp [this]
  · have : ¬ lo <= n := h
    simp [this]

theorem q0s5 (l : List Int) (hl : l.length <= 1000000000000) : Fun Try.prog 167 [] [.t (ints l)] fun o r => o = [] /\ r = intsO l := by
  refine q0bl (by simp) ?_
  simp -implicitDefEqProofs only [q04n, ints, go_sem]
  exact ⟨by omega, rfl⟩

theorem q0rq (l : List Int) (hl : l.length <= 1000000000000) : Fun Try.prog 197 [] [.t (ints l)] fun o r => o = [] /\ r = intsO l := by
  refine Fun.le (Q := fun o r => o = [] /\ (r = intsO l ∨ (l = [] /\ r = .v (.slice none 0 0)))) ?_ ?_
  · refine q0bd (by simp) ?_
    simp -implicitDefEqProofs only [q04f, ints, go_sem]
    intro b hb
    exact ⟨fun h => .inr (by simpa using hb h), fun _ => ⟨by omega, .inl rfl⟩⟩
  · rintro o r ⟨rfl, rfl | ⟨rfl, rfl⟩⟩
    · exact ⟨_, .refl _, rfl, rfl⟩
    · exact ⟨_, .nilArr 1, rfl, rfl⟩

def maxL (l : List Int) : Int := l.tail.foldl max (l.headD 0)
theorem q0k2 {l : List Int} (h : l ≠ []) (x : Int) : maxL (l ++ [x]) = max (maxL l) x := by
  cases l with
  | nil => exact absurd rfl h
  | cons a l => simp [maxL, List.foldl_append]
theorem q0uj {α : Type} {l : List α} {i : Nat} {x : α} (h : l[i]? = some x) : l.take (i + 1) = l.take i ++ [x] := by
  rw [List.take_add_one, h]; rfl

theorem q0rt (l : List Int) (h0 : l ≠ []) (hl : l.length <= 1000000000000) : Pure Try.prog 106 [ints l] (.i (maxL l)) := by
  have hpos : 0 < l.length := List.length_pos_iff.2 h0
  refine q0bf (by simp) ?_
  simp -implicitDefEqProofs only [q04h, go_sem, evR, ints, rows, rat, rats]
  refine ⟨fun h => absurd h (by omega), fun _ => ⟨by omega, by omega, fun x hx => ?_⟩⟩
  refine SemC.loopR (σ := Nat) (fun i => St.of [(0, .t (ints l)), (3, .t (.i (maxL (l.take i)))), (4, .t (.i i))] []) (fun i => 1 <= i /\ i <= l.length) (fun i => l.length - i) 1 (Weak.of _ [] [] (by simp) (by simp) ?_ trivial) ⟨by simp, hpos⟩ fun i hI R hn hr he => ?_
  · simp -implicitDefEqProofs only [ints, wkR, Nat.reduceEqDiff, ↓reduceIte]
    cases l with
    | nil => simp at hx
    | cons a l => simp at hx; simp [maxL, hx]
  · simp -implicitDefEqProofs only [go_sem, evR, ints, rows, rat, rats]
    refine ⟨fun h => ⟨by omega, by omega, by omega, fun x hx => hn _ (i + 1) (Weak.of _ [] [] (by simp) (by simp) ?_ trivial) (by omega) (by omega)⟩, fun h => he _ _ ?_⟩
    · have hne : l.take i ≠ [] := by intro h'; have := congrArg List.length h'; rw [List.length_take, List.length_nil] at this; omega
      simp -implicitDefEqProofs only [ints, wkR, Nat.reduceEqDiff, ↓reduceIte, q0lb (by omega : i < l.length) hl, q0uj hx, q0k2 hne]
    · simp -implicitDefEqProofs only [go_sem]
      rw [List.take_of_length_le (by omega)]

def marks : Nat -> Int -> List Int
  | 0, _ => []
  | n + 1, k => k :: marks n (k + 1)
def held : List Int -> Int -> Int
  | [], k => k
  | x :: l, k => if x = k then held l (k + 1) else -1

def mx0 (l : List Int) : Int := l.foldl max 0
def half (l : List Int) : List Int := l.map fun x => x / 2
def hvd : Nat -> List Int -> List Int
  | 0, l => l
  | f + 1, l => if mx0 l <= 1000000000 then l else hvd f (half l)

theorem q0km {l : List Int} {b : Int} (hb : 0 <= b) : (∀ x ∈ l, x <= b) -> mx0 l <= b := by
  unfold mx0
  suffices ∀ (a : Int), a <= b -> (∀ x ∈ l, x <= b) -> l.foldl max a <= b from this 0 hb
  induction l with
  | nil => intro a ha _; simpa using ha
  | cons x l ih => intro a ha h; exact ih (max a x) (by have := h x (by simp); omega) fun y hy => h y (by simp [hy])
theorem q09o (l : List Int) : ∀ (a : Int), a <= l.foldl max a := by
  induction l with
  | nil => intro a; simp
  | cons x l ih => intro a; have := ih (max a x); simp only [List.foldl_cons]; omega
theorem q17q (l : List Int) : 0 <= mx0 l := q09o l 0
theorem q0kn (l : List Int) (x : Int) : mx0 (l ++ [x]) = max (mx0 l) x := by simp [mx0, List.foldl_append]
theorem q0k1 {l : List Int} (h0 : l ≠ []) (h : ∀ x ∈ l, 0 <= x) : maxL l = mx0 l := by
  cases l with
  | nil => exact absurd rfl h0
  | cons x l => have := h x (by simp); simp [maxL, mx0, Int.max_eq_right this]
def okW (b : Int) (l : List Int) : Prop := ∀ x ∈ l, 0 <= x /\ x < b
theorem q0ma {l : List Int} {b : Int} (h : okW (2 * b) l) : okW b (half l) := by
  intro x hx
  obtain ⟨y, hy, rfl⟩ := List.mem_map.1 hx
  have := h y hy
  omega
theorem q0dl (l : List Int) : (half l).length = l.length := by simp [half]
def q0dt (l : List Int) (i : Nat) : List Int := half (l.take i) ++ l.drop i
theorem q0dw (l : List Int) (i : Nat) (h : i <= l.length) : (q0dt l i).length = l.length := by simp [q0dt, half]; omega
theorem q0dv {l : List Int} {i : Nat} (h : i < l.length) : (q0dt l i)[i]? = some l[i] := by
  rw [q0dt, List.getElem?_append_right (by simp [half]; omega)]
  simp [half, h, Nat.min_eq_left (Nat.le_of_lt h)]
theorem q0dx {l : List Int} {i : Nat} (h : i < l.length) : ((q0dt l i).map T.i).set i (T.i (l[i] / 2)) = (q0dt l (i + 1)).map T.i := by
  rw [← List.map_set, q0dt, q0dt, List.take_succ_eq_append_getElem h, List.drop_eq_getElem_cons h, List.set_append_right _ _ (by simp [half]; omega)]
  have : i - (half (l.take i)).length = 0 := by simp [half]; omega
  rw [this]
  simp only [half, List.map_append, List.map_cons, List.map_nil, List.set_cons_zero, List.append_assoc, List.cons_append, List.nil_append]
theorem q0dy (l : List Int) : q0dt l 0 = l := by simp [q0dt, half]
theorem q0du (l : List Int) : q0dt l l.length = half l := by simp [q0dt]
theorem q0xr {x : Int} (h : 0 <= x) (h1 : x < 9223372036854775808) : IntKind.i64.wrap (x.tdiv 2) = x / 2 := by
  rw [Int.tdiv_eq_ediv_of_nonneg h, wrap64 (by omega) (by omega)]
def W (f : Nat) : Int := ((2 ^ (29 + f) : Nat) : Int)
theorem q00f (f : Nat) : W (f + 1) = 2 * W f := by unfold W; rw [show 29 + (f + 1) = (29 + f) + 1 by omega, Nat.pow_succ]; omega
theorem W_le (f : Nat) (h : f <= 34) : W f <= 9223372036854775808 := by
  have : 2 ^ (29 + f) <= 2 ^ 63 := Nat.pow_le_pow_right (by omega) (by omega)
  unfold W
  have h2 : (2 : Nat) ^ 63 = 9223372036854775808 := by decide
  omega

theorem q0em (l : List Int) (hl0 : l ≠ []) (hl : l.length <= 1000000000000) (hw : okW 9223372036854775808 l) : Fun Try.prog 211 [] [.t (ints l)] fun o r => o = [] /\ r = intsO (hvd 34 l) := by
  refine q0af (by simp) ?_
  simp -implicitDefEqProofs only [q03h, go_sem]
  refine q006.res (q0rq l hl) [] rfl Try.call197 ?_ (.inl rfl) ?_
  · simp -implicitDefEqProofs only [agR, Nat.reduceLeDiff, Nat.reduceSub, vaR, go_sem, ints, rows, rat, rats, q0p1, rtR, intsO, q0qa]
  simp -implicitDefEqProofs only [clR, Nat.reduceLeDiff, go_sem]
  refine SemC.loopR (σ := Nat × List Int) (fun s => St.of [(3, .own 6)] [(6, intsO s.2)]) (fun s => s.1 <= 34 /\ s.2 ≠ [] /\ s.2.length <= 1000000000000 /\ okW (W s.1) s.2 /\ hvd s.1 s.2 = hvd 34 l) (fun s => s.1) (34, l) (Weak.of _ _ [some 6] (by simp) (by simp) ?_ ?_) ⟨by simp, hl0, hl, hw, rfl⟩ fun s hI R hn hr he => ?_
  · simp -implicitDefEqProofs only [ints, Nat.reduceBEq, wkR, Nat.reduceEqDiff, ↓reduceIte, wrR]
  · exact ⟨⟨_, rfl, .refl _⟩, rfl, trivial⟩
  · obtain ⟨f, m⟩ := s
    obtain ⟨hf, hm0, hml, hmw, hmv⟩ := hI
    simp only [] at hf hm0 hml hmw hmv
    have hpos : 0 < m.length := List.length_pos_iff.2 hm0
    have hmx := q0k1 hm0 fun x hx => (hmw x hx).1
    simp -implicitDefEqProofs only [go_sem, evR, ints, rows, rat, rats]
    refine q006.pure (q0rt m hm0 hml) [6] rfl Try.call106 ?_ trivial rfl ?_
    · simp -implicitDefEqProofs only [agR, Nat.reduceLeDiff, Nat.reduceSub, vaR, go_sem, ints, rows, rat, rats, q0p1, rtR, intsO, q0qa]
    simp -implicitDefEqProofs only [go_sem, evR, ints, rows, rat, rats, intsO]
    rw [hmx]
    refine ⟨fun h => ?_, fun h => he _ _ ?_⟩
    · obtain ⟨g, rfl⟩ : ∃ g, f = g + 1 := by
        cases f with
        | zero => have : mx0 m <= 1000000000 := q0km (by omega) fun x hx => by have := (hmw x hx).2; simp [W] at this; omega
                  omega
        | succ g => exact ⟨g, rfl⟩
      have hWg := W_le (g + 1) hf
      refine SemC.loopR (σ := Nat) (fun i => St.of [(3, .own 6), (11, .t (.i m.length)), (12, .t (.i i))] [(6, .arr 1 ((q0dt m i).map T.i))]) (fun i => i <= m.length) (fun i => m.length - i) 0 (Weak.of _ _ [some 6] (by simp) (by simp) ?_ ?_) (by simp) fun i hi R2 hn2 hr2 he2 => ?_
      · simp -implicitDefEqProofs only [ints, Nat.reduceBEq, wkR, Nat.reduceEqDiff, ↓reduceIte, wrR]
      · exact ⟨⟨_, rfl, by rw [q0dy]; exact .refl _⟩, rfl, trivial⟩
      · have hlen := q0dw m i hi
        simp -implicitDefEqProofs only [go_sem, evR, ints, rows, rat, rats, hlen]
        refine ⟨fun h1 => ?_, fun h1 => he2 _ _ ?_⟩
        · have hi' : i < m.length := by omega
          refine ⟨by omega, by omega, by omega, fun x hx => ?_⟩
          rw [q0dv hi'] at hx
          cases hx
          have hx := hmw m[i] (List.getElem_mem _)
          simp -implicitDefEqProofs only [go_sem, evR, ints, rows, rat, rats, hlen, q0il, Value.oneCell', q0t9, List.filter_nil, q0xr hx.1 (by omega), q0dx hi']
          refine ⟨by omega, by omega, by omega, by omega, hn2 _ (i + 1) (Weak.of _ _ [some 6] (by simp) (by simp) ?_ ?_) (by omega) (by omega)⟩
          · simp -implicitDefEqProofs only [ints, Nat.reduceBEq, wkR, Nat.reduceEqDiff, ↓reduceIte, wrR, q0lb hi' hml]
          · exact ⟨⟨_, rfl, .refl _⟩, rfl, trivial⟩
        · simp -implicitDefEqProofs only [go_sem, evR, ints, rows, rat, rats, hlen]
          have e : i = m.length := by omega
          subst e
          refine hn _ (g, half m) (Weak.of _ _ [some 6] (by simp) (by simp) ?_ ?_) ⟨by simp only []; omega, ?_, by rw [q0dl]; exact hml, q0ma (by rw [← q00f]; exact hmw), ?_⟩ (by simp only []; omega)
          · simp -implicitDefEqProofs only [ints, Nat.reduceBEq, wkR, Nat.reduceEqDiff, ↓reduceIte, wrR]
          · exact ⟨⟨_, rfl, by rw [q0du]; exact .refl _⟩, rfl, trivial⟩
          · simpa [half] using hm0
          · rw [hvd, if_neg (by omega)] at hmv
            exact hmv
    · simp -implicitDefEqProofs only [go_sem, evR, ints, rows, rat, rats]
      have : hvd f m = m := by
        cases f with
        | zero => rfl
        | succ g => rw [hvd, if_pos (by omega)]
      rw [← hmv, this]
      rfl

theorem q0sw (l : List Int) (hl : l.length <= 1000000000000) (hw : okW 9223372036854775808 l) : Fun Try.prog 173 [] [.t (ints l)] fun o r => o = [] /\ r = intsO (hvd 34 l) := by
  refine q0c9 (by simp) ?_
  simp -implicitDefEqProofs only [q05b, go_sem]
  refine q006.res (q0s5 l hl) [] rfl Try.call167 ?_ (.inl rfl) ?_
  · simp -implicitDefEqProofs only [agR, Nat.reduceLeDiff, Nat.reduceSub, vaR, go_sem, ints, rows, rat, rats, q0p1, rtR, intsO, q0qa]
  simp -implicitDefEqProofs only [clR, Nat.reduceLeDiff, go_sem]
  refine SemC.loopR (σ := Nat × List Int) (fun s => St.of [(3, .own 8)] [(8, intsO s.2)]) (fun s => s.1 <= 34 /\ s.2.length <= 1000000000000 /\ okW (W s.1) s.2 /\ hvd s.1 s.2 = hvd 34 l) (fun s => s.1) (34, l) (Weak.of _ _ [some 8] (by simp) (by simp) ?_ ?_) ⟨by simp, hl, hw, rfl⟩ fun s hI R hn hr he => ?_
  · simp -implicitDefEqProofs only [ints, Nat.reduceBEq, wkR, Nat.reduceEqDiff, ↓reduceIte, wrR]
  · exact ⟨⟨_, rfl, .refl _⟩, rfl, trivial⟩
  · obtain ⟨f, m⟩ := s
    obtain ⟨hf, hml, hmw, hmv⟩ := hI
    (try simp only [] at hf hml hmw hmv)
    simp -implicitDefEqProofs only [go_sem, evR, ints, rows, rat, rats, intsO]
    refine SemC.loopR (σ := Nat) (fun i => St.of [(3, .own 8), (4, .t (.i (mx0 (m.take i)))), (5, .t (.i i))] [(8, .arr 1 (m.map T.i))]) (fun i => i <= m.length) (fun i => m.length - i) 0 (Weak.of _ _ [some 8] (by simp) (by simp) ?_ ?_) (by simp) fun i hi R2 hn2 hr2 he2 => ?_
    · simp -implicitDefEqProofs only [ints, Nat.reduceBEq, wkR, Nat.reduceEqDiff, ↓reduceIte, wrR, show mx0 (m.take 0) = 0 from rfl]
    · exact ⟨⟨_, rfl, .refl _⟩, rfl, trivial⟩
    · simp -implicitDefEqProofs only [go_sem, evR, ints, rows, rat, rats]
      refine ⟨fun h1 => ⟨by omega, by omega, by omega, fun x hx => ?_⟩, fun h1 => he2 _ _ ?_⟩
      · refine hn2 _ (i + 1) (Weak.of _ _ [some 8] (by simp) (by simp) ?_ ?_) (by omega) (by omega)
        · simp -implicitDefEqProofs only [ints, Nat.reduceBEq, wkR, Nat.reduceEqDiff, ↓reduceIte, wrR, q0lb (by omega : i < m.length) hml, q0uj hx, q0kn]
        · exact ⟨⟨_, rfl, .refl _⟩, rfl, trivial⟩
      · have e : i = m.length := by omega
        subst e
        simp -implicitDefEqProofs only [go_sem, evR, ints, rows, rat, rats, List.take_length]
        refine ⟨fun h => hr _ ?_, fun h => ?_⟩
        · simp -implicitDefEqProofs only [go_sem, evR, ints, rows, rat, rats]
          have : hvd f m = m := by
            cases f with
            | zero => rfl
            | succ g => rw [hvd, if_pos h]
          rw [← hmv, this]
          rfl
        · obtain ⟨g, rfl⟩ : ∃ g, f = g + 1 := by
            cases f with
            | zero => have : mx0 m <= 1000000000 := q0km (by omega) fun x hx => by have := (hmw x hx).2; simp [W] at this; omega
                      omega
            | succ g => exact ⟨g, rfl⟩
          have hWg := W_le (g + 1) hf
          refine SemC.loopR (σ := Nat) (fun i => St.of [(3, .own 8), (6, .t (.i i))] [(8, .arr 1 ((q0dt m i).map T.i))]) (fun i => i <= m.length) (fun i => m.length - i) 0 (Weak.of _ _ [some 8] (by simp) (by simp) ?_ ?_) (by simp) fun i hi R3 hn3 hr3 he3 => ?_
          · simp -implicitDefEqProofs only [ints, Nat.reduceBEq, wkR, Nat.reduceEqDiff, ↓reduceIte, wrR]
          · exact ⟨⟨_, rfl, by rw [q0dy]; exact .refl _⟩, rfl, trivial⟩
          · have hlen := q0dw m i hi
            simp -implicitDefEqProofs only [go_sem, evR, ints, rows, rat, rats, hlen]
            refine ⟨fun h1 => ?_, fun h1 => he3 _ _ ?_⟩
            · have hi' : i < m.length := by omega
              refine ⟨by omega, by omega, by omega, fun x hx => ?_⟩
              rw [q0dv hi'] at hx
              cases hx
              have hx := hmw m[i] (List.getElem_mem _)
              simp -implicitDefEqProofs only [go_sem, evR, ints, rows, rat, rats, hlen, q0il, Value.oneCell', q0t9, List.filter_nil, q0xr hx.1 (by omega), q0dx hi']
              refine ⟨by omega, by omega, by omega, by omega, hn3 _ (i + 1) (Weak.of _ _ [some 8] (by simp) (by simp) ?_ ?_) (by omega) (by omega)⟩
              · simp -implicitDefEqProofs only [ints, Nat.reduceBEq, wkR, Nat.reduceEqDiff, ↓reduceIte, wrR, q0lb hi' hml]
              · exact ⟨⟨_, rfl, .refl _⟩, rfl, trivial⟩
            · simp -implicitDefEqProofs only [go_sem, evR, ints, rows, rat, rats, hlen]
              have e : i = m.length := by omega
              subst e
              refine hn _ (g, half m) (Weak.of _ _ [some 8] (by simp) (by simp) ?_ ?_) ⟨by simp only []; omega, by rw [q0dl]; exact hml, q0ma (by rw [← q00f]; exact hmw), ?_⟩ (by simp only []; omega)
              · simp -implicitDefEqProofs only [ints, Nat.reduceBEq, wkR, Nat.reduceEqDiff, ↓reduceIte, wrR]
              · exact ⟨⟨_, rfl, by rw [q0du]; exact .refl _⟩, rfl, trivial⟩
              · rw [hvd, if_neg (by omega)] at hmv
                exact hmv

def hw (l : List Int) : List Int × Int := if 1 <= l.length /\ l.length <= 4 /\ ∀ x ∈ l, 0 <= x then (hvd 34 l, 0) else ([], 2)

def maxI (r : List Int) : Nat -> Nat
  | 0 => 0
  | k + 1 => if r.getD (maxI r k) 0 < r.getD k 0 then k else maxI r k
theorem q0jx (r : List Int) : ∀ k, k <= r.length -> 0 < r.length -> maxI r k < r.length
  | 0, _, h => h
  | k + 1, hk, h => by
    have := q0jx r k (by omega) h
    rw [maxI]; split <;> omega
theorem q0jz (r : List Int) : maxI r 1 = 0 := by
  rw [maxI, show maxI r 0 = 0 from rfl, if_neg (Int.lt_irrefl _)]
theorem q0jy (r : List Int) : ∀ k i, i < k -> r.getD i 0 <= r.getD (maxI r k) 0
  | k + 1, i, h => by
    have ih := q0jy r k
    rw [maxI]
    split
    · rename_i h1
      by_cases hi : i = k
      · rw [hi]; exact Int.le_refl _
      · have := ih i (by omega); omega
    · rename_i h1
      by_cases hi : i = k
      · rw [hi]; omega
      · exact ih i (by omega)
theorem q0jw (r : List Int) : ∀ k i, i < maxI r k -> r.getD i 0 < r.getD (maxI r k) 0
  | 0, i, h => by simp [maxI] at h
  | k + 1, i, h => by
    have ih := q0jw r k
    have hm := q0jy r k
    rw [maxI] at h ⊢
    split at h
    · rename_i h1
      rw [if_pos h1]
      have := hm i h; omega
    · rename_i h1
      rw [if_neg h1]
      exact ih i h

def q0dn : Nat -> List Int -> List Int -> List Int
  | 0, p, _ => p
  | n + 1, p, r => q0dn n (p.set (maxI r r.length) (p.getD (maxI r r.length) 0 + 1)) (r.set (maxI r r.length) (-1))
def quoL (t : Int) (w : List Int) : List Int := w.map fun x => 60 * x / t
def remL (t : Int) (w : List Int) : List Int := w.map fun x => 60 * x % t
def q0mb (w : List Int) : List Int := w.map fun _ => 1
def ham1 (w : List Int) : List Int := q0dn (60 - (quoL w.sum w).sum).toNat (quoL w.sum w) (remL w.sum w)
def ham (w : List Int) : List Int := if w.sum = 0 then ham1 (q0mb w) else ham1 w

theorem q0uc {p : List Int} {b : Nat} (h : b < p.length) (x : Int) : (p.set b x).sum = p.sum - p.getD b 0 + x := by
  induction p generalizing b with
  | nil => simp at h
  | cons a p ih =>
    cases b with
    | zero => simp; omega
    | succ b =>
      have := ih (b := b) (by simpa using h)
      simp only [List.set_cons_succ, List.sum_cons, List.getD_cons_succ]
      omega
theorem q0ub {w : List Int} (h : ∀ x ∈ w, 0 <= x) : 0 <= w.sum := by
  induction w with
  | nil => simp
  | cons a w ih =>
    have := ih fun x hx => h x (List.mem_cons_of_mem _ hx)
    have := h a (by simp)
    simp only [List.sum_cons]; omega
theorem q0ua {t : Int} : ∀ (w p : List Int), w.length = p.length -> (∀ i, i < w.length -> 60 * w.getD i 0 <= t * p.getD i 0) -> 60 * w.sum <= t * p.sum
  | [], [], _, _ => by simp
  | a :: w, b :: p, hl, h => by
    have ih := q0ua w p (by simpa using hl) fun i hi => by simpa using h (i + 1) (by simpa using hi)
    have h0 := h 0 (by simp)
    simp only [List.getD_cons_zero] at h0
    simp only [List.sum_cons, Int.mul_add]
    omega
structure HamI (w : List Int) (t : Int) (m : Nat) (p r : List Int) : Prop where
  lp : p.length = w.length
  lr : r.length = w.length
  each : ∀ i, i < w.length -> (r.getD i 0 = 60 * w.getD i 0 - t * p.getD i 0 /\ 0 <= r.getD i 0 /\ r.getD i 0 < t) ∨ (r.getD i 0 = -1 /\ 60 * w.getD i 0 < t * p.getD i 0 /\ t * p.getD i 0 < 60 * w.getD i 0 + t)
  sum : p.sum + m = 60
theorem HamI.best {w : List Int} {m : Nat} {p r : List Int} (h : HamI w w.sum (m + 1) p r) (ht : 0 < w.sum) : maxI r r.length < w.length /\ 0 < r.getD (maxI r r.length) 0 := by
  have ⟨i, hi, hpos⟩ : ∃ i, i < w.length /\ ¬ 60 * w.getD i 0 <= w.sum * p.getD i 0 := by
    by_cases hc : ∃ i, i < w.length /\ ¬ 60 * w.getD i 0 <= w.sum * p.getD i 0
    · exact hc
    · have := q0ua (t := w.sum) w p h.lp.symm fun i hi => by
        by_cases h1 : 60 * w.getD i 0 <= w.sum * p.getD i 0
        · exact h1
        · exact absurd ⟨i, hi, h1⟩ hc
      have hs := h.sum
      have e : w.sum * p.sum = w.sum * (60 - (m + 1 : Nat)) := by rw [show p.sum = 60 - ((m + 1 : Nat) : Int) by omega]
      rw [e, Int.mul_sub] at this
      have h2 : 0 < w.sum * ((m + 1 : Nat) : Int) := Int.mul_pos ht (by omega)
      omega
  have hri : 0 < r.getD i 0 := by
    rcases h.each i hi with h1 | h1 <;> omega
  have hlr := h.lr
  have h1 := q0jx r r.length (Nat.le_refl _) (by omega)
  have h2 := q0jy r r.length i (by omega)
  exact ⟨by omega, by omega⟩
theorem q0ct {l : List Int} {b : Nat} (h : b < l.length) (x : Int) : (l.set b x).getD b 0 = x := by
  rw [List.getD_eq_getElem?_getD, List.getElem?_set_self h]; rfl
theorem q0cs {l : List Int} {b i : Nat} (h : i ≠ b) (x : Int) : (l.set b x).getD i 0 = l.getD i 0 := by
  rw [List.getD_eq_getElem?_getD, List.getElem?_set_ne (Ne.symm h), List.getD_eq_getElem?_getD]
theorem HamI.step {w : List Int} {m : Nat} {p r : List Int} (h : HamI w w.sum (m + 1) p r) (ht : 0 < w.sum) : HamI w w.sum m (p.set (maxI r r.length) (p.getD (maxI r r.length) 0 + 1)) (r.set (maxI r r.length) (-1)) := by
  obtain ⟨hb, hr⟩ := h.best ht
  have hlp := h.lp
  have hlr := h.lr
  generalize maxI r r.length = b at hb hr
  refine ⟨by simp [hlp], by simp [hlr], fun i hi => ?_, ?_⟩
  · by_cases hib : i = b
    · subst hib
      right
      rw [q0ct (by omega), q0ct (by omega)]
      rcases h.each i hi with h1 | h1
      · rw [Int.mul_add]; omega
      · omega
    · rw [q0cs hib, q0cs hib]
      exact h.each i hi
  · have := h.sum
    rw [q0uc (by omega)]
    omega
theorem q0do {w : List Int} (ht : 0 < w.sum) : ∀ (m : Nat) (p r : List Int), HamI w w.sum m p r →
    (q0dn m p r).length = w.length /\ (q0dn m p r).sum = 60 /\ ∀ i, i < w.length -> 60 * w.getD i 0 - w.sum < w.sum * (q0dn m p r).getD i 0 /\ w.sum * (q0dn m p r).getD i 0 < 60 * w.getD i 0 + w.sum
  | 0, p, r, h => ⟨h.lp, by have := h.sum; simpa [q0dn] using this, fun i hi => by
      rw [q0dn]
      rcases h.each i hi with h1 | h1 <;> omega⟩
  | m + 1, p, r, h => q0do ht m _ _ (h.step ht)
theorem q0co {w : List Int} {f : Int -> Int} {i : Nat} (h : i < w.length) : (w.map f).getD i 0 = f (w.getD i 0) := by
  rw [List.getD_eq_getElem?_getD, List.getD_eq_getElem?_getD, List.getElem?_map, List.getElem?_eq_getElem h]; rfl
theorem q0or {t : Int} (ht : 0 < t) : ∀ w : List Int, t * (quoL t w).sum <= 60 * w.sum
  | [] => by simp [quoL]
  | a :: w => by
    have ih := q0or ht w
    have h1 := Int.mul_ediv_self_le (x := 60 * a) (k := t) (by omega)
    simp only [quoL, List.map_cons, List.sum_cons, Int.mul_add] at ih ⊢
    omega
theorem q0dq {w : List Int} (hw : ∀ x ∈ w, 0 <= x) (ht : 0 < w.sum) : HamI w w.sum (60 - (quoL w.sum w).sum).toNat (quoL w.sum w) (remL w.sum w) := by
  refine ⟨by simp [quoL], by simp [remL], fun i hi => .inl ?_, ?_⟩
  · rw [quoL, remL, q0co hi, q0co hi]
    have h1 := Int.mul_ediv_add_emod (60 * w.getD i 0) w.sum
    have h2 := Int.emod_nonneg (60 * w.getD i 0) (show w.sum ≠ 0 by omega)
    have h3 := Int.emod_lt_of_pos (60 * w.getD i 0) ht
    omega
  · have h1 := q0or ht w
    have h2 : (quoL w.sum w).sum <= 60 := by
      rw [Int.mul_comm 60] at h1
      exact Int.le_of_mul_le_mul_left h1 ht
    omega
theorem q0dm {w : List Int} (hw : ∀ x ∈ w, 0 <= x) (ht : 0 < w.sum) : (ham1 w).length = w.length /\ (ham1 w).sum = 60 /\ ∀ i, i < w.length -> 60 * w.getD i 0 - w.sum < w.sum * (ham1 w).getD i 0 /\ w.sum * (ham1 w).getD i 0 < 60 * w.getD i 0 + w.sum :=
  q0do ht _ _ _ (q0dq hw ht)
theorem q0me (w : List Int) : (q0mb w).sum = w.length := by
  induction w with
  | nil => rfl
  | cons a w ih =>
    simp only [q0mb, List.map_cons, List.sum_cons] at ih ⊢
    simp only [List.length_cons]; omega
theorem q0dp {w : List Int} (hw : ∀ x ∈ w, 0 <= x) (hl : 1 <= w.length) : (ham w).length = w.length /\ (ham w).sum = 60 /\ (0 < w.sum -> ∀ i, i < w.length -> 60 * w.getD i 0 - w.sum < w.sum * (ham w).getD i 0 /\ w.sum * (ham w).getD i 0 < 60 * w.getD i 0 + w.sum) := by
  have h0 := q0ub hw
  unfold ham
  split
  · rename_i h
    have h1 := q0dm (w := q0mb w) (fun x hx => by simp [q0mb] at hx; omega) (by rw [q0me]; omega)
    refine ⟨by rw [h1.1]; simp [q0mb], h1.2.1, fun h' => by omega⟩
  · rename_i h
    obtain ⟨h1, h2, h3⟩ := q0dm hw (by omega)
    exact ⟨h1, h2, fun _ => h3⟩

def q0rv (l : List Int) : Prop := l.length <= 1000 /\ ∀ x ∈ l, -1000000000000 <= x /\ x <= 1000000000000
theorem q0rw {l : List Int} (h : q0rv l) (k : Nat) : -1000000000000000 <= (l.take k).sum /\ (l.take k).sum <= 1000000000000000 := by
  obtain ⟨h1, h2⟩ := h
  have key : ∀ (l : List Int), (∀ x ∈ l, -1000000000000 <= x /\ x <= 1000000000000) -> -(1000000000000 * (l.length : Int)) <= l.sum /\ l.sum <= 1000000000000 * (l.length : Int) := by
    intro l
    induction l with
    | nil => intro _; simp
    | cons a l ih =>
      intro h
      have := ih fun x hx => h x (List.mem_cons_of_mem _ hx)
      have := h a (by simp)
      simp only [List.sum_cons, List.length_cons]
      omega
  have := key (l.take k) fun x hx => h2 x (List.mem_of_mem_take hx)
  have hl : (l.take k).length <= 1000 := by rw [List.length_take]; omega
  omega
theorem q0ud (l : List Int) (x : Int) : (l ++ [x]).sum = l.sum + x := by simp
theorem q0f1 (l : List Int) (h : q0rv l) : Pure Try.prog 200 [ints l] (.i l.sum) := by
  have hl := h.1
  refine q0ap (by simp) ?_
  simp -implicitDefEqProofs only [go_sem, evR, ints, rows, rat, rats, q03r]
  refine SemC.loopR (σ := Nat) (fun i => St.of [(3, .t (.i (l.take i).sum)), (6, .t (ints l)), (7, .t (.i l.length)), (8, .t (.i i))] []) (fun i => i <= l.length) (fun i => l.length - i) 0 (Weak.of _ [] [] (by simp) (by simp) ?_ trivial) (by omega) fun i hi R hn hr he => ?_
  · simp -implicitDefEqProofs only [ints, rows, Nat.reduceBEq, wkR, Nat.reduceEqDiff, ↓reduceIte, wrR, List.take_zero, List.sum_nil]
  · simp -implicitDefEqProofs only [go_sem, evR, ints, rows, rat, rats]
    refine ⟨fun h1 => ⟨by omega, by omega, by omega, fun x hx => ?_⟩, fun h1 => he _ _ ?_⟩
    · have e := q0ud (l.take i) x
      rw [← q0uj hx] at e
      have hb := q0rw h (i + 1)
      refine hn _ (i + 1) (Weak.of _ [] [] (by simp) (by simp) ?_ trivial) (by omega) (by omega)
      simp -implicitDefEqProofs only [ints, rows, Nat.reduceBEq, wkR, Nat.reduceEqDiff, ↓reduceIte, wrR, q0lb (by omega : i < l.length) (by omega), ← e, wrap64 (n := (l.take (i + 1)).sum) (by omega) (by omega)]
    · simp -implicitDefEqProofs only [go_sem, evR, ints, rows, rat, rats]
      rw [List.take_of_length_le (by omega)]
theorem q0s7 (l : List Int) (h : q0rv l) : Pure Try.prog 187 [ints l] (.i l.sum) := by
  have hl := h.1
  refine q0bn (by simp) ?_
  simp -implicitDefEqProofs only [go_sem, evR, ints, rows, rat, rats, q04p]
  refine SemC.loopR (σ := Nat) (fun i => St.of [(0, .t (ints l)), (3, .t (.i (l.take i).sum)), (4, .t (.i i))] []) (fun i => i <= l.length) (fun i => l.length - i) 0 (Weak.of _ [] [] (by simp) (by simp) ?_ trivial) (by omega) fun i hi R hn hr he => ?_
  · simp -implicitDefEqProofs only [ints, rows, Nat.reduceBEq, wkR, Nat.reduceEqDiff, ↓reduceIte, wrR, List.take_zero, List.sum_nil]
  · simp -implicitDefEqProofs only [go_sem, evR, ints, rows, rat, rats]
    refine ⟨fun h1 => ⟨by omega, by omega, by omega, fun x hx => ?_⟩, fun h1 => he _ _ ?_⟩
    · have e := q0ud (l.take i) x
      rw [← q0uj hx] at e
      have hb := q0rw h (i + 1)
      refine hn _ (i + 1) (Weak.of _ [] [] (by simp) (by simp) ?_ trivial) (by omega) (by omega)
      simp -implicitDefEqProofs only [ints, rows, Nat.reduceBEq, wkR, Nat.reduceEqDiff, ↓reduceIte, wrR, q0lb (by omega : i < l.length) (by omega), ← e, wrap64 (n := (l.take (i + 1)).sum) (by omega) (by omega)]
    · simp -implicitDefEqProofs only [go_sem, evR, ints, rows, rat, rats]
      rw [List.take_of_length_le (by omega)]

theorem q0op {t : Int} {w : List Int} {i : Nat} {x : Int} (h : w[i]? = some x) : quoL t (w.take (i + 1)) = quoL t (w.take i) ++ [60 * x / t] := by rw [q0uj h]; simp [quoL]
theorem q0pf {t : Int} {w : List Int} {i : Nat} {x : Int} (h : w[i]? = some x) : remL t (w.take (i + 1)) = remL t (w.take i) ++ [60 * x % t] := by rw [q0uj h]; simp [remL]
def q0xj (w : List Int) : Prop := 1 <= w.length /\ w.length <= 4 /\ ∀ x ∈ w, 0 <= x /\ x <= 1000000000
theorem q0xk {w : List Int} (h : q0xj w) : q0rv w := ⟨by have := h.2.1; omega, fun x hx => by have := h.2.2 x hx; omega⟩
theorem q0oq {w : List Int} (h : q0xj w) (ht : 0 < w.sum) : q0rv (quoL w.sum w) := by
  refine ⟨by have := h.2.1; simp [quoL]; omega, fun y hy => ?_⟩
  obtain ⟨x, hx, rfl⟩ := List.mem_map.1 hy
  have hb := h.2.2 x hx
  have h1 := Int.ediv_nonneg (a := 60 * x) (b := w.sum) (by omega) (by omega)
  have h2 : 60 * x / w.sum <= 60 * x := Int.ediv_le_self _ (by omega)
  omega
theorem HamI.small {w : List Int} {t : Int} {m : Nat} {p r : List Int} (h : HamI w t m p r) (ht : 0 < t) {i : Nat} (hi : i < w.length) (hw : 0 <= w.getD i 0 /\ w.getD i 0 <= 1000000000) : 0 <= p.getD i 0 /\ p.getD i 0 <= 100000000000 := by
  have key : -t < t * p.getD i 0 /\ t * p.getD i 0 < 60 * w.getD i 0 + t := by
    rcases h.each i hi with h1 | h1 <;> omega
  refine ⟨?_, ?_⟩
  · have h1 : t * (-1) < t * p.getD i 0 := by omega
    have := Int.lt_of_mul_lt_mul_left h1 (by omega)
    omega
  · have h1 := Int.mul_le_mul_of_nonneg_right (show (1 : Int) <= t by omega) (show 0 <= 60 * w.getD i 0 by omega)
    have h2 : t * p.getD i 0 < t * (60 * w.getD i 0 + 1) := by rw [Int.mul_add, Int.mul_one]; omega
    have := Int.lt_of_mul_lt_mul_left h2 (by omega)
    omega
theorem q0sh (w : List Int) (hw : q0xj w) (ht : 0 < w.sum) : Fun Try.prog 172 [] [.t (ints w)] fun o r => o = [] /\ r = intsO (ham1 w) := by
  have hs := q0xk hw
  have hsum : w.sum <= 1000000000000000 := by have := q0rw hs w.length; rw [List.take_length] at this; omega
  obtain ⟨hw1, hw2, hw3⟩ := hw
  refine q0bw (by simp) ?_
  simp -implicitDefEqProofs only [go_sem, evR, ints, rows, rat, rats, q04y]
  refine q006.pure (q0s7 w hs) [] rfl Try.call187 ?_ (by first | trivial | simp [T.noSh, T.noShL, rat]) rfl ?_
  · simp -implicitDefEqProofs only [agR, Nat.reduceLeDiff, Nat.reduceSub, vaR, go_sem, ints, rows, rat, rats, q0p1, rtR, intsO, q0qa]
  simp -implicitDefEqProofs only [go_sem, evR, ints, rows, rat, rats]
  refine ⟨fun h => absurd h (by simp; omega), fun _ => ?_⟩
  refine SemC.loopR (σ := Nat) (fun i => St.of [(0, .t (ints w)), (3, .t (.i w.sum)), (6, .own 95), (7, .own 96), (8, .t (.i i))] [(95, .arr 1 ((quoL w.sum (w.take i)).map T.i)), (96, .arr 1 ((remL w.sum (w.take i)).map T.i))]) (fun i => i <= w.length) (fun i => w.length - i) 0 (Weak.of _ _ [some 28, some 29] (by simp) (by simp) ?_ ?_) (by omega) fun i hi R hn hr he => ?_
  · simp -implicitDefEqProofs only [ints, rows, Nat.reduceBEq, wkR, Nat.reduceEqDiff, ↓reduceIte, wrR]
  · exact ⟨⟨_, rfl, .refl _⟩, rfl, ⟨_, rfl, .refl _⟩, rfl, trivial⟩
  · simp -implicitDefEqProofs only [go_sem, evR, ints, rows, rat, rats]
    refine ⟨fun h => ⟨by omega, by omega, by omega, fun x hx => ?_⟩, fun h => he _ _ ?_⟩
    · have hxb := hw3 x (List.mem_of_getElem? hx)
      have hq1 := Int.ediv_nonneg (a := 60 * x) (b := w.sum) (by omega) (by omega)
      have hq2 : 60 * x / w.sum <= 60 * x := Int.ediv_le_self _ (by omega)
      have hr1 := Int.emod_nonneg (60 * x) (show w.sum ≠ 0 by omega)
      have hr2 := Int.emod_lt_of_pos (60 * x) ht
      have e1 : IntKind.i64.wrap ((IntKind.i64.wrap (60 * x)).tdiv w.sum) = 60 * x / w.sum := by
        rw [wrap64 (n := 60 * x) (by omega) (by omega), Int.tdiv_eq_ediv_of_nonneg (by omega), wrap64 (by omega) (by omega)]
      have e2 : (IntKind.i64.wrap (60 * x)).tmod w.sum = 60 * x % w.sum := by
        rw [wrap64 (n := 60 * x) (by omega) (by omega), Int.tmod_eq_emod_of_nonneg (by omega)]
      simp only [e1]
      refine ⟨by omega, by rw [quoL, List.length_map, List.length_take]; omega, by omega, by omega, by omega, fun x' hx' => ?_⟩
      rw [hx] at hx'; cases hx'
      simp only [e2]
      refine ⟨by omega, by rw [remL, List.length_map, List.length_take]; omega, ?_⟩
      refine hn _ (i + 1) (Weak.of _ _ [some 45, some 55] (by simp) (by simp) ?_ ?_) (by omega) (by omega)
      · simp -implicitDefEqProofs only [ints, rows, Nat.reduceBEq, wkR, Nat.reduceEqDiff, ↓reduceIte, wrR, q0lb (by omega : i < w.length) (by omega)]
      · refine ⟨⟨_, rfl, ?_⟩, rfl, ⟨_, rfl, ?_⟩, rfl, trivial⟩
        · rw [q0op hx, List.map_append]; exact .refl _
        · rw [q0pf hx, List.map_append]; exact .refl _
    · simp -implicitDefEqProofs only [go_sem, evR, ints, rows, rat, rats]
      rw [show i = w.length by omega, List.take_length]
      have hst := q0dq (fun x hx => (hw3 x hx).1) ht
      have hqs := q0oq ⟨hw1, hw2, hw3⟩ ht
      refine q006.pure (q0s7 (quoL w.sum w) hqs) [95] rfl Try.call187 ?_ (by first | trivial | simp [T.noSh, T.noShL, rat]) rfl ?_
      · simp -implicitDefEqProofs only [agR, Nat.reduceLeDiff, Nat.reduceSub, vaR, go_sem, ints, rows, rat, rats, q0p1, rtR, intsO, q0qa]
      simp -implicitDefEqProofs only [go_sem, evR, ints, rows, rat, rats]
      have hsm := hst.sum
      have e60 : IntKind.i64.wrap (60 - (quoL w.sum w).sum) = (((60 - (quoL w.sum w).sum).toNat : Nat) : Int) := by
        have := q0rw hqs (quoL w.sum w).length
        rw [List.take_length] at this
        rw [wrap64 (by omega) (by omega)]; omega
      rw [e60]
      refine SemC.loopR (σ := Nat × List Int × List Int) (fun s => St.of [(6, .own 95), (7, .own 96), (9, .t (.i s.1))] [(95, .arr 1 (s.2.1.map T.i)), (96, .arr 1 (s.2.2.map T.i))]) (fun s => HamI w w.sum s.1 s.2.1 s.2.2 /\ q0dn s.1 s.2.1 s.2.2 = ham1 w /\ s.1 <= 60) (fun s => s.1) ((60 - (quoL w.sum w).sum).toNat, quoL w.sum w, remL w.sum w) (Weak.of _ _ [some 95, some 96] (by simp) (by simp) ?_ ?_) ⟨hst, rfl, by
        have := q0ub (w := quoL w.sum w) fun y hy => by
          obtain ⟨x, hx, rfl⟩ := List.mem_map.1 hy
          exact Int.ediv_nonneg (by have := hw3 x hx; omega) (by omega)
        simp only []; omega⟩ fun s hI R hn hr he => ?_
      · simp -implicitDefEqProofs only [ints, rows, Nat.reduceBEq, wkR, Nat.reduceEqDiff, ↓reduceIte, wrR]
      · exact ⟨⟨_, rfl, .refl _⟩, rfl, ⟨_, rfl, .refl _⟩, rfl, trivial⟩
      · obtain ⟨m, p, r⟩ := s
        obtain ⟨hH, hgo, hm60⟩ := hI
        (try simp only [] at hH hgo hm60)
        simp -implicitDefEqProofs only [go_sem, evR, ints, rows, rat, rats]
        have hlp := hH.lp
        have hlr := hH.lr
        refine ⟨fun h => ?_, fun h => he _ _ ?_⟩
        · obtain ⟨m', rfl⟩ : ∃ m', m = m' + 1 := ⟨m - 1, by omega⟩
          obtain ⟨hb1, hb2⟩ := hH.best ht
          have hnext := hH.step ht
          refine SemC.loopR (σ := Nat) (fun k => St.of [(6, .own 95), (7, .own 96), (9, .t (.i (m' + 1 : Nat))), (10, .t (.i (maxI r k : Nat))), (11, .t (.i k))] [(95, .arr 1 (p.map T.i)), (96, .arr 1 (r.map T.i))]) (fun k => 1 <= k /\ k <= r.length) (fun k => r.length - k) 1 (Weak.of _ _ [some 95, some 96] (by simp) (by simp) ?_ ?_) ⟨by omega, by omega⟩ fun k hk R2 hn2 hr2 he2 => ?_
          · simp -implicitDefEqProofs only [ints, rows, Nat.reduceBEq, wkR, Nat.reduceEqDiff, ↓reduceIte, wrR, q0jz]
          · exact ⟨⟨_, rfl, .refl _⟩, rfl, ⟨_, rfl, .refl _⟩, rfl, trivial⟩
          · simp -implicitDefEqProofs only [go_sem, evR, ints, rows, rat, rats]
            refine ⟨fun h => ?_, fun h => he2 _ _ ?_⟩
            · have hkl : k < r.length := by omega
              obtain ⟨x, hx⟩ : ∃ x, r[k]? = some x := ⟨_, List.getElem?_eq_getElem hkl⟩
              have hml := q0jx r k (by omega) (by omega)
              obtain ⟨y, hy⟩ : ∃ y, r[maxI r k]? = some y := ⟨_, List.getElem?_eq_getElem hml⟩
              have hms : maxI r (k + 1) = if y < x then k else maxI r k := by
                rw [maxI, List.getD_eq_getElem?_getD, List.getD_eq_getElem?_getD, hx, hy]; rfl
              refine ⟨by omega, by omega, by omega, fun x' hx' => ⟨by omega, by omega, by omega, fun y' hy' => ?_⟩⟩
              rw [hx] at hx'; cases hx'
              rw [hy] at hy'; cases hy'
              refine ⟨fun hc => ?_, fun hc => ?_⟩
              · rw [if_pos (by omega)] at hms
                refine hn2 _ (k + 1) (Weak.of _ _ [some 95, some 96] (by simp) (by simp) ?_ ?_) ⟨by omega, by omega⟩ (by omega)
                · simp -implicitDefEqProofs only [ints, rows, Nat.reduceBEq, wkR, Nat.reduceEqDiff, ↓reduceIte, wrR, q0lb hkl (by omega), hms]
                · exact ⟨⟨_, rfl, .refl _⟩, rfl, ⟨_, rfl, .refl _⟩, rfl, trivial⟩
              · rw [if_neg (by omega)] at hms
                refine hn2 _ (k + 1) (Weak.of _ _ [some 95, some 96] (by simp) (by simp) ?_ ?_) ⟨by omega, by omega⟩ (by omega)
                · simp -implicitDefEqProofs only [ints, rows, Nat.reduceBEq, wkR, Nat.reduceEqDiff, ↓reduceIte, wrR, q0lb hkl (by omega), hms]
                · exact ⟨⟨_, rfl, .refl _⟩, rfl, ⟨_, rfl, .refl _⟩, rfl, trivial⟩
            · simp -implicitDefEqProofs only [go_sem, evR, ints, rows, rat, rats]
              have hk' : k = r.length := by omega
              subst hk'
              have hsm := hH.small ht hb1 (hw3 _ (by rw [List.getD_eq_getElem?_getD, List.getElem?_eq_getElem hb1]; exact List.getElem_mem _))
              refine ⟨by omega, by omega, by omega, fun a ha => ?_⟩
              have hg : p.getD (maxI r r.length) 0 = a := by rw [List.getD_eq_getElem?_getD, ha]; rfl
              rw [hg] at hsm hnext
              rw [wrap64 (n := a + 1) (by omega) (by omega)]
              refine ⟨by omega, by omega, by omega, by omega, by omega, by omega, ?_⟩
              refine hn _ (m', p.set (maxI r r.length) (a + 1), r.set (maxI r r.length) (-1)) (Weak.of _ _ [some 95, some 96] (by simp) (by simp) ?_ ?_) ⟨hnext, by rw [← hgo, q0dn, hg], by simp only []; omega⟩ (by simp only []; omega)
              · have e : IntKind.i64.wrap (((m' + 1 : Nat) : Int) - 1) = (m' : Int) := by rw [wrap64 (by omega) (by omega)]; omega
                simp -implicitDefEqProofs only [ints, rows, Nat.reduceBEq, wkR, Nat.reduceEqDiff, ↓reduceIte, wrR, e]
              · refine ⟨⟨_, rfl, ?_⟩, rfl, ⟨_, rfl, ?_⟩, rfl, trivial⟩
                · rw [List.map_set]; exact .refl _
                · rw [List.map_set]; exact .refl _
        · simp -implicitDefEqProofs only [go_sem, evR, ints, rows, rat, rats]
          have hm0 : m = 0 := by omega
          subst hm0
          rw [← hgo, q0dn]; rfl

theorem q0mc {w : List Int} (h : q0xj w) : q0xj (q0mb w) := ⟨by have := h.1; simpa [q0mb] using this, by have := h.2.1; simpa [q0mb] using this, fun x hx => by simp [q0mb] at hx; omega⟩
theorem q0md {w : List Int} {i : Nat} {x : Int} (h : w[i]? = some x) : q0mb (w.take (i + 1)) = q0mb (w.take i) ++ [1] := by rw [q0uj h]; simp [q0mb]
theorem q0si (w : List Int) (hw : q0xj w) : Fun Try.prog 172 [] [.t (ints w)] fun o r => o = [] /\ r = intsO (ham w) := by
  have hs := q0xk hw
  have hs0 := q0ub (w := w) fun x hx => (hw.2.2 x hx).1
  by_cases h0 : w.sum = 0
  · rw [ham, if_pos h0]
    have ho := q0sh (q0mb w) (q0mc hw) (by rw [q0me]; have := hw.1; omega)
    obtain ⟨hw1, hw2, hw3⟩ := hw
    refine q0bw (by simp) ?_
    simp -implicitDefEqProofs only [go_sem, evR, ints, rows, rat, rats, q04y]
    refine q006.pure (q0s7 w hs) [] rfl Try.call187 ?_ (by first | trivial | simp [T.noSh, T.noShL, rat]) rfl ?_
    · simp -implicitDefEqProofs only [agR, Nat.reduceLeDiff, Nat.reduceSub, vaR, go_sem, ints, rows, rat, rats, q0p1, rtR, intsO, q0qa]
    simp -implicitDefEqProofs only [go_sem, evR, ints, rows, rat, rats]
    refine ⟨fun _ => ?_, fun h => absurd h (by simp [h0])⟩
    refine SemC.loopR (σ := Nat) (fun i => St.of [(0, .t (ints w)), (4, .own 95), (5, .t (.i i))] [(95, .arr 1 ((q0mb (w.take i)).map T.i))]) (fun i => i <= w.length) (fun i => w.length - i) 0 (Weak.of _ _ [some 16] (by simp) (by simp) ?_ ?_) (by omega) fun i hi R hn hr he => ?_
    · simp -implicitDefEqProofs only [ints, rows, Nat.reduceBEq, wkR, Nat.reduceEqDiff, ↓reduceIte, wrR]
    · exact ⟨⟨_, rfl, .refl _⟩, rfl, trivial⟩
    · simp -implicitDefEqProofs only [go_sem, evR, ints, rows, rat, rats]
      refine ⟨fun h => ?_, fun h => he _ _ ?_⟩
      · obtain ⟨x, hx⟩ : ∃ x, w[i]? = some x := ⟨_, List.getElem?_eq_getElem (by omega)⟩
        refine ⟨by rw [q0mb, List.length_map, List.length_take]; omega, hn _ (i + 1) (Weak.of _ _ [some 25] (by simp) (by simp) ?_ ?_) (by omega) (by omega)⟩
        · simp -implicitDefEqProofs only [ints, rows, Nat.reduceBEq, wkR, Nat.reduceEqDiff, ↓reduceIte, wrR, q0lb (by omega : i < w.length) (by omega)]
        · refine ⟨⟨_, rfl, ?_⟩, rfl, trivial⟩
          rw [q0md hx, List.map_append]; exact .refl _
      · simp -implicitDefEqProofs only [go_sem, evR, ints, rows, rat, rats]
        rw [show i = w.length by omega, List.take_length]
        refine q006.res ho [95] rfl Try.call172 ?_ (.inr (q0fh _)) ?_
        · simp -implicitDefEqProofs only [agR, Nat.reduceLeDiff, Nat.reduceSub, vaR, go_sem, ints, rows, rat, rats, q0p1, rtR, intsO, q0qa]
        simp -implicitDefEqProofs only [clR, Nat.reduceLeDiff, go_sem, evR, rat]
  · rw [ham, if_neg h0]
    exact q0sh w hw (by omega)
theorem q0k0 (r : List Int) : ∀ k, 1 <= k -> k <= r.length -> maxL (r.take k) = r.getD (maxI r k) 0
  | 0, h, _ => by omega
  | 1, _, h => by
    rw [q0jz]
    cases r with
    | nil => simp at h
    | cons a r => simp [maxL]
  | k + 2, _, h => by
    have ih := q0k0 r (k + 1) (by omega) (by omega)
    obtain ⟨x, hx⟩ : ∃ x, r[k + 1]? = some x := ⟨_, List.getElem?_eq_getElem (by omega)⟩
    have hg : r.getD (k + 1) 0 = x := by rw [List.getD_eq_getElem?_getD, hx]; rfl
    rw [q0uj hx, q0k2 (List.ne_nil_of_length_pos (by rw [List.length_take]; omega)), ih]
    show _ = r.getD (if r.getD (maxI r (k + 1)) 0 < r.getD (k + 1) 0 then k + 1 else maxI r (k + 1)) 0
    rw [hg]
    split
    · rw [hg]; omega
    · omega
theorem q0rs (r : List Int) (hr : r.length <= 1000000) (h0 : 0 < r.length) : Pure Try.prog 117 [ints r, .i (maxL r)] (.i (maxI r r.length : Nat)) := by
  refine q0be (by simp) ?_
  simp -implicitDefEqProofs only [go_sem, evR, ints, rows, rat, rats, q04g]
  refine SemC.loopR (σ := Nat) (fun i => St.of [(0, .t (ints r)), (1, .t (.i (maxL r))), (7, .t (.i r.length)), (8, .t (.i i))] []) (fun i => i <= maxI r r.length) (fun i => r.length - i) 0 (Weak.of _ [] [] (by simp) (by simp) ?_ trivial) (by omega) fun i hi R hn hr' he => ?_
  · simp -implicitDefEqProofs only [ints, rows, Nat.reduceBEq, wkR, Nat.reduceEqDiff, ↓reduceIte, wrR]
  · simp -implicitDefEqProofs only [go_sem, evR, ints, rows, rat, rats]
    have hv := q0k0 r r.length (by omega) (by omega)
    rw [List.take_length] at hv
    have hml := q0jx r r.length (Nat.le_refl _) h0
    refine ⟨fun h => ⟨by omega, by omega, by omega, fun x hx => ⟨fun hc => hr' _ ?_, fun hc => ?_⟩⟩, fun h => by omega⟩
    · have hg : r.getD i 0 = x := by rw [List.getD_eq_getElem?_getD, hx]; rfl
      have e : i = maxI r r.length := by
        by_cases hlt : i < maxI r r.length
        · have := q0jw r r.length i hlt
          have hc : maxL r = x := by simpa using hc
          omega
        · omega
      simp -implicitDefEqProofs only [go_sem, evR, ints, rows, rat, rats]
      rw [← e]
    · have hg : r.getD i 0 = x := by rw [List.getD_eq_getElem?_getD, hx]; rfl
      have hne : i ≠ maxI r r.length := by
        intro e
        rw [← e, hg] at hv
        simp [hv] at hc
      refine hn _ (i + 1) (Weak.of _ [] [] (by simp) (by simp) ?_ trivial) (by omega) (by omega)
      simp -implicitDefEqProofs only [ints, rows, Nat.reduceBEq, wkR, Nat.reduceEqDiff, ↓reduceIte, wrR, q0lb (by omega : i < r.length) (by omega)]

def useL (w : List Int) : List Int := if w.sum = 0 then q0mb w else w
theorem q0dr (w : List Int) : ham w = ham1 (useL w) := by unfold ham useL; split <;> rfl
theorem q0x3 (w : List Int) : (useL w).length = w.length := by unfold useL; split <;> simp [q0mb]
theorem q0x5 {w : List Int} (h : q0xj w) : 0 < (useL w).sum := by
  have hs0 := q0ub (w := w) fun x hx => (h.2.2 x hx).1
  have := h.1
  unfold useL; split
  · rw [q0me]; omega
  · omega
theorem q0x4 {w : List Int} (h : q0xj w) : q0xj (useL w) := by
  unfold useL; split
  · exact q0mc h
  · exact h
theorem q094 {α : Type} {l : List α} {f : α -> T} {z : T} {i : Nat} {x : α} (h : l[i]? = some x) : (filled l f z (i + 1))[i]? = some (f x) := by
  obtain ⟨hi, rfl⟩ := List.getElem?_eq_some_iff.1 h
  simp only [filled]
  rw [List.getElem?_append_left (by rw [List.length_map, List.length_take]; omega), List.getElem?_map, List.getElem?_take, if_pos (by omega), List.getElem?_eq_getElem hi]
  rfl
theorem q0ev (w : List Int) (hw : q0xj w) : Fun Try.prog 193 [] [.t (ints w)] fun o r => o = [] /\ r = intsO (ham w) := by
  have hs := q0xk hw
  have hu := q0x4 hw
  have ht := q0x5 hw
  have hul := q0x3 w
  rw [q0dr]
  have hsum0 := q0ub (w := w) fun x hx => (hw.2.2 x hx).1
  have hsum : w.sum <= 1000000000000000 := by have := q0rw hs w.length; rw [List.take_length] at this; omega
  have husum : (useL w).sum <= 1000000000000000 := by have := q0rw (q0xk hu) (useL w).length; rw [List.take_length] at this; omega
  have hql : (quoL (useL w).sum (useL w)).length = w.length := by simp [quoL, hul]
  have hrl : (remL (useL w).sum (useL w)).length = w.length := by simp [remL, hul]
  obtain ⟨hw1, hw2, hw3⟩ := hw
  refine q0al (by simp) ?_
  simp -implicitDefEqProofs only [go_sem, evR, ints, rows, rat, rats, q03n]
  refine q006.pure (q0f1 w hs) [] rfl Try.call200 ?_ (by first | trivial | simp [T.noSh, T.noShL, rat]) rfl ?_
  · simp -implicitDefEqProofs only [agR, Nat.reduceLeDiff, Nat.reduceSub, vaR, go_sem, ints, rows, rat, rats, q0p1, rtR, intsO, q0qa]
  simp -implicitDefEqProofs only [go_sem, evR, ints, rows, rat, rats]
  refine ⟨by omega, by omega, by omega, by omega, ?_⟩
  refine SemC.loopR (σ := Nat) (fun i => St.of [(0, .t (ints w)), (3, .t (.i w.sum)), (4, .own 14), (5, .own 17), (6, .t (.i (60 - ((quoL (useL w).sum (useL w)).take i).sum))), (18, .t (ints w)), (19, .t (.i w.length)), (20, .t (.i i))] [(14, .arr 1 (filled (quoL (useL w).sum (useL w)) T.i (T.i 0) i)), (17, .arr 1 (filled (remL (useL w).sum (useL w)) T.i (T.i 0) i))]) (fun i => i <= w.length) (fun i => w.length - i) 0 (Weak.of _ _ [some 14, some 17] (by simp) (by simp) ?_ ?_) (by omega) fun i hi R hn hr he => ?_
  · simp -implicitDefEqProofs only [ints, rows, Nat.reduceBEq, wkR, Nat.reduceEqDiff, ↓reduceIte, wrR, List.take_zero, List.sum_nil, Int.sub_zero]
  · refine ⟨⟨_, rfl, ?_⟩, rfl, ⟨_, rfl, ?_⟩, rfl, trivial⟩
    · rw [q097, hql, q0jc]; exact .refl _
    · rw [q097, hrl, q0jc]; exact .refl _
  · simp -implicitDefEqProofs only [go_sem, evR, ints, rows, rat, rats]
    refine ⟨fun h => ⟨by omega, by omega, by omega, fun x hx => ?_⟩, fun h => he _ _ ?_⟩
    · have hxb := hw3 x (List.mem_of_getElem? hx)
      obtain ⟨ux, hux⟩ : ∃ y, (useL w)[i]? = some y := ⟨_, List.getElem?_eq_getElem (by omega)⟩
      have hq : (quoL (useL w).sum (useL w))[i]? = some (60 * ux / (useL w).sum) := by rw [quoL, List.getElem?_map, hux]; rfl
      have hr' : (remL (useL w).sum (useL w))[i]? = some (60 * ux % (useL w).sum) := by rw [remL, List.getElem?_map, hux]; rfl
      have hqs := q0oq hu ht
      have hb1 := q0rw hqs i
      have hb2 := q0rw hqs (i + 1)
      have hss := q0ud ((quoL (useL w).sum (useL w)).take i) (60 * ux / (useL w).sum)
      rw [← q0uj hq] at hss
      have hls : IntKind.i64.wrap (60 - ((quoL (useL w).sum (useL w)).take i).sum - 60 * ux / (useL w).sum) = 60 - ((quoL (useL w).sum (useL w)).take (i + 1)).sum := by
        rw [wrap64 (by omega) (by omega), hss]; omega
      have hfq := q096 (f := T.i) (z := T.i 0) hq
      have hfr := q096 (f := T.i) (z := T.i 0) hr'
      have hfl1 := q095 (quoL (useL w).sum (useL w)) T.i (T.i 0) i (by omega)
      have hfl2 := q095 (remL (useL w).sum (useL w)) T.i (T.i 0) i (by omega)
      have hget := q094 (f := T.i) (z := T.i 0) hq
      have hcase : (w.sum = 0 /\ ux = 1 /\ (useL w).sum = w.length) ∨ (w.sum ≠ 0 /\ ux = x /\ (useL w).sum = w.sum) := by
        unfold useL at hux ⊢
        split at hux
        · rename_i h0
          rw [if_pos h0, q0me]
          rw [q0mb, List.getElem?_map, hx] at hux
          exact .inl ⟨h0, by simpa using hux.symm, rfl⟩
        · rename_i h0
          rw [if_neg h0]
          rw [hx] at hux
          exact .inr ⟨h0, by simpa using hux.symm, rfl⟩
      refine ⟨fun h0 => ?_, fun h0 => ?_⟩
      · have h0 : w.sum = 0 := by simpa using h0
        obtain ⟨_, hu1, hu2⟩ := hcase.resolve_right (fun h => h.1 h0)
        have e1 : IntKind.i64.wrap (Int.tdiv 60 (w.length : Int)) = 60 * ux / (useL w).sum := by
          have := Int.ediv_nonneg (a := 60) (b := (w.length : Int)) (by omega) (by omega)
          have := Int.ediv_le_self (a := 60) (w.length : Int) (by omega)
          rw [Int.tdiv_eq_ediv_of_nonneg (by omega), wrap64 (by omega) (by omega), hu1, hu2]; rfl
        have e2 : Int.tmod 60 (w.length : Int) = 60 * ux % (useL w).sum := by
          rw [Int.tmod_eq_emod_of_nonneg (by omega), hu1, hu2]; rfl
        simp only [e1, e2, hfq, hfr]
        refine ⟨by omega, by omega, by omega, by omega, by omega, by omega, by omega, by omega, by omega, by omega, by omega, fun c hc => ?_⟩
        rw [hget] at hc; cases hc
        refine ⟨rfl, rfl, ?_⟩
        simp only [hls]
        refine hn _ (i + 1) (Weak.of _ _ [some 14, some 17] (by simp) (by simp) ?_ ?_) (by omega) (by omega)
        · simp -implicitDefEqProofs only [ints, rows, Nat.reduceBEq, wkR, Nat.reduceEqDiff, ↓reduceIte, wrR, q0lb (by omega : i < w.length) (by omega)]
        · exact ⟨⟨_, rfl, .refl _⟩, rfl, ⟨_, rfl, .refl _⟩, rfl, trivial⟩
      · have h0 : w.sum ≠ 0 := by simpa using h0
        obtain ⟨_, hu1, hu2⟩ := hcase.resolve_left (fun h => h0 h.1)
        have hq1 := Int.ediv_nonneg (a := 60 * x) (b := w.sum) (by omega) (by omega)
        have hq2 : 60 * x / w.sum <= 60 * x := Int.ediv_le_self _ (by omega)
        have e1 : IntKind.i64.wrap ((IntKind.i64.wrap (60 * x)).tdiv w.sum) = 60 * ux / (useL w).sum := by
          rw [wrap64 (n := 60 * x) (by omega) (by omega), Int.tdiv_eq_ediv_of_nonneg (by omega), wrap64 (by omega) (by omega), hu1, hu2]
        have e2 : (IntKind.i64.wrap (60 * x)).tmod w.sum = 60 * ux % (useL w).sum := by
          rw [wrap64 (n := 60 * x) (by omega) (by omega), Int.tmod_eq_emod_of_nonneg (by omega), hu1, hu2]
        simp only [e1, e2, hfq, hfr]
        refine ⟨by omega, by omega, by omega, by omega, by omega, by omega, by omega, by omega, by omega, by omega, by omega, fun c hc => ?_⟩
        rw [hget] at hc; cases hc
        refine ⟨rfl, rfl, ?_⟩
        simp only [hls]
        refine hn _ (i + 1) (Weak.of _ _ [some 14, some 17] (by simp) (by simp) ?_ ?_) (by omega) (by omega)
        · simp -implicitDefEqProofs only [ints, rows, Nat.reduceBEq, wkR, Nat.reduceEqDiff, ↓reduceIte, wrR, q0lb (by omega : i < w.length) (by omega)]
        · exact ⟨⟨_, rfl, .refl _⟩, rfl, ⟨_, rfl, .refl _⟩, rfl, trivial⟩
    · simp -implicitDefEqProofs only [go_sem, evR, ints, rows, rat, rats]
      have f1 : filled (quoL (useL w).sum (useL w)) T.i (T.i 0) i = (quoL (useL w).sum (useL w)).map T.i := by rw [show i = (quoL (useL w).sum (useL w)).length by omega, q093]
      have f2 : filled (remL (useL w).sum (useL w)) T.i (T.i 0) i = (remL (useL w).sum (useL w)).map T.i := by rw [show i = (remL (useL w).sum (useL w)).length by omega, q093]
      have f3 : (quoL (useL w).sum (useL w)).take i = quoL (useL w).sum (useL w) := List.take_of_length_le (by omega)
      rw [f1, f2, f3]
      have hst := q0dq (fun x hx => (hu.2.2 x hx).1) ht
      have hsm := hst.sum
      have hqn := q0ub (w := quoL (useL w).sum (useL w)) fun y hy => by
        obtain ⟨x, hx, rfl⟩ := List.mem_map.1 hy
        exact Int.ediv_nonneg (by have := hu.2.2 x hx; omega) (by omega)
      refine SemC.loopR (σ := Nat × List Int × List Int) (fun s => St.of [(4, .own 14), (5, .own 17), (6, .t (.i s.1))] [(14, .arr 1 (s.2.1.map T.i)), (17, .arr 1 (s.2.2.map T.i))]) (fun s => HamI (useL w) (useL w).sum s.1 s.2.1 s.2.2 /\ q0dn s.1 s.2.1 s.2.2 = ham1 (useL w) /\ s.1 <= 60) (fun s => s.1) ((60 - (quoL (useL w).sum (useL w)).sum).toNat, quoL (useL w).sum (useL w), remL (useL w).sum (useL w)) (Weak.of _ _ [some 14, some 17] (by simp) (by simp) ?_ ?_) ⟨hst, rfl, by simp only []; omega⟩ fun s hI R hn hr he => ?_
      · have e60 : 60 - (quoL (useL w).sum (useL w)).sum = (((60 - (quoL (useL w).sum (useL w)).sum).toNat : Nat) : Int) := by omega
        simp -implicitDefEqProofs only [ints, rows, Nat.reduceBEq, wkR, Nat.reduceEqDiff, ↓reduceIte, wrR, ← e60]
      · exact ⟨⟨_, rfl, .refl _⟩, rfl, ⟨_, rfl, .refl _⟩, rfl, trivial⟩
      · obtain ⟨m, p, r⟩ := s
        obtain ⟨hH, hgo, hm60⟩ := hI
        (try simp only [] at hH hgo hm60)
        have hlp := hH.lp
        have hlr := hH.lr
        simp -implicitDefEqProofs only [go_sem, evR, ints, rows, rat, rats]
        refine ⟨fun h => ?_, fun h => he _ _ ?_⟩
        · obtain ⟨m', rfl⟩ : ∃ m', m = m' + 1 := ⟨m - 1, by omega⟩
          obtain ⟨hb1, hb2⟩ := hH.best ht
          have hnext := hH.step ht
          refine q006.pure (q0rt r (List.ne_nil_of_length_pos (by omega)) (by omega)) [17] rfl Try.call106 ?_ (by first | trivial | simp [T.noSh, T.noShL, rat]) rfl ?_
          · simp -implicitDefEqProofs only [agR, Nat.reduceLeDiff, Nat.reduceSub, vaR, go_sem, ints, rows, rat, rats, q0p1, rtR, intsO, q0qa]
          simp -implicitDefEqProofs only [go_sem, evR, ints, rows, rat, rats]
          refine q006.pure (q0rs r (by omega) (by omega)) [17] rfl Try.call117 ?_ (by first | trivial | simp [T.noSh, T.noShL, rat]) rfl ?_
          · simp -implicitDefEqProofs only [agR, Nat.reduceLeDiff, Nat.reduceSub, vaR, go_sem, ints, rows, rat, rats, q0p1, rtR, intsO, q0qa]
          simp -implicitDefEqProofs only [go_sem, evR, ints, rows, rat, rats]
          have hsm := hH.small ht hb1 (hu.2.2 _ (by rw [List.getD_eq_getElem?_getD, List.getElem?_eq_getElem hb1]; exact List.getElem_mem _))
          refine ⟨by omega, by omega, by omega, fun a ha => ?_⟩
          have hg : p.getD (maxI r r.length) 0 = a := by rw [List.getD_eq_getElem?_getD, ha]; rfl
          rw [hg] at hsm hnext
          rw [wrap64 (n := a + 1) (by omega) (by omega)]
          refine ⟨by omega, by omega, by omega, by omega, by omega, by omega, ?_⟩
          refine hn _ (m', p.set (maxI r r.length) (a + 1), r.set (maxI r r.length) (-1)) (Weak.of _ _ [some 14, some 17] (by simp) (by simp) ?_ ?_) ⟨hnext, by rw [← hgo, q0dn, hg], by simp only []; omega⟩ (by simp only []; omega)
          · have e : IntKind.i64.wrap (((m' + 1 : Nat) : Int) - 1) = (m' : Int) := by rw [wrap64 (by omega) (by omega)]; omega
            simp -implicitDefEqProofs only [ints, rows, Nat.reduceBEq, wkR, Nat.reduceEqDiff, ↓reduceIte, wrR, e]
          · refine ⟨⟨_, rfl, ?_⟩, rfl, ⟨_, rfl, ?_⟩, rfl, trivial⟩
            · rw [List.map_set]; exact .refl _
            · rw [List.map_set]; exact .refl _
        · simp -implicitDefEqProofs only [go_sem, evR, ints, rows, rat, rats]
          have hm0 : m = 0 := by omega
          subst hm0
          rw [← hgo, q0dn]; rfl
end Go.Ab

/- The bridge, part 4: games, strategies and claims as arguments. -/
namespace Go.Ab

def q0q9 (m : List (List Int)) : Prop := m.length <= 9223372036854775807 /\ ∀ r ∈ m, r.length <= 9223372036854775807
def q0cf (g : Gm) : Prop := g.nd.length <= 9223372036854775807 /\ (∀ x ∈ g.nd, x.ch.length <= 9223372036854775807) /\ q0q9 g.w /\ q0q9 g.v
def q0ck (g : Gm) : T := .agg [nodes g.nd, rows g.w, rows g.v]
def q0tu (s : Int × List (List Int)) : T := .agg [.i s.1, rows s.2]
structure Cl where
  f : Int × List (List Int)
  s : Int × List (List Int)
  lo : Int
  hi : Int
deriving DecidableEq
end Go.Ab

/- Contracts: increasing numbers, depths of trees. -/
namespace Go.Ab
open Go.Proofs

theorem q0fb {l : List Int} : incr l = true ↔ ∀ i, i + 1 < l.length -> l.getD i 0 < l.getD (i + 1) 0 := by
  induction l with
  | nil => simp [incr]
  | cons a l ih =>
    cases l with
    | nil => simp [incr]
    | cons b l =>
      rw [incr, Bool.and_eq_true, decide_eq_true_eq, ih]
      constructor
      · rintro ⟨h1, h2⟩ i hi
        cases i with
        | zero => simpa using h1
        | succ i => simpa using h2 i (by simpa using hi)
      · intro h
        refine ⟨by simpa using h 0 (by simp), fun i hi => ?_⟩
        simpa using h (i + 1) (by simpa using hi)
theorem q0cr {l : List Int} {i : Nat} {x : Int} (h : l[i]? = some x) : l.getD i 0 = x := by rw [List.getD_eq_getElem?_getD, h]; rfl
theorem q0l1 {l : List Nd} {i : Nat} {x : Nd} (h : l[i]? = some x) : l.getD i nd0 = x := by rw [List.getD_eq_getElem?_getD, h]; rfl
theorem q0oc {i : Nat} (h : 1 <= i) (hi : i <= 1000000000000) : IntKind.i64.wrap ((i : Int) - 1) = ((i - 1 : Nat) : Int) := by rw [wrap64 (by omega) (by omega)]; omega

theorem q0en (l : List Int) (hl : l.length <= 1000000000000) : Pure Try.prog 212 [ints l] (.b (incr l)) := by
  refine q0ag (by simp) ?_
  simp -implicitDefEqProofs only [go_sem, evR, ints, rows, rat, rats, q03i]
  refine SemC.loopR (σ := Nat) (fun i => St.of [(0, .t (ints l)), (3, .t (.i i))] []) (fun i => 1 <= i /\ ∀ j, j + 1 < i -> j + 1 < l.length -> l.getD j 0 < l.getD (j + 1) 0) (fun i => l.length - i) 1 (Weak.of _ [] [] (by simp) (by simp) ?_ trivial) ⟨by omega, fun j hj => by omega⟩ fun i hI R hn hr he => ?_
  · simp -implicitDefEqProofs only [ints, rows, wkR, Nat.reduceEqDiff, ↓reduceIte]
  · simp -implicitDefEqProofs only [go_sem, evR, ints, rows, rat, rats]
    refine ⟨fun h => ?_, fun h => he _ _ ?_⟩
    · have hil : i < l.length := by omega
      rw [q0oc hI.1 (by omega)]
      obtain ⟨x, hx⟩ : ∃ x, l[i - 1]? = some x := ⟨_, List.getElem?_eq_getElem (by omega)⟩
      obtain ⟨y, hy⟩ : ∃ y, l[i]? = some y := ⟨_, List.getElem?_eq_getElem (by omega)⟩
      simp -implicitDefEqProofs only [go_sem, evR, ints, rows, rat, rats, hx, hy, q0ve]
      refine ⟨by omega, by omega, by omega, by omega, by omega, by omega, fun h1 => hr _ ?_, fun h1 => hn _ (i + 1) (Weak.of _ [] [] (by simp) (by simp) ?_ trivial) ⟨by omega, fun j hj hjl => ?_⟩ (by omega)⟩
      · simp -implicitDefEqProofs only [go_sem, evR, ints, rows, rat, rats]
        have : incr l = false := by
          cases hc : incr l with
          | false => rfl
          | true =>
            have := q0fb.1 hc (i - 1) (by omega)
            rw [show i - 1 + 1 = i by omega, q0cr hx, q0cr hy] at this
            omega
        rw [this]
      · simp -implicitDefEqProofs only [ints, rows, wkR, Nat.reduceEqDiff, ↓reduceIte, q0lb hil hl]
      · by_cases hji : j + 1 = i
        · have e : j = i - 1 := by omega
          rw [hji, e, q0cr hx, q0cr hy]; omega
        · exact hI.2 j (by omega) hjl
    · simp -implicitDefEqProofs only [go_sem, evR, ints, rows, rat, rats]
      have : incr l = true := q0fb.2 fun j hj => hI.2 j (by omega) hj
      rw [this]

theorem q0s6 (l : List Int) (n : Nat) (hl : l.length <= 1000000000000) (hn0 : n <= 1000000000000) : Pure Try.prog 228 [ints l, .i n] (.b (rises n l)) := by
  have hw : IntKind.i64.wrap ((n : Int) - 1) = (n : Int) - 1 := wrap64 (by omega) (by omega)
  refine q0bm (by simp) ?_
  simp -implicitDefEqProofs only [go_sem, evR, ints, rows, rat, rats, q04o]
  refine SemC.loopR (σ := Nat) (fun i => St.of [(0, .t (ints l)), (1, .t (.i n)), (5, .t (.i i))] []) (fun i => i <= l.length /\ (∀ c ∈ l.take i, 0 <= c /\ c <= (n : Int) - 1) /\ ∀ j, j + 1 < i -> j + 1 < l.length -> l.getD j 0 < l.getD (j + 1) 0) (fun i => l.length - i) 0 (Weak.of _ [] [] (by simp) (by simp) ?_ trivial) ⟨by simp, by simp, fun j hj => by omega⟩ fun i hI R hn hr he => ?_
  · simp -implicitDefEqProofs only [ints, rows, wkR, Nat.reduceEqDiff, ↓reduceIte]
  · obtain ⟨hi, h2, h3⟩ := hI
    simp -implicitDefEqProofs only [go_sem, evR, ints, rows, rat, rats, hw]
    refine ⟨fun h => ?_, fun h => he _ _ ?_⟩
    · have hil : i < l.length := by omega
      obtain ⟨y, hy⟩ : ∃ y, l[i]? = some y := ⟨_, List.getElem?_eq_getElem hil⟩
      refine ⟨by omega, by omega, by omega, fun y' hy' => ?_⟩
      rw [hy] at hy'; cases hy'
      refine q004.pure (q0s4 y 0 ((n : Int) - 1)) [] rfl Try.call148 (fun e R' hR => ?_) (by first | trivial | simp [T.noSh, T.noShL, rat]) (fun _ => rfl) ?_
      · simp -implicitDefEqProofs only [agR, Nat.reduceLeDiff, Nat.reduceSub, vaR, go_sem, ints, rows, rat, rats, q0p1, rtR, intsO, q0qa]
      simp -implicitDefEqProofs only [go_sem, evR, ints, rows, rat, rats]
      have next : 0 <= y /\ y <= (n : Int) - 1 -> ∀ c ∈ l.take (i + 1), 0 <= c /\ c <= (n : Int) - 1 := fun hy1 c hc => by
        rw [List.take_add_one, hy] at hc
        rcases List.mem_append.1 hc with hc | hc
        · exact h2 c hc
        · simp at hc; rw [hc]; exact hy1
      refine ⟨fun h1 => ⟨fun h4 => ?_, fun h4 => ?_⟩, fun h1 => hr _ ?_⟩
      · have h1 : 0 <= y /\ y <= (n : Int) - 1 := by simpa using h1
        have hi1 : 1 <= i := by omega
        obtain ⟨x, hx⟩ : ∃ x, l[i - 1]? = some x := ⟨_, List.getElem?_eq_getElem (by omega)⟩
        rw [q0oc hi1 (by omega)]
        simp -implicitDefEqProofs only [go_sem, evR, ints, rows, rat, rats, hx, hy, q0ve]
        refine ⟨by omega, by omega, by omega, by omega, by omega, by omega, fun h5 => hr _ ?_, fun h5 => hn _ (i + 1) (Weak.of _ [] [] (by simp) (by simp) ?_ trivial) ⟨by omega, next h1, fun j hj hjl => ?_⟩ (by omega)⟩
        · simp -implicitDefEqProofs only [go_sem, evR, ints, rows, rat, rats]
          have : rises n l = false := by
            cases hc : rises n l with
            | false => rfl
            | true =>
              rw [rises, Bool.and_eq_true] at hc
              have := q0fb.1 hc.2 (i - 1) (by omega)
              rw [show i - 1 + 1 = i by omega, q0cr hx, q0cr hy] at this
              omega
          rw [this]
        · simp -implicitDefEqProofs only [ints, rows, wkR, Nat.reduceEqDiff, ↓reduceIte, q0lb hil hl]
        · by_cases hji : j + 1 = i
          · have e : j = i - 1 := by omega
            rw [hji, e, q0cr hx, q0cr hy]; omega
          · exact h3 j (by omega) hjl
      · have h1 : 0 <= y /\ y <= (n : Int) - 1 := by simpa using h1
        refine hn _ (i + 1) (Weak.of _ [] [] (by simp) (by simp) ?_ trivial) ⟨by omega, next h1, fun j hj hjl => h3 j (by omega) hjl⟩ (by omega)
        simp -implicitDefEqProofs only [ints, rows, wkR, Nat.reduceEqDiff, ↓reduceIte, q0lb hil hl]
      · simp -implicitDefEqProofs only [go_sem, evR, ints, rows, rat, rats]
        have h1 : ¬ (0 <= y /\ y <= (n : Int) - 1) := by
          have h1 : y < 0 ∨ (n : Int) - 1 < y := by simpa using h1
          omega
        have : rises n l = false := by
          cases hc : rises n l with
          | false => rfl
          | true =>
            rw [rises, Bool.and_eq_true, List.all_eq_true] at hc
            have := hc.1 y (List.mem_of_getElem? hy)
            exact absurd (by simpa using this) h1
        rw [this]
    · simp -implicitDefEqProofs only [go_sem, evR, ints, rows, rat, rats]
      have : rises n l = true := by
        rw [rises, Bool.and_eq_true, List.all_eq_true]
        refine ⟨fun c hc => by have := h2 c (by rw [List.take_of_length_le (by omega)]; exact hc); simpa using this, q0fb.2 fun j hj => h3 j (by omega) hj⟩
      rw [this]

def depI (l : List Nd) (f : Nat) (cs : List Int) : Int := cs.foldl (fun d c => max d (dep l f c.toNat)) 0
theorem q07v (l : List Nd) (f : Nat) (cs : List Int) (c : Int) : depI l f (cs ++ [c]) = max (depI l f cs) (dep l f c.toNat) := by simp [depI, List.foldl_append]
theorem q07u (l : List Nd) (f : Nat) : ∀ cs : List Int, 0 <= depI l f cs /\ depI l f cs <= f := by
  intro cs
  have key : ∀ (cs : List Int) (d : Int), 0 <= d /\ d <= f -> 0 <= cs.foldl (fun d c => max d (dep l f c.toNat)) d /\ cs.foldl (fun d c => max d (dep l f c.toNat)) d <= f := by
    intro cs
    induction cs with
    | nil => intro d h; exact h
    | cons c cs ih =>
      intro d h
      rw [List.foldl_cons]
      have := q07x (l := l) f c.toNat
      exact ih _ (by omega)
  exact key cs 0 (by omega)
theorem q07z {l : List Nd} {f i : Nat} {x : Nd} (hx : l[i]? = some x) : dep l (f + 1) i = if x.p = 2 then 0 else depI l f x.ch + 1 := by
  have := q0l1 hx
  unfold nd0 at this
  rw [dep, this]; rfl

theorem q0ek {l : List Nd} (hl : q0l2 l) (hln : l.length <= 1000000) : ∀ (f i : Nat), l.length <= i + f -> i < l.length -> f <= 1000000 -> Pure Try.prog 164 [q0vz l, .i i] (.i (dep l f i)) := by
  intro f
  induction f with
  | zero => intro i h1 h2; omega
  | succ f ih =>
    intro i h1 h2 hf
    obtain ⟨x, hx⟩ : ∃ x, l[i]? = some x := ⟨_, List.getElem?_eq_getElem h2⟩
    rw [q07z hx]
    refine q0ad (by simp) ?_
    simp -implicitDefEqProofs only [go_sem, evR, ints, rows, rat, rats, q03f, q0vz, nodes, q0kw hx]
    refine ⟨by omega, by rw [q0l0]; omega, by rw [q0l0]; omega, ?_⟩
    refine ⟨fun h => ?_, fun h => ?_⟩
    · rw [if_pos (by simpa using h)]
    · have hp : x.p ≠ 2 := by simpa using h
      rw [if_neg hp]
      have hch := q0kp (hl i x hx)
      have hcl := (q0ks (hl i x hx)).2.2.2.2.2
      refine SemC.loopR (σ := Nat) (fun k => St.of [(2, .own 2), (6, .t (.i (depI l f (x.ch.take k)))), (18, .t (ints x.ch)), (19, .t (.i x.ch.length)), (20, .t (.i k))] [(2, .box [nodes l])]) (fun k => k <= x.ch.length) (fun k => x.ch.length - k) 0 (Weak.of _ _ [some 2] (by simp) (by simp) ?_ ?_) (by simp) fun k hk R hn hr he => ?_
      · simp -implicitDefEqProofs only [ints, rows, Nat.reduceBEq, wkR, Nat.reduceEqDiff, ↓reduceIte, wrR, depI, List.take_zero, List.foldl_nil]
      · exact ⟨⟨_, rfl, .refl _⟩, rfl, trivial⟩
      · simp -implicitDefEqProofs only [go_sem, evR, ints, rows, rat, rats, nodes]
        refine ⟨fun h => ⟨by omega, by omega, by omega, fun c hc => ?_⟩, fun h => he _ _ ?_⟩
        · have hcb := hch c (List.mem_of_getElem? hc)
          have hpure := ih c.toNat (by omega) (by omega) (by omega)
          rw [show ((c.toNat : Nat) : Int) = c by omega] at hpure
          simp only [q0vz, nodes] at hpure
          refine q006.pure hpure [] rfl Try.call164 ?_ (by first | trivial | simp [T.noSh, T.noShL, rat]) rfl ?_
          · simp -implicitDefEqProofs only [agR, Nat.reduceLeDiff, Nat.reduceSub, vaR, go_sem, ints, rows, rat, rats, q0p1, rtR, intsO, q0qa]
          simp -implicitDefEqProofs only [go_sem, evR, ints, rows, rat, rats, q0vz, nodes]
          have e := q07v l f (x.ch.take k) c
          rw [← q0uj hc] at e
          refine hn _ (k + 1) (Weak.of _ _ [some 2] (by simp) (by simp) ?_ ?_) (by omega) (by omega)
          · simp -implicitDefEqProofs only [ints, rows, Nat.reduceBEq, wkR, Nat.reduceEqDiff, ↓reduceIte, wrR, q0lb (by omega : k < x.ch.length) (by omega), e]
          · exact ⟨⟨_, rfl, .refl _⟩, rfl, trivial⟩
        · simp -implicitDefEqProofs only [go_sem, evR, ints, rows, rat, rats]
          have hb := q07u l f x.ch
          rw [show k = x.ch.length by omega, List.take_length, wrap64 (by omega) (by omega)]

theorem q0s8 {l : List Nd} (hl : q0l2 l) (hln : l.length <= 1000000) : ∀ (f i : Nat), l.length <= i + f -> i < l.length -> f <= 1000000 -> Pure Try.prog 158 [q0vz l, .i i] (.i (dep l f i)) := by
  intro f
  induction f with
  | zero => intro i h1 h2; omega
  | succ f ih =>
    intro i h1 h2 hf
    obtain ⟨x, hx⟩ : ∃ x, l[i]? = some x := ⟨_, List.getElem?_eq_getElem h2⟩
    rw [q07z hx]
    refine q0bo (by simp) ?_
    simp -implicitDefEqProofs only [go_sem, evR, ints, rows, rat, rats, q04q, q0vz, nodes, q0kw hx]
    refine ⟨by omega, by rw [q0l0]; omega, by rw [q0l0]; omega, ?_⟩
    refine ⟨fun h => ?_, fun h => ?_⟩
    · rw [if_pos (by simpa using h)]
    · have hp : x.p ≠ 2 := by simpa using h
      rw [if_neg hp]
      have hch := q0kp (hl i x hx)
      have hcl := (q0ks (hl i x hx)).2.2.2.2.2
      refine SemC.loopR (σ := Nat) (fun k => St.of [(2, .own 2), (5, .own 5), (6, .t (.i (depI l f (x.ch.take k)))), (7, .t (.i k))] [(2, .box [nodes l]), (5, .box [.i x.p, .i x.a, .i x.b, .i x.f, ints x.ch])]) (fun k => k <= x.ch.length) (fun k => x.ch.length - k) 0 (Weak.of _ _ [some 2, some 5] (by simp) (by simp) ?_ ?_) (by simp) fun k hk R hn hr he => ?_
      · simp -implicitDefEqProofs only [ints, rows, Nat.reduceBEq, wkR, Nat.reduceEqDiff, ↓reduceIte, wrR, depI, List.take_zero, List.foldl_nil]
      · exact ⟨⟨_, rfl, .refl _⟩, rfl, ⟨_, rfl, .refl _⟩, rfl, trivial⟩
      · simp -implicitDefEqProofs only [go_sem, evR, ints, rows, rat, rats, nodes]
        refine ⟨fun h => ⟨by omega, by omega, by omega, fun c hc => ?_⟩, fun h => he _ _ ?_⟩
        · have hcb := hch c (List.mem_of_getElem? hc)
          have hpure := ih c.toNat (by omega) (by omega) (by omega)
          rw [show ((c.toNat : Nat) : Int) = c by omega] at hpure
          simp only [q0vz, nodes] at hpure
          refine q004.pure hpure [] rfl Try.call158 (fun e R' hR => ?_) (by first | trivial | simp [T.noSh, T.noShL, rat]) (fun _ => rfl) ?_
          · simp -implicitDefEqProofs only [agR, Nat.reduceLeDiff, Nat.reduceSub, vaR, go_sem, ints, rows, rat, rats, q0p1, rtR, intsO, q0qa]
          simp -implicitDefEqProofs only [go_sem, evR, ints, rows, rat, rats, q0vz, nodes]
          have e := q07v l f (x.ch.take k) c
          rw [← q0uj hc] at e
          refine hn _ (k + 1) (Weak.of _ _ [some 2, some 5] (by simp) (by simp) ?_ ?_) (by omega) (by omega)
          · simp -implicitDefEqProofs only [ints, rows, Nat.reduceBEq, wkR, Nat.reduceEqDiff, ↓reduceIte, wrR, q0lb (by omega : k < x.ch.length) (by omega), e]
          · exact ⟨⟨_, rfl, .refl _⟩, rfl, ⟨_, rfl, .refl _⟩, rfl, trivial⟩
        · simp -implicitDefEqProofs only [go_sem, evR, ints, rows, rat, rats]
          have hb := q07u l f x.ch
          rw [show k = x.ch.length by omega, List.take_length, wrap64 (by omega) (by omega)]
end Go.Ab
