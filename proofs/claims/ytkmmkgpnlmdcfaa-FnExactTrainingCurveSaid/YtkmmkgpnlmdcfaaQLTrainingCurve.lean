/- The program's TrainingCurve returns what the reference's returns, for all arguments, and keeps its arguments (and its earlier result): the law FnExactTrainingCurve returns true for every input. No conditions. -/
import Derived.Test.YtkmmkgpnlmdcfaaRows
import Derived.Test.YtkmmkgpnlmdcfaaQ6
set_option linter.unusedSimpArgs false
set_option linter.unusedVariables false
set_option maxRecDepth 20000
/- Functions in compact form, with hints. -/
namespace Go.Ab
open Go.Proofs

def q05a : CC :=
 (.seq (.reg [.o (.box 2 (sl 0)),
 .o (.move 4 (cv (.slice none 0 0)))])
 ((.seq (.reg [.o (.loadN 10 3 (sl 2)),
 .o (.call (some 11) (cf 168) [(sl 10)]),
 .o (.move 5 (sl 11))])
 ((.seq (.reg [.o (.bslice 12 1 0 []),
 .o (.move 6 (sl 12))])
 ((.seq (.seq (.reg [.o (.move 7 (ci 0))])
 ((.block 0 (.loop (.seq (.seq (.reg [.o (.move 13 (sl 7)),
 .o (.move 14 (sl 1)),
 .o (.bin 15 .leq (sl 13) (sl 14))])
 ((.cond (sl 15) .skip
 (.exit 0))))
 ((.seq (.block 1 (.seq (.seq (.reg [.o (.move 18 (sl 7)),
 .o (.bin 19 .gtr (sl 18) (ci 0))])
 ((.cond (sl 19) (.reg [.o (.move 20 (sl 5)),
 .o (.call (some 21) (cf 169) [(sl 20)])])
 .skip)))
 ((.seq (.weak (.draw [30, 37] [(kR, .o (.loadN 23 3 (sl 2))),
 (kR, .o (.move 24 (sl 5))),
 (kR, .o (.nilc 25 (sl 24))),
 (kR, .o (.fld 26 4 (sl 25))),
 (kR, .o (.load1 27 (sl 26))),
 (kR, .o (.idx 28 1 (sl 27) (ci 0))),
 (kR, .o (.load1 29 (sl 28))),
 (.c false [], .o (.call (some 30) (cf 111) [(ci 0), (sl 29)])),
 (.r false [30], .o (.move 31 (sl 5))),
 (.r false [30], .o (.nilc 32 (sl 31))),
 (.r false [30], .o (.fld 33 4 (sl 32))),
 (.r false [30], .o (.load1 34 (sl 33))),
 (.r false [30], .o (.idx 35 1 (sl 34) (ci 1))),
 (.r false [30], .o (.load1 36 (sl 35))),
 (.c false [], .o (.call (some 37) (cf 111) [(ci 1), (sl 36)])),
 (kR, .o (.call (some 38) (cf 124) [(sl 23), (sl 30), (sl 37)])),
 (kR, .o (.move 22 (sl 38))),
 (kR, .o (.extract 39 (sl 22) 0)),
 (kR, .o (.extract 40 (sl 22) 1)),
 (kR, .o (.move 8 (sl 39))),
 (kR, .o (.move 9 (sl 40)))]))
 ((.reg [.o (.move 41 (sl 6)),
 .o (.move 42 (sl 8)),
 .o (.move 43 (sl 9)),
 .o (.bin 44 .add (sl 42) (sl 43)),
 .o (.bslice 45 1 1 [(0, (sl 44))]),
 .o (.app 46 1 8 (sl 41) (sl 45)),
 .o (.move 6 (sl 46))]))))))
 ((.reg [.o (.move 16 (sl 7)),
 .o (.bin 17 .add (sl 16) (ci 1)),
 .o (.move 7 (sl 17))])))))))))
 ((.seq (.reg [.o (.move 47 (sl 6)),
 .o (.move 4 (sl 47))])
 (.ret))))))))))
theorem q0c8 {rin : List T} {args : List A} {Q : List T -> T -> Prop} (ha : args.length <= 48) (h : cW Try.prog 48 q05a (retP Try.prog [.tmp 4] rin.length Q) (St.of (enum 0 args) (enum 1000000000 rin))) :
    Fun Try.prog 114 rin args Q :=
  Fun.of (H := ⟨[], [8]⟩) Try.func114 rfl rfl rfl (by kernel_rfl) ha (by decide) h

def q05e : CC :=
 (.seq (.weak (.draw [19, 26, 2, 3] [(kR, .o (.move 13 (sl 0))),
 (kR, .o (.nilc 14 (sl 13))),
 (kR, .o (.fld 15 3 (sl 14))),
 (kR, .o (.load1 16 (sl 15))),
 (kR, .o (.idx 17 1 (sl 16) (ci 0))),
 (kR, .o (.load1 18 (sl 17))),
 (.c false [], .o (.call (some 19) (cf 111) [(ci 0), (sl 18)])),
 (.r false [19], .o (.move 20 (sl 0))),
 (.r false [19], .o (.nilc 21 (sl 20))),
 (.r false [19], .o (.fld 22 3 (sl 21))),
 (.r false [19], .o (.load1 23 (sl 22))),
 (.r false [19], .o (.idx 24 1 (sl 23) (ci 1))),
 (.r false [19], .o (.load1 25 (sl 24))),
 (.c false [], .o (.call (some 26) (cf 111) [(ci 1), (sl 25)])),
 (kN, .o (.alloc 2 [.v (.int .i64 0), .v (.slice none 0 0)])),
 (kN, .o (.alloc 3 [.v (.int .i64 0), .v (.slice none 0 0)])),
 (kH, .o (.store 2 (sl 2) (sl 19))),
 (kH, .o (.store 2 (sl 3) (sl 26)))]))
 ((.seq (.weak (.reg [.o (.move 4 (ci 0))]))
 ((.block 0 (.loop (.seq (.seq (.reg [.o (.move 27 (sl 4)),
 .o (.bin 28 .lss (sl 27) (ci 2))])
 ((.cond (sl 28) .skip
 (.exit 0))))
 ((.seq (.block 1 (.seq (.reg [.o (.loadN 31 2 (sl 2)),
 .o (.alloc 5 [.v (.int .i64 0), .v (.slice none 0 0)]),
 .o (.store 2 (sl 5) (sl 31))])
 ((.seq (.seq (.reg [.o (.move 32 (sl 4)),
 .o (.bin 33 .eql (sl 32) (ci 1))])
 ((.cond (sl 33) (.reg [.o (.loadN 34 2 (sl 3)),
 .o (.store 2 (sl 5) (sl 34))])
 .skip)))
 ((.seq (.reg [.o (.move 35 (sl 0)),
 .o (.nilc 36 (sl 35)),
 .o (.fld 37 0 (sl 36)),
 .o (.loadN 38 3 (sl 37)),
 .o (.move 39 (sl 4)),
 .o (.call (some 40) (cf 186) [(sl 38), (sl 39)]),
 .o (.move 6 (sl 40))])
 ((.seq (.reg [.o (.move 7 (ci 0))])
 ((.block 2 (.loop (.seq (.seq (.reg [.o (.move 41 (sl 7)),
 .o (.move 42 (sl 6)),
 .o (.lenS 43 (sl 42)),
 .o (.bin 44 .lss (sl 41) (sl 43))])
 ((.cond (sl 44) .skip
 (.exit 2))))
 ((.seq (.block 3 (.seq (.draw [66] [(kR, .o (.move 47 (sl 0))),
 (kR, .o (.nilc 48 (sl 47))),
 (kR, .o (.fld 49 0 (sl 48))),
 (kR, .o (.loadN 50 3 (sl 49))),
 (kR, .o (.loadN 51 2 (sl 2))),
 (kR, .o (.loadN 52 2 (sl 3))),
 (kR, .o (.move 53 (sl 4))),
 (kR, .o (.move 54 (sl 6))),
 (kR, .o (.move 55 (sl 7))),
 (kR, .o (.idx 56 1 (sl 54) (sl 55))),
 (kR, .o (.load1 57 (sl 56))),
 (kR, .o (.idx 58 1 (sl 57) (ci 0))),
 (kR, .o (.load1 59 (sl 58))),
 (kR, .o (.move 60 (sl 6))),
 (kR, .o (.move 61 (sl 7))),
 (kR, .o (.idx 62 1 (sl 60) (sl 61))),
 (kR, .o (.load1 63 (sl 62))),
 (kR, .o (.idx 64 1 (sl 63) (ci 1))),
 (kR, .o (.load1 65 (sl 64))),
 (.c false [], .o (.call (some 66) (cf 208) [(sl 50), (sl 51), (sl 52), (sl 53), (sl 59), (sl 65)])),
 (kR, .o (.move 8 (sl 66)))])
 ((.seq (.reg [.o (.move 9 (ci 0))])
 ((.seq (.seq (.reg [.o (.move 10 (ci 0))])
 ((.block 4 (.loop (.seq (.seq (.reg [.o (.move 67 (sl 10)),
 .o (.move 68 (sl 8)),
 .o (.lenS 69 (sl 68)),
 .o (.bin 70 .lss (sl 67) (sl 69))])
 ((.cond (sl 70) .skip
 (.exit 4))))
 ((.seq (.block 5 (.draw [] [(kR, .o (.move 73 (sl 9))),
 (kR, .o (.fld 74 1 (sl 5))),
 (kR, .o (.load1 75 (sl 74))),
 (kR, .o (.move 76 (sl 7))),
 (kR, .o (.idx 77 1 (sl 75) (sl 76))),
 (kR, .o (.load1 78 (sl 77))),
 (kR, .o (.move 79 (sl 10))),
 (kR, .o (.idx 80 1 (sl 78) (sl 79))),
 (kR, .o (.load1 81 (sl 80))),
 (kR, .o (.move 82 (sl 8))),
 (kR, .o (.move 83 (sl 10))),
 (kR, .o (.idx 84 1 (sl 82) (sl 83))),
 (kR, .o (.load1 85 (sl 84))),
 (kR, .o (.bin 86 .mul (sl 81) (sl 85))),
 (kR, .o (.bin 87 .add (sl 73) (sl 86))),
 (kR, .o (.move 9 (sl 87)))]))
 ((.reg [.o (.move 71 (sl 10)),
 .o (.bin 72 .add (sl 71) (ci 1)),
 .o (.move 10 (sl 72))])))))))))
 ((.seq (.draw [] [(kR, .o (.move 88 (sl 0))),
 (kR, .o (.nilc 89 (sl 88))),
 (kR, .o (.fld 90 0 (sl 89))),
 (kR, .o (.loadN 91 3 (sl 90))),
 (kR, .o (.loadN 92 2 (sl 5))),
 (kR, .o (.move 93 (sl 6))),
 (kR, .o (.move 94 (sl 7))),
 (kR, .o (.idx 95 1 (sl 93) (sl 94))),
 (kR, .o (.load1 96 (sl 95))),
 (kR, .o (.idx 97 1 (sl 96) (ci 0))),
 (kR, .o (.load1 98 (sl 97))),
 (kR, .o (.move 99 (sl 6))),
 (kR, .o (.move 100 (sl 7))),
 (kR, .o (.idx 101 1 (sl 99) (sl 100))),
 (kR, .o (.load1 102 (sl 101))),
 (kR, .o (.idx 103 1 (sl 102) (ci 1))),
 (kR, .o (.load1 104 (sl 103))),
 (kR, .o (.call (some 105) (cf 209) [(sl 91), (sl 92), (sl 98), (sl 104)])),
 (kR, .o (.move 11 (sl 105)))])
 ((.seq (.reg [.o (.move 12 (ci 0))])
 ((.block 6 (.loop (.seq (.seq (.reg [.o (.move 106 (sl 12)),
 .o (.move 107 (sl 8)),
 .o (.lenS 108 (sl 107)),
 .o (.bin 109 .lss (sl 106) (sl 108))])
 ((.cond (sl 109) .skip
 (.exit 6))))
 ((.seq (.block 7 (.seq (.weak (.draw [] [(kR, .o (.move 112 (sl 0))),
 (kR, .o (.nilc 113 (sl 112))),
 (kR, .o (.fld 114 3 (sl 113))),
 (kR, .o (.load1 115 (sl 114))),
 (kR, .o (.move 116 (sl 4))),
 (kR, .o (.idx 117 1 (sl 115) (sl 116))),
 (kR, .o (.load1 118 (sl 117))),
 (kR, .o (.move 119 (sl 7))),
 (kR, .o (.idx 120 1 (sl 118) (sl 119))),
 (kR, .o (.load1 121 (sl 120))),
 (kR, .o (.move 122 (sl 12))),
 (kR, .o (.move 123 (sl 0))),
 (kR, .o (.nilc 124 (sl 123))),
 (kR, .o (.fld 125 3 (sl 124))),
 (kR, .o (.load1 126 (sl 125))),
 (kR, .o (.move 127 (sl 4))),
 (kR, .o (.idx 128 1 (sl 126) (sl 127))),
 (kR, .o (.load1 129 (sl 128))),
 (kR, .o (.move 130 (sl 7))),
 (kR, .o (.idx 131 1 (sl 129) (sl 130))),
 (kR, .o (.load1 132 (sl 131))),
 (kR, .o (.move 133 (sl 12))),
 (kR, .o (.idx 134 1 (sl 132) (sl 133))),
 (kR, .o (.load1 135 (sl 134))),
 (kR, .o (.move 136 (sl 8))),
 (kR, .o (.move 137 (sl 12))),
 (kR, .o (.idx 138 1 (sl 136) (sl 137))),
 (kR, .o (.load1 139 (sl 138))),
 (kR, .o (.bin 140 .mul (ci 60) (sl 139))),
 (kR, .o (.bin 141 .add (sl 135) (sl 140))),
 (kR, .o (.move 142 (sl 9))),
 (kR, .o (.bin 143 .sub (sl 141) (sl 142))),
 (kR, .o (.idx 144 1 (sl 121) (sl 122))),
 (kH, .o (.store 1 (sl 144) (sl 143)))]))
 ((.weak (.draw [] [(kR, .o (.move 145 (sl 0))),
 (kR, .o (.nilc 146 (sl 145))),
 (kR, .o (.fld 147 4 (sl 146))),
 (kR, .o (.load1 148 (sl 147))),
 (kR, .o (.move 149 (sl 4))),
 (kR, .o (.idx 150 1 (sl 148) (sl 149))),
 (kR, .o (.load1 151 (sl 150))),
 (kR, .o (.move 152 (sl 7))),
 (kR, .o (.idx 153 1 (sl 151) (sl 152))),
 (kR, .o (.load1 154 (sl 153))),
 (kR, .o (.move 155 (sl 12))),
 (kR, .o (.move 156 (sl 0))),
 (kR, .o (.nilc 157 (sl 156))),
 (kR, .o (.fld 158 4 (sl 157))),
 (kR, .o (.load1 159 (sl 158))),
 (kR, .o (.move 160 (sl 4))),
 (kR, .o (.idx 161 1 (sl 159) (sl 160))),
 (kR, .o (.load1 162 (sl 161))),
 (kR, .o (.move 163 (sl 7))),
 (kR, .o (.idx 164 1 (sl 162) (sl 163))),
 (kR, .o (.load1 165 (sl 164))),
 (kR, .o (.move 166 (sl 12))),
 (kR, .o (.idx 167 1 (sl 165) (sl 166))),
 (kR, .o (.load1 168 (sl 167))),
 (kR, .o (.move 169 (sl 11))),
 (kR, .o (.fld 170 1 (sl 5))),
 (kR, .o (.load1 171 (sl 170))),
 (kR, .o (.move 172 (sl 7))),
 (kR, .o (.idx 173 1 (sl 171) (sl 172))),
 (kR, .o (.load1 174 (sl 173))),
 (kR, .o (.move 175 (sl 12))),
 (kR, .o (.idx 176 1 (sl 174) (sl 175))),
 (kR, .o (.load1 177 (sl 176))),
 (kR, .o (.bin 178 .mul (sl 169) (sl 177))),
 (kR, .o (.bin 179 .add (sl 168) (sl 178))),
 (kR, .o (.idx 180 1 (sl 154) (sl 155))),
 (kH, .o (.store 1 (sl 180) (sl 179)))])))))
 ((.weak (.reg [.o (.move 110 (sl 12)),
 .o (.bin 111 .add (sl 110) (ci 1)),
 .o (.move 12 (sl 111))])))))))))))))))))))
 ((.reg [.o (.move 45 (sl 7)),
 .o (.bin 46 .add (sl 45) (ci 1)),
 .o (.move 7 (sl 46))]))))))))))))))))
 ((.reg [.o (.move 29 (sl 4)),
 .o (.bin 30 .add (sl 29) (ci 1)),
 .o (.move 4 (sl 30))])))))))))))
theorem q0cc {rin : List T} {args : List A} {Q : List T -> T -> Prop} (ha : args.length <= 181) (h : cW Try.prog 181 q05e (retP Try.prog [] rin.length Q) (St.of (enum 0 args) (enum 1000000000 rin))) :
    Fun Try.prog 169 rin args Q :=
  Fun.of (H := ⟨[], [0, 1, 20, 21, 22]⟩) Try.func169 rfl rfl rfl (by kernel_rfl) ha (by decide) h

def q03l : CC :=
 (.seq (.reg [.o (.box 1 (sl 0)),
 .o (.move 2 (cv (.pointer none)))])
 ((.seq (.reg [.o (.loadN 8 3 (sl 1)),
 .o (.build 9 [.v (.slice none 0 0), .v (.slice none 0 0), .v (.slice none 0 0), .v (.slice none 0 0), .v (.slice none 0 0), .v (.slice none 0 0), .v (.slice none 0 0)] [(0, 3), (3, 2), (5, 2)] [(0, (sl 8))]),
 .o (.box 10 (sl 9)),
 .o (.move 3 (sl 10))])
 ((.seq (.seq (.reg [.o (.move 11 (ci 0))])
 ((.block 0 (.loop (.seq (.reg [.o (.bin 12 .lss (sl 11) (ci 2))])
 ((.seq (.cond (sl 12) .skip
 (.exit 0))
 ((.seq (.block 1 (.seq (.reg [.o (.move 13 (sl 11)),
 .o (.move 4 (sl 13))])
 ((.seq (.reg [.o (.loadN 14 3 (sl 1)),
 .o (.move 15 (sl 4)),
 .o (.call (some 16) (cf 152) [(sl 14), (sl 15)]),
 .o (.lenS 17 (sl 16)),
 .o (.move 18 (ci 0))])
 ((.block 2 (.loop (.seq (.reg [.o (.bin 19 .lss (sl 18) (sl 17))])
 ((.seq (.cond (sl 19) .skip
 (.exit 2))
 ((.seq (.block 3 (.seq (.reg [.o (.idx 20 1 (sl 16) (sl 18)),
 .o (.load1 21 (sl 20)),
 .o (.move 6 (sl 21))])
 ((.seq (.draw [] [(kR, .o (.fld 22 0 (sl 1))),
 (kR, .o (.fld 23 0 (sl 22))),
 (kR, .o (.load1 24 (sl 23))),
 (kR, .o (.move 25 (sl 6))),
 (kR, .o (.idx 26 1 (sl 25) (ci 0))),
 (kR, .o (.load1 27 (sl 26))),
 (kR, .o (.idx 28 5 (sl 24) (sl 27))),
 (kR, .o (.fld 29 4 (sl 28))),
 (kR, .o (.load1 30 (sl 29))),
 (kR, .o (.lenS 31 (sl 30))),
 (kR, .o (.move 7 (sl 31)))])
 ((.seq (.weak (.draw [41] [(.r false [41, 42, 43, 501], .o (.move 32 (sl 3))),
 (.r false [41, 42, 43, 501], .o (.move 33 (sl 4))),
 (.r false [41, 42], .o (.move 34 (sl 3))),
 (.r false [41, 42], .o (.move 35 (sl 4))),
 (.r false [41, 42], .o (.nilc 36 (sl 34))),
 (.r false [41, 42], .o (.fld 37 3 (sl 36))),
 (.r false [41, 42], .o (.idxA 38 2 1 (sl 37) (sl 35))),
 (.r false [41, 42], .o (.load1 39 (sl 38))),
 (kE, .o (.move 40 (sl 7))),
 (kN, .o (.make 41 [.v (.int .i64 0)] 8 (sl 40) (sl 40))),
 (.h (some [41]) [], .o (.bslice 42 1 1 [(0, (sl 41))])),
 (.h (some [42, 501]) [], .o (.app 43 1 24 (sl 39) (sl 42))),
 (.r false [41, 42, 43, 501], .o (.nilc 44 (sl 32))),
 (.r false [41, 42, 43, 501], .o (.fld 45 3 (sl 44))),
 (kR, .o (.idxA 46 2 1 (sl 45) (sl 33))),
 (kH, .o (.store 1 (sl 46) (sl 43)))]))
 ((.weak (.draw [56] [(.r false [56, 57, 58, 502], .o (.move 47 (sl 3))),
 (.r false [56, 57, 58, 502], .o (.move 48 (sl 4))),
 (.r false [56, 57], .o (.move 49 (sl 3))),
 (.r false [56, 57], .o (.move 50 (sl 4))),
 (.r false [56, 57], .o (.nilc 51 (sl 49))),
 (.r false [56, 57], .o (.fld 52 5 (sl 51))),
 (.r false [56, 57], .o (.idxA 53 2 1 (sl 52) (sl 50))),
 (.r false [56, 57], .o (.load1 54 (sl 53))),
 (kE, .o (.move 55 (sl 7))),
 (kN, .o (.make 56 [.v (.int .i64 0)] 8 (sl 55) (sl 55))),
 (.h (some [56]) [], .o (.bslice 57 1 1 [(0, (sl 56))])),
 (.h (some [57, 502]) [], .o (.app 58 1 24 (sl 54) (sl 57))),
 (.r false [56, 57, 58, 502], .o (.nilc 59 (sl 47))),
 (.r false [56, 57, 58, 502], .o (.fld 60 5 (sl 59))),
 (kR, .o (.idxA 61 2 1 (sl 60) (sl 48))),
 (kH, .o (.store 1 (sl 61) (sl 58)))])))))))))
 ((.reg [.o (.bin 62 .add (sl 18) (ci 1)),
 .o (.move 18 (sl 62))]))))))))))))))
 ((.reg [.o (.bin 63 .add (sl 11) (ci 1)),
 .o (.move 11 (sl 63))])))))))))))
 ((.seq (.reg [.o (.move 64 (sl 3)),
 .o (.move 2 (sl 64))])
 (.ret))))))))
theorem q0aj {rin : List T} {args : List A} {Q : List T -> T -> Prop} (ha : args.length <= 65) (h : cW Try.prog 65 q03l (retP Try.prog [.tmp 2] rin.length Q) (St.of (enum 0 args) (enum 1000000000 rin))) :
    Fun Try.prog 170 rin args Q :=
  Fun.of (H := ⟨[(9, 0, .r false [41, 42, 43, 501]), (9, 1, .r false [41, 42, 43, 501]), (9, 12, .r false [41, 42, 43, 501]), (9, 13, .r false [41, 42, 43, 501]), (9, 2, .r false [41, 42]), (9, 3, .r false [41, 42]), (9, 4, .r false [41, 42]), (9, 5, .r false [41, 42]), (9, 6, .r false [41, 42]), (9, 7, .r false [41, 42]), (9, 10, .h (some [41]) []), (9, 11, .h (some [42, 501]) []), (10, 0, .r false [56, 57, 58, 502]), (10, 1, .r false [56, 57, 58, 502]), (10, 12, .r false [56, 57, 58, 502]), (10, 13, .r false [56, 57, 58, 502]), (10, 2, .r false [56, 57]), (10, 3, .r false [56, 57]), (10, 4, .r false [56, 57]), (10, 5, .r false [56, 57]), (10, 6, .r false [56, 57]), (10, 7, .r false [56, 57]), (10, 10, .h (some [56]) []), (10, 11, .h (some [57, 502]) [])], [9, 10]⟩) Try.func170 rfl rfl rfl (by kernel_rfl) ha (by decide) h

def q037 : CC :=
 (.seq (.reg [.o (.move 9 (sl 0)),
 .o (.call (some 10) (cf 112) [(sl 9)]),
 .o (.move 8 (sl 10)),
 .o (.extract 11 (sl 8) 0),
 .o (.extract 12 (sl 8) 1),
 .o (.alloc 2 [.v (.int .i64 0), .v (.slice none 0 0)]),
 .o (.alloc 3 [.v (.int .i64 0), .v (.slice none 0 0)]),
 .o (.store 2 (sl 2) (sl 11)),
 .o (.store 2 (sl 3) (sl 12))])
 ((.seq (.weak (.draw [19] [(kR, .o (.move 13 (sl 0))),
 (kR, .o (.nilc 14 (sl 13))),
 (kR, .o (.fld 15 0 (sl 14))),
 (kR, .o (.loadN 16 3 (sl 15))),
 (kR, .o (.loadN 17 2 (sl 2))),
 (kR, .o (.loadN 18 2 (sl 3))),
 (.c false [], .o (.call (some 19) (cf 179) [(sl 16), (sl 17), (sl 18)])),
 (kR, .o (.move 4 (sl 19)))]))
 ((.seq (.weak (.reg [.o (.move 20 (ci 0))]))
 ((.block 0 (.loop (.seq (.reg [.o (.bin 21 .lss (sl 20) (ci 2))])
 ((.seq (.cond (sl 21) .skip
 (.exit 0))
 ((.seq (.block 1 (.seq (.reg [.o (.move 22 (sl 20)),
 .o (.move 5 (sl 22))])
 ((.seq (.reg [.o (.move 23 (sl 0)),
 .o (.nilc 24 (sl 23)),
 .o (.fld 25 0 (sl 24)),
 .o (.loadN 26 3 (sl 25)),
 .o (.move 27 (sl 5)),
 .o (.call (some 28) (cf 152) [(sl 26), (sl 27)]),
 .o (.lenS 29 (sl 28)),
 .o (.move 30 (ci 0))])
 ((.block 2 (.loop (.seq (.reg [.o (.bin 31 .lss (sl 30) (sl 29))])
 ((.seq (.cond (sl 31) .skip
 (.exit 2))
 ((.seq (.block 3 (.seq (.reg [.o (.move 32 (sl 30)),
 .o (.idx 33 1 (sl 28) (sl 30)),
 .o (.load1 34 (sl 33)),
 .o (.move 6 (sl 32)),
 .o (.move 7 (sl 34))])
 ((.draw [] [(kR, .o (.move 35 (sl 0))),
 (kR, .o (.move 36 (sl 4))),
 (kR, .o (.move 37 (sl 5))),
 (kR, .o (.move 38 (sl 6))),
 (kR, .o (.move 39 (sl 7))),
 (kR, .o (.idx 40 1 (sl 39) (ci 0))),
 (kR, .o (.load1 41 (sl 40))),
 (kR, .o (.move 42 (sl 7))),
 (kR, .o (.idx 43 1 (sl 42) (ci 1))),
 (kR, .o (.load1 44 (sl 43))),
 (kH, .o (.call (some 45) (cf 210) [(sl 35), (sl 36), (sl 37), (sl 38), (sl 41), (sl 44)]))]))))
 ((.reg [.o (.bin 46 .add (sl 30) (ci 1)),
 .o (.move 30 (sl 46))]))))))))))))))
 ((.reg [.o (.bin 47 .add (sl 20) (ci 1)),
 .o (.move 20 (sl 47))])))))))))))))))
theorem q0a5 {rin : List T} {args : List A} {Q : List T -> T -> Prop} (ha : args.length <= 48) (h : cW Try.prog 48 q037 (retP Try.prog [] rin.length Q) (St.of (enum 0 args) (enum 1000000000 rin))) :
    Fun Try.prog 171 rin args Q :=
  Fun.of (H := ⟨[], [1, 2]⟩) Try.func171 rfl rfl rfl (by kernel_rfl) ha (by decide) h

def q03q : CC :=
 (.seq (.reg [.o (.alloc 4 [.v (.int .i64 0), .v (.slice none 0 0)])])
 ((.seq (.reg [.o (.move 11 (sl 0)),
 .o (.build 12 [.v (.int .i64 0), .v (.slice none 0 0)] [(0, 1), (1, 1)] [(0, (sl 11))]),
 .o (.alloc 5 [.v (.int .i64 0), .v (.slice none 0 0)]),
 .o (.store 2 (sl 5) (sl 12))])
 ((.seq (.seq (.reg [.o (.move 13 (sl 1)),
 .o (.lenS 14 (sl 13)),
 .o (.move 15 (ci 0))])
 ((.block 0 (.loop (.seq (.reg [.o (.bin 16 .lss (sl 15) (sl 14))])
 ((.seq (.cond (sl 16) .skip
 (.exit 0))
 ((.seq (.block 1 (.seq (.reg [.o (.idx 17 1 (sl 13) (sl 15)),
 .o (.load1 18 (sl 17)),
 .o (.move 7 (sl 18))])
 ((.seq (.reg [.o (.move 19 (sl 7)),
 .o (.lenS 20 (sl 19)),
 .o (.make 21 [.v (.int .i64 0)] 8 (sl 20) (sl 20)),
 .o (.move 8 (sl 21))])
 ((.seq (.seq (.reg [.o (.move 22 (sl 7)),
 .o (.lenS 23 (sl 22)),
 .o (.move 24 (ci 0))])
 ((.block 2 (.loop (.seq (.reg [.o (.bin 25 .lss (sl 24) (sl 23))])
 ((.seq (.cond (sl 25) .skip
 (.exit 2))
 ((.seq (.block 3 (.seq (.reg [.o (.move 26 (sl 24)),
 .o (.idx 27 1 (sl 22) (sl 24)),
 .o (.load1 28 (sl 27)),
 .o (.move 9 (sl 26)),
 .o (.move 10 (sl 28))])
 ((.reg [.o (.move 29 (sl 8)),
 .o (.move 30 (sl 9)),
 .o (.move 31 (sl 10)),
 .o (.mm 32 true (ci 0) (sl 31)),
 .o (.idx 33 1 (sl 29) (sl 30)),
 .o (.store 1 (sl 33) (sl 32))]))))
 ((.reg [.o (.bin 34 .add (sl 24) (ci 1)),
 .o (.move 24 (sl 34))])))))))))))
 ((.weak (.draw [38, 39] [(.r false [38, 39, 40], .o (.fld 35 1 (sl 5))),
 (.r false [38, 39, 40], .o (.load1 36 (sl 35))),
 (kE, .o (.move 37 (sl 8))),
 (.c false [], .o (.call (some 38) (cf 211) [(sl 37)])),
 (.c false [], .o (.call (some 39) (cf 193) [(sl 38)])),
 (.h (some [39]) [], .o (.bslice 40 1 1 [(0, (sl 39))])),
 (kH, .o (.app 41 1 24 (sl 36) (sl 40))),
 (kR, .o (.fld 42 1 (sl 5))),
 (kH, .o (.store 1 (sl 42) (sl 41)))])))))))))
 ((.reg [.o (.bin 43 .add (sl 15) (ci 1)),
 .o (.move 15 (sl 43))])))))))))))
 ((.seq (.reg [.o (.loadN 44 2 (sl 5)),
 .o (.store 2 (sl 4) (sl 44))])
 (.ret))))))))
theorem q0ao {rin : List T} {args : List A} {Q : List T -> T -> Prop} (ha : args.length <= 45) (h : cW Try.prog 45 q03q (retP Try.prog [.cell 4 47] rin.length Q) (St.of (enum 0 args) (enum 1000000000 rin))) :
    Fun Try.prog 174 rin args Q :=
  Fun.of (H := ⟨[(11, 0, .r false [38, 39, 40]), (11, 1, .r false [38, 39, 40]), (11, 5, .h (some [39]) [])], [11]⟩) Try.func174 rfl rfl rfl (by kernel_rfl) ha (by decide) h

def q038 : CC :=
 (.seq (.reg [.o (.move 31 (sl 0)),
 .o (.nilc 32 (sl 31)),
 .o (.fld 33 0 (sl 32)),
 .o (.fld 34 0 (sl 33)),
 .o (.fld 35 0 (sl 34)),
 .o (.load1 36 (sl 35)),
 .o (.move 37 (sl 4)),
 .o (.idx 38 5 (sl 36) (sl 37)),
 .o (.fld 39 4 (sl 38)),
 .o (.load1 40 (sl 39)),
 .o (.move 12 (sl 40))])
 ((.seq (.reg [.o (.move 13 (ci 0))])
 ((.seq (.seq (.reg [.o (.move 41 (sl 12)),
 .o (.lenS 42 (sl 41)),
 .o (.move 43 (ci 0))])
 ((.block 0 (.loop (.seq (.reg [.o (.bin 44 .lss (sl 43) (sl 42))])
 ((.seq (.cond (sl 44) .skip
 (.exit 0))
 ((.seq (.block 1 (.seq (.reg [.o (.idx 45 1 (sl 41) (sl 43)),
 .o (.load1 46 (sl 45)),
 .o (.move 15 (sl 46))])
 ((.reg [.o (.move 47 (sl 13)),
 .o (.move 48 (sl 0)),
 .o (.nilc 49 (sl 48)),
 .o (.fld 50 0 (sl 49)),
 .o (.fld 51 0 (sl 50)),
 .o (.loadN 52 1 (sl 51)),
 .o (.move 53 (sl 15)),
 .o (.call (some 54) (cf 164) [(sl 52), (sl 53)]),
 .o (.mm 55 true (sl 47) (sl 54)),
 .o (.move 13 (sl 55))]))))
 ((.reg [.o (.bin 56 .add (sl 43) (ci 1)),
 .o (.move 43 (sl 56))])))))))))))
 ((.seq (.reg [.o (.move 57 (sl 12)),
 .o (.lenS 58 (sl 57)),
 .o (.make 59 [.v (.int .i64 0)] 8 (sl 58) (sl 58)),
 .o (.move 16 (sl 59))])
 ((.seq (.seq (.reg [.o (.move 60 (sl 0)),
 .o (.nilc 61 (sl 60)),
 .o (.fld 62 0 (sl 61)),
 .o (.fld 63 1 (sl 62)),
 .o (.load1 64 (sl 63)),
 .o (.lenS 65 (sl 64)),
 .o (.move 66 (ci 0))])
 ((.block 2 (.loop (.seq (.reg [.o (.bin 67 .lss (sl 66) (sl 65))])
 ((.seq (.cond (sl 67) .skip
 (.exit 2))
 ((.seq (.block 3 (.seq (.reg [.o (.move 68 (sl 66)),
 .o (.move 17 (sl 68))])
 ((.seq (.reg [.o (.move 69 (sl 5)),
 .o (.move 70 (sl 17)),
 .o (.move 18 (sl 69)),
 .o (.move 19 (sl 70)),
 .o (.move 20 (ci 1))])
 ((.seq (.seq (.reg [.o (.move 71 (sl 2)),
 .o (.bin 72 .eql (sl 71) (ci 1))])
 ((.cond (sl 72) (.reg [.o (.move 73 (sl 17)),
 .o (.move 74 (sl 5)),
 .o (.move 18 (sl 73)),
 .o (.move 19 (sl 74)),
 .o (.move 20 (ci (-1)))])
 .skip)))
 ((.seq (.draw [] [(kE, .o (.move 75 (sl 20))),
 (.r false [94], .o (.move 76 (sl 0))),
 (.r false [94], .o (.nilc 77 (sl 76))),
 (.r false [94], .o (.fld 78 0 (sl 77))),
 (.r false [94], .o (.fld 79 1 (sl 78))),
 (.r false [94], .o (.load1 80 (sl 79))),
 (.r false [94], .o (.move 81 (sl 18))),
 (.r false [94], .o (.idx 82 1 (sl 80) (sl 81))),
 (.r false [94], .o (.load1 83 (sl 82))),
 (.r false [94], .o (.move 84 (sl 19))),
 (.r false [94], .o (.idx 85 1 (sl 83) (sl 84))),
 (.r false [94], .o (.load1 86 (sl 85))),
 (kE, .o (.bin 87 .mul (sl 75) (sl 86))),
 (kR, .o (.move 88 (sl 1))),
 (kR, .o (.move 89 (sl 4))),
 (kR, .o (.move 90 (sl 2))),
 (kR, .o (.bin 91 .sub (ci 1) (sl 90))),
 (kR, .o (.move 92 (sl 18))),
 (kR, .o (.move 93 (sl 19))),
 (.h (some []) [], .o (.call (some 94) (cf 226) [(sl 88), (sl 89), (sl 91), (sl 92), (sl 93)])),
 (kR, .o (.bin 95 .mul (sl 87) (sl 94))),
 (kR, .o (.move 21 (sl 95)))])
 ((.seq (.seq (.reg [.o (.move 96 (sl 21)),
 .o (.bin 97 .eql (sl 96) (ci 0))])
 ((.cond (sl 97) (.exit 3)
 .skip)))
 ((.seq (.reg [.o (.move 98 (sl 12)),
 .o (.lenS 99 (sl 98)),
 .o (.move 100 (ci 0))])
 ((.block 4 (.loop (.seq (.reg [.o (.bin 101 .lss (sl 100) (sl 99))])
 ((.seq (.cond (sl 101) .skip
 (.exit 4))
 ((.seq (.block 5 (.seq (.reg [.o (.move 102 (sl 100)),
 .o (.idx 103 1 (sl 98) (sl 100)),
 .o (.load1 104 (sl 103)),
 .o (.move 22 (sl 102)),
 .o (.move 23 (sl 104))])
 ((.draw [] [(.r false [115], .o (.move 105 (sl 16))),
 (.r false [115], .o (.move 106 (sl 22))),
 (.r false [115], .o (.idx 107 1 (sl 105) (sl 106))),
 (.r false [115], .o (.load1 108 (sl 107))),
 (.r false [115], .o (.move 109 (sl 21))),
 (kR, .o (.move 110 (sl 1))),
 (kR, .o (.move 111 (sl 23))),
 (kR, .o (.move 112 (sl 18))),
 (kR, .o (.move 113 (sl 19))),
 (kR, .o (.move 114 (sl 13))),
 (.h (some []) [], .o (.call (some 115) (cf 180) [(sl 110), (sl 111), (sl 112), (sl 113), (sl 114)])),
 (kR, .o (.bin 116 .mul (sl 109) (sl 115))),
 (kR, .o (.bin 117 .add (sl 108) (sl 116))),
 (kR, .o (.idx 118 1 (sl 105) (sl 106))),
 (kH, .o (.store 1 (sl 118) (sl 117)))]))))
 ((.reg [.o (.bin 119 .add (sl 100) (ci 1)),
 .o (.move 100 (sl 119))]))))))))))))))))))))))
 ((.reg [.o (.bin 120 .add (sl 66) (ci 1)),
 .o (.move 66 (sl 120))])))))))))))
 ((.seq (.reg [.o (.move 121 (sl 1)),
 .o (.move 122 (sl 2)),
 .o (.nilc 123 (sl 121)),
 .o (.fld 124 5 (sl 123)),
 .o (.idxA 125 2 1 (sl 124) (sl 122)),
 .o (.load1 126 (sl 125)),
 .o (.move 127 (sl 3)),
 .o (.idx 128 1 (sl 126) (sl 127)),
 .o (.load1 129 (sl 128)),
 .o (.move 24 (sl 129))])
 ((.seq (.reg [.o (.move 25 (ci 0))])
 ((.seq (.seq (.reg [.o (.move 130 (sl 24)),
 .o (.lenS 131 (sl 130)),
 .o (.move 132 (ci 0))])
 ((.block 6 (.loop (.seq (.reg [.o (.bin 133 .lss (sl 132) (sl 131))])
 ((.seq (.cond (sl 133) .skip
 (.exit 6))
 ((.seq (.block 7 (.seq (.reg [.o (.move 134 (sl 132)),
 .o (.idx 135 1 (sl 130) (sl 132)),
 .o (.load1 136 (sl 135)),
 .o (.move 26 (sl 134)),
 .o (.move 27 (sl 136))])
 ((.reg [.o (.move 137 (sl 25)),
 .o (.move 138 (sl 27)),
 .o (.move 139 (sl 16)),
 .o (.move 140 (sl 26)),
 .o (.idx 141 1 (sl 139) (sl 140)),
 .o (.load1 142 (sl 141)),
 .o (.bin 143 .mul (sl 138) (sl 142)),
 .o (.bin 144 .add (sl 137) (sl 143)),
 .o (.move 25 (sl 144))]))))
 ((.reg [.o (.bin 145 .add (sl 132) (ci 1)),
 .o (.move 132 (sl 145))])))))))))))
 ((.seq (.reg [.o (.move 146 (sl 1)),
 .o (.move 147 (sl 4)),
 .o (.move 148 (sl 2)),
 .o (.move 149 (sl 5)),
 .o (.move 150 (sl 5)),
 .o (.call (some 151) (cf 226) [(sl 146), (sl 147), (sl 148), (sl 149), (sl 150)]),
 .o (.move 28 (sl 151))])
 ((.seq (.reg [.o (.move 152 (sl 24)),
 .o (.lenS 153 (sl 152)),
 .o (.move 154 (ci 0))])
 ((.block 8 (.loop (.seq (.reg [.o (.bin 155 .lss (sl 154) (sl 153))])
 ((.seq (.cond (sl 155) .skip
 (.exit 8))
 ((.seq (.block 9 (.seq (.reg [.o (.move 156 (sl 154)),
 .o (.idx 157 1 (sl 152) (sl 154)),
 .o (.load1 158 (sl 157)),
 .o (.move 29 (sl 156)),
 .o (.move 30 (sl 158))])
 ((.seq (.weak (.draw [] [(kR, .o (.move 159 (sl 0))),
 (kR, .o (.move 160 (sl 2))),
 (kR, .o (.nilc 161 (sl 159))),
 (kR, .o (.fld 162 3 (sl 161))),
 (kR, .o (.idxA 163 2 1 (sl 162) (sl 160))),
 (kR, .o (.load1 164 (sl 163))),
 (kR, .o (.move 165 (sl 3))),
 (kR, .o (.idx 166 1 (sl 164) (sl 165))),
 (kR, .o (.load1 167 (sl 166))),
 (kR, .o (.move 168 (sl 29))),
 (kR, .o (.idx 169 1 (sl 167) (sl 168))),
 (kR, .o (.load1 170 (sl 169))),
 (kR, .o (.move 171 (sl 16))),
 (kR, .o (.move 172 (sl 29))),
 (kR, .o (.idx 173 1 (sl 171) (sl 172))),
 (kR, .o (.load1 174 (sl 173))),
 (kR, .o (.bin 175 .mul (ci 60) (sl 174))),
 (kR, .o (.move 176 (sl 25))),
 (kR, .o (.bin 177 .sub (sl 175) (sl 176))),
 (kR, .o (.bin 178 .add (sl 170) (sl 177))),
 (kR, .o (.idx 179 1 (sl 167) (sl 168))),
 (kH, .o (.store 1 (sl 179) (sl 178)))]))
 ((.weak (.reg [.o (.move 180 (sl 0)),
 .o (.move 181 (sl 2)),
 .o (.nilc 182 (sl 180)),
 .o (.fld 183 5 (sl 182)),
 .o (.idxA 184 2 1 (sl 183) (sl 181)),
 .o (.load1 185 (sl 184)),
 .o (.move 186 (sl 3)),
 .o (.idx 187 1 (sl 185) (sl 186)),
 .o (.load1 188 (sl 187)),
 .o (.move 189 (sl 29)),
 .o (.idx 190 1 (sl 188) (sl 189)),
 .o (.load1 191 (sl 190)),
 .o (.move 192 (sl 30)),
 .o (.move 193 (sl 28)),
 .o (.bin 194 .mul (sl 192) (sl 193)),
 .o (.bin 195 .add (sl 191) (sl 194)),
 .o (.idx 196 1 (sl 188) (sl 189)),
 .o (.store 1 (sl 196) (sl 195))])))))))
 ((.reg [.o (.bin 197 .add (sl 154) (ci 1)),
 .o (.move 154 (sl 197))])))))))))))))))))))))))))))))
theorem q0a6 {rin : List T} {args : List A} {Q : List T -> T -> Prop} (ha : args.length <= 198) (h : cW Try.prog 198 q038 (retP Try.prog [] rin.length Q) (St.of (enum 0 args) (enum 1000000000 rin))) :
    Fun Try.prog 210 rin args Q :=
  Fun.of (H := ⟨[(14, 1, .r false [94]), (14, 2, .r false [94]), (14, 3, .r false [94]), (14, 4, .r false [94]), (14, 5, .r false [94]), (14, 6, .r false [94]), (14, 7, .r false [94]), (14, 8, .r false [94]), (14, 9, .r false [94]), (14, 10, .r false [94]), (14, 11, .r false [94]), (14, 19, .h (some []) []), (19, 0, .r false [115]), (19, 1, .r false [115]), (19, 2, .r false [115]), (19, 3, .r false [115]), (19, 4, .r false [115]), (19, 10, .h (some []) [])], [33, 34]⟩) Try.func210 rfl rfl rfl (by kernel_rfl) ha (by decide) h

def runL (B : Int) (m : List (List Int)) : Prop := m.length <= 400 /\ ∀ r ∈ m, 1 <= r.length /\ r.length <= 4 /\ ∀ x ∈ r, -B <= x /\ x <= B
theorem q0m9 {g : Gm} (hg : q0fl g = true) {pl B : Int} (hpl : pl = 0 ∨ pl = 1) {m : List (List Int)} (h : okM g pl B m) : runL B m := by
  have hs := q15m hg pl
  refine ⟨by rw [h.1]; omega, fun r hr => ?_⟩
  obtain ⟨i, hi⟩ := List.mem_iff_getElem?.1 hr
  have hil := (List.getElem?_eq_some_iff.1 hi).1
  obtain ⟨b1, b2⟩ := q0ri hg hpl (i := i) (by rw [← h.1]; exact hil)
  obtain ⟨c1, c2⟩ := h.2 i r hi
  exact ⟨by omega, by omega, c2⟩
theorem q0tj {m : List (List Int)} {i : Nat} {r : List Int} (h : m[i]? = some r) : (stM m).take (i + 1) = (stM m).take i ++ [rowP r] := q0uj (q15n h)
theorem q0oa {r : List Int} {k : Nat} {x : Int} (h : r[k]? = some x) : (posL r).take (k + 1) = (posL r).take k ++ [max 0 x] := q0uj (by simp [posL, h])
theorem q0o9 (r : List Int) : (posL r).length = r.length := by simp [posL]
section
attribute [-go_sem] q0i5 q0id fldC lenC idxC q0ip q0lp
theorem q0t0 (pl : Int) (m : List (List Int)) {B : Int} (h : runL B m) (hB : B < 9223372036854775808) : Fun Try.prog 111 [] [.t (.i pl), .t (.sh 1 (m.map ints))] fun o r => o = [] /\ r = .agg [.i pl, .arr 1 ((stM m).map intsO)] := by
  obtain ⟨hm, hr0⟩ := h
  refine q0cd (by simp) ?_
  simp -implicitDefEqProofs only [go_sem, evR, ints, rows, rat, rats, q05f]
  refine SemC.loopR (σ := Nat) (fun i => St.of [(0, .t (.i pl)), (1, .t (rows m)), (4, .own 4), (5, .own 95), (6, .t (.i i))] [(4, .box [.i 0, .v (.slice none 0 0)]), (95, q0qa ((stM m).take i))]) (fun i => i <= m.length) (fun i => m.length - i) 0 (Weak.of _ _ [some 4, some 9] (by simp) (by simp) ?_ ?_) (by omega) fun i hi R hn hr he => ?_
  · simp -implicitDefEqProofs only [ints, rows, Nat.reduceBEq, wkR, Nat.reduceEqDiff, ↓reduceIte, wrR]
  · exact ⟨⟨_, rfl, .refl _⟩, rfl, ⟨_, rfl, .refl _⟩, rfl, trivial⟩
  rcases Nat.lt_or_ge i m.length with h9 | h9
  · obtain ⟨r, hrr⟩ : ∃ r, m[i]? = some r := ⟨_, List.getElem?_eq_getElem h9⟩
    obtain ⟨r1, r2, r3⟩ := hr0 r (List.mem_of_getElem? hrr)
    have hlt : ((stM m).take i).length = i := by rw [List.length_take, q15o]; omega
    simp -implicitDefEqProofs only [go_sem, evR, ints, rows, rat, rats, q0qa, hrr, decide_eq_true (show (i : Int) < (m.length : Int) by omega)]
    refine SemC.loopR (σ := Nat) (fun k => St.of [(0, .t (.i pl)), (1, .t (rows m)), (4, .own 4), (5, .own 95), (6, .t (.i i)), (7, .own 97), (8, .t (.i k))] [(4, .box [.i 0, .v (.slice none 0 0)]), (95, q0qa ((stM m).take i)), (97, intsO ((posL r).take k))]) (fun k => k <= r.length) (fun k => r.length - k) 0 (Weak.of _ _ [some 4, some 95, some 16] (by simp) (by simp) ?_ ?_) (by omega) fun k hk R2 hn2 hr2 he2 => ?_
    · simp -implicitDefEqProofs only [ints, rows, Nat.reduceBEq, wkR, Nat.reduceEqDiff, ↓reduceIte, wrR]
    · exact ⟨⟨_, rfl, .refl _⟩, rfl, ⟨_, rfl, .refl _⟩, rfl, ⟨_, rfl, .refl _⟩, rfl, trivial⟩
    rcases Nat.lt_or_ge k r.length with h8 | h8
    · obtain ⟨x, hx⟩ : ∃ x, r[k]? = some x := ⟨_, List.getElem?_eq_getElem h8⟩
      have hlk : ((posL r).take k).length = k := by rw [List.length_take, q0o9]; omega
      simp -implicitDefEqProofs only [go_sem, evR, ints, rows, rat, rats, q0qa, intsO, hrr, hx, decide_eq_true (show (k : Int) < (r.length : Int) by omega)]
      repeat (first | refine ⟨by omega, ?_⟩ | refine ⟨by rw [q0l0]; omega, ?_⟩)
      refine hn2 _ (k + 1) (Weak.of _ _ [some 4, some 95, some 36] (by simp) (by simp) ?_ ?_) (by omega) (by omega)
      · simp -implicitDefEqProofs only [ints, rows, Nat.reduceBEq, wkR, Nat.reduceEqDiff, ↓reduceIte, wrR, q0lb h8 (by omega)]
      · refine ⟨⟨_, rfl, .refl _⟩, rfl, ⟨_, rfl, .refl _⟩, rfl, ⟨_, rfl, ?_⟩, rfl, trivial⟩
        rw [q0oa hx, intsO, List.map_append]; exact .refl _
    · have hlk : (posL r).take k = posL r := List.take_of_length_le (by rw [q0o9]; omega)
      simp -implicitDefEqProofs only [go_sem, evR, ints, rows, rat, rats, q0qa, intsO, hrr, hlk, decide_eq_false (show ¬ (k : Int) < (r.length : Int) by omega)]
      repeat (first | refine ⟨by omega, ?_⟩ | refine ⟨by rw [q0l0]; omega, ?_⟩)
      refine he2 _ _ ?_
      simp -implicitDefEqProofs only [go_sem, evR, ints, rows, rat, rats]
      have hpo := q155 r3 hB
      have hq := q0sw (posL r) (by rw [q0o9]; omega) hpo
      simp only [ints, intsO] at hq
      refine q006.res hq [97] rfl Try.call173 ?_ (.inr (q0fh _)) ?_
      · simp -implicitDefEqProofs only [agR, Nat.reduceLeDiff, Nat.reduceSub, vaR, go_sem, ints, rows, rat, rats, q0p1, rtR, intsO, q0qa]
      simp -implicitDefEqProofs only [clR, Nat.reduceLeDiff, go_sem, evR, rat]
      have hq := q0si (hvd 34 (posL r)) (q15h r3 hB r1 r2)
      simp only [ints, intsO] at hq
      refine q006.res hq [39] rfl Try.call172 ?_ (.inr (q0fh _)) ?_
      · simp -implicitDefEqProofs only [agR, Nat.reduceLeDiff, Nat.reduceSub, vaR, go_sem, ints, rows, rat, rats, q0p1, rtR, intsO, q0qa]
      simp -implicitDefEqProofs only [clR, Nat.reduceLeDiff, go_sem, evR, rat]
      repeat (first | refine ⟨by omega, ?_⟩ | refine ⟨by rw [q0l0]; omega, ?_⟩)
      refine hn _ (i + 1) (Weak.of _ _ [some 4, some 42] (by simp) (by simp) ?_ ?_) (by omega) (by omega)
      · simp -implicitDefEqProofs only [ints, rows, Nat.reduceBEq, wkR, Nat.reduceEqDiff, ↓reduceIte, wrR, q0lb h9 (by omega)]
      · refine ⟨⟨_, rfl, .refl _⟩, rfl, ⟨_, rfl, ?_⟩, rfl, trivial⟩
        rw [q0tj hrr, q0qa, List.map_append]; exact .refl _
  · simp -implicitDefEqProofs only [go_sem, evR, ints, rows, rat, rats, q0qa, decide_eq_false (show ¬ (i : Int) < (m.length : Int) by omega)]
    refine he _ _ ?_
    simp -implicitDefEqProofs only [go_sem, evR, ints, rows, rat, rats, q0qa]
    rw [List.take_of_length_le (by rw [q15o]; exact h9)]
theorem q0f0 (pl : Int) (m : List (List Int)) {B : Int} (h : runL B m) (hB : B < 9223372036854775808) : Fun Try.prog 174 [] [.t (.i pl), .t (.sh 1 (m.map ints))] fun o r => o = [] /\ r = .agg [.i pl, .arr 1 ((stM m).map intsO)] := by
  obtain ⟨hm, hr0⟩ := h
  refine q0ao (by simp) ?_
  simp -implicitDefEqProofs only [go_sem, evR, ints, rows, rat, rats, q03q, opR, Nat.reduceBEq]
  refine SemC.loopR (σ := Nat) (fun i => St.of [(4, .own 4), (5, .own 5), (13, .t (rows m)), (14, .t (.i m.length)), (15, .t (.i i))] [(4, .box [.i 0, .v (.slice none 0 0)]), (5, .box [.i pl, q0qa ((stM m).take i)])]) (fun i => i <= m.length) (fun i => m.length - i) 0 (Weak.of _ _ [some 4, some 5] (by simp) (by simp) ?_ ?_) (by omega) fun i hi R hn hr he => ?_
  · simp -implicitDefEqProofs only [ints, rows, Nat.reduceBEq, wkR, Nat.reduceEqDiff, ↓reduceIte, wrR]
  · exact ⟨⟨_, rfl, .refl _⟩, rfl, ⟨_, rfl, .box rfl fun j h1 h2 => (match j, h1 with | 0, _ => .refl _ | 1, _ => .nilArr _)⟩, rfl, trivial⟩
  rcases Nat.lt_or_ge i m.length with h9 | h9
  · obtain ⟨r, hrr⟩ : ∃ r, m[i]? = some r := ⟨_, List.getElem?_eq_getElem h9⟩
    obtain ⟨r1, r2, r3⟩ := hr0 r (List.mem_of_getElem? hrr)
    have hlt : ((stM m).take i).length = i := by rw [List.length_take, q15o]; omega
    have hpz : (posL r).length = (List.replicate r.length (0 : Int)).length := by rw [q0o9, List.length_replicate]
    simp -implicitDefEqProofs only [go_sem, evR, ints, rows, rat, rats, q0qa, hrr, decide_eq_true (show (i : Int) < (m.length : Int) by omega), q0jc]
    repeat (first | refine ⟨by omega, ?_⟩ | refine ⟨by rw [q0l0]; omega, ?_⟩)
    refine SemC.loopR (σ := Nat) (fun k => St.of [(4, .own 4), (5, .own 5), (8, .own 97), (13, .t (rows m)), (14, .t (.i m.length)), (15, .t (.i i)), (22, .t (ints r)), (23, .t (.i r.length)), (24, .t (.i k))] [(4, .box [.i 0, .v (.slice none 0 0)]), (5, .box [.i pl, q0qa ((stM m).take i)]), (97, intsO (mixL (posL r) (List.replicate r.length 0) k))]) (fun k => k <= r.length) (fun k => r.length - k) 0 (Weak.of _ _ [some 4, some 5, some 21] (by simp) (by simp) ?_ ?_) (by omega) fun k hk R2 hn2 hr2 he2 => ?_
    · simp -implicitDefEqProofs only [ints, rows, Nat.reduceBEq, wkR, Nat.reduceEqDiff, ↓reduceIte, wrR]
    · refine ⟨⟨_, rfl, .refl _⟩, rfl, ⟨_, rfl, .refl _⟩, rfl, ⟨_, rfl, ?_⟩, rfl, trivial⟩
      rw [q14w, intsO, List.map_replicate]; exact .refl _
    rcases Nat.lt_or_ge k r.length with h8 | h8
    · obtain ⟨x, hx⟩ : ∃ x, r[k]? = some x := ⟨_, List.getElem?_eq_getElem h8⟩
      have hlk : (mixL (posL r) (List.replicate r.length 0) k).length = r.length := by rw [q14u hpz (by simpa using hk), List.length_replicate]
      simp -implicitDefEqProofs only [go_sem, evR, ints, rows, rat, rats, q0qa, intsO, hx, hlk, decide_eq_true (show (k : Int) < (r.length : Int) by omega)]
      repeat (first | refine ⟨by omega, ?_⟩ | refine ⟨by rw [q0l0]; omega, ?_⟩)
      refine hn2 _ (k + 1) (Weak.of _ _ [some 4, some 5, some 97] (by simp) (by simp) ?_ ?_) (by omega) (by omega)
      · simp -implicitDefEqProofs only [ints, rows, Nat.reduceBEq, wkR, Nat.reduceEqDiff, ↓reduceIte, wrR, q0lb h8 (by omega)]
      · refine ⟨⟨_, rfl, .refl _⟩, rfl, ⟨_, rfl, .refl _⟩, rfl, ⟨_, rfl, ?_⟩, rfl, trivial⟩
        rw [← q14v hpz (show (posL r)[k]? = some (max 0 x) by simp [posL, hx]), intsO, List.map_set]; exact .refl _
    · have hkl : k = r.length := by omega
      have hall := q14s hpz
      rw [List.length_replicate] at hall
      subst hkl
      rw [hall]
      simp -implicitDefEqProofs only [go_sem, evR, ints, rows, rat, rats, q0qa, intsO, decide_eq_false (show ¬ (r.length : Int) < (r.length : Int) by omega)]
      refine he2 _ _ ?_
      simp -implicitDefEqProofs only [go_sem, evR, ints, rows, rat, rats]
      refine ⟨_, Weak.open 5 1 501 rfl rfl rfl (by decide) rfl, ?_⟩
      simp -implicitDefEqProofs only [go_sem, evR, ints, rows, rat, rats, q0qa, intsO]
      repeat (first | refine ⟨by omega, ?_⟩ | refine ⟨by rw [q0l0]; omega, ?_⟩)
      have hpo := q155 r3 hB
      have hq := q0em (posL r) (by intro e; have := congrArg List.length e; rw [q0o9, List.length_nil] at this; omega) (by rw [q0o9]; omega) hpo
      simp only [ints, intsO] at hq
      refine q000.res hq [97] rfl Try.call211 (fun e R' hR => ?_) (.inr (q0fh _)) ?_
      · have hq97 := (hR 97).resolve_left (by simp -implicitDefEqProofs only [go_sem, evR, ints, rows, rat, rats, not_false_eq_true])
        simp -implicitDefEqProofs only [go_sem, evR, ints, rows, rat, rats] at hq97
        simp -implicitDefEqProofs only [agR, Nat.reduceLeDiff, Nat.reduceSub, vaR, go_sem, ints, rows, rat, rats, q0p1, rtR, intsO, q0qa, hq97]
      simp -implicitDefEqProofs only [clR, Nat.reduceLeDiff, go_sem, evR, rat]
      have hq := q0ev (hvd 34 (posL r)) (q15h r3 hB r1 r2)
      simp only [ints, intsO] at hq
      refine q000.res hq [38] rfl Try.call193 (fun e R' hR => ?_) (.inr (q0fh _)) ?_
      · have hq38 := (hR 38).resolve_left (by simp -implicitDefEqProofs only [go_sem, evR, ints, rows, rat, rats, not_false_eq_true])
        simp -implicitDefEqProofs only [go_sem, evR, ints, rows, rat, rats] at hq38
        simp -implicitDefEqProofs only [agR, Nat.reduceLeDiff, Nat.reduceSub, vaR, go_sem, ints, rows, rat, rats, q0p1, rtR, intsO, q0qa, hq38]
      simp -implicitDefEqProofs only [clR, Nat.reduceLeDiff, go_sem, evR, rat, opR, Nat.reduceBEq]
      refine ⟨⟨by omega, hn _ (i + 1) (Weak.of _ _ [some 4, some 5] (by simp) (by simp) ?_ ?_) (by omega) (by omega)⟩, ((q09v.refl _ _ _).upd _ (.inl (by simp))).upd _ (.inr rfl)⟩
      · simp -implicitDefEqProofs only [ints, rows, Nat.reduceBEq, wkR, Nat.reduceEqDiff, ↓reduceIte, wrR, q0lb h9 (by omega)]
      · refine ⟨⟨_, rfl, .refl _⟩, rfl, ⟨_, rfl, ?_⟩, rfl, trivial⟩
        rw [q0tj hrr, q0qa, List.map_append]; exact .refl _
  · simp -implicitDefEqProofs only [go_sem, evR, ints, rows, rat, rats, q0qa, decide_eq_false (show ¬ (i : Int) < (m.length : Int) by omega), opR, Nat.reduceBEq]
    refine he _ _ ?_
    simp -implicitDefEqProofs only [go_sem, evR, ints, rows, rat, rats, q0qa, opR, Nat.reduceBEq]
    rw [List.take_of_length_le (by rw [q15o]; exact h9)]
end
def ssB (g : Gm) (x : RS) : T := .box [nodes g.nd, rows g.w, rows g.v, .arr 1 [q0qa x.r0, q0qa x.r1], .arr 1 [q0qa x.s0, q0qa x.s1]]
def rsB (g : Gm) (x : RS) : T := .box [nodes g.nd, rows g.w, rows g.v, q0qa x.r0, q0qa x.r1, q0qa x.s0, q0qa x.s1]
def ssC (g : Gm) : Nat -> T
  | 0 => .v (.slice none 0 0)
  | 1 => .arr 1 [q0qa (q15z g 0)]
  | _ => .arr 1 [q0qa (q15z g 0), q0qa (q15z g 1)]
theorem q0y1 {g : Gm} {pl : Int} {i : Nat} (h : i < (sets g pl).length) : (q15z g pl).take (i + 1) = (q15z g pl).take i ++ [List.replicate (q0rh g pl i) 0] := q0uj (by simp [q15z, h])
theorem q0y0 (g : Gm) (pl : Int) : (q15z g pl).length = (sets g pl).length := by simp [q15z]
def rrC (g : Gm) (p : Int) (b : Bool) : T := if b = true then q0qa (q15z g p) else .v (.slice none 0 0)
section
attribute [-go_sem] q0i5 q0id fldC lenC idxC q0ip q0lp
theorem q0sx (g : Gm) (hg : q0fl g = true) : Fun Try.prog 168 [] [.t (.agg [.sh 5 (chunk q0lu g.nd), .sh 1 (g.w.map ints), .sh 1 (g.v.map ints)])] fun o r => o = [] /\ r = ssB g (q15i g 0) := by
  obtain ⟨p1, p2, p3, p4, p5⟩ := q0fn hg
  obtain ⟨t1, t2, t3, t4⟩ := q0g0 p1
  have w1 : IntKind.i64.wrap 1 = 1 := rfl
  have w2' : IntKind.i64.wrap (1 + 1) = 2 := rfl
  refine q0ca (by simp) ?_
  simp -implicitDefEqProofs only [go_sem, evR, ints, rows, rat, rats, q05c, opR, Nat.reduceBEq]
  refine SemC.loopR (σ := Nat) (fun q => St.of [(1, .own 1), (3, .own 111), (4, .t (.i q))] [(1, .box [nodes g.nd, rows g.w, rows g.v]), (111, .box [nodes g.nd, rows g.w, rows g.v, ssC g q, ssC g q])]) (fun q => q <= 2) (fun q => 2 - q) 0 (Weak.of _ _ [some 1, some 11] (by simp) (by simp) ?_ ?_) (by omega) fun q hq R hn hr he => ?_
  · simp -implicitDefEqProofs only [ints, rows, Nat.reduceBEq, wkR, Nat.reduceEqDiff, ↓reduceIte, wrR, nodes]
  · exact ⟨⟨_, rfl, .refl _⟩, rfl, ⟨_, rfl, .refl _⟩, rfl, trivial⟩
  · match q, hq with
    | 0, _ =>
      have hsl := q15m hg 0
      simp -implicitDefEqProofs only [go_sem, evR, ints, rows, rat, rats, ssC, nodes, q0qa, decide_eq_true (show (0 : Int) < 2 by omega), Int.natCast_zero, Int.cast_ofNat_Int, opR, Nat.reduceBEq]
      have hp := q0sj g 0 t1.2 p2.2
      simp only [intsO] at hp
      refine q006.res hp [] rfl Try.call196 ?_ (.inl rfl) ?_
      · simp -implicitDefEqProofs only [agR, Nat.reduceLeDiff, Nat.reduceSub, vaR, go_sem, ints, rows, rat, rats, q0p1, rtR, intsO, q0qa]
      simp -implicitDefEqProofs only [clR, Nat.reduceLeDiff, go_sem, evR, rat]
      refine SemC.loopR (σ := Nat) (fun i => St.of [(1, .own 1), (3, .own 111), (4, .t (.i 0)), (5, .t (ints (q0rk g 0))), (6, .own 96), (7, .own 97), (8, .t (.i i))] [(1, .box [nodes g.nd, rows g.w, rows g.v]), (111, .box [nodes g.nd, rows g.w, rows g.v, ssC g 0, ssC g 0]), (96, q0qa ((q15z g 0).take i)), (97, q0qa ((q15z g 0).take i))]) (fun i => i <= (sets g 0).length) (fun i => (sets g 0).length - i) 0 (Weak.trans (Weak.share 18 rfl) (Weak.of _ _ [some 1, some 111, some 19, some 20] (by simp) (by simp) ?_ ?_)) (by simp) fun i hi R2 hn2 hr2 he2 => ?_
      · simp -implicitDefEqProofs only [ints, rows, Nat.reduceBEq, wkR, Nat.reduceEqDiff, ↓reduceIte, wrR, q0rg, T.toSh, q0vf, nodes]
      · exact ⟨⟨_, rfl, .refl _⟩, rfl, ⟨_, rfl, .refl _⟩, rfl, ⟨_, rfl, .refl _⟩, rfl, ⟨_, rfl, .refl _⟩, rfl, trivial⟩
      rcases Nat.lt_or_ge i (sets g 0).length with h9 | h9
      · obtain ⟨b1, b2⟩ := q0ri hg ((.inl rfl) : (0 : Int) = 0 ∨ (0 : Int) = 1) h9
        have hlt : ((q15z g 0).take i).length = i := by rw [List.length_take, q0y0]; omega
        simp -implicitDefEqProofs only [go_sem, evR, ints, rows, rat, rats, nodes, q0qa, q0rm, q0rl h9, decide_eq_true (show (i : Int) < ((sets g 0).length : Int) by omega), q0jc]
        repeat (first | refine ⟨by omega, ?_⟩ | refine ⟨by rw [q0l0]; omega, ?_⟩)
        refine hn2 _ (i + 1) (Weak.of _ _ [some 1, some 111, some 34, some 42] (by simp) (by simp) ?_ ?_) (by omega) (by omega)
        · simp -implicitDefEqProofs only [ints, rows, Nat.reduceBEq, wkR, Nat.reduceEqDiff, ↓reduceIte, wrR, nodes, q0lb h9 (by omega)]
        · refine ⟨⟨_, rfl, .refl _⟩, rfl, ⟨_, rfl, .refl _⟩, rfl, ⟨_, rfl, ?_⟩, rfl, ⟨_, rfl, ?_⟩, rfl, trivial⟩
          · rw [q0y1 h9, q0qa, List.map_append, List.map_cons, List.map_nil, intsO, List.map_replicate]; exact .refl _
          · rw [q0y1 h9, q0qa, List.map_append, List.map_cons, List.map_nil, intsO, List.map_replicate]; exact .refl _
      · have hil : i = (sets g 0).length := by omega
        have hta : (q15z g 0).take i = q15z g 0 := List.take_of_length_le (by rw [q0y0]; omega)
        simp -implicitDefEqProofs only [go_sem, evR, ints, rows, rat, rats, nodes, q0qa, hta, q0rm, decide_eq_false (show ¬ (i : Int) < ((sets g 0).length : Int) by omega)]
        refine he2 _ _ ?_
        simp -implicitDefEqProofs only [go_sem, evR, ints, rows, rat, rats, ssC, q0qa, opR, Nat.reduceBEq]
        repeat (first | refine ⟨by omega, ?_⟩ | refine ⟨by rw [q0l0]; omega, ?_⟩)
        refine hn _ 1 (Weak.of _ _ [some 1, some 111] (by simp) (by simp) ?_ ?_) (by omega) (by omega)
        · simp -implicitDefEqProofs only [ints, rows, Nat.reduceBEq, wkR, Nat.reduceEqDiff, ↓reduceIte, wrR, nodes, Int.zero_add, w1]
        · exact ⟨⟨_, rfl, .refl _⟩, rfl, ⟨_, rfl, .refl _⟩, rfl, trivial⟩
    | 1, _ =>
      have hsl := q15m hg 1
      simp -implicitDefEqProofs only [go_sem, evR, ints, rows, rat, rats, ssC, nodes, q0qa, decide_eq_true (show (1 : Int) < 2 by omega), Int.natCast_zero, Int.cast_ofNat_Int, opR, Nat.reduceBEq]
      have hp := q0sj g 1 t1.2 p2.2
      simp only [intsO] at hp
      refine q006.res hp [] rfl Try.call196 ?_ (.inl rfl) ?_
      · simp -implicitDefEqProofs only [agR, Nat.reduceLeDiff, Nat.reduceSub, vaR, go_sem, ints, rows, rat, rats, q0p1, rtR, intsO, q0qa]
      simp -implicitDefEqProofs only [clR, Nat.reduceLeDiff, go_sem, evR, rat]
      refine SemC.loopR (σ := Nat) (fun i => St.of [(1, .own 1), (3, .own 111), (4, .t (.i 1)), (5, .t (ints (q0rk g 1))), (6, .own 96), (7, .own 97), (8, .t (.i i))] [(1, .box [nodes g.nd, rows g.w, rows g.v]), (111, .box [nodes g.nd, rows g.w, rows g.v, ssC g 1, ssC g 1]), (96, q0qa ((q15z g 1).take i)), (97, q0qa ((q15z g 1).take i))]) (fun i => i <= (sets g 1).length) (fun i => (sets g 1).length - i) 0 (Weak.trans (Weak.share 18 rfl) (Weak.of _ _ [some 1, some 111, some 19, some 20] (by simp) (by simp) ?_ ?_)) (by simp) fun i hi R2 hn2 hr2 he2 => ?_
      · simp -implicitDefEqProofs only [ints, rows, Nat.reduceBEq, wkR, Nat.reduceEqDiff, ↓reduceIte, wrR, q0rg, T.toSh, q0vf, nodes]
      · exact ⟨⟨_, rfl, .refl _⟩, rfl, ⟨_, rfl, .refl _⟩, rfl, ⟨_, rfl, .refl _⟩, rfl, ⟨_, rfl, .refl _⟩, rfl, trivial⟩
      rcases Nat.lt_or_ge i (sets g 1).length with h9 | h9
      · obtain ⟨b1, b2⟩ := q0ri hg ((.inr rfl) : (1 : Int) = 0 ∨ (1 : Int) = 1) h9
        have hlt : ((q15z g 1).take i).length = i := by rw [List.length_take, q0y0]; omega
        simp -implicitDefEqProofs only [go_sem, evR, ints, rows, rat, rats, nodes, q0qa, q0rm, q0rl h9, decide_eq_true (show (i : Int) < ((sets g 1).length : Int) by omega), q0jc]
        repeat (first | refine ⟨by omega, ?_⟩ | refine ⟨by rw [q0l0]; omega, ?_⟩)
        refine hn2 _ (i + 1) (Weak.of _ _ [some 1, some 111, some 34, some 42] (by simp) (by simp) ?_ ?_) (by omega) (by omega)
        · simp -implicitDefEqProofs only [ints, rows, Nat.reduceBEq, wkR, Nat.reduceEqDiff, ↓reduceIte, wrR, nodes, q0lb h9 (by omega)]
        · refine ⟨⟨_, rfl, .refl _⟩, rfl, ⟨_, rfl, .refl _⟩, rfl, ⟨_, rfl, ?_⟩, rfl, ⟨_, rfl, ?_⟩, rfl, trivial⟩
          · rw [q0y1 h9, q0qa, List.map_append, List.map_cons, List.map_nil, intsO, List.map_replicate]; exact .refl _
          · rw [q0y1 h9, q0qa, List.map_append, List.map_cons, List.map_nil, intsO, List.map_replicate]; exact .refl _
      · have hil : i = (sets g 1).length := by omega
        have hta : (q15z g 1).take i = q15z g 1 := List.take_of_length_le (by rw [q0y0]; omega)
        simp -implicitDefEqProofs only [go_sem, evR, ints, rows, rat, rats, nodes, q0qa, hta, q0rm, decide_eq_false (show ¬ (i : Int) < ((sets g 1).length : Int) by omega)]
        refine he2 _ _ ?_
        simp -implicitDefEqProofs only [go_sem, evR, ints, rows, rat, rats, ssC, q0qa, opR, Nat.reduceBEq]
        repeat (first | refine ⟨by omega, ?_⟩ | refine ⟨by rw [q0l0]; omega, ?_⟩)
        refine hn _ 2 (Weak.of _ _ [some 1, some 111] (by simp) (by simp) ?_ ?_) (by omega) (by omega)
        · simp -implicitDefEqProofs only [ints, rows, Nat.reduceBEq, wkR, Nat.reduceEqDiff, ↓reduceIte, wrR, nodes, w2']
        · exact ⟨⟨_, rfl, .refl _⟩, rfl, ⟨_, rfl, .refl _⟩, rfl, trivial⟩
    | 2, _ =>
      simp -implicitDefEqProofs only [go_sem, evR, ints, rows, rat, rats, ssC, nodes, q0qa, decide_eq_false (show ¬ (2 : Int) < 2 by omega), Int.natCast_zero, Int.cast_ofNat_Int]
      refine he _ _ ?_
      simp -implicitDefEqProofs only [go_sem, evR, ints, rows, rat, rats, ssC, ssB, q15i, nodes, q0qa]
theorem q0er (g : Gm) (hg : q0fl g = true) : Fun Try.prog 170 [] [.t (.agg [.sh 5 (chunk q0lu g.nd), .sh 1 (g.w.map ints), .sh 1 (g.v.map ints)])] fun o r => o = [] /\ r = rsB g (q15i g 0) := by
  obtain ⟨p1, p2, p3, p4, p5⟩ := q0fn hg
  obtain ⟨t1, t2, t3, t4⟩ := q0g0 p1
  have w1 : IntKind.i64.wrap 1 = 1 := rfl
  have w2' : IntKind.i64.wrap (1 + 1) = 2 := rfl
  refine q0aj (by simp) ?_
  simp -implicitDefEqProofs only [go_sem, evR, ints, rows, rat, rats, q03l, opR, Nat.reduceBEq]
  refine SemC.loopR (σ := Nat) (fun q => St.of [(1, .own 1), (3, .own 111), (11, .t (.i q))] [(1, .box [nodes g.nd, rows g.w, rows g.v]), (111, .box [nodes g.nd, rows g.w, rows g.v, rrC g 0 (decide (0 < q)), rrC g 1 (decide (1 < q)), rrC g 0 (decide (0 < q)), rrC g 1 (decide (1 < q))])]) (fun q => q <= 2) (fun q => 2 - q) 0 (Weak.of _ _ [some 1, some 10] (by simp) (by simp) ?_ ?_) (by omega) fun q hq R hn hr he => ?_
  · simp -implicitDefEqProofs only [ints, rows, Nat.reduceBEq, wkR, Nat.reduceEqDiff, ↓reduceIte, wrR, nodes]
  · exact ⟨⟨_, rfl, .refl _⟩, rfl, ⟨_, rfl, .refl _⟩, rfl, trivial⟩
  · match q, hq with
    | 0, _ =>
      have hsl := q15m hg 0
      simp -implicitDefEqProofs only [go_sem, evR, ints, rows, rat, rats, rrC, nodes, q0qa, decide_eq_true (show (0 : Int) < 2 by omega), Nat.lt_irrefl, Nat.zero_lt_one, decide_true, decide_false, Bool.false_eq_true, Int.natCast_zero, Int.cast_ofNat_Int, opR, Nat.reduceBEq]
      have hp := q0fd g 0 t1.2 p2.2
      simp only [q0qa] at hp
      refine q006.res hp [] rfl Try.call152 ?_ (.inl rfl) ?_
      · simp -implicitDefEqProofs only [agR, Nat.reduceLeDiff, Nat.reduceSub, vaR, go_sem, ints, rows, rat, rats, q0p1, rtR, intsO, q0qa]
      simp -implicitDefEqProofs only [clR, Nat.reduceLeDiff, go_sem, evR, rat]
      refine SemC.loopR (σ := Nat) (fun i => St.of [(1, .own 1), (3, .own 111), (4, .t (.i 0)), (11, .t (.i 0)), (16, .t (rows (sets g 0))), (17, .t (.i (sets g 0).length)), (18, .t (.i i))] [(1, .box [nodes g.nd, rows g.w, rows g.v]), (111, .box [nodes g.nd, rows g.w, rows g.v, q0qa ((q15z g 0).take i), .v (.slice none 0 0), q0qa ((q15z g 0).take i), .v (.slice none 0 0)])]) (fun i => i <= (sets g 0).length) (fun i => (sets g 0).length - i) 0 (Weak.trans (Weak.share 16 rfl) (Weak.of _ _ [some 1, some 111] (by simp) (by simp) ?_ ?_)) (by simp) fun i hi R2 hn2 hr2 he2 => ?_
      · simp -implicitDefEqProofs only [ints, rows, Nat.reduceBEq, wkR, Nat.reduceEqDiff, ↓reduceIte, wrR, q0rg, T.toSh, q0vg, nodes]
      · exact ⟨⟨_, rfl, .refl _⟩, rfl, ⟨_, rfl, .box rfl fun j h1 h2 => (match j, h1 with | 0, _ => .refl _ | 1, _ => .refl _ | 2, _ => .refl _ | 3, _ => .nilArr _ | 4, _ => .refl _ | 5, _ => .nilArr _ | 6, _ => .refl _)⟩, rfl, trivial⟩
      rcases Nat.lt_or_ge i (sets g 0).length with h9 | h9
      · obtain ⟨b1, b2⟩ := q0ri hg ((.inl rfl) : (0 : Int) = 0 ∨ (0 : Int) = 1) h9
        obtain ⟨a1, a2, a3, a4, a5, a6⟩ := q15l h9
        obtain ⟨x, hx⟩ : ∃ x, g.nd[setN g 0 i]? = some x := ⟨_, List.getElem?_eq_getElem a2⟩
        have hxd : g.nd.getD (setN g 0 i) nd0 = x := by rw [List.getD_eq_getElem?_getD, hx]; rfl
        rw [hxd] at a5
        have hlt : ((q15z g 0).take i).length = i := by rw [List.length_take, q0y0]; omega
        simp -implicitDefEqProofs only [go_sem, evR, ints, rows, rat, rats, nodes, q0qa, a1, q0kz hx, ← a5, decide_eq_true (show (i : Int) < ((sets g 0).length : Int) by omega), List.getElem?_cons_zero, List.getElem?_cons_succ]
        repeat (first | refine ⟨by omega, ?_⟩ | refine ⟨by rw [q0l0]; omega, ?_⟩)
        refine ⟨_, Weak.open 111 3 501 rfl rfl rfl (by decide) rfl, ?_⟩
        simp -implicitDefEqProofs only [go_sem, evR, ints, rows, rat, rats, q0qa, q0jc, opR, Nat.reduceBEq]
        repeat (first | refine ⟨by omega, ?_⟩ | refine ⟨by rw [q0l0]; omega, ?_⟩)
        refine ⟨⟨by omega, ⟨by decide, ?_⟩, (((q09v.refl _ _ _).upd _ (.inl (by simp))).upd _ (.inl (by simp))).upd _ (.inr rfl)⟩, ((q09v.refl _ _ _).upd _ (.inl (by simp))).upd _ (.inr rfl)⟩
        refine ⟨_, Weak.open 111 5 502 rfl rfl rfl (by decide) rfl, ?_⟩
        simp -implicitDefEqProofs only [go_sem, evR, ints, rows, rat, rats, q0qa, q0jc, opR, Nat.reduceBEq]
        repeat (first | refine ⟨by omega, ?_⟩ | refine ⟨by rw [q0l0]; omega, ?_⟩)
        refine ⟨⟨by omega, ⟨by decide, ?_⟩, (((q09v.refl _ _ _).upd _ (.inl (by simp))).upd _ (.inl (by simp))).upd _ (.inr rfl)⟩, ((q09v.refl _ _ _).upd _ (.inl (by simp))).upd _ (.inr rfl)⟩
        refine hn2 _ (i + 1) (Weak.of _ _ [some 1, some 111] (by simp) (by simp) ?_ ?_) (by omega) (by omega)
        · simp -implicitDefEqProofs only [ints, rows, Nat.reduceBEq, wkR, Nat.reduceEqDiff, ↓reduceIte, wrR, nodes, q0lb h9 (by omega)]
        · refine ⟨⟨_, rfl, .refl _⟩, rfl, ⟨_, rfl, ?_⟩, rfl, trivial⟩
          simp only [q0y1 h9, q0qa, List.map_append, List.map_cons, List.map_nil, intsO, List.map_replicate]; exact .refl _
      · have hil : i = (sets g 0).length := by omega
        have hta : (q15z g 0).take i = q15z g 0 := List.take_of_length_le (by rw [q0y0]; omega)
        simp -implicitDefEqProofs only [go_sem, evR, ints, rows, rat, rats, nodes, q0qa, hta, decide_eq_false (show ¬ (i : Int) < ((sets g 0).length : Int) by omega)]
        refine he2 _ _ ?_
        simp -implicitDefEqProofs only [go_sem, evR, ints, rows, rat, rats]
        refine hn _ 1 (Weak.of _ _ [some 1, some 111] (by simp) (by simp) ?_ ?_) (by omega) (by omega)
        · simp -implicitDefEqProofs only [ints, rows, Nat.reduceBEq, wkR, Nat.reduceEqDiff, ↓reduceIte, wrR, nodes, Int.zero_add, w1]
        · exact ⟨⟨_, rfl, .refl _⟩, rfl, ⟨_, rfl, .refl _⟩, rfl, trivial⟩
    | 1, _ =>
      have hsl := q15m hg 1
      simp -implicitDefEqProofs only [go_sem, evR, ints, rows, rat, rats, rrC, nodes, q0qa, decide_eq_true (show (1 : Int) < 2 by omega), Nat.lt_irrefl, Nat.zero_lt_one, decide_true, decide_false, Bool.false_eq_true, Int.natCast_zero, Int.cast_ofNat_Int, opR, Nat.reduceBEq]
      have hp := q0fd g 1 t1.2 p2.2
      simp only [q0qa] at hp
      refine q006.res hp [] rfl Try.call152 ?_ (.inl rfl) ?_
      · simp -implicitDefEqProofs only [agR, Nat.reduceLeDiff, Nat.reduceSub, vaR, go_sem, ints, rows, rat, rats, q0p1, rtR, intsO, q0qa]
      simp -implicitDefEqProofs only [clR, Nat.reduceLeDiff, go_sem, evR, rat]
      refine SemC.loopR (σ := Nat) (fun i => St.of [(1, .own 1), (3, .own 111), (4, .t (.i 1)), (11, .t (.i 1)), (16, .t (rows (sets g 1))), (17, .t (.i (sets g 1).length)), (18, .t (.i i))] [(1, .box [nodes g.nd, rows g.w, rows g.v]), (111, .box [nodes g.nd, rows g.w, rows g.v, q0qa (q15z g 0), q0qa ((q15z g 1).take i), q0qa (q15z g 0), q0qa ((q15z g 1).take i)])]) (fun i => i <= (sets g 1).length) (fun i => (sets g 1).length - i) 0 (Weak.trans (Weak.share 16 rfl) (Weak.of _ _ [some 1, some 111] (by simp) (by simp) ?_ ?_)) (by simp) fun i hi R2 hn2 hr2 he2 => ?_
      · simp -implicitDefEqProofs only [ints, rows, Nat.reduceBEq, wkR, Nat.reduceEqDiff, ↓reduceIte, wrR, q0rg, T.toSh, q0vg, nodes]
      · exact ⟨⟨_, rfl, .refl _⟩, rfl, ⟨_, rfl, .box rfl fun j h1 h2 => (match j, h1 with | 0, _ => .refl _ | 1, _ => .refl _ | 2, _ => .refl _ | 3, _ => .refl _ | 4, _ => .nilArr _ | 5, _ => .refl _ | 6, _ => .nilArr _)⟩, rfl, trivial⟩
      rcases Nat.lt_or_ge i (sets g 1).length with h9 | h9
      · obtain ⟨b1, b2⟩ := q0ri hg ((.inr rfl) : (1 : Int) = 0 ∨ (1 : Int) = 1) h9
        obtain ⟨a1, a2, a3, a4, a5, a6⟩ := q15l h9
        obtain ⟨x, hx⟩ : ∃ x, g.nd[setN g 1 i]? = some x := ⟨_, List.getElem?_eq_getElem a2⟩
        have hxd : g.nd.getD (setN g 1 i) nd0 = x := by rw [List.getD_eq_getElem?_getD, hx]; rfl
        rw [hxd] at a5
        have hlt : ((q15z g 1).take i).length = i := by rw [List.length_take, q0y0]; omega
        simp -implicitDefEqProofs only [go_sem, evR, ints, rows, rat, rats, nodes, q0qa, a1, q0kz hx, ← a5, decide_eq_true (show (i : Int) < ((sets g 1).length : Int) by omega), List.getElem?_cons_zero, List.getElem?_cons_succ]
        repeat (first | refine ⟨by omega, ?_⟩ | refine ⟨by rw [q0l0]; omega, ?_⟩)
        refine ⟨_, Weak.open 111 4 501 rfl rfl rfl (by decide) rfl, ?_⟩
        simp -implicitDefEqProofs only [go_sem, evR, ints, rows, rat, rats, q0qa, q0jc, opR, Nat.reduceBEq]
        repeat (first | refine ⟨by omega, ?_⟩ | refine ⟨by rw [q0l0]; omega, ?_⟩)
        refine ⟨⟨by omega, ⟨by decide, ?_⟩, (((q09v.refl _ _ _).upd _ (.inl (by simp))).upd _ (.inl (by simp))).upd _ (.inr rfl)⟩, ((q09v.refl _ _ _).upd _ (.inl (by simp))).upd _ (.inr rfl)⟩
        refine ⟨_, Weak.open 111 6 502 rfl rfl rfl (by decide) rfl, ?_⟩
        simp -implicitDefEqProofs only [go_sem, evR, ints, rows, rat, rats, q0qa, q0jc, opR, Nat.reduceBEq]
        repeat (first | refine ⟨by omega, ?_⟩ | refine ⟨by rw [q0l0]; omega, ?_⟩)
        refine ⟨⟨by omega, ⟨by decide, ?_⟩, (((q09v.refl _ _ _).upd _ (.inl (by simp))).upd _ (.inl (by simp))).upd _ (.inr rfl)⟩, ((q09v.refl _ _ _).upd _ (.inl (by simp))).upd _ (.inr rfl)⟩
        refine hn2 _ (i + 1) (Weak.of _ _ [some 1, some 111] (by simp) (by simp) ?_ ?_) (by omega) (by omega)
        · simp -implicitDefEqProofs only [ints, rows, Nat.reduceBEq, wkR, Nat.reduceEqDiff, ↓reduceIte, wrR, nodes, q0lb h9 (by omega)]
        · refine ⟨⟨_, rfl, .refl _⟩, rfl, ⟨_, rfl, ?_⟩, rfl, trivial⟩
          simp only [q0y1 h9, q0qa, List.map_append, List.map_cons, List.map_nil, intsO, List.map_replicate]; exact .refl _
      · have hil : i = (sets g 1).length := by omega
        have hta : (q15z g 1).take i = q15z g 1 := List.take_of_length_le (by rw [q0y0]; omega)
        simp -implicitDefEqProofs only [go_sem, evR, ints, rows, rat, rats, nodes, q0qa, hta, decide_eq_false (show ¬ (i : Int) < ((sets g 1).length : Int) by omega)]
        refine he2 _ _ ?_
        simp -implicitDefEqProofs only [go_sem, evR, ints, rows, rat, rats]
        refine hn _ 2 (Weak.of _ _ [some 1, some 111] (by simp) (by simp) ?_ ?_) (by omega) (by omega)
        · simp -implicitDefEqProofs only [ints, rows, Nat.reduceBEq, wkR, Nat.reduceEqDiff, ↓reduceIte, wrR, nodes, w2']
        · exact ⟨⟨_, rfl, .refl _⟩, rfl, ⟨_, rfl, .refl _⟩, rfl, trivial⟩
    | 2, _ =>
      simp -implicitDefEqProofs only [go_sem, evR, ints, rows, rat, rats, rrC, nodes, q0qa, decide_eq_false (show ¬ (2 : Int) < 2 by omega), Int.natCast_zero, Int.cast_ofNat_Int]
      refine he _ _ ?_
      simp -implicitDefEqProofs only [go_sem, evR, ints, rows, rat, rats, rrC, rsB, q15i, nodes, q0qa]
end
def pwrK (l : List Nd) (ch : List Int) (k : Nat) : Int := (ch.take k).foldl (fun d (c : Int) => max d (dep l l.length c.toNat)) 0
theorem q0oo {l : List Nd} {ch : List Int} {k : Nat} {c : Int} (h : ch[k]? = some c) : pwrK l ch (k + 1) = max (pwrK l ch k) (dep l l.length c.toNat) := by
  simp only [pwrK, q0uj h, List.foldl_append, List.foldl_cons, List.foldl_nil]
theorem q0om {g : Gm} (hg : q0fl g = true) {n : Nat} (hn : n < g.nd.length) (h2 : (g.nd.getD n nd0).p ≠ 2) : pwrK g.nd (g.nd.getD n nd0).ch (g.nd.getD n nd0).ch.length = q144 g n := by
  obtain ⟨p1, p2, p3, p4, p5⟩ := q0fn hg
  obtain ⟨t1, t2, t3, t4⟩ := q0g0 p1
  obtain ⟨e1, e2, e3⟩ := q145 hg hn h2
  have hx : g.nd[n]? = some (g.nd.getD n nd0) := by rw [List.getD_eq_getElem?_getD, List.getElem?_eq_getElem hn]; rfl
  have hch := q0kp (t2 n _ hx)
  obtain ⟨F, hF⟩ : ∃ F, g.nd.length = F + 1 := ⟨g.nd.length - 1, by omega⟩
  have e4 : dep g.nd (F + 1) n = ((g.nd.getD n nd0).ch.foldl (fun d c => max d (dep g.nd F c.toNat)) 0) + 1 := by
    rw [dep]; exact if_neg h2
  rw [hF, e4] at e2
  have e5 : (g.nd.getD n nd0).ch.foldl (fun d (c : Int) => max d (dep g.nd g.nd.length c.toNat)) 0 = (g.nd.getD n nd0).ch.foldl (fun d c => max d (dep g.nd F c.toNat)) 0 := by
    refine q09m _ _ fun b c hc => ?_
    have := hch c hc
    rw [q07y t2 g.nd.length F c.toNat (by omega) (by omega)]
  rw [pwrK, List.take_of_length_le (Nat.le_refl _), e5]
  omega
theorem q0on {g : Gm} (hg : q0fl g = true) {n : Nat} (hn : n < g.nd.length) (h2 : (g.nd.getD n nd0).p ≠ 2) (k : Nat) : 0 <= pwrK g.nd (g.nd.getD n nd0).ch k /\ pwrK g.nd (g.nd.getD n nd0).ch k <= 4 := by
  obtain ⟨e1, e2, e3⟩ := q145 hg hn h2
  unfold pwrK
  have h : ∀ (cs : List Int) (a : Int), (∀ c ∈ cs, dep g.nd g.nd.length c.toNat <= 4) -> 0 <= a /\ a <= 4 -> 0 <= cs.foldl (fun d (c : Int) => max d (dep g.nd g.nd.length c.toNat)) a /\ cs.foldl (fun d (c : Int) => max d (dep g.nd g.nd.length c.toNat)) a <= 4 := by
    intro cs
    induction cs with
    | nil => intro a _ h; exact h
    | cons c cs ih => intro a h ha; exact ih _ (fun c' hc' => h c' (by simp [hc'])) (by have := h c (by simp); show 0 <= max a (dep g.nd g.nd.length c.toNat) /\ max a (dep g.nd g.nd.length c.toNat) <= 4; omega)
  exact h _ _ (fun c hc => by have := (e3 c (List.mem_of_mem_take hc)).2.2; omega) (by omega)
def cntW (g : Gm) (s t : List (List Int)) (pl : Int) (n c m : Nat) : List Int := (g.nd.getD n nd0).ch.map fun k => cntN g s t pl n c k.toNat m
theorem q06q (g : Gm) (s t : List (List Int)) (pl : Int) (n c m : Nat) : (cntW g s t pl n c m).length = (g.nd.getD n nd0).ch.length := by simp [cntW]
theorem q06p {g : Gm} {s t : List (List Int)} {pl : Int} {n c m k : Nat} {x : Int} (h : (g.nd.getD n nd0).ch[k]? = some x) : (cntW g s t pl n c m)[k]? = some (cntN g s t pl n c x.toNat m) := by rw [cntW, List.getElem?_map, h]; rfl
theorem q06s (g : Gm) (s t : List (List Int)) (pl : Int) (n c : Nat) : cntW g s t pl n c 0 = List.replicate (g.nd.getD n nd0).ch.length 0 := by
  unfold cntW
  generalize (g.nd.getD n nd0).ch = l
  induction l with
  | nil => rfl
  | cons x l ih => rw [List.map_cons, ih]; rfl
theorem q06r {g : Gm} {s t : List (List Int)} {pl : Int} {n c m : Nat} (h : rchW g s t pl n c m = 0) : cntW g s t pl n c (m + 1) = cntW g s t pl n c m := by
  unfold cntW
  refine List.map_congr_left fun k _ => ?_
  rw [q148, cntF, h, Int.zero_mul, Int.add_zero]
theorem q0r2 {α : Type} {l : List α} {i : Nat} {x : α} (h : l[i]? = some x) : l.set i x = l := by
  obtain ⟨h1, rfl⟩ := List.getElem?_eq_some_iff.1 h
  exact List.set_getElem_self h1
def evT (g : Gm) (s t : List (List Int)) : T := .pin [.sh 5 (chunk q0lu g.nd), .sh 1 (g.w.map ints), .sh 1 (g.v.map ints), .sh 1 ((ownL g 0).map T.i), .sh 1 ((ownL g 1).map T.i), .sh 1 (s.map ints), .sh 1 (t.map ints), .sh 1 ((parN g.nd g.nd.length).map T.i)] 0
section
attribute [-go_sem] q0i5 q0id fldC lenC idxC q0ip q0lp
set_option maxHeartbeats 2000000 in
theorem q0f4 {g : Gm} (hg : q0fl g = true) {s t : List (List Int)} (hs : q0nw g s 0) (ht : q0nw g t 1) {R Z U V : List (List Int)} {B : Int} (hR : okM g 0 B R) (hZ : okM g 0 B Z) (hB : B <= 30000000000000000) {i : Nat} (hi : i < (sets g 0).length) :
    Fun Try.prog 210 [.box [nodes g.nd, rows g.w, rows g.v, q0qa R, q0qa U, q0qa Z, q0qa V]] [.own 1000000000, .t (evT g s t), .t (.i 0), .t (.i i), .t (.i (setN g 0 i)), .t (.i (setC g 0 i))] fun o q => o = [.box [nodes g.nd, rows g.w, rows g.v, q0qa (R.set i (rowR g s t 0 R i)), q0qa U, q0qa (Z.set i (rowS g s t 0 Z i)), q0qa V]] /\ q = .tup [] := by
  obtain ⟨p1, p2, p3, p4, p5⟩ := q0fn hg
  obtain ⟨t1, t2, t3, t4⟩ := q0g0 p1
  obtain ⟨a1, a2, a3, a4, a5, a6⟩ := q15l hi
  obtain ⟨r, hr, hr', hrl, hrb⟩ := q150 hR hi
  obtain ⟨z, hz, hz', hzl, hzb⟩ := q150 hZ hi
  obtain ⟨w1, w2, w3, w4⟩ := q14r hg ((.inl rfl) : (0 : Int) = 0 ∨ (0 : Int) = 1) (q153 hs ht (.inl rfl)).1 hi
  obtain ⟨f1, f2⟩ := q15f hg hs ht (.inl rfl) hR hi
  obtain ⟨f3, f4⟩ := q15g hg hs ht (.inl rfl) hZ hi
  have hmw : wayP g (q10l 0 s t) 0 (setC g 0 i) (setN g 0 i) = wayP g (q10l 0 s t) 0 (if (0 : Int) = 0 then setC g 0 i else setC g 0 i) (setN g 0 i) := by split <;> rfl
  have hRd : rowR g s t 0 R i = updR r (cnts g s t 0 (setN g 0 i) (setC g 0 i)) (q14l ((q10l 0 s t).getD i []) (cnts g s t 0 (setN g 0 i) (setC g 0 i))) := by rw [rowR, hr']
  have hSd : rowS g s t 0 Z i = updW z ((q10l 0 s t).getD i []) (wayP g (q10l 0 s t) 0 (setC g 0 i) (setN g 0 i)) := by rw [rowS, hz']
  generalize hqq : (q10l 0 s t).getD i [] = q at w1 w2 w3 w4 hRd hSd
  generalize setN g 0 i = n at a1 a2 a4 a5 hRd hSd hmw ⊢
  generalize setC g 0 i = c at a1 a3 hRd hSd hmw ⊢
  have hn := a2
  have hc := a3
  have h2 : (g.nd.getD n nd0).p ≠ 2 := by omega
  obtain ⟨e1, e2, e3⟩ := q145 hg hn h2
  have hpk := q0on hg hn h2
  have hpa := q0om hg hn h2
  obtain ⟨x, hx⟩ : ∃ x, g.nd[n]? = some x := ⟨_, List.getElem?_eq_getElem hn⟩
  have hxd : g.nd.getD n nd0 = x := by rw [List.getD_eq_getElem?_getD, hx]; rfl
  have hxl := (q0ks (t2 _ _ hx)).2.2.2.2.2
  have hch := q0kp (t2 n _ hx)
  have hcvl := q06q g s t 0 n c
  have hcvg : ∀ (k m : Nat) (y : Int), x.ch[k]? = some y -> (cntW g s t 0 n c m)[k]? = some (cntN g s t 0 n c y.toNat m) := fun k m y h => q06p (by rw [hxd]; exact h)
  have hcv0 := q06s g s t 0 n c
  have hcvA : cntW g s t 0 n c g.w.length = cnts g s t 0 n c := rfl
  rw [hxd] at e3 a5 hcv0 hpa hpk hcvl
  have hcb := q149 hg hs ht ((.inl rfl) : (0 : Int) = 0 ∨ (0 : Int) = 1) hn h2 hc
  have hcl := q14b g s t 0 n c
  rw [hxd] at hcl
  refine q0a6 (by simp) ?_
  simp -implicitDefEqProofs only [go_sem, evR, ints, rows, rat, rats, q038, nodes, q0qa, q0kz hx, opR, Nat.reduceBEq]
  repeat (first | refine ⟨by omega, ?_⟩ | refine ⟨by rw [q0l0]; omega, ?_⟩)
  refine SemC.loopR (σ := Nat) (fun k => St.of [(0, .own 1000000000), (1, .t (evT g s t)), (2, .t (.i 0)), (3, .t (.i i)), (4, .t (.i n)), (5, .t (.i c)), (12, .t (ints x.ch)), (13, .t (.i (pwrK g.nd x.ch k))), (41, .t (ints x.ch)), (42, .t (.i x.ch.length)), (43, .t (.i k))] [(1000000000, .box [nodes g.nd, rows g.w, rows g.v, q0qa R, q0qa U, q0qa Z, q0qa V])]) (fun k => k <= x.ch.length) (fun k => x.ch.length - k) 0 (Weak.of _ _ [some 1000000000] (by simp) (by simp) ?_ ?_) (by omega) fun k hk Q1 hn1 hr1 he1 => ?_
  · simp -implicitDefEqProofs only [ints, rows, Nat.reduceBEq, wkR, Nat.reduceEqDiff, ↓reduceIte, wrR, nodes, evT, show pwrK g.nd x.ch 0 = 0 from rfl]
  · exact ⟨⟨_, rfl, .refl _⟩, rfl, trivial⟩
  rcases Nat.lt_or_ge k x.ch.length with h9 | h9
  · obtain ⟨y, hy⟩ : ∃ y, x.ch[k]? = some y := ⟨_, List.getElem?_eq_getElem h9⟩
    obtain ⟨y0, y1, y2⟩ := e3 y (List.mem_of_getElem? hy)
    simp -implicitDefEqProofs only [go_sem, evR, ints, rows, rat, rats, nodes, q0qa, evT, hy, decide_eq_true (show (k : Int) < (x.ch.length : Int) by omega), opR, Nat.reduceBEq]
    repeat (first | refine ⟨by omega, ?_⟩ | refine ⟨by rw [q0l0]; omega, ?_⟩)
    have hd := q080 (q0ek t2 (by omega) g.nd.length y.toNat (by omega) y1 (by omega))
    rw [show ((y.toNat : Nat) : Int) = y by omega] at hd
    refine q006.pure hd [] rfl Try.call164 ?_ (by first | trivial | simp [T.noSh, T.noShL, rat]) rfl ?_
    · simp -implicitDefEqProofs only [agR, Nat.reduceLeDiff, Nat.reduceSub, vaR, go_sem, ints, rows, rat, rats, q0p1, rtR, intsO, q0qa]
    simp -implicitDefEqProofs only [go_sem, evR, ints, rows, rat, rats]
    refine hn1 _ (k + 1) (Weak.of _ _ [some 1000000000] (by simp) (by simp) ?_ ?_) (by omega) (by omega)
    · simp -implicitDefEqProofs only [ints, rows, Nat.reduceBEq, wkR, Nat.reduceEqDiff, ↓reduceIte, wrR, nodes, evT, q0lb h9 (show x.ch.length <= 1000000000000 by omega), q0oo hy]
    · exact ⟨⟨_, rfl, .refl _⟩, rfl, trivial⟩
  have hkl : k = x.ch.length := by omega
  subst hkl
  rw [hpa]
  simp -implicitDefEqProofs only [go_sem, evR, ints, rows, rat, rats, nodes, q0qa, evT, decide_eq_false (show ¬ (x.ch.length : Int) < (x.ch.length : Int) by omega), opR, Nat.reduceBEq]
  refine he1 _ _ ?_
  simp -implicitDefEqProofs only [go_sem, evR, ints, rows, rat, rats, q0jc, opR, Nat.reduceBEq]
  repeat (first | refine ⟨by omega, ?_⟩ | refine ⟨by rw [q0l0]; omega, ?_⟩)
  refine SemC.loopR (σ := Nat) (fun o => St.of [(0, .own 1000000000), (1, .t (evT g s t)), (2, .t (.i 0)), (3, .t (.i i)), (4, .t (.i n)), (5, .t (.i c)), (12, .t (ints x.ch)), (13, .t (.i (q144 g n))), (16, .own 98), (65, .t (.i g.w.length)), (66, .t (.i o))] [(1000000000, .box [nodes g.nd, rows g.w, rows g.v, q0qa R, q0qa U, q0qa Z, q0qa V]), (98, intsO (cntW g s t 0 n c o))]) (fun o => o <= g.w.length) (fun o => g.w.length - o) 0 (Weak.of _ _ [some 1000000000, some 59] (by simp) (by simp) ?_ ?_) (by omega) fun o ho Q2 hn2 hr2 he2 => ?_
  · simp -implicitDefEqProofs only [ints, rows, Nat.reduceBEq, wkR, Nat.reduceEqDiff, ↓reduceIte, wrR, nodes, evT]
  · refine ⟨⟨_, rfl, .refl _⟩, rfl, ⟨_, rfl, ?_⟩, rfl, trivial⟩
    rw [hcv0, intsO, List.map_replicate]; exact .refl _
  rcases Nat.lt_or_ge o g.w.length with h8 | h8
  · obtain ⟨rw0, zw, hr0, hzw, hz0, hz9⟩ := q0cn hg hc h8
    have hrwl : rw0.length = g.w.length := ((q0js.1 p3).2 rw0 (List.mem_of_getElem? hr0)).1
    have hwz : wAt g 0 c o = zw := by
      unfold wAt
      simp only [List.getD_eq_getElem?_getD, hr0, hzw, Option.getD_some, if_pos]
    have hot := (q153 hs ht ((.inl rfl) : (0 : Int) = 0 ∨ (0 : Int) = 1)).2
    have hr1' := q158 (c := c) hg hs ht ((.inl rfl) : (0 : Int) = 0 ∨ (0 : Int) = 1) hn h8
    have hpw := q157 (p := (wayL g.nd n).length) (by omega)
    have hcall := q0f8 hg hs ht ((.inr rfl) : (1 : Int) = 0 ∨ (1 : Int) = 1) (n := n) (a := c) (b := o) hn (by omega) (by omega)
    rw [show (if (1 : Int) = 0 then c else o) = o from rfl] at hcall
    have hrw : 1 * zw * wayP g (q10l 1 s t) 1 o n = rchW g s t 0 n c o := by rw [rchW, hwz]; rfl
    simp -implicitDefEqProofs only [go_sem, evR, ints, rows, rat, rats, nodes, q0qa, intsO, evT, hr0, hzw, decide_eq_true (show (o : Int) < (g.w.length : Int) by omega), show ((0 : Int) == 1) = false from rfl, show ((1 : Int) == 1) = true from rfl, show IntKind.i64.wrap (1 - 0) = 1 from rfl, show IntKind.i64.wrap (1 - 1) = 0 from rfl, opR, Nat.reduceBEq]
    repeat (first | refine ⟨by omega, ?_⟩ | refine ⟨by rw [q0l0]; omega, ?_⟩)
    refine q002.ref hcall [] [] rfl Try.call226 (by simp) ?_ (by simp) (fun e R' hR => ?_) (.inl rfl) ?_
    · simp -implicitDefEqProofs only [srR, Nat.reduceEqDiff, ↓reduceIte, ints, rows, intsO, q0qa]
    · simp -implicitDefEqProofs only [agR, Nat.reduceLeDiff, Nat.reduceSub, vaR, go_sem, ints, rows, rat, rats, q0p1, rtR, intsO, q0qa]
    simp -implicitDefEqProofs only [clR, Nat.reduceLeDiff, go_sem, evR, rat, wrap64 (n := 1 * zw) (by omega) (by omega), hrw, wrap64 (n := rchW g s t 0 n c o) (by omega) (by omega)]
    refine ⟨⟨fun h5 => ?_, fun h5 => ?_⟩, q09v.refl _ _ _⟩
    · have h5 : rchW g s t 0 n c o = 0 := by simpa using h5
      refine hn2 _ (o + 1) (Weak.of _ _ [some 1000000000, some 98] (by simp) (by simp) ?_ ?_) (by omega) (by omega)
      · simp -implicitDefEqProofs only [ints, rows, Nat.reduceBEq, wkR, Nat.reduceEqDiff, ↓reduceIte, wrR, nodes, evT, q0lb h8 (by omega)]
      · refine ⟨⟨_, rfl, .refl _⟩, rfl, ⟨_, rfl, ?_⟩, rfl, trivial⟩
        rw [q06r h5]; exact .refl _
    · refine SemC.loopR (σ := Nat) (fun k => St.of [(0, .own 1000000000), (1, .t (evT g s t)), (2, .t (.i 0)), (3, .t (.i i)), (4, .t (.i n)), (5, .t (.i c)), (12, .t (ints x.ch)), (13, .t (.i (q144 g n))), (16, .own 98), (18, .t (.i c)), (19, .t (.i o)), (21, .t (.i (rchW g s t 0 n c o))), (65, .t (.i g.w.length)), (66, .t (.i o)), (98, .t (ints x.ch)), (99, .t (.i x.ch.length)), (100, .t (.i k))] [(1000000000, .box [nodes g.nd, rows g.w, rows g.v, q0qa R, q0qa U, q0qa Z, q0qa V]), (98, intsO (mixL (cntW g s t 0 n c (o + 1)) (cntW g s t 0 n c o) k))]) (fun k => k <= x.ch.length) (fun k => x.ch.length - k) 0 (Weak.of _ _ [some 1000000000, some 98] (by simp) (by simp) ?_ ?_) (by omega) fun k hk Q3 hn3 hr3 he3 => ?_
      · simp -implicitDefEqProofs only [ints, rows, Nat.reduceBEq, wkR, Nat.reduceEqDiff, ↓reduceIte, wrR, nodes, evT]
      · refine ⟨⟨_, rfl, .refl _⟩, rfl, ⟨_, rfl, ?_⟩, rfl, trivial⟩
        rw [q14w]; exact .refl _
      have hcl1 : (cntW g s t 0 n c (o + 1)).length = (cntW g s t 0 n c o).length := by rw [q06q, q06q]
      have hcl0 : (cntW g s t 0 n c o).length = x.ch.length := by rw [q06q, hxd]
      rcases Nat.lt_or_ge k x.ch.length with h7 | h7
      · obtain ⟨y, hy⟩ : ∃ y, x.ch[k]? = some y := ⟨_, List.getElem?_eq_getElem h7⟩
        obtain ⟨y0, y1, y2⟩ := e3 y (List.mem_of_getElem? hy)
        have hym : y ∈ (g.nd.getD n nd0).ch := by rw [hxd]; exact List.mem_of_getElem? hy
        have hsu := q148 g s t 0 n c y.toNat o
        have k1 := q147 hg hs ht ((.inl rfl) : (0 : Int) = 0 ∨ (0 : Int) = 1) hn h2 hc hym (m := o) (by omega)
        have k2 := q147 hg hs ht ((.inl rfl) : (0 : Int) = 0 ∨ (0 : Int) = 1) hn h2 hc hym (m := o + 1) (by omega)
        have k3 := q146 hg hs ht ((.inl rfl) : (0 : Int) = 0 ∨ (0 : Int) = 1) hn h2 hc h8 hym
        have hval := q0xc (q0f7 hg hs ht hc h8 g.nd.length y.toNat (q144 g n) (by omega) y1 y2 (by omega))
        rw [show ((y.toNat : Nat) : Int) = y by omega] at hval
        have hcf : rchW g s t 0 n c o * val g s t g.nd.length y.toNat c o (q144 g n) = cntF g s t 0 n c y.toNat o := rfl
        have hg1 : (mixL (cntW g s t 0 n c (o + 1)) (cntW g s t 0 n c o) k)[k]? = some (cntN g s t 0 n c y.toNat o) := by
          rw [q14t hcl1 (by omega)]; exact hcvg k o y hy
        have hml : (mixL (cntW g s t 0 n c (o + 1)) (cntW g s t 0 n c o) k).length = x.ch.length := by rw [q14u hcl1 (by omega), hcl0]
        simp -implicitDefEqProofs only [go_sem, evR, ints, rows, rat, rats, nodes, q0qa, intsO, evT, hy, hg1, hml, decide_eq_true (show (k : Int) < (x.ch.length : Int) by omega), opR, Nat.reduceBEq]
        repeat (first | refine ⟨by omega, ?_⟩ | refine ⟨by rw [q0l0]; omega, ?_⟩)
        refine q002.ref hval [] [] rfl Try.call180 (by simp) ?_ (by simp) (fun e R' hR => ?_) (.inl rfl) ?_
        · simp -implicitDefEqProofs only [srR, Nat.reduceEqDiff, ↓reduceIte, ints, rows, intsO, q0qa]
        · simp -implicitDefEqProofs only [agR, Nat.reduceLeDiff, Nat.reduceSub, vaR, go_sem, ints, rows, rat, rats, q0p1, rtR, intsO, q0qa]
        simp -implicitDefEqProofs only [clR, Nat.reduceLeDiff, go_sem, evR, rat, hml, hcf, wrap64 (n := cntF g s t 0 n c y.toNat o) (by omega) (by omega), ← hsu, wrap64 (n := cntN g s t 0 n c y.toNat (o + 1)) (by omega) (by omega)]
        refine ⟨⟨by omega, by omega, by omega, hn3 _ (k + 1) (Weak.of _ _ [some 1000000000, some 98] (by simp) (by simp) ?_ ?_) (by omega) (by omega)⟩, q09v.refl _ _ _⟩
        · simp -implicitDefEqProofs only [ints, rows, Nat.reduceBEq, wkR, Nat.reduceEqDiff, ↓reduceIte, wrR, nodes, evT, q0lb h7 (show x.ch.length <= 1000000000000 by omega)]
        · refine ⟨⟨_, rfl, .refl _⟩, rfl, ⟨_, rfl, ?_⟩, rfl, trivial⟩
          rw [← q14v hcl1 (hcvg k (o + 1) y hy), intsO, List.map_set]; exact .refl _
      · have hall : mixL (cntW g s t 0 n c (o + 1)) (cntW g s t 0 n c o) k = cntW g s t 0 n c (o + 1) := by
          have := q14s hcl1
          rw [hcl0] at this
          rw [show k = x.ch.length by omega]; exact this
        rw [hall]
        simp -implicitDefEqProofs only [go_sem, evR, ints, rows, rat, rats, nodes, q0qa, intsO, evT, decide_eq_false (show ¬ (k : Int) < (x.ch.length : Int) by omega), opR, Nat.reduceBEq]
        refine he3 _ _ ?_
        simp -implicitDefEqProofs only [go_sem, evR, ints, rows, rat, rats]
        refine hn2 _ (o + 1) (Weak.of _ _ [some 1000000000, some 98] (by simp) (by simp) ?_ ?_) (by omega) (by omega)
        · simp -implicitDefEqProofs only [ints, rows, Nat.reduceBEq, wkR, Nat.reduceEqDiff, ↓reduceIte, wrR, nodes, evT, q0lb h8 (by omega)]
        · exact ⟨⟨_, rfl, .refl _⟩, rfl, ⟨_, rfl, .refl _⟩, rfl, trivial⟩
  have hol : o = g.w.length := by omega
  subst hol
  rw [hcvA]
  simp -implicitDefEqProofs only [go_sem, evR, ints, rows, rat, rats, nodes, q0qa, intsO, evT, decide_eq_false (show ¬ (g.w.length : Int) < (g.w.length : Int) by omega), opR, Nat.reduceBEq]
  refine he2 _ _ ?_
  have hqi : (q10l 0 s t)[i]? = some q := w1
  have hqs : s[i]? = some q := hqi
  have hqsl := (List.getElem?_eq_some_iff.1 hqs).1
  simp -implicitDefEqProofs only [go_sem, evR, ints, rows, rat, rats, evT, hqs, opR, Nat.reduceBEq]
  repeat (first | refine ⟨by omega, ?_⟩ | refine ⟨by rw [q0l0]; omega, ?_⟩)
  refine SemC.loopR (σ := Nat) (fun k => St.of [(0, .own 1000000000), (1, .t (evT g s t)), (2, .t (.i 0)), (3, .t (.i i)), (4, .t (.i n)), (5, .t (.i c)), (16, .own 98), (24, .t (ints q)), (25, .t (.i (q14m q (cnts g s t 0 n c) k))), (130, .t (ints q)), (131, .t (.i q.length)), (132, .t (.i k))] [(1000000000, .box [nodes g.nd, rows g.w, rows g.v, q0qa R, q0qa U, q0qa Z, q0qa V]), (98, intsO (cnts g s t 0 n c))]) (fun k => k <= q.length) (fun k => q.length - k) 0 (Weak.of _ _ [some 1000000000, some 98] (by simp) (by simp) ?_ ?_) (by omega) fun k hk Q4 hn4 hr4 he4 => ?_
  · simp -implicitDefEqProofs only [ints, rows, Nat.reduceBEq, wkR, Nat.reduceEqDiff, ↓reduceIte, wrR, nodes, evT, q14p]
  · exact ⟨⟨_, rfl, .refl _⟩, rfl, ⟨_, rfl, .refl _⟩, rfl, trivial⟩
  rcases Nat.lt_or_ge k q.length with h9 | h9
  · obtain ⟨y, hy⟩ : ∃ y, q[k]? = some y := ⟨_, List.getElem?_eq_getElem h9⟩
    obtain ⟨v, hv⟩ : ∃ v, (cnts g s t 0 n c)[k]? = some v := ⟨_, List.getElem?_eq_getElem (by omega)⟩
    have hyb := w3 y (List.mem_of_getElem? hy)
    have hvb := hcb v (List.mem_of_getElem? hv)
    obtain ⟨m1, m2⟩ := q0kl hyb.1 hvb.1 hvb.2
    have hms := q14o hy hv
    have hm1 := q14n w3 hcb k
    have hm2 := q14n w3 hcb (k + 1)
    simp -implicitDefEqProofs only [go_sem, evR, ints, rows, rat, rats, nodes, q0qa, intsO, evT, hy, hv, decide_eq_true (show (k : Int) < (q.length : Int) by omega), opR, Nat.reduceBEq]
    repeat (first | refine ⟨by omega, ?_⟩ | refine ⟨by rw [q0l0]; omega, ?_⟩)
    refine hn4 _ (k + 1) (Weak.of _ _ [some 1000000000, some 98] (by simp) (by simp) ?_ ?_) (by omega) (by omega)
    · simp -implicitDefEqProofs only [ints, rows, Nat.reduceBEq, wkR, Nat.reduceEqDiff, ↓reduceIte, wrR, nodes, evT, q0lb h9 (show q.length <= 1000000000000 by omega), wrap64 (n := y * v) (by omega) (by omega), ← hms, wrap64 (n := q14m q (cnts g s t 0 n c) (k + 1)) (by omega) (by omega)]
    · exact ⟨⟨_, rfl, .refl _⟩, rfl, ⟨_, rfl, .refl _⟩, rfl, trivial⟩
  have hkq : k = (cnts g s t 0 n c).length := by omega
  subst hkq
  simp -implicitDefEqProofs only [go_sem, evR, ints, rows, rat, rats, nodes, q0qa, intsO, evT, decide_eq_false (show ¬ ((cnts g s t 0 n c).length : Int) < (q.length : Int) by omega), opR, Nat.reduceBEq]
  refine he4 _ _ ?_
  simp -implicitDefEqProofs only [go_sem, evR, ints, rows, rat, rats, evT]
  have hway := q0f8 hg hs ht ((.inl rfl) : (0 : Int) = 0 ∨ (0 : Int) = 1) (n := n) (a := c) (b := c) hn hc hc
  rw [← hmw] at hway
  have hwb := q154 hg (q153 hs ht ((.inl rfl) : (0 : Int) = 0 ∨ (0 : Int) = 1)).1 hc hn h2
  have hMb := q14n w3 hcb (cnts g s t 0 n c).length
  have hMd : q14l q (cnts g s t 0 n c) = q14m q (cnts g s t 0 n c) (cnts g s t 0 n c).length := rfl
  refine q006.pure hway [] rfl Try.call226 ?_ (by first | trivial | simp [T.noSh, T.noShL, rat]) rfl ?_
  · simp -implicitDefEqProofs only [agR, Nat.reduceLeDiff, Nat.reduceSub, vaR, go_sem, ints, rows, rat, rats, q0p1, rtR, intsO, q0qa]
  simp -implicitDefEqProofs only [go_sem, evR, ints, rows, rat, rats]
  generalize wayP g (q10l 0 s t) 0 c n = w at hwb hSd ⊢
  rw [← hMd]
  rw [← hMd] at hMb
  generalize q14l q (cnts g s t 0 n c) = M at hMb hRd ⊢
  generalize cnts g s t 0 n c = C at hcb hcl hMb hRd hqsl ⊢
  generalize rowR g s t 0 R i = nr at f1 f2 hRd ⊢
  generalize rowS g s t 0 Z i = nz at f3 f4 hSd ⊢
  have hnl : nr.length = r.length := by omega
  have hnz : nz.length = z.length := by omega
  have hiR : i < R.length := (List.getElem?_eq_some_iff.1 hr).1
  have hiZ : i < Z.length := (List.getElem?_eq_some_iff.1 hz).1
  refine SemC.loopR (σ := Nat) (fun k => St.of [(0, .own 1000000000), (1, .t (evT g s t)), (2, .t (.i 0)), (3, .t (.i i)), (4, .t (.i n)), (5, .t (.i c)), (16, .own 98), (25, .t (.i M)), (28, .t (.i w)), (152, .t (ints q)), (153, .t (.i q.length)), (154, .t (.i k))] [(1000000000, .box [nodes g.nd, rows g.w, rows g.v, q0qa (R.set i (mixL nr r k)), q0qa U, q0qa (Z.set i (mixL nz z k)), q0qa V]), (98, intsO C)]) (fun k => k <= q.length) (fun k => q.length - k) 0 (Weak.of _ _ [some 1000000000, some 98] (by simp) (by simp) ?_ ?_) (by omega) fun k hk Q5 hn5 hr5 he5 => ?_
  · simp -implicitDefEqProofs only [ints, rows, Nat.reduceBEq, wkR, Nat.reduceEqDiff, ↓reduceIte, wrR, nodes, evT]
  · refine ⟨⟨_, rfl, ?_⟩, rfl, ⟨_, rfl, .refl _⟩, rfl, trivial⟩
    rw [q14w, q14w, q0r2 hr, q0r2 hz]; exact .refl _
  rcases Nat.lt_or_ge k q.length with h9 | h9
  · obtain ⟨y, hy⟩ : ∃ y, q[k]? = some y := ⟨_, List.getElem?_eq_getElem h9⟩
    obtain ⟨v, hv⟩ : ∃ v, C[k]? = some v := ⟨_, List.getElem?_eq_getElem (by omega)⟩
    obtain ⟨x0, hx0⟩ : ∃ x0, r[k]? = some x0 := ⟨_, List.getElem?_eq_getElem (by omega)⟩
    obtain ⟨x1, hx1⟩ : ∃ x1, z[k]? = some x1 := ⟨_, List.getElem?_eq_getElem (by omega)⟩
    have hyb := w3 y (List.mem_of_getElem? hy)
    have hvb := hcb v (List.mem_of_getElem? hv)
    have hb0 := hrb x0 (List.mem_of_getElem? hx0)
    have hb1 := hzb x1 (List.mem_of_getElem? hx1)
    have hwy : 0 <= y * w /\ y * w <= 60 * 12960000 := ⟨Int.mul_nonneg hyb.1 hwb.1, Int.mul_le_mul hyb.2 hwb.2 hwb.1 (by decide)⟩
    have hnr1 : nr[k]? = some (x0 + (60 * v - M)) := by rw [hRd]; exact q15t hx0 hv
    have hnz1 : nz[k]? = some (x1 + y * w) := by rw [hSd, Int.mul_comm y w]; exact q15v hx1 hy
    have hg1 : (mixL nr r k)[k]? = some x0 := by rw [q14t hnl (by omega)]; exact hx0
    have hg2 : (mixL nz z k)[k]? = some x1 := by rw [q14t hnz (by omega)]; exact hx1
    have hl1 : (mixL nr r k).length = r.length := q14u hnl (by omega)
    have hl2 : (mixL nz z k).length = z.length := q14u hnz (by omega)
    have hc1 : (List.map intsO (R.set i (mixL nr r k)))[i]? = some (intsO (mixL nr r k)) := by rw [List.getElem?_map, List.getElem?_set_self hiR]; rfl
    have hc2 : (List.map intsO (Z.set i (mixL nz z k)))[i]? = some (intsO (mixL nz z k)) := by rw [List.getElem?_map, List.getElem?_set_self hiZ]; rfl
    have hc3 : ((List.map intsO (R.set i (mixL nr r k))).set i T.any)[i]? = some T.any := List.getElem?_set_self (by rw [List.length_map, List.length_set]; exact hiR)
    have hc4 : ((List.map intsO (Z.set i (mixL nz z k))).set i T.any)[i]? = some T.any := List.getElem?_set_self (by rw [List.length_map, List.length_set]; exact hiZ)
    simp -implicitDefEqProofs only [go_sem, evR, ints, rows, rat, rats, nodes, q0qa, intsO, evT, hy, decide_eq_true (show (k : Int) < (q.length : Int) by omega), opR, Nat.reduceBEq]
    repeat (first | refine ⟨by omega, ?_⟩ | refine ⟨by rw [q0l0]; omega, ?_⟩)
    refine ⟨_, Weak.trans (Weak.open 1000000000 3 501 rfl rfl rfl (by decide) rfl) (Weak.open 501 i 502 rfl hc1 rfl (by decide) rfl), ?_⟩
    simp -implicitDefEqProofs only [go_sem, evR, ints, rows, rat, rats, q0qa, intsO, hg1, hc1, hc3, hl1, hv, List.length_set, opR, Nat.reduceBEq]
    repeat (first | refine ⟨by omega, ?_⟩ | refine ⟨by rw [q0l0]; omega, ?_⟩)
    refine ⟨_, Weak.trans (Weak.close1 501 i 502 rfl rfl (by decide) hc3) (Weak.trans (Weak.close1 1000000000 3 501 rfl rfl (by decide) rfl) (Weak.trans (Weak.open 1000000000 5 503 rfl rfl rfl (by decide) rfl) (Weak.open 503 i 504 rfl hc2 rfl (by decide) rfl))), ?_⟩
    simp -implicitDefEqProofs only [go_sem, evR, ints, rows, rat, rats, q0qa, intsO, hg2, hc2, hc4, hl2, hv, List.length_set, opR, Nat.reduceBEq]
    repeat (first | refine ⟨by omega, ?_⟩ | refine ⟨by rw [q0l0]; omega, ?_⟩)
    have wA : IntKind.i64.wrap (60 * v) = 60 * v := wrap64 (by omega) (by omega)
    have wB : IntKind.i64.wrap (60 * v - M) = 60 * v - M := wrap64 (by omega) (by omega)
    have wC : IntKind.i64.wrap (x0 + (60 * v - M)) = x0 + (60 * v - M) := wrap64 (by omega) (by omega)
    have wD : IntKind.i64.wrap (y * w) = y * w := wrap64 (by omega) (by omega)
    have wE : IntKind.i64.wrap (x1 + y * w) = x1 + y * w := wrap64 (by omega) (by omega)
    refine hn5 _ (k + 1) (Weak.trans (Weak.close1 503 i 504 rfl rfl (by decide) hc4) (Weak.trans (Weak.close1 1000000000 5 503 rfl rfl (by decide) rfl) (Weak.of _ _ [some 1000000000, some 98] (by simp) (by simp) ?_ ?_))) (by omega) (by omega)
    · simp -implicitDefEqProofs only [ints, rows, Nat.reduceBEq, wkR, Nat.reduceEqDiff, ↓reduceIte, wrR, nodes, evT, q0lb h9 (show q.length <= 1000000000000 by omega)]
    · refine ⟨⟨_, rfl, ?_⟩, rfl, ⟨_, rfl, .refl _⟩, rfl, trivial⟩
      rw [← q14v hnl hnr1, ← q14v hnz hnz1]
      simp only [q0qa, intsO, List.map_set, List.set_set, wA, wB, wC, wD, wE, nodes, rows]
      exact .refl _
  · have hkq : k = q.length := by omega
    have m1 : mixL nr r k = nr := by rw [show k = r.length by omega]; exact q14s hnl
    have m2 : mixL nz z k = nz := by rw [show k = z.length by omega]; exact q14s hnz
    rw [m1, m2]
    simp -implicitDefEqProofs only [go_sem, evR, ints, rows, rat, rats, nodes, q0qa, intsO, evT, decide_eq_false (show ¬ (k : Int) < (q.length : Int) by omega), opR, Nat.reduceBEq]
    refine he5 _ _ ?_
    simp -implicitDefEqProofs only [go_sem, evR, ints, rows, rat, rats, q0qa, opR, Nat.reduceBEq]
set_option maxHeartbeats 2000000 in
theorem q0f5 {g : Gm} (hg : q0fl g = true) {s t : List (List Int)} (hs : q0nw g s 0) (ht : q0nw g t 1) {R Z U V : List (List Int)} {B : Int} (hR : okM g 1 B R) (hZ : okM g 1 B Z) (hB : B <= 30000000000000000) {i : Nat} (hi : i < (sets g 1).length) :
    Fun Try.prog 210 [.box [nodes g.nd, rows g.w, rows g.v, q0qa U, q0qa R, q0qa V, q0qa Z]] [.own 1000000000, .t (evT g s t), .t (.i 1), .t (.i i), .t (.i (setN g 1 i)), .t (.i (setC g 1 i))] fun o q => o = [.box [nodes g.nd, rows g.w, rows g.v, q0qa U, q0qa (R.set i (rowR g s t 1 R i)), q0qa V, q0qa (Z.set i (rowS g s t 1 Z i))]] /\ q = .tup [] := by
  obtain ⟨p1, p2, p3, p4, p5⟩ := q0fn hg
  obtain ⟨t1, t2, t3, t4⟩ := q0g0 p1
  obtain ⟨a1, a2, a3, a4, a5, a6⟩ := q15l hi
  obtain ⟨r, hr, hr', hrl, hrb⟩ := q150 hR hi
  obtain ⟨z, hz, hz', hzl, hzb⟩ := q150 hZ hi
  obtain ⟨w1, w2, w3, w4⟩ := q14r hg ((.inr rfl) : (1 : Int) = 0 ∨ (1 : Int) = 1) (q153 hs ht (.inr rfl)).1 hi
  obtain ⟨f1, f2⟩ := q15f hg hs ht (.inr rfl) hR hi
  obtain ⟨f3, f4⟩ := q15g hg hs ht (.inr rfl) hZ hi
  have hmw : wayP g (q10l 1 s t) 1 (setC g 1 i) (setN g 1 i) = wayP g (q10l 1 s t) 1 (if (1 : Int) = 0 then setC g 1 i else setC g 1 i) (setN g 1 i) := by split <;> rfl
  have hRd : rowR g s t 1 R i = updR r (cnts g s t 1 (setN g 1 i) (setC g 1 i)) (q14l ((q10l 1 s t).getD i []) (cnts g s t 1 (setN g 1 i) (setC g 1 i))) := by rw [rowR, hr']
  have hSd : rowS g s t 1 Z i = updW z ((q10l 1 s t).getD i []) (wayP g (q10l 1 s t) 1 (setC g 1 i) (setN g 1 i)) := by rw [rowS, hz']
  generalize hqq : (q10l 1 s t).getD i [] = q at w1 w2 w3 w4 hRd hSd
  generalize setN g 1 i = n at a1 a2 a4 a5 hRd hSd hmw ⊢
  generalize setC g 1 i = c at a1 a3 hRd hSd hmw ⊢
  have hn := a2
  have hc := a3
  have h2 : (g.nd.getD n nd0).p ≠ 2 := by omega
  obtain ⟨e1, e2, e3⟩ := q145 hg hn h2
  have hpk := q0on hg hn h2
  have hpa := q0om hg hn h2
  obtain ⟨x, hx⟩ : ∃ x, g.nd[n]? = some x := ⟨_, List.getElem?_eq_getElem hn⟩
  have hxd : g.nd.getD n nd0 = x := by rw [List.getD_eq_getElem?_getD, hx]; rfl
  have hxl := (q0ks (t2 _ _ hx)).2.2.2.2.2
  have hch := q0kp (t2 n _ hx)
  have hcvl := q06q g s t 1 n c
  have hcvg : ∀ (k m : Nat) (y : Int), x.ch[k]? = some y -> (cntW g s t 1 n c m)[k]? = some (cntN g s t 1 n c y.toNat m) := fun k m y h => q06p (by rw [hxd]; exact h)
  have hcv0 := q06s g s t 1 n c
  have hcvA : cntW g s t 1 n c g.w.length = cnts g s t 1 n c := rfl
  rw [hxd] at e3 a5 hcv0 hpa hpk hcvl
  have hcb := q149 hg hs ht ((.inr rfl) : (1 : Int) = 0 ∨ (1 : Int) = 1) hn h2 hc
  have hcl := q14b g s t 1 n c
  rw [hxd] at hcl
  refine q0a6 (by simp) ?_
  simp -implicitDefEqProofs only [go_sem, evR, ints, rows, rat, rats, q038, nodes, q0qa, q0kz hx, opR, Nat.reduceBEq]
  repeat (first | refine ⟨by omega, ?_⟩ | refine ⟨by rw [q0l0]; omega, ?_⟩)
  refine SemC.loopR (σ := Nat) (fun k => St.of [(0, .own 1000000000), (1, .t (evT g s t)), (2, .t (.i 1)), (3, .t (.i i)), (4, .t (.i n)), (5, .t (.i c)), (12, .t (ints x.ch)), (13, .t (.i (pwrK g.nd x.ch k))), (41, .t (ints x.ch)), (42, .t (.i x.ch.length)), (43, .t (.i k))] [(1000000000, .box [nodes g.nd, rows g.w, rows g.v, q0qa U, q0qa R, q0qa V, q0qa Z])]) (fun k => k <= x.ch.length) (fun k => x.ch.length - k) 0 (Weak.of _ _ [some 1000000000] (by simp) (by simp) ?_ ?_) (by omega) fun k hk Q1 hn1 hr1 he1 => ?_
  · simp -implicitDefEqProofs only [ints, rows, Nat.reduceBEq, wkR, Nat.reduceEqDiff, ↓reduceIte, wrR, nodes, evT, show pwrK g.nd x.ch 0 = 0 from rfl]
  · exact ⟨⟨_, rfl, .refl _⟩, rfl, trivial⟩
  rcases Nat.lt_or_ge k x.ch.length with h9 | h9
  · obtain ⟨y, hy⟩ : ∃ y, x.ch[k]? = some y := ⟨_, List.getElem?_eq_getElem h9⟩
    obtain ⟨y0, y1, y2⟩ := e3 y (List.mem_of_getElem? hy)
    simp -implicitDefEqProofs only [go_sem, evR, ints, rows, rat, rats, nodes, q0qa, evT, hy, decide_eq_true (show (k : Int) < (x.ch.length : Int) by omega), opR, Nat.reduceBEq]
    repeat (first | refine ⟨by omega, ?_⟩ | refine ⟨by rw [q0l0]; omega, ?_⟩)
    have hd := q080 (q0ek t2 (by omega) g.nd.length y.toNat (by omega) y1 (by omega))
    rw [show ((y.toNat : Nat) : Int) = y by omega] at hd
    refine q006.pure hd [] rfl Try.call164 ?_ (by first | trivial | simp [T.noSh, T.noShL, rat]) rfl ?_
    · simp -implicitDefEqProofs only [agR, Nat.reduceLeDiff, Nat.reduceSub, vaR, go_sem, ints, rows, rat, rats, q0p1, rtR, intsO, q0qa]
    simp -implicitDefEqProofs only [go_sem, evR, ints, rows, rat, rats]
    refine hn1 _ (k + 1) (Weak.of _ _ [some 1000000000] (by simp) (by simp) ?_ ?_) (by omega) (by omega)
    · simp -implicitDefEqProofs only [ints, rows, Nat.reduceBEq, wkR, Nat.reduceEqDiff, ↓reduceIte, wrR, nodes, evT, q0lb h9 (show x.ch.length <= 1000000000000 by omega), q0oo hy]
    · exact ⟨⟨_, rfl, .refl _⟩, rfl, trivial⟩
  have hkl : k = x.ch.length := by omega
  subst hkl
  rw [hpa]
  simp -implicitDefEqProofs only [go_sem, evR, ints, rows, rat, rats, nodes, q0qa, evT, decide_eq_false (show ¬ (x.ch.length : Int) < (x.ch.length : Int) by omega), opR, Nat.reduceBEq]
  refine he1 _ _ ?_
  simp -implicitDefEqProofs only [go_sem, evR, ints, rows, rat, rats, q0jc, opR, Nat.reduceBEq]
  repeat (first | refine ⟨by omega, ?_⟩ | refine ⟨by rw [q0l0]; omega, ?_⟩)
  refine SemC.loopR (σ := Nat) (fun o => St.of [(0, .own 1000000000), (1, .t (evT g s t)), (2, .t (.i 1)), (3, .t (.i i)), (4, .t (.i n)), (5, .t (.i c)), (12, .t (ints x.ch)), (13, .t (.i (q144 g n))), (16, .own 98), (65, .t (.i g.w.length)), (66, .t (.i o))] [(1000000000, .box [nodes g.nd, rows g.w, rows g.v, q0qa U, q0qa R, q0qa V, q0qa Z]), (98, intsO (cntW g s t 1 n c o))]) (fun o => o <= g.w.length) (fun o => g.w.length - o) 0 (Weak.of _ _ [some 1000000000, some 59] (by simp) (by simp) ?_ ?_) (by omega) fun o ho Q2 hn2 hr2 he2 => ?_
  · simp -implicitDefEqProofs only [ints, rows, Nat.reduceBEq, wkR, Nat.reduceEqDiff, ↓reduceIte, wrR, nodes, evT]
  · refine ⟨⟨_, rfl, .refl _⟩, rfl, ⟨_, rfl, ?_⟩, rfl, trivial⟩
    rw [hcv0, intsO, List.map_replicate]; exact .refl _
  rcases Nat.lt_or_ge o g.w.length with h8 | h8
  · obtain ⟨rw0, zw, hr0, hzw, hz0, hz9⟩ := q0cn hg h8 hc
    have hrwl : rw0.length = g.w.length := ((q0js.1 p3).2 rw0 (List.mem_of_getElem? hr0)).1
    have hwz : wAt g 1 c o = zw := by
      unfold wAt
      simp only [List.getD_eq_getElem?_getD, hr0, hzw, Option.getD_some, show ((1 : Int) = 0) = False by simp, if_false]
    have hot := (q153 hs ht ((.inr rfl) : (1 : Int) = 0 ∨ (1 : Int) = 1)).2
    have hr1' := q158 (c := c) hg hs ht ((.inr rfl) : (1 : Int) = 0 ∨ (1 : Int) = 1) hn h8
    have hpw := q157 (p := (wayL g.nd n).length) (by omega)
    have hcall := q0f8 hg hs ht ((.inl rfl) : (0 : Int) = 0 ∨ (0 : Int) = 1) (n := n) (a := o) (b := c) hn (by omega) (by omega)
    rw [show (if (0 : Int) = 0 then o else c) = o from rfl] at hcall
    have hrw : (-1) * zw * wayP g (q10l 0 s t) 0 o n = rchW g s t 1 n c o := by rw [rchW, hwz]; rfl
    simp -implicitDefEqProofs only [go_sem, evR, ints, rows, rat, rats, nodes, q0qa, intsO, evT, hr0, hzw, decide_eq_true (show (o : Int) < (g.w.length : Int) by omega), show ((0 : Int) == 1) = false from rfl, show ((1 : Int) == 1) = true from rfl, show IntKind.i64.wrap (1 - 0) = 1 from rfl, show IntKind.i64.wrap (1 - 1) = 0 from rfl, opR, Nat.reduceBEq]
    repeat (first | refine ⟨by omega, ?_⟩ | refine ⟨by rw [q0l0]; omega, ?_⟩)
    refine q002.ref hcall [] [] rfl Try.call226 (by simp) ?_ (by simp) (fun e R' hR => ?_) (.inl rfl) ?_
    · simp -implicitDefEqProofs only [srR, Nat.reduceEqDiff, ↓reduceIte, ints, rows, intsO, q0qa]
    · simp -implicitDefEqProofs only [agR, Nat.reduceLeDiff, Nat.reduceSub, vaR, go_sem, ints, rows, rat, rats, q0p1, rtR, intsO, q0qa]
    simp -implicitDefEqProofs only [clR, Nat.reduceLeDiff, go_sem, evR, rat, wrap64 (n := (-1) * zw) (by omega) (by omega), hrw, wrap64 (n := rchW g s t 1 n c o) (by omega) (by omega)]
    refine ⟨⟨fun h5 => ?_, fun h5 => ?_⟩, q09v.refl _ _ _⟩
    · have h5 : rchW g s t 1 n c o = 0 := by simpa using h5
      refine hn2 _ (o + 1) (Weak.of _ _ [some 1000000000, some 98] (by simp) (by simp) ?_ ?_) (by omega) (by omega)
      · simp -implicitDefEqProofs only [ints, rows, Nat.reduceBEq, wkR, Nat.reduceEqDiff, ↓reduceIte, wrR, nodes, evT, q0lb h8 (by omega)]
      · refine ⟨⟨_, rfl, .refl _⟩, rfl, ⟨_, rfl, ?_⟩, rfl, trivial⟩
        rw [q06r h5]; exact .refl _
    · refine SemC.loopR (σ := Nat) (fun k => St.of [(0, .own 1000000000), (1, .t (evT g s t)), (2, .t (.i 1)), (3, .t (.i i)), (4, .t (.i n)), (5, .t (.i c)), (12, .t (ints x.ch)), (13, .t (.i (q144 g n))), (16, .own 98), (18, .t (.i o)), (19, .t (.i c)), (21, .t (.i (rchW g s t 1 n c o))), (65, .t (.i g.w.length)), (66, .t (.i o)), (98, .t (ints x.ch)), (99, .t (.i x.ch.length)), (100, .t (.i k))] [(1000000000, .box [nodes g.nd, rows g.w, rows g.v, q0qa U, q0qa R, q0qa V, q0qa Z]), (98, intsO (mixL (cntW g s t 1 n c (o + 1)) (cntW g s t 1 n c o) k))]) (fun k => k <= x.ch.length) (fun k => x.ch.length - k) 0 (Weak.of _ _ [some 1000000000, some 98] (by simp) (by simp) ?_ ?_) (by omega) fun k hk Q3 hn3 hr3 he3 => ?_
      · simp -implicitDefEqProofs only [ints, rows, Nat.reduceBEq, wkR, Nat.reduceEqDiff, ↓reduceIte, wrR, nodes, evT]
      · refine ⟨⟨_, rfl, .refl _⟩, rfl, ⟨_, rfl, ?_⟩, rfl, trivial⟩
        rw [q14w]; exact .refl _
      have hcl1 : (cntW g s t 1 n c (o + 1)).length = (cntW g s t 1 n c o).length := by rw [q06q, q06q]
      have hcl0 : (cntW g s t 1 n c o).length = x.ch.length := by rw [q06q, hxd]
      rcases Nat.lt_or_ge k x.ch.length with h7 | h7
      · obtain ⟨y, hy⟩ : ∃ y, x.ch[k]? = some y := ⟨_, List.getElem?_eq_getElem h7⟩
        obtain ⟨y0, y1, y2⟩ := e3 y (List.mem_of_getElem? hy)
        have hym : y ∈ (g.nd.getD n nd0).ch := by rw [hxd]; exact List.mem_of_getElem? hy
        have hsu := q148 g s t 1 n c y.toNat o
        have k1 := q147 hg hs ht ((.inr rfl) : (1 : Int) = 0 ∨ (1 : Int) = 1) hn h2 hc hym (m := o) (by omega)
        have k2 := q147 hg hs ht ((.inr rfl) : (1 : Int) = 0 ∨ (1 : Int) = 1) hn h2 hc hym (m := o + 1) (by omega)
        have k3 := q146 hg hs ht ((.inr rfl) : (1 : Int) = 0 ∨ (1 : Int) = 1) hn h2 hc h8 hym
        have hval := q0xc (q0f7 hg hs ht h8 hc g.nd.length y.toNat (q144 g n) (by omega) y1 y2 (by omega))
        rw [show ((y.toNat : Nat) : Int) = y by omega] at hval
        have hcf : rchW g s t 1 n c o * val g s t g.nd.length y.toNat o c (q144 g n) = cntF g s t 1 n c y.toNat o := rfl
        have hg1 : (mixL (cntW g s t 1 n c (o + 1)) (cntW g s t 1 n c o) k)[k]? = some (cntN g s t 1 n c y.toNat o) := by
          rw [q14t hcl1 (by omega)]; exact hcvg k o y hy
        have hml : (mixL (cntW g s t 1 n c (o + 1)) (cntW g s t 1 n c o) k).length = x.ch.length := by rw [q14u hcl1 (by omega), hcl0]
        simp -implicitDefEqProofs only [go_sem, evR, ints, rows, rat, rats, nodes, q0qa, intsO, evT, hy, hg1, hml, decide_eq_true (show (k : Int) < (x.ch.length : Int) by omega), opR, Nat.reduceBEq]
        repeat (first | refine ⟨by omega, ?_⟩ | refine ⟨by rw [q0l0]; omega, ?_⟩)
        refine q002.ref hval [] [] rfl Try.call180 (by simp) ?_ (by simp) (fun e R' hR => ?_) (.inl rfl) ?_
        · simp -implicitDefEqProofs only [srR, Nat.reduceEqDiff, ↓reduceIte, ints, rows, intsO, q0qa]
        · simp -implicitDefEqProofs only [agR, Nat.reduceLeDiff, Nat.reduceSub, vaR, go_sem, ints, rows, rat, rats, q0p1, rtR, intsO, q0qa]
        simp -implicitDefEqProofs only [clR, Nat.reduceLeDiff, go_sem, evR, rat, hml, hcf, wrap64 (n := cntF g s t 1 n c y.toNat o) (by omega) (by omega), ← hsu, wrap64 (n := cntN g s t 1 n c y.toNat (o + 1)) (by omega) (by omega)]
        refine ⟨⟨by omega, by omega, by omega, hn3 _ (k + 1) (Weak.of _ _ [some 1000000000, some 98] (by simp) (by simp) ?_ ?_) (by omega) (by omega)⟩, q09v.refl _ _ _⟩
        · simp -implicitDefEqProofs only [ints, rows, Nat.reduceBEq, wkR, Nat.reduceEqDiff, ↓reduceIte, wrR, nodes, evT, q0lb h7 (show x.ch.length <= 1000000000000 by omega)]
        · refine ⟨⟨_, rfl, .refl _⟩, rfl, ⟨_, rfl, ?_⟩, rfl, trivial⟩
          rw [← q14v hcl1 (hcvg k (o + 1) y hy), intsO, List.map_set]; exact .refl _
      · have hall : mixL (cntW g s t 1 n c (o + 1)) (cntW g s t 1 n c o) k = cntW g s t 1 n c (o + 1) := by
          have := q14s hcl1
          rw [hcl0] at this
          rw [show k = x.ch.length by omega]; exact this
        rw [hall]
        simp -implicitDefEqProofs only [go_sem, evR, ints, rows, rat, rats, nodes, q0qa, intsO, evT, decide_eq_false (show ¬ (k : Int) < (x.ch.length : Int) by omega), opR, Nat.reduceBEq]
        refine he3 _ _ ?_
        simp -implicitDefEqProofs only [go_sem, evR, ints, rows, rat, rats]
        refine hn2 _ (o + 1) (Weak.of _ _ [some 1000000000, some 98] (by simp) (by simp) ?_ ?_) (by omega) (by omega)
        · simp -implicitDefEqProofs only [ints, rows, Nat.reduceBEq, wkR, Nat.reduceEqDiff, ↓reduceIte, wrR, nodes, evT, q0lb h8 (by omega)]
        · exact ⟨⟨_, rfl, .refl _⟩, rfl, ⟨_, rfl, .refl _⟩, rfl, trivial⟩
  have hol : o = g.w.length := by omega
  subst hol
  rw [hcvA]
  simp -implicitDefEqProofs only [go_sem, evR, ints, rows, rat, rats, nodes, q0qa, intsO, evT, decide_eq_false (show ¬ (g.w.length : Int) < (g.w.length : Int) by omega), opR, Nat.reduceBEq]
  refine he2 _ _ ?_
  have hqi : (q10l 1 s t)[i]? = some q := w1
  have hqs : t[i]? = some q := hqi
  have hqsl := (List.getElem?_eq_some_iff.1 hqs).1
  simp -implicitDefEqProofs only [go_sem, evR, ints, rows, rat, rats, evT, hqs, opR, Nat.reduceBEq]
  repeat (first | refine ⟨by omega, ?_⟩ | refine ⟨by rw [q0l0]; omega, ?_⟩)
  refine SemC.loopR (σ := Nat) (fun k => St.of [(0, .own 1000000000), (1, .t (evT g s t)), (2, .t (.i 1)), (3, .t (.i i)), (4, .t (.i n)), (5, .t (.i c)), (16, .own 98), (24, .t (ints q)), (25, .t (.i (q14m q (cnts g s t 1 n c) k))), (130, .t (ints q)), (131, .t (.i q.length)), (132, .t (.i k))] [(1000000000, .box [nodes g.nd, rows g.w, rows g.v, q0qa U, q0qa R, q0qa V, q0qa Z]), (98, intsO (cnts g s t 1 n c))]) (fun k => k <= q.length) (fun k => q.length - k) 0 (Weak.of _ _ [some 1000000000, some 98] (by simp) (by simp) ?_ ?_) (by omega) fun k hk Q4 hn4 hr4 he4 => ?_
  · simp -implicitDefEqProofs only [ints, rows, Nat.reduceBEq, wkR, Nat.reduceEqDiff, ↓reduceIte, wrR, nodes, evT, q14p]
  · exact ⟨⟨_, rfl, .refl _⟩, rfl, ⟨_, rfl, .refl _⟩, rfl, trivial⟩
  rcases Nat.lt_or_ge k q.length with h9 | h9
  · obtain ⟨y, hy⟩ : ∃ y, q[k]? = some y := ⟨_, List.getElem?_eq_getElem h9⟩
    obtain ⟨v, hv⟩ : ∃ v, (cnts g s t 1 n c)[k]? = some v := ⟨_, List.getElem?_eq_getElem (by omega)⟩
    have hyb := w3 y (List.mem_of_getElem? hy)
    have hvb := hcb v (List.mem_of_getElem? hv)
    obtain ⟨m1, m2⟩ := q0kl hyb.1 hvb.1 hvb.2
    have hms := q14o hy hv
    have hm1 := q14n w3 hcb k
    have hm2 := q14n w3 hcb (k + 1)
    simp -implicitDefEqProofs only [go_sem, evR, ints, rows, rat, rats, nodes, q0qa, intsO, evT, hy, hv, decide_eq_true (show (k : Int) < (q.length : Int) by omega), opR, Nat.reduceBEq]
    repeat (first | refine ⟨by omega, ?_⟩ | refine ⟨by rw [q0l0]; omega, ?_⟩)
    refine hn4 _ (k + 1) (Weak.of _ _ [some 1000000000, some 98] (by simp) (by simp) ?_ ?_) (by omega) (by omega)
    · simp -implicitDefEqProofs only [ints, rows, Nat.reduceBEq, wkR, Nat.reduceEqDiff, ↓reduceIte, wrR, nodes, evT, q0lb h9 (show q.length <= 1000000000000 by omega), wrap64 (n := y * v) (by omega) (by omega), ← hms, wrap64 (n := q14m q (cnts g s t 1 n c) (k + 1)) (by omega) (by omega)]
    · exact ⟨⟨_, rfl, .refl _⟩, rfl, ⟨_, rfl, .refl _⟩, rfl, trivial⟩
  have hkq : k = (cnts g s t 1 n c).length := by omega
  subst hkq
  simp -implicitDefEqProofs only [go_sem, evR, ints, rows, rat, rats, nodes, q0qa, intsO, evT, decide_eq_false (show ¬ ((cnts g s t 1 n c).length : Int) < (q.length : Int) by omega), opR, Nat.reduceBEq]
  refine he4 _ _ ?_
  simp -implicitDefEqProofs only [go_sem, evR, ints, rows, rat, rats, evT]
  have hway := q0f8 hg hs ht ((.inr rfl) : (1 : Int) = 0 ∨ (1 : Int) = 1) (n := n) (a := c) (b := c) hn hc hc
  rw [← hmw] at hway
  have hwb := q154 hg (q153 hs ht ((.inr rfl) : (1 : Int) = 0 ∨ (1 : Int) = 1)).1 hc hn h2
  have hMb := q14n w3 hcb (cnts g s t 1 n c).length
  have hMd : q14l q (cnts g s t 1 n c) = q14m q (cnts g s t 1 n c) (cnts g s t 1 n c).length := rfl
  refine q006.pure hway [] rfl Try.call226 ?_ (by first | trivial | simp [T.noSh, T.noShL, rat]) rfl ?_
  · simp -implicitDefEqProofs only [agR, Nat.reduceLeDiff, Nat.reduceSub, vaR, go_sem, ints, rows, rat, rats, q0p1, rtR, intsO, q0qa]
  simp -implicitDefEqProofs only [go_sem, evR, ints, rows, rat, rats]
  generalize wayP g (q10l 1 s t) 1 c n = w at hwb hSd ⊢
  rw [← hMd]
  rw [← hMd] at hMb
  generalize q14l q (cnts g s t 1 n c) = M at hMb hRd ⊢
  generalize cnts g s t 1 n c = C at hcb hcl hMb hRd hqsl ⊢
  generalize rowR g s t 1 R i = nr at f1 f2 hRd ⊢
  generalize rowS g s t 1 Z i = nz at f3 f4 hSd ⊢
  have hnl : nr.length = r.length := by omega
  have hnz : nz.length = z.length := by omega
  have hiR : i < R.length := (List.getElem?_eq_some_iff.1 hr).1
  have hiZ : i < Z.length := (List.getElem?_eq_some_iff.1 hz).1
  refine SemC.loopR (σ := Nat) (fun k => St.of [(0, .own 1000000000), (1, .t (evT g s t)), (2, .t (.i 1)), (3, .t (.i i)), (4, .t (.i n)), (5, .t (.i c)), (16, .own 98), (25, .t (.i M)), (28, .t (.i w)), (152, .t (ints q)), (153, .t (.i q.length)), (154, .t (.i k))] [(1000000000, .box [nodes g.nd, rows g.w, rows g.v, q0qa U, q0qa (R.set i (mixL nr r k)), q0qa V, q0qa (Z.set i (mixL nz z k))]), (98, intsO C)]) (fun k => k <= q.length) (fun k => q.length - k) 0 (Weak.of _ _ [some 1000000000, some 98] (by simp) (by simp) ?_ ?_) (by omega) fun k hk Q5 hn5 hr5 he5 => ?_
  · simp -implicitDefEqProofs only [ints, rows, Nat.reduceBEq, wkR, Nat.reduceEqDiff, ↓reduceIte, wrR, nodes, evT]
  · refine ⟨⟨_, rfl, ?_⟩, rfl, ⟨_, rfl, .refl _⟩, rfl, trivial⟩
    rw [q14w, q14w, q0r2 hr, q0r2 hz]; exact .refl _
  rcases Nat.lt_or_ge k q.length with h9 | h9
  · obtain ⟨y, hy⟩ : ∃ y, q[k]? = some y := ⟨_, List.getElem?_eq_getElem h9⟩
    obtain ⟨v, hv⟩ : ∃ v, C[k]? = some v := ⟨_, List.getElem?_eq_getElem (by omega)⟩
    obtain ⟨x0, hx0⟩ : ∃ x0, r[k]? = some x0 := ⟨_, List.getElem?_eq_getElem (by omega)⟩
    obtain ⟨x1, hx1⟩ : ∃ x1, z[k]? = some x1 := ⟨_, List.getElem?_eq_getElem (by omega)⟩
    have hyb := w3 y (List.mem_of_getElem? hy)
    have hvb := hcb v (List.mem_of_getElem? hv)
    have hb0 := hrb x0 (List.mem_of_getElem? hx0)
    have hb1 := hzb x1 (List.mem_of_getElem? hx1)
    have hwy : 0 <= y * w /\ y * w <= 60 * 12960000 := ⟨Int.mul_nonneg hyb.1 hwb.1, Int.mul_le_mul hyb.2 hwb.2 hwb.1 (by decide)⟩
    have hnr1 : nr[k]? = some (x0 + (60 * v - M)) := by rw [hRd]; exact q15t hx0 hv
    have hnz1 : nz[k]? = some (x1 + y * w) := by rw [hSd, Int.mul_comm y w]; exact q15v hx1 hy
    have hg1 : (mixL nr r k)[k]? = some x0 := by rw [q14t hnl (by omega)]; exact hx0
    have hg2 : (mixL nz z k)[k]? = some x1 := by rw [q14t hnz (by omega)]; exact hx1
    have hl1 : (mixL nr r k).length = r.length := q14u hnl (by omega)
    have hl2 : (mixL nz z k).length = z.length := q14u hnz (by omega)
    have hc1 : (List.map intsO (R.set i (mixL nr r k)))[i]? = some (intsO (mixL nr r k)) := by rw [List.getElem?_map, List.getElem?_set_self hiR]; rfl
    have hc2 : (List.map intsO (Z.set i (mixL nz z k)))[i]? = some (intsO (mixL nz z k)) := by rw [List.getElem?_map, List.getElem?_set_self hiZ]; rfl
    have hc3 : ((List.map intsO (R.set i (mixL nr r k))).set i T.any)[i]? = some T.any := List.getElem?_set_self (by rw [List.length_map, List.length_set]; exact hiR)
    have hc4 : ((List.map intsO (Z.set i (mixL nz z k))).set i T.any)[i]? = some T.any := List.getElem?_set_self (by rw [List.length_map, List.length_set]; exact hiZ)
    simp -implicitDefEqProofs only [go_sem, evR, ints, rows, rat, rats, nodes, q0qa, intsO, evT, hy, decide_eq_true (show (k : Int) < (q.length : Int) by omega), opR, Nat.reduceBEq]
    repeat (first | refine ⟨by omega, ?_⟩ | refine ⟨by rw [q0l0]; omega, ?_⟩)
    refine ⟨_, Weak.trans (Weak.open 1000000000 4 501 rfl rfl rfl (by decide) rfl) (Weak.open 501 i 502 rfl hc1 rfl (by decide) rfl), ?_⟩
    simp -implicitDefEqProofs only [go_sem, evR, ints, rows, rat, rats, q0qa, intsO, hg1, hc1, hc3, hl1, hv, List.length_set, opR, Nat.reduceBEq]
    repeat (first | refine ⟨by omega, ?_⟩ | refine ⟨by rw [q0l0]; omega, ?_⟩)
    refine ⟨_, Weak.trans (Weak.close1 501 i 502 rfl rfl (by decide) hc3) (Weak.trans (Weak.close1 1000000000 4 501 rfl rfl (by decide) rfl) (Weak.trans (Weak.open 1000000000 6 503 rfl rfl rfl (by decide) rfl) (Weak.open 503 i 504 rfl hc2 rfl (by decide) rfl))), ?_⟩
    simp -implicitDefEqProofs only [go_sem, evR, ints, rows, rat, rats, q0qa, intsO, hg2, hc2, hc4, hl2, hv, List.length_set, opR, Nat.reduceBEq]
    repeat (first | refine ⟨by omega, ?_⟩ | refine ⟨by rw [q0l0]; omega, ?_⟩)
    have wA : IntKind.i64.wrap (60 * v) = 60 * v := wrap64 (by omega) (by omega)
    have wB : IntKind.i64.wrap (60 * v - M) = 60 * v - M := wrap64 (by omega) (by omega)
    have wC : IntKind.i64.wrap (x0 + (60 * v - M)) = x0 + (60 * v - M) := wrap64 (by omega) (by omega)
    have wD : IntKind.i64.wrap (y * w) = y * w := wrap64 (by omega) (by omega)
    have wE : IntKind.i64.wrap (x1 + y * w) = x1 + y * w := wrap64 (by omega) (by omega)
    refine hn5 _ (k + 1) (Weak.trans (Weak.close1 503 i 504 rfl rfl (by decide) hc4) (Weak.trans (Weak.close1 1000000000 6 503 rfl rfl (by decide) rfl) (Weak.of _ _ [some 1000000000, some 98] (by simp) (by simp) ?_ ?_))) (by omega) (by omega)
    · simp -implicitDefEqProofs only [ints, rows, Nat.reduceBEq, wkR, Nat.reduceEqDiff, ↓reduceIte, wrR, nodes, evT, q0lb h9 (show q.length <= 1000000000000 by omega)]
    · refine ⟨⟨_, rfl, ?_⟩, rfl, ⟨_, rfl, .refl _⟩, rfl, trivial⟩
      rw [← q14v hnl hnr1, ← q14v hnz hnz1]
      simp only [q0qa, intsO, List.map_set, List.set_set, wA, wB, wC, wD, wE, nodes, rows]
      exact .refl _
  · have hkq : k = q.length := by omega
    have m1 : mixL nr r k = nr := by rw [show k = r.length by omega]; exact q14s hnl
    have m2 : mixL nz z k = nz := by rw [show k = z.length by omega]; exact q14s hnz
    rw [m1, m2]
    simp -implicitDefEqProofs only [go_sem, evR, ints, rows, rat, rats, nodes, q0qa, intsO, evT, decide_eq_false (show ¬ (k : Int) < (q.length : Int) by omega), opR, Nat.reduceBEq]
    refine he5 _ _ ?_
    simp -implicitDefEqProofs only [go_sem, evR, ints, rows, rat, rats, q0qa, opR, Nat.reduceBEq]
end
theorem q0kc {α : Type} {new old : List α} (h : new.length = old.length) {i : Nat} (hi : i <= old.length) (j : Nat) : (mixL new old i)[j]? = if j < i then new[j]? else old[j]? := by
  unfold mixL
  have hl : (new.take i).length = i := by rw [List.length_take]; omega
  split
  · rename_i hj
    rw [List.getElem?_append_left (by omega), List.getElem?_take, if_pos hj]
  · rename_i hj
    rw [List.getElem?_append_right (by omega), hl, List.getElem?_drop]
    congr 1; omega
theorem q0m7 {g : Gm} {pl B B' : Int} {m : List (List Int)} (h : okM g pl B m) (hB : B <= B') : okM g pl B' m := ⟨h.1, fun i r hr => ⟨(h.2 i r hr).1, fun x hx => by have := (h.2 i r hr).2 x hx; omega⟩⟩
theorem q0m8 {g : Gm} {pl B : Int} {new old : List (List Int)} (h1 : okM g pl B new) (h2 : okM g pl B old) {i : Nat} (hi : i <= (sets g pl).length) : okM g pl B (mixL new old i) := by
  have hl : new.length = old.length := by rw [h1.1, h2.1]
  refine ⟨by rw [q14u hl (by rw [h2.1]; exact hi), h2.1], fun j r hr => ?_⟩
  rw [q0kc hl (by rw [h2.1]; exact hi)] at hr
  split at hr
  · exact h1.2 j r hr
  · exact h2.2 j r hr
theorem q0kd {new old : List (List Int)} (h : new.length = old.length) {i : Nat} (hi : i <= old.length) : (mixL new old i).getD i [] = old.getD i [] := by
  rw [List.getD_eq_getElem?_getD, List.getD_eq_getElem?_getD, q0kc h hi, if_neg (by omega)]
theorem q0q3 (g : Gm) (s t : List (List Int)) (pl : Int) {new old : List (List Int)} (h : new.length = old.length) {i : Nat} (hi : i <= old.length) : rowR g s t pl (mixL new old i) i = rowR g s t pl old i := by rw [rowR, rowR, q0kd h hi]
theorem q0q4 (g : Gm) (s t : List (List Int)) (pl : Int) {new old : List (List Int)} (h : new.length = old.length) {i : Nat} (hi : i <= old.length) : rowS g s t pl (mixL new old i) i = rowS g s t pl old i := by rw [rowS, rowS, q0kd h hi]
theorem q0le (g : Gm) (s t : List (List Int)) (pl : Int) (R : List (List Int)) : (q14y g s t pl R).length = (sets g pl).length := by simp [q14y]
theorem q0lj (g : Gm) (s t : List (List Int)) (pl : Int) (R : List (List Int)) : (q14z g s t pl R).length = (sets g pl).length := by simp [q14z]
theorem q0ld {g : Gm} {s t : List (List Int)} {pl : Int} {R : List (List Int)} {i : Nat} (h : i < (sets g pl).length) : (q14y g s t pl R)[i]? = some (rowR g s t pl R i) := by simp [q14y, h]
theorem q0li {g : Gm} {s t : List (List Int)} {pl : Int} {R : List (List Int)} {i : Nat} (h : i < (sets g pl).length) : (q14z g s t pl R)[i]? = some (rowS g s t pl R i) := by simp [q14z, h]
section
attribute [-go_sem] q0i5 q0id fldC lenC idxC q0ip q0lp
theorem q0ej (g : Gm) (x : RS) {B : Int} (h0 : runL B x.r0) (h1 : runL B x.r1) (hB : B < 9223372036854775808) : Fun Try.prog 112 [] [.t (.pin [.sh 5 (chunk q0lu g.nd), .sh 1 (g.w.map ints), .sh 1 (g.v.map ints), .sh 1 (x.r0.map ints), .sh 1 (x.r1.map ints), .sh 1 (x.s0.map ints), .sh 1 (x.s1.map ints)] 0)] fun o r => o = [] /\ r = .tup [.agg [.i 0, .arr 1 ((stM x.r0).map intsO)], .agg [.i 1, .arr 1 ((stM x.r1).map intsO)]] := by
  refine q0a4 (by simp) ?_
  simp -implicitDefEqProofs only [go_sem, evR, ints, rows, rat, rats, q036, opR, Nat.reduceBEq]
  repeat (first | refine ⟨by omega, ?_⟩ | refine ⟨by rw [q0l0]; omega, ?_⟩)
  refine q000.res (q0f0 0 x.r0 h0 hB) [] rfl Try.call174 (fun e R' hR => ?_) (.inl rfl) ?_
  · simp -implicitDefEqProofs only [agR, Nat.reduceLeDiff, Nat.reduceSub, vaR, go_sem, ints, rows, rat, rats, q0p1, rtR, intsO, q0qa]
  simp -implicitDefEqProofs only [clR, Nat.reduceLeDiff, go_sem, evR, rat, opR, Nat.reduceBEq]
  repeat (first | refine ⟨by omega, ?_⟩ | refine ⟨by rw [q0l0]; omega, ?_⟩)
  refine q000.res (q0f0 1 x.r1 h1 hB) [] rfl Try.call174 (fun e R' hR => ?_) (.inl rfl) ?_
  · simp -implicitDefEqProofs only [agR, Nat.reduceLeDiff, Nat.reduceSub, vaR, go_sem, ints, rows, rat, rats, q0p1, rtR, intsO, q0qa]
  simp -implicitDefEqProofs only [clR, Nat.reduceLeDiff, go_sem, evR, rat, opR, Nat.reduceBEq]
theorem q0eh (g : Gm) (x : RS) {B : Int} (h0 : runL B x.s0) (h1 : runL B x.s1) (hB : B < 9223372036854775808) : Fun Try.prog 113 [] [.t (.pin [.sh 5 (chunk q0lu g.nd), .sh 1 (g.w.map ints), .sh 1 (g.v.map ints), .sh 1 (x.r0.map ints), .sh 1 (x.r1.map ints), .sh 1 (x.s0.map ints), .sh 1 (x.s1.map ints)] 0)] fun o r => o = [] /\ r = .tup [.agg [.i 0, .arr 1 ((stM x.s0).map intsO)], .agg [.i 1, .arr 1 ((stM x.s1).map intsO)]] := by
  refine q0a3 (by simp) ?_
  simp -implicitDefEqProofs only [go_sem, evR, ints, rows, rat, rats, q035, opR, Nat.reduceBEq]
  repeat (first | refine ⟨by omega, ?_⟩ | refine ⟨by rw [q0l0]; omega, ?_⟩)
  refine q000.res (q0f0 0 x.s0 h0 hB) [] rfl Try.call174 (fun e R' hR => ?_) (.inl rfl) ?_
  · simp -implicitDefEqProofs only [agR, Nat.reduceLeDiff, Nat.reduceSub, vaR, go_sem, ints, rows, rat, rats, q0p1, rtR, intsO, q0qa]
  simp -implicitDefEqProofs only [clR, Nat.reduceLeDiff, go_sem, evR, rat, opR, Nat.reduceBEq]
  repeat (first | refine ⟨by omega, ?_⟩ | refine ⟨by rw [q0l0]; omega, ?_⟩)
  refine q000.res (q0f0 1 x.s1 h1 hB) [] rfl Try.call174 (fun e R' hR => ?_) (.inl rfl) ?_
  · simp -implicitDefEqProofs only [agR, Nat.reduceLeDiff, Nat.reduceSub, vaR, go_sem, ints, rows, rat, rats, q0p1, rtR, intsO, q0qa]
  simp -implicitDefEqProofs only [clR, Nat.reduceLeDiff, go_sem, evR, rat, opR, Nat.reduceBEq]
def itS (g : Gm) (s t : List (List Int)) (x : RS) : Nat -> T
  | 0 => .box [nodes g.nd, rows g.w, rows g.v, q0qa x.r0, q0qa x.r1, q0qa x.s0, q0qa x.s1]
  | 1 => .box [nodes g.nd, rows g.w, rows g.v, q0qa (q14y g s t 0 x.r0), q0qa x.r1, q0qa (q14z g s t 0 x.s0), q0qa x.s1]
  | _ => .box [nodes g.nd, rows g.w, rows g.v, q0qa (q14y g s t 0 x.r0), q0qa (q14y g s t 1 x.r1), q0qa (q14z g s t 0 x.s0), q0qa (q14z g s t 1 x.s1)]
theorem q07s (m m' : List (List Int)) : (T.tup [.agg [.i 0, .arr 1 (m.map intsO)], .agg [.i 1, .arr 1 (m'.map intsO)]]).noSh := ⟨⟨trivial, q0qb _, trivial⟩, ⟨trivial, q0qb _, trivial⟩, trivial⟩
set_option maxHeartbeats 2000000 in
theorem q0ep (g : Gm) (hg : q0fl g = true) (x : RS) {n : Nat} (hn : n <= 900) (h : okRS g n x) : Fun Try.prog 171 [rsB g x] [.own 1000000000] fun o r => o = [rsB g (q15q g x)] /\ r = .tup [] := by
  obtain ⟨p1, p2, p3, p4, p5⟩ := q0fn hg
  obtain ⟨t1, t2, t3, t4⟩ := q0g0 p1
  obtain ⟨k0, k1, _, _⟩ := q152 hg (by omega) h
  have k0 := q0nx k0
  have k1 := q0nx k1
  have w1 : IntKind.i64.wrap 1 = 1 := rfl
  have w2' : IntKind.i64.wrap (1 + 1) = 2 := rfl
  refine q0a5 (by simp) ?_
  simp -implicitDefEqProofs only [go_sem, evR, ints, rows, rat, rats, q037, rsB, nodes, q0qa, opR, Nat.reduceBEq]
  have hq := q0ej g x (q0m9 hg (.inl rfl) h.1) (q0m9 hg (.inr rfl) h.2.1) (by omega)
  refine q006.res hq [1000000000] rfl Try.call112 ?_ (.inr (q07s _ _)) ?_
  · simp -implicitDefEqProofs only [agR, Nat.reduceLeDiff, Nat.reduceSub, vaR, go_sem, ints, rows, rat, rats, q0p1, rtR, intsO, q0qa, T.toShL.eq_1, T.toShL.eq_2, q0vg]
  simp -implicitDefEqProofs only [clR, Nat.reduceLeDiff, go_sem, evR, rat, opR, Nat.reduceBEq]
  refine ⟨_, Weak.trans (Weak.share 2 rfl) (Weak.trans (Weak.share 3 rfl) (Weak.of [(0, .own 1000000000), (2, .t (.pin [.i 0, rows (stM x.r0)] 0)), (3, .t (.pin [.i 1, rows (stM x.r1)] 0))] [(1000000000, .box [nodes g.nd, rows g.w, rows g.v, q0qa x.r0, q0qa x.r1, q0qa x.s0, q0qa x.s1])] [some 1000000000] (by simp) (by simp) ?_ ?_)), ?_⟩
  · simp -implicitDefEqProofs only [ints, rows, Nat.reduceBEq, wkR, Nat.reduceEqDiff, ↓reduceIte, wrR, q0rg, T.toSh, T.toShL, q0vg, nodes, q0qa]
  · exact ⟨⟨_, rfl, .refl _⟩, rfl, trivial⟩
  have hE := q0l4 g (0, stM x.r0) (1, stM x.r1) hg
  have hstep : q15q g x = ⟨q14y g (stM x.r0) (stM x.r1) 0 x.r0, q14y g (stM x.r0) (stM x.r1) 1 x.r1, q14z g (stM x.r0) (stM x.r1) 0 x.s0, q14z g (stM x.r0) (stM x.r1) 1 x.s1⟩ := rfl
  rw [hstep]
  simp only [evO, nodes, rows, intsO] at hE
  generalize stM x.r0 = s at k0 hE ⊢
  generalize stM x.r1 = t at k1 hE ⊢
  simp -implicitDefEqProofs only [go_sem, evR, ints, rows, rat, rats, nodes, q0qa, opR, Nat.reduceBEq]
  refine q000.res hE [] rfl Try.call179 (fun e R' hR => ?_) (.inl rfl) ?_
  · simp -implicitDefEqProofs only [agR, Nat.reduceLeDiff, Nat.reduceSub, vaR, go_sem, ints, rows, rat, rats, q0p1, rtR, intsO, q0qa]
  simp -implicitDefEqProofs only [clR, Nat.reduceLeDiff, go_sem, evR, rat, opR, Nat.reduceBEq]
  refine ⟨_, Weak.share 19 rfl, ?_⟩
  refine SemC.loopR (σ := Nat) (fun q => St.of [(0, .own 1000000000), (4, .t (evT g s t)), (20, .t (.i q))] [(1000000000, itS g s t x q)]) (fun q => q <= 2) (fun q => 2 - q) 0 (Weak.of _ _ [some 1000000000] (by simp) (by simp) ?_ ?_) (by omega) fun q hq R hn hr he => ?_
  · simp -implicitDefEqProofs only [ints, rows, Nat.reduceBEq, wkR, Nat.reduceEqDiff, ↓reduceIte, wrR, q0rg, T.toSh, T.toShL, q0vg, q0vf, nodes, evT]
  · exact ⟨⟨_, rfl, .refl _⟩, rfl, trivial⟩
  · match q, hq with
    | 0, _ =>
      have hsl := q15m hg 0
      have nR := q0le g s t 0 x.r0
      have nZ := q0lj g s t 0 x.s0
      have lR : x.r0.length = (sets g 0).length := h.1.1
      have lZ : x.s0.length = (sets g 0).length := h.2.2.1.1
      have oR : okM g 0 (n * 30000000000000 + 30000000000000) (q14y g s t 0 x.r0) := q151 fun i hi => q15f hg k0 k1 (.inl rfl : (0 : Int) = 0 ∨ (0 : Int) = 1) h.1 hi
      have oZ : okM g 0 (n * 30000000000000 + 30000000000000) (q14z g s t 0 x.s0) := q151 fun i hi => q15g hg k0 k1 (.inl rfl : (0 : Int) = 0 ∨ (0 : Int) = 1) h.2.2.1 hi
      simp -implicitDefEqProofs only [go_sem, evR, ints, rows, rat, rats, itS, nodes, q0qa, decide_eq_true (show (0 : Int) < 2 by omega), Int.natCast_zero, Int.cast_ofNat_Int, opR, Nat.reduceBEq]
      have hp := q0fd g 0 t1.2 p2.2
      simp only [q0qa] at hp
      refine q006.res hp [] rfl Try.call152 ?_ (.inl rfl) ?_
      · simp -implicitDefEqProofs only [agR, Nat.reduceLeDiff, Nat.reduceSub, vaR, go_sem, ints, rows, rat, rats, q0p1, rtR, intsO, q0qa]
      simp -implicitDefEqProofs only [clR, Nat.reduceLeDiff, go_sem, evR, rat]
      refine SemC.loopR (σ := Nat) (fun i => St.of [(0, .own 1000000000), (4, .t (evT g s t)), (5, .t (.i 0)), (20, .t (.i 0)), (28, .t (rows (sets g 0))), (29, .t (.i (sets g 0).length)), (30, .t (.i i))] [(1000000000, .box [nodes g.nd, rows g.w, rows g.v, q0qa (mixL (q14y g s t 0 x.r0) x.r0 i), q0qa x.r1, q0qa (mixL (q14z g s t 0 x.s0) x.s0 i), q0qa x.s1])]) (fun i => i <= (sets g 0).length) (fun i => (sets g 0).length - i) 0 (Weak.trans (Weak.share 28 rfl) (Weak.of _ _ [some 1000000000] (by simp) (by simp) ?_ ?_)) (by simp) fun i hi R2 hn2 hr2 he2 => ?_
      · simp -implicitDefEqProofs only [ints, rows, Nat.reduceBEq, wkR, Nat.reduceEqDiff, ↓reduceIte, wrR, q0rg, T.toSh, q0vg, nodes, evT]
      · refine ⟨⟨_, rfl, ?_⟩, rfl, trivial⟩
        rw [q14w, q14w]; exact .refl _
      rcases Nat.lt_or_ge i (sets g 0).length with h9 | h9
      · obtain ⟨a1, a2, a3, a4, a5, a6⟩ := q15l h9
        have hu := q0f4 (U := x.r1) (V := x.s1) hg k0 k1 (q0m8 oR (q0m7 h.1 (by omega)) (i := i) (by omega)) (q0m8 oZ (q0m7 h.2.2.1 (by omega)) (i := i) (by omega)) (by omega) h9
        rw [q0q3 g s t 0 (by omega) (by omega), q0q4 g s t 0 (by omega) (by omega), q14v (by omega) (q0ld h9), q14v (by omega) (q0li h9)] at hu
        simp only [nodes, rows, q0qa] at hu
        simp -implicitDefEqProofs only [go_sem, evR, ints, rows, rat, rats, nodes, q0qa, evT, a1, decide_eq_true (show (i : Int) < ((sets g 0).length : Int) by omega), List.getElem?_cons_zero, List.getElem?_cons_succ, opR, Nat.reduceBEq]
        repeat (first | refine ⟨by omega, ?_⟩ | refine ⟨by rw [q0l0]; omega, ?_⟩)
        simp only [evT] at hu
        refine q002.ref hu [1000000000] [] rfl Try.call210 (by simp) ?_ (by simp) (fun e R' hR => ?_) (.inl rfl) ?_
        · simp -implicitDefEqProofs only [srR, Nat.reduceEqDiff, ↓reduceIte, ints, rows, intsO, q0qa]
        · simp -implicitDefEqProofs only [agR, Nat.reduceLeDiff, Nat.reduceSub, vaR, go_sem, ints, rows, rat, rats, q0p1, rtR, intsO, q0qa]
        simp -implicitDefEqProofs only [clR, Nat.reduceLeDiff, go_sem, evR, rat]
        refine hn2 _ (i + 1) (Weak.of _ _ [some 1000000000] (by simp) (by simp) ?_ ?_) (by omega) (by omega)
        · simp -implicitDefEqProofs only [ints, rows, Nat.reduceBEq, wkR, Nat.reduceEqDiff, ↓reduceIte, wrR, nodes, evT, q0lb h9 (by omega)]
        · exact ⟨⟨_, rfl, .refl _⟩, rfl, trivial⟩
      · have hil : i = (sets g 0).length := by omega
        have m1 : mixL (q14y g s t 0 x.r0) x.r0 i = q14y g s t 0 x.r0 := by rw [hil, ← lR]; exact q14s (by omega)
        have m2 : mixL (q14z g s t 0 x.s0) x.s0 i = q14z g s t 0 x.s0 := by rw [hil, ← lZ]; exact q14s (by omega)
        rw [m1, m2]
        simp -implicitDefEqProofs only [go_sem, evR, ints, rows, rat, rats, nodes, q0qa, evT, decide_eq_false (show ¬ (i : Int) < ((sets g 0).length : Int) by omega)]
        refine he2 _ _ ?_
        simp -implicitDefEqProofs only [go_sem, evR, ints, rows, rat, rats]
        refine hn _ 1 (Weak.of _ _ [some 1000000000] (by simp) (by simp) ?_ ?_) (by omega) (by omega)
        · simp -implicitDefEqProofs only [ints, rows, Nat.reduceBEq, wkR, Nat.reduceEqDiff, ↓reduceIte, wrR, nodes, evT, Int.zero_add, w1]
        · exact ⟨⟨_, rfl, .refl _⟩, rfl, trivial⟩
    | 1, _ =>
      have hsl := q15m hg 1
      have nR := q0le g s t 1 x.r1
      have nZ := q0lj g s t 1 x.s1
      have lR : x.r1.length = (sets g 1).length := h.2.1.1
      have lZ : x.s1.length = (sets g 1).length := h.2.2.2.1
      have oR : okM g 1 (n * 30000000000000 + 30000000000000) (q14y g s t 1 x.r1) := q151 fun i hi => q15f hg k0 k1 (.inr rfl : (1 : Int) = 0 ∨ (1 : Int) = 1) h.2.1 hi
      have oZ : okM g 1 (n * 30000000000000 + 30000000000000) (q14z g s t 1 x.s1) := q151 fun i hi => q15g hg k0 k1 (.inr rfl : (1 : Int) = 0 ∨ (1 : Int) = 1) h.2.2.2 hi
      simp -implicitDefEqProofs only [go_sem, evR, ints, rows, rat, rats, itS, nodes, q0qa, decide_eq_true (show (1 : Int) < 2 by omega), Int.natCast_zero, Int.cast_ofNat_Int, opR, Nat.reduceBEq]
      have hp := q0fd g 1 t1.2 p2.2
      simp only [q0qa] at hp
      refine q006.res hp [] rfl Try.call152 ?_ (.inl rfl) ?_
      · simp -implicitDefEqProofs only [agR, Nat.reduceLeDiff, Nat.reduceSub, vaR, go_sem, ints, rows, rat, rats, q0p1, rtR, intsO, q0qa]
      simp -implicitDefEqProofs only [clR, Nat.reduceLeDiff, go_sem, evR, rat]
      refine SemC.loopR (σ := Nat) (fun i => St.of [(0, .own 1000000000), (4, .t (evT g s t)), (5, .t (.i 1)), (20, .t (.i 1)), (28, .t (rows (sets g 1))), (29, .t (.i (sets g 1).length)), (30, .t (.i i))] [(1000000000, .box [nodes g.nd, rows g.w, rows g.v, q0qa (q14y g s t 0 x.r0), q0qa (mixL (q14y g s t 1 x.r1) x.r1 i), q0qa (q14z g s t 0 x.s0), q0qa (mixL (q14z g s t 1 x.s1) x.s1 i)])]) (fun i => i <= (sets g 1).length) (fun i => (sets g 1).length - i) 0 (Weak.trans (Weak.share 28 rfl) (Weak.of _ _ [some 1000000000] (by simp) (by simp) ?_ ?_)) (by simp) fun i hi R2 hn2 hr2 he2 => ?_
      · simp -implicitDefEqProofs only [ints, rows, Nat.reduceBEq, wkR, Nat.reduceEqDiff, ↓reduceIte, wrR, q0rg, T.toSh, q0vg, nodes, evT]
      · refine ⟨⟨_, rfl, ?_⟩, rfl, trivial⟩
        rw [q14w, q14w]; exact .refl _
      rcases Nat.lt_or_ge i (sets g 1).length with h9 | h9
      · obtain ⟨a1, a2, a3, a4, a5, a6⟩ := q15l h9
        have hu := q0f5 (U := (q14y g s t 0 x.r0)) (V := (q14z g s t 0 x.s0)) hg k0 k1 (q0m8 oR (q0m7 h.2.1 (by omega)) (i := i) (by omega)) (q0m8 oZ (q0m7 h.2.2.2 (by omega)) (i := i) (by omega)) (by omega) h9
        rw [q0q3 g s t 1 (by omega) (by omega), q0q4 g s t 1 (by omega) (by omega), q14v (by omega) (q0ld h9), q14v (by omega) (q0li h9)] at hu
        simp only [nodes, rows, q0qa] at hu
        simp -implicitDefEqProofs only [go_sem, evR, ints, rows, rat, rats, nodes, q0qa, evT, a1, decide_eq_true (show (i : Int) < ((sets g 1).length : Int) by omega), List.getElem?_cons_zero, List.getElem?_cons_succ, opR, Nat.reduceBEq]
        repeat (first | refine ⟨by omega, ?_⟩ | refine ⟨by rw [q0l0]; omega, ?_⟩)
        simp only [evT] at hu
        refine q002.ref hu [1000000000] [] rfl Try.call210 (by simp) ?_ (by simp) (fun e R' hR => ?_) (.inl rfl) ?_
        · simp -implicitDefEqProofs only [srR, Nat.reduceEqDiff, ↓reduceIte, ints, rows, intsO, q0qa]
        · simp -implicitDefEqProofs only [agR, Nat.reduceLeDiff, Nat.reduceSub, vaR, go_sem, ints, rows, rat, rats, q0p1, rtR, intsO, q0qa]
        simp -implicitDefEqProofs only [clR, Nat.reduceLeDiff, go_sem, evR, rat]
        refine hn2 _ (i + 1) (Weak.of _ _ [some 1000000000] (by simp) (by simp) ?_ ?_) (by omega) (by omega)
        · simp -implicitDefEqProofs only [ints, rows, Nat.reduceBEq, wkR, Nat.reduceEqDiff, ↓reduceIte, wrR, nodes, evT, q0lb h9 (by omega)]
        · exact ⟨⟨_, rfl, .refl _⟩, rfl, trivial⟩
      · have hil : i = (sets g 1).length := by omega
        have m1 : mixL (q14y g s t 1 x.r1) x.r1 i = q14y g s t 1 x.r1 := by rw [hil, ← lR]; exact q14s (by omega)
        have m2 : mixL (q14z g s t 1 x.s1) x.s1 i = q14z g s t 1 x.s1 := by rw [hil, ← lZ]; exact q14s (by omega)
        rw [m1, m2]
        simp -implicitDefEqProofs only [go_sem, evR, ints, rows, rat, rats, nodes, q0qa, evT, decide_eq_false (show ¬ (i : Int) < ((sets g 1).length : Int) by omega)]
        refine he2 _ _ ?_
        simp -implicitDefEqProofs only [go_sem, evR, ints, rows, rat, rats]
        refine hn _ 2 (Weak.of _ _ [some 1000000000] (by simp) (by simp) ?_ ?_) (by omega) (by omega)
        · simp -implicitDefEqProofs only [ints, rows, Nat.reduceBEq, wkR, Nat.reduceEqDiff, ↓reduceIte, wrR, nodes, evT, w2']
        · exact ⟨⟨_, rfl, .refl _⟩, rfl, trivial⟩
    | 2, _ =>
      simp -implicitDefEqProofs only [go_sem, evR, ints, rows, rat, rats, itS, nodes, q0qa, decide_eq_false (show ¬ (2 : Int) < 2 by omega), Int.natCast_zero, Int.cast_ofNat_Int]
      refine he _ _ ?_
      simp -implicitDefEqProofs only [go_sem, evR, ints, rows, rat, rats, itS, nodes, q0qa, opR, Nat.reduceBEq]
end
def ssS (g : Gm) (s t : List (List Int)) (x : RS) : Nat -> T
  | 0 => .box [nodes g.nd, rows g.w, rows g.v, .arr 1 [q0qa x.r0, q0qa x.r1], .arr 1 [q0qa x.s0, q0qa x.s1]]
  | 1 => .box [nodes g.nd, rows g.w, rows g.v, .arr 1 [q0qa (q14y g s t 0 x.r0), q0qa x.r1], .arr 1 [q0qa (q14z g s t 0 x.s0), q0qa x.s1]]
  | _ => .box [nodes g.nd, rows g.w, rows g.v, .arr 1 [q0qa (q14y g s t 0 x.r0), q0qa (q14y g s t 1 x.r1)], .arr 1 [q0qa (q14z g s t 0 x.s0), q0qa (q14z g s t 1 x.s1)]]
section
attribute [-go_sem] q0i5 q0id fldC lenC idxC q0ip q0lp
set_option maxHeartbeats 2000000 in
theorem q0sz (g : Gm) (hg : q0fl g = true) (x : RS) {n : Nat} (hn : n <= 900) (h : okRS g n x) : Fun Try.prog 169 [ssB g x] [.own 1000000000] fun o r => o = [ssB g (q15q g x)] /\ r = .tup [] := by
  obtain ⟨p1, p2, p3, p4, p5⟩ := q0fn hg
  obtain ⟨t1, t2, t3, t4⟩ := q0g0 p1
  obtain ⟨k0, k1, _, _⟩ := q152 hg (by omega) h
  have k0 := q0nx k0
  have k1 := q0nx k1
  have w1 : IntKind.i64.wrap 1 = 1 := rfl
  have w2' : IntKind.i64.wrap (1 + 1) = 2 := rfl
  refine q0cc (by simp) ?_
  simp -implicitDefEqProofs only [go_sem, evR, ints, rows, rat, rats, q05e, ssB, nodes, q0qa, opR, Nat.reduceBEq]
  refine ⟨_, Weak.trans (Weak.open 1000000000 3 501 rfl rfl rfl (by decide) rfl) (Weak.trans (Weak.open 501 0 502 rfl rfl rfl (by decide) rfl) (Weak.open 501 1 503 rfl rfl rfl (by decide) rfl)), ?_⟩
  simp -implicitDefEqProofs only [go_sem, evR, ints, rows, rat, rats, q0qa, opR, Nat.reduceBEq]
  have hs0 := q0t0 0 x.r0 (q0m9 hg (.inl rfl) h.1) (by omega)
  refine q000.res hs0 [502] rfl Try.call111 (fun e R' hR => ?_) (.inr ⟨trivial, q0qb _, trivial⟩) ?_
  · have hq502 := (hR 502).resolve_left (by simp -implicitDefEqProofs only [go_sem, evR, ints, rows, rat, rats, not_false_eq_true])
    simp -implicitDefEqProofs only [go_sem, evR, ints, rows, rat, rats] at hq502
    simp -implicitDefEqProofs only [agR, Nat.reduceLeDiff, Nat.reduceSub, vaR, go_sem, ints, rows, rat, rats, q0p1, rtR, intsO, q0qa, hq502]
  simp -implicitDefEqProofs only [clR, Nat.reduceLeDiff, go_sem, evR, rat, opR, Nat.reduceBEq]
  have hs1 := q0t0 1 x.r1 (q0m9 hg (.inr rfl) h.2.1) (by omega)
  refine q000.res hs1 [503] rfl Try.call111 (fun e R' hR => ?_) (.inr ⟨trivial, q0qb _, trivial⟩) ?_
  · have hq503 := (hR 503).resolve_left (by simp -implicitDefEqProofs only [go_sem, evR, ints, rows, rat, rats, not_false_eq_true])
    simp -implicitDefEqProofs only [go_sem, evR, ints, rows, rat, rats] at hq503
    simp -implicitDefEqProofs only [agR, Nat.reduceLeDiff, Nat.reduceSub, vaR, go_sem, ints, rows, rat, rats, q0p1, rtR, intsO, q0qa, hq503]
  simp -implicitDefEqProofs only [clR, Nat.reduceLeDiff, go_sem, evR, rat, opR, Nat.reduceBEq]
  have hstep : q15q g x = ⟨q14y g (stM x.r0) (stM x.r1) 0 x.r0, q14y g (stM x.r0) (stM x.r1) 1 x.r1, q14z g (stM x.r0) (stM x.r1) 0 x.s0, q14z g (stM x.r0) (stM x.r1) 1 x.s1⟩ := rfl
  rw [hstep]
  clear hs0 hs1 hstep
  generalize stM x.r0 = s at k0 ⊢
  generalize stM x.r1 = t at k1 ⊢
  refine ⟨_, Weak.trans (Weak.close 501 1 503 rfl rfl (by decide) rfl (by simp)) (Weak.trans (Weak.close1 501 0 502 rfl rfl (by decide) rfl) (Weak.trans (Weak.close1 1000000000 3 501 rfl rfl (by decide) rfl) (Weak.trans (Weak.share 2 rfl) (Weak.share 3 rfl)))), ?_⟩
  refine SemC.loopR (σ := Nat) (fun q => St.of [(0, .own 1000000000), (2, .t (.pin [.i 0, rows s] 0)), (3, .t (.pin [.i 1, rows t] 0)), (4, .t (.i q))] [(1000000000, ssS g s t x q)]) (fun q => q <= 2) (fun q => 2 - q) 0 (Weak.of _ _ [some 1000000000] (by simp) (by simp) ?_ ?_) (by omega) fun q hq R hn hr he => ?_
  · simp -implicitDefEqProofs only [ints, rows, Nat.reduceBEq, wkR, Nat.reduceEqDiff, ↓reduceIte, wrR, q0rg, T.toSh, T.toShL, q0vg, nodes]
  · exact ⟨⟨_, rfl, .refl _⟩, rfl, trivial⟩
  · match q, hq with
    | 0, _ =>
      have hsl := q15m hg 0
      have nR := q0le g s t 0 x.r0
      have nZ := q0lj g s t 0 x.s0
      have lR : x.r0.length = (sets g 0).length := h.1.1
      have lZ : x.s0.length = (sets g 0).length := h.2.2.1.1
      simp -implicitDefEqProofs only [go_sem, evR, ints, rows, rat, rats, ssS, nodes, q0qa, decide_eq_true (show (0 : Int) < 2 by omega), show ((0 : Int) == 1) = false from rfl, show ((1 : Int) == 1) = true from rfl, Int.natCast_zero, Int.cast_ofNat_Int, opR, Nat.reduceBEq]
      have hp := q0h9 g 0 t1.2 p2.2
      simp only [q0qa] at hp
      refine q006.res hp [] rfl Try.call186 ?_ (.inl rfl) ?_
      · simp -implicitDefEqProofs only [agR, Nat.reduceLeDiff, Nat.reduceSub, vaR, go_sem, ints, rows, rat, rats, q0p1, rtR, intsO, q0qa]
      simp -implicitDefEqProofs only [clR, Nat.reduceLeDiff, go_sem, evR, rat]
      refine SemC.loopR (σ := Nat) (fun i => St.of [(0, .own 1000000000), (2, .t (.pin [.i 0, rows s] 0)), (3, .t (.pin [.i 1, rows t] 0)), (4, .t (.i 0)), (5, .own 105), (6, .t (rows (sets g 0))), (7, .t (.i i))] [(1000000000, .box [nodes g.nd, rows g.w, rows g.v, .arr 1 [q0qa (mixL (q14y g s t 0 x.r0) x.r0 i), q0qa x.r1], .arr 1 [q0qa (mixL (q14z g s t 0 x.s0) x.s0 i), q0qa x.s1]]), (105, .box [.i 0, rows s])]) (fun i => i <= (sets g 0).length) (fun i => (sets g 0).length - i) 0 (Weak.trans (Weak.share 40 rfl) (Weak.of _ _ [some 1000000000, some 5] (by simp) (by simp) ?_ ?_)) (by simp) fun i hi R2 hn2 hr2 he2 => ?_
      · simp -implicitDefEqProofs only [ints, rows, Nat.reduceBEq, wkR, Nat.reduceEqDiff, ↓reduceIte, wrR, q0rg, T.toSh, q0vg, nodes]
      · refine ⟨⟨_, rfl, ?_⟩, rfl, ⟨_, rfl, .refl _⟩, rfl, trivial⟩
        rw [q14w, q14w]; exact .refl _
      rcases Nat.lt_or_ge i (sets g 0).length with h9 | h9
      · obtain ⟨a1, a2, a3, a4, a5, a6⟩ := q15l h9
        obtain ⟨b1, b2⟩ := q0ri hg (.inl rfl : (0 : Int) = 0 ∨ (0 : Int) = 1) h9
        obtain ⟨r, hr0, hr0', hrl, hrb⟩ := q150 h.1 h9
        obtain ⟨z, hz0, hz0', hzl, hzb⟩ := q150 h.2.2.1 h9
        obtain ⟨y1, y2, y3, y4⟩ := q14r hg (.inl rfl : (0 : Int) = 0 ∨ (0 : Int) = 1) (q153 k0 k1 (.inl rfl : (0 : Int) = 0 ∨ (0 : Int) = 1)).1 h9
        obtain ⟨f1, f2⟩ := q15f hg k0 k1 (.inl rfl : (0 : Int) = 0 ∨ (0 : Int) = 1) h.1 h9
        obtain ⟨f3, f4⟩ := q15g hg k0 k1 (.inl rfl : (0 : Int) = 0 ∨ (0 : Int) = 1) h.2.2.1 h9
        have hgR := q0ld (s := s) (t := t) (R := x.r0) h9
        have hgZ := q0li (s := s) (t := t) (R := x.s0) h9
        have hRd : rowR g s t 0 x.r0 i = updR r (cnts g s t 0 (setN g 0 i) (setC g 0 i)) (q14l ((q10l 0 s t).getD i []) (cnts g s t 0 (setN g 0 i) (setC g 0 i))) := by rw [rowR, hr0']
        have hSd : rowS g s t 0 x.s0 i = updW z ((q10l 0 s t).getD i []) (wayP g (q10l 0 s t) 0 (setC g 0 i) (setN g 0 i)) := by rw [rowS, hz0']
        have hqs : s[i]? = some ((q10l 0 s t).getD i []) := y1
        generalize hqq : (q10l 0 s t).getD i [] = qv at y1 y2 y3 y4 hRd hSd hqs
        generalize hnr : rowR g s t 0 x.r0 i = nr at f1 f2 hRd hgR
        generalize hnz : rowS g s t 0 x.s0 i = nz at f3 f4 hSd hgZ
        generalize setN g 0 i = n at a1 a2 a4 a5 hRd hSd
        generalize setC g 0 i = c at a1 a3 hRd hSd
        have h2 : (g.nd.getD n nd0).p ≠ 2 := by omega
        have hcb := q149 hg k0 k1 (.inl rfl : (0 : Int) = 0 ∨ (0 : Int) = 1) a2 h2 a3
        have hcl := q14b g s t 0 n c
        have hcc := q0st hg k0 k1 a2 h2 a3
        have hway := q0sy hg (.inl rfl : (0 : Int) = 0 ∨ (0 : Int) = 1) (q153 k0 k1 (.inl rfl : (0 : Int) = 0 ∨ (0 : Int) = 1)).1 a3 a2
        have hwb := q154 hg (q153 k0 k1 (.inl rfl : (0 : Int) = 0 ∨ (0 : Int) = 1)).1 a3 a2 h2
        have hMb := q14n y3 hcb (cnts g s t 0 n c).length
        have hMd : q14l qv (cnts g s t 0 n c) = q14m qv (cnts g s t 0 n c) (cnts g s t 0 n c).length := rfl
        rw [show q10l 0 s t = s from rfl] at hway hwb hSd
        simp only [intsO] at hcc
        simp -implicitDefEqProofs only [go_sem, evR, ints, rows, rat, rats, nodes, q0qa, a1, decide_eq_true (show (i : Int) < ((sets g 0).length : Int) by omega), List.getElem?_cons_zero, List.getElem?_cons_succ, opR, Nat.reduceBEq]
        repeat (first | refine ⟨by omega, ?_⟩ | refine ⟨by rw [q0l0]; omega, ?_⟩)
        refine q000.res hcc [] rfl Try.call208 (fun e R' hR => ?_) (.inl rfl) ?_
        · simp -implicitDefEqProofs only [agR, Nat.reduceLeDiff, Nat.reduceSub, vaR, go_sem, ints, rows, rat, rats, q0p1, rtR, intsO, q0qa]
        simp -implicitDefEqProofs only [clR, Nat.reduceLeDiff, go_sem, evR, rat, opR, Nat.reduceBEq]
        generalize wayP g s 0 c n = w at hwb hSd hway
        generalize cnts g s t 0 n c = C at hcb hcl hMb hMd hRd
        refine SemC.loopR (σ := Nat) (fun k => St.of [(0, .own 1000000000), (2, .t (.pin [.i 0, rows s] 0)), (3, .t (.pin [.i 1, rows t] 0)), (4, .t (.i 0)), (5, .own 105), (6, .t (rows (sets g 0))), (7, .t (.i i)), (8, .own 98), (9, .t (.i (q14m qv C k))), (10, .t (.i k))] [(1000000000, .box [nodes g.nd, rows g.w, rows g.v, .arr 1 [q0qa (mixL (q14y g s t 0 x.r0) x.r0 i), q0qa x.r1], .arr 1 [q0qa (mixL (q14z g s t 0 x.s0) x.s0 i), q0qa x.s1]]), (105, .box [.i 0, rows s]), (98, intsO C)]) (fun k => k <= C.length) (fun k => C.length - k) 0 (Weak.of _ _ [some 1000000000, some 105, some 66] (by simp) (by simp) ?_ ?_) (by omega) fun k hk R3 hn3 hr3 he3 => ?_
        · simp -implicitDefEqProofs only [ints, rows, Nat.reduceBEq, wkR, Nat.reduceEqDiff, ↓reduceIte, wrR, nodes, q14p]
        · exact ⟨⟨_, rfl, .refl _⟩, rfl, ⟨_, rfl, .refl _⟩, rfl, ⟨_, rfl, .refl _⟩, rfl, trivial⟩
        rcases Nat.lt_or_ge k C.length with h8 | h8
        · obtain ⟨v, hv⟩ : ∃ v, C[k]? = some v := ⟨_, List.getElem?_eq_getElem h8⟩
          obtain ⟨y, hy⟩ : ∃ y, qv[k]? = some y := ⟨_, List.getElem?_eq_getElem (by omega)⟩
          have hyb := y3 y (List.mem_of_getElem? hy)
          have hvb := hcb v (List.mem_of_getElem? hv)
          obtain ⟨m1, m2⟩ := q0kl hyb.1 hvb.1 hvb.2
          have hms := q14o hy hv
          have hm1 := q14n y3 hcb k
          have hm2 := q14n y3 hcb (k + 1)
          have hqsl := (List.getElem?_eq_some_iff.1 hqs).1
          simp -implicitDefEqProofs only [go_sem, evR, ints, rows, rat, rats, nodes, q0qa, intsO, hqs, hy, hv, decide_eq_true (show (k : Int) < (C.length : Int) by omega), opR, Nat.reduceBEq]
          repeat (first | refine ⟨by omega, ?_⟩ | refine ⟨by rw [q0l0]; omega, ?_⟩)
          refine hn3 _ (k + 1) (Weak.of _ _ [some 1000000000, some 105, some 98] (by simp) (by simp) ?_ ?_) (by omega) (by omega)
          · simp -implicitDefEqProofs only [ints, rows, Nat.reduceBEq, wkR, Nat.reduceEqDiff, ↓reduceIte, wrR, nodes, q0lb h8 (show C.length <= 1000000000000 by omega), wrap64 (n := y * v) (by omega) (by omega), ← hms, wrap64 (n := q14m qv C (k + 1)) (by omega) (by omega)]
          · exact ⟨⟨_, rfl, .refl _⟩, rfl, ⟨_, rfl, .refl _⟩, rfl, ⟨_, rfl, .refl _⟩, rfl, trivial⟩
        have hkC : k = C.length := by omega
        subst hkC
        rw [← hMd]
        rw [← hMd] at hMb
        generalize q14l qv C = M at hMb hRd ⊢
        simp -implicitDefEqProofs only [go_sem, evR, ints, rows, rat, rats, nodes, q0qa, intsO, a1, decide_eq_false (show ¬ (C.length : Int) < (C.length : Int) by omega), opR, Nat.reduceBEq]
        refine he3 _ _ ?_
        simp -implicitDefEqProofs only [go_sem, evR, ints, rows, rat, rats, nodes, q0qa, intsO, a1, List.getElem?_cons_zero, List.getElem?_cons_succ, opR, Nat.reduceBEq]
        repeat (first | refine ⟨by omega, ?_⟩ | refine ⟨by rw [q0l0]; omega, ?_⟩)
        refine q004.pure hway [] rfl Try.call209 (fun e R' hR => ?_) (by first | trivial | simp [T.noSh, T.noShL, rat]) (fun _ => rfl) ?_
        · simp -implicitDefEqProofs only [agR, Nat.reduceLeDiff, Nat.reduceSub, vaR, go_sem, ints, rows, rat, rats, q0p1, rtR, intsO, q0qa]
        simp -implicitDefEqProofs only [go_sem, evR, ints, rows, rat, rats]
        have hnl : nr.length = r.length := by omega
        have hnz' : nz.length = z.length := by omega
        have hLR : (mixL (q14y g s t 0 x.r0) x.r0 i).length = x.r0.length := q14u (by omega) (by omega)
        have hLZ : (mixL (q14z g s t 0 x.s0) x.s0 i).length = x.s0.length := q14u (by omega) (by omega)
        have hmR := q14v (new := q14y g s t 0 x.r0) (old := x.r0) (by omega) hgR
        have hmZ := q14v (new := q14z g s t 0 x.s0) (old := x.s0) (by omega) hgZ
        have hgR0 : (mixL (q14y g s t 0 x.r0) x.r0 i)[i]? = some r := by rw [q14t (by omega) (by omega)]; exact hr0
        have hgZ0 : (mixL (q14z g s t 0 x.s0) x.s0 i)[i]? = some z := by rw [q14t (by omega) (by omega)]; exact hz0
        refine SemC.loopR (σ := Nat) (fun k => St.of [(0, .own 1000000000), (2, .t (.pin [.i 0, rows s] 0)), (3, .t (.pin [.i 1, rows t] 0)), (4, .t (.i 0)), (5, .own 105), (6, .t (rows (sets g 0))), (7, .t (.i i)), (8, .own 98), (9, .t (.i M)), (11, .t (.i w)), (12, .t (.i k))] [(1000000000, .box [nodes g.nd, rows g.w, rows g.v, .arr 1 [q0qa ((mixL (q14y g s t 0 x.r0) x.r0 i).set i (mixL nr r k)), q0qa x.r1], .arr 1 [q0qa ((mixL (q14z g s t 0 x.s0) x.s0 i).set i (mixL nz z k)), q0qa x.s1]]), (105, .box [.i 0, rows s]), (98, intsO C)]) (fun k => k <= C.length) (fun k => C.length - k) 0 (Weak.of _ _ [some 1000000000, some 105, some 98] (by simp) (by simp) ?_ ?_) (by omega) fun k hk R4 hn4 hr4 he4 => ?_
        · simp -implicitDefEqProofs only [ints, rows, Nat.reduceBEq, wkR, Nat.reduceEqDiff, ↓reduceIte, wrR, nodes]
        · refine ⟨⟨_, rfl, ?_⟩, rfl, ⟨_, rfl, .refl _⟩, rfl, ⟨_, rfl, .refl _⟩, rfl, trivial⟩
          rw [q14w, q14w, q0r2 hgR0, q0r2 hgZ0]; exact .refl _
        rcases Nat.lt_or_ge k C.length with h8 | h8
        · obtain ⟨v, hv⟩ : ∃ v, C[k]? = some v := ⟨_, List.getElem?_eq_getElem h8⟩
          obtain ⟨y, hy⟩ : ∃ y, qv[k]? = some y := ⟨_, List.getElem?_eq_getElem (by omega)⟩
          obtain ⟨x0, hx0⟩ : ∃ x0, r[k]? = some x0 := ⟨_, List.getElem?_eq_getElem (by omega)⟩
          obtain ⟨x1, hx1⟩ : ∃ x1, z[k]? = some x1 := ⟨_, List.getElem?_eq_getElem (by omega)⟩
          have hyb := y3 y (List.mem_of_getElem? hy)
          have hvb := hcb v (List.mem_of_getElem? hv)
          have hb0 := hrb x0 (List.mem_of_getElem? hx0)
          have hb1 := hzb x1 (List.mem_of_getElem? hx1)
          have hwy : 0 <= w * y /\ w * y <= 12960000 * 60 := ⟨Int.mul_nonneg hwb.1 hyb.1, Int.mul_le_mul hwb.2 hyb.2 hyb.1 (by decide)⟩
          have hnr1 : nr[k]? = some (x0 + (60 * v - M)) := by rw [hRd]; exact q15t hx0 hv
          have hnz1 : nz[k]? = some (x1 + w * y) := by rw [hSd]; exact q15v hx1 hy
          have hg1 : (mixL nr r k)[k]? = some x0 := by rw [q14t hnl (by omega)]; exact hx0
          have hg2 : (mixL nz z k)[k]? = some x1 := by rw [q14t hnz' (by omega)]; exact hx1
          have hl1 : (mixL nr r k).length = r.length := q14u hnl (by omega)
          have hl2 : (mixL nz z k).length = z.length := q14u hnz' (by omega)
          have hqsl := (List.getElem?_eq_some_iff.1 hqs).1
          have hc1 : (List.map intsO ((mixL (q14y g s t 0 x.r0) x.r0 i).set i (mixL nr r k)))[i]? = some (intsO (mixL nr r k)) := by rw [List.getElem?_map, List.getElem?_set_self (by omega)]; rfl
          have hc2 : (List.map intsO ((mixL (q14z g s t 0 x.s0) x.s0 i).set i (mixL nz z k)))[i]? = some (intsO (mixL nz z k)) := by rw [List.getElem?_map, List.getElem?_set_self (by omega)]; rfl
          have hc3 : ((List.map intsO ((mixL (q14y g s t 0 x.r0) x.r0 i).set i (mixL nr r k))).set i T.any)[i]? = some T.any := List.getElem?_set_self (by rw [List.length_map, List.length_set]; omega)
          have hc4 : ((List.map intsO ((mixL (q14z g s t 0 x.s0) x.s0 i).set i (mixL nz z k))).set i T.any)[i]? = some T.any := List.getElem?_set_self (by rw [List.length_map, List.length_set]; omega)
          simp -implicitDefEqProofs only [go_sem, evR, ints, rows, rat, rats, nodes, q0qa, intsO, hy, decide_eq_true (show (k : Int) < (C.length : Int) by omega), opR, Nat.reduceBEq]
          refine ⟨_, Weak.trans (Weak.open 1000000000 3 501 rfl rfl rfl (by decide) rfl) (Weak.trans (Weak.open 501 0 502 rfl rfl rfl (by decide) rfl) (Weak.open 502 i 503 rfl hc1 rfl (by decide) rfl)), ?_⟩
          simp -implicitDefEqProofs only [go_sem, evR, ints, rows, rat, rats, q0qa, intsO, hg1, hc1, hc3, hl1, hLR, hv, List.length_set, opR, Nat.reduceBEq]
          repeat (first | refine ⟨by omega, ?_⟩ | refine ⟨by rw [q0l0]; omega, ?_⟩)
          refine ⟨_, Weak.trans (Weak.close1 502 i 503 rfl rfl (by decide) hc3) (Weak.trans (Weak.close1 501 0 502 rfl rfl (by decide) rfl) (Weak.trans (Weak.close1 1000000000 3 501 rfl rfl (by decide) rfl) (Weak.trans (Weak.open 1000000000 4 504 rfl rfl rfl (by decide) rfl) (Weak.trans (Weak.open 504 0 505 rfl rfl rfl (by decide) rfl) (Weak.open 505 i 506 rfl hc2 rfl (by decide) rfl))))), ?_⟩
          simp -implicitDefEqProofs only [go_sem, evR, ints, rows, rat, rats, q0qa, intsO, hg2, hc2, hc4, hl2, hLZ, hv, hqs, hy, List.length_set, opR, Nat.reduceBEq]
          repeat (first | refine ⟨by omega, ?_⟩ | refine ⟨by rw [q0l0]; omega, ?_⟩)
          have wA : IntKind.i64.wrap (60 * v) = 60 * v := wrap64 (by omega) (by omega)
          have wB : IntKind.i64.wrap (x0 + 60 * v) = x0 + 60 * v := wrap64 (by omega) (by omega)
          have wC : IntKind.i64.wrap (x0 + 60 * v - M) = x0 + (60 * v - M) := by rw [wrap64 (by omega) (by omega)]; omega
          have wD : IntKind.i64.wrap (w * y) = w * y := wrap64 (by omega) (by omega)
          have wE : IntKind.i64.wrap (x1 + w * y) = x1 + w * y := wrap64 (by omega) (by omega)
          refine ⟨_, Weak.trans (Weak.close1 505 i 506 rfl rfl (by decide) hc4) (Weak.trans (Weak.close1 504 0 505 rfl rfl (by decide) rfl) (Weak.close1 1000000000 4 504 rfl rfl (by decide) rfl)), ?_⟩
          simp -implicitDefEqProofs only [go_sem, evR, ints, rows, rat, rats, q0qa, intsO, opR, Nat.reduceBEq]
          refine hn4 _ (k + 1) (Weak.of _ _ [some 1000000000, some 105, some 98] (by simp) (by simp) ?_ ?_) (by omega) (by omega)
          · simp -implicitDefEqProofs only [ints, rows, Nat.reduceBEq, wkR, Nat.reduceEqDiff, ↓reduceIte, wrR, nodes, q0lb h8 (show C.length <= 1000000000000 by omega)]
          · refine ⟨⟨_, rfl, ?_⟩, rfl, ⟨_, rfl, .refl _⟩, rfl, ⟨_, rfl, .refl _⟩, rfl, trivial⟩
            rw [← q14v hnl hnr1, ← q14v hnz' hnz1]
            simp only [q0qa, intsO, List.map_set, List.set_set, wA, wB, wC, wD, wE, nodes, rows]
            exact .refl _
        · have m1 : mixL nr r k = nr := by rw [show k = r.length by omega]; exact q14s hnl
          have m2 : mixL nz z k = nz := by rw [show k = z.length by omega]; exact q14s hnz'
          rw [m1, m2, hmR, hmZ]
          simp -implicitDefEqProofs only [go_sem, evR, ints, rows, rat, rats, nodes, q0qa, intsO, decide_eq_false (show ¬ (k : Int) < (C.length : Int) by omega), opR, Nat.reduceBEq]
          refine he4 _ _ ?_
          simp -implicitDefEqProofs only [go_sem, evR, ints, rows, rat, rats]
          refine hn2 _ (i + 1) (Weak.of _ _ [some 1000000000, some 105] (by simp) (by simp) ?_ ?_) (by omega) (by omega)
          · simp -implicitDefEqProofs only [ints, rows, Nat.reduceBEq, wkR, Nat.reduceEqDiff, ↓reduceIte, wrR, nodes, q0lb h9 (by omega)]
          · exact ⟨⟨_, rfl, .refl _⟩, rfl, ⟨_, rfl, .refl _⟩, rfl, trivial⟩
      · have hil : i = (sets g 0).length := by omega
        have m1 : mixL (q14y g s t 0 x.r0) x.r0 i = q14y g s t 0 x.r0 := by rw [hil, ← lR]; exact q14s (by omega)
        have m2 : mixL (q14z g s t 0 x.s0) x.s0 i = q14z g s t 0 x.s0 := by rw [hil, ← lZ]; exact q14s (by omega)
        rw [m1, m2]
        simp -implicitDefEqProofs only [go_sem, evR, ints, rows, rat, rats, nodes, q0qa, decide_eq_false (show ¬ (i : Int) < ((sets g 0).length : Int) by omega)]
        refine he2 _ _ ?_
        simp -implicitDefEqProofs only [go_sem, evR, ints, rows, rat, rats]
        refine hn _ 1 (Weak.of _ _ [some 1000000000] (by simp) (by simp) ?_ ?_) (by omega) (by omega)
        · simp -implicitDefEqProofs only [ints, rows, Nat.reduceBEq, wkR, Nat.reduceEqDiff, ↓reduceIte, wrR, nodes, Int.zero_add, w1]
        · exact ⟨⟨_, rfl, .refl _⟩, rfl, trivial⟩
    | 1, _ =>
      have hsl := q15m hg 1
      have nR := q0le g s t 1 x.r1
      have nZ := q0lj g s t 1 x.s1
      have lR : x.r1.length = (sets g 1).length := h.2.1.1
      have lZ : x.s1.length = (sets g 1).length := h.2.2.2.1
      simp -implicitDefEqProofs only [go_sem, evR, ints, rows, rat, rats, ssS, nodes, q0qa, decide_eq_true (show (1 : Int) < 2 by omega), show ((0 : Int) == 1) = false from rfl, show ((1 : Int) == 1) = true from rfl, Int.natCast_zero, Int.cast_ofNat_Int, opR, Nat.reduceBEq]
      have hp := q0h9 g 1 t1.2 p2.2
      simp only [q0qa] at hp
      refine q006.res hp [] rfl Try.call186 ?_ (.inl rfl) ?_
      · simp -implicitDefEqProofs only [agR, Nat.reduceLeDiff, Nat.reduceSub, vaR, go_sem, ints, rows, rat, rats, q0p1, rtR, intsO, q0qa]
      simp -implicitDefEqProofs only [clR, Nat.reduceLeDiff, go_sem, evR, rat]
      refine SemC.loopR (σ := Nat) (fun i => St.of [(0, .own 1000000000), (2, .t (.pin [.i 0, rows s] 0)), (3, .t (.pin [.i 1, rows t] 0)), (4, .t (.i 1)), (5, .own 105), (6, .t (rows (sets g 1))), (7, .t (.i i))] [(1000000000, .box [nodes g.nd, rows g.w, rows g.v, .arr 1 [q0qa (q14y g s t 0 x.r0), q0qa (mixL (q14y g s t 1 x.r1) x.r1 i)], .arr 1 [q0qa (q14z g s t 0 x.s0), q0qa (mixL (q14z g s t 1 x.s1) x.s1 i)]]), (105, .box [.i 1, rows t])]) (fun i => i <= (sets g 1).length) (fun i => (sets g 1).length - i) 0 (Weak.trans (Weak.share 40 rfl) (Weak.of _ _ [some 1000000000, some 5] (by simp) (by simp) ?_ ?_)) (by simp) fun i hi R2 hn2 hr2 he2 => ?_
      · simp -implicitDefEqProofs only [ints, rows, Nat.reduceBEq, wkR, Nat.reduceEqDiff, ↓reduceIte, wrR, q0rg, T.toSh, q0vg, nodes]
      · refine ⟨⟨_, rfl, ?_⟩, rfl, ⟨_, rfl, .refl _⟩, rfl, trivial⟩
        rw [q14w, q14w]; exact .refl _
      rcases Nat.lt_or_ge i (sets g 1).length with h9 | h9
      · obtain ⟨a1, a2, a3, a4, a5, a6⟩ := q15l h9
        obtain ⟨b1, b2⟩ := q0ri hg (.inr rfl : (1 : Int) = 0 ∨ (1 : Int) = 1) h9
        obtain ⟨r, hr0, hr0', hrl, hrb⟩ := q150 h.2.1 h9
        obtain ⟨z, hz0, hz0', hzl, hzb⟩ := q150 h.2.2.2 h9
        obtain ⟨y1, y2, y3, y4⟩ := q14r hg (.inr rfl : (1 : Int) = 0 ∨ (1 : Int) = 1) (q153 k0 k1 (.inr rfl : (1 : Int) = 0 ∨ (1 : Int) = 1)).1 h9
        obtain ⟨f1, f2⟩ := q15f hg k0 k1 (.inr rfl : (1 : Int) = 0 ∨ (1 : Int) = 1) h.2.1 h9
        obtain ⟨f3, f4⟩ := q15g hg k0 k1 (.inr rfl : (1 : Int) = 0 ∨ (1 : Int) = 1) h.2.2.2 h9
        have hgR := q0ld (s := s) (t := t) (R := x.r1) h9
        have hgZ := q0li (s := s) (t := t) (R := x.s1) h9
        have hRd : rowR g s t 1 x.r1 i = updR r (cnts g s t 1 (setN g 1 i) (setC g 1 i)) (q14l ((q10l 1 s t).getD i []) (cnts g s t 1 (setN g 1 i) (setC g 1 i))) := by rw [rowR, hr0']
        have hSd : rowS g s t 1 x.s1 i = updW z ((q10l 1 s t).getD i []) (wayP g (q10l 1 s t) 1 (setC g 1 i) (setN g 1 i)) := by rw [rowS, hz0']
        have hqs : t[i]? = some ((q10l 1 s t).getD i []) := y1
        generalize hqq : (q10l 1 s t).getD i [] = qv at y1 y2 y3 y4 hRd hSd hqs
        generalize hnr : rowR g s t 1 x.r1 i = nr at f1 f2 hRd hgR
        generalize hnz : rowS g s t 1 x.s1 i = nz at f3 f4 hSd hgZ
        generalize setN g 1 i = n at a1 a2 a4 a5 hRd hSd
        generalize setC g 1 i = c at a1 a3 hRd hSd
        have h2 : (g.nd.getD n nd0).p ≠ 2 := by omega
        have hcb := q149 hg k0 k1 (.inr rfl : (1 : Int) = 0 ∨ (1 : Int) = 1) a2 h2 a3
        have hcl := q14b g s t 1 n c
        have hcc := q0su hg k0 k1 a2 h2 a3
        have hway := q0sy hg (.inr rfl : (1 : Int) = 0 ∨ (1 : Int) = 1) (q153 k0 k1 (.inr rfl : (1 : Int) = 0 ∨ (1 : Int) = 1)).1 a3 a2
        have hwb := q154 hg (q153 k0 k1 (.inr rfl : (1 : Int) = 0 ∨ (1 : Int) = 1)).1 a3 a2 h2
        have hMb := q14n y3 hcb (cnts g s t 1 n c).length
        have hMd : q14l qv (cnts g s t 1 n c) = q14m qv (cnts g s t 1 n c) (cnts g s t 1 n c).length := rfl
        rw [show q10l 1 s t = t from rfl] at hway hwb hSd
        simp only [intsO] at hcc
        simp -implicitDefEqProofs only [go_sem, evR, ints, rows, rat, rats, nodes, q0qa, a1, decide_eq_true (show (i : Int) < ((sets g 1).length : Int) by omega), List.getElem?_cons_zero, List.getElem?_cons_succ, opR, Nat.reduceBEq]
        repeat (first | refine ⟨by omega, ?_⟩ | refine ⟨by rw [q0l0]; omega, ?_⟩)
        refine q000.res hcc [] rfl Try.call208 (fun e R' hR => ?_) (.inl rfl) ?_
        · simp -implicitDefEqProofs only [agR, Nat.reduceLeDiff, Nat.reduceSub, vaR, go_sem, ints, rows, rat, rats, q0p1, rtR, intsO, q0qa]
        simp -implicitDefEqProofs only [clR, Nat.reduceLeDiff, go_sem, evR, rat, opR, Nat.reduceBEq]
        generalize wayP g t 1 c n = w at hwb hSd hway
        generalize cnts g s t 1 n c = C at hcb hcl hMb hMd hRd
        refine SemC.loopR (σ := Nat) (fun k => St.of [(0, .own 1000000000), (2, .t (.pin [.i 0, rows s] 0)), (3, .t (.pin [.i 1, rows t] 0)), (4, .t (.i 1)), (5, .own 105), (6, .t (rows (sets g 1))), (7, .t (.i i)), (8, .own 98), (9, .t (.i (q14m qv C k))), (10, .t (.i k))] [(1000000000, .box [nodes g.nd, rows g.w, rows g.v, .arr 1 [q0qa (q14y g s t 0 x.r0), q0qa (mixL (q14y g s t 1 x.r1) x.r1 i)], .arr 1 [q0qa (q14z g s t 0 x.s0), q0qa (mixL (q14z g s t 1 x.s1) x.s1 i)]]), (105, .box [.i 1, rows t]), (98, intsO C)]) (fun k => k <= C.length) (fun k => C.length - k) 0 (Weak.of _ _ [some 1000000000, some 105, some 66] (by simp) (by simp) ?_ ?_) (by omega) fun k hk R3 hn3 hr3 he3 => ?_
        · simp -implicitDefEqProofs only [ints, rows, Nat.reduceBEq, wkR, Nat.reduceEqDiff, ↓reduceIte, wrR, nodes, q14p]
        · exact ⟨⟨_, rfl, .refl _⟩, rfl, ⟨_, rfl, .refl _⟩, rfl, ⟨_, rfl, .refl _⟩, rfl, trivial⟩
        rcases Nat.lt_or_ge k C.length with h8 | h8
        · obtain ⟨v, hv⟩ : ∃ v, C[k]? = some v := ⟨_, List.getElem?_eq_getElem h8⟩
          obtain ⟨y, hy⟩ : ∃ y, qv[k]? = some y := ⟨_, List.getElem?_eq_getElem (by omega)⟩
          have hyb := y3 y (List.mem_of_getElem? hy)
          have hvb := hcb v (List.mem_of_getElem? hv)
          obtain ⟨m1, m2⟩ := q0kl hyb.1 hvb.1 hvb.2
          have hms := q14o hy hv
          have hm1 := q14n y3 hcb k
          have hm2 := q14n y3 hcb (k + 1)
          have hqsl := (List.getElem?_eq_some_iff.1 hqs).1
          simp -implicitDefEqProofs only [go_sem, evR, ints, rows, rat, rats, nodes, q0qa, intsO, hqs, hy, hv, decide_eq_true (show (k : Int) < (C.length : Int) by omega), opR, Nat.reduceBEq]
          repeat (first | refine ⟨by omega, ?_⟩ | refine ⟨by rw [q0l0]; omega, ?_⟩)
          refine hn3 _ (k + 1) (Weak.of _ _ [some 1000000000, some 105, some 98] (by simp) (by simp) ?_ ?_) (by omega) (by omega)
          · simp -implicitDefEqProofs only [ints, rows, Nat.reduceBEq, wkR, Nat.reduceEqDiff, ↓reduceIte, wrR, nodes, q0lb h8 (show C.length <= 1000000000000 by omega), wrap64 (n := y * v) (by omega) (by omega), ← hms, wrap64 (n := q14m qv C (k + 1)) (by omega) (by omega)]
          · exact ⟨⟨_, rfl, .refl _⟩, rfl, ⟨_, rfl, .refl _⟩, rfl, ⟨_, rfl, .refl _⟩, rfl, trivial⟩
        have hkC : k = C.length := by omega
        subst hkC
        rw [← hMd]
        rw [← hMd] at hMb
        generalize q14l qv C = M at hMb hRd ⊢
        simp -implicitDefEqProofs only [go_sem, evR, ints, rows, rat, rats, nodes, q0qa, intsO, a1, decide_eq_false (show ¬ (C.length : Int) < (C.length : Int) by omega), opR, Nat.reduceBEq]
        refine he3 _ _ ?_
        simp -implicitDefEqProofs only [go_sem, evR, ints, rows, rat, rats, nodes, q0qa, intsO, a1, List.getElem?_cons_zero, List.getElem?_cons_succ, opR, Nat.reduceBEq]
        repeat (first | refine ⟨by omega, ?_⟩ | refine ⟨by rw [q0l0]; omega, ?_⟩)
        refine q004.pure hway [] rfl Try.call209 (fun e R' hR => ?_) (by first | trivial | simp [T.noSh, T.noShL, rat]) (fun _ => rfl) ?_
        · simp -implicitDefEqProofs only [agR, Nat.reduceLeDiff, Nat.reduceSub, vaR, go_sem, ints, rows, rat, rats, q0p1, rtR, intsO, q0qa]
        simp -implicitDefEqProofs only [go_sem, evR, ints, rows, rat, rats]
        have hnl : nr.length = r.length := by omega
        have hnz' : nz.length = z.length := by omega
        have hLR : (mixL (q14y g s t 1 x.r1) x.r1 i).length = x.r1.length := q14u (by omega) (by omega)
        have hLZ : (mixL (q14z g s t 1 x.s1) x.s1 i).length = x.s1.length := q14u (by omega) (by omega)
        have hmR := q14v (new := q14y g s t 1 x.r1) (old := x.r1) (by omega) hgR
        have hmZ := q14v (new := q14z g s t 1 x.s1) (old := x.s1) (by omega) hgZ
        have hgR0 : (mixL (q14y g s t 1 x.r1) x.r1 i)[i]? = some r := by rw [q14t (by omega) (by omega)]; exact hr0
        have hgZ0 : (mixL (q14z g s t 1 x.s1) x.s1 i)[i]? = some z := by rw [q14t (by omega) (by omega)]; exact hz0
        refine SemC.loopR (σ := Nat) (fun k => St.of [(0, .own 1000000000), (2, .t (.pin [.i 0, rows s] 0)), (3, .t (.pin [.i 1, rows t] 0)), (4, .t (.i 1)), (5, .own 105), (6, .t (rows (sets g 1))), (7, .t (.i i)), (8, .own 98), (9, .t (.i M)), (11, .t (.i w)), (12, .t (.i k))] [(1000000000, .box [nodes g.nd, rows g.w, rows g.v, .arr 1 [q0qa (q14y g s t 0 x.r0), q0qa ((mixL (q14y g s t 1 x.r1) x.r1 i).set i (mixL nr r k))], .arr 1 [q0qa (q14z g s t 0 x.s0), q0qa ((mixL (q14z g s t 1 x.s1) x.s1 i).set i (mixL nz z k))]]), (105, .box [.i 1, rows t]), (98, intsO C)]) (fun k => k <= C.length) (fun k => C.length - k) 0 (Weak.of _ _ [some 1000000000, some 105, some 98] (by simp) (by simp) ?_ ?_) (by omega) fun k hk R4 hn4 hr4 he4 => ?_
        · simp -implicitDefEqProofs only [ints, rows, Nat.reduceBEq, wkR, Nat.reduceEqDiff, ↓reduceIte, wrR, nodes]
        · refine ⟨⟨_, rfl, ?_⟩, rfl, ⟨_, rfl, .refl _⟩, rfl, ⟨_, rfl, .refl _⟩, rfl, trivial⟩
          rw [q14w, q14w, q0r2 hgR0, q0r2 hgZ0]; exact .refl _
        rcases Nat.lt_or_ge k C.length with h8 | h8
        · obtain ⟨v, hv⟩ : ∃ v, C[k]? = some v := ⟨_, List.getElem?_eq_getElem h8⟩
          obtain ⟨y, hy⟩ : ∃ y, qv[k]? = some y := ⟨_, List.getElem?_eq_getElem (by omega)⟩
          obtain ⟨x0, hx0⟩ : ∃ x0, r[k]? = some x0 := ⟨_, List.getElem?_eq_getElem (by omega)⟩
          obtain ⟨x1, hx1⟩ : ∃ x1, z[k]? = some x1 := ⟨_, List.getElem?_eq_getElem (by omega)⟩
          have hyb := y3 y (List.mem_of_getElem? hy)
          have hvb := hcb v (List.mem_of_getElem? hv)
          have hb0 := hrb x0 (List.mem_of_getElem? hx0)
          have hb1 := hzb x1 (List.mem_of_getElem? hx1)
          have hwy : 0 <= w * y /\ w * y <= 12960000 * 60 := ⟨Int.mul_nonneg hwb.1 hyb.1, Int.mul_le_mul hwb.2 hyb.2 hyb.1 (by decide)⟩
          have hnr1 : nr[k]? = some (x0 + (60 * v - M)) := by rw [hRd]; exact q15t hx0 hv
          have hnz1 : nz[k]? = some (x1 + w * y) := by rw [hSd]; exact q15v hx1 hy
          have hg1 : (mixL nr r k)[k]? = some x0 := by rw [q14t hnl (by omega)]; exact hx0
          have hg2 : (mixL nz z k)[k]? = some x1 := by rw [q14t hnz' (by omega)]; exact hx1
          have hl1 : (mixL nr r k).length = r.length := q14u hnl (by omega)
          have hl2 : (mixL nz z k).length = z.length := q14u hnz' (by omega)
          have hqsl := (List.getElem?_eq_some_iff.1 hqs).1
          have hc1 : (List.map intsO ((mixL (q14y g s t 1 x.r1) x.r1 i).set i (mixL nr r k)))[i]? = some (intsO (mixL nr r k)) := by rw [List.getElem?_map, List.getElem?_set_self (by omega)]; rfl
          have hc2 : (List.map intsO ((mixL (q14z g s t 1 x.s1) x.s1 i).set i (mixL nz z k)))[i]? = some (intsO (mixL nz z k)) := by rw [List.getElem?_map, List.getElem?_set_self (by omega)]; rfl
          have hc3 : ((List.map intsO ((mixL (q14y g s t 1 x.r1) x.r1 i).set i (mixL nr r k))).set i T.any)[i]? = some T.any := List.getElem?_set_self (by rw [List.length_map, List.length_set]; omega)
          have hc4 : ((List.map intsO ((mixL (q14z g s t 1 x.s1) x.s1 i).set i (mixL nz z k))).set i T.any)[i]? = some T.any := List.getElem?_set_self (by rw [List.length_map, List.length_set]; omega)
          simp -implicitDefEqProofs only [go_sem, evR, ints, rows, rat, rats, nodes, q0qa, intsO, hy, decide_eq_true (show (k : Int) < (C.length : Int) by omega), opR, Nat.reduceBEq]
          refine ⟨_, Weak.trans (Weak.open 1000000000 3 501 rfl rfl rfl (by decide) rfl) (Weak.trans (Weak.open 501 1 502 rfl rfl rfl (by decide) rfl) (Weak.open 502 i 503 rfl hc1 rfl (by decide) rfl)), ?_⟩
          simp -implicitDefEqProofs only [go_sem, evR, ints, rows, rat, rats, q0qa, intsO, hg1, hc1, hc3, hl1, hLR, hv, List.length_set, opR, Nat.reduceBEq]
          repeat (first | refine ⟨by omega, ?_⟩ | refine ⟨by rw [q0l0]; omega, ?_⟩)
          refine ⟨_, Weak.trans (Weak.close1 502 i 503 rfl rfl (by decide) hc3) (Weak.trans (Weak.close1 501 1 502 rfl rfl (by decide) rfl) (Weak.trans (Weak.close1 1000000000 3 501 rfl rfl (by decide) rfl) (Weak.trans (Weak.open 1000000000 4 504 rfl rfl rfl (by decide) rfl) (Weak.trans (Weak.open 504 1 505 rfl rfl rfl (by decide) rfl) (Weak.open 505 i 506 rfl hc2 rfl (by decide) rfl))))), ?_⟩
          simp -implicitDefEqProofs only [go_sem, evR, ints, rows, rat, rats, q0qa, intsO, hg2, hc2, hc4, hl2, hLZ, hv, hqs, hy, List.length_set, opR, Nat.reduceBEq]
          repeat (first | refine ⟨by omega, ?_⟩ | refine ⟨by rw [q0l0]; omega, ?_⟩)
          have wA : IntKind.i64.wrap (60 * v) = 60 * v := wrap64 (by omega) (by omega)
          have wB : IntKind.i64.wrap (x0 + 60 * v) = x0 + 60 * v := wrap64 (by omega) (by omega)
          have wC : IntKind.i64.wrap (x0 + 60 * v - M) = x0 + (60 * v - M) := by rw [wrap64 (by omega) (by omega)]; omega
          have wD : IntKind.i64.wrap (w * y) = w * y := wrap64 (by omega) (by omega)
          have wE : IntKind.i64.wrap (x1 + w * y) = x1 + w * y := wrap64 (by omega) (by omega)
          refine ⟨_, Weak.trans (Weak.close1 505 i 506 rfl rfl (by decide) hc4) (Weak.trans (Weak.close1 504 1 505 rfl rfl (by decide) rfl) (Weak.close1 1000000000 4 504 rfl rfl (by decide) rfl)), ?_⟩
          simp -implicitDefEqProofs only [go_sem, evR, ints, rows, rat, rats, q0qa, intsO, opR, Nat.reduceBEq]
          refine hn4 _ (k + 1) (Weak.of _ _ [some 1000000000, some 105, some 98] (by simp) (by simp) ?_ ?_) (by omega) (by omega)
          · simp -implicitDefEqProofs only [ints, rows, Nat.reduceBEq, wkR, Nat.reduceEqDiff, ↓reduceIte, wrR, nodes, q0lb h8 (show C.length <= 1000000000000 by omega)]
          · refine ⟨⟨_, rfl, ?_⟩, rfl, ⟨_, rfl, .refl _⟩, rfl, ⟨_, rfl, .refl _⟩, rfl, trivial⟩
            rw [← q14v hnl hnr1, ← q14v hnz' hnz1]
            simp only [q0qa, intsO, List.map_set, List.set_set, wA, wB, wC, wD, wE, nodes, rows]
            exact .refl _
        · have m1 : mixL nr r k = nr := by rw [show k = r.length by omega]; exact q14s hnl
          have m2 : mixL nz z k = nz := by rw [show k = z.length by omega]; exact q14s hnz'
          rw [m1, m2, hmR, hmZ]
          simp -implicitDefEqProofs only [go_sem, evR, ints, rows, rat, rats, nodes, q0qa, intsO, decide_eq_false (show ¬ (k : Int) < (C.length : Int) by omega), opR, Nat.reduceBEq]
          refine he4 _ _ ?_
          simp -implicitDefEqProofs only [go_sem, evR, ints, rows, rat, rats]
          refine hn2 _ (i + 1) (Weak.of _ _ [some 1000000000, some 105] (by simp) (by simp) ?_ ?_) (by omega) (by omega)
          · simp -implicitDefEqProofs only [ints, rows, Nat.reduceBEq, wkR, Nat.reduceEqDiff, ↓reduceIte, wrR, nodes, q0lb h9 (by omega)]
          · exact ⟨⟨_, rfl, .refl _⟩, rfl, ⟨_, rfl, .refl _⟩, rfl, trivial⟩
      · have hil : i = (sets g 1).length := by omega
        have m1 : mixL (q14y g s t 1 x.r1) x.r1 i = q14y g s t 1 x.r1 := by rw [hil, ← lR]; exact q14s (by omega)
        have m2 : mixL (q14z g s t 1 x.s1) x.s1 i = q14z g s t 1 x.s1 := by rw [hil, ← lZ]; exact q14s (by omega)
        rw [m1, m2]
        simp -implicitDefEqProofs only [go_sem, evR, ints, rows, rat, rats, nodes, q0qa, decide_eq_false (show ¬ (i : Int) < ((sets g 1).length : Int) by omega)]
        refine he2 _ _ ?_
        simp -implicitDefEqProofs only [go_sem, evR, ints, rows, rat, rats]
        refine hn _ 2 (Weak.of _ _ [some 1000000000] (by simp) (by simp) ?_ ?_) (by omega) (by omega)
        · simp -implicitDefEqProofs only [ints, rows, Nat.reduceBEq, wkR, Nat.reduceEqDiff, ↓reduceIte, wrR, nodes, w2']
        · exact ⟨⟨_, rfl, .refl _⟩, rfl, trivial⟩
    | 2, _ =>
      simp -implicitDefEqProofs only [go_sem, evR, ints, rows, rat, rats, ssS, nodes, q0qa, decide_eq_false (show ¬ (2 : Int) < 2 by omega), Int.natCast_zero, Int.cast_ofNat_Int]
      refine he _ _ ?_
      simp -implicitDefEqProofs only [go_sem, evR, ints, rows, rat, rats, ssS, nodes, q0qa, opR, Nat.reduceBEq]
end
section
attribute [-go_sem] q0i5 q0id fldC lenC idxC q0ip q0lp
theorem q0ss (g : Gm) (pl n : Int) (hg : q0cf g) : Pure Try.prog 107 [.agg [.sh 5 (chunk q0lu g.nd), .sh 1 (g.w.map ints), .sh 1 (g.v.map ints)], .i pl, .i n] (.i (q15a g pl n)) := by
  refine q0c6 (by simp) ?_
  simp -implicitDefEqProofs only [go_sem, evR, ints, rows, rat, rats, q058]
  refine q006.pure (q0fq (q0s2 g hg)) [] rfl Try.call139 ?_ (by first | trivial | simp [T.noSh, T.noShL, rat]) rfl ?_
  · simp -implicitDefEqProofs only [agR, Nat.reduceLeDiff, Nat.reduceSub, vaR, go_sem, ints, rows, rat, rats, q0p1, rtR, intsO, q0qa]
  simp -implicitDefEqProofs only [go_sem, evR, ints, rows, rat, rats]
  rcases Bool.eq_false_or_eq_true (q0fl g) with hgb | hgb
  · rw [hgb]
    refine ⟨fun h => by simp at h, fun _ => ?_⟩
    have hq1 := q0s4 n 0 30
    have hq2 := q0s4 pl 0 1
    by_cases hn : 0 <= n /\ n <= 30
    · rw [decide_eq_true hn] at hq1
      refine q006.pure hq1 [] rfl Try.call148 ?_ (by first | trivial | simp [T.noSh, T.noShL, rat]) rfl ?_
      · simp -implicitDefEqProofs only [agR, Nat.reduceLeDiff, Nat.reduceSub, vaR, go_sem, ints, rows, rat, rats, q0p1, rtR, intsO, q0qa]
      simp -implicitDefEqProofs only [go_sem, evR, ints, rows, rat, rats]
      by_cases hp : 0 <= pl /\ pl <= 1
      · rw [decide_eq_true hp] at hq2
        refine q006.pure hq2 [] rfl Try.call148 ?_ (by first | trivial | simp [T.noSh, T.noShL, rat]) rfl ?_
        · simp -implicitDefEqProofs only [agR, Nat.reduceLeDiff, Nat.reduceSub, vaR, go_sem, ints, rows, rat, rats, q0p1, rtR, intsO, q0qa]
        simp -implicitDefEqProofs only [go_sem, evR, ints, rows, rat, rats]
        rw [q15d.2 ⟨hgb, hn, hp⟩]
      · rw [decide_eq_false hp] at hq2
        refine q006.pure hq2 [] rfl Try.call148 ?_ (by first | trivial | simp [T.noSh, T.noShL, rat]) rfl ?_
        · simp -implicitDefEqProofs only [agR, Nat.reduceLeDiff, Nat.reduceSub, vaR, go_sem, ints, rows, rat, rats, q0p1, rtR, intsO, q0qa]
        simp -implicitDefEqProofs only [go_sem, evR, ints, rows, rat, rats]
        rw [q15c hgb (fun h => hp h.2)]
    · rw [decide_eq_false hn] at hq1
      refine q006.pure hq1 [] rfl Try.call148 ?_ (by first | trivial | simp [T.noSh, T.noShL, rat]) rfl ?_
      · simp -implicitDefEqProofs only [agR, Nat.reduceLeDiff, Nat.reduceSub, vaR, go_sem, ints, rows, rat, rats, q0p1, rtR, intsO, q0qa]
      simp -implicitDefEqProofs only [go_sem, evR, ints, rows, rat, rats]
      rw [q15c hgb (fun h => hn h.1)]
  · rw [hgb, q15b hgb]
    exact ⟨fun _ => rfl, fun h => by simp at h⟩
end
def crO (r : List Int × Int) : T := .tup [intsO r.1, .i r.2]
theorem q135 (r : List Int × Int) : (crO r).noSh := ⟨q0fh _, trivial, trivial⟩
theorem crLe {f : FuncId} {args : List A} {R : List Int × Int} (h : Fun Try.prog f [] args fun o r => o = [] /\ (r = crO R ∨ ∃ c, R = ([], c) /\ r = .tup [.v (.slice none 0 0), .i c])) : Fun Try.prog f [] args fun o r => o = [] /\ r = crO R := by
  refine Fun.le h ?_
  rintro o r ⟨rfl, rfl | ⟨c, e, rfl⟩⟩
  · exact ⟨_, .refl _, rfl, rfl⟩
  · refine ⟨crO R, ?_, rfl, rfl⟩
    rw [e]
    exact .tup2 (.nilArr _) (.refl _)
theorem q0yz {g : Gm} {n : Int} (h : q15a g 0 n ≠ 0) : crvR g n = ([], q15a g 0 n) := by rw [crvR, if_neg h]
theorem q0z0 {g : Gm} {n : Int} (h : q15a g 0 n = 0) : crvR g n = (curL g (n.toNat + 1), 0) := by rw [crvR, if_pos h]
section
attribute [-go_sem] q0i5 q0id fldC lenC idxC q0ip q0lp
set_option maxHeartbeats 1000000 in
theorem q0sv (g : Gm) (hgl : q0cf g) (hg : q0fl g = true) (N : Nat) (hN : N <= 900) : Fun Try.prog 114 [] [.t (.agg [.sh 5 (chunk q0lu g.nd), .sh 1 (g.w.map ints), .sh 1 (g.v.map ints)]), .t (.i N)] fun o r => o = [] /\ r = intsO (curL g (N + 1)) := by
  refine q0c8 (by simp) ?_
  simp -implicitDefEqProofs only [go_sem, evR, ints, rows, rat, rats, q05a, opR, Nat.reduceBEq]
  have hp := q0sx g hg
  simp only [ssB, nodes, rows, q0qa] at hp
  refine q006.res hp [] rfl Try.call168 ?_ (.inl rfl) ?_
  · simp -implicitDefEqProofs only [agR, Nat.reduceLeDiff, Nat.reduceSub, vaR, go_sem, ints, rows, rat, rats, q0p1, rtR, intsO, q0qa]
  simp -implicitDefEqProofs only [clR, Nat.reduceLeDiff, go_sem, evR, rat]
  refine SemC.loopR (σ := Nat) (fun k => St.of [(1, .t (.i N)), (2, .own 2), (5, .own 111), (6, .own 112), (7, .t (.i k))] [(2, .box [nodes g.nd, rows g.w, rows g.v]), (111, ssB g (q15i g (k - 1))), (112, intsO (curL g k))]) (fun k => k <= N + 1) (fun k => N + 1 - k) 0 (Weak.of _ _ [some 2, some 11, some 12] (by simp) (by simp) ?_ ?_) (by omega) fun k hk R hn hr he => ?_
  · simp -implicitDefEqProofs only [ints, rows, Nat.reduceBEq, wkR, Nat.reduceEqDiff, ↓reduceIte, wrR, nodes]
  · exact ⟨⟨_, rfl, .refl _⟩, rfl, ⟨_, rfl, .refl _⟩, rfl, ⟨_, rfl, .refl _⟩, rfl, trivial⟩
  rcases Nat.lt_or_ge k (N + 1) with h9 | h9
  · have hok := q15j hg k (by omega)
    have hs0 := q0t0 0 (q15i g k).s0 (q0m9 hg (.inl rfl) hok.2.2.1) (by omega)
    have hs1 := q0t0 1 (q15i g k).s1 (q0m9 hg (.inr rfl) hok.2.2.2) (by omega)
    have hpr := (q15k hg (show k <= 1000 by omega)).2
    have hb := vb_t (q0so g _ _ hpr)
    have hea := q08v hpr
    have hcl : (curL g k).length = k := q14d g k
    have hec : curI g k = q01x g (1, stM (q15i g k).s1) + q01x g (0, stM (q15i g k).s0) := rfl
    have hee : expN g (0, stM (q15i g k).s0) (1, stM (q15i g k).s1) = q01x g (1, stM (q15i g k).s1) + q01x g (0, stM (q15i g k).s0) := rfl
    rw [hee] at hea
    generalize q01x g (1, stM (q15i g k).s1) = b1 at hb hea hec
    generalize q01x g (0, stM (q15i g k).s0) = b0 at hb hea hec
    by_cases hk0 : k = 0
    · rw [show k - 1 = k by omega]
      simp -implicitDefEqProofs only [go_sem, evR, ints, rows, rat, rats, ssB, nodes, q0qa, intsO, decide_eq_true (show (k : Int) <= (N : Int) by omega), decide_eq_false (show ¬ (k : Int) > 0 by omega), opR, Nat.reduceBEq]
      refine ⟨_, Weak.trans (Weak.open 111 4 501 rfl rfl rfl (by decide) rfl) (Weak.trans (Weak.open 501 0 502 rfl rfl rfl (by decide) rfl) (Weak.open 501 1 503 rfl rfl rfl (by decide) rfl)), ?_⟩
      simp -implicitDefEqProofs only [go_sem, evR, ints, rows, rat, rats, q0qa, nodes, opR, Nat.reduceBEq]
      refine q000.res hs0 [502] rfl Try.call111 (fun e R' hR => ?_) (.inr ⟨trivial, q0qb _, trivial⟩) ?_
      · have hq502 := (hR 502).resolve_left (by simp -implicitDefEqProofs only [go_sem, evR, ints, rows, rat, rats, not_false_eq_true])
        simp -implicitDefEqProofs only [go_sem, evR, ints, rows, rat, rats] at hq502
        simp -implicitDefEqProofs only [agR, Nat.reduceLeDiff, Nat.reduceSub, vaR, go_sem, ints, rows, rat, rats, q0p1, rtR, intsO, q0qa, hq502]
      simp -implicitDefEqProofs only [clR, Nat.reduceLeDiff, go_sem, evR, rat, opR, Nat.reduceBEq]
      refine q000.res hs1 [503] rfl Try.call111 (fun e R' hR => ?_) (.inr ⟨trivial, q0qb _, trivial⟩) ?_
      · have hq503 := (hR 503).resolve_left (by simp -implicitDefEqProofs only [go_sem, evR, ints, rows, rat, rats, not_false_eq_true])
        simp -implicitDefEqProofs only [go_sem, evR, ints, rows, rat, rats] at hq503
        simp -implicitDefEqProofs only [agR, Nat.reduceLeDiff, Nat.reduceSub, vaR, go_sem, ints, rows, rat, rats, q0p1, rtR, intsO, q0qa, hq503]
      simp -implicitDefEqProofs only [clR, Nat.reduceLeDiff, go_sem, evR, rat, opR, Nat.reduceBEq]
      refine q004.pure hb [30, 37] rfl Try.call124 (fun e R' hR => ?_) (by first | trivial | simp [T.noSh, T.noShL, rat]) (fun _ => rfl) ?_
      · have hq30 := (hR 30).resolve_left (by simp -implicitDefEqProofs only [go_sem, evR, ints, rows, rat, rats, not_false_eq_true]); have hq37 := (hR 37).resolve_left (by simp -implicitDefEqProofs only [go_sem, evR, ints, rows, rat, rats, not_false_eq_true])
        simp -implicitDefEqProofs only [go_sem, evR, ints, rows, rat, rats] at hq30 hq37
        simp -implicitDefEqProofs only [agR, Nat.reduceLeDiff, Nat.reduceSub, vaR, go_sem, ints, rows, rat, rats, q0p1, rtR, intsO, q0qa, hq30, hq37]
      simp -implicitDefEqProofs only [go_sem, evR, ints, rows, rat, rats, intsO, hcl, opR, Nat.reduceBEq]
      repeat (first | refine ⟨by omega, ?_⟩ | refine ⟨by rw [q0l0]; omega, ?_⟩)
      refine hn _ (k + 1) (Weak.trans (Weak.close 501 1 503 rfl rfl (by decide) rfl (by simp)) (Weak.trans (Weak.close1 501 0 502 rfl rfl (by decide) rfl) (Weak.trans (Weak.close1 111 4 501 rfl rfl (by decide) rfl) (Weak.of _ _ [some 2, some 111, some 46] (by simp) (by simp) ?_ ?_)))) (by omega) (by omega)
      · simp -implicitDefEqProofs only [ints, rows, Nat.reduceBEq, wkR, Nat.reduceEqDiff, ↓reduceIte, wrR, nodes, wrap64 (n := (k : Int) + 1) (by omega) (by omega), Int.natCast_add, Int.cast_ofNat_Int]
      · refine ⟨⟨_, rfl, .refl _⟩, rfl, ⟨_, rfl, ?_⟩, rfl, ⟨_, rfl, ?_⟩, rfl, trivial⟩
        · rw [Nat.add_sub_cancel, ssB, q0qa, q0qa, q0qa, q0qa, nodes, rows, rows]; exact .refl _
        · rw [q14f, intsO, List.map_append, hec]; rw [wrap64 (by omega) (by omega)]; exact .refl _
    · have hst := q0sz g hg (q15i g (k - 1)) (n := k - 1) (by omega) (q15j hg (k - 1) (by omega))
      rw [show q15q g (q15i g (k - 1)) = q15i g k by cases k with | zero => omega | succ j => rfl] at hst
      simp -implicitDefEqProofs only [go_sem, evR, ints, rows, rat, rats, nodes, q0qa, intsO, decide_eq_true (show (k : Int) <= (N : Int) by omega), decide_eq_true (show (k : Int) > 0 by omega), opR, Nat.reduceBEq]
      refine q006.ref hst [111] [] rfl Try.call169 (by simp) ?_ (by simp) ?_ (.inl rfl) ?_
      · simp -implicitDefEqProofs only [srR, Nat.reduceEqDiff, ↓reduceIte, ints, rows, intsO, q0qa]
      · simp -implicitDefEqProofs only [agR, Nat.reduceLeDiff, Nat.reduceSub, vaR, go_sem, ints, rows, rat, rats, q0p1, rtR, intsO, q0qa]
      simp -implicitDefEqProofs only [clR, Nat.reduceLeDiff, go_sem, evR, rat, ssB, nodes, rows, q0qa, opR, Nat.reduceBEq]
      refine ⟨_, Weak.trans (Weak.open 111 4 501 rfl rfl rfl (by decide) rfl) (Weak.trans (Weak.open 501 0 502 rfl rfl rfl (by decide) rfl) (Weak.open 501 1 503 rfl rfl rfl (by decide) rfl)), ?_⟩
      simp -implicitDefEqProofs only [go_sem, evR, ints, rows, rat, rats, q0qa, nodes, opR, Nat.reduceBEq]
      refine q000.res hs0 [502] rfl Try.call111 (fun e R' hR => ?_) (.inr ⟨trivial, q0qb _, trivial⟩) ?_
      · have hq502 := (hR 502).resolve_left (by simp -implicitDefEqProofs only [go_sem, evR, ints, rows, rat, rats, not_false_eq_true])
        simp -implicitDefEqProofs only [go_sem, evR, ints, rows, rat, rats] at hq502
        simp -implicitDefEqProofs only [agR, Nat.reduceLeDiff, Nat.reduceSub, vaR, go_sem, ints, rows, rat, rats, q0p1, rtR, intsO, q0qa, hq502]
      simp -implicitDefEqProofs only [clR, Nat.reduceLeDiff, go_sem, evR, rat, opR, Nat.reduceBEq]
      refine q000.res hs1 [503] rfl Try.call111 (fun e R' hR => ?_) (.inr ⟨trivial, q0qb _, trivial⟩) ?_
      · have hq503 := (hR 503).resolve_left (by simp -implicitDefEqProofs only [go_sem, evR, ints, rows, rat, rats, not_false_eq_true])
        simp -implicitDefEqProofs only [go_sem, evR, ints, rows, rat, rats] at hq503
        simp -implicitDefEqProofs only [agR, Nat.reduceLeDiff, Nat.reduceSub, vaR, go_sem, ints, rows, rat, rats, q0p1, rtR, intsO, q0qa, hq503]
      simp -implicitDefEqProofs only [clR, Nat.reduceLeDiff, go_sem, evR, rat, opR, Nat.reduceBEq]
      refine q004.pure hb [30, 37] rfl Try.call124 (fun e R' hR => ?_) (by first | trivial | simp [T.noSh, T.noShL, rat]) (fun _ => rfl) ?_
      · have hq30 := (hR 30).resolve_left (by simp -implicitDefEqProofs only [go_sem, evR, ints, rows, rat, rats, not_false_eq_true]); have hq37 := (hR 37).resolve_left (by simp -implicitDefEqProofs only [go_sem, evR, ints, rows, rat, rats, not_false_eq_true])
        simp -implicitDefEqProofs only [go_sem, evR, ints, rows, rat, rats] at hq30 hq37
        simp -implicitDefEqProofs only [agR, Nat.reduceLeDiff, Nat.reduceSub, vaR, go_sem, ints, rows, rat, rats, q0p1, rtR, intsO, q0qa, hq30, hq37]
      simp -implicitDefEqProofs only [go_sem, evR, ints, rows, rat, rats, intsO, hcl, opR, Nat.reduceBEq]
      repeat (first | refine ⟨by omega, ?_⟩ | refine ⟨by rw [q0l0]; omega, ?_⟩)
      refine hn _ (k + 1) (Weak.trans (Weak.close 501 1 503 rfl rfl (by decide) rfl (by simp)) (Weak.trans (Weak.close1 501 0 502 rfl rfl (by decide) rfl) (Weak.trans (Weak.close1 111 4 501 rfl rfl (by decide) rfl) (Weak.of _ _ [some 2, some 111, some 46] (by simp) (by simp) ?_ ?_)))) (by omega) (by omega)
      · simp -implicitDefEqProofs only [ints, rows, Nat.reduceBEq, wkR, Nat.reduceEqDiff, ↓reduceIte, wrR, nodes, wrap64 (n := (k : Int) + 1) (by omega) (by omega), Int.natCast_add, Int.cast_ofNat_Int]
      · refine ⟨⟨_, rfl, .refl _⟩, rfl, ⟨_, rfl, ?_⟩, rfl, ⟨_, rfl, ?_⟩, rfl, trivial⟩
        · rw [Nat.add_sub_cancel, ssB, q0qa, q0qa, q0qa, q0qa, nodes, rows, rows]; exact .refl _
        · rw [q14f, intsO, List.map_append, hec]; rw [wrap64 (by omega) (by omega)]; exact .refl _
  · simp -implicitDefEqProofs only [go_sem, evR, ints, rows, rat, rats, nodes, q0qa, intsO, decide_eq_false (show ¬ (k : Int) <= (N : Int) by omega), opR, Nat.reduceBEq]
    refine he _ _ ?_
    simp -implicitDefEqProofs only [go_sem, evR, ints, rows, rat, rats, intsO, show k = N + 1 by omega]
set_option maxHeartbeats 1000000 in
theorem q0f3 (g : Gm) (hgl : q0cf g) (hg : q0fl g = true) (N : Nat) (hN : N <= 900) : Fun Try.prog 116 [] [.t (.agg [.sh 5 (chunk q0lu g.nd), .sh 1 (g.w.map ints), .sh 1 (g.v.map ints)]), .t (.i N)] fun o r => o = [] /\ r = intsO (curL g (N + 1)) := by
  refine q0ar (by simp) ?_
  simp -implicitDefEqProofs only [go_sem, evR, ints, rows, rat, rats, q03t, opR, Nat.reduceBEq]
  have hp := q0er g hg
  simp only [rsB, nodes, rows, q0qa] at hp
  refine q006.res hp [] rfl Try.call170 ?_ (.inl rfl) ?_
  · simp -implicitDefEqProofs only [agR, Nat.reduceLeDiff, Nat.reduceSub, vaR, go_sem, ints, rows, rat, rats, q0p1, rtR, intsO, q0qa]
  simp -implicitDefEqProofs only [clR, Nat.reduceLeDiff, go_sem, evR, rat]
  refine SemC.loopR (σ := Nat) (fun k => St.of [(2, .own 2), (5, .own 111), (6, .own 112), (13, .t (.i (N + 1 : Nat))), (14, .t (.i k))] [(2, .box [nodes g.nd, rows g.w, rows g.v]), (111, rsB g (q15i g (k - 1))), (112, intsO (curL g k))]) (fun k => k <= N + 1) (fun k => N + 1 - k) 0 (Weak.of _ _ [some 2, some 11, none] (by simp) (by simp) ?_ ?_) (by omega) fun k hk R hn hr he => ?_
  · simp -implicitDefEqProofs only [ints, rows, Nat.reduceBEq, wkR, Nat.reduceEqDiff, ↓reduceIte, wrR, nodes, wrap64 (n := (N : Int) + 1) (by omega) (by omega), Int.natCast_add, Int.cast_ofNat_Int]
  · exact ⟨⟨_, rfl, .refl _⟩, rfl, ⟨_, rfl, .refl _⟩, rfl, ⟨1, rfl⟩, trivial⟩
  rcases Nat.lt_or_ge k (N + 1) with h9 | h9
  · have hok := q15j hg k (by omega)
    have hav := q0eh g (q15i g k) (q0m9 hg (.inl rfl) hok.2.2.1) (q0m9 hg (.inr rfl) hok.2.2.2) (by omega)
    have hpr := (q15k hg (show k <= 1000 by omega)).2
    have hb := vb_t (q0el g _ _ hpr)
    have hcl : (curL g k).length = k := q14d g k
    have hec : expN g (0, stM (q15i g k).s0) (1, stM (q15i g k).s1) = curI g k := rfl
    rw [hec] at hb
    by_cases hk0 : k = 0
    · rw [show k - 1 = k by omega]
      simp -implicitDefEqProofs only [go_sem, evR, ints, rows, rat, rats, rsB, nodes, q0qa, intsO, decide_eq_true (show (k : Int) < ((N + 1 : Nat) : Int) by omega), decide_eq_false (show ¬ (k : Int) > 0 by omega), opR, Nat.reduceBEq]
      refine q006.res hav [111] rfl Try.call113 ?_ (.inr (q07s _ _)) ?_
      · simp -implicitDefEqProofs only [agR, Nat.reduceLeDiff, Nat.reduceSub, vaR, go_sem, ints, rows, rat, rats, q0p1, rtR, intsO, q0qa, T.toShL.eq_1, T.toShL.eq_2, q0vg]
      simp -implicitDefEqProofs only [clR, Nat.reduceLeDiff, go_sem, evR, rat, opR, Nat.reduceBEq]
      refine q006.pure hb [29002, 30002] rfl Try.call128 ?_ (by first | trivial | simp [T.noSh, T.noShL, rat]) rfl ?_
      · simp -implicitDefEqProofs only [agR, Nat.reduceLeDiff, Nat.reduceSub, vaR, go_sem, ints, rows, rat, rats, q0p1, rtR, intsO, q0qa]
      simp -implicitDefEqProofs only [go_sem, evR, ints, rows, rat, rats, intsO, hcl, opR, Nat.reduceBEq]
      repeat (first | refine ⟨by omega, ?_⟩ | refine ⟨by rw [q0l0]; omega, ?_⟩)
      refine hn _ (k + 1) (Weak.of _ _ [some 2, some 111, some 32] (by simp) (by simp) ?_ ?_) (by omega) (by omega)
      · simp -implicitDefEqProofs only [ints, rows, Nat.reduceBEq, wkR, Nat.reduceEqDiff, ↓reduceIte, wrR, nodes, q0lb h9 (by omega)]
      · refine ⟨⟨_, rfl, .refl _⟩, rfl, ⟨_, rfl, ?_⟩, rfl, ⟨_, rfl, ?_⟩, rfl, trivial⟩
        · rw [Nat.add_sub_cancel, rsB, q0qa, q0qa, q0qa, q0qa, nodes, rows, rows]; exact .refl _
        · rw [q14f, intsO, List.map_append]; exact .refl _
    · have hst := q0ep g hg (q15i g (k - 1)) (n := k - 1) (by omega) (q15j hg (k - 1) (by omega))
      rw [show q15q g (q15i g (k - 1)) = q15i g k by cases k with | zero => omega | succ j => rfl] at hst
      simp -implicitDefEqProofs only [go_sem, evR, ints, rows, rat, rats, nodes, q0qa, intsO, decide_eq_true (show (k : Int) < ((N + 1 : Nat) : Int) by omega), decide_eq_true (show (k : Int) > 0 by omega), opR, Nat.reduceBEq]
      refine q006.ref hst [111] [] rfl Try.call171 (by simp) ?_ (by simp) ?_ (.inl rfl) ?_
      · simp -implicitDefEqProofs only [srR, Nat.reduceEqDiff, ↓reduceIte, ints, rows, intsO, q0qa]
      · simp -implicitDefEqProofs only [agR, Nat.reduceLeDiff, Nat.reduceSub, vaR, go_sem, ints, rows, rat, rats, q0p1, rtR, intsO, q0qa]
      simp -implicitDefEqProofs only [clR, Nat.reduceLeDiff, go_sem, evR, rat, rsB, nodes, rows, q0qa, opR, Nat.reduceBEq]
      refine q006.res hav [111] rfl Try.call113 ?_ (.inr (q07s _ _)) ?_
      · simp -implicitDefEqProofs only [agR, Nat.reduceLeDiff, Nat.reduceSub, vaR, go_sem, ints, rows, rat, rats, q0p1, rtR, intsO, q0qa, T.toShL.eq_1, T.toShL.eq_2, q0vg]
      simp -implicitDefEqProofs only [clR, Nat.reduceLeDiff, go_sem, evR, rat, opR, Nat.reduceBEq]
      refine q006.pure hb [29002, 30002] rfl Try.call128 ?_ (by first | trivial | simp [T.noSh, T.noShL, rat]) rfl ?_
      · simp -implicitDefEqProofs only [agR, Nat.reduceLeDiff, Nat.reduceSub, vaR, go_sem, ints, rows, rat, rats, q0p1, rtR, intsO, q0qa]
      simp -implicitDefEqProofs only [go_sem, evR, ints, rows, rat, rats, intsO, hcl, opR, Nat.reduceBEq]
      repeat (first | refine ⟨by omega, ?_⟩ | refine ⟨by rw [q0l0]; omega, ?_⟩)
      refine hn _ (k + 1) (Weak.of _ _ [some 2, some 111, some 32] (by simp) (by simp) ?_ ?_) (by omega) (by omega)
      · simp -implicitDefEqProofs only [ints, rows, Nat.reduceBEq, wkR, Nat.reduceEqDiff, ↓reduceIte, wrR, nodes, q0lb h9 (by omega)]
      · refine ⟨⟨_, rfl, .refl _⟩, rfl, ⟨_, rfl, ?_⟩, rfl, ⟨_, rfl, ?_⟩, rfl, trivial⟩
        · rw [Nat.add_sub_cancel, rsB, q0qa, q0qa, q0qa, q0qa, nodes, rows, rows]; exact .refl _
        · rw [q14f, intsO, List.map_append]; exact .refl _
  · simp -implicitDefEqProofs only [go_sem, evR, ints, rows, rat, rats, nodes, q0qa, intsO, decide_eq_false (show ¬ (k : Int) < ((N + 1 : Nat) : Int) by omega), opR, Nat.reduceBEq]
    refine he _ _ ?_
    simp -implicitDefEqProofs only [go_sem, evR, ints, rows, rat, rats, intsO, show k = N + 1 by omega]
theorem q106 (g : Gm) (n : Int) (hg : q0cf g) : Fun Try.prog 47 [] [.t (q0ck g), .t (.i n)] fun o r => o = [] /\ r = crO (crvR g n) := by
  refine crLe ?_
  refine q0zd (by simp) ?_
  simp -implicitDefEqProofs only [go_sem, evR, ints, rows, rat, rats, q0y8, q0ck, nodes]
  have hq := q0fq (q0ee g hg)
  rcases Bool.eq_false_or_eq_true (q0fl g) with hgb | hgb
  · rw [hgb] at hq
    refine q006.pure hq [] rfl Try.call115 ?_ (by first | trivial | simp [T.noSh, T.noShL, rat]) rfl ?_
    · simp -implicitDefEqProofs only [agR, Nat.reduceLeDiff, Nat.reduceSub, vaR, go_sem, ints, rows, rat, rats, q0p1, rtR, intsO, q0qa]
    simp -implicitDefEqProofs only [go_sem, evR, ints, rows, rat, rats]
    have hq := q0f9 n 0 30
    by_cases hn : 0 <= n /\ n <= 30
    · rw [decide_eq_true hn] at hq
      refine q006.pure hq [] rfl Try.call110 ?_ (by first | trivial | simp [T.noSh, T.noShL, rat]) rfl ?_
      · simp -implicitDefEqProofs only [agR, Nat.reduceLeDiff, Nat.reduceSub, vaR, go_sem, ints, rows, rat, rats, q0p1, rtR, intsO, q0qa]
      simp -implicitDefEqProofs only [go_sem, evR, ints, rows, rat, rats]
      have hp := q0f3 g hg hgb n.toNat (by omega)
      rw [show ((n.toNat : Nat) : Int) = n by omega] at hp
      simp only [intsO] at hp
      refine q006.res hp [] rfl Try.call116 ?_ (.inl rfl) ?_
      · simp -implicitDefEqProofs only [agR, Nat.reduceLeDiff, Nat.reduceSub, vaR, go_sem, ints, rows, rat, rats, q0p1, rtR, intsO, q0qa]
      simp -implicitDefEqProofs only [clR, Nat.reduceLeDiff, go_sem, evR, rat]
      rw [q0z0 (q15d.2 ⟨hgb, hn, by omega⟩)]
      exact .inl rfl
    · rw [decide_eq_false hn] at hq
      refine q006.pure hq [] rfl Try.call110 ?_ (by first | trivial | simp [T.noSh, T.noShL, rat]) rfl ?_
      · simp -implicitDefEqProofs only [agR, Nat.reduceLeDiff, Nat.reduceSub, vaR, go_sem, ints, rows, rat, rats, q0p1, rtR, intsO, q0qa]
      simp -implicitDefEqProofs only [go_sem, evR, ints, rows, rat, rats]
      have hc := q15c hgb (fun h => hn h.1 : ¬ ((0 <= n /\ n <= 30) /\ (0 <= (0 : Int) /\ (0 : Int) <= 1)))
      exact .inr ⟨2, by rw [q0yz (by rw [hc]; decide), hc], rfl⟩
  · rw [hgb] at hq
    refine q006.pure hq [] rfl Try.call115 ?_ (by first | trivial | simp [T.noSh, T.noShL, rat]) rfl ?_
    · simp -implicitDefEqProofs only [agR, Nat.reduceLeDiff, Nat.reduceSub, vaR, go_sem, ints, rows, rat, rats, q0p1, rtR, intsO, q0qa]
    simp -implicitDefEqProofs only [go_sem, evR, ints, rows, rat, rats]
    have hc := q15b (pl := 0) (n := n) hgb
    exact .inr ⟨1, by rw [q0yz (by rw [hc]; decide), hc], rfl⟩
theorem q11y (g : Gm) (n : Int) (hg : q0cf g) : Fun Try.prog 46 [] [.t (q0ck g), .t (.i n)] fun o r => o = [] /\ r = crO (crvR g n) := by
  refine crLe ?_
  refine q0zl (by simp) ?_
  simp -implicitDefEqProofs only [go_sem, evR, ints, rows, rat, rats, q0yg, q0ck, nodes]
  refine q006.pure (q0ss g 0 n hg) [] rfl Try.call107 ?_ (by first | trivial | simp [T.noSh, T.noShL, rat]) rfl ?_
  · simp -implicitDefEqProofs only [agR, Nat.reduceLeDiff, Nat.reduceSub, vaR, go_sem, ints, rows, rat, rats, q0p1, rtR, intsO, q0qa]
  simp -implicitDefEqProofs only [go_sem, evR, ints, rows, rat, rats]
  by_cases hc : q15a g 0 n = 0
  · obtain ⟨hgb, hn, hpl⟩ := q15d.1 hc
    rw [hc]
    refine ⟨fun h => by simp at h, fun _ => ?_⟩
    have hp := q0sv g hg hgb n.toNat (by omega)
    rw [show ((n.toNat : Nat) : Int) = n by omega] at hp
    simp only [intsO] at hp
    refine q006.res hp [] rfl Try.call114 ?_ (.inl rfl) ?_
    · simp -implicitDefEqProofs only [agR, Nat.reduceLeDiff, Nat.reduceSub, vaR, go_sem, ints, rows, rat, rats, q0p1, rtR, intsO, q0qa]
    simp -implicitDefEqProofs only [clR, Nat.reduceLeDiff, go_sem, evR, rat]
    rw [q0z0 hc]
    exact .inl rfl
  · refine ⟨fun _ => .inr ⟨q15a g 0 n, q0yz hc, rfl⟩, fun h => absurd (by simpa using h) hc⟩
end

section
attribute [-go_sem] q0i5 q0id fldC lenC idxC q0ip q0lp
theorem q13e (g : Gm) (hg : q0cf g) (n : Int)  : Pure Try.prog 11 [q0ck g, .i n] (.b true) := by
  refine q136 (by simp) ?_
  simp -implicitDefEqProofs only [go_sem, evR, ints, rows, rat, rats, q12y, q0ck, q0tu, q06g, q0cg, q0tt, q06f, nodes, q0m0, q0qa, intsO]
  have hc1 := q0hk g 1048576 hg (by omega) (by omega)
  (try simp only [q0ck, q0tu, q06g, q0cg, q0tt, q06f, nodes, q0m0, rows, q0qa, ints, intsO, crO] at hc1)
  refine q006.pure hc1 [] rfl Try.call20 ?_ (by first | trivial | simp [T.noSh, T.noShL, rat]) rfl ?_
  · simp -implicitDefEqProofs only [agR, Nat.reduceLeDiff, Nat.reduceSub, vaR, go_sem, ints, rows, rat, rats, q0p1, rtR, intsO, q0qa]
  simp -implicitDefEqProofs only [go_sem, evR, ints, rows, rat, rats, opR, Nat.reduceBEq, q05w, noLk, q0pd, q0p8, q0k7]
  refine ⟨fun _ => trivial, fun hb0 => ?_⟩
  obtain ⟨hgS, hgb1, hgb2⟩ := q02o (g := g) (left := 1048576) (by omega) (by omega) hb0
  have hg12 := q0ci hgS
  have hf01 := (q162 g n)
  have hc2 := q0hq g hg12
  (try simp only [q0ck, q0tu, q06g, q0cg, q0tt, q06f, nodes, q0m0, rows, q0qa, ints, intsO, crO] at hc2)
  refine q006.res hc2 [] rfl Try.call22 ?_ (.inl rfl) ?_
  · simp -implicitDefEqProofs only [agR, Nat.reduceLeDiff, Nat.reduceSub, vaR, go_sem, ints, rows, rat, rats, q0p1, rtR, intsO, q0qa]
  simp -implicitDefEqProofs only [clR, Nat.reduceLeDiff, go_sem, evR, rat, opR, Nat.reduceBEq, q05w, noLk, q0pd, q0p8, q0k7]
  have hc3 := q11y g n (q0cj hgS)
  (try simp only [q0ck, q0tu, q06g, q0cg, q0tt, q06f, nodes, q0m0, rows, q0qa, ints, intsO, crO] at hc3)
  refine q006.res hc3 [23, 24001, 24002] rfl Try.call46 ?_ (.inr (q135 _)) ?_
  · simp -implicitDefEqProofs only [agR, Nat.reduceLeDiff, Nat.reduceSub, vaR, go_sem, ints, rows, rat, rats, q0p1, rtR, intsO, q0qa]
  simp -implicitDefEqProofs only [clR, Nat.reduceLeDiff, go_sem, evR, rat, opR, Nat.reduceBEq, q05w, noLk, q0pd, q0p8, q0k7]
  have hc4 := q0hq g hg12
  (try simp only [q0ck, q0tu, q06g, q0cg, q0tt, q06f, nodes, q0m0, rows, q0qa, ints, intsO, crO] at hc4)
  refine q006.res hc4 [] rfl Try.call22 ?_ (.inl rfl) ?_
  · simp -implicitDefEqProofs only [agR, Nat.reduceLeDiff, Nat.reduceSub, vaR, go_sem, ints, rows, rat, rats, q0p1, rtR, intsO, q0qa]
  simp -implicitDefEqProofs only [clR, Nat.reduceLeDiff, go_sem, evR, rat, opR, Nat.reduceBEq, q05w, noLk, q0pd, q0p8, q0k7]
  have hc5 := q106 g n (q0cj hgS)
  (try simp only [q0ck, q0tu, q06g, q0cg, q0tt, q06f, nodes, q0m0, rows, q0qa, ints, intsO, crO] at hc5)
  refine q006.res hc5 [32001, 32002, 32003] rfl Try.call47 ?_ (.inr (q135 _)) ?_
  · simp -implicitDefEqProofs only [agR, Nat.reduceLeDiff, Nat.reduceSub, vaR, go_sem, ints, rows, rat, rats, q0p1, rtR, intsO, q0qa]
  simp -implicitDefEqProofs only [clR, Nat.reduceLeDiff, go_sem, evR, rat, opR, Nat.reduceBEq, q05w, noLk, q0pd, q0p8, q0k7]
  have hc6 := q0hg (crvR g n).1 (crvR g n).1 (by omega) (by omega)
  (try simp only [q0ck, q0tu, q06g, q0cg, q0tt, q06f, nodes, q0m0, rows, q0qa, ints, intsO, crO] at hc6)
  refine q006.pure hc6 [33, 25] rfl Try.call48 ?_ (by first | trivial | simp [T.noSh, T.noShL, rat]) rfl ?_
  · simp -implicitDefEqProofs only [agR, Nat.reduceLeDiff, Nat.reduceSub, vaR, go_sem, ints, rows, rat, rats, q0p1, rtR, intsO, q0qa]
  simp -implicitDefEqProofs only [go_sem, evR, ints, rows, rat, rats, opR, Nat.reduceBEq, q05w, noLk, q0pd, q0p8, q0k7, not_true_eq_false, decide_true, decide_false]
  have hc7 := q0hq g hg12
  (try simp only [q0ck, q0tu, q06g, q0cg, q0tt, q06f, nodes, q0m0, rows, q0qa, ints, intsO, crO] at hc7)
  refine q000.res hc7 [] rfl Try.call22 (fun e R' hR => ?_) (.inl rfl) ?_
  · simp -implicitDefEqProofs only [agR, Nat.reduceLeDiff, Nat.reduceSub, vaR, go_sem, ints, rows, rat, rats, q0p1, rtR, intsO, q0qa]
  simp -implicitDefEqProofs only [clR, Nat.reduceLeDiff, go_sem, evR, rat, opR, Nat.reduceBEq, q05w, noLk, q0pd, q0p8, q0k7]
  have hc8 := q0he g g hg12 hg12
  (try simp only [q0ck, q0tu, q06g, q0cg, q0tt, q06f, nodes, q0m0, rows, q0qa, ints, intsO, crO] at hc8)
  refine q004.pure hc8 [32001, 32002, 32003, 47, 48001, 48002] rfl Try.call25 (fun e R' hR => ?_) (by first | trivial | simp [T.noSh, T.noShL, rat]) (fun _ => rfl) ?_
  · have hq32001 := (hR 32001).resolve_left (by simp -implicitDefEqProofs only [go_sem, evR, ints, rows, rat, rats, not_false_eq_true]); have hq32002 := (hR 32002).resolve_left (by simp -implicitDefEqProofs only [go_sem, evR, ints, rows, rat, rats, not_false_eq_true]); have hq32003 := (hR 32003).resolve_left (by simp -implicitDefEqProofs only [go_sem, evR, ints, rows, rat, rats, not_false_eq_true]); have hq47 := (hR 47).resolve_left (by simp -implicitDefEqProofs only [go_sem, evR, ints, rows, rat, rats, not_false_eq_true]); have hq48001 := (hR 48001).resolve_left (by simp -implicitDefEqProofs only [go_sem, evR, ints, rows, rat, rats, not_false_eq_true]); have hq48002 := (hR 48002).resolve_left (by simp -implicitDefEqProofs only [go_sem, evR, ints, rows, rat, rats, not_false_eq_true])
    simp -implicitDefEqProofs only [go_sem, evR, ints, rows, rat, rats] at hq32001 hq32002 hq32003 hq47 hq48001 hq48002
    simp -implicitDefEqProofs only [agR, Nat.reduceLeDiff, Nat.reduceSub, vaR, go_sem, ints, rows, rat, rats, q0p1, rtR, intsO, q0qa, hq32001, hq32002, hq32003, hq47, hq48001, hq48002]
  simp -implicitDefEqProofs only [go_sem, evR, ints, rows, rat, rats, opR, Nat.reduceBEq, q05w, noLk, q0pd, q0p8, q0k7, not_true_eq_false, decide_true, decide_false]
  have hgt := q13w hgS
  have hc9 := q13h g 1 hgS (by omega) (by omega)
  (try simp only [q0ck, q0tu, q06g, q0cg, q0tt, q06f, nodes, q0m0, rows, q0qa, ints, intsO, crO] at hc9)
  refine q006.ref hc9 [32001, 32002, 32003] [] rfl Try.call26 (by simp) ?_ (by simp) ?_ (.inl rfl) ?_
  · simp -implicitDefEqProofs only [srR, Nat.reduceEqDiff, ↓reduceIte, ints, rows, intsO, q0qa]
  · simp -implicitDefEqProofs only [agR, Nat.reduceLeDiff, Nat.reduceSub, vaR, go_sem, ints, rows, rat, rats, q0p1, rtR, intsO, q0qa]
  simp -implicitDefEqProofs only [clR, Nat.reduceLeDiff, go_sem, evR, rat, opR, Nat.reduceBEq, q05w, noLk, q0pd, q0p8, q0k7]
  refine ⟨fun _ => ?_, fun h => absurd h (by omega)⟩
  have hc10 := q0hg (crvR g n).1 (crvR g n).1 (by omega) (by omega)
  (try simp only [q0ck, q0tu, q06g, q0cg, q0tt, q06f, nodes, q0m0, rows, q0qa, ints, intsO, crO] at hc10)
  refine q006.pure hc10 [33, 25] rfl Try.call48 ?_ (by first | trivial | simp [T.noSh, T.noShL, rat]) rfl ?_
  · simp -implicitDefEqProofs only [agR, Nat.reduceLeDiff, Nat.reduceSub, vaR, go_sem, ints, rows, rat, rats, q0p1, rtR, intsO, q0qa]
  simp -implicitDefEqProofs only [go_sem, evR, ints, rows, rat, rats, opR, Nat.reduceBEq, q05w, noLk, q0pd, q0p8, q0k7, not_true_eq_false, decide_true, decide_false]
  have hc11 := q13j (crvR g n).1 1 (by omega) (by omega) (by omega)
  (try simp only [q0ck, q0tu, q06g, q0cg, q0tt, q06f, nodes, q0m0, rows, q0qa, ints, intsO, crO] at hc11)
  refine q006.ref hc11 [33] [] rfl Try.call49 (by simp) ?_ (by simp) ?_ (.inl rfl) ?_
  · simp -implicitDefEqProofs only [srR, Nat.reduceEqDiff, ↓reduceIte, ints, rows, intsO, q0qa]
  · simp -implicitDefEqProofs only [agR, Nat.reduceLeDiff, Nat.reduceSub, vaR, go_sem, ints, rows, rat, rats, q0p1, rtR, intsO, q0qa]
  simp -implicitDefEqProofs only [clR, Nat.reduceLeDiff, go_sem, evR, rat, opR, Nat.reduceBEq, q05w, noLk, q0pd, q0p8, q0k7]
  have hc12 := q13f (crvR g n).1.length 1 hf01 (by omega) (by omega)
  (try simp only [q0ck, q0tu, q06g, q0cg, q0tt, q06f, nodes, q0m0, rows, q0qa, ints, intsO, crO] at hc12)
  refine q006.pure hc12 [33] rfl Try.call50 ?_ (by first | trivial | simp [T.noSh, T.noShL, rat]) rfl ?_
  · simp -implicitDefEqProofs only [agR, Nat.reduceLeDiff, Nat.reduceSub, vaR, go_sem, ints, rows, rat, rats, q0p1, rtR, intsO, q0qa]
  simp -implicitDefEqProofs only [go_sem, evR, ints, rows, rat, rats, opR, Nat.reduceBEq, q05w, noLk, q0pd, q0p8, q0k7]
  refine ⟨fun h => absurd h (by omega), fun _ => ?_⟩
  have hc13 := q0hq g hg12
  (try simp only [q0ck, q0tu, q06g, q0cg, q0tt, q06f, nodes, q0m0, rows, q0qa, ints, intsO, crO] at hc13)
  refine q006.res hc13 [] rfl Try.call22 ?_ (.inl rfl) ?_
  · simp -implicitDefEqProofs only [agR, Nat.reduceLeDiff, Nat.reduceSub, vaR, go_sem, ints, rows, rat, rats, q0p1, rtR, intsO, q0qa]
  simp -implicitDefEqProofs only [clR, Nat.reduceLeDiff, go_sem, evR, rat, opR, Nat.reduceBEq, q05w, noLk, q0pd, q0p8, q0k7]
  have hc14 := q106 g n (q0cj hgS)
  (try simp only [q0ck, q0tu, q06g, q0cg, q0tt, q06f, nodes, q0m0, rows, q0qa, ints, intsO, crO] at hc14)
  refine q006.res hc14 [79, 80001, 80002] rfl Try.call47 ?_ (.inr (q135 _)) ?_
  · simp -implicitDefEqProofs only [agR, Nat.reduceLeDiff, Nat.reduceSub, vaR, go_sem, ints, rows, rat, rats, q0p1, rtR, intsO, q0qa]
  simp -implicitDefEqProofs only [clR, Nat.reduceLeDiff, go_sem, evR, rat, opR, Nat.reduceBEq, q05w, noLk, q0pd, q0p8, q0k7]
  have hc15 := q0hg (crvR g n).1 (crvR g n).1 (by omega) (by omega)
  (try simp only [q0ck, q0tu, q06g, q0cg, q0tt, q06f, nodes, q0m0, rows, q0qa, ints, intsO, crO] at hc15)
  refine q006.pure hc15 [81, 25] rfl Try.call48 ?_ (by first | trivial | simp [T.noSh, T.noShL, rat]) rfl ?_
  · simp -implicitDefEqProofs only [agR, Nat.reduceLeDiff, Nat.reduceSub, vaR, go_sem, ints, rows, rat, rats, q0p1, rtR, intsO, q0qa]
  simp -implicitDefEqProofs only [go_sem, evR, ints, rows, rat, rats, opR, Nat.reduceBEq, q05w, noLk, q0pd, q0p8, q0k7, not_true_eq_false, decide_true, decide_false]
  have hc16 := q13f (crvR g n).1.length 1 hf01 (by omega) (by omega)
  (try simp only [q0ck, q0tu, q06g, q0cg, q0tt, q06f, nodes, q0m0, rows, q0qa, ints, intsO, crO] at hc16)
  refine q006.pure hc16 [33] rfl Try.call50 ?_ (by first | trivial | simp [T.noSh, T.noShL, rat]) rfl ?_
  · simp -implicitDefEqProofs only [agR, Nat.reduceLeDiff, Nat.reduceSub, vaR, go_sem, ints, rows, rat, rats, q0p1, rtR, intsO, q0qa]
  simp -implicitDefEqProofs only [go_sem, evR, ints, rows, rat, rats, opR, Nat.reduceBEq, q05w, noLk, q0pd, q0p8, q0k7]
  exact ⟨fun h => absurd h (by omega), fun _ => trivial⟩
end
end Go.Ab

namespace Go.Proofs.Ytkmmkgpnlmdcfaa
open Go.ChangeShapes Go.WideShapes Go.ChangeAt Go.RowKit Go.Ab

namespace fnExactTrainingCurve
theorem said : ∀ xs, wtL [q0wf, tyI] xs -> Pure Try.prog 11 xs (.b true)
  | [x0, x1], h => by
    obtain ⟨g, rfl, hg⟩ := q0xs h.1
    obtain ⟨n, rfl, _⟩ := q0xt h.2.1
    exact q13e g hg n 
  | [], h => h.elim
  | [_], h => h.2.elim
  | _ :: _ :: _ :: _, h => h.2.2.elim

set_option maxRecDepth 100000 in
theorem lifted (os : Os) (started : os.Started) (H : Type) (enc : TypeId × Value -> H) :
    ReturnsInHanded {} Try.checked os 11 .any (Rows.fnExactTrainingCurveSpec.pre6 enc Try.prog Try.f11 Rows.fnExactTrainingCurveRow.domain false) (Rows.fnExactTrainingCurveSpec.post enc Try.prog Try.f11 false true false false) := by
  refine returnsInHanded_of_change (C := Try.checked) (by kernel_rfl) started (by kernel_rfl) Try.func11
    (ChangeSpec.witness6 (enc := enc) (C := Try.checked) false ⟨#[], #[.agg #[.slice none 0 0, .slice none 0 0, .slice none 0 0], .int .i64 0], []⟩ 8 (by kernel_rfl) (by kernel_rfl) (by kernel_rfl) (by kernel_rfl)) ?_
  intro W base args ds gs before hval hW _ _
  refine q0hc (tys := [q0wf, tyI]) (by kernel_rfl) (by kernel_rfl) rfl (by kernel_rfl) rfl (fun ds h => ?_) said W base args ds gs before hval hW
  match ds, h with
  | [d0, d1], _ => rfl

theorem andT {a b : Bool} (ha : a = true) (hb : b = true) : (a && b) = true := by rw [ha, hb]; rfl
theorem q0g8 : ((Rows.fnExactTrainingCurveRow.wf (OpenSpec.ofChange Rows.fnExactTrainingCurveSpec))) = true := by kernel_rfl
theorem q0g9 : (laidOutB Try.prog) = true := Try.laidOutT
theorem q0gk : (mapsRowed Try.prog) = true := Try.mapsRowedT
theorem q0gv : (Try.f11.params.all (Try.prog.readableRec ·)) = true := by kernel_rfl
theorem q0gy : (namedTie Try.prog Rows.fnExactTrainingCurveRow.named Rows.fnExactTrainingCurveSpec.vars) = true := by kernel_rfl
theorem q0gz : ((Rows.fnExactTrainingCurveRow.stops == [])) = true := by kernel_rfl
theorem q0h0 : ((Try.prog.stops == [])) = true := by kernel_rfl
theorem q0h1 : ((Rows.fnExactTrainingCurveRow.knobs == [])) = true := by kernel_rfl
theorem q0h2 : ((Try.prog.stopKnobs == [])) = true := by kernel_rfl
theorem q0h3 : ((Rows.fnExactTrainingCurveRow.inPlace == Try.prog.inPlace 11)) = true := by kernel_rfl
theorem q0ga : ((Rows.fnExactTrainingCurveRow.unfollowed == Try.prog.unfollowed 11)) = true := by kernel_rfl
theorem q0gb : ((Rows.fnExactTrainingCurveRow.recurses == Try.prog.recurses 11)) = true := by kernel_rfl
theorem q0gc : ((Rows.fnExactTrainingCurveRow.named == Try.prog.varsNamed 11)) = true := by kernel_rfl
theorem q0gd : ((Rows.fnExactTrainingCurveRow.maps == (Try.f11.params.toList ++ Rows.fnExactTrainingCurveSpec.plain.varTypes Try.prog).any (Try.prog.mapsRec ·))) = true := by kernel_rfl
theorem q0ge : ((Rows.fnExactTrainingCurveRow.ifaces == (Try.f11.params.toList ++ Rows.fnExactTrainingCurveSpec.plain.varTypes Try.prog).any (Try.prog.ifacesRec ·))) = true := by kernel_rfl
theorem q0gf : ((Rows.fnExactTrainingCurveRow.mapsOut == Try.prog.mapsAmong Try.f11.resultTypes.toList)) = true := by kernel_rfl
theorem q0gg : ((Rows.fnExactTrainingCurveRow.loops == (Try.f11.params.toList ++ Rows.fnExactTrainingCurveSpec.plain.varTypes Try.prog).any (Try.prog.loopsFrom ·))) = true := by kernel_rfl
theorem q0gh : ((Rows.fnExactTrainingCurveRow.wideKeys == (Try.f11.params.toList ++ Rows.fnExactTrainingCurveSpec.plain.varTypes Try.prog ++ Try.f11.resultTypes.toList).any (Try.prog.wideKeysFrom ·))) = true := by kernel_rfl
theorem q0gi : (Rows.fnExactTrainingCurveSpec.vars.all (Try.prog.varReadable ·)) = true := by kernel_rfl
theorem q0gj : (Try.f11.resultTypes.all (fun t => Try.prog.readableRec t && decide (t < Try.prog.types.size))) = true := by kernel_rfl
theorem q0gl : ((Rows.fnExactTrainingCurveRow.ifacesOut == Try.f11.resultTypes.toList.any (Try.prog.ifacesRec ·))) = true := by kernel_rfl
theorem q0gm : ((Rows.fnExactTrainingCurveRow.loopsOut == Try.f11.resultTypes.toList.any (Try.prog.loopsFrom ·))) = true := by kernel_rfl
theorem q0gn : ((Rows.fnExactTrainingCurveRow.plainKeys == Try.prog.plainKeys)) = true := by kernel_rfl
theorem q0go : (Rows.fnExactTrainingCurveRow.shortTexts.isNone) = true := by kernel_rfl
theorem q0gp : (Try.prog.stopsHeard) = true := Try.heardT
theorem q0gq : (Try.prog.mayEnter) = true := Try.mayEnterT
theorem q0gr : ((Rows.fnExactTrainingCurveRow.lifted == Try.prog.liftsFinal)) = true := (by rw [Try.liftsF]; rfl)
theorem q0gs : ((Try.prog.make == some Rows.fnExactTrainingCurveRow.make)) = true := (by rw [Try.makeC]; rfl)
theorem q0gt : ((Rows.fnExactTrainingCurveRow.kinds == (if Rows.fnExactTrainingCurveRow.domain.isEmpty then [] else Try.f11.params.toList.map fun t => match Try.prog.underlying t with | some (.int k) => some k | _ => none))) = true := by kernel_rfl
theorem q0gu : ((Rows.fnExactTrainingCurveRow.pinned == Rows.fnExactTrainingCurveRow.pinnedBy)) = true := by kernel_rfl
theorem q0gw : ((Rows.fnExactTrainingCurveRow.veiled == (Try.f11.params.toList ++ Rows.fnExactTrainingCurveSpec.plain.varTypes Try.prog ++ Try.f11.resultTypes.toList).any (Try.prog.veiledRec ·))) = true := by kernel_rfl
theorem q0gx : (Rows.fnExactTrainingCurveRow.veiledFits Try.prog Try.f11.params.toList (Try.f11.params.toList ++ Rows.fnExactTrainingCurveSpec.plain.varTypes Try.prog ++ Try.f11.resultTypes.toList)) = true := by kernel_rfl
set_option maxRecDepth 100000 in
theorem joined : joinedFacts Try.prog 11 Try.f11 Rows.fnExactTrainingCurveSpec Rows.fnExactTrainingCurveRow = true := by
  unfold joinedFacts
  exact andT (andT (andT (andT (andT (andT (andT (andT (andT (andT (andT (andT (andT (andT (andT (andT (andT (andT (andT (andT (andT (andT (andT (andT (andT (andT (andT (andT (andT (andT (andT (q0g8) q0g9) q0gk) q0gv) q0gy) q0gz) q0h0) q0h1) q0h2) q0h3) q0ga) q0gb) q0gc) q0gd) q0ge) q0gf) q0gg) q0gh) q0gi) q0gj) q0gl) q0gm) q0gn) q0go) q0gp) q0gq) q0gr) q0gs) q0gt) q0gu) q0gw) q0gx
theorem over : Rows.fnExactTrainingCurveRow.holds Try.pinned (OpenSpec.ofChange Rows.fnExactTrainingCurveSpec) :=
  OpenClaim.holds_of_wide 11 Try.f11 rfl rfl rfl rfl rfl rfl rfl ⟨rfl, rfl, rfl, rfl, rfl⟩ rfl rfl rfl rfl rfl (by kernel_rfl) Try.func11 joined
    (of_decide_eq_true (by kernel_rfl)) (by unfold Func.isWrapper; first | (rw [if_pos (by decide +kernel)]; kernel_rfl) | (rw [if_neg (by decide +kernel)]; exact ⟨rfl, rfl⟩))
    (fun os started H enc _ => lifted os started H enc)
end fnExactTrainingCurve

theorem fnExactTrainingCurve_holds : Rows.FnExactTrainingCurveSaid := fnExactTrainingCurve.over
#print axioms fnExactTrainingCurve_holds
end Go.Proofs.Ytkmmkgpnlmdcfaa
