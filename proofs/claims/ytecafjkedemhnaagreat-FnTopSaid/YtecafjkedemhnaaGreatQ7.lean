import Derived.Test.YtecafjkedemhnaaGreatQ5
set_option maxRecDepth 20000
set_option linter.all false
namespace Go.Ab
open Go.Proofs
def ah3:=cO Tryz.func78
def ah4:=cO Tryz.func79
def ah5:=cO Tryz.func80
def ah6:=cO Tryz.func83
def ah7:=cO Tryz.func84
def ah8:=cO Tryz.func87
def ah9:=cO Tryz.func88
def ai0:=cO Tryz.func89
def ai1:=cO Tryz.func90
def ai2:=cO Tryz.func91
def ai3:=cO Tryz.func92
def ai4:=cO Tryz.func93
def ai5:=cO Tryz.func94
def ai6:=cO Tryz.func95
def ai7:=cO Tryz.func97
def ai8:=cO Tryz.func98
def ai9:=cO Tryz.func99
def aj0:=cO Tryz.func101
def aj1:=cO Tryz.func102
def aj2:=cO Tryz.func104
def aj3:=cO Tryz.func105
def aj4:=cO Tryz.func106
def aj5:=cO Tryz.func107
def aj6:=cO Tryz.func108
def aj7:=cO Tryz.func109
def aj8:=cO Tryz.func110
def aj9:=cO Tryz.func111
def ak0:=cO Tryz.func112
def ak1:=cO Tryz.func113
def ak2:=cO Tryz.func114
def ak3:=cO Tryz.func116
def ak4:=cO Tryz.func117
def ak5:=cO Tryz.func119
def ak6:=cO Tryz.func121
def ak7:=cO Tryz.func122
def ak8:=cO Tryz.func123
def ak9:=cO Tryz.func124
def al0:=cO Tryz.func125
def al1:=cO Tryz.func126
def al2:=cO Tryz.func127
def al3:=cO Tryz.func128
def al4:=cO Tryz.func129
def al5:=cO Tryz.func130
def al6:=cO Tryz.func132
def al7:=cO Tryz.func133
def al8:=cO Tryz.func134
def Pj:=cO Tryz.func135
def al9:=cO Tryz.func136
def am0:=cO Tryz.func137
def am1:=cO Tryz.func138
def am2:=cO Tryz.func139
def am3:=cO Tryz.func141
def am4:=cO Tryz.func142
def am5:=cO Tryz.func143
def am6:=cO Tryz.func144
def am7:=cO Tryz.func145
def am8:=cO Tryz.func146
def am9:=cO Tryz.func147
def an0:=cO Tryz.func148
def an1:=cO Tryz.func149
def A8:CC:=
 (.seq (.aN [.o (.box 2 (sl 0)),.o (.move 4 (cb false))])
 ((.seq (.draw [] [kr (ln 5 9 2),kr (mv 6 1),kr (.o (.call (some 7) (cf 152) [(sl 5),(sl 6)])),kr (mv 8 7),(kR,.g 8 true (some 9) (.rt 9 1 (sl 2))),(kR,.g 8 true (some 10) (.load1 10 (sl 9))),(kR,.g 8 true (some 11) (.move 11 (sl 1))),(kR,.g 8 true (some 12) (.idx 12 1 (sl 10) (sl 11))),(kR,.g 8 true (some 13) (.load1 13 (sl 12))),(kR,.g 8 true (some 14) (.rt 14 1 (sl 2))),(kR,.g 8 true (some 15) (.load1 15 (sl 14))),(kR,.g 8 true (some 16) (.call (some 16) (cf 154) [(sl 15)])),(kR,.g 8 true (some 17) (.bin 17 .lss (sl 13) (sl 16))),(kR,.g 8 true (some 18) (.move 18 (sl 17))),(kR,.g 18 false (some 19) (.rt 19 4 (sl 2))),(kR,.g 18 false (some 20) (.load1 20 (sl 19))),(kR,.g 18 false (some 21) (.move 21 (sl 1))),(kR,.g 18 false (some 22) (.idx 22 1 (sl 20) (sl 21))),(kR,.g 18 false (some 23) (.load1 23 (sl 22))),(kR,.g 18 false (some 24) (.un 24 .not (sl 23))),(kR,.g 18 false (some 25) (.move 25 (sl 24))),(kR,.g 25 true (some 26) (.loadN 26 9 (sl 2))),(kR,.g 25 true (some 27) (.move 27 (sl 1))),(kR,.g 25 true (some 28) (.call (some 28) (cf 155) [(sl 26),(sl 27)])),(kR,.g 18 false (some 29) (.pick 29 (sl 25) (sl 28) (cb false))),(kR,.g 8 true (some 30) (.pick 30 (sl 18) (cb true) (sl 29))),kr (.o (.pick 31 (sl 8) (sl 30) (cb false))),kr (mv 4 31)])
 (.ret))))
def an2{aH args Q}(ha:args.length<=32)(h:fW 32 A8 [.tmp 4] aH args Q):cF Tryz.prog 150 aH args Q:=
 cF.of (H:=⟨[],[]⟩) Tryz.func150 rfl rfl rfl (by kernel_rfl) ha dc h
def an3:=cO Tryz.func151
def an4:=cO Tryz.func152
def an5:=cO Tryz.func153
def an6:=cO Tryz.func154
end Go.Ab
