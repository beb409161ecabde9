import Derived.Test.YtecafjkedemhnaaGreatQ5
set_option maxRecDepth 20000
set_option linter.all false
namespace Go.Ab
open Go.Proofs
def an7:=cO Tryz.func155
def an8:=cO Tryz.func156
def an9:=cO Tryz.func157
def ao0:=cO Tryz.func158
def ao1:=cO Tryz.func162
def ao2:=cO Tryz.func163
def ao3:=cO Tryz.func164
def ao4:=cO Tryz.func165
def ao5:=cO Tryz.func166
def ao6:=cO Tryz.func167
def ao7:=cO Tryz.func168
def ao8:=cO Tryz.func169
def ao9:=cO Tryz.func170
def Pk:=cO Tryz.func173
def ap0:=cO Tryz.func174
def ap1:=cO Tryz.func175
def ap2:=cO Tryz.func176
def ap3:=cO Tryz.func177
def ap4:=cO Tryz.func178
def ap5:=cO Tryz.func179
def Pm:=cO Tryz.func181
def ap6:=cO Tryz.func182
def ap7:=cO Tryz.func183
def ap8:=cO Tryz.func185
def ap9:=cO Tryz.func186
def aq0:=cO Tryz.func187
def aq1:=cO Tryz.func190
def aq2:=cO Tryz.func191
def aq3:=cO Tryz.func192
def aq4:=cO Tryz.func193
def aq5:=cO Tryz.func194
def aq6:=cO Tryz.func195
def aq7:=cO Tryz.func196
def aq8:=cO Tryz.func197
def aq9:=cO Tryz.func198
def ar0:=cO Tryz.func199
def ar1:=cO Tryz.func200
def ar2:CC:=
 (.seq (.aN [l1 8 1,.o (.make 9 [.v (.int .i64 0)] 8 (sl 8) (sl 8)),mv 4 9])
 ((.seq (.seq (.aN [mv 10 4,.o (.iJ 11 (sl 10)),.o (.move 12 (ci 0))])
 ((.block 0 (.loop (.seq (.aN [.o (.bin 13 .lss (sl 12) (sl 11))])
 ((.seq (.cond (sl 13) .skip
 (.exit 0))
 ((.seq (.block 1 (.seq (.aN [mv 14 12,mv 5 14])
 ((.aN [mv 15 4,mv 16 5,mv 17 5,ix 18 15 16,.o (.store 1 (sl 18) (sl 17))]))))
 ((.aN [.o (.bin 19 .add (sl 12) (ci 1)),mv 12 19])))))))))))
 ((.seq (.seq (.aN [l1 20 1,l1 21 2,.o (.bin 22 .gtr (sl 20) (sl 21))])
 ((.cond (sl 22) .ret
 .skip)))
 ((.block 2 (.loop (.seq (.seq (.aN [mv 23 0,mv 24 4,.o (.call (some 25) (sl 23) [(sl 24)])])
 ((.cond (sl 25) .skip
 (.exit 2))))
 ((.block 3 (.seq (.aN [l1 26 1,.o (.bin 27 .sub (sl 26) (ci 1)),mv 6 27])
 ((.seq (.block 4 (.loop (.seq (.seq (.draw [] [kr (mv 28 6),kr (.o (.bin 29 .geq (sl 28) (ci 0))),kr (mv 30 29),(kR,.g 30 true (some 31) (.move 31 (sl 4))),(kR,.g 30 true (some 32) (.move 32 (sl 6))),(kR,.g 30 true (some 33) (.idx 33 1 (sl 31) (sl 32))),(kR,.g 30 true (some 34) (.load1 34 (sl 33))),(kR,.g 30 true (some 35) (.load1 35 (sl 2))),(kR,.g 30 true (some 36) (.load1 36 (sl 1))),(kR,.g 30 true (some 37) (.bin 37 .sub (sl 35) (sl 36))),(kR,.g 30 true (some 38) (.move 38 (sl 6))),(kR,.g 30 true (some 39) (.bin 39 .add (sl 37) (sl 38))),(kR,.g 30 true (some 40) (.bin 40 .eql (sl 34) (sl 39))),kr (.o (.pick 41 (sl 30) (sl 40) (cb false)))])
 ((.cond (sl 41) .skip
 (.exit 4))))
 ((.block 5 (.aN [mv 42 6,.o (.bin 43 .sub (sl 42) (ci 1)),mv 6 43]))))))
 ((.seq (.seq (.aN [mv 44 6,.o (.bin 45 .lss (sl 44) (ci 0))])
 ((.cond (sl 45) .ret
 .skip)))
 ((.seq (.aN [mv 46 4,mv 47 6,ix 48 46 47,l1 49 48,.o (.bin 50 .add (sl 49) (ci 1)),ix 51 46 47,.o (.store 1 (sl 51) (sl 50))])
 ((.seq (.aN [mv 52 6,.o (.bin 53 .add (sl 52) (ci 1)),mv 7 53])
 ((.block 6 (.loop (.seq (.seq (.aN [mv 54 7,l1 55 1,.o (.bin 56 .lss (sl 54) (sl 55))])
 ((.cond (sl 56) .skip
 (.exit 6))))
 ((.seq (.block 7 (.aN [mv 59 4,mv 60 7,mv 61 4,mv 62 7,.o (.bin 63 .sub (sl 62) (ci 1)),ix 64 61 63,l1 65 64,.o (.bin 66 .add (sl 65) (ci 1)),ix 67 59 60,.o (.store 1 (sl 67) (sl 66))]))
 ((.aN [mv 57 7,.o (.bin 58 .add (sl 57) (ci 1)),mv 7 58]))))))))))))))))))))))))))))
def ar3:=cO Tryz.func202
def ar4:=cO Tryz.func203
def ar5:=cO Tryz.func204
def ar6:=cO Tryz.func207
def ar7:=cO Tryz.func208
def ar8:=cO Tryz.func209
def ar9:=cO Tryz.func210
def as0:=cO Tryz.func211
def as1:=cO Tryz.func212
def as2:=cO Tryz.func213
def as3:=cO Tryz.func214
def as4:=cO Tryz.func215
def as5:=cO Tryz.func216
def as6:=cO Tryz.func217
def as7:=cO Tryz.func218
def as8:=cO Tryz.func219
def as9:=cO Tryz.func220
def at0:=cO Tryz.func221
def at1:=cO Tryz.func222
def IP:=cO Tryz.func223
def Pn:CC:=
 (.seq (.aN [.o (.move 4 (cb false))])
 ((.seq (.seq (.aN [.o (.move 5 (ci 0))])
 ((.block 0 (.loop (.seq (.seq (.aN [mv 6 5,mv 7 0,.o (.iJ 8 (sl 7)),.o (.bin 9 .lss (sl 6) (sl 8))])
 ((.cond (sl 9) .skip
 (.exit 0))))
 ((.seq (.block 1 (.seq (.draw [] [kr (mv 12 0),kr (mv 13 5),kr (ix 14 12 13),kr (l1 15 14),kr (mv 16 1),kr (.o (.bin 17 .sub (sl 16) (ci 1))),kr (.o (.call (some 18) (cf 121) [(sl 15),(ci 0),(sl 17)])),kr (.o (.un 19 .not (sl 18))),kr (mv 20 19),(kR,.g 20 false (some 21) (.move 21 (sl 5))),(kR,.g 20 false (some 22) (.bin 22 .gtr (sl 21) (ci 0))),(kR,.g 20 false (some 23) (.move 23 (sl 22))),(kR,.g 23 true (some 24) (.move 24 (sl 0))),(kR,.g 23 true (some 25) (.move 25 (sl 5))),(kR,.g 23 true (some 26) (.idx 26 1 (sl 24) (sl 25))),(kR,.g 23 true (some 27) (.load1 27 (sl 26))),(kR,.g 23 true (some 28) (.move 28 (sl 0))),(kR,.g 23 true (some 29) (.move 29 (sl 5))),(kR,.g 23 true (some 30) (.bin 30 .sub (sl 29) (ci 1))),(kR,.g 23 true (some 31) (.idx 31 1 (sl 28) (sl 30))),(kR,.g 23 true (some 32) (.load1 32 (sl 31))),(kR,.g 23 true (some 33) (.bin 33 .leq (sl 27) (sl 32))),(kR,.g 20 false (some 34) (.pick 34 (sl 23) (sl 33) (cb false))),kr (.o (.pick 35 (sl 20) (cb true) (sl 34)))])
 ((.cond (sl 35) (.seq (.aN [.o (.move 4 (cb false))])
 (.ret))
 .skip))))
 ((.aN [mv 10 5,.o (.bin 11 .add (sl 10) (ci 1)),mv 5 11])))))))))
 ((.seq (.aN [.o (.move 4 (cb true))])
 (.ret))))))
def at2{aH args Q}(ha:args.length<=36)(h:fW 36 Pn [.tmp 4] aH args Q):cF Tryz.prog 224 aH args Q:=
 cF.of (H:=⟨[],[]⟩) Tryz.func224 rfl rfl rfl (by kernel_rfl) ha dc h
def at3:=cO Tryz.func225
def at4:=cO Tryz.func237
def at5:=cO Tryz.func238
def at6:=cO Tryz.func239
def at7:=cO Tryz.func240
def Po:=cO Tryz.func241
def xo:=cO Tryz.func248
end Go.Ab
