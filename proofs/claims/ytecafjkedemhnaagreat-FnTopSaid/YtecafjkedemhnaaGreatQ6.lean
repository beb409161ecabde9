import Derived.Test.YtecafjkedemhnaaGreatQ5
set_option maxRecDepth 20000
set_option linter.all false
namespace Go.Ab
open Go.Proofs
def ab4:=cO Tryz.func3
def ab5:=cO Tryz.func4
def ab6:=cO Tryz.func5
def Pc:=cO Tryz.func6
def Pd:=cO Tryz.func7
def ab7:=cO Tryz.func8
def ab8:=cO Tryz.func9
def ab9:=cO Tryz.func10
def Pe:=cO Tryz.func11
def ac0:=cO Tryz.func12
def ac1:=cO Tryz.func13
def ac2:=cO Tryz.func14
def ac3:=cO Tryz.func15
def ac4:=cO Tryz.func16
def ac5:=cO Tryz.func18
def Pf:=cO Tryz.func19
def ac6:=cO Tryz.func20
def ac7:=cO Tryz.func21
def ac8:=cO Tryz.func23
def ac9:=cO Tryz.func24
def ad0:=cO Tryz.func25 (H:=⟨[(3,1,.r false [2]),(3,2,.r false [2,3]),(3,3,.h (some [2]) []),(3,4,.h (some [3]) []),(9,1,.r false [2]),(9,2,.r false [2,3]),(9,3,.h (some [2]) []),(9,4,.h (some [3]) [])],[3,9]⟩)
def ad1:=cO Tryz.func26
def ad2:=cO Tryz.func27
def ad3:=cO Tryz.func28
def ad4:=cO Tryz.func29
def ad5:=cO Tryz.func30
def ad6:=cO Tryz.func31
def ad7:=cO Tryz.func32
def ad8:=cO Tryz.func33
def ad9:=cO Tryz.func34
def ae0:=cO Tryz.func35
def ae1:=cO Tryz.func37
def Pg:CC:=
 (.seq (.aN [.o (.move 4 (ci 0))])
 ((.seq (.seq (.aN [mv 6 1,.o (.bin 7 .leq (sl 6) (ci 1))])
 ((.cond (sl 7) (.seq (.aN [.o (.move 4 (ci 0))])
 (.ret))
 .skip)))
 ((.seq (.aN [mv 8 0,mv 9 0,.o (.ep 10 (sl 9)),fl 11 2 10,l1 12 11,.o (.bin 13 .mul (sl 12) (ci 48271)),.o (.bin 14 .add (sl 13) (ci 29)),.o (.bin 15 .rem (sl 14) (ci 2147483647)),.o (.ep 16 (sl 8)),fl 17 2 16,.o (.store 1 (sl 17) (sl 15))])
 ((.seq (.aN [mv 18 0,.o (.ep 19 (sl 18)),fl 20 2 19,l1 21 20,.o (.bin 22 .quo (sl 21) (ci 31)),mv 5 22])
 ((.seq (.seq (.draw [] [kr (mv 23 0),kr (.o (.ep 24 (sl 23))),kr (fl 25 1 24),kr (l1 26 25),kr (mv 27 0),kr (.o (.ep 28 (sl 27))),kr (fl 29 0 28),kr (l1 30 29),kr (.o (.iJ 31 (sl 30))),kr (.o (.bin 32 .lss (sl 26) (sl 31)))])
 ((.cond (sl 32) (.seq (.draw [] [kr (mv 33 5),kr (mv 34 0),kr (.o (.ep 35 (sl 34))),kr (fl 36 0 35),kr (l1 37 36),kr (mv 38 0),kr (.o (.ep 39 (sl 38))),kr (fl 40 1 39),kr (l1 41 40),kr (ix 42 37 41),kr (l1 43 42),kr (.o (.conv 44 .i64 (sl 43))),kr (.o (.bin 45 .add (sl 33) (sl 44))),kr (mv 5 45)])
 ((.seq (.aN [mv 46 0,.o (.ep 47 (sl 46)),fl 48 1 47,l1 49 48,.o (.bin 50 .add (sl 49) (ci 1)),.o (.ep 51 (sl 46)),fl 52 1 51,.o (.store 1 (sl 52) (sl 50))])
 ((.seq (.aN [mv 53 1,.o (.bin 54 .leq (sl 53) (ci 256)),mv 55 54,.g 55 true (some 56) (.move 56 (sl 0)),.g 55 true (some 57) (.ep 57 (sl 56)),.g 55 true (some 58) (.rt 58 1 (sl 57)),.g 55 true (some 59) (.load1 59 (sl 58)),.g 55 true (some 60) (.bin 60 .rem (sl 59) (ci 2)),.g 55 true (some 61) (.bin 61 .eql (sl 60) (ci 0)),.o (.pick 62 (sl 55) (sl 61) (cb false))])
 ((.cond (sl 62) (.draw [] [kr (mv 63 0),kr (.o (.ep 64 (sl 63))),kr (fl 65 0 64),kr (l1 66 65),kr (mv 67 0),kr (.o (.ep 68 (sl 67))),kr (fl 69 1 68),kr (l1 70 69),kr (.o (.bin 71 .sub (sl 70) (ci 1))),kr (ix 72 66 71),kr (l1 73 72),kr (.o (.conv 74 .i64 (sl 73))),kr (mv 5 74)])
 .skip)))))))
 .skip)))
 ((.seq (.aN [mv 75 5,mv 76 1,.o (.bin 77 .rem (sl 75) (sl 76)),mv 4 77])
 (.ret))))))))))))
def ae2{aH args Q}(ha:args.length<=78)(h:fW 78 Pg [.tmp 4] aH args Q):cF Tryz.prog 39 aH args Q:=
 cF.of (H:=⟨[],[]⟩) Tryz.func39 rfl rfl rfl (by kernel_rfl) ha dc h
def ae3:=cO Tryz.func41
def ae4:=cO Tryz.func43
def ae5:=cO Tryz.func46
def ae6:=cO Tryz.func47
def ae7:=cO Tryz.func48
def IN:=cO Tryz.func49
def Ph:=cO Tryz.func50
def ae8:=cO Tryz.func51
def ae9:=cO Tryz.func52
def af0:=cO Tryz.func53
def af1:=cO Tryz.func54
def af2:=cO Tryz.func55
def af3:=cO Tryz.func56
def af4:=cO Tryz.func57
def af5:=cO Tryz.func58
def af6:=cO Tryz.func59
def af7:=cO Tryz.func60
def af8:=cO Tryz.func61
def af9:=cO Tryz.func62
def ag0:=cO Tryz.func64
def ag1:=cO Tryz.func65
def ag2:=cO Tryz.func66
def ag3:=cO Tryz.func67
def ag4:=cO Tryz.func68
def ag5:=cO Tryz.func69
def ag6:=cO Tryz.func70
def ag7:=cO Tryz.func71
def ag8:=cO Tryz.func72
def ag9:=cO Tryz.func73
def ah0:=cO Tryz.func75
def ah1:=cO Tryz.func76
def ah2:=cO Tryz.func77
end Go.Ab
