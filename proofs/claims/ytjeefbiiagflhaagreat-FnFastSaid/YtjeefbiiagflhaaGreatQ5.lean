/- The functions in compact form, printed by a program (CcDump.lean). -/
import Derived.Test.YtjeefbiiagflhaaGreatRows
import Derived.Test.YtjeefbiiagflhaaGreatQ4
set_option linter.unusedSimpArgs false
set_option linter.unusedVariables false
set_option maxRecDepth 20000
namespace Go.Ab
open Go.Proofs

@[go_sem] theorem q1wl : q0w0 Tryz.prog 45 = some true := by kernel_rfl
@[go_sem] theorem q1wm : q0wn Tryz.prog 45 = some 2 := by kernel_rfl
@[go_sem] theorem q1d2 : q0w0 Tryz.prog 66 = some true := by kernel_rfl
@[go_sem] theorem q1d4 : q0wn Tryz.prog 66 = some 6 := by kernel_rfl
theorem q0wk : q0wn Tryz.prog 0 = some 1 := by kernel_rfl

abbrev mv (a b : Nat) : CI := .o (.move a (sl b))
abbrev l1 (a b : Nat) : CI := .o (.load1 a (sl b))
abbrev ix (a b c : Nat) : CI := .o (.idx a 1 (sl b) (sl c))
abbrev fl (a b c : Nat) : CI := .o (.fld a b (sl c))
abbrev ln (a b c : Nat) : CI := .o (.loadN a b (sl c))
abbrev kr (c : CI) : DK × CI := (kR, c)
abbrev fW (n : Nat) (c : CC) (rs : List ResultVar) (rin : List T) (args : List A) (Q : List T -> T -> Prop) : Prop := cW Tryz.prog n c (retP Tryz.prog rs rin.length Q) (St.of (enum 0 args) (enum 1000000000 rin))
attribute [go_sem ↓] fW
theorem Weak.o {n : Nat} {S : St} (e : List (Nat × A)) (r : List (Nat × T)) (ss : List (Option Nat)) (he : q08f S (piOf r ss) e) (hr : q0py S r ss) (hd : (((r.map (·.1)).zip ss).filterMap (·.2)).Nodup := by simp) (hb : ∀ p ∈ (r.map (·.1)).zip ss, p.1 < 1000000000 ∨ p.2 = some p.1 := by simp) : Weak n S (St.of e r) := Weak.of e r ss hd hb he hr
theorem q006.p {P : Program} {n : Nat} {S : St} {d : Nat} {fo : Operand} {ao : List Operand} {K : St -> Prop} {f : FuncId} {cap : List A} {args : List T} {res : T} {x : A} (hF : Pure P f args res) (bor : List Nat) (hfo : fnA (S.ev fo) = some (f, cap)) (hcall : ∀ args w, (callFunc f args).run P w = .ok (.enter f args) w)
  (hargs : vaL S [] bor (args.map A.t) (ao.map S.ev ++ cap)) (hk : K { S with env := upd S.env d x }) (hns : res.noSh := by first | trivial | simp [T.noSh, T.noShL, rat]) (hx : absT d 0 res = (x, [], 0) := by rfl) : q006 P n (some d) fo ao K S := q006.pure hF bor hfo hcall hargs hns hx hk
def q1wj : CC :=
 (.seq (.reg [.o (.move 6 (cv (.slice none 0 0))),.o (.move 7 (ci 0))])
 ((.seq (.seq (.reg [mv 8 0,mv 9 1,mv 10 2,.o (.call (some 11) (cf 25) [(sl 8), (sl 9), (sl 10), (cv (.slice none 0 0))]),.o (.un 12 .not (sl 11))])
 ((.cond (sl 12) (.seq (.reg [.o (.move 6 (cv (.slice none 0 0))),.o (.move 7 (ci 1))])
 (.ret))
 .skip)))
 ((.seq (.seq (.reg [mv 13 2,.o (.lenS 14 (sl 13)),.o (.bin 15 .neq (sl 14) (ci 4))])
 ((.cond (sl 15) (.seq (.reg [.o (.move 6 (cv (.slice none 0 0))),.o (.move 7 (ci 2))])
 (.ret))
 .skip)))
 ((.seq (.reg [mv 16 0,mv 17 1,mv 18 2,.o (.call (some 19) (cf 26) [(sl 16), (sl 17), (sl 18), (cv (.slice none 0 0))]),.o (.extract 20 (sl 19) 0),.o (.extract 21 (sl 19) 1),mv 6 20,mv 7 21])
 (.ret))))))))
theorem q1y5 {rin args Q} (ha : args.length <= 22) (h : fW 22 q1wj [.tmp 6, .tmp 7] rin args Q) : Fun Tryz.prog 6 rin args Q :=
 Fun.of (H := ⟨[], []⟩) Tryz.func6 rfl rfl rfl (by kernel_rfl) ha (by decide) h

def q1w2 : CC :=
 (.seq (.reg [.o (.move 6 (cv (.slice none 0 0))),.o (.move 7 (ci 0))])
 ((.seq (.seq (.reg [mv 21 0,mv 22 1,mv 23 2,.o (.call (some 24) (cf 27) [(sl 21), (sl 22), (sl 23), (cv (.slice none 0 0))]),.o (.un 25 .not (sl 24))])
 ((.cond (sl 25) (.seq (.reg [.o (.move 6 (cv (.slice none 0 0))),.o (.move 7 (ci 1))])
 (.ret))
 .skip)))
 ((.seq (.seq (.reg [mv 26 2,.o (.lenS 27 (sl 26)),.o (.bin 28 .neq (sl 27) (ci 4))])
 ((.cond (sl 28) (.seq (.reg [.o (.move 6 (cv (.slice none 0 0))),.o (.move 7 (ci 2))])
 (.ret))
 .skip)))
 ((.seq (.reg [mv 29 1,.o (.call (some 30) (cf 28) [(sl 29)]),mv 31 2,.o (.bslice 32 1 1 [(0, (sl 31))]),.o (.app 33 1 24 (sl 30) (sl 32)),mv 8 33])
 ((.seq (.reg [mv 35 8,.o (.call (some 36) (cf 20) [(sl 35)]),mv 34 36,.o (.extract 37 (sl 34) 0),.o (.extract 38 (sl 34) 1),.o (.extract 39 (sl 34) 2),mv 9 37,mv 10 38,mv 11 39])
 ((.seq (.reg [mv 40 1,.o (.lenS 41 (sl 40)),.o (.make 42 [.v (.int .i64 0)] 8 (sl 41) (sl 41)),mv 12 42])
 ((.seq (.reg [.o (.move 13 (ci 0))])
 ((.seq (.seq (.reg [mv 43 9,.o (.lenS 44 (sl 43)),.o (.move 45 (ci 0))])
 ((.block 0 (.loop (.seq (.reg [.o (.bin 46 .lss (sl 45) (sl 44))])
 ((.seq (.cond (sl 46) .skip
 (.exit 0))
 ((.seq (.block 1 (.seq (.reg [mv 47 45,ix 48 43 45,l1 49 48,mv 14 47,mv 15 49])
 ((.seq (.reg [mv 50 13,mv 51 10,mv 52 14,ix 53 51 52,l1 54 53,.o (.bin 55 .add (sl 50) (sl 54)),mv 13 55])
 ((.seq (.reg [mv 56 0,mv 57 1,mv 58 2,.o (.call (some 59) (cf 30) [(sl 58)]),mv 60 15,.o (.bslice 61 1 1 [(0, (sl 60))]),.o (.app 62 1 8 (sl 59) (sl 61)),.o (.call (some 63) (cf 29) [(sl 56), (sl 57), (sl 62)]),.o (.lenS 64 (sl 63)),.o (.move 65 (ci 0))])
 ((.block 2 (.loop (.seq (.reg [.o (.bin 66 .lss (sl 65) (sl 64))])
 ((.seq (.cond (sl 66) .skip
 (.exit 2))
 ((.seq (.block 3 (.seq (.reg [mv 67 65,ix 68 63 65,l1 69 68,mv 16 67,mv 17 69])
 ((.draw [] [kr (mv 70 12),kr (mv 71 16),kr (ix 72 70 71),kr (l1 73 72),kr (mv 74 17),kr (mv 75 10),kr (mv 76 14),kr (ix 77 75 76),kr (l1 78 77),kr (.o (.bin 79 .mul (sl 74) (sl 78))),kr (.o (.bin 80 .add (sl 73) (sl 79))),kr (ix 81 70 71),(kH, .o (.store 1 (sl 81) (sl 80)))]))))
 ((.reg [.o (.bin 82 .add (sl 65) (ci 1)),mv 65 82]))))))))))))))))
 ((.reg [.o (.bin 83 .add (sl 45) (ci 1)),mv 45 83])))))))))))
 ((.seq (.reg [mv 84 1,.o (.lenS 85 (sl 84)),.o (.make 86 [.v (.int .i64 0), .v (.int .i64 0)] 16 (sl 85) (sl 85)),mv 18 86])
 ((.seq (.seq (.reg [mv 87 12,.o (.lenS 88 (sl 87)),.o (.move 89 (ci 0))])
 ((.block 4 (.loop (.seq (.reg [.o (.bin 90 .lss (sl 89) (sl 88))])
 ((.seq (.cond (sl 90) .skip
 (.exit 4))
 ((.seq (.block 5 (.seq (.reg [mv 91 89,ix 92 87 89,l1 93 92,mv 19 91,mv 20 93])
 ((.reg [mv 95 18,mv 96 19,mv 97 20,mv 98 13,.o (.bin 99 .mul (ci 24) (sl 98)),.o (.call (some 100) (cf 31) [(sl 97), (sl 99)]),mv 94 100,.o (.extract 101 (sl 94) 0),.o (.extract 102 (sl 94) 1),.o (.idx 103 2 (sl 95) (sl 96)),.o (.store 2 (sl 103) (sl 101))]))))
 ((.reg [.o (.bin 104 .add (sl 89) (ci 1)),mv 89 104])))))))))))
 ((.seq (.reg [mv 105 18,mv 6 105,.o (.move 7 (ci 0))])
 (.ret))))))))))))))))))))))
theorem q1xo {rin args Q} (ha : args.length <= 106) (h : fW 106 q1w2 [.tmp 6, .tmp 7] rin args Q) : Fun Tryz.prog 9 rin args Q :=
 Fun.of (H := ⟨[], []⟩) Tryz.func9 rfl rfl rfl (by kernel_rfl) ha (by decide) h

def q0ya : CC :=
 (.seq (.reg [.o (.move 2 (cb false))])
 ((.seq (.reg [mv 3 0,.o (.lenS 4 (sl 3)),.o (.bin 5 .gtr (sl 4) (ci 4096)),mv 2 5])
 (.ret))))
theorem q0zf {rin args Q} (ha : args.length <= 6) (h : fW 6 q0ya [.tmp 2] rin args Q) : Fun Tryz.prog 17 rin args Q :=
 Fun.of (H := ⟨[], []⟩) Tryz.func17 rfl rfl rfl (by kernel_rfl) ha (by decide) h

def q20o : CC :=
 (.seq (.reg [.o (.move 2 (ci 0)),.o (.move 3 (cv (.slice none 0 0))),.o (.move 4 (cv (.slice none 0 0)))])
 ((.seq (.reg [mv 10 0,.o (.call (some 11) (cf 34) [(sl 10)]),.o (.call (some 12) (cf 33) [(sl 11)]),mv 9 12,.o (.extract 13 (sl 9) 0),.o (.extract 14 (sl 9) 1),.o (.extract 15 (sl 9) 2),.o (.extract 16 (sl 9) 3),mv 5 13,mv 6 14,mv 7 15,mv 8 16])
 ((.seq (.reg [mv 17 5,mv 18 6,mv 19 7,mv 2 17,mv 3 18,mv 4 19])
 (.ret))))))
theorem q20t {rin args Q} (ha : args.length <= 20) (h : fW 20 q20o [.tmp 2, .tmp 3, .tmp 4] rin args Q) : Fun Tryz.prog 18 rin args Q :=
 Fun.of (H := ⟨[], []⟩) Tryz.func18 rfl rfl rfl (by kernel_rfl) ha (by decide) h

def q1uh : CC :=
 (.seq (.reg [.o (.move 4 (cb false))])
 ((.seq (.seq (.reg [mv 6 0,.o (.lenS 7 (sl 6)),mv 8 1,.o (.lenS 9 (sl 8)),.o (.bin 10 .neq (sl 7) (sl 9))])
 ((.cond (sl 10) (.seq (.reg [.o (.move 4 (cb false))])
 (.ret))
 .skip)))
 ((.seq (.seq (.reg [.o (.move 5 (ci 0))])
 ((.block 0 (.loop (.seq (.seq (.reg [mv 11 5,mv 12 0,.o (.lenS 13 (sl 12)),.o (.bin 14 .lss (sl 11) (sl 13))])
 ((.cond (sl 14) .skip
 (.exit 0))))
 ((.seq (.block 1 (.seq (.draw [] [kr (mv 17 0),kr (mv 18 5),kr (.o (.idx 19 2 (sl 17) (sl 18))),kr (ln 20 2 19),kr (mv 21 1),kr (mv 22 5),kr (.o (.idx 23 2 (sl 21) (sl 22))),kr (ln 24 2 23),kr (.o (.beqS 25 true 2 (sl 20) (sl 24)))])
 ((.cond (sl 25) (.seq (.reg [.o (.move 4 (cb false))])
 (.ret))
 .skip))))
 ((.reg [mv 15 5,.o (.bin 16 .add (sl 15) (ci 1)),mv 5 16])))))))))
 ((.seq (.reg [.o (.move 4 (cb true))])
 (.ret))))))))
theorem q1uw {rin args Q} (ha : args.length <= 26) (h : fW 26 q1uh [.tmp 4] rin args Q) : Fun Tryz.prog 19 rin args Q :=
 Fun.of (H := ⟨[], []⟩) Tryz.func19 rfl rfl rfl (by kernel_rfl) ha (by decide) h

def q1w3 : CC :=
 (.seq (.reg [.o (.move 2 (cv (.slice none 0 0))),.o (.move 3 (cv (.slice none 0 0))),.o (.move 4 (ci 0))])
 ((.seq (.seq (.reg [mv 12 0,.o (.call (some 13) (cf 35) [(sl 12)]),mv 5 13])
 ((.seq (.reg [mv 14 5,.o (.bin 15 .neq (sl 14) (ci 0))])
 ((.cond (sl 15) (.seq (.reg [mv 16 5,.o (.move 2 (cv (.slice none 0 0))),.o (.move 3 (cv (.slice none 0 0))),mv 4 16])
 (.ret))
 .skip)))))
 ((.seq (.reg [mv 17 0,.o (.call (some 18) (cf 36) [(sl 17)]),mv 6 18])
 ((.seq (.reg [mv 19 0,.o (.call (some 20) (cf 37) [(sl 19)]),mv 7 20])
 ((.seq (.reg [.o (.move 8 (cv (.slice none 0 0))),.o (.move 9 (cv (.slice none 0 0)))])
 ((.seq (.seq (.reg [.o (.move 21 (ci 0))])
 ((.block 0 (.loop (.seq (.reg [.o (.bin 22 .lss (sl 21) (ci 52))])
 ((.seq (.cond (sl 22) .skip
 (.exit 0))
 ((.seq (.block 1 (.seq (.reg [mv 23 21,mv 10 23])
 ((.seq (.seq (.reg [mv 24 7,mv 25 10,.o (.call (some 26) (cf 38) [(sl 24), (sl 25)])])
 ((.cond (sl 26) (.exit 1)
 .skip)))
 ((.seq (.reg [mv 27 6,mv 28 10,.o (.call (some 29) (cf 39) [(sl 27), (sl 28)]),mv 11 29])
 ((.seq (.reg [mv 30 11,.o (.idx 31 1 (sl 30) (ci 0)),l1 32 31,mv 33 10,.o (.bin 34 .eql (sl 32) (sl 33))])
 ((.cond (sl 34) (.seq (.reg [mv 35 8,mv 36 10,.o (.bslice 37 1 1 [(0, (sl 36))]),.o (.app 38 1 8 (sl 35) (sl 37)),mv 8 38])
 ((.reg [mv 39 9,mv 40 11,.o (.lenS 41 (sl 40)),.o (.bslice 42 1 1 [(0, (sl 41))]),.o (.app 43 1 8 (sl 39) (sl 42)),mv 9 43])))
 .skip))))))))))
 ((.reg [.o (.bin 44 .add (sl 21) (ci 1)),mv 21 44])))))))))))
 ((.seq (.reg [mv 45 8,mv 46 9,mv 2 45,mv 3 46,.o (.move 4 (ci 0))])
 (.ret))))))))))))))
theorem q1xp {rin args Q} (ha : args.length <= 47) (h : fW 47 q1w3 [.tmp 2, .tmp 3, .tmp 4] rin args Q) : Fun Tryz.prog 20 rin args Q :=
 Fun.of (H := ⟨[], []⟩) Tryz.func20 rfl rfl rfl (by kernel_rfl) ha (by decide) h

def q1s4 : CC :=
 (.seq (.reg [.o (.move 6 (cv (.slice none 0 0))),.o (.move 7 (ci 0))])
 ((.seq (.seq (.reg [mv 8 0,mv 9 1,mv 10 2,.o (.call (some 11) (cf 27) [(sl 8), (sl 9), (sl 10), (cv (.slice none 0 0))]),.o (.un 12 .not (sl 11))])
 ((.cond (sl 12) (.seq (.reg [.o (.move 6 (cv (.slice none 0 0))),.o (.move 7 (ci 1))])
 (.ret))
 .skip)))
 ((.seq (.seq (.reg [mv 13 2,.o (.lenS 14 (sl 13)),.o (.bin 15 .neq (sl 14) (ci 5))])
 ((.cond (sl 15) (.seq (.reg [.o (.move 6 (cv (.slice none 0 0))),.o (.move 7 (ci 2))])
 (.ret))
 .skip)))
 ((.seq (.reg [mv 16 0,mv 17 1,mv 18 2,.o (.call (some 19) (cf 29) [(sl 16), (sl 17), (sl 18)]),mv 6 19,.o (.move 7 (ci 0))])
 (.ret))))))))
theorem q1sp {rin args Q} (ha : args.length <= 20) (h : fW 20 q1s4 [.tmp 6, .tmp 7] rin args Q) : Fun Tryz.prog 21 rin args Q :=
 Fun.of (H := ⟨[], []⟩) Tryz.func21 rfl rfl rfl (by kernel_rfl) ha (by decide) h

def q20m : CC :=
 (.seq (.reg [.o (.alloc 4 [.v (.int .i64 0), .v (.int .i64 0)]),.o (.move 5 (ci 0))])
 ((.seq (.seq (.reg [mv 6 0,.o (.call (some 7) (cf 40) [(sl 6), (ci (-1000000000)), (ci 1000000000)]),.o (.un 8 .not (sl 7)),mv 9 8,.g 9 false (some 10) (.move 10 (sl 1)),.g 9 false (some 11) (.call (some 11) (cf 40) [(sl 10), (ci 1), (ci 1000000000)]),.g 9 false (some 12) (.un 12 .not (sl 11)),.o (.pick 13 (sl 9) (cb true) (sl 12))])
 ((.cond (sl 13) (.seq (.reg [.o (.build 14 [.v (.int .i64 0), .v (.int .i64 0)] [(0, 1), (1, 1)] []),.o (.store 2 (sl 4) (sl 14)),.o (.move 5 (ci 2))])
 (.ret))
 .skip)))
 ((.seq (.reg [mv 15 0,mv 16 1,.o (.call (some 17) (cf 31) [(sl 15), (sl 16)]),.o (.extract 18 (sl 17) 0),.o (.extract 19 (sl 17) 1),.o (.store 2 (sl 4) (sl 18)),mv 5 19])
 (.ret))))))
theorem q20r {rin args Q} (ha : args.length <= 20) (h : fW 20 q20m [.cell 4 45, .tmp 5] rin args Q) : Fun Tryz.prog 22 rin args Q :=
 Fun.of (H := ⟨[], []⟩) Tryz.func22 rfl rfl rfl (by kernel_rfl) ha (by decide) h

def q18g : CC :=
 (.seq (.reg [.o (.move 2 (ci 0))])
 ((.seq (.reg [.o (.move 3 (ci 0))])
 ((.seq (.seq (.reg [.o (.move 4 (ci 0))])
 ((.block 0 (.loop (.seq (.seq (.reg [mv 5 4,mv 6 0,.o (.lenS 7 (sl 6)),.o (.bin 8 .lss (sl 5) (sl 7))])
 ((.cond (sl 8) .skip
 (.exit 0))))
 ((.seq (.block 1 (.reg [mv 11 3,mv 12 0,mv 13 4,ix 14 12 13,l1 15 14,.o (.bin 16 .add (sl 11) (sl 15)),mv 3 16]))
 ((.reg [mv 9 4,.o (.bin 10 .add (sl 9) (ci 1)),mv 4 10])))))))))
 ((.seq (.reg [mv 17 3,mv 2 17])
 (.ret))))))))
theorem q18q {rin args Q} (ha : args.length <= 18) (h : fW 18 q18g [.tmp 2] rin args Q) : Fun Tryz.prog 23 rin args Q :=
 Fun.of (H := ⟨[], []⟩) Tryz.func23 rfl rfl rfl (by kernel_rfl) ha (by decide) h

def q1bx : CC :=
 (.seq (.reg [.o (.move 8 (cb false))])
 ((.seq (.seq (.reg [mv 11 0,.o (.call (some 12) (cf 41) [(sl 11)]),.o (.un 13 .not (sl 12)),mv 14 13,.g 14 false (some 15) (.move 15 (sl 1)),.g 14 false (some 16) (.lenS 16 (sl 15)),.g 14 false (some 17) (.call (some 17) (cf 42) [(sl 16), (ci 2), (ci 4)]),.g 14 false (some 18) (.un 18 .not (sl 17)),.o (.pick 19 (sl 14) (cb true) (sl 18)),mv 20 19,.g 20 false (some 21) (.move 21 (sl 2)),.g 20 false (some 22) (.lenS 22 (sl 21)),.g 20 false (some 23) (.call (some 23) (cf 42) [(sl 22), (ci 3), (ci 5)]),.g 20 false (some 24) (.un 24 .not (sl 23)),.o (.pick 25 (sl 20) (cb true) (sl 24))])
 ((.cond (sl 25) (.seq (.reg [.o (.move 8 (cb false))])
 (.ret))
 .skip)))
 ((.seq (.reg [mv 26 2,.o (.call (some 27) (cf 43) [(sl 26)]),mv 28 3,.o (.app 29 1 8 (sl 27) (sl 28)),mv 9 29])
 ((.seq (.seq (.reg [.o (.move 10 (ci 0))])
 ((.block 0 (.loop (.seq (.seq (.reg [mv 30 10,mv 31 1,.o (.lenS 32 (sl 31)),.o (.bin 33 .lss (sl 30) (sl 32))])
 ((.cond (sl 33) .skip
 (.exit 0))))
 ((.seq (.block 1 (.seq (.seq (.draw [41] [kr (mv 36 1),kr (mv 37 10),kr (ix 38 36 37),kr (l1 39 38),kr (.o (.lenS 40 (sl 39))),(.c false [], .o (.call (some 41) (cf 44) [])),(.r false [41], mv 42 0),kr (.o (.idx 43 6 (sl 41) (sl 42))),kr (fl 44 0 43),kr (l1 45 44),kr (.o (.bin 46 .neq (sl 40) (sl 45)))])
 ((.cond (sl 46) (.seq (.reg [.o (.move 8 (cb false))])
 (.ret))
 .skip)))
 ((.reg [mv 47 9,mv 48 1,mv 49 10,ix 50 48 49,l1 51 50,.o (.app 52 1 8 (sl 47) (sl 51)),mv 9 52]))))
 ((.reg [mv 34 10,.o (.bin 35 .add (sl 34) (ci 1)),mv 10 35])))))))))
 ((.seq (.reg [mv 53 9,.o (.call (some 54) (cf 45) [(sl 53)]),mv 8 54])
 (.ret))))))))))
theorem q1gu {rin args Q} (ha : args.length <= 55) (h : fW 55 q1bx [.tmp 8] rin args Q) : Fun Tryz.prog 25 rin args Q :=
 Fun.of (H := ⟨[], []⟩) Tryz.func25 rfl rfl rfl (by kernel_rfl) ha (by decide) h

def q1bw : CC :=
 (.seq (.reg [.o (.move 8 (cv (.slice none 0 0))),.o (.move 9 (ci 0))])
 ((.seq (.seq (.reg [mv 16 0,mv 17 1,mv 18 2,mv 19 3,.o (.call (some 20) (cf 25) [(sl 16), (sl 17), (sl 18), (sl 19)]),.o (.un 21 .not (sl 20))])
 ((.cond (sl 21) (.seq (.reg [.o (.move 8 (cv (.slice none 0 0))),.o (.move 9 (ci 1))])
 (.ret))
 .skip)))
 ((.seq (.reg [mv 23 0,mv 24 1,mv 25 2,mv 26 3,.o (.call (some 27) (cf 46) [(sl 23), (sl 24), (sl 25), (sl 26)]),mv 22 27,.o (.extract 28 (sl 22) 0),.o (.extract 29 (sl 22) 1),mv 10 28,mv 11 29])
 ((.seq (.seq (.reg [mv 30 11,.o (.bin 31 .eql (sl 30) (ci 0))])
 ((.cond (sl 31) (.seq (.reg [.o (.move 8 (cv (.slice none 0 0))),.o (.move 9 (ci 2))])
 (.ret))
 .skip)))
 ((.seq (.reg [.o (.bslice 32 2 0 []),mv 12 32])
 ((.seq (.seq (.reg [.o (.move 13 (ci 0))])
 ((.block 0 (.loop (.seq (.seq (.reg [mv 33 13,mv 34 10,.o (.lenS 35 (sl 34)),.o (.bin 36 .lss (sl 33) (sl 35))])
 ((.cond (sl 36) .skip
 (.exit 0))))
 ((.seq (.block 1 (.seq (.reg [mv 40 10,mv 41 13,ix 42 40 41,l1 43 42,mv 44 11,.o (.bin 45 .mul (ci 24) (sl 44)),.o (.call (some 46) (cf 47) [(sl 43), (sl 45)]),mv 39 46,.o (.extract 47 (sl 39) 0),.o (.extract 48 (sl 39) 1),.o (.alloc 14 [.v (.int .i64 0), .v (.int .i64 0)]),.o (.store 2 (sl 14) (sl 47)),mv 15 48])
 ((.reg [mv 49 12,ln 50 2 14,.o (.bslice 51 2 1 [(0, (sl 50))]),.o (.app 52 2 16 (sl 49) (sl 51)),mv 12 52]))))
 ((.reg [mv 37 13,.o (.bin 38 .add (sl 37) (ci 1)),mv 13 38])))))))))
 ((.seq (.reg [mv 53 12,mv 8 53,.o (.move 9 (ci 0))])
 (.ret))))))))))))))
theorem q1gt {rin args Q} (ha : args.length <= 54) (h : fW 54 q1bw [.tmp 8, .tmp 9] rin args Q) : Fun Tryz.prog 26 rin args Q :=
 Fun.of (H := ⟨[], []⟩) Tryz.func26 rfl rfl rfl (by kernel_rfl) ha (by decide) h

def q1ar : CC :=
 (.seq (.reg [.o (.move 8 (cb false))])
 ((.seq (.seq (.reg [mv 12 0,.o (.call (some 13) (cf 40) [(sl 12), (ci 0), (ci 2)]),.o (.un 14 .not (sl 13)),mv 15 14,.g 15 false (some 16) (.move 16 (sl 1)),.g 15 false (some 17) (.lenS 17 (sl 16)),.g 15 false (some 18) (.call (some 18) (cf 40) [(sl 17), (ci 2), (ci 4)]),.g 15 false (some 19) (.un 19 .not (sl 18)),.o (.pick 20 (sl 15) (cb true) (sl 19)),mv 21 20,.g 21 false (some 22) (.move 22 (sl 2)),.g 21 false (some 23) (.lenS 23 (sl 22)),.g 21 false (some 24) (.call (some 24) (cf 40) [(sl 23), (ci 3), (ci 5)]),.g 21 false (some 25) (.un 25 .not (sl 24)),.o (.pick 26 (sl 21) (cb true) (sl 25))])
 ((.cond (sl 26) (.seq (.reg [.o (.move 8 (cb false))])
 (.ret))
 .skip)))
 ((.seq (.reg [mv 27 2,mv 28 3,.o (.bslice 29 1 2 [(0, (sl 27)), (1, (sl 28))]),.o (.call (some 30) (cf 37) [(sl 29)]),mv 9 30])
 ((.seq (.seq (.reg [mv 31 1,.o (.lenS 32 (sl 31)),.o (.move 33 (ci 0))])
 ((.block 0 (.loop (.seq (.reg [.o (.bin 34 .lss (sl 33) (sl 32))])
 ((.seq (.cond (sl 34) .skip
 (.exit 0))
 ((.seq (.block 1 (.seq (.reg [ix 35 31 33,l1 36 35,mv 11 36])
 ((.seq (.seq (.reg [mv 37 11,.o (.lenS 38 (sl 37)),mv 39 0,.o (.call (some 40) (cf 48) [(sl 39)]),.o (.fldV 41 0 (sl 40)),.o (.bin 42 .neq (sl 38) (sl 41))])
 ((.cond (sl 42) (.seq (.reg [.o (.move 8 (cb false))])
 (.ret))
 .skip)))
 ((.reg [mv 43 9,mv 44 11,.o (.app 45 1 8 (sl 43) (sl 44)),mv 9 45]))))))
 ((.reg [.o (.bin 46 .add (sl 33) (ci 1)),mv 33 46])))))))))))
 ((.seq (.reg [mv 47 9,.o (.call (some 48) (cf 49) [(sl 47)]),mv 8 48])
 (.ret))))))))))
theorem q1fq {rin args Q} (ha : args.length <= 49) (h : fW 49 q1ar [.tmp 8] rin args Q) : Fun Tryz.prog 27 rin args Q :=
 Fun.of (H := ⟨[], []⟩) Tryz.func27 rfl rfl rfl (by kernel_rfl) ha (by decide) h

def q1wc : CC :=
 (.seq (.reg [.o (.move 2 (cv (.slice none 0 0)))])
 ((.seq (.seq (.reg [mv 3 0,.o (.isNil 4 false (sl 3))])
 ((.cond (sl 4) (.seq (.reg [.o (.move 2 (cv (.slice none 0 0)))])
 (.ret))
 .skip)))
 ((.seq (.reg [.o (.bslice 5 1 0 []),mv 6 0,.o (.app 7 1 24 (sl 5) (sl 6)),mv 2 7])
 (.ret))))))
theorem q1xy {rin args Q} (ha : args.length <= 8) (h : fW 8 q1wc [.tmp 2] rin args Q) : Fun Tryz.prog 28 rin args Q :=
 Fun.of (H := ⟨[], []⟩) Tryz.func28 rfl rfl rfl (by kernel_rfl) ha (by decide) h

def q1bg : CC :=
 (.seq (.reg [.o (.move 6 (cv (.slice none 0 0)))])
 ((.seq (.reg [mv 13 0,.o (.call (some 14) (cf 48) [(sl 13)]),.o (.alloc 7 [.v (.int .i64 0), .v (.int .i64 0), .v (.int .i64 0), .v (.int .i64 0), .v (.bool false), .v (.int .i64 0)]),.o (.store 6 (sl 7) (sl 14))])
 ((.seq (.reg [mv 15 1,.o (.lenS 16 (sl 15)),.o (.make 17 [.v (.int .i64 0)] 8 (sl 16) (sl 16)),mv 8 17])
 ((.seq (.draw [20, 23] [kr (mv 18 1),kr (.o (.lenS 19 (sl 18))),(kN, .o (.make 20 [.v (.int .i64 0)] 8 (sl 19) (sl 19))),(.r false [20], mv 21 1),(.r false [20], .o (.lenS 22 (sl 21))),(kN, .o (.make 23 [.v (.int .i64 0)] 8 (sl 22) (sl 22))),(.r false [23], mv 9 20),kr (mv 10 23)])
 ((.seq (.seq (.reg [mv 24 1,.o (.lenS 25 (sl 24)),.o (.move 26 (ci 0))])
 ((.block 0 (.loop (.seq (.reg [.o (.bin 27 .lss (sl 26) (sl 25))])
 ((.seq (.cond (sl 27) .skip
 (.exit 0))
 ((.seq (.block 1 (.seq (.reg [mv 28 26,ix 29 24 26,l1 30 29,mv 11 28,mv 12 30])
 ((.seq (.reg [mv 31 8,mv 32 11,mv 33 11,ix 34 31 32,.o (.store 1 (sl 34) (sl 33))])
 ((.seq (.reg [mv 35 9,mv 36 11,mv 37 10,mv 38 11,ln 39 6 7,mv 40 12,mv 41 2,.o (.call (some 42) (cf 50) [(sl 39), (sl 40), (sl 41)]),ix 43 35 36,.o (.store 1 (sl 43) (sl 42)),ix 44 37 38,.o (.store 1 (sl 44) (ci (-1)))])
 ((.seq (.reg [fl 45 5 7,l1 46 45,.o (.bin 47 .neq (sl 46) (ci 0))])
 ((.cond (sl 47) (.reg [mv 48 10,mv 49 11,ln 50 6 7,mv 51 12,mv 52 2,.o (.call (some 53) (cf 51) [(sl 50), (sl 51), (sl 52)]),ix 54 48 49,.o (.store 1 (sl 54) (sl 53))])
 .skip))))))))))
 ((.reg [.o (.bin 55 .add (sl 26) (ci 1)),mv 26 55])))))))))))
 ((.seq (.reg [mv 56 8,.o (.build 57 [.v (.int .i64 0), .v (.slice none 0 0)] [(0, 1), (1, 1)] [(0, (ci 24)), (1, (sl 56))]),.o (.bslice 58 2 1 [(0, (sl 57))]),mv 59 9,mv 60 10,.o (.call (some 61) (cf 52) [(sl 58), (sl 59), (sl 60), (ci 0)]),mv 6 61])
 (.ret))))))))))))
theorem q1gd {rin args Q} (ha : args.length <= 62) (h : fW 62 q1bg [.tmp 6] rin args Q) : Fun Tryz.prog 29 rin args Q :=
 Fun.of (H := ⟨[], []⟩) Tryz.func29 rfl rfl rfl (by kernel_rfl) ha (by decide) h

def q04f : CC :=
 (.seq (.reg [.o (.move 2 (cv (.slice none 0 0)))])
 ((.seq (.seq (.reg [mv 3 0,.o (.isNil 4 false (sl 3))])
 ((.cond (sl 4) (.seq (.reg [.o (.move 2 (cv (.slice none 0 0)))])
 (.ret))
 .skip)))
 ((.seq (.reg [.o (.bslice 5 1 0 []),mv 6 0,.o (.app 7 1 8 (sl 5) (sl 6)),mv 2 7])
 (.ret))))))
theorem q0bd {rin args Q} (ha : args.length <= 8) (h : fW 8 q04f [.tmp 2] rin args Q) : Fun Tryz.prog 30 rin args Q :=
 Fun.of (H := ⟨[], []⟩) Tryz.func30 rfl rfl rfl (by kernel_rfl) ha (by decide) h

def q1bh : CC :=
 (.seq (.reg [.o (.alloc 4 [.v (.int .i64 0), .v (.int .i64 0)]),.o (.move 5 (ci 0))])
 ((.seq (.reg [mv 8 0,.o (.call (some 9) (cf 54) [(sl 8)]),mv 10 1,.o (.call (some 11) (cf 53) [(sl 9), (sl 10)]),mv 6 11])
 ((.seq (.draw [7] [kr (mv 12 0),kr (mv 13 6),kr (.o (.bin 14 .quo (sl 12) (sl 13))),kr (mv 15 1),kr (mv 16 6),kr (.o (.bin 17 .quo (sl 15) (sl 16))),kr (.o (.build 18 [.v (.int .i64 0), .v (.int .i64 0)] [(0, 1), (1, 1)] [(0, (sl 14)), (1, (sl 17))])),(kN, .o (.alloc 7 [.v (.int .i64 0), .v (.int .i64 0)])),(kH, .o (.store 2 (sl 7) (sl 18)))])
 ((.seq (.seq (.reg [ln 19 2 7,.o (.call (some 20) (cf 55) [(sl 19)]),.o (.un 21 .not (sl 20))])
 ((.cond (sl 21) (.seq (.reg [.o (.build 22 [.v (.int .i64 0), .v (.int .i64 0)] [(0, 1), (1, 1)] []),.o (.store 2 (sl 4) (sl 22)),.o (.move 5 (ci 3))])
 (.ret))
 .skip)))
 ((.seq (.reg [ln 23 2 7,.o (.store 2 (sl 4) (sl 23)),.o (.move 5 (ci 0))])
 (.ret))))))))))
theorem q1ge {rin args Q} (ha : args.length <= 24) (h : fW 24 q1bh [.cell 4 45, .tmp 5] rin args Q) : Fun Tryz.prog 31 rin args Q :=
 Fun.of (H := ⟨[], []⟩) Tryz.func31 rfl rfl rfl (by kernel_rfl) ha (by decide) h

def q0yh : CC :=
 (.seq (.reg [.o (.move 2 (cv (.pointer none)))])
 ((.seq (.reg [mv 5 0,.o (.build 6 [.v (.slice none 0 0), .v (.int .i64 0), .v (.int .i64 0)] [(0, 1), (1, 1), (2, 1)] [(0, (sl 5)), (2, (ci 45007))]),.o (.box 7 (sl 6)),mv 3 7])
 ((.seq (.seq (.reg [.o (.move 4 (ci 0))])
 ((.block 0 (.loop (.seq (.seq (.reg [mv 8 4,mv 9 0,.o (.lenS 10 (sl 9)),.o (.bin 11 .lss (sl 8) (sl 10)),mv 12 11,.g 12 true (some 13) (.move 13 (sl 4)),.g 12 true (some 14) (.bin 14 .lss (sl 13) (ci 64)),.o (.pick 15 (sl 12) (sl 14) (cb false))])
 ((.cond (sl 15) .skip
 (.exit 0))))
 ((.seq (.block 1 (.draw [] [kr (mv 18 3),kr (mv 19 3),kr (.o (.nilc 20 (sl 19))),kr (fl 21 2 20),kr (l1 22 21),kr (.o (.bin 23 .mul (sl 22) (ci 61))),kr (mv 24 0),kr (mv 25 4),kr (ix 26 24 25),kr (l1 27 26),kr (.o (.conv 28 .i64 (sl 27))),kr (.o (.bin 29 .add (sl 23) (sl 28))),kr (.o (.bin 30 .rem (sl 29) (ci 2147483647))),kr (.o (.nilc 31 (sl 18))),kr (fl 32 2 31),(kH, .o (.store 1 (sl 32) (sl 30)))]))
 ((.reg [mv 16 4,.o (.bin 17 .add (sl 16) (ci 1)),mv 4 17])))))))))
 ((.seq (.reg [mv 33 3,mv 2 33])
 (.ret))))))))
theorem q0zm {rin args Q} (ha : args.length <= 34) (h : fW 34 q0yh [.tmp 2] rin args Q) : Fun Tryz.prog 34 rin args Q :=
 Fun.of (H := ⟨[], []⟩) Tryz.func34 rfl rfl rfl (by kernel_rfl) ha (by decide) h

def q1w5 : CC :=
 (.seq (.reg [.o (.move 2 (ci 0))])
 ((.seq (.block 0 (.seq (.reg [mv 4 0,.o (.lenS 5 (sl 4)),.o (.bin 6 .gtr (sl 5) (ci 6)),mv 3 6])
 ((.cond (sl 3) (.seq (.reg [.o (.move 2 (ci 3))])
 (.ret))
 (.seq (.reg [mv 8 0,.o (.call (some 9) (cf 61) [(sl 8), (cf 62)]),mv 7 9])
 ((.cond (sl 7) (.seq (.reg [.o (.move 2 (ci 1))])
 (.ret))
 .skip)))))))
 ((.seq (.reg [.o (.move 2 (ci 0))])
 (.ret))))))
theorem q1xr {rin args Q} (ha : args.length <= 10) (h : fW 10 q1w5 [.tmp 2] rin args Q) : Fun Tryz.prog 35 rin args Q :=
 Fun.of (H := ⟨[], []⟩) Tryz.func35 rfl rfl rfl (by kernel_rfl) ha (by decide) h

def q1w8 : CC :=
 (.seq (.reg [.o (.move 2 (cv (.slice none 0 0)))])
 ((.seq (.reg [.o (.move 3 (cv (.slice none 0 0)))])
 ((.seq (.seq (.reg [.o (.call (some 9) (cf 63) []),.o (.lenS 10 (sl 9)),.o (.move 11 (ci 0))])
 ((.block 0 (.loop (.seq (.reg [.o (.bin 12 .lss (sl 11) (sl 10))])
 ((.seq (.cond (sl 12) .skip
 (.exit 0))
 ((.seq (.block 1 (.seq (.reg [.o (.idx 13 4 (sl 9) (sl 11)),ln 14 4 13,.o (.alloc 5 [.v (.int .i64 0), .v (.int .i64 0), .v (.int .i64 0), .v (.int .i64 0)]),.o (.store 4 (sl 5) (sl 14))])
 ((.seq (.reg [.o (.move 6 (cb true))])
 ((.seq (.seq (.reg [mv 15 0,.o (.lenS 16 (sl 15)),.o (.move 17 (ci 0))])
 ((.block 2 (.loop (.seq (.reg [.o (.bin 18 .lss (sl 17) (sl 16))])
 ((.seq (.cond (sl 18) .skip
 (.exit 2))
 ((.seq (.block 3 (.seq (.reg [ix 19 15 17,l1 20 19,mv 8 20])
 ((.reg [mv 21 6,mv 22 21,.g 22 true (some 23) (.move 23 (sl 8)),.g 22 true (some 24) (.loadN 24 4 (sl 5)),.g 22 true (some 25) (.call (some 25) (cf 65) [(sl 23), (sl 24)]),.g 22 true (some 26) (.move 26 (sl 8)),.g 22 true (some 27) (.call (some 27) (cf 67) [(sl 26)]),.g 22 true (some 28) (.call (some 28) (cf 66) [(sl 27)]),.g 22 true (some 29) (.call (some 29) (cf 64) [(sl 25), (sl 28)]),.o (.pick 30 (sl 22) (sl 29) (cb false)),mv 6 30]))))
 ((.reg [.o (.bin 31 .add (sl 17) (ci 1)),mv 17 31])))))))))))
 ((.seq (.reg [mv 32 6])
 ((.cond (sl 32) (.reg [mv 33 3,ln 34 4 5,.o (.bslice 35 4 1 [(0, (sl 34))]),.o (.app 36 4 32 (sl 33) (sl 35)),mv 3 36])
 .skip))))))))))
 ((.reg [.o (.bin 37 .add (sl 11) (ci 1)),mv 11 37])))))))))))
 ((.seq (.reg [mv 38 3,mv 2 38])
 (.ret))))))))
theorem q1xu {rin args Q} (ha : args.length <= 39) (h : fW 39 q1w8 [.tmp 2] rin args Q) : Fun Tryz.prog 36 rin args Q :=
 Fun.of (H := ⟨[], []⟩) Tryz.func36 rfl rfl rfl (by kernel_rfl) ha (by decide) h

def q1bt : CC :=
 (.seq (.reg [.o (.move 2 (cv (.slice none 0 0)))])
 ((.seq (.reg [.o (.move 3 (ci 0))])
 ((.seq (.seq (.reg [mv 9 0,.o (.lenS 10 (sl 9)),.o (.move 11 (ci 0))])
 ((.block 0 (.loop (.seq (.reg [.o (.bin 12 .lss (sl 11) (sl 10))])
 ((.seq (.cond (sl 12) .skip
 (.exit 0))
 ((.seq (.block 1 (.seq (.reg [ix 13 9 11,l1 14 13,mv 5 14])
 ((.seq (.reg [mv 15 3,mv 16 5,.o (.lenS 17 (sl 16)),.o (.bin 18 .add (sl 15) (sl 17)),mv 3 18])
 ((.seq (.reg [mv 19 3,.o (.bin 20 .lss (sl 19) (ci 0))])
 ((.cond (sl 20) (.reg [.o (.bad (some 21)),.o (.bad none)])
 .skip))))))))
 ((.reg [.o (.bin 22 .add (sl 11) (ci 1)),mv 11 22])))))))))))
 ((.seq (.reg [mv 23 3,.o (.call (some 24) (cf 68) [(cv (.slice none 0 0)), (sl 23)]),mv 6 24])
 ((.seq (.seq (.reg [mv 25 0,.o (.lenS 26 (sl 25)),.o (.move 27 (ci 0))])
 ((.block 2 (.loop (.seq (.reg [.o (.bin 28 .lss (sl 27) (sl 26))])
 ((.seq (.cond (sl 28) .skip
 (.exit 2))
 ((.seq (.block 3 (.seq (.reg [ix 29 25 27,l1 30 29,mv 8 30])
 ((.reg [mv 31 6,mv 32 8,.o (.app 33 1 8 (sl 31) (sl 32)),mv 6 33]))))
 ((.reg [.o (.bin 34 .add (sl 27) (ci 1)),mv 27 34])))))))))))
 ((.seq (.reg [mv 35 6,mv 2 35])
 (.ret))))))))))))
theorem q1gq {rin args Q} (ha : args.length <= 36) (h : fW 36 q1bt [.tmp 2] rin args Q) : Fun Tryz.prog 37 rin args Q :=
 Fun.of (H := ⟨[], []⟩) Tryz.func37 rfl rfl rfl (by kernel_rfl) ha (by decide) h

def q1bu : CC :=
 (.seq (.reg [.o (.move 4 (cb false))])
 ((.seq (.reg [mv 5 0,mv 6 1,.o (.call (some 7) (cf 69) [(sl 5), (sl 6)]),.o (.bin 8 .geq (sl 7) (ci 0)),mv 4 8])
 (.ret))))
theorem q1gr {rin args Q} (ha : args.length <= 9) (h : fW 9 q1bu [.tmp 4] rin args Q) : Fun Tryz.prog 38 rin args Q :=
 Fun.of (H := ⟨[], []⟩) Tryz.func38 rfl rfl rfl (by kernel_rfl) ha (by decide) h

def q1w4 : CC :=
 (.seq (.reg [.o (.move 4 (cv (.slice none 0 0)))])
 ((.seq (.reg [.o (.move 5 (cv (.slice none 0 0)))])
 ((.seq (.seq (.reg [mv 8 0,.o (.lenS 9 (sl 8)),.o (.move 10 (ci 0))])
 ((.block 0 (.loop (.seq (.reg [.o (.bin 11 .lss (sl 10) (sl 9))])
 ((.seq (.cond (sl 11) .skip
 (.exit 0))
 ((.seq (.block 1 (.seq (.reg [.o (.idx 12 4 (sl 8) (sl 10)),ln 13 4 12,.o (.alloc 7 [.v (.int .i64 0), .v (.int .i64 0), .v (.int .i64 0), .v (.int .i64 0)]),.o (.store 4 (sl 7) (sl 13))])
 ((.reg [mv 14 5,mv 15 1,.o (.bin 16 .quo (sl 15) (ci 4)),.o (.bin 17 .mul (sl 16) (ci 4)),mv 18 1,.o (.bin 19 .rem (sl 18) (ci 4)),.o (.idxA 20 4 1 (sl 7) (sl 19)),l1 21 20,.o (.bin 22 .add (sl 17) (sl 21)),.o (.bslice 23 1 1 [(0, (sl 22))]),.o (.app 24 1 8 (sl 14) (sl 23)),mv 5 24]))))
 ((.reg [.o (.bin 25 .add (sl 10) (ci 1)),mv 10 25])))))))))))
 ((.seq (.reg [mv 26 5,.o (.call (some 27) (cf 70) [(sl 26)])])
 ((.seq (.reg [mv 28 5,.o (.call (some 29) (cf 71) [(sl 28)]),mv 4 29])
 (.ret))))))))))
theorem q1xq {rin args Q} (ha : args.length <= 30) (h : fW 30 q1w4 [.tmp 4] rin args Q) : Fun Tryz.prog 39 rin args Q :=
 Fun.of (H := ⟨[], []⟩) Tryz.func39 rfl rfl rfl (by kernel_rfl) ha (by decide) h

def q03v : CC :=
 (.seq (.reg [.o (.move 6 (cb false))])
 ((.seq (.reg [mv 7 0,mv 8 1,.o (.bin 9 .geq (sl 7) (sl 8)),mv 10 9,.g 10 true (some 11) (.move 11 (sl 0)),.g 10 true (some 12) (.move 12 (sl 2)),.g 10 true (some 13) (.bin 13 .leq (sl 11) (sl 12)),.o (.pick 14 (sl 10) (sl 13) (cb false)),mv 6 14])
 (.ret))))
theorem q0at {rin args Q} (ha : args.length <= 15) (h : fW 15 q03v [.tmp 6] rin args Q) : Fun Tryz.prog 40 rin args Q :=
 Fun.of (H := ⟨[], []⟩) Tryz.func40 rfl rfl rfl (by kernel_rfl) ha (by decide) h

def q1cq : CC :=
 (.seq (.reg [.o (.move 2 (cb false))])
 ((.seq (.reg [mv 3 0,.o (.call (some 4) (cf 42) [(sl 3), (ci 0), (ci 2)]),mv 2 4])
 (.ret))))
theorem q1hn {rin args Q} (ha : args.length <= 5) (h : fW 5 q1cq [.tmp 2] rin args Q) : Fun Tryz.prog 41 rin args Q :=
 Fun.of (H := ⟨[], []⟩) Tryz.func41 rfl rfl rfl (by kernel_rfl) ha (by decide) h

def q04m : CC :=
 (.seq (.reg [.o (.move 6 (cb false))])
 ((.seq (.reg [mv 7 0,mv 8 1,.o (.bin 9 .geq (sl 7) (sl 8)),mv 10 9,.g 10 true (some 11) (.move 11 (sl 0)),.g 10 true (some 12) (.move 12 (sl 2)),.g 10 true (some 13) (.bin 13 .leq (sl 11) (sl 12)),.o (.pick 14 (sl 10) (sl 13) (cb false)),mv 6 14])
 (.ret))))
theorem q0bk {rin args Q} (ha : args.length <= 15) (h : fW 15 q04m [.tmp 6] rin args Q) : Fun Tryz.prog 42 rin args Q :=
 Fun.of (H := ⟨[], []⟩) Tryz.func42 rfl rfl rfl (by kernel_rfl) ha (by decide) h

def q04n : CC :=
 (.seq (.reg [.o (.move 2 (cv (.slice none 0 0)))])
 ((.seq (.reg [.o (.bslice 3 1 0 []),mv 4 0,.o (.app 5 1 8 (sl 3) (sl 4)),mv 2 5])
 (.ret))))
theorem q0bl {rin args Q} (ha : args.length <= 6) (h : fW 6 q04n [.tmp 2] rin args Q) : Fun Tryz.prog 43 rin args Q :=
 Fun.of (H := ⟨[], []⟩) Tryz.func43 rfl rfl rfl (by kernel_rfl) ha (by decide) h

def q1cn : CC :=
 (.seq (.reg [.o (.move 0 (cv (.slice none 0 0)))])
 ((.seq (.reg [.o (.build 1 [.v (.int .i64 0), .v (.int .i64 0), .v (.int .i64 0), .v (.int .i64 0), .v (.bool false), .v (.int .i64 0)] [(0, 1), (1, 1), (2, 1), (3, 1), (4, 1), (5, 1)] [(0, (ci 2)), (1, (ci 0)), (2, (ci 2)), (3, (ci 5)), (4, (cb true))]),.o (.build 2 [.v (.int .i64 0), .v (.int .i64 0), .v (.int .i64 0), .v (.int .i64 0), .v (.bool false), .v (.int .i64 0)] [(0, 1), (1, 1), (2, 1), (3, 1), (4, 1), (5, 1)] [(0, (ci 4)), (1, (ci 2)), (2, (ci 2)), (3, (ci 5)), (4, (cb true))]),.o (.build 3 [.v (.int .i64 0), .v (.int .i64 0), .v (.int .i64 0), .v (.int .i64 0), .v (.bool false), .v (.int .i64 0)] [(0, 1), (1, 1), (2, 1), (3, 1), (4, 1), (5, 1)] [(0, (ci 4)), (1, (ci 2)), (2, (ci 2)), (3, (ci 5)), (4, (cb true)), (5, (ci 1))]),.o (.build 4 [.v (.int .i64 0), .v (.int .i64 0), .v (.int .i64 0), .v (.int .i64 0), .v (.bool false), .v (.int .i64 0)] [(0, 1), (1, 1), (2, 1), (3, 1), (4, 1), (5, 1)] [(0, (ci 7)), (1, (ci 5)), (2, (ci 5)), (4, (cb true))]),.o (.build 5 [.v (.int .i64 0), .v (.int .i64 0), .v (.int .i64 0), .v (.int .i64 0), .v (.bool false), .v (.int .i64 0)] [(0, 1), (1, 1), (2, 1), (3, 1), (4, 1), (5, 1)] [(0, (ci 7)), (1, (ci 5)), (2, (ci 5)), (4, (cb true)), (5, (ci 1))]),.o (.build 6 [.v (.int .i64 0), .v (.int .i64 0), .v (.int .i64 0), .v (.int .i64 0), .v (.bool false), .v (.int .i64 0)] [(0, 1), (1, 1), (2, 1), (3, 1), (4, 1), (5, 1)] [(0, (ci 7)), (1, (ci 5)), (2, (ci 5)), (5, (ci 2))]),.o (.build 7 [.v (.int .i64 0), .v (.int .i64 0), .v (.int .i64 0), .v (.int .i64 0), .v (.bool false), .v (.int .i64 0)] [(0, 1), (1, 1), (2, 1), (3, 1), (4, 1), (5, 1)] [(0, (ci 5)), (1, (ci 5)), (2, (ci 5)), (4, (cb true))]),.o (.build 8 [.v (.int .i64 0), .v (.int .i64 0), .v (.int .i64 0), .v (.int .i64 0), .v (.bool false), .v (.int .i64 0)] [(0, 1), (1, 1), (2, 1), (3, 1), (4, 1), (5, 1)] [(0, (ci 5)), (1, (ci 5)), (2, (ci 5)), (5, (ci 3))]),.o (.bslice 9 6 8 [(0, (sl 1)), (1, (sl 2)), (2, (sl 3)), (3, (sl 4)), (4, (sl 5)), (5, (sl 6)), (6, (sl 7)), (7, (sl 8))]),mv 0 9])
 (.ret))))
theorem q1hk {rin args Q} (ha : args.length <= 10) (h : fW 10 q1cn [.tmp 0] rin args Q) : Fun Tryz.prog 44 rin args Q :=
 Fun.of (H := ⟨[], []⟩) Tryz.func44 rfl rfl rfl (by kernel_rfl) ha (by decide) h

def q1bv : CC :=
 (.seq (.reg [.o (.move 2 (cb false))])
 ((.seq (.reg [.o (.make 5 [.v (.bool false)] 1 (ci 52) (ci 52)),mv 3 5])
 ((.seq (.seq (.reg [.o (.move 4 (ci 0))])
 ((.block 0 (.loop (.seq (.seq (.reg [mv 6 4,mv 7 0,.o (.lenS 8 (sl 7)),.o (.bin 9 .lss (sl 6) (sl 8))])
 ((.cond (sl 9) .skip
 (.exit 0))))
 ((.seq (.block 1 (.seq (.seq (.reg [mv 12 0,mv 13 4,ix 14 12 13,l1 15 14,.o (.call (some 16) (cf 72) [(sl 15)]),.o (.un 17 .not (sl 16)),mv 18 17,.g 18 false (some 19) (.move 19 (sl 3)),.g 18 false (some 20) (.move 20 (sl 0)),.g 18 false (some 21) (.move 21 (sl 4)),.g 18 false (some 22) (.idx 22 1 (sl 20) (sl 21)),.g 18 false (some 23) (.load1 23 (sl 22)),.g 18 false (some 24) (.idx 24 1 (sl 19) (sl 23)),.g 18 false (some 25) (.load1 25 (sl 24)),.o (.pick 26 (sl 18) (cb true) (sl 25))])
 ((.cond (sl 26) (.seq (.reg [.o (.move 2 (cb false))])
 (.ret))
 .skip)))
 ((.reg [mv 27 3,mv 28 0,mv 29 4,ix 30 28 29,l1 31 30,ix 32 27 31,.o (.store 1 (sl 32) (cb true))]))))
 ((.reg [mv 10 4,.o (.bin 11 .add (sl 10) (ci 1)),mv 4 11])))))))))
 ((.seq (.reg [.o (.move 2 (cb true))])
 (.ret))))))))
theorem q1gs {rin args Q} (ha : args.length <= 33) (h : fW 33 q1bv [.tmp 2] rin args Q) : Fun Tryz.prog 45 rin args Q :=
 Fun.of (H := ⟨[], []⟩) Tryz.func45 rfl rfl rfl (by kernel_rfl) ha (by decide) h

def q1cu : CC :=
 (.seq (.reg [.o (.move 8 (cv (.slice none 0 0))),.o (.move 9 (ci 0))])
 ((.seq (.reg [mv 13 1,mv 14 2,mv 15 3,.o (.call (some 16) (cf 73) [(sl 13), (sl 14), (sl 15)]),mv 10 16])
 ((.seq (.reg [mv 17 1,.o (.lenS 18 (sl 17)),.o (.make 19 [.v (.int .i64 0)] 8 (sl 18) (sl 18)),mv 11 19])
 ((.seq (.seq (.reg [.o (.move 12 (ci 0))])
 ((.block 0 (.loop (.seq (.seq (.reg [mv 20 12,mv 21 10,.o (.lenS 22 (sl 21)),.o (.bin 23 .lss (sl 20) (sl 22))])
 ((.cond (sl 23) .skip
 (.exit 0))))
 ((.seq (.block 1 (.reg [mv 26 11,mv 27 0,mv 28 1,mv 29 10,mv 30 12,ix 31 29 30,l1 32 31,.o (.call (some 33) (cf 75) [(sl 27), (sl 28), (sl 32)]),.o (.call (some 34) (cf 74) [(sl 26), (sl 33)]),mv 11 34]))
 ((.reg [mv 24 12,.o (.bin 25 .add (sl 24) (ci 1)),mv 12 25])))))))))
 ((.seq (.reg [mv 35 11,mv 36 10,.o (.lenS 37 (sl 36)),mv 8 35,mv 9 37])
 (.ret))))))))))
theorem q1hr {rin args Q} (ha : args.length <= 38) (h : fW 38 q1cu [.tmp 8, .tmp 9] rin args Q) : Fun Tryz.prog 46 rin args Q :=
 Fun.of (H := ⟨[], []⟩) Tryz.func46 rfl rfl rfl (by kernel_rfl) ha (by decide) h

def q1c3 : CC :=
 (.seq (.reg [.o (.alloc 4 [.v (.int .i64 0), .v (.int .i64 0)]),.o (.move 5 (ci 0))])
 ((.seq (.reg [mv 8 0,.o (.call (some 9) (cf 77) [(sl 8)]),mv 10 1,.o (.call (some 11) (cf 76) [(sl 9), (sl 10)]),mv 6 11])
 ((.seq (.draw [7] [kr (mv 12 0),kr (mv 13 6),kr (.o (.bin 14 .quo (sl 12) (sl 13))),kr (mv 15 1),kr (mv 16 6),kr (.o (.bin 17 .quo (sl 15) (sl 16))),kr (.o (.build 18 [.v (.int .i64 0), .v (.int .i64 0)] [(0, 1), (1, 1)] [(0, (sl 14)), (1, (sl 17))])),(kN, .o (.alloc 7 [.v (.int .i64 0), .v (.int .i64 0)])),(kH, .o (.store 2 (sl 7) (sl 18)))])
 ((.seq (.seq (.reg [ln 19 2 7,.o (.call (some 20) (cf 78) [(sl 19)]),.o (.un 21 .not (sl 20))])
 ((.cond (sl 21) (.seq (.reg [.o (.build 22 [.v (.int .i64 0), .v (.int .i64 0)] [(0, 1), (1, 1)] []),.o (.store 2 (sl 4) (sl 22)),.o (.move 5 (ci 3))])
 (.ret))
 .skip)))
 ((.seq (.reg [ln 23 2 7,.o (.store 2 (sl 4) (sl 23)),.o (.move 5 (ci 0))])
 (.ret))))))))))
theorem q1h0 {rin args Q} (ha : args.length <= 24) (h : fW 24 q1c3 [.cell 4 45, .tmp 5] rin args Q) : Fun Tryz.prog 47 rin args Q :=
 Fun.of (H := ⟨[], []⟩) Tryz.func47 rfl rfl rfl (by kernel_rfl) ha (by decide) h

def q1bk : CC :=
 (.seq (.reg [.o (.alloc 2 [.v (.int .i64 0), .v (.int .i64 0), .v (.int .i64 0), .v (.int .i64 0), .v (.bool false), .v (.int .i64 0)])])
 ((.seq (.seq (.reg [mv 3 0])
 ((.block 0 (.seq (.reg [.o (.bin 5 .eql (sl 3) (ci 0)),mv 4 5])
 ((.cond (sl 4) (.seq (.reg [.o (.build 6 [.v (.int .i64 0), .v (.int .i64 0), .v (.int .i64 0), .v (.int .i64 0), .v (.bool false), .v (.int .i64 0)] [(0, 1), (1, 1), (2, 1), (3, 1), (4, 1), (5, 1)] [(0, (ci 2)), (1, (ci 0)), (2, (ci 2)), (3, (ci 5)), (4, (cb true)), (5, (ci 0))]),.o (.store 6 (sl 2) (sl 6))])
 (.ret))
 (.seq (.reg [.o (.bin 8 .eql (sl 3) (ci 1)),mv 7 8])
 ((.cond (sl 7) (.seq (.reg [.o (.build 9 [.v (.int .i64 0), .v (.int .i64 0), .v (.int .i64 0), .v (.int .i64 0), .v (.bool false), .v (.int .i64 0)] [(0, 1), (1, 1), (2, 1), (3, 1), (4, 1), (5, 1)] [(0, (ci 4)), (1, (ci 2)), (2, (ci 2)), (3, (ci 5)), (4, (cb true)), (5, (ci 0))]),.o (.store 6 (sl 2) (sl 9))])
 (.ret))
 (.seq (.reg [.o (.bin 11 .eql (sl 3) (ci 2)),mv 10 11])
 ((.cond (sl 10) (.seq (.reg [.o (.build 12 [.v (.int .i64 0), .v (.int .i64 0), .v (.int .i64 0), .v (.int .i64 0), .v (.bool false), .v (.int .i64 0)] [(0, 1), (1, 1), (2, 1), (3, 1), (4, 1), (5, 1)] [(0, (ci 4)), (1, (ci 2)), (2, (ci 2)), (3, (ci 5)), (4, (cb true)), (5, (ci 1))]),.o (.store 6 (sl 2) (sl 12))])
 (.ret))
 (.seq (.reg [.o (.bin 14 .eql (sl 3) (ci 3)),mv 13 14])
 ((.cond (sl 13) (.seq (.reg [.o (.build 15 [.v (.int .i64 0), .v (.int .i64 0), .v (.int .i64 0), .v (.int .i64 0), .v (.bool false), .v (.int .i64 0)] [(0, 1), (1, 1), (2, 1), (3, 1), (4, 1), (5, 1)] [(0, (ci 7)), (1, (ci 5)), (2, (ci 5)), (3, (ci 0)), (4, (cb true)), (5, (ci 0))]),.o (.store 6 (sl 2) (sl 15))])
 (.ret))
 (.seq (.reg [.o (.bin 17 .eql (sl 3) (ci 4)),mv 16 17])
 ((.cond (sl 16) (.seq (.reg [.o (.build 18 [.v (.int .i64 0), .v (.int .i64 0), .v (.int .i64 0), .v (.int .i64 0), .v (.bool false), .v (.int .i64 0)] [(0, 1), (1, 1), (2, 1), (3, 1), (4, 1), (5, 1)] [(0, (ci 7)), (1, (ci 5)), (2, (ci 5)), (3, (ci 0)), (4, (cb true)), (5, (ci 1))]),.o (.store 6 (sl 2) (sl 18))])
 (.ret))
 (.seq (.reg [.o (.bin 20 .eql (sl 3) (ci 5)),mv 19 20])
 ((.cond (sl 19) (.seq (.reg [.o (.build 21 [.v (.int .i64 0), .v (.int .i64 0), .v (.int .i64 0), .v (.int .i64 0), .v (.bool false), .v (.int .i64 0)] [(0, 1), (1, 1), (2, 1), (3, 1), (4, 1), (5, 1)] [(0, (ci 7)), (1, (ci 5)), (2, (ci 5)), (3, (ci 0)), (4, (cb false)), (5, (ci 2))]),.o (.store 6 (sl 2) (sl 21))])
 (.ret))
 (.seq (.reg [.o (.bin 23 .eql (sl 3) (ci 6)),mv 22 23])
 ((.cond (sl 22) (.seq (.reg [.o (.build 24 [.v (.int .i64 0), .v (.int .i64 0), .v (.int .i64 0), .v (.int .i64 0), .v (.bool false), .v (.int .i64 0)] [(0, 1), (1, 1), (2, 1), (3, 1), (4, 1), (5, 1)] [(0, (ci 5)), (1, (ci 5)), (2, (ci 5)), (3, (ci 0)), (4, (cb true)), (5, (ci 0))]),.o (.store 6 (sl 2) (sl 24))])
 (.ret))
 .skip))))))))))))))))))))))))
 ((.seq (.reg [.o (.build 25 [.v (.int .i64 0), .v (.int .i64 0), .v (.int .i64 0), .v (.int .i64 0), .v (.bool false), .v (.int .i64 0)] [(0, 1), (1, 1), (2, 1), (3, 1), (4, 1), (5, 1)] [(0, (ci 5)), (1, (ci 5)), (2, (ci 5)), (3, (ci 0)), (4, (cb false)), (5, (ci 3))]),.o (.store 6 (sl 2) (sl 25))])
 (.ret))))))
theorem q1gh {rin args Q} (ha : args.length <= 26) (h : fW 26 q1bk [.cell 2 66] rin args Q) : Fun Tryz.prog 48 rin args Q :=
 Fun.of (H := ⟨[], []⟩) Tryz.func48 rfl rfl rfl (by kernel_rfl) ha (by decide) h

def q1ap : CC :=
 (.seq (.reg [.o (.move 2 (cb false))])
 ((.seq (.reg [.o (.move 3 (cv (.int .u64 0)))])
 ((.seq (.seq (.reg [mv 6 0,.o (.lenS 7 (sl 6)),.o (.move 8 (ci 0))])
 ((.block 0 (.loop (.seq (.reg [.o (.bin 9 .lss (sl 8) (sl 7))])
 ((.seq (.cond (sl 9) .skip
 (.exit 0))
 ((.seq (.block 1 (.seq (.reg [ix 10 6 8,l1 11 10,mv 5 11])
 ((.seq (.seq (.reg [mv 12 5,.o (.call (some 13) (cf 79) [(sl 12)]),.o (.un 14 .not (sl 13)),mv 15 14,.g 15 false (some 16) (.move 16 (sl 3)),.g 15 false (some 17) (.move 17 (sl 5)),.g 15 false (some 18) (.bin 18 .shr (sl 16) (sl 17)),.g 15 false (some 19) (.bin 19 .and (sl 18) (cv (.int .u64 1))),.g 15 false (some 20) (.bin 20 .eql (sl 19) (cv (.int .u64 1))),.o (.pick 21 (sl 15) (cb true) (sl 20))])
 ((.cond (sl 21) (.seq (.reg [.o (.move 2 (cb false))])
 (.ret))
 .skip)))
 ((.reg [mv 22 3,mv 23 5,.o (.bin 24 .shl (cv (.int .u64 1)) (sl 23)),.o (.bin 25 .or (sl 22) (sl 24)),mv 3 25]))))))
 ((.reg [.o (.bin 26 .add (sl 8) (ci 1)),mv 8 26])))))))))))
 ((.seq (.reg [.o (.move 2 (cb true))])
 (.ret))))))))
theorem q1fo {rin args Q} (ha : args.length <= 27) (h : fW 27 q1ap [.tmp 2] rin args Q) : Fun Tryz.prog 49 rin args Q :=
 Fun.of (H := ⟨[], []⟩) Tryz.func49 rfl rfl rfl (by kernel_rfl) ha (by decide) h

def q1b6 : CC :=
 (.seq (.reg [.o (.box 3 (sl 0)),.o (.move 6 (ci 0))])
 ((.seq (.seq (.reg [fl 9 1 3,l1 10 9,.o (.bin 11 .eql (sl 10) (ci 0)),mv 12 11,.g 12 true (some 13) (.fld 13 2 (sl 3)),.g 12 true (some 14) (.load1 14 (sl 13)),.g 12 true (some 15) (.fld 15 0 (sl 3)),.g 12 true (some 16) (.load1 16 (sl 15)),.g 12 true (some 17) (.mm 17 false (sl 16) (ci 5)),.g 12 true (some 18) (.bin 18 .eql (sl 14) (sl 17)),.o (.pick 19 (sl 12) (sl 18) (cb false)),mv 20 19,.g 20 false (some 21) (.fld 21 3 (sl 3)),.g 20 false (some 22) (.load1 22 (sl 21)),.g 20 false (some 23) (.bin 23 .eql (sl 22) (ci 0)),.o (.pick 24 (sl 20) (cb true) (sl 23))])
 ((.cond (sl 24) (.seq (.reg [mv 25 1,mv 26 2,.o (.bslice 27 1 2 [(0, (sl 25)), (1, (sl 26))]),.o (.call (some 28) (cf 37) [(sl 27)]),.o (.call (some 29) (cf 80) [(sl 28), (cb true)]),mv 6 29])
 (.ret))
 .skip)))
 ((.seq (.reg [.o (.alloc 7 [.v (.int .i64 0)]),.o (.store 1 (sl 7) (ci (-1)))])
 ((.seq (.seq (.reg [ln 30 6 3,mv 31 1,mv 32 2,.o (.call (some 33) (cf 81) [(sl 30), (sl 31), (sl 32)])])
 ((.block 0 (.rng (sl 33) [34] (.reg [mv 8 34])
 (.block 1 (.draw [] [kr (l1 35 7),kr (mv 36 8),kr (.o (.call (some 37) (cf 80) [(sl 36), (cb true)])),kr (.o (.mm 38 true (sl 35) (sl 37))),(kH, .o (.store 1 (sl 7) (sl 38)))]))))))
 ((.seq (.reg [l1 39 7,mv 6 39])
 (.ret))))))))))
theorem q1g3 {rin args Q} (ha : args.length <= 40) (h : fW 40 q1b6 [.tmp 6] rin args Q) : Fun Tryz.prog 50 rin args Q :=
 Fun.of (H := ⟨[], []⟩) Tryz.func50 rfl rfl rfl (by kernel_rfl) ha (by decide) h

def q1ba : CC :=
 (.seq (.reg [.o (.box 3 (sl 0)),.o (.move 6 (ci 0))])
 ((.seq (.reg [.o (.alloc 7 [.v (.int .i64 0)]),.o (.store 1 (sl 7) (ci (-1)))])
 ((.seq (.seq (.reg [ln 10 6 3,mv 11 1,mv 12 2,.o (.call (some 13) (cf 81) [(sl 10), (sl 11), (sl 12)])])
 ((.block 0 (.rng (sl 13) [14] (.reg [mv 8 14])
 (.block 1 (.seq (.reg [ln 15 6 3,mv 16 8,.o (.call (some 17) (cf 82) [(sl 15), (sl 16)]),mv 9 17])
 ((.seq (.reg [l1 18 7,.o (.bin 19 .lss (sl 18) (ci 0)),mv 20 19,.g 20 false (some 21) (.move 21 (sl 9)),.g 20 false (some 22) (.load1 22 (sl 7)),.g 20 false (some 23) (.bin 23 .lss (sl 21) (sl 22)),.o (.pick 24 (sl 20) (cb true) (sl 23))])
 ((.cond (sl 24) (.reg [mv 25 9,.o (.store 1 (sl 7) (sl 25))])
 .skip))))))))))
 ((.seq (.seq (.reg [fl 26 5 3,l1 27 26,.o (.bin 28 .eql (sl 27) (ci 1)),mv 29 28,.g 29 true (some 30) (.load1 30 (sl 7)),.g 29 true (some 31) (.call (some 31) (cf 83) [(sl 30)]),.g 29 true (some 32) (.un 32 .not (sl 31)),.o (.pick 33 (sl 29) (sl 32) (cb false))])
 ((.cond (sl 33) (.seq (.reg [.o (.move 6 (ci (-1)))])
 (.ret))
 .skip)))
 ((.seq (.reg [l1 34 7,mv 6 34])
 (.ret))))))))))
theorem q1g7 {rin args Q} (ha : args.length <= 35) (h : fW 35 q1ba [.tmp 6] rin args Q) : Fun Tryz.prog 51 rin args Q :=
 Fun.of (H := ⟨[], []⟩) Tryz.func51 rfl rfl rfl (by kernel_rfl) ha (by decide) h

def q1aw : CC :=
 (.seq (.reg [.o (.box 7 (sl 3)),.o (.move 8 (cv (.slice none 0 0)))])
 ((.seq (.reg [mv 16 1,.o (.lenS 17 (sl 16)),.o (.alloc 9 [.v (.int .i64 0)]),.o (.store 1 (sl 9) (sl 17))])
 ((.seq (.reg [l1 18 9,.o (.make 19 [.v (.int .i64 0)] 8 (sl 18) (sl 18)),.o (.alloc 10 [.v (.slice none 0 0)]),.o (.store 1 (sl 10) (sl 19))])
 ((.seq (.reg [.o (.mkf 20 84 [(sl 9), (sl 7), (sl 10)]),mv 11 20])
 ((.seq (.seq (.reg [mv 21 0,.o (.lenS 22 (sl 21)),.o (.move 23 (ci 0))])
 ((.block 0 (.loop (.seq (.reg [.o (.bin 24 .lss (sl 23) (sl 22))])
 ((.seq (.cond (sl 24) .skip
 (.exit 0))
 ((.seq (.block 1 (.seq (.reg [.o (.idx 25 2 (sl 21) (sl 23)),ln 26 2 25,.o (.alloc 13 [.v (.int .i64 0), .v (.slice none 0 0)]),.o (.store 2 (sl 13) (sl 26))])
 ((.seq (.draw [30, 34] [kr (fl 27 1 13),kr (l1 28 27),kr (mv 29 1),(.c false [], .o (.call (some 30) (cf 86) [(sl 28), (sl 29)])),(.r false [30], fl 31 1 13),(.r false [30], l1 32 31),(.r false [30], mv 33 2),(.c false [], .o (.call (some 34) (cf 87) [(sl 32), (sl 33)])),kr (mv 14 30),kr (mv 15 34)])
 ((.block 2 (.seq (.reg [mv 42 14,.o (.lenS 43 (sl 42)),.o (.bin 44 .gtr (sl 43) (ci 0)),mv 45 44,.g 45 true (some 46) (.move 46 (sl 15)),.g 45 true (some 47) (.lenS 47 (sl 46)),.g 45 true (some 48) (.bin 48 .gtr (sl 47) (ci 0)),.o (.pick 49 (sl 45) (sl 48) (cb false)),mv 41 49])
 ((.cond (sl 41) (.seq (.reg [mv 50 11,fl 51 0 13,l1 52 51,.o (.bin 53 .quo (sl 52) (ci 2)),mv 54 15,.o (.call (some 55) (sl 50) [(sl 53), (sl 54)])])
 ((.reg [mv 56 11,fl 57 0 13,l1 58 57,fl 59 0 13,l1 60 59,.o (.bin 61 .quo (sl 60) (ci 2)),.o (.bin 62 .sub (sl 58) (sl 61)),mv 63 14,.o (.call (some 64) (sl 56) [(sl 62), (sl 63)])])))
 (.seq (.reg [mv 66 14,.o (.lenS 67 (sl 66)),.o (.bin 68 .gtr (sl 67) (ci 0)),mv 65 68])
 ((.cond (sl 65) (.reg [mv 69 11,fl 70 0 13,l1 71 70,mv 72 14,.o (.call (some 73) (sl 69) [(sl 71), (sl 72)])])
 (.seq (.reg [mv 75 15,.o (.lenS 76 (sl 75)),.o (.bin 77 .gtr (sl 76) (ci 0)),mv 74 77])
 ((.cond (sl 74) (.reg [mv 78 11,fl 79 0 13,l1 80 79,mv 81 15,.o (.call (some 82) (sl 78) [(sl 80), (sl 81)])])
 (.reg [mv 35 11,fl 36 0 13,l1 37 36,fl 38 1 13,l1 39 38,.o (.call (some 40) (sl 35) [(sl 37), (sl 39)])]))))))))))))))))
 ((.reg [.o (.bin 83 .add (sl 23) (ci 1)),mv 23 83])))))))))))
 ((.seq (.reg [l1 84 10,mv 8 84])
 (.ret))))))))))))
theorem q1fv {rin args Q} (ha : args.length <= 85) (h : fW 85 q1aw [.tmp 8] rin args Q) : Fun Tryz.prog 52 rin args Q :=
 Fun.of (H := ⟨[], []⟩) Tryz.func52 rfl rfl rfl (by kernel_rfl) ha (by decide) h

def q1b3 : CC :=
 (.seq (.reg [.o (.move 4 (ci 0))])
 ((.seq (.block 0 (.loop (.seq (.seq (.reg [mv 5 1,.o (.bin 6 .gtr (sl 5) (ci 0))])
 ((.cond (sl 6) .skip
 (.exit 0))))
 ((.block 1 (.draw [] [kr (mv 7 1),kr (mv 8 0),kr (mv 9 1),kr (.o (.bin 10 .rem (sl 8) (sl 9))),kr (mv 0 7),kr (mv 1 10)]))))))
 ((.seq (.reg [mv 11 0,mv 4 11])
 (.ret))))))
theorem q1g1 {rin args Q} (ha : args.length <= 12) (h : fW 12 q1b3 [.tmp 4] rin args Q) : Fun Tryz.prog 53 rin args Q :=
 Fun.of (H := ⟨[], []⟩) Tryz.func53 rfl rfl rfl (by kernel_rfl) ha (by decide) h

def q1au : CC :=
 (.seq (.reg [.o (.move 2 (ci 0))])
 ((.seq (.seq (.reg [mv 3 0,.o (.bin 4 .lss (sl 3) (ci 0))])
 ((.cond (sl 4) (.seq (.reg [mv 5 0,.o (.un 6 .neg (sl 5)),mv 2 6])
 (.ret))
 .skip)))
 ((.seq (.reg [mv 7 0,mv 2 7])
 (.ret))))))
theorem q1ft {rin args Q} (ha : args.length <= 8) (h : fW 8 q1au [.tmp 2] rin args Q) : Fun Tryz.prog 54 rin args Q :=
 Fun.of (H := ⟨[], []⟩) Tryz.func54 rfl rfl rfl (by kernel_rfl) ha (by decide) h

def q1at : CC :=
 (.seq (.reg [.o (.box 1 (sl 0)),.o (.move 2 (cb false))])
 ((.seq (.draw [] [kr (fl 3 0 1),kr (l1 4 3),kr (.o (.call (some 5) (cf 40) [(sl 4), (ci (-1000000000)), (ci 1000000000)])),kr (mv 6 5),(kR, .g 6 true (some 7) (.fld 7 1 (sl 1))),(kR, .g 6 true (some 8) (.load1 8 (sl 7))),(kR, .g 6 true (some 9) (.call (some 9) (cf 40) [(sl 8), (ci 1), (ci 1000000000)])),kr (.o (.pick 10 (sl 6) (sl 9) (cb false))),kr (mv 11 10),(kR, .g 11 true (some 12) (.fld 12 0 (sl 1))),(kR, .g 11 true (some 13) (.load1 13 (sl 12))),(kR, .g 11 true (some 14) (.call (some 14) (cf 54) [(sl 13)])),(kR, .g 11 true (some 15) (.fld 15 1 (sl 1))),(kR, .g 11 true (some 16) (.load1 16 (sl 15))),(kR, .g 11 true (some 17) (.call (some 17) (cf 53) [(sl 14), (sl 16)])),(kR, .g 11 true (some 18) (.bin 18 .eql (sl 17) (ci 1))),kr (.o (.pick 19 (sl 11) (sl 18) (cb false))),kr (mv 2 19)])
 (.ret))))
theorem q1fs {rin args Q} (ha : args.length <= 20) (h : fW 20 q1at [.tmp 2] rin args Q) : Fun Tryz.prog 55 rin args Q :=
 Fun.of (H := ⟨[], []⟩) Tryz.func55 rfl rfl rfl (by kernel_rfl) ha (by decide) h

def q0yj : CC :=
 (.seq (.reg [.o (.move 4 (ci 0))])
 ((.seq (.reg [mv 5 1,mv 6 0,mv 7 1,.o (.lenS 8 (sl 7)),.o (.call (some 9) (cf 57) [(sl 6), (sl 8)]),ix 10 5 9,l1 11 10,mv 4 11])
 (.ret))))
theorem q0zo {rin args Q} (ha : args.length <= 12) (h : fW 12 q0yj [.tmp 4] rin args Q) : Fun Tryz.prog 56 rin args Q :=
 Fun.of (H := ⟨[], []⟩) Tryz.func56 rfl rfl rfl (by kernel_rfl) ha (by decide) h

def q0yi : CC :=
 (.seq (.reg [.o (.move 4 (ci 0))])
 ((.seq (.seq (.reg [mv 6 1,.o (.bin 7 .leq (sl 6) (ci 1))])
 ((.cond (sl 7) (.seq (.reg [.o (.move 4 (ci 0))])
 (.ret))
 .skip)))
 ((.seq (.reg [mv 8 0,mv 9 0,.o (.nilc 10 (sl 9)),fl 11 2 10,l1 12 11,.o (.bin 13 .mul (sl 12) (ci 48271)),.o (.bin 14 .add (sl 13) (ci 29)),.o (.bin 15 .rem (sl 14) (ci 2147483647)),.o (.nilc 16 (sl 8)),fl 17 2 16,.o (.store 1 (sl 17) (sl 15))])
 ((.seq (.reg [mv 18 0,.o (.nilc 19 (sl 18)),fl 20 2 19,l1 21 20,.o (.bin 22 .quo (sl 21) (ci 31)),mv 5 22])
 ((.seq (.seq (.draw [] [kr (mv 23 0),kr (.o (.nilc 24 (sl 23))),kr (fl 25 1 24),kr (l1 26 25),kr (mv 27 0),kr (.o (.nilc 28 (sl 27))),kr (fl 29 0 28),kr (l1 30 29),kr (.o (.lenS 31 (sl 30))),kr (.o (.bin 32 .lss (sl 26) (sl 31)))])
 ((.cond (sl 32) (.seq (.draw [] [kr (mv 33 5),kr (mv 34 0),kr (.o (.nilc 35 (sl 34))),kr (fl 36 0 35),kr (l1 37 36),kr (mv 38 0),kr (.o (.nilc 39 (sl 38))),kr (fl 40 1 39),kr (l1 41 40),kr (ix 42 37 41),kr (l1 43 42),kr (.o (.conv 44 .i64 (sl 43))),kr (.o (.bin 45 .add (sl 33) (sl 44))),kr (mv 5 45)])
 ((.seq (.reg [mv 46 0,.o (.nilc 47 (sl 46)),fl 48 1 47,l1 49 48,.o (.bin 50 .add (sl 49) (ci 1)),.o (.nilc 51 (sl 46)),fl 52 1 51,.o (.store 1 (sl 52) (sl 50))])
 ((.seq (.reg [mv 53 1,.o (.bin 54 .leq (sl 53) (ci 256)),mv 55 54,.g 55 true (some 56) (.move 56 (sl 0)),.g 55 true (some 57) (.nilc 57 (sl 56)),.g 55 true (some 58) (.fld 58 1 (sl 57)),.g 55 true (some 59) (.load1 59 (sl 58)),.g 55 true (some 60) (.bin 60 .rem (sl 59) (ci 2)),.g 55 true (some 61) (.bin 61 .eql (sl 60) (ci 0)),.o (.pick 62 (sl 55) (sl 61) (cb false))])
 ((.cond (sl 62) (.draw [] [kr (mv 63 0),kr (.o (.nilc 64 (sl 63))),kr (fl 65 0 64),kr (l1 66 65),kr (mv 67 0),kr (.o (.nilc 68 (sl 67))),kr (fl 69 1 68),kr (l1 70 69),kr (.o (.bin 71 .sub (sl 70) (ci 1))),kr (ix 72 66 71),kr (l1 73 72),kr (.o (.conv 74 .i64 (sl 73))),kr (mv 5 74)])
 .skip)))))))
 .skip)))
 ((.seq (.reg [mv 75 5,mv 76 1,.o (.bin 77 .rem (sl 75) (sl 76)),mv 4 77])
 (.ret))))))))))))
theorem q0zn {rin args Q} (ha : args.length <= 78) (h : fW 78 q0yi [.tmp 4] rin args Q) : Fun Tryz.prog 57 rin args Q :=
 Fun.of (H := ⟨[], []⟩) Tryz.func57 rfl rfl rfl (by kernel_rfl) ha (by decide) h

def q1ct : CC :=
 (.seq (.reg [.o (.move 6 (cv (.slice none 0 0)))])
 ((.seq (.reg [mv 9 1,.o (.call (some 10) (cf 43) [(sl 9)]),mv 11 2,.o (.app 12 1 8 (sl 10) (sl 11)),mv 7 12])
 ((.seq (.seq (.reg [.o (.move 8 (ci 0))])
 ((.block 0 (.loop (.seq (.seq (.reg [mv 13 8,mv 14 0,.o (.lenS 15 (sl 14)),.o (.bin 16 .lss (sl 13) (sl 15))])
 ((.cond (sl 16) .skip
 (.exit 0))))
 ((.seq (.block 1 (.reg [mv 19 7,mv 20 0,mv 21 8,ix 22 20 21,l1 23 22,.o (.app 24 1 8 (sl 19) (sl 23)),mv 7 24]))
 ((.reg [mv 17 8,.o (.bin 18 .add (sl 17) (ci 1)),mv 8 18])))))))))
 ((.seq (.reg [mv 25 7,.o (.call (some 26) (cf 88) [(sl 25)]),mv 6 26])
 (.ret))))))))
theorem q1hq {rin args Q} (ha : args.length <= 27) (h : fW 27 q1ct [.tmp 6] rin args Q) : Fun Tryz.prog 60 rin args Q :=
 Fun.of (H := ⟨[], []⟩) Tryz.func60 rfl rfl rfl (by kernel_rfl) ha (by decide) h

def q1we : CC :=
 (.seq (.reg [.o (.move 4 (cb false))])
 ((.seq (.reg [mv 5 0,mv 6 1,.o (.call (some 7) (cf 89) [(sl 5), (sl 6)]),.o (.bin 8 .geq (sl 7) (ci 0)),mv 4 8])
 (.ret))))
theorem q1y0 {rin args Q} (ha : args.length <= 9) (h : fW 9 q1we [.tmp 4] rin args Q) : Fun Tryz.prog 61 rin args Q :=
 Fun.of (H := ⟨[], []⟩) Tryz.func61 rfl rfl rfl (by kernel_rfl) ha (by decide) h

def q1w6 : CC :=
 (.seq (.reg [.o (.move 2 (cb false))])
 ((.seq (.reg [mv 3 0,.o (.call (some 4) (cf 49) [(sl 3)]),.o (.un 5 .not (sl 4)),mv 2 5])
 (.ret))))
theorem q1xs {rin args Q} (ha : args.length <= 6) (h : fW 6 q1w6 [.tmp 2] rin args Q) : Fun Tryz.prog 62 rin args Q :=
 Fun.of (H := ⟨[], []⟩) Tryz.func62 rfl rfl rfl (by kernel_rfl) ha (by decide) h

def q1w9 : CC :=
 (.seq (.reg [.o (.move 0 (cv (.slice none 0 0)))])
 ((.seq (.reg [.o (.move 1 (cv (.slice none 0 0)))])
 ((.seq (.seq (.reg [.o (.move 4 (ci 0))])
 ((.block 0 (.loop (.seq (.reg [.o (.bin 5 .lss (sl 4) (ci 256))])
 ((.seq (.cond (sl 5) .skip
 (.exit 0))
 ((.seq (.block 1 (.seq (.reg [mv 6 4,mv 2 6])
 ((.seq (.reg [mv 7 2,.o (.bin 8 .quo (sl 7) (ci 64)),mv 9 2,.o (.bin 10 .quo (sl 9) (ci 16)),.o (.bin 11 .rem (sl 10) (ci 4)),mv 12 2,.o (.bin 13 .quo (sl 12) (ci 4)),.o (.bin 14 .rem (sl 13) (ci 4)),mv 15 2,.o (.bin 16 .rem (sl 15) (ci 4)),.o (.build 17 [.v (.int .i64 0), .v (.int .i64 0), .v (.int .i64 0), .v (.int .i64 0)] [(0, 1), (1, 1), (2, 1), (3, 1)] [(0, (sl 8)), (1, (sl 11)), (2, (sl 14)), (3, (sl 16))]),.o (.alloc 3 [.v (.int .i64 0), .v (.int .i64 0), .v (.int .i64 0), .v (.int .i64 0)]),.o (.store 4 (sl 3) (sl 17))])
 ((.seq (.reg [.o (.idxA 18 4 1 (sl 3) (ci 0)),l1 19 18,.o (.idxA 20 4 1 (sl 3) (ci 1)),l1 21 20,.o (.bin 22 .neq (sl 19) (sl 21)),mv 23 22,.g 23 true (some 24) (.idxA 24 4 1 (sl 3) (ci 0)),.g 23 true (some 25) (.load1 25 (sl 24)),.g 23 true (some 26) (.idxA 26 4 1 (sl 3) (ci 2)),.g 23 true (some 27) (.load1 27 (sl 26)),.g 23 true (some 28) (.bin 28 .neq (sl 25) (sl 27)),.o (.pick 29 (sl 23) (sl 28) (cb false)),mv 30 29,.g 30 true (some 31) (.idxA 31 4 1 (sl 3) (ci 0)),.g 30 true (some 32) (.load1 32 (sl 31)),.g 30 true (some 33) (.idxA 33 4 1 (sl 3) (ci 3)),.g 30 true (some 34) (.load1 34 (sl 33)),.g 30 true (some 35) (.bin 35 .neq (sl 32) (sl 34)),.o (.pick 36 (sl 30) (sl 35) (cb false)),mv 37 36,.g 37 true (some 38) (.idxA 38 4 1 (sl 3) (ci 1)),.g 37 true (some 39) (.load1 39 (sl 38)),.g 37 true (some 40) (.idxA 40 4 1 (sl 3) (ci 2)),.g 37 true (some 41) (.load1 41 (sl 40)),.g 37 true (some 42) (.bin 42 .neq (sl 39) (sl 41)),.o (.pick 43 (sl 37) (sl 42) (cb false)),mv 44 43,.g 44 true (some 45) (.idxA 45 4 1 (sl 3) (ci 1)),.g 44 true (some 46) (.load1 46 (sl 45)),.g 44 true (some 47) (.idxA 47 4 1 (sl 3) (ci 3)),.g 44 true (some 48) (.load1 48 (sl 47)),.g 44 true (some 49) (.bin 49 .neq (sl 46) (sl 48)),.o (.pick 50 (sl 44) (sl 49) (cb false)),mv 51 50,.g 51 true (some 52) (.idxA 52 4 1 (sl 3) (ci 2)),.g 51 true (some 53) (.load1 53 (sl 52)),.g 51 true (some 54) (.idxA 54 4 1 (sl 3) (ci 3)),.g 51 true (some 55) (.load1 55 (sl 54)),.g 51 true (some 56) (.bin 56 .neq (sl 53) (sl 55)),.o (.pick 57 (sl 51) (sl 56) (cb false))])
 ((.cond (sl 57) (.reg [mv 58 1,ln 59 4 3,.o (.bslice 60 4 1 [(0, (sl 59))]),.o (.app 61 4 32 (sl 58) (sl 60)),mv 1 61])
 .skip))))))))
 ((.reg [.o (.bin 62 .add (sl 4) (ci 1)),mv 4 62])))))))))))
 ((.seq (.reg [mv 63 1,mv 0 63])
 (.ret))))))))
theorem q1xv {rin args Q} (ha : args.length <= 64) (h : fW 64 q1w9 [.tmp 0] rin args Q) : Fun Tryz.prog 63 rin args Q :=
 Fun.of (H := ⟨[], []⟩) Tryz.func63 rfl rfl rfl (by kernel_rfl) ha (by decide) h

def q1wf : CC :=
 (.seq (.reg [.o (.move 4 (cb false))])
 ((.seq (.seq (.reg [mv 6 0,.o (.lenS 7 (sl 6)),mv 8 1,.o (.lenS 9 (sl 8)),.o (.bin 10 .neq (sl 7) (sl 9))])
 ((.cond (sl 10) (.seq (.reg [.o (.move 4 (cb false))])
 (.ret))
 .skip)))
 ((.seq (.seq (.reg [mv 11 0,.o (.lenS 12 (sl 11)),.o (.move 13 (ci 0))])
 ((.block 0 (.loop (.seq (.reg [.o (.bin 14 .lss (sl 13) (sl 12))])
 ((.seq (.cond (sl 14) .skip
 (.exit 0))
 ((.seq (.block 1 (.seq (.reg [mv 15 13,mv 5 15])
 ((.seq (.draw [] [kr (mv 16 0),kr (mv 17 5),kr (ix 18 16 17),kr (l1 19 18),kr (mv 20 1),kr (mv 21 5),kr (ix 22 20 21),kr (l1 23 22),kr (.o (.bin 24 .neq (sl 19) (sl 23)))])
 ((.cond (sl 24) (.seq (.reg [.o (.move 4 (cb false))])
 (.ret))
 .skip))))))
 ((.reg [.o (.bin 25 .add (sl 13) (ci 1)),mv 13 25])))))))))))
 ((.seq (.reg [.o (.move 4 (cb true))])
 (.ret))))))))
theorem q1y1 {rin args Q} (ha : args.length <= 26) (h : fW 26 q1wf [.tmp 4] rin args Q) : Fun Tryz.prog 64 rin args Q :=
 Fun.of (H := ⟨[], []⟩) Tryz.func64 rfl rfl rfl (by kernel_rfl) ha (by decide) h

def q1w7 : CC :=
 (.seq (.reg [.o (.box 3 (sl 1)),.o (.move 4 (cv (.slice none 0 0)))])
 ((.seq (.reg [mv 8 0,.o (.lenS 9 (sl 8)),.o (.make 10 [.v (.int .i64 0)] 8 (sl 9) (sl 9)),mv 5 10])
 ((.seq (.seq (.reg [mv 11 0,.o (.lenS 12 (sl 11)),.o (.move 13 (ci 0))])
 ((.block 0 (.loop (.seq (.reg [.o (.bin 14 .lss (sl 13) (sl 12))])
 ((.seq (.cond (sl 14) .skip
 (.exit 0))
 ((.seq (.block 1 (.seq (.reg [mv 15 13,ix 16 11 13,l1 17 16,mv 6 15,mv 7 17])
 ((.reg [mv 18 5,mv 19 6,mv 20 7,.o (.bin 21 .quo (sl 20) (ci 4)),.o (.bin 22 .mul (sl 21) (ci 4)),mv 23 7,.o (.bin 24 .rem (sl 23) (ci 4)),.o (.idxA 25 4 1 (sl 3) (sl 24)),l1 26 25,.o (.bin 27 .add (sl 22) (sl 26)),ix 28 18 19,.o (.store 1 (sl 28) (sl 27))]))))
 ((.reg [.o (.bin 29 .add (sl 13) (ci 1)),mv 13 29])))))))))))
 ((.seq (.reg [mv 30 5,.o (.call (some 31) (cf 70) [(sl 30)])])
 ((.seq (.reg [mv 32 5,mv 4 32])
 (.ret))))))))))
theorem q1xt {rin args Q} (ha : args.length <= 33) (h : fW 33 q1w7 [.tmp 4] rin args Q) : Fun Tryz.prog 65 rin args Q :=
 Fun.of (H := ⟨[], []⟩) Tryz.func65 rfl rfl rfl (by kernel_rfl) ha (by decide) h

def q1wh : CC :=
 (.seq (.reg [.o (.move 2 (cv (.slice none 0 0)))])
 ((.seq (.reg [mv 4 0,.o (.call (some 5) (cf 90) [(sl 4)]),mv 3 5])
 ((.seq (.reg [mv 6 3,.o (.call (some 7) (cf 70) [(sl 6)])])
 ((.seq (.reg [mv 8 3,mv 2 8])
 (.ret))))))))
theorem q1y3 {rin args Q} (ha : args.length <= 9) (h : fW 9 q1wh [.tmp 2] rin args Q) : Fun Tryz.prog 66 rin args Q :=
 Fun.of (H := ⟨[], []⟩) Tryz.func66 rfl rfl rfl (by kernel_rfl) ha (by decide) h

def q04g : CC :=
 (.seq (.reg [.o (.move 4 (ci 0))])
 ((.seq (.seq (.reg [mv 6 0,.o (.lenS 7 (sl 6)),.o (.move 8 (ci 0))])
 ((.block 0 (.loop (.seq (.reg [.o (.bin 9 .lss (sl 8) (sl 7))])
 ((.seq (.cond (sl 9) .skip
 (.exit 0))
 ((.seq (.block 1 (.seq (.reg [mv 10 8,mv 5 10])
 ((.seq (.reg [mv 11 1,mv 12 0,mv 13 5,ix 14 12 13,l1 15 14,.o (.bin 16 .eql (sl 11) (sl 15))])
 ((.cond (sl 16) (.seq (.reg [mv 17 5,mv 4 17])
 (.ret))
 .skip))))))
 ((.reg [.o (.bin 18 .add (sl 8) (ci 1)),mv 8 18])))))))))))
 ((.seq (.reg [.o (.move 4 (ci (-1)))])
 (.ret))))))
theorem q0be {rin args Q} (ha : args.length <= 19) (h : fW 19 q04g [.tmp 4] rin args Q) : Fun Tryz.prog 69 rin args Q :=
 Fun.of (H := ⟨[], []⟩) Tryz.func69 rfl rfl rfl (by kernel_rfl) ha (by decide) h

def q1c4 : CC :=
 (.seq (.reg [.o (.move 2 (cb false))])
 ((.seq (.reg [mv 3 0,.o (.call (some 4) (cf 42) [(sl 3), (ci 0), (ci 51)]),mv 2 4])
 (.ret))))
theorem q1h1 {rin args Q} (ha : args.length <= 5) (h : fW 5 q1c4 [.tmp 2] rin args Q) : Fun Tryz.prog 72 rin args Q :=
 Fun.of (H := ⟨[], []⟩) Tryz.func72 rfl rfl rfl (by kernel_rfl) ha (by decide) h

def q1cr : CC :=
 (.seq (.reg [.o (.move 6 (cv (.slice none 0 0)))])
 ((.seq (.reg [mv 10 0,mv 11 1,mv 12 2,.o (.call (some 13) (cf 60) [(sl 10), (sl 11), (sl 12)]),mv 14 1,.o (.lenS 15 (sl 14)),.o (.bin 16 .sub (ci 5) (sl 15)),.o (.call (some 17) (cf 94) [(sl 13), (sl 16)]),mv 7 17])
 ((.seq (.reg [.o (.bslice 18 1 0 []),mv 8 18])
 ((.seq (.seq (.reg [.o (.move 9 (ci 0))])
 ((.block 0 (.loop (.seq (.seq (.reg [mv 19 9,mv 20 7,.o (.lenS 21 (sl 20)),.o (.bin 22 .lss (sl 19) (sl 21))])
 ((.cond (sl 22) .skip
 (.exit 0))))
 ((.seq (.block 1 (.draw [27] [(kE, mv 25 8),kr (mv 26 1),(.c false [], .o (.call (some 27) (cf 43) [(sl 26)])),(.r false [27], mv 28 7),(.r false [27], mv 29 9),(.r false [27], ix 30 28 29),(.r false [27], l1 31 30),(kH, .o (.app 32 1 8 (sl 27) (sl 31))),(kH, .o (.bslice 33 1 1 [(0, (sl 32))])),(kH, .o (.app 34 1 24 (sl 25) (sl 33))),kr (mv 8 34)]))
 ((.reg [mv 23 9,.o (.bin 24 .add (sl 23) (ci 1)),mv 9 24])))))))))
 ((.seq (.reg [mv 35 8,mv 6 35])
 (.ret))))))))))
theorem q1ho {rin args Q} (ha : args.length <= 36) (h : fW 36 q1cr [.tmp 6] rin args Q) : Fun Tryz.prog 73 rin args Q :=
 Fun.of (H := ⟨[], []⟩) Tryz.func73 rfl rfl rfl (by kernel_rfl) ha (by decide) h

def q1co : CC :=
 (.seq (.reg [.o (.move 4 (cv (.slice none 0 0)))])
 ((.seq (.reg [.o (.bslice 7 1 0 []),mv 5 7])
 ((.seq (.seq (.reg [.o (.move 6 (ci 0))])
 ((.block 0 (.loop (.seq (.seq (.reg [mv 8 6,mv 9 0,.o (.lenS 10 (sl 9)),.o (.bin 11 .lss (sl 8) (sl 10))])
 ((.cond (sl 11) .skip
 (.exit 0))))
 ((.seq (.block 1 (.draw [24] [kr (mv 14 5),kr (mv 15 0),kr (mv 16 6),kr (ix 17 15 16),kr (l1 18 17),kr (mv 19 1),kr (mv 20 6),kr (ix 21 19 20),kr (l1 22 21),kr (.o (.bin 23 .add (sl 18) (sl 22))),(kN, .o (.bslice 24 1 1 [(0, (sl 23))])),(kH, .o (.app 25 1 8 (sl 14) (sl 24))),kr (mv 5 25)]))
 ((.reg [mv 12 6,.o (.bin 13 .add (sl 12) (ci 1)),mv 6 13])))))))))
 ((.seq (.reg [mv 26 5,mv 4 26])
 (.ret))))))))
theorem q1hl {rin args Q} (ha : args.length <= 27) (h : fW 27 q1co [.tmp 4] rin args Q) : Fun Tryz.prog 74 rin args Q :=
 Fun.of (H := ⟨[], []⟩) Tryz.func74 rfl rfl rfl (by kernel_rfl) ha (by decide) h

def q1cs : CC :=
 (.seq (.reg [.o (.move 6 (cv (.slice none 0 0)))])
 ((.seq (.reg [.o (.call (some 24) (cf 44) []),mv 25 0,.o (.idx 26 6 (sl 24) (sl 25)),ln 27 6 26,.o (.alloc 7 [.v (.int .i64 0), .v (.int .i64 0), .v (.int .i64 0), .v (.int .i64 0), .v (.bool false), .v (.int .i64 0)]),.o (.store 6 (sl 7) (sl 27))])
 ((.seq (.reg [.o (.bslice 28 1 0 []),.o (.bslice 29 1 0 []),.o (.bslice 30 1 0 []),mv 8 28,mv 9 29,mv 10 30])
 ((.seq (.seq (.reg [.o (.move 11 (ci 0))])
 ((.block 0 (.loop (.seq (.seq (.reg [mv 31 11,mv 32 1,.o (.lenS 33 (sl 32)),.o (.bin 34 .lss (sl 31) (sl 33))])
 ((.cond (sl 34) .skip
 (.exit 0))))
 ((.seq (.block 1 (.seq (.draw [43] [kr (ln 37 6 7),kr (mv 38 1),kr (mv 39 11),kr (ix 40 38 39),kr (l1 41 40),kr (mv 42 2),(.c false [], .o (.call (some 43) (cf 95) [(sl 37), (sl 41), (sl 42)])),kr (mv 12 43)])
 ((.seq (.reg [mv 45 12,.o (.call (some 46) (cf 96) [(sl 45)]),mv 44 46,.o (.extract 47 (sl 44) 0),.o (.extract 48 (sl 44) 1),mv 13 47,mv 14 48])
 ((.seq (.reg [.o (.move 15 (ci (-1)))])
 ((.seq (.seq (.reg [fl 49 5 7,l1 50 49,.o (.bin 51 .neq (sl 50) (ci 0))])
 ((.cond (sl 51) (.seq (.reg [ln 53 6 7,mv 54 12,.o (.call (some 55) (cf 97) [(sl 53), (sl 54)]),mv 52 55,.o (.extract 56 (sl 52) 0),.o (.extract 57 (sl 52) 1),mv 16 56,mv 17 57])
 ((.seq (.reg [ln 58 6 7,mv 59 17,.o (.call (some 60) (cf 98) [(sl 58), (sl 59)])])
 ((.cond (sl 60) (.reg [mv 61 17,mv 15 61])
 .skip)))))
 .skip)))
 ((.seq (.reg [mv 62 8,mv 63 14,.o (.bslice 64 1 1 [(0, (sl 63))]),.o (.app 65 1 8 (sl 62) (sl 64)),mv 8 65])
 ((.seq (.reg [mv 66 9,mv 67 15,.o (.bslice 68 1 1 [(0, (sl 67))]),.o (.app 69 1 8 (sl 66) (sl 68)),mv 9 69])
 ((.reg [mv 70 10,mv 71 11,.o (.bslice 72 1 1 [(0, (sl 71))]),.o (.app 73 1 8 (sl 70) (sl 72)),mv 10 73]))))))))))))))
 ((.reg [mv 35 11,.o (.bin 36 .add (sl 35) (ci 1)),mv 11 36])))))))))
 ((.seq (.reg [mv 74 1,.o (.lenS 75 (sl 74)),.o (.make 76 [.v (.int .i64 0)] 8 (sl 75) (sl 75)),mv 18 76])
 ((.seq (.reg [mv 77 10,mv 78 8,.o (.call (some 79) (cf 99) [(sl 77), (sl 78), (cb true)]),mv 80 10,mv 81 9,.o (.call (some 82) (cf 99) [(sl 80), (sl 81), (cb false)]),mv 19 79,mv 20 82])
 ((.seq (.reg [.o (.move 21 (ci 24))])
 ((.seq (.seq (.reg [mv 83 20,.o (.lenS 84 (sl 83)),.o (.bin 85 .gtr (sl 84) (ci 0))])
 ((.cond (sl 85) (.reg [.o (.move 21 (ci 12))])
 .skip)))
 ((.seq (.seq (.reg [.o (.move 22 (ci 0))])
 ((.block 2 (.loop (.seq (.seq (.reg [mv 86 22,mv 87 19,.o (.lenS 88 (sl 87)),.o (.bin 89 .lss (sl 86) (sl 88))])
 ((.cond (sl 89) .skip
 (.exit 2))))
 ((.seq (.block 3 (.draw [] [kr (mv 92 18),kr (mv 93 19),kr (mv 94 22),kr (ix 95 93 94),kr (l1 96 95),kr (mv 97 21),kr (mv 98 19),kr (.o (.lenS 99 (sl 98))),kr (.o (.bin 100 .quo (sl 97) (sl 99))),kr (ix 101 92 96),(kH, .o (.store 1 (sl 101) (sl 100)))]))
 ((.reg [mv 90 22,.o (.bin 91 .add (sl 90) (ci 1)),mv 22 91])))))))))
 ((.seq (.seq (.reg [.o (.move 23 (ci 0))])
 ((.block 4 (.loop (.seq (.seq (.reg [mv 102 23,mv 103 20,.o (.lenS 104 (sl 103)),.o (.bin 105 .lss (sl 102) (sl 104))])
 ((.cond (sl 105) .skip
 (.exit 4))))
 ((.seq (.block 5 (.draw [] [kr (mv 108 18),kr (mv 109 20),kr (mv 110 23),kr (ix 111 109 110),kr (l1 112 111),kr (mv 113 18),kr (mv 114 20),kr (mv 115 23),kr (ix 116 114 115),kr (l1 117 116),kr (ix 118 113 117),kr (l1 119 118),kr (mv 120 21),kr (mv 121 20),kr (.o (.lenS 122 (sl 121))),kr (.o (.bin 123 .quo (sl 120) (sl 122))),kr (.o (.bin 124 .add (sl 119) (sl 123))),kr (ix 125 108 112),(kH, .o (.store 1 (sl 125) (sl 124)))]))
 ((.reg [mv 106 23,.o (.bin 107 .add (sl 106) (ci 1)),mv 23 107])))))))))
 ((.seq (.reg [mv 126 18,mv 6 126])
 (.ret))))))))))))))))))))))
theorem q1hp {rin args Q} (ha : args.length <= 127) (h : fW 127 q1cs [.tmp 6] rin args Q) : Fun Tryz.prog 75 rin args Q :=
 Fun.of (H := ⟨[], []⟩) Tryz.func75 rfl rfl rfl (by kernel_rfl) ha (by decide) h

def q1c1 : CC :=
 (.seq (.reg [.o (.move 4 (ci 0))])
 ((.seq (.seq (.reg [mv 5 1,.o (.bin 6 .eql (sl 5) (ci 0))])
 ((.cond (sl 6) (.seq (.reg [mv 7 0,mv 4 7])
 (.ret))
 .skip)))
 ((.seq (.reg [mv 8 1,mv 9 0,mv 10 1,.o (.bin 11 .rem (sl 9) (sl 10)),.o (.call (some 12) (cf 76) [(sl 8), (sl 11)]),mv 4 12])
 (.ret))))))
theorem q1gy {rin args Q} (ha : args.length <= 13) (h : fW 13 q1c1 [.tmp 4] rin args Q) : Fun Tryz.prog 76 rin args Q :=
 Fun.of (H := ⟨[], []⟩) Tryz.func76 rfl rfl rfl (by kernel_rfl) ha (by decide) h

def q1c0 : CC :=
 (.seq (.reg [.o (.move 2 (ci 0))])
 ((.seq (.reg [mv 3 0,mv 4 0,.o (.un 5 .neg (sl 4)),.o (.mm 6 true (sl 3) (sl 5)),mv 2 6])
 (.ret))))
theorem q1gx {rin args Q} (ha : args.length <= 7) (h : fW 7 q1c0 [.tmp 2] rin args Q) : Fun Tryz.prog 77 rin args Q :=
 Fun.of (H := ⟨[], []⟩) Tryz.func77 rfl rfl rfl (by kernel_rfl) ha (by decide) h

def q1bz : CC :=
 (.seq (.reg [.o (.box 1 (sl 0)),.o (.move 2 (cb false))])
 ((.seq (.draw [] [kr (fl 3 0 1),kr (l1 4 3),kr (.o (.call (some 5) (cf 42) [(sl 4), (ci (-1000000000)), (ci 1000000000)])),kr (mv 6 5),(kR, .g 6 true (some 7) (.fld 7 1 (sl 1))),(kR, .g 6 true (some 8) (.load1 8 (sl 7))),(kR, .g 6 true (some 9) (.call (some 9) (cf 42) [(sl 8), (ci 1), (ci 1000000000)])),kr (.o (.pick 10 (sl 6) (sl 9) (cb false))),kr (mv 11 10),(kR, .g 11 true (some 12) (.fld 12 0 (sl 1))),(kR, .g 11 true (some 13) (.load1 13 (sl 12))),(kR, .g 11 true (some 14) (.call (some 14) (cf 77) [(sl 13)])),(kR, .g 11 true (some 15) (.fld 15 1 (sl 1))),(kR, .g 11 true (some 16) (.load1 16 (sl 15))),(kR, .g 11 true (some 17) (.call (some 17) (cf 76) [(sl 14), (sl 16)])),(kR, .g 11 true (some 18) (.bin 18 .eql (sl 17) (ci 1))),kr (.o (.pick 19 (sl 11) (sl 18) (cb false))),kr (mv 2 19)])
 (.ret))))
theorem q1gw {rin args Q} (ha : args.length <= 20) (h : fW 20 q1bz [.tmp 2] rin args Q) : Fun Tryz.prog 78 rin args Q :=
 Fun.of (H := ⟨[], []⟩) Tryz.func78 rfl rfl rfl (by kernel_rfl) ha (by decide) h

def q1b8 : CC :=
 (.seq (.reg [.o (.move 2 (cb false))])
 ((.seq (.reg [mv 3 0,.o (.call (some 4) (cf 40) [(sl 3), (ci 0), (ci 51)]),mv 2 4])
 (.ret))))
theorem q1g5 {rin args Q} (ha : args.length <= 5) (h : fW 5 q1b8 [.tmp 2] rin args Q) : Fun Tryz.prog 79 rin args Q :=
 Fun.of (H := ⟨[], []⟩) Tryz.func79 rfl rfl rfl (by kernel_rfl) ha (by decide) h

def q1bn : CC :=
 (.seq (.reg [.o (.move 4 (ci 0))])
 ((.seq (.reg [.o (.alloc 5 [.v (.int .i64 0), .v (.int .i64 0), .v (.int .i64 0), .v (.int .i64 0), .v (.int .i64 0), .v (.int .i64 0), .v (.int .i64 0), .v (.int .i64 0), .v (.int .i64 0), .v (.int .i64 0), .v (.int .i64 0), .v (.int .i64 0), .v (.int .i64 0)])])
 ((.seq (.reg [.o (.alloc 6 [.v (.int .u64 0), .v (.int .u64 0), .v (.int .u64 0), .v (.int .u64 0)])])
 ((.seq (.reg [.o (.alloc 7 [.v (.int .i64 0), .v (.int .i64 0), .v (.int .i64 0), .v (.int .i64 0)])])
 ((.seq (.reg [.o (.move 8 (cv (.int .u64 0)))])
 ((.seq (.seq (.reg [mv 22 0,.o (.lenS 23 (sl 22)),.o (.move 24 (ci 0))])
 ((.block 0 (.loop (.seq (.reg [.o (.bin 25 .lss (sl 24) (sl 23))])
 ((.seq (.cond (sl 25) .skip
 (.exit 0))
 ((.seq (.block 1 (.seq (.reg [ix 26 22 24,l1 27 26,mv 10 27])
 ((.seq (.reg [mv 28 10,.o (.bin 29 .shr (sl 28) (cv (.int .u64 2))),.o (.idxA 30 13 1 (sl 5) (sl 29)),l1 31 30,.o (.bin 32 .add (sl 31) (ci 1)),.o (.idxA 33 13 1 (sl 5) (sl 29)),.o (.store 1 (sl 33) (sl 32))])
 ((.seq (.draw [] [kr (mv 34 10),kr (.o (.bin 35 .and (sl 34) (ci 3))),kr (.o (.idxA 36 4 1 (sl 6) (sl 35))),kr (l1 37 36),kr (mv 38 10),kr (.o (.bin 39 .shr (sl 38) (cv (.int .u64 2)))),kr (.o (.bin 40 .shl (cv (.int .u64 1)) (sl 39))),kr (.o (.bin 41 .or (sl 37) (sl 40))),kr (.o (.idxA 42 4 1 (sl 6) (sl 35))),(kH, .o (.store 1 (sl 42) (sl 41)))])
 ((.seq (.reg [mv 43 10,.o (.bin 44 .and (sl 43) (ci 3)),.o (.idxA 45 4 1 (sl 7) (sl 44)),l1 46 45,.o (.bin 47 .add (sl 46) (ci 1)),.o (.idxA 48 4 1 (sl 7) (sl 44)),.o (.store 1 (sl 48) (sl 47))])
 ((.reg [mv 49 8,mv 50 10,.o (.bin 51 .shr (sl 50) (cv (.int .u64 2))),.o (.bin 52 .shl (cv (.int .u64 1)) (sl 51)),.o (.bin 53 .or (sl 49) (sl 52)),mv 8 53]))))))))))
 ((.reg [.o (.bin 54 .add (sl 24) (ci 1)),mv 24 54])))))))))))
 ((.seq (.reg [.o (.move 11 (ci (-1)))])
 ((.seq (.seq (.reg [ln 55 4 7,.o (.move 56 (ci 0))])
 ((.block 2 (.loop (.seq (.reg [.o (.bin 57 .lss (sl 56) (ci 4))])
 ((.seq (.cond (sl 57) .skip
 (.exit 2))
 ((.seq (.block 3 (.seq (.reg [mv 58 56,.o (.idxV 59 4 (sl 55) (sl 56)),mv 12 58,mv 13 59])
 ((.seq (.seq (.reg [mv 60 13,.o (.bin 61 .lss (sl 60) (ci 5))])
 ((.cond (sl 61) (.exit 3)
 .skip)))
 ((.seq (.seq (.reg [mv 62 12,.o (.idxA 63 4 1 (sl 6) (sl 62)),l1 64 63,mv 65 1,.o (.call (some 66) (cf 100) [(sl 64), (ci 8), (sl 65)]),mv 14 66])
 ((.seq (.reg [mv 67 14,.o (.bin 68 .geq (sl 67) (ci 0))])
 ((.cond (sl 68) (.seq (.reg [mv 69 14,mv 4 69])
 (.ret))
 .skip)))))
 ((.reg [mv 70 12,.o (.idxA 71 4 1 (sl 6) (sl 70)),l1 72 71,.o (.call (some 73) (cf 101) [(ci 5), (sl 72), (cv (.slice none 0 0))]),mv 11 73]))))))))
 ((.reg [.o (.bin 74 .add (sl 56) (ci 1)),mv 56 74])))))))))))
 ((.seq (.reg [.o (.move 15 (ci (-1))),.o (.move 16 (ci (-1))),.o (.move 17 (ci (-1))),.o (.move 18 (ci (-1)))])
 ((.seq (.seq (.reg [.o (.move 19 (ci 12))])
 ((.block 4 (.loop (.seq (.seq (.reg [mv 75 19,.o (.bin 76 .geq (sl 75) (ci 0))])
 ((.cond (sl 76) .skip
 (.exit 4))))
 ((.seq (.block 5 (.seq (.reg [mv 79 19,.o (.idxA 80 13 1 (sl 5) (sl 79)),l1 81 80,mv 20 81])
 ((.block 6 (.seq (.reg [mv 83 20,.o (.bin 84 .eql (sl 83) (ci 4)),mv 85 84,.g 85 true (some 86) (.move 86 (sl 15)),.g 85 true (some 87) (.bin 87 .lss (sl 86) (ci 0)),.o (.pick 88 (sl 85) (sl 87) (cb false)),mv 82 88])
 ((.cond (sl 82) (.reg [mv 89 19,mv 15 89])
 (.seq (.reg [mv 91 20,.o (.bin 92 .geq (sl 91) (ci 3)),mv 93 92,.g 93 true (some 94) (.move 94 (sl 16)),.g 93 true (some 95) (.bin 95 .lss (sl 94) (ci 0)),.o (.pick 96 (sl 93) (sl 95) (cb false)),mv 90 96])
 ((.cond (sl 90) (.reg [mv 97 19,mv 16 97])
 (.seq (.reg [mv 99 20,.o (.bin 100 .geq (sl 99) (ci 2)),mv 101 100,.g 101 true (some 102) (.move 102 (sl 17)),.g 101 true (some 103) (.bin 103 .lss (sl 102) (ci 0)),.o (.pick 104 (sl 101) (sl 103) (cb false)),mv 98 104])
 ((.cond (sl 98) (.reg [mv 105 19,mv 17 105])
 (.seq (.reg [mv 107 20,.o (.bin 108 .geq (sl 107) (ci 2)),mv 109 108,.g 109 true (some 110) (.move 110 (sl 18)),.g 109 true (some 111) (.bin 111 .lss (sl 110) (ci 0)),.o (.pick 112 (sl 109) (sl 111) (cb false)),mv 106 112])
 ((.cond (sl 106) (.reg [mv 113 19,mv 18 113])
 .skip))))))))))))))))
 ((.reg [mv 77 19,.o (.bin 78 .sub (sl 77) (ci 1)),mv 19 78])))))))))
 ((.seq (.block 7 (.seq (.reg [mv 115 15,.o (.bin 116 .geq (sl 115) (ci 0)),mv 114 116])
 ((.cond (sl 114) (.seq (.reg [mv 117 8,mv 118 15,.o (.bin 119 .shl (cv (.int .u64 1)) (sl 118)),.o (.bin 120 .andNot (sl 117) (sl 119)),mv 121 15,mv 122 15,mv 123 15,mv 124 15,.o (.bslice 125 1 4 [(0, (sl 121)), (1, (sl 122)), (2, (sl 123)), (3, (sl 124))]),.o (.call (some 126) (cf 101) [(ci 7), (sl 120), (sl 125)]),mv 4 126])
 (.ret))
 (.seq (.reg [mv 128 16,.o (.bin 129 .geq (sl 128) (ci 0)),mv 130 129,.g 130 true (some 131) (.move 131 (sl 17)),.g 130 true (some 132) (.bin 132 .geq (sl 131) (ci 0)),.o (.pick 133 (sl 130) (sl 132) (cb false)),mv 127 133])
 ((.cond (sl 127) (.seq (.reg [mv 134 16,mv 135 16,mv 136 16,mv 137 17,mv 138 17,.o (.bslice 139 1 5 [(0, (sl 134)), (1, (sl 135)), (2, (sl 136)), (3, (sl 137)), (4, (sl 138))]),.o (.call (some 140) (cf 102) [(ci 6), (sl 139)]),mv 4 140])
 (.ret))
 (.seq (.reg [mv 142 11,.o (.bin 143 .geq (sl 142) (ci 0)),mv 141 143])
 ((.cond (sl 141) (.seq (.reg [mv 144 11,mv 4 144])
 (.ret))
 .skip))))))))))
 ((.seq (.seq (.reg [mv 145 8,mv 146 1,.o (.call (some 147) (cf 100) [(sl 145), (ci 4), (sl 146)]),mv 21 147])
 ((.seq (.reg [mv 148 21,.o (.bin 149 .geq (sl 148) (ci 0))])
 ((.cond (sl 149) (.seq (.reg [mv 150 21,mv 4 150])
 (.ret))
 .skip)))))
 ((.seq (.block 8 (.seq (.reg [mv 152 16,.o (.bin 153 .geq (sl 152) (ci 0)),mv 151 153])
 ((.cond (sl 151) (.seq (.reg [mv 154 8,mv 155 16,.o (.bin 156 .shl (cv (.int .u64 1)) (sl 155)),.o (.bin 157 .andNot (sl 154) (sl 156)),mv 158 16,mv 159 16,mv 160 16,.o (.bslice 161 1 3 [(0, (sl 158)), (1, (sl 159)), (2, (sl 160))]),.o (.call (some 162) (cf 101) [(ci 3), (sl 157), (sl 161)]),mv 4 162])
 (.ret))
 (.seq (.reg [mv 164 18,.o (.bin 165 .geq (sl 164) (ci 0)),mv 163 165])
 ((.cond (sl 163) (.seq (.draw [177] [kr (mv 166 8),kr (mv 167 17),kr (.o (.bin 168 .shl (cv (.int .u64 1)) (sl 167))),kr (mv 169 18),kr (.o (.bin 170 .shl (cv (.int .u64 1)) (sl 169))),kr (.o (.bin 171 .or (sl 168) (sl 170))),kr (.o (.bin 172 .andNot (sl 166) (sl 171))),kr (mv 173 17),kr (mv 174 17),kr (mv 175 18),kr (mv 176 18),(kN, .o (.bslice 177 1 4 [(0, (sl 173)), (1, (sl 174)), (2, (sl 175)), (3, (sl 176))])),kr (.o (.call (some 178) (cf 101) [(ci 2), (sl 172), (sl 177)])),kr (mv 4 178)])
 (.ret))
 (.seq (.reg [mv 180 17,.o (.bin 181 .geq (sl 180) (ci 0)),mv 179 181])
 ((.cond (sl 179) (.seq (.reg [mv 182 8,mv 183 17,.o (.bin 184 .shl (cv (.int .u64 1)) (sl 183)),.o (.bin 185 .andNot (sl 182) (sl 184)),mv 186 17,mv 187 17,.o (.bslice 188 1 2 [(0, (sl 186)), (1, (sl 187))]),.o (.call (some 189) (cf 101) [(ci 1), (sl 185), (sl 188)]),mv 4 189])
 (.ret))
 .skip))))))))))
 ((.seq (.reg [mv 190 8,.o (.call (some 191) (cf 101) [(ci 0), (sl 190), (cv (.slice none 0 0))]),mv 4 191])
 (.ret))))))))))))))))))))))))))))
theorem q1gk {rin args Q} (ha : args.length <= 192) (h : fW 192 q1bn [.tmp 4] rin args Q) : Fun Tryz.prog 80 rin args Q :=
 Fun.of (H := ⟨[], []⟩) Tryz.func80 rfl rfl rfl (by kernel_rfl) ha (by decide) h

def q1bc : CC :=
 (.seq (.reg [.o (.box 2 (sl 0)),.o (.move 4 (ci 0))])
 ((.seq (.seq (.reg [fl 5 5 2,l1 6 5,.o (.bin 7 .eql (sl 6) (ci 3))])
 ((.cond (sl 7) (.seq (.reg [mv 8 1,.o (.call (some 9) (cf 80) [(sl 8), (cb false)]),mv 4 9])
 (.ret))
 .skip)))
 ((.seq (.reg [mv 10 1,.o (.call (some 11) (cf 106) [(sl 10)]),mv 4 11])
 (.ret))))))
theorem q1g9 {rin args Q} (ha : args.length <= 12) (h : fW 12 q1bc [.tmp 4] rin args Q) : Fun Tryz.prog 82 rin args Q :=
 Fun.of (H := ⟨[], []⟩) Tryz.func82 rfl rfl rfl (by kernel_rfl) ha (by decide) h

def q1as : CC :=
 (.seq (.reg [.o (.move 2 (cb false))])
 ((.seq (.reg [mv 3 0,.o (.call (some 4) (cf 40) [(sl 3), (ci 0), (ci 228487)]),mv 2 4])
 (.ret))))
theorem q1fr {rin args Q} (ha : args.length <= 5) (h : fW 5 q1as [.tmp 2] rin args Q) : Fun Tryz.prog 83 rin args Q :=
 Fun.of (H := ⟨[], []⟩) Tryz.func83 rfl rfl rfl (by kernel_rfl) ha (by decide) h

def q1ax : CC :=
 (.seq (.reg [mv 9 0,mv 10 1,l1 11 2,l1 12 3,.o (.call (some 13) (cf 85) [(sl 9), (sl 10), (sl 11), (sl 12)]),.o (.lenS 14 (sl 13)),.o (.move 15 (ci 0))])
 ((.block 0 (.loop (.seq (.reg [.o (.bin 16 .lss (sl 15) (sl 14))])
 ((.seq (.cond (sl 16) .skip
 (.exit 0))
 ((.seq (.block 1 (.seq (.reg [mv 17 15,ix 18 13 15,l1 19 18,mv 7 17,mv 8 19])
 ((.reg [l1 20 4,mv 21 7,ix 22 20 21,l1 23 22,mv 24 8,.o (.bin 25 .add (sl 23) (sl 24)),ix 26 20 21,.o (.store 1 (sl 26) (sl 25))]))))
 ((.reg [.o (.bin 27 .add (sl 15) (ci 1)),mv 15 27])))))))))))
theorem q1fw {rin args Q} (ha : args.length <= 28) (h : fW 28 q1ax [] rin args Q) : Fun Tryz.prog 84 rin args Q :=
 Fun.of (H := ⟨[], []⟩) Tryz.func84 rfl rfl rfl (by kernel_rfl) ha (by decide) h

def q1bj : CC :=
 (.seq (.reg [.o (.move 8 (cv (.slice none 0 0)))])
 ((.seq (.reg [mv 14 2,.o (.make 15 [.v (.int .i64 0)] 8 (sl 14) (sl 14)),mv 9 15])
 ((.seq (.reg [mv 16 1,.o (.lenS 17 (sl 16)),mv 10 17])
 ((.seq (.reg [mv 18 0,mv 19 10,.o (.bin 20 .rem (sl 18) (sl 19)),mv 11 20])
 ((.seq (.seq (.reg [mv 21 2,.o (.move 22 (ci 0))])
 ((.block 0 (.loop (.seq (.reg [.o (.bin 23 .lss (sl 22) (sl 21))])
 ((.seq (.cond (sl 23) .skip
 (.exit 0))
 ((.seq (.block 1 (.seq (.reg [mv 24 22,mv 12 24])
 ((.seq (.reg [mv 25 3,mv 26 12,.o (.bin 27 .add (sl 25) (sl 26)),mv 28 2,.o (.bin 29 .rem (sl 27) (sl 28)),mv 13 29])
 ((.seq (.seq (.reg [mv 30 1,mv 31 13,.o (.call (some 32) (cf 38) [(sl 30), (sl 31)]),.o (.un 33 .not (sl 32))])
 ((.cond (sl 33) (.exit 1)
 .skip)))
 ((.seq (.reg [mv 34 9,mv 35 13,mv 36 0,mv 37 10,.o (.bin 38 .quo (sl 36) (sl 37)),ix 39 34 35,.o (.store 1 (sl 39) (sl 38))])
 ((.seq (.reg [mv 40 11,.o (.bin 41 .gtr (sl 40) (ci 0))])
 ((.cond (sl 41) (.seq (.reg [mv 42 9,mv 43 13,ix 44 42 43,l1 45 44,.o (.bin 46 .add (sl 45) (ci 1)),ix 47 42 43,.o (.store 1 (sl 47) (sl 46))])
 ((.reg [mv 48 11,.o (.bin 49 .sub (sl 48) (ci 1)),mv 11 49])))
 .skip))))))))))))
 ((.reg [.o (.bin 50 .add (sl 22) (ci 1)),mv 22 50])))))))))))
 ((.seq (.reg [mv 51 9,mv 8 51])
 (.ret))))))))))))
theorem q1gg {rin args Q} (ha : args.length <= 52) (h : fW 52 q1bj [.tmp 8] rin args Q) : Fun Tryz.prog 85 rin args Q :=
 Fun.of (H := ⟨[], []⟩) Tryz.func85 rfl rfl rfl (by kernel_rfl) ha (by decide) h

def q1b7 : CC :=
 (.seq (.reg [.o (.move 4 (cv (.slice none 0 0)))])
 ((.seq (.reg [.o (.move 5 (cv (.slice none 0 0)))])
 ((.seq (.reg [.o (.move 6 (ci 0))])
 ((.seq (.seq (.reg [mv 9 0,.o (.lenS 10 (sl 9)),.o (.move 11 (ci 0))])
 ((.block 0 (.loop (.seq (.reg [.o (.bin 12 .lss (sl 11) (sl 10))])
 ((.seq (.cond (sl 12) .skip
 (.exit 0))
 ((.seq (.block 1 (.seq (.reg [ix 13 9 11,l1 14 13,mv 8 14])
 ((.seq (.seq (.reg [mv 15 1,mv 16 8,ix 17 15 16,l1 18 17,mv 19 6,.o (.bin 20 .gtr (sl 18) (sl 19))])
 ((.cond (sl 20) (.draw [] [kr (mv 21 1),kr (mv 22 8),kr (ix 23 21 22),kr (l1 24 23),kr (.o (.move 5 (cv (.slice none 0 0)))),kr (mv 6 24)])
 .skip)))
 ((.seq (.reg [mv 25 1,mv 26 8,ix 27 25 26,l1 28 27,mv 29 6,.o (.bin 30 .eql (sl 28) (sl 29))])
 ((.cond (sl 30) (.reg [mv 31 5,mv 32 8,.o (.bslice 33 1 1 [(0, (sl 32))]),.o (.app 34 1 8 (sl 31) (sl 33)),mv 5 34])
 .skip))))))))
 ((.reg [.o (.bin 35 .add (sl 11) (ci 1)),mv 11 35])))))))))))
 ((.seq (.reg [mv 36 5,mv 4 36])
 (.ret))))))))))
theorem q1g4 {rin args Q} (ha : args.length <= 37) (h : fW 37 q1b7 [.tmp 4] rin args Q) : Fun Tryz.prog 86 rin args Q :=
 Fun.of (H := ⟨[], []⟩) Tryz.func86 rfl rfl rfl (by kernel_rfl) ha (by decide) h

def q1bd : CC :=
 (.seq (.reg [.o (.move 4 (cv (.slice none 0 0)))])
 ((.seq (.reg [.o (.move 5 (cv (.slice none 0 0)))])
 ((.seq (.reg [.o (.move 6 (ci (-1)))])
 ((.seq (.seq (.reg [mv 9 0,.o (.lenS 10 (sl 9)),.o (.move 11 (ci 0))])
 ((.block 0 (.loop (.seq (.reg [.o (.bin 12 .lss (sl 11) (sl 10))])
 ((.seq (.cond (sl 12) .skip
 (.exit 0))
 ((.seq (.block 1 (.seq (.reg [ix 13 9 11,l1 14 13,mv 8 14])
 ((.seq (.seq (.reg [mv 15 1,mv 16 8,ix 17 15 16,l1 18 17,.o (.bin 19 .lss (sl 18) (ci 0))])
 ((.cond (sl 19) (.exit 1)
 .skip)))
 ((.seq (.seq (.reg [mv 20 6,.o (.bin 21 .lss (sl 20) (ci 0)),mv 22 21,.g 22 false (some 23) (.move 23 (sl 1)),.g 22 false (some 24) (.move 24 (sl 8)),.g 22 false (some 25) (.idx 25 1 (sl 23) (sl 24)),.g 22 false (some 26) (.load1 26 (sl 25)),.g 22 false (some 27) (.move 27 (sl 6)),.g 22 false (some 28) (.bin 28 .lss (sl 26) (sl 27)),.o (.pick 29 (sl 22) (cb true) (sl 28))])
 ((.cond (sl 29) (.draw [] [kr (mv 30 1),kr (mv 31 8),kr (ix 32 30 31),kr (l1 33 32),kr (.o (.move 5 (cv (.slice none 0 0)))),kr (mv 6 33)])
 .skip)))
 ((.seq (.reg [mv 34 1,mv 35 8,ix 36 34 35,l1 37 36,mv 38 6,.o (.bin 39 .eql (sl 37) (sl 38))])
 ((.cond (sl 39) (.reg [mv 40 5,mv 41 8,.o (.bslice 42 1 1 [(0, (sl 41))]),.o (.app 43 1 8 (sl 40) (sl 42)),mv 5 43])
 .skip))))))))))
 ((.reg [.o (.bin 44 .add (sl 11) (ci 1)),mv 11 44])))))))))))
 ((.seq (.reg [mv 45 5,mv 4 45])
 (.ret))))))))))
theorem q1ga {rin args Q} (ha : args.length <= 46) (h : fW 46 q1bd [.tmp 4] rin args Q) : Fun Tryz.prog 87 rin args Q :=
 Fun.of (H := ⟨[], []⟩) Tryz.func87 rfl rfl rfl (by kernel_rfl) ha (by decide) h

def q1c5 : CC :=
 (.seq (.reg [.o (.move 2 (cv (.slice none 0 0)))])
 ((.seq (.reg [.o (.bslice 5 1 0 []),mv 3 5])
 ((.seq (.seq (.reg [.o (.move 4 (ci 0))])
 ((.block 0 (.loop (.seq (.seq (.reg [mv 6 4,.o (.bin 7 .lss (sl 6) (ci 52))])
 ((.cond (sl 7) .skip
 (.exit 0))))
 ((.seq (.block 1 (.seq (.reg [mv 10 0,mv 11 4,.o (.call (some 12) (cf 107) [(sl 10), (sl 11)]),.o (.un 13 .not (sl 12))])
 ((.cond (sl 13) (.reg [mv 14 3,mv 15 4,.o (.bslice 16 1 1 [(0, (sl 15))]),.o (.app 17 1 8 (sl 14) (sl 16)),mv 3 17])
 .skip))))
 ((.reg [mv 8 4,.o (.bin 9 .add (sl 8) (ci 1)),mv 4 9])))))))))
 ((.seq (.reg [mv 18 3,mv 2 18])
 (.ret))))))))
theorem q1h2 {rin args Q} (ha : args.length <= 19) (h : fW 19 q1c5 [.tmp 2] rin args Q) : Fun Tryz.prog 88 rin args Q :=
 Fun.of (H := ⟨[], []⟩) Tryz.func88 rfl rfl rfl (by kernel_rfl) ha (by decide) h

def q1wg : CC :=
 (.seq (.reg [.o (.move 4 (ci 0))])
 ((.seq (.seq (.reg [mv 6 0,.o (.lenS 7 (sl 6)),.o (.move 8 (ci 0))])
 ((.block 0 (.loop (.seq (.reg [.o (.bin 9 .lss (sl 8) (sl 7))])
 ((.seq (.cond (sl 9) .skip
 (.exit 0))
 ((.seq (.block 1 (.seq (.reg [mv 10 8,mv 5 10])
 ((.seq (.reg [mv 11 1,mv 12 0,mv 13 5,ix 14 12 13,l1 15 14,.o (.call (some 16) (sl 11) [(sl 15)])])
 ((.cond (sl 16) (.seq (.reg [mv 17 5,mv 4 17])
 (.ret))
 .skip))))))
 ((.reg [.o (.bin 18 .add (sl 8) (ci 1)),mv 8 18])))))))))))
 ((.seq (.reg [.o (.move 4 (ci (-1)))])
 (.ret))))))
theorem q1y2 {rin args Q} (ha : args.length <= 19) (h : fW 19 q1wg [.tmp 4] rin args Q) : Fun Tryz.prog 89 rin args Q :=
 Fun.of (H := ⟨[], []⟩) Tryz.func89 rfl rfl rfl (by kernel_rfl) ha (by decide) h

def q1wd : CC :=
 (.seq (.reg [.o (.move 2 (cv (.slice none 0 0)))])
 ((.seq (.reg [mv 3 0,.o (.call (some 4) (cf 108) [(cv (.slice none 0 0)), (sl 3)]),mv 2 4])
 (.ret))))
theorem q1xz {rin args Q} (ha : args.length <= 5) (h : fW 5 q1wd [.tmp 2] rin args Q) : Fun Tryz.prog 90 rin args Q :=
 Fun.of (H := ⟨[], []⟩) Tryz.func90 rfl rfl rfl (by kernel_rfl) ha (by decide) h

def q20j : CC :=
 (.seq (.reg [l1 5 1,.o (.lenS 6 (sl 5)),.o (.move 7 (ci 0))])
 ((.block 0 (.loop (.seq (.reg [.o (.bin 8 .lss (sl 7) (sl 6))])
 ((.seq (.cond (sl 8) .skip
 (.exit 0))
 ((.seq (.block 1 (.seq (.reg [ix 9 5 7,l1 10 9,mv 4 10])
 ((.seq (.reg [mv 11 0,mv 12 4,.o (.call (some 13) (sl 11) [(sl 12)]),.o (.un 14 .not (sl 13))])
 ((.cond (sl 14) .ret
 .skip))))))
 ((.reg [.o (.bin 15 .add (sl 7) (ci 1)),mv 7 15])))))))))))
theorem q20k {rin args Q} (ha : args.length <= 16) (h : fW 16 q20j [] rin args Q) : Fun Tryz.prog 91 rin args Q :=
 Fun.of (H := ⟨[], []⟩) Tryz.func91 rfl rfl rfl (by kernel_rfl) ha (by decide) h

def q1c9 : CC :=
 (.seq (.reg [.o (.move 4 (cv (.slice none 0 0)))])
 ((.seq (.seq (.reg [mv 9 1,.o (.bin 10 .eql (sl 9) (ci 0))])
 ((.cond (sl 10) (.seq (.reg [.o (.bslice 11 1 0 []),.o (.bslice 12 1 1 [(0, (sl 11))]),mv 4 12])
 (.ret))
 .skip)))
 ((.seq (.reg [.o (.bslice 13 1 0 []),mv 5 13])
 ((.seq (.seq (.reg [.o (.move 6 (ci 0))])
 ((.block 0 (.loop (.seq (.seq (.reg [mv 14 6,mv 15 1,.o (.bin 16 .add (sl 14) (sl 15)),mv 17 0,.o (.lenS 18 (sl 17)),.o (.bin 19 .leq (sl 16) (sl 18))])
 ((.cond (sl 19) .skip
 (.exit 0))))
 ((.seq (.block 1 (.seq (.reg [mv 22 0,mv 23 6,.o (.bin 24 .add (sl 23) (ci 1)),.o (.slc 25 1 (sl 22) (some (sl 24)) none),mv 26 1,.o (.bin 27 .sub (sl 26) (ci 1)),.o (.call (some 28) (cf 94) [(sl 25), (sl 27)]),mv 7 28])
 ((.seq (.reg [.o (.move 8 (ci 0))])
 ((.block 2 (.loop (.seq (.seq (.reg [mv 29 8,mv 30 7,.o (.lenS 31 (sl 30)),.o (.bin 32 .lss (sl 29) (sl 31))])
 ((.cond (sl 32) .skip
 (.exit 2))))
 ((.seq (.block 3 (.draw [40] [(kE, mv 35 5),kr (mv 36 0),kr (mv 37 6),kr (ix 38 36 37),kr (l1 39 38),(kN, .o (.bslice 40 1 1 [(0, (sl 39))])),(.r false [40], mv 41 7),(.r false [40], mv 42 8),(.r false [40], ix 43 41 42),(.r false [40], l1 44 43),(kH, .o (.app 45 1 8 (sl 40) (sl 44))),(kH, .o (.bslice 46 1 1 [(0, (sl 45))])),(kH, .o (.app 47 1 24 (sl 35) (sl 46))),kr (mv 5 47)]))
 ((.reg [mv 33 8,.o (.bin 34 .add (sl 33) (ci 1)),mv 8 34]))))))))))))
 ((.reg [mv 20 6,.o (.bin 21 .add (sl 20) (ci 1)),mv 6 21])))))))))
 ((.seq (.reg [mv 48 5,mv 4 48])
 (.ret))))))))))
theorem q1h6 {rin args Q} (ha : args.length <= 49) (h : fW 49 q1c9 [.tmp 4] rin args Q) : Fun Tryz.prog 94 rin args Q :=
 Fun.of (H := ⟨[], []⟩) Tryz.func94 rfl rfl rfl (by kernel_rfl) ha (by decide) h

def q1ck : CC :=
 (.seq (.reg [.o (.box 3 (sl 0)),.o (.move 6 (cv (.slice none 0 0)))])
 ((.seq (.reg [.o (.bslice 13 1 0 []),mv 7 13])
 ((.seq (.seq (.reg [fl 14 1 3,l1 15 14,mv 8 15])
 ((.block 0 (.loop (.seq (.seq (.reg [mv 16 8,fl 17 2 3,l1 18 17,.o (.bin 19 .leq (sl 16) (sl 18))])
 ((.cond (sl 19) .skip
 (.exit 0))))
 ((.seq (.block 1 (.seq (.seq (.reg [mv 22 8,.o (.bin 23 .sub (ci 5) (sl 22)),fl 24 3 3,l1 25 24,.o (.bin 26 .gtr (sl 23) (sl 25))])
 ((.cond (sl 26) (.exit 1)
 .skip)))
 ((.seq (.reg [mv 27 1,mv 28 8,.o (.call (some 29) (cf 94) [(sl 27), (sl 28)]),mv 9 29])
 ((.seq (.reg [mv 30 2,mv 31 8,.o (.bin 32 .sub (ci 5) (sl 31)),.o (.call (some 33) (cf 94) [(sl 30), (sl 32)]),mv 10 33])
 ((.seq (.reg [.o (.move 11 (ci 0))])
 ((.block 2 (.loop (.seq (.seq (.reg [mv 34 11,mv 35 9,.o (.lenS 36 (sl 35)),.o (.bin 37 .lss (sl 34) (sl 36))])
 ((.cond (sl 37) .skip
 (.exit 2))))
 ((.seq (.block 3 (.seq (.reg [.o (.move 12 (ci 0))])
 ((.block 4 (.loop (.seq (.seq (.reg [mv 40 12,mv 41 10,.o (.lenS 42 (sl 41)),.o (.bin 43 .lss (sl 40) (sl 42))])
 ((.cond (sl 43) .skip
 (.exit 4))))
 ((.seq (.block 5 (.draw [51] [(kE, mv 46 7),kr (mv 47 9),kr (mv 48 11),kr (ix 49 47 48),kr (l1 50 49),(.c false [], .o (.call (some 51) (cf 43) [(sl 50)])),(.r false [51], mv 52 10),(.r false [51], mv 53 12),(.r false [51], ix 54 52 53),(.r false [51], l1 55 54),(kH, .o (.app 56 1 8 (sl 51) (sl 55))),(kH, .o (.bslice 57 1 1 [(0, (sl 56))])),(kH, .o (.app 58 1 24 (sl 46) (sl 57))),kr (mv 7 58)]))
 ((.reg [mv 44 12,.o (.bin 45 .add (sl 44) (ci 1)),mv 12 45]))))))))))
 ((.reg [mv 38 11,.o (.bin 39 .add (sl 38) (ci 1)),mv 11 39]))))))))))))))))
 ((.reg [mv 20 8,.o (.bin 21 .add (sl 20) (ci 1)),mv 8 21])))))))))
 ((.seq (.reg [mv 59 7,mv 6 59])
 (.ret))))))))
theorem q1hh {rin args Q} (ha : args.length <= 60) (h : fW 60 q1ck [.tmp 6] rin args Q) : Fun Tryz.prog 95 rin args Q :=
 Fun.of (H := ⟨[], []⟩) Tryz.func95 rfl rfl rfl (by kernel_rfl) ha (by decide) h

def q1cl : CC :=
 (.seq (.reg [.o (.move 2 (ci 0)),.o (.move 3 (ci 0))])
 ((.seq (.reg [.o (.move 4 (ci 0)),.o (.move 5 (ci (-1)))])
 ((.seq (.seq (.reg [.o (.move 6 (ci 0))])
 ((.block 0 (.loop (.seq (.seq (.reg [mv 8 6,mv 9 0,.o (.lenS 10 (sl 9)),.o (.bin 11 .lss (sl 8) (sl 10))])
 ((.cond (sl 11) .skip
 (.exit 0))))
 ((.seq (.block 1 (.seq (.reg [mv 14 0,mv 15 6,ix 16 14 15,l1 17 16,.o (.call (some 18) (cf 120) [(sl 17)]),mv 7 18])
 ((.seq (.reg [mv 19 7,mv 20 5,.o (.bin 21 .gtr (sl 19) (sl 20))])
 ((.cond (sl 21) (.reg [mv 22 6,mv 23 7,mv 4 22,mv 5 23])
 .skip))))))
 ((.reg [mv 12 6,.o (.bin 13 .add (sl 12) (ci 1)),mv 6 13])))))))))
 ((.seq (.reg [mv 24 4,mv 25 5,mv 2 24,mv 3 25])
 (.ret))))))))
theorem q1hi {rin args Q} (ha : args.length <= 26) (h : fW 26 q1cl [.tmp 2, .tmp 3] rin args Q) : Fun Tryz.prog 96 rin args Q :=
 Fun.of (H := ⟨[], []⟩) Tryz.func96 rfl rfl rfl (by kernel_rfl) ha (by decide) h

def q1cm : CC :=
 (.seq (.reg [.o (.box 2 (sl 0)),.o (.move 4 (ci 0)),.o (.move 5 (ci 0))])
 ((.seq (.reg [.o (.move 6 (ci 0)),.o (.move 7 (ci (-1)))])
 ((.seq (.seq (.reg [.o (.move 8 (ci 0))])
 ((.block 0 (.loop (.seq (.seq (.reg [mv 10 8,mv 11 1,.o (.lenS 12 (sl 11)),.o (.bin 13 .lss (sl 10) (sl 12))])
 ((.cond (sl 13) .skip
 (.exit 0))))
 ((.seq (.block 1 (.seq (.reg [mv 16 1,mv 17 8,ix 18 16 17,l1 19 18,.o (.call (some 20) (cf 121) [(sl 19)]),mv 9 20])
 ((.seq (.seq (.reg [fl 21 5 2,l1 22 21,.o (.bin 23 .eql (sl 22) (ci 3))])
 ((.cond (sl 23) (.reg [mv 24 1,mv 25 8,ix 26 24 25,l1 27 26,.o (.call (some 28) (cf 122) [(sl 27)]),mv 9 28])
 .skip)))
 ((.seq (.reg [mv 29 7,.o (.bin 30 .lss (sl 29) (ci 0)),mv 31 30,.g 31 false (some 32) (.move 32 (sl 9)),.g 31 false (some 33) (.move 33 (sl 7)),.g 31 false (some 34) (.bin 34 .lss (sl 32) (sl 33)),.o (.pick 35 (sl 31) (cb true) (sl 34))])
 ((.cond (sl 35) (.reg [mv 36 8,mv 37 9,mv 6 36,mv 7 37])
 .skip))))))))
 ((.reg [mv 14 8,.o (.bin 15 .add (sl 14) (ci 1)),mv 8 15])))))))))
 ((.seq (.reg [mv 38 6,mv 39 7,mv 4 38,mv 5 39])
 (.ret))))))))
theorem q1hj {rin args Q} (ha : args.length <= 40) (h : fW 40 q1cm [.tmp 4, .tmp 5] rin args Q) : Fun Tryz.prog 97 rin args Q :=
 Fun.of (H := ⟨[], []⟩) Tryz.func97 rfl rfl rfl (by kernel_rfl) ha (by decide) h

def q1cj : CC :=
 (.seq (.reg [.o (.box 2 (sl 0)),.o (.move 4 (cb false))])
 ((.seq (.reg [fl 5 5 2,l1 6 5,.o (.bin 7 .neq (sl 6) (ci 1)),mv 8 7,.g 8 false (some 9) (.move 9 (sl 1)),.g 8 false (some 10) (.call (some 10) (cf 123) [(sl 9)]),.o (.pick 11 (sl 8) (cb true) (sl 10)),mv 4 11])
 (.ret))))
theorem q1hg {rin args Q} (ha : args.length <= 12) (h : fW 12 q1cj [.tmp 4] rin args Q) : Fun Tryz.prog 98 rin args Q :=
 Fun.of (H := ⟨[], []⟩) Tryz.func98 rfl rfl rfl (by kernel_rfl) ha (by decide) h

def q1cp : CC :=
 (.seq (.reg [.o (.move 6 (cv (.slice none 0 0)))])
 ((.seq (.reg [.o (.bslice 11 1 0 []),mv 7 11])
 ((.seq (.reg [.o (.move 8 (ci (-1)))])
 ((.seq (.seq (.reg [.o (.move 9 (ci 0))])
 ((.block 0 (.loop (.seq (.seq (.reg [mv 12 9,mv 13 0,.o (.lenS 14 (sl 13)),.o (.bin 15 .lss (sl 12) (sl 14))])
 ((.cond (sl 15) .skip
 (.exit 0))))
 ((.seq (.block 1 (.seq (.reg [mv 18 1,mv 19 0,mv 20 9,ix 21 19 20,l1 22 21,ix 23 18 22,l1 24 23,mv 10 24])
 ((.block 2 (.seq (.reg [mv 26 10,.o (.bin 27 .lss (sl 26) (ci 0)),mv 25 27])
 ((.cond (sl 25) (.exit 1)
 (.seq (.reg [mv 29 8,.o (.bin 30 .lss (sl 29) (ci 0)),mv 31 30,.g 31 false (some 32) (.move 32 (sl 2)),.g 31 false (some 33) (.move 33 (sl 32)),.g 33 true (some 34) (.move 34 (sl 10)),.g 33 true (some 35) (.move 35 (sl 8)),.g 33 true (some 36) (.bin 36 .gtr (sl 34) (sl 35)),.g 31 false (some 37) (.pick 37 (sl 33) (sl 36) (cb false)),.o (.pick 38 (sl 31) (cb true) (sl 37)),mv 39 38,.g 39 false (some 40) (.move 40 (sl 2)),.g 39 false (some 41) (.un 41 .not (sl 40)),.g 39 false (some 42) (.move 42 (sl 41)),.g 42 true (some 43) (.move 43 (sl 10)),.g 42 true (some 44) (.move 44 (sl 8)),.g 42 true (some 45) (.bin 45 .lss (sl 43) (sl 44)),.g 39 false (some 46) (.pick 46 (sl 42) (sl 45) (cb false)),.o (.pick 47 (sl 39) (cb true) (sl 46)),mv 28 47])
 ((.cond (sl 28) (.seq (.reg [mv 48 10,mv 8 48])
 ((.reg [mv 49 0,mv 50 9,ix 51 49 50,l1 52 51,.o (.bslice 53 1 1 [(0, (sl 52))]),mv 7 53])))
 (.seq (.reg [mv 55 10,mv 56 8,.o (.bin 57 .eql (sl 55) (sl 56)),mv 54 57])
 ((.cond (sl 54) (.reg [mv 58 7,mv 59 0,mv 60 9,ix 61 59 60,l1 62 61,.o (.bslice 63 1 1 [(0, (sl 62))]),.o (.app 64 1 8 (sl 58) (sl 63)),mv 7 64])
 .skip)))))))))))))
 ((.reg [mv 16 9,.o (.bin 17 .add (sl 16) (ci 1)),mv 9 17])))))))))
 ((.seq (.reg [mv 65 7,mv 6 65])
 (.ret))))))))))
theorem q1hm {rin args Q} (ha : args.length <= 66) (h : fW 66 q1cp [.tmp 6] rin args Q) : Fun Tryz.prog 99 rin args Q :=
 Fun.of (H := ⟨[], []⟩) Tryz.func99 rfl rfl rfl (by kernel_rfl) ha (by decide) h

def q1bl : CC :=
 (.seq (.reg [.o (.move 6 (ci 0))])
 ((.seq (.seq (.reg [.o (.move 7 (ci 12))])
 ((.block 0 (.loop (.seq (.seq (.reg [mv 8 7,.o (.bin 9 .geq (sl 8) (ci 4))])
 ((.cond (sl 9) .skip
 (.exit 0))))
 ((.seq (.block 1 (.seq (.reg [mv 12 0,mv 13 7,.o (.bin 14 .sub (sl 13) (ci 4)),.o (.bin 15 .shr (sl 12) (sl 14)),.o (.bin 16 .and (sl 15) (cv (.int .u64 31))),.o (.bin 17 .eql (sl 16) (cv (.int .u64 31)))])
 ((.cond (sl 17) (.seq (.reg [mv 18 1,mv 19 7,mv 20 7,.o (.bin 21 .sub (sl 20) (ci 1)),mv 22 7,.o (.bin 23 .sub (sl 22) (ci 2)),mv 24 7,.o (.bin 25 .sub (sl 24) (ci 3)),mv 26 7,.o (.bin 27 .sub (sl 26) (ci 4)),.o (.bslice 28 1 5 [(0, (sl 19)), (1, (sl 21)), (2, (sl 23)), (3, (sl 25)), (4, (sl 27))]),.o (.call (some 29) (cf 102) [(sl 18), (sl 28)]),mv 6 29])
 (.ret))
 .skip))))
 ((.reg [mv 10 7,.o (.bin 11 .sub (sl 10) (ci 1)),mv 7 11])))))))))
 ((.seq (.seq (.reg [mv 30 2,mv 31 30,.g 31 true (some 32) (.move 32 (sl 0)),.g 31 true (some 33) (.bin 33 .and (sl 32) (cv (.int .u64 4111))),.g 31 true (some 34) (.bin 34 .eql (sl 33) (cv (.int .u64 4111))),.o (.pick 35 (sl 31) (sl 34) (cb false))])
 ((.cond (sl 35) (.seq (.reg [mv 36 1,.o (.bslice 37 1 5 [(0, (ci 3)), (1, (ci 2)), (2, (ci 1)), (3, (ci 0)), (4, (ci 12))]),.o (.call (some 38) (cf 102) [(sl 36), (sl 37)]),mv 6 38])
 (.ret))
 .skip)))
 ((.seq (.reg [.o (.move 6 (ci (-1)))])
 (.ret))))))))
theorem q1gi {rin args Q} (ha : args.length <= 39) (h : fW 39 q1bl [.tmp 6] rin args Q) : Fun Tryz.prog 100 rin args Q :=
 Fun.of (H := ⟨[], []⟩) Tryz.func100 rfl rfl rfl (by kernel_rfl) ha (by decide) h

def q1bm : CC :=
 (.seq (.reg [.o (.move 6 (ci 0))])
 ((.seq (.reg [mv 10 0,mv 11 2,.o (.call (some 12) (cf 102) [(sl 10), (sl 11)]),mv 7 12])
 ((.seq (.seq (.reg [mv 13 2,.o (.lenS 14 (sl 13)),mv 8 14,.o (.move 9 (ci 12))])
 ((.block 0 (.loop (.seq (.seq (.reg [mv 15 8,.o (.bin 16 .lss (sl 15) (ci 5))])
 ((.cond (sl 16) .skip
 (.exit 0))))
 ((.seq (.block 1 (.seq (.reg [mv 19 1,mv 20 9,.o (.bin 21 .shr (sl 19) (sl 20)),.o (.bin 22 .and (sl 21) (cv (.int .u64 1))),.o (.bin 23 .eql (sl 22) (cv (.int .u64 1)))])
 ((.cond (sl 23) (.seq (.reg [mv 24 7,.o (.bin 25 .mul (sl 24) (ci 13)),mv 26 9,.o (.bin 27 .add (sl 25) (sl 26)),mv 7 27])
 ((.reg [mv 28 8,.o (.bin 29 .add (sl 28) (ci 1)),mv 8 29])))
 .skip))))
 ((.reg [mv 17 9,.o (.bin 18 .sub (sl 17) (ci 1)),mv 9 18])))))))))
 ((.seq (.reg [mv 30 7,mv 6 30])
 (.ret))))))))
theorem q1gj {rin args Q} (ha : args.length <= 31) (h : fW 31 q1bm [.tmp 6] rin args Q) : Fun Tryz.prog 101 rin args Q :=
 Fun.of (H := ⟨[], []⟩) Tryz.func101 rfl rfl rfl (by kernel_rfl) ha (by decide) h

def q1b9 : CC :=
 (.seq (.reg [.o (.move 4 (ci 0))])
 ((.seq (.seq (.reg [mv 7 1,.o (.lenS 8 (sl 7)),.o (.move 9 (ci 0))])
 ((.block 0 (.loop (.seq (.reg [.o (.bin 10 .lss (sl 9) (sl 8))])
 ((.seq (.cond (sl 10) .skip
 (.exit 0))
 ((.seq (.block 1 (.seq (.reg [ix 11 7 9,l1 12 11,mv 6 12])
 ((.reg [mv 13 0,.o (.bin 14 .mul (sl 13) (ci 13)),mv 15 6,.o (.bin 16 .add (sl 14) (sl 15)),mv 0 16]))))
 ((.reg [.o (.bin 17 .add (sl 9) (ci 1)),mv 9 17])))))))))))
 ((.seq (.reg [mv 18 0,mv 4 18])
 (.ret))))))
theorem q1g6 {rin args Q} (ha : args.length <= 19) (h : fW 19 q1b9 [.tmp 4] rin args Q) : Fun Tryz.prog 102 rin args Q :=
 Fun.of (H := ⟨[], []⟩) Tryz.func102 rfl rfl rfl (by kernel_rfl) ha (by decide) h

def q1b2 : CC :=
 (.seq (.reg [.o (.move 4 (cv (.slice none 0 0)))])
 ((.seq (.reg [mv 8 1,.o (.lenS 9 (sl 8)),.o (.make 10 [.v (.int .i64 0)] 8 (sl 9) (sl 9)),mv 5 10])
 ((.seq (.seq (.reg [mv 11 1,.o (.lenS 12 (sl 11)),.o (.move 13 (ci 0))])
 ((.block 0 (.loop (.seq (.reg [.o (.bin 14 .lss (sl 13) (sl 12))])
 ((.seq (.cond (sl 14) .skip
 (.exit 0))
 ((.seq (.block 1 (.seq (.reg [mv 15 13,ix 16 11 13,l1 17 16,mv 6 15,mv 7 17])
 ((.reg [mv 18 5,mv 19 6,mv 20 0,mv 21 7,ix 22 20 21,l1 23 22,ix 24 18 19,.o (.store 1 (sl 24) (sl 23))]))))
 ((.reg [.o (.bin 25 .add (sl 13) (ci 1)),mv 13 25])))))))))))
 ((.seq (.reg [mv 26 5,mv 4 26])
 (.ret))))))))
theorem q1g0 {rin args Q} (ha : args.length <= 27) (h : fW 27 q1b2 [.tmp 4] rin args Q) : Fun Tryz.prog 105 rin args Q :=
 Fun.of (H := ⟨[], []⟩) Tryz.func105 rfl rfl rfl (by kernel_rfl) ha (by decide) h

def q1av : CC :=
 (.seq (.reg [.o (.move 2 (ci 0))])
 ((.seq (.reg [.o (.alloc 3 [.v (.int .i64 0), .v (.int .i64 0), .v (.int .i64 0), .v (.int .i64 0), .v (.int .i64 0), .v (.int .i64 0), .v (.int .i64 0), .v (.int .i64 0), .v (.int .i64 0), .v (.int .i64 0), .v (.int .i64 0), .v (.int .i64 0), .v (.int .i64 0)])])
 ((.seq (.seq (.reg [mv 12 0,.o (.lenS 13 (sl 12)),.o (.move 14 (ci 0))])
 ((.block 0 (.loop (.seq (.reg [.o (.bin 15 .lss (sl 14) (sl 13))])
 ((.seq (.cond (sl 15) .skip
 (.exit 0))
 ((.seq (.block 1 (.seq (.reg [ix 16 12 14,l1 17 16,mv 5 17])
 ((.reg [mv 18 5,.o (.call (some 19) (cf 125) [(sl 18)]),.o (.idxA 20 13 1 (sl 3) (sl 19)),l1 21 20,.o (.bin 22 .add (sl 21) (ci 1)),.o (.idxA 23 13 1 (sl 3) (sl 19)),.o (.store 1 (sl 23) (sl 22))]))))
 ((.reg [.o (.bin 24 .add (sl 14) (ci 1)),mv 14 24])))))))))))
 ((.seq (.reg [.o (.move 6 (ci 0))])
 ((.seq (.reg [.o (.move 7 (ci 0)),.o (.move 8 (ci 0))])
 ((.seq (.seq (.reg [.o (.move 9 (ci 4))])
 ((.block 2 (.loop (.seq (.seq (.reg [mv 25 9,.o (.bin 26 .gtr (sl 25) (ci 0))])
 ((.cond (sl 26) .skip
 (.exit 2))))
 ((.seq (.block 3 (.seq (.reg [.o (.move 10 (ci 12))])
 ((.block 4 (.loop (.seq (.seq (.reg [mv 29 10,.o (.bin 30 .geq (sl 29) (ci 0))])
 ((.cond (sl 30) .skip
 (.exit 4))))
 ((.seq (.block 5 (.seq (.seq (.reg [mv 33 10,.o (.idxA 34 13 1 (sl 3) (sl 33)),l1 35 34,mv 36 9,.o (.bin 37 .neq (sl 35) (sl 36))])
 ((.cond (sl 37) (.exit 5)
 .skip)))
 ((.seq (.reg [mv 38 8,mv 39 9,.o (.mm 40 true (sl 38) (sl 39)),mv 8 40])
 ((.seq (.seq (.reg [mv 41 9,.o (.bin 42 .eql (sl 41) (ci 2))])
 ((.cond (sl 42) (.reg [mv 43 7,.o (.bin 44 .add (sl 43) (ci 1)),mv 7 44])
 .skip)))
 ((.seq (.reg [mv 45 9,.o (.move 46 (ci 0))])
 ((.block 6 (.loop (.seq (.reg [.o (.bin 47 .lss (sl 46) (sl 45))])
 ((.seq (.cond (sl 47) .skip
 (.exit 6))
 ((.seq (.block 7 (.reg [mv 48 6,.o (.bin 49 .mul (sl 48) (ci 13)),mv 50 10,.o (.bin 51 .add (sl 49) (sl 50)),mv 6 51]))
 ((.reg [.o (.bin 52 .add (sl 46) (ci 1)),mv 46 52]))))))))))))))))))
 ((.reg [mv 31 10,.o (.bin 32 .sub (sl 31) (ci 1)),mv 10 32]))))))))))
 ((.reg [mv 27 9,.o (.bin 28 .sub (sl 27) (ci 1)),mv 9 28])))))))))
 ((.seq (.reg [mv 53 7,mv 11 53])
 ((.seq (.block 8 (.seq (.reg [mv 55 8,.o (.bin 56 .eql (sl 55) (ci 4)),mv 54 56])
 ((.cond (sl 54) (.reg [.o (.move 11 (ci 5))])
 (.seq (.reg [mv 58 8,.o (.bin 59 .eql (sl 58) (ci 3)),mv 57 59])
 ((.cond (sl 57) (.reg [mv 60 7,.o (.bin 61 .add (ci 3) (sl 60)),mv 11 61])
 .skip)))))))
 ((.seq (.reg [mv 62 6,mv 63 11,.o (.bin 64 .mul (sl 63) (ci 371293)),.o (.bin 65 .add (sl 62) (sl 64)),mv 2 65])
 (.ret))))))))))))))))))
theorem q1fu {rin args Q} (ha : args.length <= 66) (h : fW 66 q1av [.tmp 2] rin args Q) : Fun Tryz.prog 106 rin args Q :=
 Fun.of (H := ⟨[], []⟩) Tryz.func106 rfl rfl rfl (by kernel_rfl) ha (by decide) h

def q1c2 : CC :=
 (.seq (.reg [.o (.move 4 (cb false))])
 ((.seq (.seq (.reg [.o (.move 5 (ci 0))])
 ((.block 0 (.loop (.seq (.seq (.reg [mv 6 5,mv 7 0,.o (.lenS 8 (sl 7)),.o (.bin 9 .lss (sl 6) (sl 8))])
 ((.cond (sl 9) .skip
 (.exit 0))))
 ((.seq (.block 1 (.seq (.reg [mv 12 0,mv 13 5,ix 14 12 13,l1 15 14,mv 16 1,.o (.bin 17 .eql (sl 15) (sl 16))])
 ((.cond (sl 17) (.seq (.reg [.o (.move 4 (cb true))])
 (.ret))
 .skip))))
 ((.reg [mv 10 5,.o (.bin 11 .add (sl 10) (ci 1)),mv 5 11])))))))))
 ((.seq (.reg [.o (.move 4 (cb false))])
 (.ret))))))
theorem q1gz {rin args Q} (ha : args.length <= 18) (h : fW 18 q1c2 [.tmp 4] rin args Q) : Fun Tryz.prog 107 rin args Q :=
 Fun.of (H := ⟨[], []⟩) Tryz.func107 rfl rfl rfl (by kernel_rfl) ha (by decide) h

def q1wb : CC :=
 (.seq (.reg [.o (.box 2 (sl 0)),.o (.move 4 (cv (.slice none 0 0)))])
 ((.seq (.seq (.reg [mv 6 1])
 ((.block 0 (.rng (sl 6) [7] (.reg [mv 5 7])
 (.block 1 (.reg [l1 8 2,mv 9 5,.o (.bslice 10 1 1 [(0, (sl 9))]),.o (.app 11 1 8 (sl 8) (sl 10)),.o (.store 1 (sl 2) (sl 11))]))))))
 ((.seq (.reg [l1 12 2,mv 4 12])
 (.ret))))))
theorem q1xx {rin args Q} (ha : args.length <= 13) (h : fW 13 q1wb [.tmp 4] rin args Q) : Fun Tryz.prog 108 rin args Q :=
 Fun.of (H := ⟨[], []⟩) Tryz.func108 rfl rfl rfl (by kernel_rfl) ha (by decide) h

def q1cd : CC :=
 (.seq (.reg [.o (.move 2 (ci 0))])
 ((.seq (.reg [mv 3 0,.o (.call (some 4) (cf 132) [(sl 3)]),.o (.bin 5 .mul (ci 371293) (sl 4)),mv 6 0,.o (.call (some 7) (cf 134) [(sl 6)]),.o (.call (some 8) (cf 133) [(sl 7)]),.o (.bin 9 .add (sl 5) (sl 8)),mv 2 9])
 (.ret))))
theorem q1ha {rin args Q} (ha : args.length <= 10) (h : fW 10 q1cd [.tmp 2] rin args Q) : Fun Tryz.prog 120 rin args Q :=
 Fun.of (H := ⟨[], []⟩) Tryz.func120 rfl rfl rfl (by kernel_rfl) ha (by decide) h

def q1ce : CC :=
 (.seq (.reg [.o (.move 2 (ci 0))])
 ((.seq (.reg [mv 4 0,.o (.call (some 5) (cf 135) [(sl 4)]),mv 3 5])
 ((.seq (.reg [mv 6 3,.o (.call (some 7) (cf 136) [(sl 6)]),.o (.bin 8 .mul (ci 371293) (sl 7)),mv 9 3,.o (.call (some 10) (cf 137) [(sl 9)]),.o (.call (some 11) (cf 133) [(sl 10)]),.o (.bin 12 .add (sl 8) (sl 11)),mv 2 12])
 (.ret))))))
theorem q1hb {rin args Q} (ha : args.length <= 13) (h : fW 13 q1ce [.tmp 2] rin args Q) : Fun Tryz.prog 121 rin args Q :=
 Fun.of (H := ⟨[], []⟩) Tryz.func121 rfl rfl rfl (by kernel_rfl) ha (by decide) h

def q1by : CC :=
 (.seq (.reg [.o (.move 2 (cb false))])
 ((.seq (.reg [mv 3 0,.o (.call (some 4) (cf 42) [(sl 3), (ci 0), (ci 228487)]),mv 2 4])
 (.ret))))
theorem q1gv {rin args Q} (ha : args.length <= 5) (h : fW 5 q1by [.tmp 2] rin args Q) : Fun Tryz.prog 123 rin args Q :=
 Fun.of (H := ⟨[], []⟩) Tryz.func123 rfl rfl rfl (by kernel_rfl) ha (by decide) h

def q1b0 : CC :=
 (.seq (.reg [l1 8 1,.o (.make 9 [.v (.int .i64 0)] 8 (sl 8) (sl 8)),mv 4 9])
 ((.seq (.seq (.reg [mv 10 4,.o (.lenS 11 (sl 10)),.o (.move 12 (ci 0))])
 ((.block 0 (.loop (.seq (.reg [.o (.bin 13 .lss (sl 12) (sl 11))])
 ((.seq (.cond (sl 13) .skip
 (.exit 0))
 ((.seq (.block 1 (.seq (.reg [mv 14 12,mv 5 14])
 ((.reg [mv 15 4,mv 16 5,mv 17 5,ix 18 15 16,.o (.store 1 (sl 18) (sl 17))]))))
 ((.reg [.o (.bin 19 .add (sl 12) (ci 1)),mv 12 19])))))))))))
 ((.seq (.seq (.reg [l1 20 1,l1 21 2,.o (.bin 22 .gtr (sl 20) (sl 21))])
 ((.cond (sl 22) .ret
 .skip)))
 ((.block 2 (.loop (.seq (.seq (.reg [mv 23 0,mv 24 4,.o (.call (some 25) (sl 23) [(sl 24)])])
 ((.cond (sl 25) .skip
 (.exit 2))))
 ((.block 3 (.seq (.reg [l1 26 1,.o (.bin 27 .sub (sl 26) (ci 1)),mv 6 27])
 ((.seq (.block 4 (.loop (.seq (.seq (.draw [] [kr (mv 28 6),kr (.o (.bin 29 .geq (sl 28) (ci 0))),kr (mv 30 29),(kR, .g 30 true (some 31) (.move 31 (sl 4))),(kR, .g 30 true (some 32) (.move 32 (sl 6))),(kR, .g 30 true (some 33) (.idx 33 1 (sl 31) (sl 32))),(kR, .g 30 true (some 34) (.load1 34 (sl 33))),(kR, .g 30 true (some 35) (.load1 35 (sl 2))),(kR, .g 30 true (some 36) (.load1 36 (sl 1))),(kR, .g 30 true (some 37) (.bin 37 .sub (sl 35) (sl 36))),(kR, .g 30 true (some 38) (.move 38 (sl 6))),(kR, .g 30 true (some 39) (.bin 39 .add (sl 37) (sl 38))),(kR, .g 30 true (some 40) (.bin 40 .eql (sl 34) (sl 39))),kr (.o (.pick 41 (sl 30) (sl 40) (cb false)))])
 ((.cond (sl 41) .skip
 (.exit 4))))
 ((.block 5 (.reg [mv 42 6,.o (.bin 43 .sub (sl 42) (ci 1)),mv 6 43]))))))
 ((.seq (.seq (.reg [mv 44 6,.o (.bin 45 .lss (sl 44) (ci 0))])
 ((.cond (sl 45) .ret
 .skip)))
 ((.seq (.reg [mv 46 4,mv 47 6,ix 48 46 47,l1 49 48,.o (.bin 50 .add (sl 49) (ci 1)),ix 51 46 47,.o (.store 1 (sl 51) (sl 50))])
 ((.seq (.reg [mv 52 6,.o (.bin 53 .add (sl 52) (ci 1)),mv 7 53])
 ((.block 6 (.loop (.seq (.seq (.reg [mv 54 7,l1 55 1,.o (.bin 56 .lss (sl 54) (sl 55))])
 ((.cond (sl 56) .skip
 (.exit 6))))
 ((.seq (.block 7 (.reg [mv 59 4,mv 60 7,mv 61 4,mv 62 7,.o (.bin 63 .sub (sl 62) (ci 1)),ix 64 61 63,l1 65 64,.o (.bin 66 .add (sl 65) (ci 1)),ix 67 59 60,.o (.store 1 (sl 67) (sl 66))]))
 ((.reg [mv 57 7,.o (.bin 58 .add (sl 57) (ci 1)),mv 7 58]))))))))))))))))))))))))))))
theorem q1fy {rin args Q} (ha : args.length <= 68) (h : fW 68 q1b0 [] rin args Q) : Fun Tryz.prog 124 rin args Q :=
 Fun.of (H := ⟨[], []⟩) Tryz.func124 rfl rfl rfl (by kernel_rfl) ha (by decide) h

def q1bb : CC :=
 (.seq (.reg [.o (.move 2 (ci 0))])
 ((.seq (.reg [mv 3 0,.o (.bin 4 .quo (sl 3) (ci 4)),.o (.bin 5 .add (sl 4) (ci 1)),.o (.bin 6 .rem (sl 5) (ci 13)),mv 2 6])
 (.ret))))
theorem q1g8 {rin args Q} (ha : args.length <= 7) (h : fW 7 q1bb [.tmp 2] rin args Q) : Fun Tryz.prog 125 rin args Q :=
 Fun.of (H := ⟨[], []⟩) Tryz.func125 rfl rfl rfl (by kernel_rfl) ha (by decide) h

def q1c8 : CC :=
 (.seq (.reg [.o (.move 2 (ci 0))])
 ((.seq (.reg [mv 8 0,.o (.call (some 9) (cf 138) [(sl 8)]),mv 3 9])
 ((.seq (.reg [.o (.make 10 [.v (.int .i64 0)] 8 (ci 5) (ci 5)),mv 4 10])
 ((.seq (.seq (.reg [.o (.move 5 (ci 0))])
 ((.block 0 (.loop (.seq (.seq (.reg [mv 11 5,.o (.bin 12 .lss (sl 11) (ci 13))])
 ((.cond (sl 12) .skip
 (.exit 0))))
 ((.seq (.block 1 (.reg [mv 15 4,mv 16 3,mv 17 5,ix 18 16 17,l1 19 18,ix 20 15 19,l1 21 20,.o (.bin 22 .add (sl 21) (ci 1)),ix 23 15 19,.o (.store 1 (sl 23) (sl 22))]))
 ((.reg [mv 13 5,.o (.bin 14 .add (sl 13) (ci 1)),mv 5 14])))))))))
 ((.seq (.draw [25] [kr (mv 24 0),(.c false [], .o (.call (some 25) (cf 140) [(sl 24)])),(.r false [25], mv 26 0),(.r false [25], .o (.idx 27 1 (sl 26) (ci 0))),(.r false [25], l1 28 27),(.r false [25], .o (.bin 29 .rem (sl 28) (ci 4))),kr (ix 30 25 29),kr (l1 31 30),kr (.o (.bin 32 .eql (sl 31) (ci 5))),kr (mv 6 32)])
 ((.seq (.reg [mv 33 3,.o (.call (some 34) (cf 139) [(sl 33)]),.o (.bin 35 .geq (sl 34) (ci 0)),mv 7 35])
 ((.seq (.block 2 (.seq (.reg [mv 37 7,mv 38 37,.g 38 true (some 39) (.move 39 (sl 6)),.o (.pick 40 (sl 38) (sl 39) (cb false)),mv 36 40])
 ((.cond (sl 36) (.seq (.reg [.o (.move 2 (ci 8))])
 (.ret))
 (.seq (.reg [mv 42 4,.o (.idx 43 1 (sl 42) (ci 4)),l1 44 43,.o (.bin 45 .eql (sl 44) (ci 1)),mv 41 45])
 ((.cond (sl 41) (.seq (.reg [.o (.move 2 (ci 7))])
 (.ret))
 (.seq (.reg [mv 47 4,.o (.idx 48 1 (sl 47) (ci 3)),l1 49 48,.o (.bin 50 .eql (sl 49) (ci 1)),mv 51 50,.g 51 true (some 52) (.move 52 (sl 4)),.g 51 true (some 53) (.idx 53 1 (sl 52) (ci 2)),.g 51 true (some 54) (.load1 54 (sl 53)),.g 51 true (some 55) (.bin 55 .eql (sl 54) (ci 1)),.o (.pick 56 (sl 51) (sl 55) (cb false)),mv 46 56])
 ((.cond (sl 46) (.seq (.reg [.o (.move 2 (ci 6))])
 (.ret))
 (.seq (.reg [mv 58 6,mv 57 58])
 ((.cond (sl 57) (.seq (.reg [.o (.move 2 (ci 5))])
 (.ret))
 (.seq (.reg [mv 60 7,mv 59 60])
 ((.cond (sl 59) (.seq (.reg [.o (.move 2 (ci 4))])
 (.ret))
 (.seq (.reg [mv 62 4,.o (.idx 63 1 (sl 62) (ci 3)),l1 64 63,.o (.bin 65 .eql (sl 64) (ci 1)),mv 61 65])
 ((.cond (sl 61) (.seq (.reg [.o (.move 2 (ci 3))])
 (.ret))
 (.seq (.reg [mv 67 4,.o (.idx 68 1 (sl 67) (ci 2)),l1 69 68,.o (.bin 70 .eql (sl 69) (ci 2)),mv 66 70])
 ((.cond (sl 66) (.seq (.reg [.o (.move 2 (ci 2))])
 (.ret))
 (.seq (.reg [mv 72 4,.o (.idx 73 1 (sl 72) (ci 2)),l1 74 73,.o (.bin 75 .eql (sl 74) (ci 1)),mv 71 75])
 ((.cond (sl 71) (.seq (.reg [.o (.move 2 (ci 1))])
 (.ret))
 .skip)))))))))))))))))))))))))
 ((.seq (.reg [.o (.move 2 (ci 0))])
 (.ret))))))))))))))))
theorem q1h5 {rin args Q} (ha : args.length <= 76) (h : fW 76 q1c8 [.tmp 2] rin args Q) : Fun Tryz.prog 132 rin args Q :=
 Fun.of (H := ⟨[], []⟩) Tryz.func132 rfl rfl rfl (by kernel_rfl) ha (by decide) h

def q1ca : CC :=
 (.seq (.reg [.o (.move 2 (ci 0))])
 ((.seq (.reg [.o (.move 3 (ci 0))])
 ((.seq (.seq (.reg [.o (.move 4 (ci 0))])
 ((.block 0 (.loop (.seq (.seq (.reg [mv 5 4,mv 6 0,.o (.lenS 7 (sl 6)),.o (.bin 8 .lss (sl 5) (sl 7))])
 ((.cond (sl 8) .skip
 (.exit 0))))
 ((.seq (.block 1 (.reg [mv 11 3,.o (.bin 12 .mul (ci 13) (sl 11)),mv 13 0,mv 14 4,ix 15 13 14,l1 16 15,.o (.bin 17 .add (sl 12) (sl 16)),mv 3 17]))
 ((.reg [mv 9 4,.o (.bin 10 .add (sl 9) (ci 1)),mv 4 10])))))))))
 ((.seq (.reg [mv 18 3,mv 2 18])
 (.ret))))))))
theorem q1h7 {rin args Q} (ha : args.length <= 19) (h : fW 19 q1ca [.tmp 2] rin args Q) : Fun Tryz.prog 133 rin args Q :=
 Fun.of (H := ⟨[], []⟩) Tryz.func133 rfl rfl rfl (by kernel_rfl) ha (by decide) h

def q1cb : CC :=
 (.seq (.reg [.o (.move 2 (cv (.slice none 0 0)))])
 ((.seq (.reg [mv 8 0,.o (.call (some 9) (cf 138) [(sl 8)]),mv 3 9])
 ((.seq (.seq (.reg [mv 10 3,.o (.call (some 11) (cf 139) [(sl 10)]),.o (.bin 12 .eql (sl 11) (ci 3))])
 ((.cond (sl 12) (.seq (.reg [.o (.bslice 13 1 5 [(0, (ci 3)), (1, (ci 2)), (2, (ci 1)), (3, (ci 0)), (4, (ci 12))]),mv 2 13])
 (.ret))
 .skip)))
 ((.seq (.reg [.o (.bslice 14 1 0 []),mv 4 14])
 ((.seq (.seq (.reg [.o (.move 5 (ci 4))])
 ((.block 0 (.loop (.seq (.seq (.reg [mv 15 5,.o (.bin 16 .geq (sl 15) (ci 1))])
 ((.cond (sl 16) .skip
 (.exit 0))))
 ((.seq (.block 1 (.seq (.reg [.o (.move 6 (ci 12))])
 ((.block 2 (.loop (.seq (.seq (.reg [mv 19 6,.o (.bin 20 .geq (sl 19) (ci 0))])
 ((.cond (sl 20) .skip
 (.exit 2))))
 ((.seq (.block 3 (.seq (.reg [.o (.move 7 (ci 0))])
 ((.block 4 (.loop (.seq (.seq (.reg [mv 23 7,mv 24 5,.o (.bin 25 .lss (sl 23) (sl 24)),mv 26 25,.g 26 true (some 27) (.move 27 (sl 3)),.g 26 true (some 28) (.move 28 (sl 6)),.g 26 true (some 29) (.idx 29 1 (sl 27) (sl 28)),.g 26 true (some 30) (.load1 30 (sl 29)),.g 26 true (some 31) (.move 31 (sl 5)),.g 26 true (some 32) (.bin 32 .eql (sl 30) (sl 31)),.o (.pick 33 (sl 26) (sl 32) (cb false))])
 ((.cond (sl 33) .skip
 (.exit 4))))
 ((.seq (.block 5 (.reg [mv 36 4,mv 37 6,.o (.bslice 38 1 1 [(0, (sl 37))]),.o (.app 39 1 8 (sl 36) (sl 38)),mv 4 39]))
 ((.reg [mv 34 7,.o (.bin 35 .add (sl 34) (ci 1)),mv 7 35]))))))))))
 ((.reg [mv 21 6,.o (.bin 22 .sub (sl 21) (ci 1)),mv 6 22]))))))))))
 ((.reg [mv 17 5,.o (.bin 18 .sub (sl 17) (ci 1)),mv 5 18])))))))))
 ((.seq (.reg [mv 40 4,mv 2 40])
 (.ret))))))))))))
theorem q1h8 {rin args Q} (ha : args.length <= 41) (h : fW 41 q1cb [.tmp 2] rin args Q) : Fun Tryz.prog 134 rin args Q :=
 Fun.of (H := ⟨[], []⟩) Tryz.func134 rfl rfl rfl (by kernel_rfl) ha (by decide) h

def q1cf : CC :=
 (.seq (.reg [.o (.move 2 (cv (.slice none 0 0)))])
 ((.seq (.reg [.o (.make 5 [.v (.int .i64 0)] 8 (ci 13) (ci 13)),mv 3 5])
 ((.seq (.seq (.reg [.o (.move 4 (ci 0))])
 ((.block 0 (.loop (.seq (.seq (.reg [mv 6 4,mv 7 0,.o (.lenS 8 (sl 7)),.o (.bin 9 .lss (sl 6) (sl 8))])
 ((.cond (sl 9) .skip
 (.exit 0))))
 ((.seq (.block 1 (.reg [mv 12 3,mv 13 0,mv 14 4,ix 15 13 14,l1 16 15,.o (.call (some 17) (cf 142) [(sl 16)]),ix 18 12 17,l1 19 18,.o (.bin 20 .add (sl 19) (ci 1)),ix 21 12 17,.o (.store 1 (sl 21) (sl 20))]))
 ((.reg [mv 10 4,.o (.bin 11 .add (sl 10) (ci 1)),mv 4 11])))))))))
 ((.seq (.reg [mv 22 3,mv 2 22])
 (.ret))))))))
theorem q1hc {rin args Q} (ha : args.length <= 23) (h : fW 23 q1cf [.tmp 2] rin args Q) : Fun Tryz.prog 135 rin args Q :=
 Fun.of (H := ⟨[], []⟩) Tryz.func135 rfl rfl rfl (by kernel_rfl) ha (by decide) h

def q1ch : CC :=
 (.seq (.reg [.o (.move 2 (ci 0))])
 ((.seq (.reg [.o (.make 5 [.v (.int .i64 0)] 8 (ci 5) (ci 5)),mv 3 5])
 ((.seq (.seq (.reg [.o (.move 4 (ci 0))])
 ((.block 0 (.loop (.seq (.seq (.reg [mv 6 4,.o (.bin 7 .lss (sl 6) (ci 13))])
 ((.cond (sl 7) .skip
 (.exit 0))))
 ((.seq (.block 1 (.reg [mv 10 3,mv 11 0,mv 12 4,ix 13 11 12,l1 14 13,ix 15 10 14,l1 16 15,.o (.bin 17 .add (sl 16) (ci 1)),ix 18 10 14,.o (.store 1 (sl 18) (sl 17))]))
 ((.reg [mv 8 4,.o (.bin 9 .add (sl 8) (ci 1)),mv 4 9])))))))))
 ((.seq (.block 2 (.seq (.reg [mv 20 3,.o (.idx 21 1 (sl 20) (ci 4)),l1 22 21,.o (.bin 23 .eql (sl 22) (ci 1)),mv 19 23])
 ((.cond (sl 19) (.seq (.reg [.o (.move 2 (ci 5))])
 (.ret))
 (.seq (.reg [mv 25 3,.o (.idx 26 1 (sl 25) (ci 3)),l1 27 26,.o (.bin 28 .eql (sl 27) (ci 1)),mv 29 28,.g 29 true (some 30) (.move 30 (sl 3)),.g 29 true (some 31) (.idx 31 1 (sl 30) (ci 2)),.g 29 true (some 32) (.load1 32 (sl 31)),.g 29 true (some 33) (.bin 33 .eql (sl 32) (ci 1)),.o (.pick 34 (sl 29) (sl 33) (cb false)),mv 24 34])
 ((.cond (sl 24) (.seq (.reg [.o (.move 2 (ci 4))])
 (.ret))
 (.seq (.reg [mv 36 3,.o (.idx 37 1 (sl 36) (ci 3)),l1 38 37,.o (.bin 39 .eql (sl 38) (ci 1)),mv 35 39])
 ((.cond (sl 35) (.seq (.reg [.o (.move 2 (ci 3))])
 (.ret))
 .skip))))))))))
 ((.seq (.reg [mv 40 3,.o (.idx 41 1 (sl 40) (ci 2)),l1 42 41,mv 2 42])
 (.ret))))))))))
theorem q1he {rin args Q} (ha : args.length <= 43) (h : fW 43 q1ch [.tmp 2] rin args Q) : Fun Tryz.prog 136 rin args Q :=
 Fun.of (H := ⟨[], []⟩) Tryz.func136 rfl rfl rfl (by kernel_rfl) ha (by decide) h

def q1cg : CC :=
 (.seq (.reg [.o (.move 2 (cv (.slice none 0 0)))])
 ((.seq (.reg [.o (.bslice 7 1 0 []),mv 3 7])
 ((.seq (.seq (.reg [.o (.move 4 (ci 4))])
 ((.block 0 (.loop (.seq (.seq (.reg [mv 8 4,.o (.bin 9 .geq (sl 8) (ci 1))])
 ((.cond (sl 9) .skip
 (.exit 0))))
 ((.seq (.block 1 (.seq (.reg [.o (.move 5 (ci 12))])
 ((.block 2 (.loop (.seq (.seq (.reg [mv 12 5,.o (.bin 13 .geq (sl 12) (ci 0))])
 ((.cond (sl 13) .skip
 (.exit 2))))
 ((.seq (.block 3 (.seq (.reg [.o (.move 6 (ci 0))])
 ((.block 4 (.loop (.seq (.seq (.reg [mv 16 6,mv 17 4,.o (.bin 18 .lss (sl 16) (sl 17)),mv 19 18,.g 19 true (some 20) (.move 20 (sl 0)),.g 19 true (some 21) (.move 21 (sl 5)),.g 19 true (some 22) (.idx 22 1 (sl 20) (sl 21)),.g 19 true (some 23) (.load1 23 (sl 22)),.g 19 true (some 24) (.move 24 (sl 4)),.g 19 true (some 25) (.bin 25 .eql (sl 23) (sl 24)),.o (.pick 26 (sl 19) (sl 25) (cb false))])
 ((.cond (sl 26) .skip
 (.exit 4))))
 ((.seq (.block 5 (.reg [mv 29 3,mv 30 5,.o (.bslice 31 1 1 [(0, (sl 30))]),.o (.app 32 1 8 (sl 29) (sl 31)),mv 3 32]))
 ((.reg [mv 27 6,.o (.bin 28 .add (sl 27) (ci 1)),mv 6 28]))))))))))
 ((.reg [mv 14 5,.o (.bin 15 .sub (sl 14) (ci 1)),mv 5 15]))))))))))
 ((.reg [mv 10 4,.o (.bin 11 .sub (sl 10) (ci 1)),mv 4 11])))))))))
 ((.seq (.reg [mv 33 3,mv 2 33])
 (.ret))))))))
theorem q1hd {rin args Q} (ha : args.length <= 34) (h : fW 34 q1cg [.tmp 2] rin args Q) : Fun Tryz.prog 137 rin args Q :=
 Fun.of (H := ⟨[], []⟩) Tryz.func137 rfl rfl rfl (by kernel_rfl) ha (by decide) h

def q1c6 : CC :=
 (.seq (.reg [.o (.move 2 (cv (.slice none 0 0)))])
 ((.seq (.reg [.o (.make 5 [.v (.int .i64 0)] 8 (ci 13) (ci 13)),mv 3 5])
 ((.seq (.seq (.reg [.o (.move 4 (ci 0))])
 ((.block 0 (.loop (.seq (.seq (.reg [mv 6 4,mv 7 0,.o (.lenS 8 (sl 7)),.o (.bin 9 .lss (sl 6) (sl 8))])
 ((.cond (sl 9) .skip
 (.exit 0))))
 ((.seq (.block 1 (.reg [mv 12 3,mv 13 0,mv 14 4,ix 15 13 14,l1 16 15,.o (.bin 17 .quo (sl 16) (ci 4)),ix 18 12 17,l1 19 18,.o (.bin 20 .add (sl 19) (ci 1)),ix 21 12 17,.o (.store 1 (sl 21) (sl 20))]))
 ((.reg [mv 10 4,.o (.bin 11 .add (sl 10) (ci 1)),mv 4 11])))))))))
 ((.seq (.reg [mv 22 3,mv 2 22])
 (.ret))))))))
theorem q1h3 {rin args Q} (ha : args.length <= 23) (h : fW 23 q1c6 [.tmp 2] rin args Q) : Fun Tryz.prog 138 rin args Q :=
 Fun.of (H := ⟨[], []⟩) Tryz.func138 rfl rfl rfl (by kernel_rfl) ha (by decide) h

def q1cc : CC :=
 (.seq (.reg [.o (.move 2 (ci 0))])
 ((.seq (.seq (.reg [.o (.move 3 (ci 12))])
 ((.block 0 (.loop (.seq (.seq (.reg [mv 4 3,.o (.bin 5 .geq (sl 4) (ci 4))])
 ((.cond (sl 5) .skip
 (.exit 0))))
 ((.seq (.block 1 (.seq (.reg [mv 8 0,mv 9 3,ix 10 8 9,l1 11 10,.o (.bin 12 .eql (sl 11) (ci 1)),mv 13 12,.g 13 true (some 14) (.move 14 (sl 0)),.g 13 true (some 15) (.move 15 (sl 3)),.g 13 true (some 16) (.bin 16 .sub (sl 15) (ci 1)),.g 13 true (some 17) (.idx 17 1 (sl 14) (sl 16)),.g 13 true (some 18) (.load1 18 (sl 17)),.g 13 true (some 19) (.bin 19 .eql (sl 18) (ci 1)),.o (.pick 20 (sl 13) (sl 19) (cb false)),mv 21 20,.g 21 true (some 22) (.move 22 (sl 0)),.g 21 true (some 23) (.move 23 (sl 3)),.g 21 true (some 24) (.bin 24 .sub (sl 23) (ci 2)),.g 21 true (some 25) (.idx 25 1 (sl 22) (sl 24)),.g 21 true (some 26) (.load1 26 (sl 25)),.g 21 true (some 27) (.bin 27 .eql (sl 26) (ci 1)),.o (.pick 28 (sl 21) (sl 27) (cb false)),mv 29 28,.g 29 true (some 30) (.move 30 (sl 0)),.g 29 true (some 31) (.move 31 (sl 3)),.g 29 true (some 32) (.bin 32 .sub (sl 31) (ci 3)),.g 29 true (some 33) (.idx 33 1 (sl 30) (sl 32)),.g 29 true (some 34) (.load1 34 (sl 33)),.g 29 true (some 35) (.bin 35 .eql (sl 34) (ci 1)),.o (.pick 36 (sl 29) (sl 35) (cb false)),mv 37 36,.g 37 true (some 38) (.move 38 (sl 0)),.g 37 true (some 39) (.move 39 (sl 3)),.g 37 true (some 40) (.bin 40 .sub (sl 39) (ci 4)),.g 37 true (some 41) (.idx 41 1 (sl 38) (sl 40)),.g 37 true (some 42) (.load1 42 (sl 41)),.g 37 true (some 43) (.bin 43 .eql (sl 42) (ci 1)),.o (.pick 44 (sl 37) (sl 43) (cb false))])
 ((.cond (sl 44) (.seq (.reg [mv 45 3,mv 2 45])
 (.ret))
 .skip))))
 ((.reg [mv 6 3,.o (.bin 7 .sub (sl 6) (ci 1)),mv 3 7])))))))))
 ((.seq (.seq (.reg [mv 46 0,.o (.idx 47 1 (sl 46) (ci 0)),l1 48 47,.o (.bin 49 .eql (sl 48) (ci 1)),mv 50 49,.g 50 true (some 51) (.move 51 (sl 0)),.g 50 true (some 52) (.idx 52 1 (sl 51) (ci 1)),.g 50 true (some 53) (.load1 53 (sl 52)),.g 50 true (some 54) (.bin 54 .eql (sl 53) (ci 1)),.o (.pick 55 (sl 50) (sl 54) (cb false)),mv 56 55,.g 56 true (some 57) (.move 57 (sl 0)),.g 56 true (some 58) (.idx 58 1 (sl 57) (ci 2)),.g 56 true (some 59) (.load1 59 (sl 58)),.g 56 true (some 60) (.bin 60 .eql (sl 59) (ci 1)),.o (.pick 61 (sl 56) (sl 60) (cb false)),mv 62 61,.g 62 true (some 63) (.move 63 (sl 0)),.g 62 true (some 64) (.idx 64 1 (sl 63) (ci 3)),.g 62 true (some 65) (.load1 65 (sl 64)),.g 62 true (some 66) (.bin 66 .eql (sl 65) (ci 1)),.o (.pick 67 (sl 62) (sl 66) (cb false)),mv 68 67,.g 68 true (some 69) (.move 69 (sl 0)),.g 68 true (some 70) (.idx 70 1 (sl 69) (ci 12)),.g 68 true (some 71) (.load1 71 (sl 70)),.g 68 true (some 72) (.bin 72 .eql (sl 71) (ci 1)),.o (.pick 73 (sl 68) (sl 72) (cb false))])
 ((.cond (sl 73) (.seq (.reg [.o (.move 2 (ci 3))])
 (.ret))
 .skip)))
 ((.seq (.reg [.o (.move 2 (ci (-1)))])
 (.ret))))))))
theorem q1h9 {rin args Q} (ha : args.length <= 74) (h : fW 74 q1cc [.tmp 2] rin args Q) : Fun Tryz.prog 139 rin args Q :=
 Fun.of (H := ⟨[], []⟩) Tryz.func139 rfl rfl rfl (by kernel_rfl) ha (by decide) h

def q1c7 : CC :=
 (.seq (.reg [.o (.move 2 (cv (.slice none 0 0)))])
 ((.seq (.reg [.o (.make 5 [.v (.int .i64 0)] 8 (ci 4) (ci 4)),mv 3 5])
 ((.seq (.seq (.reg [.o (.move 4 (ci 0))])
 ((.block 0 (.loop (.seq (.seq (.reg [mv 6 4,mv 7 0,.o (.lenS 8 (sl 7)),.o (.bin 9 .lss (sl 6) (sl 8))])
 ((.cond (sl 9) .skip
 (.exit 0))))
 ((.seq (.block 1 (.reg [mv 12 3,mv 13 0,mv 14 4,ix 15 13 14,l1 16 15,.o (.bin 17 .rem (sl 16) (ci 4)),ix 18 12 17,l1 19 18,.o (.bin 20 .add (sl 19) (ci 1)),ix 21 12 17,.o (.store 1 (sl 21) (sl 20))]))
 ((.reg [mv 10 4,.o (.bin 11 .add (sl 10) (ci 1)),mv 4 11])))))))))
 ((.seq (.reg [mv 22 3,mv 2 22])
 (.ret))))))))
theorem q1h4 {rin args Q} (ha : args.length <= 23) (h : fW 23 q1c7 [.tmp 2] rin args Q) : Fun Tryz.prog 140 rin args Q :=
 Fun.of (H := ⟨[], []⟩) Tryz.func140 rfl rfl rfl (by kernel_rfl) ha (by decide) h

def q1ci : CC :=
 (.seq (.reg [.o (.move 2 (ci 0))])
 ((.seq (.reg [mv 3 0,.o (.bin 4 .quo (sl 3) (ci 4)),.o (.bin 5 .add (sl 4) (ci 1)),.o (.bin 6 .rem (sl 5) (ci 13)),mv 2 6])
 (.ret))))
theorem q1hf {rin args Q} (ha : args.length <= 7) (h : fW 7 q1ci [.tmp 2] rin args Q) : Fun Tryz.prog 142 rin args Q :=
 Fun.of (H := ⟨[], []⟩) Tryz.func142 rfl rfl rfl (by kernel_rfl) ha (by decide) h

theorem q0f9 (n lo hi : Int) : Pure Tryz.prog 40 [.i n, .i lo, .i hi] (.b (decide (lo <= n /\ n <= hi))) := by
 refine q0at (by simp) ?_
 simp -implicitDefEqProofs only [q03v, go_sem]
 refine ⟨fun h => ?_, fun h => ?_⟩
 ·have : lo <= n := h
  simp [this]
 ·have : ¬ lo <= n := h
  simp [this]

def filled {α : Type} (l : List α) (f : α -> T) (z : T) (i : Nat) : List T := (l.take i).map f ++ List.replicate (l.length - i) z
theorem q0jc (z : T) (n : Nat) : made [z] n = List.replicate n z := rfl

theorem q0s4 (n lo hi : Int) : Pure Tryz.prog 42 [.i n, .i lo, .i hi] (.b (decide (lo <= n /\ n <= hi))) := by
 refine q0bk (by simp) ?_
 simp -implicitDefEqProofs only [q04m, go_sem]
 refine ⟨fun h => ?_, fun h => ?_⟩
 ·have : lo <= n := h
  simp [this]
 ·have : ¬ lo <= n := h
  simp [this]

theorem q20c (S : St) (bor : List Nat) : ∀ l : List T, vaL S [] bor (l.map A.t) (l.map A.t) = True
 | [] => by simp [vaL]
 | x :: l => by simp only [List.map_cons, vaL, va, q0xg, q20c S bor l, and_self]

theorem q1z8 (m : List (List Int)) (hm : (m.length : Int) <= 1000000000000) (f : Nat) (cap : List T) (p : List Int -> Bool) (hcall : ∀ args w, (callFunc f args).run Tryz.prog w = .ok (.enter f args) w)
  (hf : ∀ r ∈ m, Pure Tryz.prog f (ints r :: cap) (.b (p r))) : Pure Tryz.prog 89 [rows m, .fn f cap] (.i (match m.findIdx? p with | some i => (i : Int) | none => -1)) := by
 refine q1y2 (by simp) ?_
 simp -implicitDefEqProofs only [q1wg, go_sem, evR, ints, rows, rat, rats]
 refine SemC.loopR (σ := Nat) (fun i => St.of [(0, .t (rows m)), (1, .t (.fn f cap)), (6, .t (rows m)), (7, .t (.i m.length)), (8, .t (.i i))] []) (fun i => i <= m.length /\ ∀ r ∈ m.take i, p r = false) (fun i => m.length - i) 0 (Weak.o _ [] [] ?_ trivial) ⟨by simp, by simp⟩ fun i hI R hn hr he => ?_
 ·simp -implicitDefEqProofs only [ints, rows, wkR, Nat.reduceEqDiff, ↓reduceIte]
 ·simp -implicitDefEqProofs only [eR', go_sem]
  refine ⟨fun h => ⟨by omega, by omega, by omega, fun r hrow => ?_⟩, fun h => he _ _ ?_⟩
  ·refine q006.pure (hf r (qE hrow)) [] rfl hcall ?_ trivial rfl ?_
   ·simp only [List.map_cons, List.map_nil, List.cons_append, List.nil_append, vaL, va, q20c, and_true]
    simp -implicitDefEqProofs only [vaR, go_sem, ints, rows]
   ·simp -implicitDefEqProofs only [eR', go_sem]
    refine ⟨fun h1 => hr _ ?_, fun h1 => hn _ (i + 1) (Weak.o _ [] [] ?_ trivial) ⟨by omega, q0uk hrow hI.2 h1⟩ (by omega)⟩
    ·simp -implicitDefEqProofs only [eR', go_sem]
     have : m.findIdx? p = some i := by
      obtain ⟨hi, rfl⟩ := qK.1 hrow
      rw [List.findIdx?_eq_some_iff_getElem]
      exact ⟨hi, h1, fun j hj => by simpa using hI.2 m[j] (List.mem_take_iff_getElem.2 ⟨j, by omega, rfl⟩)⟩
     rw [this]
    ·simp -implicitDefEqProofs only [ints, rows, wkR, Nat.reduceEqDiff, ↓reduceIte, q0lb (by omega : i < m.length) (by omega)]
  ·simp -implicitDefEqProofs only [eR', go_sem]
   have : m.findIdx? p = none := by
    rw [List.findIdx?_eq_none_iff]
    intro r hr'
    exact hI.2 r (by rw [qQ (by omega)]; exact hr')
   rw [this]

theorem q1z6 (m : List (List Int)) (hm : (m.length : Int) <= 1000000000000) (f : Nat) (cap : List T) (p : List Int -> Bool) (hcall : ∀ args w, (callFunc f args).run Tryz.prog w = .ok (.enter f args) w)
  (hf : ∀ r ∈ m, Pure Tryz.prog f (ints r :: cap) (.b (p r))) : Pure Tryz.prog 61 [rows m, .fn f cap] (.b (m.any p)) := by
 refine q1y0 (by simp) ?_
 simp -implicitDefEqProofs only [q1we, go_sem, evR, ints, rows, rat, rats]
 refine q006.pure (q1z8 m hm f cap p hcall hf) [] rfl Tryz.call89 ?_ trivial rfl ?_
 ·simp -implicitDefEqProofs only [vaR, go_sem, ints, rows]
 ·simp -implicitDefEqProofs only [eR', go_sem]
  rw [← List.findIdx?_isSome]
  cases m.findIdx? p <;> simp

theorem q0s5 (l : List Int) (hl : l.length <= 1000000000000) : Fun Tryz.prog 43 [] [.t (ints l)] fun o r => o = [] /\ r = intsO l := by
 refine q0bl (by simp) ?_
 simp -implicitDefEqProofs only [q04n, ints, go_sem]
 exact ⟨by omega, rfl⟩

theorem q0rq (l : List Int) (hl : l.length <= 1000000000000) : Fun Tryz.prog 30 [] [.t (ints l)] fun o r => o = [] /\ r = intsO l := by
 refine Fun.le (Q := fun o r => o = [] /\ (r = intsO l ∨ (l = [] /\ r = .v (.slice none 0 0)))) ?_ ?_
 ·refine q0bd (by simp) ?_
  simp -implicitDefEqProofs only [q04f, ints, go_sem]
  intro b hb
  exact ⟨fun h => .inr (by simpa using hb h), fun _ => ⟨by omega, .inl rfl⟩⟩
 ·rintro o r ⟨rfl, rfl | ⟨rfl, rfl⟩⟩
  ·exact ⟨_, .refl _, rfl, rfl⟩
  ·exact ⟨_, .nilArr 1, rfl, rfl⟩

theorem q0uj {α : Type} {l : List α} {i : Nat} {x : α} (h : l[i]? = some x) : l.take (i + 1) = l.take i ++ [x] := by
 rw [List.take_add_one, h]; rfl

def marks : Nat -> Int -> List Int
 | 0, _ => []
 | n + 1, k => k :: marks n (k + 1)
def held : List Int -> Int -> Int
 | [], k => k
 | x :: l, k => if x = k then held l (k + 1) else -1
theorem q1rt {n : Nat} (h : n < 2 ^ 64) : IntKind.u64.wrap (n : Int) = n := by
 have h : n < 18446744073709551616 := h
 show (if (false && decide ((n : Int) % 18446744073709551616 ≥ 9223372036854775808)) = true then (n : Int) % 18446744073709551616 - 18446744073709551616 else (n : Int) % 18446744073709551616) = n
 rw [if_neg (by simp)]; omega
theorem q1rs {n : Nat} (h : n < 2 ^ 63) : IntKind.i64.wrap (n : Int) = n := by
 have h : n < 9223372036854775808 := h
 exact wrap64 (by omega) (by omega)
theorem q1m1 {n : Nat} (h : n < 2 ^ 64) : (BitVec.ofInt 64 (n : Int)).toNat = n := by
 rw [BitVec.toNat_ofInt]; omega
theorem andU {a b : Nat} (ha : a < 2 ^ 64) (hb : b < 2 ^ 64) : bitA .u64 (a : Int) (b : Int) = ((a &&& b : Nat) : Int) := by
 show IntKind.u64.wrap ((BitVec.ofInt 64 (a : Int) &&& BitVec.ofInt 64 (b : Int)).toNat : Int) = _
 rw [BitVec.toNat_and, q1m1 ha, q1m1 hb, q1rt (Nat.and_lt_two_pow _ hb)]
theorem orU {a b : Nat} (ha : a < 2 ^ 64) (hb : b < 2 ^ 64) : bitO .u64 (a : Int) (b : Int) = ((a ||| b : Nat) : Int) := by
 show IntKind.u64.wrap ((BitVec.ofInt 64 (a : Int) ||| BitVec.ofInt 64 (b : Int)).toNat : Int) = _
 rw [BitVec.toNat_or, q1m1 ha, q1m1 hb, q1rt (Nat.or_lt_two_pow ha hb)]
theorem q19u {a b : Nat} (ha : a < 2 ^ 64) (hb : b < 2 ^ 64) : bitN .u64 (a : Int) (b : Int) = ((a &&& (2 ^ 64 - 1 - b) : Nat) : Int) := by
 show IntKind.u64.wrap ((BitVec.ofInt 64 (a : Int) &&& ~~~ BitVec.ofInt 64 (b : Int)).toNat : Int) = _
 rw [BitVec.toNat_and, BitVec.toNat_not, q1m1 ha, q1m1 hb, q1rt (Nat.and_lt_two_pow _ (by omega))]
theorem shlU {c : Nat} (h : c < 64) : shlI .u64 1 (c : Int) = ((2 ^ c : Nat) : Int) := by
 show IntKind.u64.wrap (1 * 2 ^ min ((c : Int)).toNat 64) = _
 have e : min ((c : Int)).toNat 64 = c := by simp; omega
 rw [e, Int.one_mul, show (2 : Int) ^ c = ((2 ^ c : Nat) : Int) by simp]
 exact q1rt (Nat.pow_lt_pow_right (by omega) h)
theorem shrU {a c : Nat} (h : c < 64) : shrI .u64 (a : Int) (c : Int) = ((a >>> c : Nat) : Int) := by
 show (a : Int).fdiv (2 ^ min ((c : Int)).toNat 64) = _
 have e : min ((c : Int)).toNat 64 = c := by simp; omega
 rw [e, Int.fdiv_eq_ediv_of_nonneg _ (Int.pow_nonneg (by omega)), Nat.shiftRight_eq_div_pow]
 simp
theorem q1or {a : Int} : shrI .i64 a 2 = a / 4 := by
 show a.fdiv (2 ^ min ((2 : Int)).toNat 64) = _
 rw [Int.fdiv_eq_ediv_of_nonneg _ (by decide)]; rfl
theorem q19t {a : Int} (h0 : 0 <= a) (h1 : a < 1000) : bitA .i64 a 3 = a % 4 := by
 obtain ⟨n, rfl⟩ : ∃ n : Nat, a = n := ⟨a.toNat, by omega⟩
 have hn : n < 2 ^ 64 := by have : (2:Nat)^64 = 18446744073709551616 := by decide
                            omega
 show IntKind.i64.wrap ((BitVec.ofInt 64 (n : Int) &&& BitVec.ofInt 64 (((3 : Nat) : Int))).toNat : Int) = _
 rw [BitVec.toNat_and, q1m1 hn, q1m1 (by decide)]
 have e : n &&& 3 = n % 4 := Nat.and_two_pow_sub_one_eq_mod n 2
 rw [e, q1rs (by have : (2:Nat)^63 = 9223372036854775808 := by decide
                 omega)]
 omega
theorem q1aa {a c : Nat} : (a >>> c) &&& 1 = if a.testBit c then 1 else 0 := by
 rw [Nat.testBit, Nat.and_comm]
 have := Nat.mod_two_eq_zero_or_one (a >>> c)
 rw [show 1 &&& (a >>> c) = (a >>> c) % 2 by rw [Nat.and_comm]; exact Nat.and_two_pow_sub_one_eq_mod _ 1]
 rcases this with h | h <;> simp [h]
def q1ab (l : List Int) : Nat := l.foldl (fun a c => a ||| 2 ^ c.toNat) 0
theorem q1ae : ((q1ab [] : Nat) : Int) = 0 := rfl
theorem q1af (l : List Int) (c : Int) : q1ab (l ++ [c]) = q1ab l ||| 2 ^ c.toNat := by simp [q1ab]
theorem q1ac : ∀ {l : List Int} (k : Nat), (q1ab l).testBit k = l.any fun c => c.toNat == k := by
 have key : ∀ (l : List Int) (a k : Nat), (l.foldl (fun a c => a ||| 2 ^ c.toNat) a).testBit k = (a.testBit k || l.any fun c => c.toNat == k) := by
  intro l
  induction l with
  | nil => simp
  | cons c l ih =>
    intro a k
    rw [List.foldl_cons, ih, Nat.testBit_or, Nat.testBit_two_pow, List.any_cons, Bool.or_assoc]
    rfl
 intro l k
 rw [q1ab, key]; simp
theorem q1ad {l : List Int} {n : Nat} (h : ∀ x ∈ l, x < n) (hp : 0 < n) : q1ab l < 2 ^ n := by
 have key : ∀ (l : List Int) (a : Nat), a < 2 ^ n -> (∀ x ∈ l, x < n) -> (l.foldl (fun a c => a ||| 2 ^ c.toNat) a) < 2 ^ n := by
  intro l
  induction l with
  | nil => intro a h _; exact h
  | cons c l ih =>
    intro a ha hl
    rw [List.foldl_cons]
    refine ih _ (Nat.or_lt_two_pow ha (Nat.pow_lt_pow_right (by omega) ?_)) fun x hx => hl x (by simp [hx])
    have := hl c (by simp); omega
 exact key l 0 (Nat.pow_pos (by omega)) h

section
attribute [-go_sem] q0i5 q0id fldC lenC idxC q0ip
theorem q1a9 {a n : Nat} (h : n < 64) (ha : a < 2 ^ 64) : bitA .u64 (shrI .u64 (a : Int) (n : Int)) 1 = if a.testBit n then 1 else 0 := by
 rw [shrU h, show (1 : Int) = ((1 : Nat) : Int) from rfl, andU (Nat.lt_of_le_of_lt (Nat.shiftRight_le _ _) ha) (by decide), q1aa]
 split <;> rfl
theorem setU {a n : Nat} (h : n < 64) (ha : a < 2 ^ 64) : bitO .u64 (a : Int) (shlI .u64 1 (n : Int)) = ((a ||| 2 ^ n : Nat) : Int) := by
 rw [shlU h, orU ha (Nat.pow_lt_pow_right (by omega) h)]
instance (l : List Int) : Decidable (q1cv l) := inferInstanceAs (Decidable (_ /\ _))
def areB (l : List Int) : Bool := decide (q1cv l)
def isC (c : Int) : Bool := decide (0 <= c /\ c <= 51)
theorem q1cx {l : List Int} {c : Int} : q1cv (l ++ [c]) ↔ q1cv l /\ isC c = true /\ c ∉ l := by
 unfold q1cv isC
 rw [rC]
 simp only [qI, List.mem_singleton, decide_eq_true_eq]
 constructor
 ·rintro ⟨⟨h1, h2, h3⟩, h4⟩
  exact ⟨⟨h1, fun x hx => h4 x (.inl hx)⟩, by have := h4 c (.inr rfl); omega, fun hc => h3 c hc c rfl rfl⟩
 ·rintro ⟨⟨h1, h2⟩, h3, h4⟩
  refine ⟨⟨h1, by simp, fun x hx y hy e => h4 (hy ▸ e ▸ hx)⟩, fun x hx => ?_⟩
  rcases hx with hx | rfl
  ·exact h2 x hx
  ·omega
theorem q1cy {l : List Int} (h : q1cv l) (i : Nat) : q1cv (l.take i) := ⟨h.1.sublist (List.take_sublist _ _), fun x hx => h.2 x (rU hx)⟩
theorem q19y {l : List Int} {i : Nat} {c : Int} (hx : l[i]? = some c) (h : isC c = false ∨ c ∈ l.take i) : areB l = false := by
 rw [areB, decide_eq_false_iff_not]
 intro hc
 have := q1cy hc (i + 1)
 rw [q0uj hx, q1cx] at this
 rcases h with h | h
 ·rw [h] at this; cases this.2.1
 ·exact this.2.2 h
theorem q1ag {l : List Int} (h : q1cv l) {n : Nat} : (q1ab l).testBit n = decide ((n : Int) ∈ l) := by
 rw [q1ac]
 by_cases hm : (n : Int) ∈ l
 ·rw [decide_eq_true hm, List.any_eq_true]; exact ⟨_, hm, by simp⟩
 ·rw [decide_eq_false hm, List.any_eq_false]
  intro x hx e
  have := h.2 x hx
  have e : x.toNat = n := by simpa using e
  exact hm (by rw [← e]; have : ((x.toNat : Nat) : Int) = x := by omega
               rw [this]; exact hx)
theorem q1ah {l : List Int} (h : q1cv l) : q1ab l < 2 ^ 64 :=
 Nat.lt_of_lt_of_le (q1ad (n := 52) (fun x hx => (h.2 x hx).2) (by omega)) (Nat.pow_le_pow_right (by omega) (by omega))
theorem q1jf (c : Int) : Pure Tryz.prog 79 [.i c] (.b (isC c)) := by
 refine q1g5 (by simp) ?_
 simp -implicitDefEqProofs only [eR', go_sem, q1b8]
 refine q006.p (q0f9 c 0 51) [] rfl Tryz.call40 ?_ ?_
 ·simp -implicitDefEqProofs only [aR', go_sem]
 simp -implicitDefEqProofs only [eR', go_sem]
 rfl
theorem q1p8 (c : Int) : Pure Tryz.prog 72 [.i c] (.b (isC c)) := by
 refine q1h1 (by simp) ?_
 simp -implicitDefEqProofs only [eR', go_sem, q1c4]
 refine q006.p (q0s4 c 0 51) [] rfl Tryz.call42 ?_ ?_
 ·simp -implicitDefEqProofs only [aR', go_sem]
 simp -implicitDefEqProofs only [eR', go_sem]
 rfl
theorem q1iw (l : List Int) (hl : l.length <= 10000000) : Pure Tryz.prog 49 [ints l] (.b (areB l)) := by
 refine q1fo (by simp) ?_
 simp -implicitDefEqProofs only [eR', go_sem, q1ap]
 refine SemC.loopR (σ := Nat) (fun i => St.of [(3, .t (.v (.int .u64 (q1ab (l.take i) : Nat)))), (6, .t (ints l)), (7, .t (.i l.length)), (8, .t (.i i))] []) (fun i => i <= l.length /\ q1cv (l.take i)) (fun i => l.length - i) 0 (Weak.o _ [] [] ?_ trivial) ⟨by omega, by simp [q1cv]⟩ fun i hi R hn hr he => ?_
 ·simp -implicitDefEqProofs only [wR', Nat.reduceBEq, Nat.reduceEqDiff, ↓reduceIte, List.take_zero, q1ae]
 ·obtain ⟨hi, hci⟩ := hi
  rcases qH i l.length with h9 | h9
  ·obtain ⟨c, hx⟩ : ∃ c, l[i]? = some c := ⟨_, qB h9⟩
   simp -implicitDefEqProofs only [eR', go_sem, hx, decide_eq_true (show (i : Int) < (l.length : Int) by omega)]
   refine ⟨by omega, by omega, by omega, ?_⟩
   cases hc : isC c with
   | false =>
     refine q006.p (q1jf c) [] rfl Tryz.call79 ?_ ?_
     ·simp -implicitDefEqProofs only [aR', go_sem]
     simp -implicitDefEqProofs only [eR', go_sem, hc]
     refine hr _ ?_
     simp -implicitDefEqProofs only [eR', go_sem, q19y hx (.inl hc)]
   | true =>
     obtain ⟨n, rfl⟩ : ∃ n : Nat, c = n := ⟨c.toNat, by simp [isC] at hc; omega⟩
     have hn52 : n < 52 := by simp [isC] at hc; omega
     by_cases hm : (n : Int) ∈ l.take i
     ·refine q006.p (q1jf n) [] rfl Tryz.call79 ?_ ?_
      ·simp -implicitDefEqProofs only [aR', go_sem]
      simp -implicitDefEqProofs only [eR', go_sem, hc, q1a9 (a := q1ab (l.take i)) (n := n) (by omega) (q1ah hci), q1ag hci, decide_eq_true hm]
      refine ⟨by omega, fun _ => ?_, fun h => by simp at h⟩
      refine hr _ ?_
      simp -implicitDefEqProofs only [eR', go_sem, q19y hx (.inr hm)]
     ·refine q006.p (q1jf n) [] rfl Tryz.call79 ?_ ?_
      ·simp -implicitDefEqProofs only [aR', go_sem]
      simp -implicitDefEqProofs only [eR', go_sem, hc, q1a9 (a := q1ab (l.take i)) (n := n) (by omega) (q1ah hci), q1ag hci, decide_eq_false hm, setU (a := q1ab (l.take i)) (n := n) (by omega) (q1ah hci)]
      refine ⟨by omega, fun h => by simp at h, fun _ => ⟨by omega, ?_⟩⟩
      refine hn _ (i + 1) (Weak.o _ [] [] ?_ trivial) ⟨by omega, by rw [q0uj hx, q1cx]; exact ⟨hci, hc, hm⟩⟩ (by omega)
      have e1 : q1ab (l.take (i + 1)) = q1ab (l.take i) ||| 2 ^ n := by rw [q0uj hx, q1af]; rfl
      simp -implicitDefEqProofs only [wR', Nat.reduceBEq, Nat.reduceEqDiff, ↓reduceIte, e1, q0lb h9 (by omega)]
  ·simp -implicitDefEqProofs only [eR', go_sem, decide_eq_false (show ¬ (i : Int) < (l.length : Int) by omega)]
   refine he _ _ ?_
   simp -implicitDefEqProofs only [eR', go_sem]
   rw [qQ h9] at hci
   rw [areB, decide_eq_true hci]
end
section
attribute [-go_sem] q0i5 q0id fldC lenC idxC q0ip
def q1oe (l : List Int) : List T := (List.range 52).map fun (k : Nat) => T.b (decide ((k : Int) ∈ l))
theorem q1of (l : List Int) {n : Nat} (h : n < 52) : (q1oe l)[n]? = some (T.b (decide ((n : Int) ∈ l))) := by
 rw [q1oe, qU, List.getElem?_range h]; rfl
theorem q1og (l : List Int) : (q1oe l).length = 52 := by simp [q1oe]
theorem q1oi (l : List Int) {n : Nat} (h : n < 52) : (q1oe l).set n (T.b true) = q1oe (l ++ [(n : Int)]) := by
 refine List.ext_getElem? fun k => ?_
 rw [List.getElem?_set, q1og]
 by_cases hk : k < 52
 ·rw [q1of _ hk, q1of _ hk]
  by_cases e : n = k
  ·subst e; simp [h]
  ·rw [if_neg e]
   have : ((k : Int) ∈ l ++ [(n : Int)]) ↔ (k : Int) ∈ l := by simp; omega
   simp only [this]
 ·rw [qP (by rw [q1og]; omega), qP (by rw [q1og]; omega)]
  split
  ·omega
  ·rfl
theorem q1oh : q1oe [] = List.replicate 52 (T.b false) := by
 rfl
theorem q1ox (l : List Int) (hl : l.length <= 10000000) : Pure Tryz.prog 45 [ints l] (.b (areB l)) := by
 refine q1gs (by simp) ?_
 simp -implicitDefEqProofs only [eR', go_sem, q1bv]
 refine ⟨by decide, ?_⟩
 refine SemC.loopR (σ := Nat) (fun i => St.of [(0, .t (ints l)), (3, .own 95), (4, .t (.i i))] [(95, .arr 1 (q1oe (l.take i)))]) (fun i => i <= l.length /\ q1cv (l.take i)) (fun i => l.length - i) 0 (Weak.o _ _ [some 5] ?_ ?_) ⟨by omega, by simp [q1cv]⟩ fun i hi R hn hr he => ?_
 ·simp -implicitDefEqProofs only [wR', Nat.reduceBEq, Nat.reduceEqDiff, ↓reduceIte]
 ·refine ⟨⟨_, rfl, ?_⟩, rfl, trivial⟩
  rw [List.take_zero, q1oh]; exact .refl _
 ·obtain ⟨hi, hci⟩ := hi
  rcases qH i l.length with h9 | h9
  ·obtain ⟨c, hx⟩ : ∃ c, l[i]? = some c := ⟨_, qB h9⟩
   simp -implicitDefEqProofs only [eR', go_sem, hx, decide_eq_true (show (i : Int) < (l.length : Int) by omega)]
   refine ⟨by omega, by omega, by omega, ?_⟩
   cases hc : isC c with
   | false =>
     refine q006.p (q1p8 c) [] rfl Tryz.call72 ?_ ?_
     ·simp -implicitDefEqProofs only [aR', go_sem]
     simp -implicitDefEqProofs only [eR', go_sem, hc]
     refine hr _ ?_
     simp -implicitDefEqProofs only [eR', go_sem, q19y hx (.inl hc)]
   | true =>
     obtain ⟨n, rfl⟩ : ∃ n : Nat, c = n := ⟨c.toNat, by simp [isC] at hc; omega⟩
     have hn52 : n < 52 := by simp [isC] at hc; omega
     by_cases hm : (n : Int) ∈ l.take i
     ·refine q006.p (q1p8 n) [] rfl Tryz.call72 ?_ ?_
      ·simp -implicitDefEqProofs only [aR', go_sem]
      simp -implicitDefEqProofs only [eR', go_sem, hc, hx, q1og, q1of _ hn52, decide_eq_true hm]
      refine ⟨by omega, by omega, by omega, by omega, by omega, by omega, ?_⟩
      refine hr _ ?_
      simp -implicitDefEqProofs only [eR', go_sem, q19y hx (.inr hm)]
     ·refine q006.p (q1p8 n) [] rfl Tryz.call72 ?_ ?_
      ·simp -implicitDefEqProofs only [aR', go_sem]
      simp -implicitDefEqProofs only [eR', go_sem, hc, hx, q1og, q1of _ hn52, decide_eq_false hm, q1oi _ hn52]
      refine ⟨by omega, by omega, by omega, by omega, by omega, by omega, by omega, by omega, by omega, by omega, by omega, by omega, ?_⟩
      refine hn _ (i + 1) (Weak.o _ _ [some 95] ?_ ?_) ⟨by omega, by rw [q0uj hx, q1cx]; exact ⟨hci, hc, hm⟩⟩ (by omega)
      ·simp -implicitDefEqProofs only [wR', Nat.reduceBEq, Nat.reduceEqDiff, ↓reduceIte, q0lb h9 (by omega)]
      ·refine ⟨⟨_, rfl, ?_⟩, rfl, trivial⟩
       rw [q0uj hx]; exact .refl _
  ·simp -implicitDefEqProofs only [eR', go_sem, decide_eq_false (show ¬ (i : Int) < (l.length : Int) by omega)]
   refine he _ _ ?_
   simp -implicitDefEqProofs only [eR', go_sem]
   rw [qQ h9] at hci
   rw [areB, decide_eq_true hci]
theorem q1p6 (l : List Int) (x : Int) (hl : l.length <= 10000000) : Pure Tryz.prog 107 [ints l, .i x] (.b (decide (x ∈ l))) := by
 refine q1gz (by simp) ?_
 simp -implicitDefEqProofs only [eR', go_sem, q1c2]
 refine SemC.loopR (σ := Nat) (fun i => St.of [(0, .t (ints l)), (1, .t (.i x)), (5, .t (.i i))] []) (fun i => i <= l.length /\ x ∉ l.take i) (fun i => l.length - i) 0 (Weak.o _ [] [] ?_ trivial) ⟨by omega, by simp⟩ fun i hi R hn hr he => ?_
 ·simp -implicitDefEqProofs only [wR', Nat.reduceBEq, Nat.reduceEqDiff, ↓reduceIte]
 ·obtain ⟨hi, hci⟩ := hi
  rcases qH i l.length with h9 | h9
  ·obtain ⟨c, hx⟩ : ∃ c, l[i]? = some c := ⟨_, qB h9⟩
   simp -implicitDefEqProofs only [eR', go_sem, hx, decide_eq_true (show (i : Int) < (l.length : Int) by omega)]
   refine ⟨by omega, by omega, by omega, fun h => ?_, fun h => ?_⟩
   ·refine hr _ ?_
    have h : c = x := by simpa using h
    simp -implicitDefEqProofs only [eR', go_sem, decide_eq_true (show x ∈ l from h ▸ qE hx)]
   ·have h : ¬ c = x := by simpa using h
    refine hn _ (i + 1) (Weak.o _ [] [] ?_ trivial) ⟨by omega, ?_⟩ (by omega)
    ·simp -implicitDefEqProofs only [wR', Nat.reduceBEq, Nat.reduceEqDiff, ↓reduceIte, q0lb h9 (by omega)]
    ·rw [q0uj hx]; simp [hci]; exact fun e => h e.symm
  ·simp -implicitDefEqProofs only [eR', go_sem, decide_eq_false (show ¬ (i : Int) < (l.length : Int) by omega)]
   refine he _ _ ?_
   rw [qQ h9] at hci
   simp -implicitDefEqProofs only [eR', go_sem, decide_eq_false hci]
def q1mg (l : List Int) (c : Nat) : List Int := ((List.range c).map fun (k : Nat) => (k : Int)).filter fun x => decide (x ∉ l)
def q1mf (l : List Int) : List Int := q1mg l 52
theorem q1mj (l : List Int) (c : Nat) : q1mg l (c + 1) = q1mg l c ++ if (c : Int) ∈ l then [] else [(c : Int)] := by
 simp only [q1mg, List.range_succ, qG, List.filter_append, List.map_cons, List.map_nil]
 by_cases h : (c : Int) ∈ l <;> simp [h]
theorem q1md (l : List Int) (c : Nat) : (q1mg l c).length <= c := by
 have := List.length_filter_le (fun x => decide (x ∉ l)) ((List.range c).map fun (k : Nat) => (k : Int))
 simpa [q1mg] using this
theorem q1p9 (l : List Int) (hl : l.length <= 10000000) : Fun Tryz.prog 88 [] [.t (ints l)] fun o r => o = [] /\ r = intsO (q1mf l) := by
 refine q1h2 (by simp) ?_
 simp -implicitDefEqProofs only [eR', go_sem, q1c5]
 refine SemC.loopR (σ := Nat) (fun i => St.of [(0, .t (ints l)), (3, .own 95), (4, .t (.i i))] [(95, .arr 1 ((q1mg l i).map T.i))]) (fun i => i <= 52) (fun i => 52 - i) 0 (Weak.o _ _ [some 5] ?_ ?_) (by omega) fun i hi R hn hr he => ?_
 ·simp -implicitDefEqProofs only [wR', Nat.reduceBEq, Nat.reduceEqDiff, ↓reduceIte]
 ·exact ⟨⟨_, rfl, .refl _⟩, rfl, trivial⟩
 ·rcases qH i 52 with h9 | h9
  ·simp -implicitDefEqProofs only [eR', go_sem, decide_eq_true (show (i : Int) < 52 by omega)]
   have hll := q1md l i
   by_cases hm : (i : Int) ∈ l
   ·refine q006.p (q1p6 l i hl) [] rfl Tryz.call107 ?_ ?_
    ·simp -implicitDefEqProofs only [aR', go_sem]
    simp -implicitDefEqProofs only [eR', go_sem, decide_eq_true hm]
    refine hn _ (i + 1) (Weak.o _ _ [some 95] ?_ ?_) (by omega) (by omega)
    ·simp -implicitDefEqProofs only [wR', Nat.reduceBEq, Nat.reduceEqDiff, ↓reduceIte, q0lb h9 (by omega)]
    ·refine ⟨⟨_, rfl, ?_⟩, rfl, trivial⟩
     rw [q1mj, if_pos hm, List.append_nil]; exact .refl _
   ·refine q006.p (q1p6 l i hl) [] rfl Tryz.call107 ?_ ?_
    ·simp -implicitDefEqProofs only [aR', go_sem]
    simp -implicitDefEqProofs only [eR', go_sem, decide_eq_false hm]
    refine ⟨by omega, hn _ (i + 1) (Weak.o _ _ [some 17] ?_ ?_) (by omega) (by omega)⟩
    ·simp -implicitDefEqProofs only [wR', Nat.reduceBEq, Nat.reduceEqDiff, ↓reduceIte, q0lb h9 (by omega)]
    ·refine ⟨⟨_, rfl, ?_⟩, rfl, trivial⟩
     rw [q1mj, if_neg hm, qG]; exact .refl _
  ·simp -implicitDefEqProofs only [eR', go_sem, decide_eq_false (show ¬ (i : Int) < 52 by omega)]
   refine he _ _ ?_
   simp -implicitDefEqProofs only [eR', go_sem]
   rw [show i = 52 by omega]; rfl
def varT : Nat -> T
 | 0 => .agg [.i 2, .i 0, .i 2, .i 5, .b true, .i 0]
 | 1 => .agg [.i 4, .i 2, .i 2, .i 5, .b true, .i 0]
 | _ => .agg [.i 4, .i 2, .i 2, .i 5, .b true, .i 1]
theorem q1jr : ∀ v : Nat, v <= 2 -> Pure Tryz.prog 48 [.i v] (varT v)
 | 0, _ => by
   refine q1gh (by simp) ?_
   simp -implicitDefEqProofs only [eR', go_sem, q1bk]
   simp [varT]
 | 1, _ => by
   refine q1gh (by simp) ?_
   simp -implicitDefEqProofs only [eR', go_sem, q1bk]
   simp [varT]
 | 2, _ => by
   refine q1gh (by simp) ?_
   simp -implicitDefEqProofs only [eR', go_sem, q1bk]
   simp [varT]
 | n + 3, h => by omega
theorem q1pu (v : Int) : Pure Tryz.prog 41 [.i v] (.b (decide (0 <= v /\ v <= 2))) := by
 refine q1hn (by simp) ?_
 simp -implicitDefEqProofs only [eR', go_sem, q1cq]
 refine q006.p (q0s4 v 0 2) [] rfl Tryz.call42 ?_ ?_
 ·simp -implicitDefEqProofs only [aR', go_sem]
 simp -implicitDefEqProofs only [eR', go_sem]
def stdT : T := .arr 6 [.i 2, .i 0, .i 2, .i 5, .b true, .i 0, .i 4, .i 2, .i 2, .i 5, .b true, .i 0, .i 4, .i 2, .i 2, .i 5, .b true, .i 1, .i 7, .i 5, .i 5, .i 0, .b true, .i 0, .i 7, .i 5, .i 5, .i 0, .b true, .i 1, .i 7, .i 5, .i 5, .i 0, .b false, .i 2, .i 5, .i 5, .i 5, .i 0, .b true, .i 0, .i 5, .i 5, .i 5, .i 0, .b false, .i 3]
theorem q1pr : Fun Tryz.prog 44 [] [] fun o r => o = [] /\ r = stdT := by
 refine q1hk (by simp) ?_
 simp -implicitDefEqProofs only [eR', go_sem, q1cn]
 rfl
end
section
attribute [-go_sem] q0i5 q0id fldC lenC idxC q0ip
theorem Fun.introP {P : Program} {n : Nat} {f : FuncId} {fn : Func} {c : Code} {rin : List T} {args : List A} {Q : List T -> T -> Prop} (hf : P.funcs[f]? = some fn) (hb : fn.body = some c) (hn : fn.ntmps = n) {rv : List ResultVar} (hrv : fn.results.toList = rv) (ha : args.length <= n) (hsm : n <= 100000)
  (h : Sem P n c (retP P rv rin.length Q) (St.of (enum 0 args) (enum 1000000000 rin))) : Fun P f rin args Q :=
 Fun.intro hf hb hn ha hsm (h.mono fun e S' q => by
  subst hrv
  have key : retP P fn.results.toList rin.length Q .ret S' -> retQ P fn.results.toList rin.length Q .ret S' := fun q => by
   simp only [retP, retQ] at q ⊢
   exact q0ph _ (fun ts S'' h1 => q0q1 _ _ (fun rout h2 => ⟨_, .refl _, h2⟩) h1) q
  cases e with
  | normal => exact key q
  | ret => exact key q
  | _ => exact q.elim)
theorem cS {P : Program} {n : Nat} {code : Code} {Q : Exit -> St -> Prop} {S : St} (c : CC) (h : trC P n ⟨[], []⟩ code = some c) (k : cW P n c Q S) : Sem P n code Q S := q031 c Q S k _ _ h
set_option maxRecDepth 100000 in
theorem q1ou (m : Nat) (h0 : 0 < m) (hm : m <= 10000000) : Fun Tryz.prog 68 [] [.t (.v (.slice none 0 0)), .t (.i m)] fun o r => o = [] /\ r = .arr 1 [] := by
 refine Fun.introP (n := 27) (rv := [.tmp 4]) Tryz.func68 rfl rfl rfl (by simp) (by decide) ?_
 refine Sem.seq (cS (.reg [.o (.move 4 (cv (.slice none 0 0)))]) (by kernel_rfl) ?_)
 simp -implicitDefEqProofs only [eR', go_sem]
 refine Sem.seq (Sem.seq (cS (.reg [.o (.move 5 (sl 1)), .o (.bin 6 .lss (sl 5) (ci 0))]) (by kernel_rfl) ?_))
 simp -implicitDefEqProofs only [eR', go_sem, decide_eq_false (show ¬ (m : Int) < 0 by omega)]
 refine Sem.cond (b := false) rfl (fun h => by cases h) (fun _ => Sem.skip ?_)
 refine Sem.seq (Sem.seq (Sem.region (by simp) ?_))
 show q00b _ 27 _ [0, 1, 2, 3, 4, 5, 6, 7] _ _
 refine q00b.cons rfl rfl (q0vv (co := .move 8 (sl 1)) (by kernel_rfl) ?_)
 simp -implicitDefEqProofs only [eR', go_sem]
 refine q00b.cons rfl rfl (q0vv (co := .move 9 (sl 0)) (by kernel_rfl) ?_)
 simp -implicitDefEqProofs only [eR', go_sem]
 refine q00b.cons rfl rfl (q1m5 (t := 23) (e := 2) (d := 10) (by kernel_rfl) rfl rfl (by decide) rfl ?_)
 simp -implicitDefEqProofs only [eR', go_sem]
 refine q00b.cons rfl rfl (q0vv (co := .move 11 (sl 0)) (by kernel_rfl) ?_)
 simp -implicitDefEqProofs only [eR', go_sem]
 refine q00b.cons rfl rfl (q0vv (co := .lenS 12 (sl 11)) (by kernel_rfl) ?_)
 simp -implicitDefEqProofs only [eR', go_sem]
 refine q00b.cons rfl rfl (q0vv (co := .bin 13 .sub (sl 10) (sl 12)) (by kernel_rfl) ?_)
 simp -implicitDefEqProofs only [eR', go_sem, show IntKind.i64.wrap (0 - 0) = 0 from rfl]
 refine q00b.cons rfl rfl (q0vv (co := .bin 14 .sub (sl 8) (sl 13)) (by kernel_rfl) ?_)
 simp -implicitDefEqProofs only [eR', go_sem, show IntKind.i64.wrap ((m : Int) - 0) = m by rw [Int.sub_zero]; exact wrap64 (by omega) (by omega)]
 refine q00b.cons rfl rfl (q0vv (co := .move 1 (sl 14)) (by kernel_rfl) ?_)
 simp -implicitDefEqProofs only [eR', go_sem]
 refine q00b.nil ?_
 show Sem _ 27 _ _ _
 refine Sem.seq (cS (.reg [.o (.move 15 (sl 1)), .o (.bin 16 .gtr (sl 15) (ci 0))]) (by kernel_rfl) ?_)
 simp -implicitDefEqProofs only [eR', go_sem, decide_eq_true (show (m : Int) > 0 by omega)]
 refine Sem.cond (b := true) rfl (fun _ => ?_) (fun h => by cases h)
 refine Sem.region (by simp) ?_
 show q00b _ 27 _ [0, 1, 2, 3, 4, 5, 6, 7, 8, 9] _ _
 refine q00b.cons rfl rfl (q0vv (co := .move 17 (sl 0)) (by kernel_rfl) ?_)
 simp -implicitDefEqProofs only [eR', go_sem]
 refine q00b.cons rfl rfl (q0vv (co := .move 18 (sl 0)) (by kernel_rfl) ?_)
 simp -implicitDefEqProofs only [eR', go_sem]
 refine q00b.cons rfl rfl (q1m5 (t := 23) (e := 2) (d := 19) (by kernel_rfl) rfl rfl (by decide) rfl ?_)
 simp -implicitDefEqProofs only [eR', go_sem]
 refine q00b.cons rfl rfl (q0vv (co := .slc 20 1 (sl 17) none (some (sl 19))) (by kernel_rfl) ?_)
 simp -implicitDefEqProofs only [eR', go_sem]
 refine q00b.cons rfl rfl (q0vv (co := .move 21 (sl 1)) (by kernel_rfl) ?_)
 simp -implicitDefEqProofs only [eR', go_sem]
 refine q00b.cons rfl rfl (q1m4 (t := 23) (u := 3) (d := 22) (m := m) (by kernel_rfl) h0 hm rfl rfl (by decide) rfl rfl rfl ?_)
 simp -implicitDefEqProofs only [eR', go_sem]
 refine q00b.cons rfl rfl (q0vv (co := .move 23 (sl 0)) (by kernel_rfl) ?_)
 simp -implicitDefEqProofs only [eR', go_sem]
 refine q00b.cons rfl rfl (q0vv (co := .lenS 24 (sl 23)) (by kernel_rfl) ?_)
 simp -implicitDefEqProofs only [eR', go_sem]
 refine q00b.cons rfl rfl (q1m7 (t := 23) (e := 2) (d := 25) (r := 22) (l := List.replicate m .any) (by kernel_rfl) (by kernel_rfl) rfl rfl (by decide) (by simp; omega) rfl rfl rfl rfl (by decide) ?_)
 simp -implicitDefEqProofs only [eR', go_sem]
 refine q00b.cons rfl rfl (q0vv (co := .move 0 (sl 25)) (by kernel_rfl) ?_)
 simp -implicitDefEqProofs only [eR', go_sem]
 refine q00b.nil ?_
 show Sem _ 27 _ _ _
 refine cS (.seq (.reg [.o (.move 26 (sl 0)), .o (.move 4 (sl 26))]) .ret) (by kernel_rfl) ?_
 simp -implicitDefEqProofs only [eR', go_sem]

theorem q1os (L : List (List Int)) (hL : L.length <= 1000000) (hs : L.flatten.length <= 10000000) (h1 : L.flatten ≠ []) : Fun Tryz.prog 37 [] [.t (rows L)] fun o r => o = [] /\ r = intsO L.flatten := by
 have hsum : ∀ i, (L.take i).flatten.length <= 10000000 := fun i => by
  have h := congrArg (fun M : List (List Int) => M.flatten.length) (List.take_append_drop i L)
  simp only [qY, qD] at h
  omega
 have hone : ∀ {i : Nat} {l : List Int}, L[i]? = some l -> l.length <= 10000000 := fun {i l} h => by
  have h2 := hsum (i + 1)
  rw [q0uj h, qY, qD] at h2
  simp at h2; omega
 have hst : ∀ {i l}, L[i]? = some l -> (L.take (i + 1)).flatten = (L.take i).flatten ++ l := fun {i l} h => by rw [q0uj h]; simp
 refine q1gq (by simp) ?_
 simp -implicitDefEqProofs only [eR', go_sem, q1bt]
 refine SemC.loopR (σ := Nat) (fun i => St.of [(0, .t (rows L)), (3, .t (.i (L.take i).flatten.length)), (9, .t (rows L)), (10, .t (.i L.length)), (11, .t (.i i))] []) (fun i => i <= L.length) (fun i => L.length - i) 0 (Weak.o _ [] [] ?_ trivial) (by omega) fun i hi R hn hr he => ?_
 ·simp -implicitDefEqProofs only [wR', Nat.reduceBEq, Nat.reduceEqDiff, ↓reduceIte]
  exact .inr (.inl rfl)
 ·rcases qH i L.length with h9 | h9
  ·obtain ⟨l, hx⟩ : ∃ l, L[i]? = some l := ⟨_, qB h9⟩
   have hll := hone hx
   have hsi := hsum i
   have hw : IntKind.i64.wrap (((L.take i).flatten.length : Int) + (l.length : Int)) = ((L.take (i + 1)).flatten.length : Nat) := by rw [wrap64 (by omega) (by omega), hst hx, qD]; omega
   have hsi1 := hsum (i + 1)
   simp -implicitDefEqProofs only [eR', go_sem, hx, decide_eq_true (show (i : Int) < (L.length : Int) by omega), hw, decide_eq_false (show ¬ (((L.take (i + 1)).flatten.length : Nat) : Int) < 0 by omega)]
   refine ⟨by omega, by omega, by omega, ?_⟩
   refine hn _ (i + 1) (Weak.o _ [] [] ?_ trivial) (by omega) (by omega)
   simp -implicitDefEqProofs only [wR', Nat.reduceBEq, Nat.reduceEqDiff, ↓reduceIte, q0lb h9 (by omega)]
  ·simp -implicitDefEqProofs only [eR', go_sem, decide_eq_false (show ¬ (i : Int) < (L.length : Int) by omega)]
   refine he _ _ ?_
   have hsi := hsum i
   have e : i = L.length := by omega
   rw [e, rT] at hsi ⊢
   have hpos : 0 < L.flatten.length := List.length_pos_iff.2 h1
   simp -implicitDefEqProofs only [eR', go_sem]
   refine q006.res (q1ou L.flatten.length hpos (by omega)) [] rfl Tryz.call68 ?_ (.inl rfl) ?_
   ·simp -implicitDefEqProofs only [aR', go_sem]
   simp -implicitDefEqProofs only [cR', go_sem]
   refine SemC.loopR (σ := Nat) (fun i => St.of [(6, .own 95), (25, .t (rows L)), (26, .t (.i L.length)), (27, .t (.i i))] [(95, .arr 1 ((L.take i).flatten.map T.i))]) (fun i => i <= L.length) (fun i => L.length - i) 0 (Weak.o _ _ [some 24] ?_ ?_) (by omega) fun i hi R hn hr he => ?_
   ·simp -implicitDefEqProofs only [wR', Nat.reduceBEq, Nat.reduceEqDiff, ↓reduceIte]
   ·exact ⟨⟨_, rfl, .refl _⟩, rfl, trivial⟩
   ·rcases qH i L.length with h9 | h9
    ·obtain ⟨l, hx⟩ : ∃ l, L[i]? = some l := ⟨_, qB h9⟩
     have hll := hone hx
     have hsi := hsum i
     simp -implicitDefEqProofs only [eR', go_sem, hx, decide_eq_true (show (i : Int) < (L.length : Int) by omega)]
     refine ⟨by omega, by omega, by omega, by omega, ?_⟩
     refine hn _ (i + 1) (Weak.o _ _ [some 33] ?_ ?_) (by omega) (by omega)
     ·simp -implicitDefEqProofs only [wR', Nat.reduceBEq, Nat.reduceEqDiff, ↓reduceIte, q0lb h9 (by omega)]
     ·refine ⟨⟨_, rfl, ?_⟩, rfl, trivial⟩
      rw [hst hx, qG]; exact .refl _
    ·simp -implicitDefEqProofs only [eR', go_sem, decide_eq_false (show ¬ (i : Int) < (L.length : Int) by omega)]
     refine he _ _ ?_
     simp -implicitDefEqProofs only [eR', go_sem]
     rw [qQ h9]; rfl
end
end Go.Ab
