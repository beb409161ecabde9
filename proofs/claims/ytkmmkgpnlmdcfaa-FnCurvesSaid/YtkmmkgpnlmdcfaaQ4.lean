/- The functions in compact form, printed by a program (CcDump.lean). -/
import Derived.Test.YtkmmkgpnlmdcfaaRows
import Derived.Test.YtkmmkgpnlmdcfaaQ3
set_option linter.unusedSimpArgs false
set_option linter.unusedVariables false
set_option maxRecDepth 20000
namespace Go.Ab
open Go.Proofs

@[go_sem] theorem q05l : q0w0 Try.prog 35 = some true := by kernel_rfl
@[go_sem] theorem q05q : q0wn Try.prog 35 = some 3 := by kernel_rfl
@[go_sem] theorem q05m : q0w0 Try.prog 47 = some true := by kernel_rfl
@[go_sem] theorem q05r : q0wn Try.prog 47 = some 2 := by kernel_rfl
@[go_sem] theorem q05n : q0w0 Try.prog 75 = some true := by kernel_rfl
@[go_sem] theorem q05s : q0wn Try.prog 75 = some 6 := by kernel_rfl
@[go_sem] theorem q05k : q0w0 Try.prog 33 = some true := by kernel_rfl
@[go_sem] theorem q05p : q0wn Try.prog 33 = some 1 := by kernel_rfl
@[go_sem] theorem q05j : q0w0 Try.prog 181 = some true := by kernel_rfl
@[go_sem] theorem q05o : q0wn Try.prog 181 = some 5 := by kernel_rfl
theorem q0wk : q0wn Try.prog 0 = some 1 := by kernel_rfl

abbrev mv (a b : Nat) : CI := .o (.move a (sl b))
abbrev l1 (a b : Nat) : CI := .o (.load1 a (sl b))
abbrev ix (a b c : Nat) : CI := .o (.idx a 1 (sl b) (sl c))
abbrev fl (a b c : Nat) : CI := .o (.fld a b (sl c))
abbrev ln (a b c : Nat) : CI := .o (.loadN a b (sl c))
abbrev kr (c : CI) : DK × CI := (kR, c)
abbrev fW (n : Nat) (c : CC) (rs : List ResultVar) (rin : List T) (args : List A) (Q : List T -> T -> Prop) : Prop := cW Try.prog n c (retP Try.prog rs rin.length Q) (St.of (enum 0 args) (enum 1000000000 rin))
attribute [go_sem ↓] fW
theorem Weak.o {n : Nat} {S : St} (e : List (Nat × A)) (r : List (Nat × T)) (ss : List (Option Nat)) (he : q08f S (piOf r ss) e) (hr : q0py S r ss) (hd : (((r.map (·.1)).zip ss).filterMap (·.2)).Nodup := by simp) (hb : ∀ p ∈ (r.map (·.1)).zip ss, p.1 < 1000000000 ∨ p.2 = some p.1 := by simp) : Weak n S (St.of e r) := Weak.of e r ss hd hb he hr
theorem q006.p {P : Program} {n : Nat} {S : St} {d : Nat} {fo : Operand} {ao : List Operand} {K : St -> Prop} {f : FuncId} {cap : List A} {args : List T} {res : T} {x : A} (hF : Pure P f args res) (bor : List Nat) (hfo : fnA (S.ev fo) = some (f, cap)) (hcall : ∀ args w, (callFunc f args).run P w = .ok (.enter f args) w)
    (hargs : vaL S [] bor (args.map A.t) (ao.map S.ev ++ cap)) (hk : K { S with env := upd S.env d x }) (hns : res.noSh := by first | trivial | simp [T.noSh, T.noShL, rat]) (hx : absT d 0 res = (x, [], 0) := by rfl) : q006 P n (some d) fo ao K S := q006.pure hF bor hfo hcall hargs hns hx hk
def q04j : CC :=
 (.seq (.reg [.o (.box 2 (sl 0)),.o (.move 4 (ci 0)),.o (.move 5 (ci 0))])
 ((.seq (.reg [ln 10 3 2,mv 11 1,.o (.call (some 12) (cf 107) [(sl 10), (ci 0), (sl 11)]),mv 6 12])
 ((.seq (.seq (.reg [mv 13 6,.o (.bin 14 .neq (sl 13) (ci 0))])
 ((.cond (sl 14) (.seq (.reg [mv 15 6,.o (.move 4 (ci 0)),mv 5 15])
 (.ret))
 .skip)))
 ((.seq (.reg [ln 16 3 2,mv 17 1,.o (.call (some 18) (cf 114) [(sl 16), (sl 17)]),mv 7 18])
 ((.seq (.reg [.o (.move 8 (ci 0))])
 ((.seq (.seq (.reg [.o (.move 9 (ci 1))])
 ((.block 0 (.loop (.seq (.seq (.reg [mv 19 9,mv 20 1,.o (.bin 21 .leq (sl 19) (sl 20))])
 ((.cond (sl 21) .skip
 (.exit 0))))
 ((.seq (.block 1 (.seq (.draw [] [kr (mv 24 7),kr (mv 25 9),kr (ix 26 24 25),kr (l1 27 26),kr (mv 28 7),kr (mv 29 8),kr (ix 30 28 29),kr (l1 31 30),kr (.o (.bin 32 .lss (sl 27) (sl 31)))])
 ((.cond (sl 32) (.reg [mv 33 9,mv 8 33])
 .skip))))
 ((.reg [mv 22 9,.o (.bin 23 .add (sl 22) (ci 1)),mv 9 23])))))))))
 ((.seq (.reg [mv 34 8,mv 4 34,.o (.move 5 (ci 0))])
 (.ret))))))))))))))
theorem q0bh {rin args Q} (ha : args.length <= 35) (h : fW 35 q04j [.tmp 4, .tmp 5] rin args Q) : Fun Try.prog 44 rin args Q :=
 Fun.of (H := ⟨[], []⟩) Try.func44 rfl rfl rfl (by kernel_rfl) ha (by decide) h

def q03a : CC :=
 (.seq (.reg [.o (.box 2 (sl 0)),.o (.move 4 (ci 0)),.o (.move 5 (ci 0))])
 ((.seq (.seq (.reg [ln 7 3 2,.o (.call (some 8) (cf 115) [(sl 7)]),.o (.un 9 .not (sl 8))])
 ((.cond (sl 9) (.seq (.reg [.o (.move 4 (ci 0)),.o (.move 5 (ci 1))])
 (.ret))
 .skip)))
 ((.seq (.seq (.reg [mv 10 1,.o (.call (some 11) (cf 110) [(sl 10), (ci 0), (ci 30)]),.o (.un 12 .not (sl 11))])
 ((.cond (sl 12) (.seq (.reg [.o (.move 4 (ci 0)),.o (.move 5 (ci 2))])
 (.ret))
 .skip)))
 ((.seq (.reg [ln 13 3 2,mv 14 1,.o (.call (some 15) (cf 116) [(sl 13), (sl 14)]),mv 6 15])
 ((.seq (.reg [mv 16 6,mv 17 6,.o (.call (some 18) (cf 105) [(sl 17)]),.o (.call (some 19) (cf 117) [(sl 16), (sl 18)]),mv 4 19,.o (.move 5 (ci 0))])
 (.ret))))))))))
theorem q0a8 {rin args Q} (ha : args.length <= 20) (h : fW 20 q03a [.tmp 4, .tmp 5] rin args Q) : Fun Try.prog 45 rin args Q :=
 Fun.of (H := ⟨[], []⟩) Try.func45 rfl rfl rfl (by kernel_rfl) ha (by decide) h

def q0yg : CC :=
 (.seq (.reg [.o (.box 2 (sl 0)),.o (.move 4 (cv (.slice none 0 0))),.o (.move 5 (ci 0))])
 ((.seq (.reg [ln 7 3 2,mv 8 1,.o (.call (some 9) (cf 107) [(sl 7), (ci 0), (sl 8)]),mv 6 9])
 ((.seq (.seq (.reg [mv 10 6,.o (.bin 11 .neq (sl 10) (ci 0))])
 ((.cond (sl 11) (.seq (.reg [mv 12 6,.o (.move 4 (cv (.slice none 0 0))),mv 5 12])
 (.ret))
 .skip)))
 ((.seq (.reg [ln 13 3 2,mv 14 1,.o (.call (some 15) (cf 114) [(sl 13), (sl 14)]),mv 4 15,.o (.move 5 (ci 0))])
 (.ret))))))))
theorem q0zl {rin args Q} (ha : args.length <= 16) (h : fW 16 q0yg [.tmp 4, .tmp 5] rin args Q) : Fun Try.prog 46 rin args Q :=
 Fun.of (H := ⟨[], []⟩) Try.func46 rfl rfl rfl (by kernel_rfl) ha (by decide) h

def q0y8 : CC :=
 (.seq (.reg [.o (.box 2 (sl 0)),.o (.move 4 (cv (.slice none 0 0))),.o (.move 5 (ci 0))])
 ((.seq (.seq (.reg [ln 6 3 2,.o (.call (some 7) (cf 115) [(sl 6)]),.o (.un 8 .not (sl 7))])
 ((.cond (sl 8) (.seq (.reg [.o (.move 4 (cv (.slice none 0 0))),.o (.move 5 (ci 1))])
 (.ret))
 .skip)))
 ((.seq (.seq (.reg [mv 9 1,.o (.call (some 10) (cf 110) [(sl 9), (ci 0), (ci 30)]),.o (.un 11 .not (sl 10))])
 ((.cond (sl 11) (.seq (.reg [.o (.move 4 (cv (.slice none 0 0))),.o (.move 5 (ci 2))])
 (.ret))
 .skip)))
 ((.seq (.reg [ln 12 3 2,mv 13 1,.o (.call (some 14) (cf 116) [(sl 12), (sl 13)]),mv 4 14,.o (.move 5 (ci 0))])
 (.ret))))))))
theorem q0zd {rin args Q} (ha : args.length <= 15) (h : fW 15 q0y8 [.tmp 4, .tmp 5] rin args Q) : Fun Try.prog 47 rin args Q :=
 Fun.of (H := ⟨[], []⟩) Try.func47 rfl rfl rfl (by kernel_rfl) ha (by decide) h

def q0ya : CC :=
 (.seq (.reg [.o (.move 2 (cb false))])
 ((.seq (.reg [mv 3 0,.o (.lenS 4 (sl 3)),.o (.bin 5 .gtr (sl 4) (ci 4096)),mv 2 5])
 (.ret))))
theorem q0zf {rin args Q} (ha : args.length <= 6) (h : fW 6 q0ya [.tmp 2] rin args Q) : Fun Try.prog 51 rin args Q :=
 Fun.of (H := ⟨[], []⟩) Try.func51 rfl rfl rfl (by kernel_rfl) ha (by decide) h

def q0ye : CC :=
 (.seq (.reg [.o (.alloc 2 [.v (.slice none 0 0), .v (.slice none 0 0), .v (.slice none 0 0)]),.o (.move 3 (ci 0))])
 ((.seq (.reg [mv 5 0,.o (.call (some 6) (cf 119) [(sl 5)]),mv 4 6])
 ((.seq (.seq (.reg [mv 7 4,.o (.call (some 8) (cf 126) [(sl 7), (ci 40)]),.o (.bin 9 .eql (sl 8) (ci 0))])
 ((.cond (sl 9) (.seq (.reg [.o (.call (some 10) (cf 127) []),.o (.store 3 (sl 2) (sl 10)),.o (.move 3 (ci 30))])
 (.ret))
 .skip)))
 ((.seq (.reg [mv 11 4,.o (.call (some 12) (cf 150) [(sl 11)]),.o (.extract 13 (sl 12) 0),.o (.extract 14 (sl 12) 1),.o (.store 3 (sl 2) (sl 13)),mv 3 14])
 (.ret))))))))
theorem q0zj {rin args Q} (ha : args.length <= 15) (h : fW 15 q0ye [.cell 2 35, .tmp 3] rin args Q) : Fun Try.prog 92 rin args Q :=
 Fun.of (H := ⟨[], []⟩) Try.func92 rfl rfl rfl (by kernel_rfl) ha (by decide) h

def q0yd : CC :=
 (.seq (.reg [.o (.alloc 2 [.v (.slice none 0 0), .v (.slice none 0 0), .v (.slice none 0 0)]),.o (.move 3 (ci 0))])
 ((.seq (.reg [mv 4 0,.o (.call (some 5) (cf 119) [(sl 4)]),.o (.call (some 6) (cf 150) [(sl 5)]),.o (.extract 7 (sl 6) 0),.o (.extract 8 (sl 6) 1),.o (.store 3 (sl 2) (sl 7)),mv 3 8])
 (.ret))))
theorem q0zi {rin args Q} (ha : args.length <= 9) (h : fW 9 q0yd [.cell 2 35, .tmp 3] rin args Q) : Fun Try.prog 93 rin args Q :=
 Fun.of (H := ⟨[], []⟩) Try.func93 rfl rfl rfl (by kernel_rfl) ha (by decide) h

def q0yb : CC :=
 (.seq (.reg [.o (.move 4 (cb false))])
 ((.seq (.seq (.reg [mv 6 0,.o (.lenS 7 (sl 6)),mv 8 1,.o (.lenS 9 (sl 8)),.o (.bin 10 .neq (sl 7) (sl 9))])
 ((.cond (sl 10) (.seq (.reg [.o (.move 4 (cb false))])
 (.ret))
 .skip)))
 ((.seq (.seq (.reg [.o (.move 5 (ci 0))])
 ((.block 0 (.loop (.seq (.seq (.reg [mv 11 5,mv 12 0,.o (.lenS 13 (sl 12)),.o (.bin 14 .lss (sl 11) (sl 13))])
 ((.cond (sl 14) .skip
 (.exit 0))))
 ((.seq (.block 1 (.seq (.draw [] [kr (mv 17 0),kr (mv 18 5),kr (ix 19 17 18),kr (l1 20 19),kr (mv 21 1),kr (mv 22 5),kr (ix 23 21 22),kr (l1 24 23),kr (.o (.bin 25 .neq (sl 20) (sl 24)))])
 ((.cond (sl 25) (.seq (.reg [.o (.move 4 (cb false))])
 (.ret))
 .skip))))
 ((.reg [mv 15 5,.o (.bin 16 .add (sl 15) (ci 1)),mv 5 16])))))))))
 ((.seq (.reg [.o (.move 4 (cb true))])
 (.ret))))))))
theorem q0zg {rin args Q} (ha : args.length <= 26) (h : fW 26 q0yb [.tmp 4] rin args Q) : Fun Try.prog 94 rin args Q :=
 Fun.of (H := ⟨[], []⟩) Try.func94 rfl rfl rfl (by kernel_rfl) ha (by decide) h

def q04i : CC :=
 (.seq (.reg [.o (.move 2 (ci 0))])
 ((.seq (.seq (.reg [mv 5 0,.o (.lenS 6 (sl 5)),.o (.bin 7 .lss (sl 6) (ci 1))])
 ((.cond (sl 7) (.reg [.o (.bad (some 8)),.o (.bad none)])
 .skip)))
 ((.seq (.reg [mv 9 0,.o (.idx 10 1 (sl 9) (ci 0)),l1 11 10,mv 3 11])
 ((.seq (.seq (.reg [.o (.move 4 (ci 1))])
 ((.block 0 (.loop (.seq (.seq (.reg [mv 12 4,mv 13 0,.o (.lenS 14 (sl 13)),.o (.bin 15 .lss (sl 12) (sl 14))])
 ((.cond (sl 15) .skip
 (.exit 0))))
 ((.seq (.block 1 (.reg [mv 18 3,mv 19 0,mv 20 4,ix 21 19 20,l1 22 21,.o (.mm 23 false (sl 18) (sl 22)),mv 3 23]))
 ((.reg [mv 16 4,.o (.bin 17 .add (sl 16) (ci 1)),mv 4 17])))))))))
 ((.seq (.reg [mv 24 3,mv 2 24])
 (.ret))))))))))
theorem q0bg {rin args Q} (ha : args.length <= 25) (h : fW 25 q04i [.tmp 2] rin args Q) : Fun Try.prog 105 rin args Q :=
 Fun.of (H := ⟨[], []⟩) Try.func105 rfl rfl rfl (by kernel_rfl) ha (by decide) h

def q04h : CC :=
 (.seq (.reg [.o (.move 2 (ci 0))])
 ((.seq (.seq (.reg [mv 5 0,.o (.lenS 6 (sl 5)),.o (.bin 7 .lss (sl 6) (ci 1))])
 ((.cond (sl 7) (.reg [.o (.bad (some 8)),.o (.bad none)])
 .skip)))
 ((.seq (.reg [mv 9 0,.o (.idx 10 1 (sl 9) (ci 0)),l1 11 10,mv 3 11])
 ((.seq (.seq (.reg [.o (.move 4 (ci 1))])
 ((.block 0 (.loop (.seq (.seq (.reg [mv 12 4,mv 13 0,.o (.lenS 14 (sl 13)),.o (.bin 15 .lss (sl 12) (sl 14))])
 ((.cond (sl 15) .skip
 (.exit 0))))
 ((.seq (.block 1 (.reg [mv 18 3,mv 19 0,mv 20 4,ix 21 19 20,l1 22 21,.o (.mm 23 true (sl 18) (sl 22)),mv 3 23]))
 ((.reg [mv 16 4,.o (.bin 17 .add (sl 16) (ci 1)),mv 4 17])))))))))
 ((.seq (.reg [mv 24 3,mv 2 24])
 (.ret))))))))))
theorem q0bf {rin args Q} (ha : args.length <= 25) (h : fW 25 q04h [.tmp 2] rin args Q) : Fun Try.prog 106 rin args Q :=
 Fun.of (H := ⟨[], []⟩) Try.func106 rfl rfl rfl (by kernel_rfl) ha (by decide) h

def q058 : CC :=
 (.seq (.reg [.o (.box 3 (sl 0)),.o (.move 6 (ci 0))])
 ((.seq (.seq (.reg [ln 7 3 3,.o (.call (some 8) (cf 139) [(sl 7)]),.o (.un 9 .not (sl 8))])
 ((.cond (sl 9) (.seq (.reg [.o (.move 6 (ci 1))])
 (.ret))
 .skip)))
 ((.seq (.seq (.reg [mv 10 2,.o (.call (some 11) (cf 148) [(sl 10), (ci 0), (ci 30)]),.o (.un 12 .not (sl 11)),mv 13 12,.g 13 false (some 14) (.move 14 (sl 1)),.g 13 false (some 15) (.call (some 15) (cf 148) [(sl 14), (ci 0), (ci 1)]),.g 13 false (some 16) (.un 16 .not (sl 15)),.o (.pick 17 (sl 13) (cb true) (sl 16))])
 ((.cond (sl 17) (.seq (.reg [.o (.move 6 (ci 2))])
 (.ret))
 .skip)))
 ((.seq (.reg [.o (.move 6 (ci 0))])
 (.ret))))))))
theorem q0c6 {rin args Q} (ha : args.length <= 18) (h : fW 18 q058 [.tmp 6] rin args Q) : Fun Try.prog 107 rin args Q :=
 Fun.of (H := ⟨[], []⟩) Try.func107 rfl rfl rfl (by kernel_rfl) ha (by decide) h

def q03v : CC :=
 (.seq (.reg [.o (.move 6 (cb false))])
 ((.seq (.reg [mv 7 0,mv 8 1,.o (.bin 9 .geq (sl 7) (sl 8)),mv 10 9,.g 10 true (some 11) (.move 11 (sl 0)),.g 10 true (some 12) (.move 12 (sl 2)),.g 10 true (some 13) (.bin 13 .leq (sl 11) (sl 12)),.o (.pick 14 (sl 10) (sl 13) (cb false)),mv 6 14])
 (.ret))))
theorem q0at {rin args Q} (ha : args.length <= 15) (h : fW 15 q03v [.tmp 6] rin args Q) : Fun Try.prog 110 rin args Q :=
 Fun.of (H := ⟨[], []⟩) Try.func110 rfl rfl rfl (by kernel_rfl) ha (by decide) h

def q05f : CC :=
 (.seq (.reg [.o (.alloc 4 [.v (.int .i64 0), .v (.slice none 0 0)])])
 ((.seq (.reg [.o (.bslice 9 1 0 []),mv 5 9])
 ((.seq (.seq (.reg [.o (.move 6 (ci 0))])
 ((.block 0 (.loop (.seq (.seq (.reg [mv 10 6,mv 11 1,.o (.lenS 12 (sl 11)),.o (.bin 13 .lss (sl 10) (sl 12))])
 ((.cond (sl 13) .skip
 (.exit 0))))
 ((.seq (.block 1 (.seq (.reg [.o (.bslice 16 1 0 []),mv 7 16])
 ((.seq (.seq (.reg [.o (.move 8 (ci 0))])
 ((.block 2 (.loop (.seq (.seq (.reg [mv 17 8,mv 18 1,mv 19 6,ix 20 18 19,l1 21 20,.o (.lenS 22 (sl 21)),.o (.bin 23 .lss (sl 17) (sl 22))])
 ((.cond (sl 23) .skip
 (.exit 2))))
 ((.seq (.block 3 (.reg [mv 26 7,mv 27 1,mv 28 6,ix 29 27 28,l1 30 29,mv 31 8,ix 32 30 31,l1 33 32,.o (.mm 34 true (ci 0) (sl 33)),.o (.bslice 35 1 1 [(0, (sl 34))]),.o (.app 36 1 8 (sl 26) (sl 35)),mv 7 36]))
 ((.reg [mv 24 8,.o (.bin 25 .add (sl 24) (ci 1)),mv 8 25])))))))))
 ((.reg [mv 37 5,mv 38 7,.o (.call (some 39) (cf 173) [(sl 38)]),.o (.call (some 40) (cf 172) [(sl 39)]),.o (.bslice 41 1 1 [(0, (sl 40))]),.o (.app 42 1 24 (sl 37) (sl 41)),mv 5 42]))))))
 ((.reg [mv 14 6,.o (.bin 15 .add (sl 14) (ci 1)),mv 6 15])))))))))
 ((.seq (.reg [mv 43 0,mv 44 5,.o (.build 45 [.v (.int .i64 0), .v (.slice none 0 0)] [(0, 1), (1, 1)] [(0, (sl 43)), (1, (sl 44))]),.o (.store 2 (sl 4) (sl 45))])
 (.ret))))))))
theorem q0cd {rin args Q} (ha : args.length <= 46) (h : fW 46 q05f [.cell 4 47] rin args Q) : Fun Try.prog 111 rin args Q :=
 Fun.of (H := ⟨[], []⟩) Try.func111 rfl rfl rfl (by kernel_rfl) ha (by decide) h

def q036 : CC :=
 (.seq (.reg [.o (.alloc 2 [.v (.int .i64 0), .v (.slice none 0 0)]),.o (.alloc 3 [.v (.int .i64 0), .v (.slice none 0 0)])])
 ((.seq (.draw [9, 15] [kr (mv 4 0),kr (.o (.nilc 5 (sl 4))),kr (fl 6 3 5),kr (.o (.idxA 7 2 1 (sl 6) (ci 0))),kr (l1 8 7),(.c false [], .o (.call (some 9) (cf 174) [(ci 0), (sl 8)])),(.r false [9], mv 10 0),(.r false [9], .o (.nilc 11 (sl 10))),(.r false [9], fl 12 3 11),(.r false [9], .o (.idxA 13 2 1 (sl 12) (ci 1))),(.r false [9], l1 14 13),(.c false [], .o (.call (some 15) (cf 174) [(ci 1), (sl 14)])),(kH, .o (.store 2 (sl 2) (sl 9))),(kH, .o (.store 2 (sl 3) (sl 15)))])
 (.ret))))
theorem q0a4 {rin args Q} (ha : args.length <= 16) (h : fW 16 q036 [.cell 2 47, .cell 3 47] rin args Q) : Fun Try.prog 112 rin args Q :=
 Fun.of (H := ⟨[], []⟩) Try.func112 rfl rfl rfl (by kernel_rfl) ha (by decide) h

def q035 : CC :=
 (.seq (.reg [.o (.alloc 2 [.v (.int .i64 0), .v (.slice none 0 0)]),.o (.alloc 3 [.v (.int .i64 0), .v (.slice none 0 0)])])
 ((.seq (.draw [9, 15] [kr (mv 4 0),kr (.o (.nilc 5 (sl 4))),kr (fl 6 5 5),kr (.o (.idxA 7 2 1 (sl 6) (ci 0))),kr (l1 8 7),(.c false [], .o (.call (some 9) (cf 174) [(ci 0), (sl 8)])),(.r false [9], mv 10 0),(.r false [9], .o (.nilc 11 (sl 10))),(.r false [9], fl 12 5 11),(.r false [9], .o (.idxA 13 2 1 (sl 12) (ci 1))),(.r false [9], l1 14 13),(.c false [], .o (.call (some 15) (cf 174) [(ci 1), (sl 14)])),(kH, .o (.store 2 (sl 2) (sl 9))),(kH, .o (.store 2 (sl 3) (sl 15)))])
 (.ret))))
theorem q0a3 {rin args Q} (ha : args.length <= 16) (h : fW 16 q035 [.cell 2 47, .cell 3 47] rin args Q) : Fun Try.prog 113 rin args Q :=
 Fun.of (H := ⟨[], []⟩) Try.func113 rfl rfl rfl (by kernel_rfl) ha (by decide) h

def q03b : CC :=
 (.seq (.reg [.o (.box 1 (sl 0)),.o (.move 2 (cb false))])
 ((.seq (.reg [fl 5 1 1,l1 6 5,.o (.lenS 7 (sl 6)),mv 3 7])
 ((.seq (.seq (.reg [fl 8 0 1,ln 9 1 8,.o (.call (some 10) (cf 175) [(sl 9)]),.o (.un 11 .not (sl 10)),mv 12 11,.g 12 false (some 13) (.move 13 (sl 3)),.g 12 false (some 14) (.call (some 14) (cf 110) [(sl 13), (ci 1), (ci 6)]),.g 12 false (some 15) (.un 15 .not (sl 14)),.o (.pick 16 (sl 12) (cb true) (sl 15)),mv 17 16,.g 17 false (some 18) (.fld 18 2 (sl 1)),.g 17 false (some 19) (.load1 19 (sl 18)),.g 17 false (some 20) (.lenS 20 (sl 19)),.g 17 false (some 21) (.move 21 (sl 3)),.g 17 false (some 22) (.bin 22 .neq (sl 20) (sl 21)),.o (.pick 23 (sl 17) (cb true) (sl 22))])
 ((.cond (sl 23) (.seq (.reg [.o (.move 2 (cb false))])
 (.ret))
 .skip)))
 ((.seq (.seq (.reg [mv 24 3,.o (.move 25 (ci 0))])
 ((.block 0 (.loop (.seq (.reg [.o (.bin 26 .lss (sl 25) (sl 24))])
 ((.seq (.cond (sl 26) .skip
 (.exit 0))
 ((.seq (.block 1 (.seq (.reg [mv 27 25,mv 4 27])
 ((.seq (.reg [fl 28 1 1,l1 29 28,mv 30 4,ix 31 29 30,l1 32 31,.o (.lenS 33 (sl 32)),mv 34 3,.o (.bin 35 .neq (sl 33) (sl 34)),mv 36 35,.g 36 false (some 37) (.fld 37 2 (sl 1)),.g 36 false (some 38) (.load1 38 (sl 37)),.g 36 false (some 39) (.move 39 (sl 4)),.g 36 false (some 40) (.idx 40 1 (sl 38) (sl 39)),.g 36 false (some 41) (.load1 41 (sl 40)),.g 36 false (some 42) (.lenS 42 (sl 41)),.g 36 false (some 43) (.move 43 (sl 3)),.g 36 false (some 44) (.bin 44 .neq (sl 42) (sl 43)),.o (.pick 45 (sl 36) (cb true) (sl 44)),mv 46 45,.g 46 false (some 47) (.fld 47 1 (sl 1)),.g 46 false (some 48) (.load1 48 (sl 47)),.g 46 false (some 49) (.move 49 (sl 4)),.g 46 false (some 50) (.idx 50 1 (sl 48) (sl 49)),.g 46 false (some 51) (.load1 51 (sl 50)),.g 46 false (some 52) (.call (some 52) (cf 176) [(sl 51), (ci 0), (ci 9)]),.g 46 false (some 53) (.un 53 .not (sl 52)),.o (.pick 54 (sl 46) (cb true) (sl 53)),mv 55 54,.g 55 false (some 56) (.fld 56 2 (sl 1)),.g 55 false (some 57) (.load1 57 (sl 56)),.g 55 false (some 58) (.move 58 (sl 4)),.g 55 false (some 59) (.idx 59 1 (sl 57) (sl 58)),.g 55 false (some 60) (.load1 60 (sl 59)),.g 55 false (some 61) (.call (some 61) (cf 176) [(sl 60), (ci (-1)), (ci 1)]),.g 55 false (some 62) (.un 62 .not (sl 61)),.o (.pick 63 (sl 55) (cb true) (sl 62))])
 ((.cond (sl 63) (.seq (.reg [.o (.move 2 (cb false))])
 (.ret))
 .skip))))))
 ((.reg [.o (.bin 64 .add (sl 25) (ci 1)),mv 25 64])))))))))))
 ((.seq (.reg [ln 65 3 1,.o (.call (some 66) (cf 177) [(sl 65)]),.o (.bin 67 .gtr (sl 66) (ci 0)),mv 2 67])
 (.ret))))))))))
theorem q0a9 {rin args Q} (ha : args.length <= 68) (h : fW 68 q03b [.tmp 2] rin args Q) : Fun Try.prog 115 rin args Q :=
 Fun.of (H := ⟨[], []⟩) Try.func115 rfl rfl rfl (by kernel_rfl) ha (by decide) h

def q03t : CC :=
 (.seq (.reg [.o (.box 2 (sl 0)),.o (.move 4 (cv (.slice none 0 0)))])
 ((.seq (.reg [ln 10 3 2,.o (.call (some 11) (cf 170) [(sl 10)]),mv 5 11])
 ((.seq (.reg [.o (.move 6 (cv (.slice none 0 0)))])
 ((.seq (.seq (.reg [mv 12 1,.o (.bin 13 .add (sl 12) (ci 1)),.o (.move 14 (ci 0))])
 ((.block 0 (.loop (.seq (.reg [.o (.bin 15 .lss (sl 14) (sl 13))])
 ((.seq (.cond (sl 15) .skip
 (.exit 0))
 ((.seq (.block 1 (.seq (.reg [mv 16 14,mv 7 16])
 ((.seq (.seq (.reg [mv 17 7,.o (.bin 18 .gtr (sl 17) (ci 0))])
 ((.cond (sl 18) (.reg [mv 19 5,.o (.call (some 20) (cf 171) [(sl 19)])])
 .skip)))
 ((.seq (.reg [mv 22 5,.o (.call (some 23) (cf 113) [(sl 22)]),mv 21 23,.o (.extract 24 (sl 21) 0),.o (.extract 25 (sl 21) 1),.o (.alloc 8 [.v (.int .i64 0), .v (.slice none 0 0)]),.o (.alloc 9 [.v (.int .i64 0), .v (.slice none 0 0)]),.o (.store 2 (sl 8) (sl 24)),.o (.store 2 (sl 9) (sl 25))])
 ((.reg [mv 26 6,ln 27 3 2,ln 28 2 8,ln 29 2 9,.o (.call (some 30) (cf 128) [(sl 27), (sl 28), (sl 29)]),.o (.bslice 31 1 1 [(0, (sl 30))]),.o (.app 32 1 8 (sl 26) (sl 31)),mv 6 32]))))))))
 ((.reg [.o (.bin 33 .add (sl 14) (ci 1)),mv 14 33])))))))))))
 ((.seq (.reg [mv 34 6,mv 4 34])
 (.ret))))))))))
theorem q0ar {rin args Q} (ha : args.length <= 35) (h : fW 35 q03t [.tmp 4] rin args Q) : Fun Try.prog 116 rin args Q :=
 Fun.of (H := ⟨[], []⟩) Try.func116 rfl rfl rfl (by kernel_rfl) ha (by decide) h

def q04g : CC :=
 (.seq (.reg [.o (.move 4 (ci 0))])
 ((.seq (.seq (.reg [mv 6 0,.o (.lenS 7 (sl 6)),.o (.move 8 (ci 0))])
 ((.block 0 (.loop (.seq (.reg [.o (.bin 9 .lss (sl 8) (sl 7))])
 ((.seq (.cond (sl 9) .skip
 (.exit 0))
 ((.seq (.block 1 (.seq (.reg [mv 10 8,mv 5 10])
 ((.seq (.reg [mv 11 1,mv 12 0,mv 13 5,ix 14 12 13,l1 15 14,.o (.bin 16 .eql (sl 11) (sl 15))])
 ((.cond (sl 16) (.seq (.reg [mv 17 5,mv 4 17])
 (.ret))
 .skip))))))
 ((.reg [.o (.bin 18 .add (sl 8) (ci 1)),mv 8 18])))))))))))
 ((.seq (.reg [.o (.move 4 (ci (-1)))])
 (.ret))))))
theorem q0be {rin args Q} (ha : args.length <= 19) (h : fW 19 q04g [.tmp 4] rin args Q) : Fun Try.prog 117 rin args Q :=
 Fun.of (H := ⟨[], []⟩) Try.func117 rfl rfl rfl (by kernel_rfl) ha (by decide) h

def q0yh : CC :=
 (.seq (.reg [.o (.move 2 (cv (.pointer none)))])
 ((.seq (.reg [mv 5 0,.o (.build 6 [.v (.slice none 0 0), .v (.int .i64 0), .v (.int .i64 0)] [(0, 1), (1, 1), (2, 1)] [(0, (sl 5)), (2, (ci 45007))]),.o (.box 7 (sl 6)),mv 3 7])
 ((.seq (.seq (.reg [.o (.move 4 (ci 0))])
 ((.block 0 (.loop (.seq (.seq (.reg [mv 8 4,mv 9 0,.o (.lenS 10 (sl 9)),.o (.bin 11 .lss (sl 8) (sl 10)),mv 12 11,.g 12 true (some 13) (.move 13 (sl 4)),.g 12 true (some 14) (.bin 14 .lss (sl 13) (ci 64)),.o (.pick 15 (sl 12) (sl 14) (cb false))])
 ((.cond (sl 15) .skip
 (.exit 0))))
 ((.seq (.block 1 (.draw [] [kr (mv 18 3),kr (mv 19 3),kr (.o (.nilc 20 (sl 19))),kr (fl 21 2 20),kr (l1 22 21),kr (.o (.bin 23 .mul (sl 22) (ci 61))),kr (mv 24 0),kr (mv 25 4),kr (ix 26 24 25),kr (l1 27 26),kr (.o (.conv 28 .i64 (sl 27))),kr (.o (.bin 29 .add (sl 23) (sl 28))),kr (.o (.bin 30 .rem (sl 29) (ci 2147483647))),kr (.o (.nilc 31 (sl 18))),kr (fl 32 2 31),(kH, .o (.store 1 (sl 32) (sl 30)))]))
 ((.reg [mv 16 4,.o (.bin 17 .add (sl 16) (ci 1)),mv 4 17])))))))))
 ((.seq (.reg [mv 33 3,mv 2 33])
 (.ret))))))))
theorem q0zm {rin args Q} (ha : args.length <= 34) (h : fW 34 q0yh [.tmp 2] rin args Q) : Fun Try.prog 119 rin args Q :=
 Fun.of (H := ⟨[], []⟩) Try.func119 rfl rfl rfl (by kernel_rfl) ha (by decide) h

def q054 : CC :=
 (.seq (.reg [.o (.box 3 (sl 0)),.o (.box 4 (sl 1)),.o (.box 5 (sl 2)),.o (.move 6 (ci 0)),.o (.move 7 (ci 0))])
 ((.seq (.reg [ln 13 3 3,ln 14 2 5,.o (.call (some 15) (cf 132) [(sl 13), (sl 14)]),mv 12 15,.o (.extract 16 (sl 12) 0),.o (.extract 17 (sl 12) 1),.o (.alloc 9 [.v (.int .i64 0), .v (.slice none 0 0)]),mv 8 16,.o (.store 2 (sl 9) (sl 17))])
 ((.seq (.reg [ln 19 3 3,ln 20 2 4,.o (.call (some 21) (cf 132) [(sl 19), (sl 20)]),mv 18 21,.o (.extract 22 (sl 18) 0),.o (.extract 23 (sl 18) 1),.o (.alloc 11 [.v (.int .i64 0), .v (.slice none 0 0)]),mv 10 22,.o (.store 2 (sl 11) (sl 23))])
 ((.seq (.reg [mv 24 8,mv 25 10,mv 6 24,mv 7 25])
 (.ret))))))))
theorem q0c2 {rin args Q} (ha : args.length <= 26) (h : fW 26 q054 [.tmp 6, .tmp 7] rin args Q) : Fun Try.prog 124 rin args Q :=
 Fun.of (H := ⟨[], []⟩) Try.func124 rfl rfl rfl (by kernel_rfl) ha (by decide) h

def q0yi : CC :=
 (.seq (.reg [.o (.move 4 (ci 0))])
 ((.seq (.seq (.reg [mv 6 1,.o (.bin 7 .leq (sl 6) (ci 1))])
 ((.cond (sl 7) (.seq (.reg [.o (.move 4 (ci 0))])
 (.ret))
 .skip)))
 ((.seq (.reg [mv 8 0,mv 9 0,.o (.nilc 10 (sl 9)),fl 11 2 10,l1 12 11,.o (.bin 13 .mul (sl 12) (ci 48271)),.o (.bin 14 .add (sl 13) (ci 29)),.o (.bin 15 .rem (sl 14) (ci 2147483647)),.o (.nilc 16 (sl 8)),fl 17 2 16,.o (.store 1 (sl 17) (sl 15))])
 ((.seq (.reg [mv 18 0,.o (.nilc 19 (sl 18)),fl 20 2 19,l1 21 20,.o (.bin 22 .quo (sl 21) (ci 31)),mv 5 22])
 ((.seq (.seq (.draw [] [kr (mv 23 0),kr (.o (.nilc 24 (sl 23))),kr (fl 25 1 24),kr (l1 26 25),kr (mv 27 0),kr (.o (.nilc 28 (sl 27))),kr (fl 29 0 28),kr (l1 30 29),kr (.o (.lenS 31 (sl 30))),kr (.o (.bin 32 .lss (sl 26) (sl 31)))])
 ((.cond (sl 32) (.seq (.draw [] [kr (mv 33 5),kr (mv 34 0),kr (.o (.nilc 35 (sl 34))),kr (fl 36 0 35),kr (l1 37 36),kr (mv 38 0),kr (.o (.nilc 39 (sl 38))),kr (fl 40 1 39),kr (l1 41 40),kr (ix 42 37 41),kr (l1 43 42),kr (.o (.conv 44 .i64 (sl 43))),kr (.o (.bin 45 .add (sl 33) (sl 44))),kr (mv 5 45)])
 ((.seq (.reg [mv 46 0,.o (.nilc 47 (sl 46)),fl 48 1 47,l1 49 48,.o (.bin 50 .add (sl 49) (ci 1)),.o (.nilc 51 (sl 46)),fl 52 1 51,.o (.store 1 (sl 52) (sl 50))])
 ((.seq (.reg [mv 53 1,.o (.bin 54 .leq (sl 53) (ci 256)),mv 55 54,.g 55 true (some 56) (.move 56 (sl 0)),.g 55 true (some 57) (.nilc 57 (sl 56)),.g 55 true (some 58) (.fld 58 1 (sl 57)),.g 55 true (some 59) (.load1 59 (sl 58)),.g 55 true (some 60) (.bin 60 .rem (sl 59) (ci 2)),.g 55 true (some 61) (.bin 61 .eql (sl 60) (ci 0)),.o (.pick 62 (sl 55) (sl 61) (cb false))])
 ((.cond (sl 62) (.draw [] [kr (mv 63 0),kr (.o (.nilc 64 (sl 63))),kr (fl 65 0 64),kr (l1 66 65),kr (mv 67 0),kr (.o (.nilc 68 (sl 67))),kr (fl 69 1 68),kr (l1 70 69),kr (.o (.bin 71 .sub (sl 70) (ci 1))),kr (ix 72 66 71),kr (l1 73 72),kr (.o (.conv 74 .i64 (sl 73))),kr (mv 5 74)])
 .skip)))))))
 .skip)))
 ((.seq (.reg [mv 75 5,mv 76 1,.o (.bin 77 .rem (sl 75) (sl 76)),mv 4 77])
 (.ret))))))))))))
theorem q0zn {rin args Q} (ha : args.length <= 78) (h : fW 78 q0yi [.tmp 4] rin args Q) : Fun Try.prog 126 rin args Q :=
 Fun.of (H := ⟨[], []⟩) Try.func126 rfl rfl rfl (by kernel_rfl) ha (by decide) h

def q0yf : CC :=
 (.seq (.reg [.o (.alloc 0 [.v (.slice none 0 0), .v (.slice none 0 0), .v (.slice none 0 0)])])
 ((.seq (.reg [.o (.call (some 4) (cf 184) [(ci 1), (ci 1), (ci 0)]),mv 3 4,.o (.extract 5 (sl 3) 0),.o (.extract 6 (sl 3) 1),.o (.alloc 1 [.v (.slice none 0 0)]),.o (.store 1 (sl 1) (sl 5)),mv 2 6])
 ((.seq (.reg [ln 7 1 1,.o (.call (some 8) (cf 185) [(sl 7), (ci 3), (cb false)]),.o (.store 3 (sl 0) (sl 8))])
 (.ret))))))
theorem q0zk {rin args Q} (ha : args.length <= 9) (h : fW 9 q0yf [.cell 0 35] rin args Q) : Fun Try.prog 127 rin args Q :=
 Fun.of (H := ⟨[], []⟩) Try.func127 rfl rfl rfl (by kernel_rfl) ha (by decide) h

def q03g : CC :=
 (.seq (.reg [.o (.box 3 (sl 0)),.o (.box 4 (sl 1)),.o (.box 5 (sl 2)),.o (.move 6 (ci 0))])
 ((.seq (.reg [ln 10 3 3,ln 11 2 4,ln 12 2 5,.o (.call (some 13) (cf 146) [(sl 10), (sl 11), (sl 12)]),mv 9 13,.o (.extract 14 (sl 9) 0),.o (.extract 15 (sl 9) 1),mv 7 14,mv 8 15])
 ((.seq (.reg [mv 16 8,mv 17 7,.o (.bin 18 .sub (sl 16) (sl 17)),mv 6 18])
 (.ret))))))
theorem q0ae {rin args Q} (ha : args.length <= 19) (h : fW 19 q03g [.tmp 6] rin args Q) : Fun Try.prog 128 rin args Q :=
 Fun.of (H := ⟨[], []⟩) Try.func128 rfl rfl rfl (by kernel_rfl) ha (by decide) h

def q04k : CC :=
 (.seq (.reg [.o (.box 1 (sl 0)),.o (.move 2 (cb false))])
 ((.seq (.reg [fl 4 1 1,l1 5 4,.o (.lenS 6 (sl 5)),mv 3 6])
 ((.seq (.reg [fl 7 0 1,ln 8 1 7,.o (.call (some 9) (cf 194) [(sl 8)]),mv 10 9,.g 10 true (some 11) (.move 11 (sl 3)),.g 10 true (some 12) (.call (some 12) (cf 148) [(sl 11), (ci 1), (ci 6)]),.o (.pick 13 (sl 10) (sl 12) (cb false)),mv 14 13,.g 14 true (some 15) (.fld 15 1 (sl 1)),.g 14 true (some 16) (.load1 16 (sl 15)),.g 14 true (some 17) (.move 17 (sl 3)),.g 14 true (some 18) (.call (some 18) (cf 195) [(sl 16), (sl 17), (ci 0), (ci 9)]),.o (.pick 19 (sl 14) (sl 18) (cb false)),mv 20 19,.g 20 true (some 21) (.fld 21 2 (sl 1)),.g 20 true (some 22) (.load1 22 (sl 21)),.g 20 true (some 23) (.move 23 (sl 3)),.g 20 true (some 24) (.call (some 24) (cf 195) [(sl 22), (sl 23), (ci (-1)), (ci 1)]),.o (.pick 25 (sl 20) (sl 24) (cb false)),mv 26 25,.g 26 true (some 27) (.loadN 27 3 (sl 1)),.g 26 true (some 28) (.call (some 28) (cf 191) [(sl 27)]),.g 26 true (some 29) (.bin 29 .gtr (sl 28) (ci 0)),.o (.pick 30 (sl 26) (sl 29) (cb false)),mv 2 30])
 (.ret))))))
theorem q0bi {rin args Q} (ha : args.length <= 31) (h : fW 31 q04k [.tmp 2] rin args Q) : Fun Try.prog 139 rin args Q :=
 Fun.of (H := ⟨[], []⟩) Try.func139 rfl rfl rfl (by kernel_rfl) ha (by decide) h

def q03u : CC :=
 (.seq (.reg [.o (.box 3 (sl 0)),.o (.box 4 (sl 1)),.o (.box 5 (sl 2)),.o (.move 6 (ci 0)),.o (.move 7 (ci 0))])
 ((.seq (.reg [ln 13 3 3,ln 14 2 4,.o (.call (some 15) (cf 122) [(sl 13), (sl 14)]),mv 12 15,.o (.extract 16 (sl 12) 0),.o (.extract 17 (sl 12) 1),.o (.alloc 9 [.v (.int .i64 0), .v (.slice none 0 0)]),mv 8 16,.o (.store 2 (sl 9) (sl 17))])
 ((.seq (.reg [ln 19 3 3,ln 20 2 5,.o (.call (some 21) (cf 122) [(sl 19), (sl 20)]),mv 18 21,.o (.extract 22 (sl 18) 0),.o (.extract 23 (sl 18) 1),.o (.alloc 11 [.v (.int .i64 0), .v (.slice none 0 0)]),mv 10 22,.o (.store 2 (sl 11) (sl 23))])
 ((.seq (.reg [mv 24 8,.o (.un 25 .neg (sl 24)),mv 26 10,mv 6 25,mv 7 26])
 (.ret))))))))
theorem q0as {rin args Q} (ha : args.length <= 27) (h : fW 27 q03u [.tmp 6, .tmp 7] rin args Q) : Fun Try.prog 146 rin args Q :=
 Fun.of (H := ⟨[], []⟩) Try.func146 rfl rfl rfl (by kernel_rfl) ha (by decide) h

def q0yj : CC :=
 (.seq (.reg [.o (.move 4 (ci 0))])
 ((.seq (.reg [mv 5 1,mv 6 0,mv 7 1,.o (.lenS 8 (sl 7)),.o (.call (some 9) (cf 126) [(sl 6), (sl 8)]),ix 10 5 9,l1 11 10,mv 4 11])
 (.ret))))
theorem q0zo {rin args Q} (ha : args.length <= 12) (h : fW 12 q0yj [.tmp 4] rin args Q) : Fun Try.prog 147 rin args Q :=
 Fun.of (H := ⟨[], []⟩) Try.func147 rfl rfl rfl (by kernel_rfl) ha (by decide) h

def q04m : CC :=
 (.seq (.reg [.o (.move 6 (cb false))])
 ((.seq (.reg [mv 7 0,mv 8 1,.o (.bin 9 .geq (sl 7) (sl 8)),mv 10 9,.g 10 true (some 11) (.move 11 (sl 0)),.g 10 true (some 12) (.move 12 (sl 2)),.g 10 true (some 13) (.bin 13 .leq (sl 11) (sl 12)),.o (.pick 14 (sl 10) (sl 13) (cb false)),mv 6 14])
 (.ret))))
theorem q0bk {rin args Q} (ha : args.length <= 15) (h : fW 15 q04m [.tmp 6] rin args Q) : Fun Try.prog 148 rin args Q :=
 Fun.of (H := ⟨[], []⟩) Try.func148 rfl rfl rfl (by kernel_rfl) ha (by decide) h

def q03j : CC :=
 (.seq (.reg [.o (.box 2 (sl 0)),.o (.move 4 (cv (.slice none 0 0)))])
 ((.seq (.reg [.o (.move 5 (cv (.slice none 0 0)))])
 ((.seq (.seq (.reg [fl 9 0 2,ln 10 1 9,mv 11 1,.o (.call (some 12) (cf 181) [(sl 10), (sl 11)]),.o (.lenS 13 (sl 12)),.o (.move 14 (ci 0))])
 ((.block 0 (.loop (.seq (.reg [.o (.bin 15 .lss (sl 14) (sl 13))])
 ((.seq (.cond (sl 15) .skip
 (.exit 0))
 ((.seq (.block 1 (.seq (.reg [ix 16 12 14,l1 17 16,mv 7 17])
 ((.seq (.reg [fl 18 1 2,l1 19 18,.o (.lenS 20 (sl 19)),.o (.move 21 (ci 0))])
 ((.block 2 (.loop (.seq (.reg [.o (.bin 22 .lss (sl 21) (sl 20))])
 ((.seq (.cond (sl 22) .skip
 (.exit 2))
 ((.seq (.block 3 (.seq (.reg [mv 23 21,mv 8 23])
 ((.reg [mv 24 5,mv 25 7,mv 26 8,.o (.bslice 27 1 2 [(0, (sl 25)), (1, (sl 26))]),.o (.bslice 28 1 1 [(0, (sl 27))]),.o (.app 29 1 24 (sl 24) (sl 28)),mv 5 29]))))
 ((.reg [.o (.bin 30 .add (sl 21) (ci 1)),mv 21 30]))))))))))))))
 ((.reg [.o (.bin 31 .add (sl 14) (ci 1)),mv 14 31])))))))))))
 ((.seq (.reg [mv 32 5,mv 4 32])
 (.ret))))))))
theorem q0ah {rin args Q} (ha : args.length <= 33) (h : fW 33 q03j [.tmp 4] rin args Q) : Fun Try.prog 152 rin args Q :=
 Fun.of (H := ⟨[], []⟩) Try.func152 rfl rfl rfl (by kernel_rfl) ha (by decide) h

def q051 : CC :=
 (.seq (.reg [.o (.move 2 (ci 0))])
 ((.seq (.reg [.o (.move 3 (ci 1))])
 ((.seq (.block 0 (.loop (.seq (.seq (.reg [mv 4 0,.o (.bin 5 .gtr (sl 4) (ci 0))])
 ((.cond (sl 5) .skip
 (.exit 0))))
 ((.seq (.block 1 (.reg [mv 8 3,.o (.bin 9 .mul (sl 8) (ci 60)),mv 3 9]))
 ((.reg [mv 6 0,.o (.bin 7 .sub (sl 6) (ci 1)),mv 0 7])))))))
 ((.seq (.reg [mv 10 3,mv 2 10])
 (.ret))))))))
theorem q0bz {rin args Q} (ha : args.length <= 11) (h : fW 11 q051 [.tmp 2] rin args Q) : Fun Try.prog 157 rin args Q :=
 Fun.of (H := ⟨[], []⟩) Try.func157 rfl rfl rfl (by kernel_rfl) ha (by decide) h

def q04q : CC :=
 (.seq (.reg [.o (.box 2 (sl 0)),.o (.move 4 (ci 0))])
 ((.seq (.reg [fl 8 0 2,l1 9 8,mv 10 1,.o (.idx 11 5 (sl 9) (sl 10)),ln 12 5 11,.o (.alloc 5 [.v (.int .i64 0), .v (.int .i64 0), .v (.int .i64 0), .v (.int .i64 0), .v (.slice none 0 0)]),.o (.store 5 (sl 5) (sl 12))])
 ((.seq (.seq (.reg [fl 13 0 5,l1 14 13,.o (.bin 15 .eql (sl 14) (ci 2))])
 ((.cond (sl 15) (.seq (.reg [.o (.move 4 (ci 0))])
 (.ret))
 .skip)))
 ((.seq (.reg [.o (.move 6 (ci 0))])
 ((.seq (.seq (.reg [.o (.move 7 (ci 0))])
 ((.block 0 (.loop (.seq (.seq (.reg [mv 16 7,fl 17 4 5,l1 18 17,.o (.lenS 19 (sl 18)),.o (.bin 20 .lss (sl 16) (sl 19))])
 ((.cond (sl 20) .skip
 (.exit 0))))
 ((.seq (.block 1 (.draw [] [kr (mv 23 6),kr (ln 24 1 2),kr (fl 25 4 5),kr (l1 26 25),kr (mv 27 7),kr (ix 28 26 27),kr (l1 29 28),kr (.o (.call (some 30) (cf 158) [(sl 24), (sl 29)])),kr (.o (.mm 31 true (sl 23) (sl 30))),kr (mv 6 31)]))
 ((.reg [mv 21 7,.o (.bin 22 .add (sl 21) (ci 1)),mv 7 22])))))))))
 ((.seq (.reg [mv 32 6,.o (.bin 33 .add (sl 32) (ci 1)),mv 4 33])
 (.ret))))))))))))
theorem q0bo {rin args Q} (ha : args.length <= 34) (h : fW 34 q04q [.tmp 4] rin args Q) : Fun Try.prog 158 rin args Q :=
 Fun.of (H := ⟨[], []⟩) Try.func158 rfl rfl rfl (by kernel_rfl) ha (by decide) h

def q03p : CC :=
 (.seq (.reg [.o (.move 4 (ci 0))])
 ((.seq (.reg [.o (.move 5 (ci 1))])
 ((.seq (.seq (.reg [mv 6 1,.o (.move 7 (ci 0))])
 ((.block 0 (.loop (.seq (.reg [.o (.bin 8 .lss (sl 7) (sl 6))])
 ((.seq (.cond (sl 8) .skip
 (.exit 0))
 ((.seq (.block 1 (.reg [mv 9 5,mv 10 0,.o (.bin 11 .mul (sl 9) (sl 10)),mv 5 11]))
 ((.reg [.o (.bin 12 .add (sl 7) (ci 1)),mv 7 12])))))))))))
 ((.seq (.reg [mv 13 5,mv 4 13])
 (.ret))))))))
theorem q0an {rin args Q} (ha : args.length <= 14) (h : fW 14 q03p [.tmp 4] rin args Q) : Fun Try.prog 163 rin args Q :=
 Fun.of (H := ⟨[], []⟩) Try.func163 rfl rfl rfl (by kernel_rfl) ha (by decide) h

def q03f : CC :=
 (.seq (.reg [.o (.box 2 (sl 0)),.o (.move 4 (ci 0))])
 ((.seq (.reg [fl 9 0 2,l1 10 9,mv 11 1,.o (.idx 12 5 (sl 10) (sl 11)),ln 13 5 12,.o (.alloc 5 [.v (.int .i64 0), .v (.int .i64 0), .v (.int .i64 0), .v (.int .i64 0), .v (.slice none 0 0)]),.o (.store 5 (sl 5) (sl 13))])
 ((.seq (.seq (.reg [fl 14 0 5,l1 15 14,.o (.bin 16 .eql (sl 15) (ci 2))])
 ((.cond (sl 16) (.seq (.reg [.o (.move 4 (ci 0))])
 (.ret))
 .skip)))
 ((.seq (.reg [.o (.move 6 (ci 0))])
 ((.seq (.seq (.reg [fl 17 4 5,l1 18 17,.o (.lenS 19 (sl 18)),.o (.move 20 (ci 0))])
 ((.block 0 (.loop (.seq (.reg [.o (.bin 21 .lss (sl 20) (sl 19))])
 ((.seq (.cond (sl 21) .skip
 (.exit 0))
 ((.seq (.block 1 (.seq (.reg [ix 22 18 20,l1 23 22,mv 8 23])
 ((.reg [mv 24 6,ln 25 1 2,mv 26 8,.o (.call (some 27) (cf 164) [(sl 25), (sl 26)]),.o (.mm 28 true (sl 24) (sl 27)),mv 6 28]))))
 ((.reg [.o (.bin 29 .add (sl 20) (ci 1)),mv 20 29])))))))))))
 ((.seq (.reg [mv 30 6,.o (.bin 31 .add (sl 30) (ci 1)),mv 4 31])
 (.ret))))))))))))
theorem q0ad {rin args Q} (ha : args.length <= 32) (h : fW 32 q03f [.tmp 4] rin args Q) : Fun Try.prog 164 rin args Q :=
 Fun.of (H := ⟨[], []⟩) Try.func164 rfl rfl rfl (by kernel_rfl) ha (by decide) h

def q04n : CC :=
 (.seq (.reg [.o (.move 2 (cv (.slice none 0 0)))])
 ((.seq (.reg [.o (.bslice 3 1 0 []),mv 4 0,.o (.app 5 1 8 (sl 3) (sl 4)),mv 2 5])
 (.ret))))
theorem q0bl {rin args Q} (ha : args.length <= 6) (h : fW 6 q04n [.tmp 2] rin args Q) : Fun Try.prog 167 rin args Q :=
 Fun.of (H := ⟨[], []⟩) Try.func167 rfl rfl rfl (by kernel_rfl) ha (by decide) h

def q05c : CC :=
 (.seq (.reg [.o (.box 1 (sl 0)),.o (.move 2 (cv (.pointer none)))])
 ((.seq (.reg [ln 9 3 1,.o (.build 10 [.v (.slice none 0 0), .v (.slice none 0 0), .v (.slice none 0 0), .v (.slice none 0 0), .v (.slice none 0 0)] [(0, 3), (3, 1), (4, 1)] [(0, (sl 9))]),.o (.box 11 (sl 10)),mv 3 11])
 ((.seq (.seq (.reg [.o (.move 4 (ci 0))])
 ((.block 0 (.loop (.seq (.seq (.reg [mv 12 4,.o (.bin 13 .lss (sl 12) (ci 2))])
 ((.cond (sl 13) .skip
 (.exit 0))))
 ((.seq (.block 1 (.seq (.reg [ln 16 3 1,mv 17 4,.o (.call (some 18) (cf 196) [(sl 16), (sl 17)]),mv 5 18])
 ((.seq (.reg [.o (.bslice 19 1 0 []),.o (.bslice 20 1 0 []),mv 6 19,mv 7 20])
 ((.seq (.seq (.reg [.o (.move 8 (ci 0))])
 ((.block 2 (.loop (.seq (.seq (.reg [mv 21 8,mv 22 5,.o (.lenS 23 (sl 22)),.o (.bin 24 .lss (sl 21) (sl 23))])
 ((.cond (sl 24) .skip
 (.exit 2))))
 ((.seq (.block 3 (.seq (.reg [mv 27 6,mv 28 5,mv 29 8,ix 30 28 29,l1 31 30,.o (.make 32 [.v (.int .i64 0)] 8 (sl 31) (sl 31)),.o (.bslice 33 1 1 [(0, (sl 32))]),.o (.app 34 1 24 (sl 27) (sl 33)),mv 6 34])
 ((.reg [mv 35 7,mv 36 5,mv 37 8,ix 38 36 37,l1 39 38,.o (.make 40 [.v (.int .i64 0)] 8 (sl 39) (sl 39)),.o (.bslice 41 1 1 [(0, (sl 40))]),.o (.app 42 1 24 (sl 35) (sl 41)),mv 7 42]))))
 ((.reg [mv 25 8,.o (.bin 26 .add (sl 25) (ci 1)),mv 8 26])))))))))
 ((.seq (.reg [mv 43 3,mv 44 3,.o (.nilc 45 (sl 44)),fl 46 3 45,l1 47 46,mv 48 6,.o (.bslice 49 1 1 [(0, (sl 48))]),.o (.app 50 1 24 (sl 47) (sl 49)),.o (.nilc 51 (sl 43)),fl 52 3 51,.o (.store 1 (sl 52) (sl 50))])
 ((.reg [mv 53 3,mv 54 3,.o (.nilc 55 (sl 54)),fl 56 4 55,l1 57 56,mv 58 7,.o (.bslice 59 1 1 [(0, (sl 58))]),.o (.app 60 1 24 (sl 57) (sl 59)),.o (.nilc 61 (sl 53)),fl 62 4 61,.o (.store 1 (sl 62) (sl 60))]))))))))))
 ((.reg [mv 14 4,.o (.bin 15 .add (sl 14) (ci 1)),mv 4 15])))))))))
 ((.seq (.reg [mv 63 3,mv 2 63])
 (.ret))))))))
theorem q0ca {rin args Q} (ha : args.length <= 64) (h : fW 64 q05c [.tmp 2] rin args Q) : Fun Try.prog 168 rin args Q :=
 Fun.of (H := ⟨[], []⟩) Try.func168 rfl rfl rfl (by kernel_rfl) ha (by decide) h

def q04y : CC :=
 (.seq (.reg [.o (.move 2 (cv (.slice none 0 0)))])
 ((.seq (.reg [mv 12 0,.o (.call (some 13) (cf 187) [(sl 12)]),mv 3 13])
 ((.seq (.seq (.reg [mv 14 3,.o (.bin 15 .eql (sl 14) (ci 0))])
 ((.cond (sl 15) (.seq (.reg [.o (.bslice 16 1 0 []),mv 4 16])
 ((.seq (.seq (.reg [.o (.move 5 (ci 0))])
 ((.block 0 (.loop (.seq (.seq (.reg [mv 17 5,mv 18 0,.o (.lenS 19 (sl 18)),.o (.bin 20 .lss (sl 17) (sl 19))])
 ((.cond (sl 20) .skip
 (.exit 0))))
 ((.seq (.block 1 (.reg [mv 23 4,.o (.bslice 24 1 1 [(0, (ci 1))]),.o (.app 25 1 8 (sl 23) (sl 24)),mv 4 25]))
 ((.reg [mv 21 5,.o (.bin 22 .add (sl 21) (ci 1)),mv 5 22])))))))))
 ((.seq (.reg [mv 26 4,.o (.call (some 27) (cf 172) [(sl 26)]),mv 2 27])
 (.ret))))))
 .skip)))
 ((.seq (.reg [.o (.bslice 28 1 0 []),.o (.bslice 29 1 0 []),mv 6 28,mv 7 29])
 ((.seq (.seq (.reg [.o (.move 8 (ci 0))])
 ((.block 2 (.loop (.seq (.seq (.reg [mv 30 8,mv 31 0,.o (.lenS 32 (sl 31)),.o (.bin 33 .lss (sl 30) (sl 32))])
 ((.cond (sl 33) .skip
 (.exit 2))))
 ((.seq (.block 3 (.seq (.reg [mv 36 6,mv 37 0,mv 38 8,ix 39 37 38,l1 40 39,.o (.bin 41 .mul (ci 60) (sl 40)),mv 42 3,.o (.bin 43 .quo (sl 41) (sl 42)),.o (.bslice 44 1 1 [(0, (sl 43))]),.o (.app 45 1 8 (sl 36) (sl 44)),mv 6 45])
 ((.reg [mv 46 7,mv 47 0,mv 48 8,ix 49 47 48,l1 50 49,.o (.bin 51 .mul (ci 60) (sl 50)),mv 52 3,.o (.bin 53 .rem (sl 51) (sl 52)),.o (.bslice 54 1 1 [(0, (sl 53))]),.o (.app 55 1 8 (sl 46) (sl 54)),mv 7 55]))))
 ((.reg [mv 34 8,.o (.bin 35 .add (sl 34) (ci 1)),mv 8 35])))))))))
 ((.seq (.seq (.reg [mv 56 6,.o (.call (some 57) (cf 187) [(sl 56)]),.o (.bin 58 .sub (ci 60) (sl 57)),mv 9 58])
 ((.block 4 (.loop (.seq (.seq (.reg [mv 59 9,.o (.bin 60 .gtr (sl 59) (ci 0))])
 ((.cond (sl 60) .skip
 (.exit 4))))
 ((.seq (.block 5 (.seq (.reg [.o (.move 10 (ci 0))])
 ((.seq (.seq (.reg [.o (.move 11 (ci 1))])
 ((.block 6 (.loop (.seq (.seq (.reg [mv 63 11,mv 64 7,.o (.lenS 65 (sl 64)),.o (.bin 66 .lss (sl 63) (sl 65))])
 ((.cond (sl 66) .skip
 (.exit 6))))
 ((.seq (.block 7 (.seq (.draw [] [kr (mv 69 7),kr (mv 70 11),kr (ix 71 69 70),kr (l1 72 71),kr (mv 73 7),kr (mv 74 10),kr (ix 75 73 74),kr (l1 76 75),kr (.o (.bin 77 .gtr (sl 72) (sl 76)))])
 ((.cond (sl 77) (.reg [mv 78 11,mv 10 78])
 .skip))))
 ((.reg [mv 67 11,.o (.bin 68 .add (sl 67) (ci 1)),mv 11 68])))))))))
 ((.seq (.reg [mv 79 6,mv 80 10,ix 81 79 80,l1 82 81,.o (.bin 83 .add (sl 82) (ci 1)),ix 84 79 80,.o (.store 1 (sl 84) (sl 83))])
 ((.reg [mv 85 7,mv 86 10,ix 87 85 86,.o (.store 1 (sl 87) (ci (-1)))]))))))))
 ((.reg [mv 61 9,.o (.bin 62 .sub (sl 61) (ci 1)),mv 9 62])))))))))
 ((.seq (.reg [mv 88 6,mv 2 88])
 (.ret))))))))))))))
theorem q0bw {rin args Q} (ha : args.length <= 89) (h : fW 89 q04y [.tmp 2] rin args Q) : Fun Try.prog 172 rin args Q :=
 Fun.of (H := ⟨[], []⟩) Try.func172 rfl rfl rfl (by kernel_rfl) ha (by decide) h

def q05b : CC :=
 (.seq (.reg [.o (.move 2 (cv (.slice none 0 0)))])
 ((.seq (.reg [mv 7 0,.o (.call (some 8) (cf 167) [(sl 7)]),mv 3 8])
 ((.block 0 (.loop (.block 1 (.seq (.reg [.o (.move 4 (ci 0))])
 ((.seq (.seq (.reg [.o (.move 5 (ci 0))])
 ((.block 2 (.loop (.seq (.seq (.reg [mv 9 5,mv 10 3,.o (.lenS 11 (sl 10)),.o (.bin 12 .lss (sl 9) (sl 11))])
 ((.cond (sl 12) .skip
 (.exit 2))))
 ((.seq (.block 3 (.reg [mv 15 4,mv 16 3,mv 17 5,ix 18 16 17,l1 19 18,.o (.mm 20 true (sl 15) (sl 19)),mv 4 20]))
 ((.reg [mv 13 5,.o (.bin 14 .add (sl 13) (ci 1)),mv 5 14])))))))))
 ((.seq (.seq (.reg [mv 21 4,.o (.bin 22 .leq (sl 21) (ci 1000000000))])
 ((.cond (sl 22) (.seq (.reg [mv 23 3,mv 2 23])
 (.ret))
 .skip)))
 ((.seq (.reg [.o (.move 6 (ci 0))])
 ((.block 4 (.loop (.seq (.seq (.reg [mv 24 6,mv 25 3,.o (.lenS 26 (sl 25)),.o (.bin 27 .lss (sl 24) (sl 26))])
 ((.cond (sl 27) .skip
 (.exit 4))))
 ((.seq (.block 5 (.reg [mv 30 3,mv 31 6,mv 32 3,mv 33 6,ix 34 32 33,l1 35 34,.o (.bin 36 .quo (sl 35) (ci 2)),ix 37 30 31,.o (.store 1 (sl 37) (sl 36))]))
 ((.reg [mv 28 6,.o (.bin 29 .add (sl 28) (ci 1)),mv 6 29]))))))))))))))))))))))
theorem q0c9 {rin args Q} (ha : args.length <= 38) (h : fW 38 q05b [.tmp 2] rin args Q) : Fun Try.prog 173 rin args Q :=
 Fun.of (H := ⟨[], []⟩) Try.func173 rfl rfl rfl (by kernel_rfl) ha (by decide) h

def q03c : CC :=
 (.seq (.reg [.o (.box 1 (sl 0)),.o (.move 2 (cb false))])
 ((.seq (.reg [fl 11 0 1,l1 12 11,.o (.lenS 13 (sl 12)),mv 3 13])
 ((.seq (.seq (.reg [mv 14 3,.o (.call (some 15) (cf 110) [(sl 14), (ci 1), (ci 60)]),.o (.un 16 .not (sl 15))])
 ((.cond (sl 16) (.seq (.reg [.o (.move 2 (cb false))])
 (.ret))
 .skip)))
 ((.seq (.reg [mv 17 3,.o (.make 18 [.v (.int .i64 0)] 8 (sl 17) (sl 17)),mv 4 18])
 ((.seq (.seq (.reg [fl 19 0 1,l1 20 19,.o (.lenS 21 (sl 20)),.o (.move 22 (ci 0))])
 ((.block 0 (.loop (.seq (.reg [.o (.bin 23 .lss (sl 22) (sl 21))])
 ((.seq (.cond (sl 23) .skip
 (.exit 0))
 ((.seq (.block 1 (.seq (.reg [mv 24 22,.o (.idx 25 5 (sl 20) (sl 22)),ln 26 5 25,.o (.alloc 6 [.v (.int .i64 0), .v (.int .i64 0), .v (.int .i64 0), .v (.int .i64 0), .v (.slice none 0 0)]),mv 5 24,.o (.store 5 (sl 6) (sl 26))])
 ((.seq (.seq (.reg [fl 27 0 6,l1 28 27,.o (.call (some 29) (cf 110) [(sl 28), (ci 0), (ci 2)]),.o (.un 30 .not (sl 29)),mv 31 30,.g 31 false (some 32) (.fld 32 1 (sl 6)),.g 31 false (some 33) (.load1 33 (sl 32)),.g 31 false (some 34) (.call (some 34) (cf 110) [(sl 33), (ci 0), (ci 100)]),.g 31 false (some 35) (.un 35 .not (sl 34)),.o (.pick 36 (sl 31) (cb true) (sl 35)),mv 37 36,.g 37 false (some 38) (.fld 38 2 (sl 6)),.g 37 false (some 39) (.load1 39 (sl 38)),.g 37 false (some 40) (.call (some 40) (cf 110) [(sl 39), (ci 0), (ci 100)]),.g 37 false (some 41) (.un 41 .not (sl 40)),.o (.pick 42 (sl 37) (cb true) (sl 41))])
 ((.cond (sl 42) (.seq (.reg [.o (.move 2 (cb false))])
 (.ret))
 .skip)))
 ((.seq (.seq (.reg [fl 43 0 6,l1 44 43,.o (.bin 45 .eql (sl 44) (ci 2))])
 ((.cond (sl 45) (.seq (.seq (.reg [fl 46 4 6,l1 47 46,.o (.lenS 48 (sl 47)),.o (.bin 49 .gtr (sl 48) (ci 0)),mv 50 49,.g 50 false (some 51) (.fld 51 3 (sl 6)),.g 50 false (some 52) (.load1 52 (sl 51)),.g 50 false (some 53) (.call (some 53) (cf 110) [(sl 52), (ci (-1)), (ci 1)]),.g 50 false (some 54) (.un 54 .not (sl 53)),.o (.pick 55 (sl 50) (cb true) (sl 54)),mv 56 55,.g 56 false (some 57) (.fld 57 3 (sl 6)),.g 56 false (some 58) (.load1 58 (sl 57)),.g 56 false (some 59) (.bin 59 .eql (sl 58) (ci (-1))),.g 56 false (some 60) (.move 60 (sl 59)),.g 60 true (some 61) (.fld 61 1 (sl 6)),.g 60 true (some 62) (.load1 62 (sl 61)),.g 60 true (some 63) (.fld 63 2 (sl 6)),.g 60 true (some 64) (.load1 64 (sl 63)),.g 60 true (some 65) (.bin 65 .neq (sl 62) (sl 64)),.g 56 false (some 66) (.pick 66 (sl 60) (sl 65) (cb false)),.o (.pick 67 (sl 56) (cb true) (sl 66))])
 ((.cond (sl 67) (.seq (.reg [.o (.move 2 (cb false))])
 (.ret))
 .skip)))
 ((.exit 1)))
 .skip)))
 ((.seq (.seq (.reg [fl 68 3 6,l1 69 68,.o (.bin 70 .neq (sl 69) (ci (-1))),mv 71 70,.g 71 false (some 72) (.fld 72 4 (sl 6)),.g 71 false (some 73) (.load1 73 (sl 72)),.g 71 false (some 74) (.lenS 74 (sl 73)),.g 71 false (some 75) (.call (some 75) (cf 110) [(sl 74), (ci 1), (ci 4)]),.g 71 false (some 76) (.un 76 .not (sl 75)),.o (.pick 77 (sl 71) (cb true) (sl 76)),mv 78 77,.g 78 false (some 79) (.fld 79 4 (sl 6)),.g 78 false (some 80) (.load1 80 (sl 79)),.g 78 false (some 81) (.move 81 (sl 5)),.g 78 false (some 82) (.bin 82 .add (sl 81) (ci 1)),.g 78 false (some 83) (.move 83 (sl 3)),.g 78 false (some 84) (.bin 84 .sub (sl 83) (ci 1)),.g 78 false (some 85) (.call (some 85) (cf 176) [(sl 80), (sl 82), (sl 84)]),.g 78 false (some 86) (.un 86 .not (sl 85)),.o (.pick 87 (sl 78) (cb true) (sl 86)),mv 88 87,.g 88 false (some 89) (.fld 89 4 (sl 6)),.g 88 false (some 90) (.load1 90 (sl 89)),.g 88 false (some 91) (.call (some 91) (cf 212) [(sl 90)]),.g 88 false (some 92) (.un 92 .not (sl 91)),.o (.pick 93 (sl 88) (cb true) (sl 92))])
 ((.cond (sl 93) (.seq (.reg [.o (.move 2 (cb false))])
 (.ret))
 .skip)))
 ((.seq (.reg [fl 94 4 6,l1 95 94,.o (.lenS 96 (sl 95)),.o (.move 97 (ci 0))])
 ((.block 2 (.loop (.seq (.reg [.o (.bin 98 .lss (sl 97) (sl 96))])
 ((.seq (.cond (sl 98) .skip
 (.exit 2))
 ((.seq (.block 3 (.seq (.reg [ix 99 95 97,l1 100 99,mv 8 100])
 ((.reg [mv 101 4,mv 102 8,ix 103 101 102,l1 104 103,.o (.bin 105 .add (sl 104) (ci 1)),ix 106 101 102,.o (.store 1 (sl 106) (sl 105))]))))
 ((.reg [.o (.bin 107 .add (sl 97) (ci 1)),mv 97 107]))))))))))))))))))))
 ((.reg [.o (.bin 108 .add (sl 22) (ci 1)),mv 22 108])))))))))))
 ((.seq (.seq (.reg [mv 109 4,.o (.slc 110 1 (sl 109) (some (ci 1)) none),.o (.lenS 111 (sl 110)),.o (.move 112 (ci 0))])
 ((.block 4 (.loop (.seq (.reg [.o (.bin 113 .lss (sl 112) (sl 111))])
 ((.seq (.cond (sl 113) .skip
 (.exit 4))
 ((.seq (.block 5 (.seq (.reg [ix 114 110 112,l1 115 114,mv 10 115])
 ((.seq (.reg [mv 116 10,.o (.bin 117 .neq (sl 116) (ci 1))])
 ((.cond (sl 117) (.seq (.reg [.o (.move 2 (cb false))])
 (.ret))
 .skip))))))
 ((.reg [.o (.bin 118 .add (sl 112) (ci 1)),mv 112 118])))))))))))
 ((.seq (.reg [ln 119 1 1,.o (.call (some 120) (cf 164) [(sl 119), (ci 0)]),.o (.bin 121 .leq (sl 120) (ci 5)),mv 2 121])
 (.ret))))))))))))))
theorem q0aa {rin args Q} (ha : args.length <= 122) (h : fW 122 q03c [.tmp 2] rin args Q) : Fun Try.prog 175 rin args Q :=
 Fun.of (H := ⟨[], []⟩) Try.func175 rfl rfl rfl (by kernel_rfl) ha (by decide) h

def q03d : CC :=
 (.seq (.reg [.o (.move 6 (cb false))])
 ((.seq (.seq (.reg [mv 9 0,.o (.lenS 10 (sl 9)),.o (.move 11 (ci 0))])
 ((.block 0 (.loop (.seq (.reg [.o (.bin 12 .lss (sl 11) (sl 10))])
 ((.seq (.cond (sl 12) .skip
 (.exit 0))
 ((.seq (.block 1 (.seq (.reg [ix 13 9 11,l1 14 13,mv 8 14])
 ((.seq (.reg [mv 15 8,mv 16 1,mv 17 2,.o (.call (some 18) (cf 110) [(sl 15), (sl 16), (sl 17)]),.o (.un 19 .not (sl 18))])
 ((.cond (sl 19) (.seq (.reg [.o (.move 6 (cb false))])
 (.ret))
 .skip))))))
 ((.reg [.o (.bin 20 .add (sl 11) (ci 1)),mv 11 20])))))))))))
 ((.seq (.reg [.o (.move 6 (cb true))])
 (.ret))))))
theorem q0ab {rin args Q} (ha : args.length <= 21) (h : fW 21 q03d [.tmp 6] rin args Q) : Fun Try.prog 176 rin args Q :=
 Fun.of (H := ⟨[], []⟩) Try.func176 rfl rfl rfl (by kernel_rfl) ha (by decide) h

def q03s : CC :=
 (.seq (.reg [.o (.box 1 (sl 0)),.o (.move 2 (ci 0))])
 ((.seq (.reg [.o (.move 3 (ci 0))])
 ((.seq (.seq (.reg [fl 6 1 1,l1 7 6,.o (.lenS 8 (sl 7)),.o (.move 9 (ci 0))])
 ((.block 0 (.loop (.seq (.reg [.o (.bin 10 .lss (sl 9) (sl 8))])
 ((.seq (.cond (sl 10) .skip
 (.exit 0))
 ((.seq (.block 1 (.seq (.reg [ix 11 7 9,l1 12 11,mv 5 12])
 ((.reg [mv 13 3,mv 14 5,.o (.call (some 15) (cf 200) [(sl 14)]),.o (.bin 16 .add (sl 13) (sl 15)),mv 3 16]))))
 ((.reg [.o (.bin 17 .add (sl 9) (ci 1)),mv 9 17])))))))))))
 ((.seq (.reg [mv 18 3,mv 2 18])
 (.ret))))))))
theorem q0aq {rin args Q} (ha : args.length <= 19) (h : fW 19 q03s [.tmp 2] rin args Q) : Fun Try.prog 177 rin args Q :=
 Fun.of (H := ⟨[], []⟩) Try.func177 rfl rfl rfl (by kernel_rfl) ha (by decide) h

def q033 : CC :=
 (.seq (.reg [.o (.move 10 (ci 0))])
 ((.seq (.reg [mv 15 0,.o (.nilc 16 (sl 15)),fl 17 0 16,fl 18 0 17,fl 19 0 18,l1 20 19,mv 21 1,.o (.idx 22 5 (sl 20) (sl 21)),ln 23 5 22,.o (.alloc 11 [.v (.int .i64 0), .v (.int .i64 0), .v (.int .i64 0), .v (.int .i64 0), .v (.slice none 0 0)]),.o (.store 5 (sl 11) (sl 23))])
 ((.seq (.seq (.reg [fl 24 0 11,l1 25 24,.o (.bin 26 .eql (sl 25) (ci 2))])
 ((.cond (sl 26) (.seq (.reg [mv 27 0,.o (.nilc 28 (sl 27)),fl 29 0 28,ln 30 3 29,mv 31 1,mv 32 2,mv 33 3,.o (.call (some 34) (cf 213) [(sl 30), (sl 31), (sl 32), (sl 33)]),mv 35 4,.o (.call (some 36) (cf 163) [(ci 60), (sl 35)]),.o (.bin 37 .mul (sl 34) (sl 36)),mv 10 37])
 (.ret))
 .skip)))
 ((.seq (.reg [.o (.move 12 (ci 0))])
 ((.seq (.seq (.reg [mv 38 0,mv 39 1,mv 40 2,mv 41 3,.o (.call (some 42) (cf 214) [(sl 38), (sl 39), (sl 40), (sl 41)]),.o (.lenS 43 (sl 42)),.o (.move 44 (ci 0))])
 ((.block 0 (.loop (.seq (.reg [.o (.bin 45 .lss (sl 44) (sl 43))])
 ((.seq (.cond (sl 45) .skip
 (.exit 0))
 ((.seq (.block 1 (.seq (.reg [mv 46 44,ix 47 42 44,l1 48 47,mv 13 46,mv 14 48])
 ((.seq (.reg [mv 49 14,.o (.bin 50 .gtr (sl 49) (ci 0))])
 ((.cond (sl 50) (.reg [mv 51 12,mv 52 14,mv 53 0,fl 54 4 11,l1 55 54,mv 56 13,ix 57 55 56,l1 58 57,mv 59 2,mv 60 3,mv 61 4,.o (.bin 62 .sub (sl 61) (ci 1)),.o (.call (some 63) (cf 180) [(sl 53), (sl 58), (sl 59), (sl 60), (sl 62)]),.o (.bin 64 .mul (sl 52) (sl 63)),.o (.bin 65 .add (sl 51) (sl 64)),mv 12 65])
 .skip))))))
 ((.reg [.o (.bin 66 .add (sl 44) (ci 1)),mv 44 66])))))))))))
 ((.seq (.reg [mv 67 12,mv 10 67])
 (.ret))))))))))))
theorem q0a1 {rin args Q} (ha : args.length <= 68) (h : fW 68 q033 [.tmp 10] rin args Q) : Fun Try.prog 180 rin args Q :=
 Fun.of (H := ⟨[], []⟩) Try.func180 rfl rfl rfl (by kernel_rfl) ha (by decide) h

def q03m : CC :=
 (.seq (.reg [.o (.box 2 (sl 0)),.o (.move 4 (cv (.slice none 0 0)))])
 ((.seq (.reg [.o (.move 5 (cv (.slice none 0 0)))])
 ((.seq (.seq (.reg [fl 8 0 2,l1 9 8,.o (.lenS 10 (sl 9)),.o (.move 11 (ci 0))])
 ((.block 0 (.loop (.seq (.reg [.o (.bin 12 .lss (sl 11) (sl 10))])
 ((.seq (.cond (sl 12) .skip
 (.exit 0))
 ((.seq (.block 1 (.seq (.reg [mv 13 11,.o (.idx 14 5 (sl 9) (sl 11)),ln 15 5 14,.o (.alloc 7 [.v (.int .i64 0), .v (.int .i64 0), .v (.int .i64 0), .v (.int .i64 0), .v (.slice none 0 0)]),mv 6 13,.o (.store 5 (sl 7) (sl 15))])
 ((.seq (.reg [fl 16 0 7,l1 17 16,mv 18 1,.o (.bin 19 .eql (sl 17) (sl 18))])
 ((.cond (sl 19) (.reg [mv 20 5,mv 21 6,.o (.bslice 22 1 1 [(0, (sl 21))]),.o (.app 23 1 8 (sl 20) (sl 22)),mv 5 23])
 .skip))))))
 ((.reg [.o (.bin 24 .add (sl 11) (ci 1)),mv 11 24])))))))))))
 ((.seq (.reg [mv 25 5,mv 4 25])
 (.ret))))))))
theorem q0ak {rin args Q} (ha : args.length <= 26) (h : fW 26 q03m [.tmp 4] rin args Q) : Fun Try.prog 181 rin args Q :=
 Fun.of (H := ⟨[], []⟩) Try.func181 rfl rfl rfl (by kernel_rfl) ha (by decide) h

def q053 : CC :=
 (.seq (.reg [.o (.box 7 (sl 0)),.o (.box 8 (sl 1)),.o (.box 9 (sl 2)),.o (.move 14 (ci 0))])
 ((.seq (.reg [fl 19 0 7,fl 20 0 19,l1 21 20,mv 22 3,.o (.idx 23 5 (sl 21) (sl 22)),ln 24 5 23,.o (.alloc 15 [.v (.int .i64 0), .v (.int .i64 0), .v (.int .i64 0), .v (.int .i64 0), .v (.slice none 0 0)]),.o (.store 5 (sl 15) (sl 24))])
 ((.seq (.seq (.reg [fl 25 0 15,l1 26 25,.o (.bin 27 .eql (sl 26) (ci 2))])
 ((.cond (sl 27) (.seq (.reg [ln 28 3 7,mv 29 3,mv 30 4,mv 31 5,.o (.call (some 32) (cf 215) [(sl 28), (sl 29), (sl 30), (sl 31)]),mv 33 6,.o (.call (some 34) (cf 157) [(sl 33)]),.o (.bin 35 .mul (sl 32) (sl 34)),mv 14 35])
 (.ret))
 .skip)))
 ((.seq (.reg [ln 36 3 7,ln 37 2 8,ln 38 2 9,mv 39 3,mv 40 4,mv 41 5,.o (.call (some 42) (cf 216) [(sl 36), (sl 37), (sl 38), (sl 39), (sl 40), (sl 41)]),mv 16 42])
 ((.seq (.reg [.o (.move 17 (ci 0))])
 ((.seq (.seq (.reg [.o (.move 18 (ci 0))])
 ((.block 0 (.loop (.seq (.seq (.reg [mv 43 18,fl 44 4 15,l1 45 44,.o (.lenS 46 (sl 45)),.o (.bin 47 .lss (sl 43) (sl 46))])
 ((.cond (sl 47) .skip
 (.exit 0))))
 ((.seq (.block 1 (.draw [] [kr (mv 50 17),kr (mv 51 16),kr (mv 52 18),kr (ix 53 51 52),kr (l1 54 53),kr (ln 55 3 7),kr (ln 56 2 8),kr (ln 57 2 9),kr (fl 58 4 15),kr (l1 59 58),kr (mv 60 18),kr (ix 61 59 60),kr (l1 62 61),kr (mv 63 4),kr (mv 64 5),kr (mv 65 6),kr (.o (.bin 66 .sub (sl 65) (ci 1))),kr (.o (.call (some 67) (cf 183) [(sl 55), (sl 56), (sl 57), (sl 62), (sl 63), (sl 64), (sl 66)])),kr (.o (.bin 68 .mul (sl 54) (sl 67))),kr (.o (.bin 69 .add (sl 50) (sl 68))),kr (mv 17 69)]))
 ((.reg [mv 48 18,.o (.bin 49 .add (sl 48) (ci 1)),mv 18 49])))))))))
 ((.seq (.reg [mv 70 17,mv 14 70])
 (.ret))))))))))))))
theorem q0c1 {rin args Q} (ha : args.length <= 71) (h : fW 71 q053 [.tmp 14] rin args Q) : Fun Try.prog 183 rin args Q :=
 Fun.of (H := ⟨[], []⟩) Try.func183 rfl rfl rfl (by kernel_rfl) ha (by decide) h

def q0yc : CC :=
 (.seq (.reg [.o (.alloc 6 [.v (.slice none 0 0)]),.o (.move 7 (ci 0))])
 ((.seq (.seq (.reg [mv 8 0,.o (.call (some 9) (cf 148) [(sl 8), (ci 0), (ci 100)]),.o (.un 10 .not (sl 9)),mv 11 10,.g 11 false (some 12) (.move 12 (sl 1)),.g 11 false (some 13) (.call (some 13) (cf 148) [(sl 12), (ci 1), (ci 100)]),.g 11 false (some 14) (.un 14 .not (sl 13)),.o (.pick 15 (sl 11) (cb true) (sl 14)),mv 16 15,.g 16 false (some 17) (.move 17 (sl 2)),.g 16 false (some 18) (.call (some 18) (cf 148) [(sl 17), (ci 0), (ci 2)]),.g 16 false (some 19) (.un 19 .not (sl 18)),.o (.pick 20 (sl 16) (cb true) (sl 19)),mv 21 20,.g 21 false (some 22) (.move 22 (sl 0)),.g 21 false (some 23) (.move 23 (sl 1)),.g 21 false (some 24) (.move 24 (sl 2)),.g 21 false (some 25) (.bin 25 .add (sl 24) (ci 1)),.g 21 false (some 26) (.bin 26 .mul (sl 23) (sl 25)),.g 21 false (some 27) (.bin 27 .add (sl 22) (sl 26)),.g 21 false (some 28) (.bin 28 .gtr (sl 27) (ci 100)),.o (.pick 29 (sl 21) (cb true) (sl 28))])
 ((.cond (sl 29) (.seq (.reg [.o (.build 30 [.v (.slice none 0 0)] [(0, 1)] []),.o (.store 1 (sl 6) (sl 30)),.o (.move 7 (ci 2))])
 (.ret))
 .skip)))
 ((.seq (.reg [mv 31 0,mv 32 0,mv 33 1,mv 34 2,.o (.call (some 35) (cf 217) [(cv (.slice none 0 0)), (ci 0), (sl 31), (sl 32), (sl 33), (sl 34), (cb false)]),.o (.build 36 [.v (.slice none 0 0)] [(0, 1)] [(0, (sl 35))]),.o (.store 1 (sl 6) (sl 36)),.o (.move 7 (ci 0))])
 (.ret))))))
theorem q0zh {rin args Q} (ha : args.length <= 37) (h : fW 37 q0yc [.cell 6 33, .tmp 7] rin args Q) : Fun Try.prog 184 rin args Q :=
 Fun.of (H := ⟨[], []⟩) Try.func184 rfl rfl rfl (by kernel_rfl) ha (by decide) h

def q0yq : CC :=
 (.seq (.reg [.o (.box 3 (sl 0)),.o (.alloc 6 [.v (.slice none 0 0), .v (.slice none 0 0), .v (.slice none 0 0)])])
 ((.seq (.reg [.o (.bslice 13 1 0 []),.o (.bslice 14 1 0 []),mv 7 13,mv 8 14])
 ((.seq (.seq (.reg [.o (.move 9 (ci 0))])
 ((.block 0 (.loop (.seq (.seq (.reg [mv 15 9,mv 16 1,.o (.bin 17 .lss (sl 15) (sl 16))])
 ((.cond (sl 17) .skip
 (.exit 0))))
 ((.seq (.block 1 (.seq (.reg [.o (.bslice 20 1 0 []),.o (.bslice 21 1 0 []),mv 10 20,mv 11 21])
 ((.seq (.seq (.reg [.o (.move 12 (ci 0))])
 ((.block 2 (.loop (.seq (.seq (.reg [mv 22 12,mv 23 1,.o (.bin 24 .lss (sl 22) (sl 23))])
 ((.cond (sl 24) .skip
 (.exit 2))))
 ((.seq (.block 3 (.seq (.seq (.reg [mv 27 9,mv 28 12,.o (.bin 29 .eql (sl 27) (sl 28)),mv 30 29,.g 30 true (some 31) (.move 31 (sl 2)),.g 30 true (some 32) (.un 32 .not (sl 31)),.o (.pick 33 (sl 30) (sl 32) (cb false))])
 ((.cond (sl 33) (.reg [mv 34 10,.o (.bslice 35 1 1 [(0, (ci 0))]),.o (.app 36 1 8 (sl 34) (sl 35)),mv 10 36])
 (.reg [mv 37 10,.o (.bslice 38 1 1 [(0, (ci 1))]),.o (.app 39 1 8 (sl 37) (sl 38)),mv 10 39]))))
 ((.reg [mv 40 11,mv 41 9,mv 42 12,.o (.call (some 43) (cf 218) [(sl 41), (sl 42)]),.o (.bslice 44 1 1 [(0, (sl 43))]),.o (.app 45 1 8 (sl 40) (sl 44)),mv 11 45]))))
 ((.reg [mv 25 12,.o (.bin 26 .add (sl 25) (ci 1)),mv 12 26])))))))))
 ((.seq (.reg [mv 46 7,mv 47 10,.o (.bslice 48 1 1 [(0, (sl 47))]),.o (.app 49 1 24 (sl 46) (sl 48)),mv 7 49])
 ((.reg [mv 50 8,mv 51 11,.o (.bslice 52 1 1 [(0, (sl 51))]),.o (.app 53 1 24 (sl 50) (sl 52)),mv 8 53]))))))))
 ((.reg [mv 18 9,.o (.bin 19 .add (sl 18) (ci 1)),mv 9 19])))))))))
 ((.seq (.reg [ln 54 1 3,.o (.call (some 55) (cf 219) [(sl 54)]),mv 56 7,mv 57 8,.o (.build 58 [.v (.slice none 0 0), .v (.slice none 0 0), .v (.slice none 0 0)] [(0, 1), (1, 1), (2, 1)] [(0, (sl 55)), (1, (sl 56)), (2, (sl 57))]),.o (.store 3 (sl 6) (sl 58))])
 (.ret))))))))
theorem q0zv {rin args Q} (ha : args.length <= 59) (h : fW 59 q0yq [.cell 6 35] rin args Q) : Fun Try.prog 185 rin args Q :=
 Fun.of (H := ⟨[], []⟩) Try.func185 rfl rfl rfl (by kernel_rfl) ha (by decide) h

def q04w : CC :=
 (.seq (.reg [.o (.box 2 (sl 0)),.o (.move 4 (cv (.slice none 0 0)))])
 ((.seq (.reg [fl 9 0 2,ln 10 1 9,mv 11 1,.o (.call (some 12) (cf 220) [(sl 10), (sl 11)]),mv 5 12])
 ((.seq (.reg [.o (.bslice 13 1 0 []),mv 6 13])
 ((.seq (.seq (.reg [.o (.move 7 (ci 0))])
 ((.block 0 (.loop (.seq (.seq (.reg [mv 14 7,mv 15 5,.o (.lenS 16 (sl 15)),.o (.bin 17 .lss (sl 14) (sl 16))])
 ((.cond (sl 17) .skip
 (.exit 0))))
 ((.seq (.block 1 (.seq (.reg [.o (.move 8 (ci 0))])
 ((.block 2 (.loop (.seq (.seq (.reg [mv 20 8,fl 21 1 2,l1 22 21,.o (.lenS 23 (sl 22)),.o (.bin 24 .lss (sl 20) (sl 23))])
 ((.cond (sl 24) .skip
 (.exit 2))))
 ((.seq (.block 3 (.reg [mv 27 6,mv 28 5,mv 29 7,ix 30 28 29,l1 31 30,mv 32 8,.o (.bslice 33 1 2 [(0, (sl 31)), (1, (sl 32))]),.o (.bslice 34 1 1 [(0, (sl 33))]),.o (.app 35 1 24 (sl 27) (sl 34)),mv 6 35]))
 ((.reg [mv 25 8,.o (.bin 26 .add (sl 25) (ci 1)),mv 8 26]))))))))))
 ((.reg [mv 18 7,.o (.bin 19 .add (sl 18) (ci 1)),mv 7 19])))))))))
 ((.seq (.reg [mv 36 6,mv 4 36])
 (.ret))))))))))
theorem q0bu {rin args Q} (ha : args.length <= 37) (h : fW 37 q04w [.tmp 4] rin args Q) : Fun Try.prog 186 rin args Q :=
 Fun.of (H := ⟨[], []⟩) Try.func186 rfl rfl rfl (by kernel_rfl) ha (by decide) h

def q04p : CC :=
 (.seq (.reg [.o (.move 2 (ci 0))])
 ((.seq (.reg [.o (.move 3 (ci 0))])
 ((.seq (.seq (.reg [.o (.move 4 (ci 0))])
 ((.block 0 (.loop (.seq (.seq (.reg [mv 5 4,mv 6 0,.o (.lenS 7 (sl 6)),.o (.bin 8 .lss (sl 5) (sl 7))])
 ((.cond (sl 8) .skip
 (.exit 0))))
 ((.seq (.block 1 (.reg [mv 11 3,mv 12 0,mv 13 4,ix 14 12 13,l1 15 14,.o (.bin 16 .add (sl 11) (sl 15)),mv 3 16]))
 ((.reg [mv 9 4,.o (.bin 10 .add (sl 9) (ci 1)),mv 4 10])))))))))
 ((.seq (.reg [mv 17 3,mv 2 17])
 (.ret))))))))
theorem q0bn {rin args Q} (ha : args.length <= 18) (h : fW 18 q04p [.tmp 2] rin args Q) : Fun Try.prog 187 rin args Q :=
 Fun.of (H := ⟨[], []⟩) Try.func187 rfl rfl rfl (by kernel_rfl) ha (by decide) h

def q055 : CC :=
 (.seq (.reg [.o (.move 6 (ci 0)),.o (.move 7 (ci 0))])
 ((.seq (.seq (.reg [mv 8 0,.o (.nilc 9 (sl 8)),fl 10 3 9,l1 11 10,.o (.bin 12 .eql (sl 11) (ci 0))])
 ((.cond (sl 12) (.seq (.reg [mv 13 1,mv 14 2,mv 6 13,mv 7 14])
 (.ret))
 .skip)))
 ((.seq (.reg [mv 15 2,mv 16 1,mv 6 15,mv 7 16])
 (.ret))))))
theorem q0c3 {rin args Q} (ha : args.length <= 17) (h : fW 17 q055 [.tmp 6, .tmp 7] rin args Q) : Fun Try.prog 188 rin args Q :=
 Fun.of (H := ⟨[], []⟩) Try.func188 rfl rfl rfl (by kernel_rfl) ha (by decide) h

def q04x : CC :=
 (.seq (.reg [.o (.box 1 (sl 0)),.o (.move 2 (ci 0))])
 ((.seq (.reg [.o (.move 3 (ci 0))])
 ((.seq (.seq (.reg [.o (.move 4 (ci 0))])
 ((.block 0 (.loop (.seq (.seq (.reg [mv 5 4,fl 6 1 1,l1 7 6,.o (.lenS 8 (sl 7)),.o (.bin 9 .lss (sl 5) (sl 8))])
 ((.cond (sl 9) .skip
 (.exit 0))))
 ((.seq (.block 1 (.reg [mv 12 3,fl 13 1 1,l1 14 13,mv 15 4,ix 16 14 15,l1 17 16,.o (.call (some 18) (cf 187) [(sl 17)]),.o (.bin 19 .add (sl 12) (sl 18)),mv 3 19]))
 ((.reg [mv 10 4,.o (.bin 11 .add (sl 10) (ci 1)),mv 4 11])))))))))
 ((.seq (.reg [mv 20 3,mv 2 20])
 (.ret))))))))
theorem q0bv {rin args Q} (ha : args.length <= 21) (h : fW 21 q04x [.tmp 2] rin args Q) : Fun Try.prog 191 rin args Q :=
 Fun.of (H := ⟨[], []⟩) Try.func191 rfl rfl rfl (by kernel_rfl) ha (by decide) h

def q03n : CC :=
 (.seq (.reg [.o (.move 2 (cv (.slice none 0 0)))])
 ((.seq (.reg [mv 10 0,.o (.call (some 11) (cf 200) [(sl 10)]),mv 3 11])
 ((.seq (.draw [14, 17] [kr (mv 12 0),kr (.o (.lenS 13 (sl 12))),(kN, .o (.make 14 [.v (.int .i64 0)] 8 (sl 13) (sl 13))),(.r false [14], mv 15 0),(.r false [14], .o (.lenS 16 (sl 15))),(kN, .o (.make 17 [.v (.int .i64 0)] 8 (sl 16) (sl 16))),(.r false [17], mv 4 14),kr (mv 5 17)])
 ((.seq (.reg [.o (.move 6 (ci 60))])
 ((.seq (.seq (.reg [mv 18 0,.o (.lenS 19 (sl 18)),.o (.move 20 (ci 0))])
 ((.block 0 (.loop (.seq (.reg [.o (.bin 21 .lss (sl 20) (sl 19))])
 ((.seq (.cond (sl 21) .skip
 (.exit 0))
 ((.seq (.block 1 (.seq (.reg [mv 22 20,ix 23 18 20,l1 24 23,mv 7 22,mv 8 24])
 ((.seq (.seq (.reg [mv 25 3,.o (.bin 26 .eql (sl 25) (ci 0))])
 ((.cond (sl 26) (.draw [] [kr (mv 27 4),kr (mv 28 7),(kE, mv 29 5),(kE, mv 30 7),kr (mv 31 0),kr (.o (.lenS 32 (sl 31))),kr (.o (.bin 33 .quo (ci 60) (sl 32))),(kE, mv 34 0),(kE, .o (.lenS 35 (sl 34))),(kE, .o (.bin 36 .rem (ci 60) (sl 35))),kr (ix 37 27 28),(kH, .o (.store 1 (sl 37) (sl 33))),kr (ix 38 29 30),(kH, .o (.store 1 (sl 38) (sl 36)))])
 (.draw [] [kr (mv 39 4),kr (mv 40 7),(kE, mv 41 5),(kE, mv 42 7),kr (mv 43 8),kr (.o (.bin 44 .mul (ci 60) (sl 43))),kr (mv 45 3),kr (.o (.bin 46 .quo (sl 44) (sl 45))),(kE, mv 47 8),(kE, .o (.bin 48 .mul (ci 60) (sl 47))),(kE, mv 49 3),(kE, .o (.bin 50 .rem (sl 48) (sl 49))),kr (ix 51 39 40),(kH, .o (.store 1 (sl 51) (sl 46))),kr (ix 52 41 42),(kH, .o (.store 1 (sl 52) (sl 50)))]))))
 ((.reg [mv 53 6,mv 54 4,mv 55 7,ix 56 54 55,l1 57 56,.o (.bin 58 .sub (sl 53) (sl 57)),mv 6 58]))))))
 ((.reg [.o (.bin 59 .add (sl 20) (ci 1)),mv 20 59])))))))))))
 ((.seq (.block 2 (.loop (.seq (.seq (.reg [mv 60 6,.o (.bin 61 .gtr (sl 60) (ci 0))])
 ((.cond (sl 61) .skip
 (.exit 2))))
 ((.seq (.block 3 (.seq (.reg [mv 64 5,mv 65 5,.o (.call (some 66) (cf 106) [(sl 65)]),.o (.call (some 67) (cf 117) [(sl 64), (sl 66)]),mv 9 67])
 ((.seq (.reg [mv 68 4,mv 69 9,ix 70 68 69,l1 71 70,.o (.bin 72 .add (sl 71) (ci 1)),ix 73 68 69,.o (.store 1 (sl 73) (sl 72))])
 ((.reg [mv 74 5,mv 75 9,ix 76 74 75,.o (.store 1 (sl 76) (ci (-1)))]))))))
 ((.reg [mv 62 6,.o (.bin 63 .sub (sl 62) (ci 1)),mv 6 63])))))))
 ((.seq (.reg [mv 77 4,mv 2 77])
 (.ret))))))))))))))
theorem q0al {rin args Q} (ha : args.length <= 78) (h : fW 78 q03n [.tmp 2] rin args Q) : Fun Try.prog 193 rin args Q :=
 Fun.of (H := ⟨[], []⟩) Try.func193 rfl rfl rfl (by kernel_rfl) ha (by decide) h

def q04l : CC :=
 (.seq (.reg [.o (.box 1 (sl 0)),.o (.move 2 (cb false))])
 ((.seq (.reg [fl 8 0 1,l1 9 8,.o (.lenS 10 (sl 9)),mv 3 10])
 ((.seq (.seq (.reg [mv 11 3,.o (.call (some 12) (cf 148) [(sl 11), (ci 1), (ci 60)]),.o (.un 13 .not (sl 12))])
 ((.cond (sl 13) (.seq (.reg [.o (.move 2 (cb false))])
 (.ret))
 .skip)))
 ((.seq (.reg [mv 14 3,.o (.make 15 [.v (.int .i64 0)] 8 (sl 14) (sl 14)),mv 4 15])
 ((.seq (.seq (.reg [.o (.move 5 (ci 0))])
 ((.block 0 (.loop (.seq (.seq (.reg [mv 16 5,mv 17 3,.o (.bin 18 .lss (sl 16) (sl 17))])
 ((.cond (sl 18) .skip
 (.exit 0))))
 ((.seq (.block 1 (.seq (.seq (.reg [ln 21 1 1,mv 22 5,.o (.call (some 23) (cf 224) [(sl 21), (sl 22)]),.o (.un 24 .not (sl 23))])
 ((.cond (sl 24) (.seq (.reg [.o (.move 2 (cb false))])
 (.ret))
 .skip)))
 ((.seq (.reg [.o (.move 6 (ci 0))])
 ((.block 2 (.loop (.seq (.seq (.reg [mv 25 6,fl 26 0 1,l1 27 26,mv 28 5,.o (.idx 29 5 (sl 27) (sl 28)),fl 30 4 29,l1 31 30,.o (.lenS 32 (sl 31)),.o (.bin 33 .lss (sl 25) (sl 32))])
 ((.cond (sl 33) .skip
 (.exit 2))))
 ((.seq (.block 3 (.reg [mv 36 4,fl 37 0 1,l1 38 37,mv 39 5,.o (.idx 40 5 (sl 38) (sl 39)),fl 41 4 40,l1 42 41,mv 43 6,ix 44 42 43,l1 45 44,ix 46 36 45,l1 47 46,.o (.bin 48 .add (sl 47) (ci 1)),ix 49 36 45,.o (.store 1 (sl 49) (sl 48))]))
 ((.reg [mv 34 6,.o (.bin 35 .add (sl 34) (ci 1)),mv 6 35]))))))))))))
 ((.reg [mv 19 5,.o (.bin 20 .add (sl 19) (ci 1)),mv 5 20])))))))))
 ((.seq (.seq (.reg [.o (.move 7 (ci 1))])
 ((.block 4 (.loop (.seq (.seq (.reg [mv 50 7,mv 51 3,.o (.bin 52 .lss (sl 50) (sl 51))])
 ((.cond (sl 52) .skip
 (.exit 4))))
 ((.seq (.block 5 (.seq (.reg [mv 55 4,mv 56 7,ix 57 55 56,l1 58 57,.o (.bin 59 .neq (sl 58) (ci 1))])
 ((.cond (sl 59) (.seq (.reg [.o (.move 2 (cb false))])
 (.ret))
 .skip))))
 ((.reg [mv 53 7,.o (.bin 54 .add (sl 53) (ci 1)),mv 7 54])))))))))
 ((.seq (.reg [ln 60 1 1,.o (.call (some 61) (cf 158) [(sl 60), (ci 0)]),.o (.bin 62 .leq (sl 61) (ci 5)),mv 2 62])
 (.ret))))))))))))))
theorem q0bj {rin args Q} (ha : args.length <= 63) (h : fW 63 q04l [.tmp 2] rin args Q) : Fun Try.prog 194 rin args Q :=
 Fun.of (H := ⟨[], []⟩) Try.func194 rfl rfl rfl (by kernel_rfl) ha (by decide) h

def q04u : CC :=
 (.seq (.reg [.o (.move 8 (cb false))])
 ((.seq (.seq (.reg [.o (.move 9 (ci 0))])
 ((.block 0 (.loop (.seq (.seq (.reg [mv 11 9,mv 12 0,.o (.lenS 13 (sl 12)),.o (.bin 14 .lss (sl 11) (sl 13))])
 ((.cond (sl 14) .skip
 (.exit 0))))
 ((.seq (.block 1 (.seq (.seq (.reg [mv 17 0,mv 18 9,ix 19 17 18,l1 20 19,.o (.lenS 21 (sl 20)),mv 22 1,.o (.bin 23 .neq (sl 21) (sl 22))])
 ((.cond (sl 23) (.seq (.reg [.o (.move 8 (cb false))])
 (.ret))
 .skip)))
 ((.seq (.reg [.o (.move 10 (ci 0))])
 ((.block 2 (.loop (.seq (.seq (.reg [mv 24 10,mv 25 1,.o (.bin 26 .lss (sl 24) (sl 25))])
 ((.cond (sl 26) .skip
 (.exit 2))))
 ((.seq (.block 3 (.seq (.reg [mv 29 0,mv 30 9,ix 31 29 30,l1 32 31,mv 33 10,ix 34 32 33,l1 35 34,mv 36 2,mv 37 3,.o (.call (some 38) (cf 148) [(sl 35), (sl 36), (sl 37)]),.o (.un 39 .not (sl 38))])
 ((.cond (sl 39) (.seq (.reg [.o (.move 8 (cb false))])
 (.ret))
 .skip))))
 ((.reg [mv 27 10,.o (.bin 28 .add (sl 27) (ci 1)),mv 10 28]))))))))))))
 ((.reg [mv 15 9,.o (.bin 16 .add (sl 15) (ci 1)),mv 9 16])))))))))
 ((.seq (.reg [mv 40 0,.o (.lenS 41 (sl 40)),mv 42 1,.o (.bin 43 .eql (sl 41) (sl 42)),mv 8 43])
 (.ret))))))
theorem q0bs {rin args Q} (ha : args.length <= 44) (h : fW 44 q04u [.tmp 8] rin args Q) : Fun Try.prog 195 rin args Q :=
 Fun.of (H := ⟨[], []⟩) Try.func195 rfl rfl rfl (by kernel_rfl) ha (by decide) h

def q04z : CC :=
 (.seq (.reg [.o (.box 2 (sl 0)),.o (.move 4 (cv (.slice none 0 0)))])
 ((.seq (.reg [ln 8 3 2,mv 9 1,.o (.call (some 10) (cf 186) [(sl 8), (sl 9)]),mv 5 10])
 ((.seq (.reg [.o (.bslice 11 1 0 []),mv 6 11])
 ((.seq (.seq (.reg [.o (.move 7 (ci 0))])
 ((.block 0 (.loop (.seq (.seq (.reg [mv 12 7,mv 13 5,.o (.lenS 14 (sl 13)),.o (.bin 15 .lss (sl 12) (sl 14))])
 ((.cond (sl 15) .skip
 (.exit 0))))
 ((.seq (.block 1 (.draw [32] [kr (mv 18 6),kr (fl 19 0 2),kr (fl 20 0 19),kr (l1 21 20),kr (mv 22 5),kr (mv 23 7),kr (ix 24 22 23),kr (l1 25 24),kr (.o (.idx 26 1 (sl 25) (ci 0))),kr (l1 27 26),kr (.o (.idx 28 5 (sl 21) (sl 27))),kr (fl 29 4 28),kr (l1 30 29),kr (.o (.lenS 31 (sl 30))),(kN, .o (.bslice 32 1 1 [(0, (sl 31))])),(kH, .o (.app 33 1 8 (sl 18) (sl 32))),kr (mv 6 33)]))
 ((.reg [mv 16 7,.o (.bin 17 .add (sl 16) (ci 1)),mv 7 17])))))))))
 ((.seq (.reg [mv 34 6,mv 4 34])
 (.ret))))))))))
theorem q0bx {rin args Q} (ha : args.length <= 35) (h : fW 35 q04z [.tmp 4] rin args Q) : Fun Try.prog 196 rin args Q :=
 Fun.of (H := ⟨[], []⟩) Try.func196 rfl rfl rfl (by kernel_rfl) ha (by decide) h

def q04f : CC :=
 (.seq (.reg [.o (.move 2 (cv (.slice none 0 0)))])
 ((.seq (.seq (.reg [mv 3 0,.o (.isNil 4 false (sl 3))])
 ((.cond (sl 4) (.seq (.reg [.o (.move 2 (cv (.slice none 0 0)))])
 (.ret))
 .skip)))
 ((.seq (.reg [.o (.bslice 5 1 0 []),mv 6 0,.o (.app 7 1 8 (sl 5) (sl 6)),mv 2 7])
 (.ret))))))
theorem q0bd {rin args Q} (ha : args.length <= 8) (h : fW 8 q04f [.tmp 2] rin args Q) : Fun Try.prog 197 rin args Q :=
 Fun.of (H := ⟨[], []⟩) Try.func197 rfl rfl rfl (by kernel_rfl) ha (by decide) h

def q0yn : CC :=
 (.seq (.reg [.o (.move 6 (cv (.slice none 0 0)))])
 ((.seq (.reg [mv 12 1,.o (.lenS 13 (sl 12)),mv 7 13])
 ((.seq (.reg [mv 14 0,.o (.call (some 15) (cf 126) [(sl 14), (ci 6)]),mv 8 15])
 ((.seq (.seq (.reg [mv 16 2,.o (.bin 17 .eql (sl 16) (ci 0)),mv 18 17,.g 18 false (some 19) (.move 19 (sl 1)),.g 18 false (some 20) (.lenS 20 (sl 19)),.g 18 false (some 21) (.bin 21 .gtr (sl 20) (ci 30)),.o (.pick 22 (sl 18) (cb true) (sl 21)),mv 23 22,.g 23 false (some 24) (.move 24 (sl 1)),.g 23 false (some 25) (.lenS 25 (sl 24)),.g 23 false (some 26) (.bin 26 .gtr (sl 25) (ci 0)),.g 23 false (some 27) (.move 27 (sl 26)),.g 27 true (some 28) (.move 28 (sl 0)),.g 27 true (some 29) (.call (some 29) (cf 126) [(sl 28), (ci 3)]),.g 27 true (some 30) (.bin 30 .eql (sl 29) (ci 0)),.g 23 false (some 31) (.pick 31 (sl 27) (sl 30) (cb false)),.o (.pick 32 (sl 23) (cb true) (sl 31))])
 ((.cond (sl 32) (.seq (.reg [mv 33 8,mv 34 8,mv 35 0,.o (.call (some 36) (cf 126) [(sl 35), (ci 3)]),.o (.bin 37 .sub (sl 36) (ci 1)),.o (.build 38 [.v (.int .i64 0), .v (.int .i64 0), .v (.int .i64 0), .v (.int .i64 0), .v (.slice none 0 0)] [(0, 1), (1, 1), (2, 1), (3, 1), (4, 1)] [(0, (ci 2)), (1, (sl 33)), (2, (sl 34)), (3, (sl 37))]),.o (.alloc 9 [.v (.int .i64 0), .v (.int .i64 0), .v (.int .i64 0), .v (.int .i64 0), .v (.slice none 0 0)]),.o (.store 5 (sl 9) (sl 38))])
 ((.seq (.seq (.reg [fl 39 3 9,l1 40 39,.o (.bin 41 .geq (sl 40) (ci 0))])
 ((.cond (sl 41) (.reg [mv 42 0,.o (.call (some 43) (cf 126) [(sl 42), (ci 6)]),fl 44 2 9,.o (.store 1 (sl 44) (sl 43))])
 .skip)))
 ((.seq (.reg [mv 45 1,ln 46 5 9,.o (.bslice 47 5 1 [(0, (sl 46))]),.o (.app 48 5 56 (sl 45) (sl 47)),mv 6 48])
 (.ret))))))
 .skip)))
 ((.seq (.reg [mv 49 1,mv 50 0,.o (.call (some 51) (cf 126) [(sl 50), (ci 2)]),mv 52 8,mv 53 8,.o (.build 54 [.v (.int .i64 0), .v (.int .i64 0), .v (.int .i64 0), .v (.int .i64 0), .v (.slice none 0 0)] [(0, 1), (1, 1), (2, 1), (3, 1), (4, 1)] [(0, (sl 51)), (1, (sl 52)), (2, (sl 53)), (3, (ci (-1)))]),.o (.bslice 55 5 1 [(0, (sl 54))]),.o (.app 56 5 56 (sl 49) (sl 55)),mv 1 56])
 ((.seq (.reg [.o (.bslice 57 1 0 []),mv 10 57])
 ((.seq (.seq (.reg [mv 58 0,.o (.call (some 59) (cf 126) [(sl 58), (ci 3)]),.o (.bin 60 .add (ci 1) (sl 59)),mv 11 60])
 ((.block 0 (.loop (.seq (.seq (.reg [mv 61 11,.o (.bin 62 .gtr (sl 61) (ci 0))])
 ((.cond (sl 62) .skip
 (.exit 0))))
 ((.seq (.block 1 (.seq (.reg [mv 65 10,mv 66 1,.o (.lenS 67 (sl 66)),.o (.bslice 68 1 1 [(0, (sl 67))]),.o (.app 69 1 8 (sl 65) (sl 68)),mv 10 69])
 ((.reg [mv 70 0,mv 71 1,mv 72 2,.o (.bin 73 .sub (sl 72) (ci 1)),.o (.call (some 74) (cf 199) [(sl 70), (sl 71), (sl 73)]),mv 1 74]))))
 ((.reg [mv 63 11,.o (.bin 64 .sub (sl 63) (ci 1)),mv 11 64])))))))))
 ((.seq (.reg [mv 75 1,mv 76 7,mv 77 10,.o (.idx 78 5 (sl 75) (sl 76)),fl 79 4 78,.o (.store 1 (sl 79) (sl 77))])
 ((.seq (.reg [mv 80 1,mv 6 80])
 (.ret))))))))))))))))))
theorem q0zs {rin args Q} (ha : args.length <= 81) (h : fW 81 q0yn [.tmp 6] rin args Q) : Fun Try.prog 199 rin args Q :=
 Fun.of (H := ⟨[], []⟩) Try.func199 rfl rfl rfl (by kernel_rfl) ha (by decide) h

def q03r : CC :=
 (.seq (.reg [.o (.move 2 (ci 0))])
 ((.seq (.reg [.o (.move 3 (ci 0))])
 ((.seq (.seq (.reg [mv 6 0,.o (.lenS 7 (sl 6)),.o (.move 8 (ci 0))])
 ((.block 0 (.loop (.seq (.reg [.o (.bin 9 .lss (sl 8) (sl 7))])
 ((.seq (.cond (sl 9) .skip
 (.exit 0))
 ((.seq (.block 1 (.seq (.reg [ix 10 6 8,l1 11 10,mv 5 11])
 ((.reg [mv 12 3,mv 13 5,.o (.bin 14 .add (sl 12) (sl 13)),mv 3 14]))))
 ((.reg [.o (.bin 15 .add (sl 8) (ci 1)),mv 8 15])))))))))))
 ((.seq (.reg [mv 16 3,mv 2 16])
 (.ret))))))))
theorem q0ap {rin args Q} (ha : args.length <= 17) (h : fW 17 q03r [.tmp 2] rin args Q) : Fun Try.prog 200 rin args Q :=
 Fun.of (H := ⟨[], []⟩) Try.func200 rfl rfl rfl (by kernel_rfl) ha (by decide) h

def q059 : CC :=
 (.seq (.reg [.o (.box 6 (sl 0)),.o (.box 7 (sl 1)),.o (.box 8 (sl 2)),.o (.move 12 (cv (.slice none 0 0)))])
 ((.seq (.reg [fl 23 0 6,fl 24 0 23,l1 25 24,mv 26 4,.o (.idx 27 5 (sl 25) (sl 26)),ln 28 5 27,.o (.alloc 13 [.v (.int .i64 0), .v (.int .i64 0), .v (.int .i64 0), .v (.int .i64 0), .v (.slice none 0 0)]),.o (.store 5 (sl 13) (sl 28))])
 ((.seq (.reg [ln 29 2 8,.o (.alloc 14 [.v (.int .i64 0), .v (.slice none 0 0)]),.o (.store 2 (sl 14) (sl 29))])
 ((.seq (.seq (.reg [mv 30 3,.o (.bin 31 .eql (sl 30) (ci 1))])
 ((.cond (sl 31) (.reg [ln 32 2 7,.o (.store 2 (sl 14) (sl 32))])
 .skip)))
 ((.seq (.reg [fl 33 0 6,ln 34 1 33,mv 35 4,.o (.call (some 36) (cf 158) [(sl 34), (sl 35)]),.o (.bin 37 .sub (sl 36) (ci 1)),mv 15 37])
 ((.seq (.reg [.o (.bslice 38 1 0 []),mv 16 38])
 ((.seq (.seq (.reg [.o (.move 17 (ci 0))])
 ((.block 0 (.loop (.seq (.seq (.reg [mv 39 17,fl 40 4 13,l1 41 40,.o (.lenS 42 (sl 41)),.o (.bin 43 .lss (sl 39) (sl 42))])
 ((.cond (sl 43) .skip
 (.exit 0))))
 ((.seq (.block 1 (.seq (.reg [.o (.move 18 (ci 0))])
 ((.seq (.seq (.reg [.o (.move 19 (ci 0))])
 ((.block 2 (.loop (.seq (.seq (.reg [mv 46 19,fl 47 1 6,l1 48 47,.o (.lenS 49 (sl 48)),.o (.bin 50 .lss (sl 46) (sl 49))])
 ((.cond (sl 50) .skip
 (.exit 2))))
 ((.seq (.block 3 (.seq (.reg [mv 53 5,mv 54 19,mv 20 53,mv 21 54,.o (.move 22 (ci 1))])
 ((.seq (.seq (.reg [mv 55 3,.o (.bin 56 .eql (sl 55) (ci 1))])
 ((.cond (sl 56) (.reg [mv 57 19,mv 58 5,mv 20 57,mv 21 58,.o (.move 22 (ci (-1)))])
 .skip)))
 ((.seq (.reg [fl 59 1 6,l1 60 59,mv 61 20,ix 62 60 61,l1 63 62,mv 64 21,ix 65 63 64,l1 66 65,.o (.bin 67 .gtr (sl 66) (ci 0))])
 ((.cond (sl 67) (.draw [] [kr (mv 68 18),kr (mv 69 22),kr (fl 70 1 6),kr (l1 71 70),kr (mv 72 20),kr (ix 73 71 72),kr (l1 74 73),kr (mv 75 21),kr (ix 76 74 75),kr (l1 77 76),kr (.o (.bin 78 .mul (sl 69) (sl 77))),kr (ln 79 3 6),kr (ln 80 2 14),kr (mv 81 4),kr (mv 82 19),kr (.o (.call (some 83) (cf 209) [(sl 79), (sl 80), (sl 81), (sl 82)])),kr (.o (.bin 84 .mul (sl 78) (sl 83))),kr (ln 85 3 6),kr (ln 86 2 7),kr (ln 87 2 8),kr (fl 88 4 13),kr (l1 89 88),kr (mv 90 17),kr (ix 91 89 90),kr (l1 92 91),kr (mv 93 20),kr (mv 94 21),kr (mv 95 15),kr (.o (.call (some 96) (cf 183) [(sl 85), (sl 86), (sl 87), (sl 92), (sl 93), (sl 94), (sl 95)])),kr (.o (.bin 97 .mul (sl 84) (sl 96))),kr (.o (.bin 98 .add (sl 68) (sl 97))),kr (mv 18 98)])
 .skip))))))))
 ((.reg [mv 51 19,.o (.bin 52 .add (sl 51) (ci 1)),mv 19 52])))))))))
 ((.reg [mv 99 16,mv 100 18,.o (.bslice 101 1 1 [(0, (sl 100))]),.o (.app 102 1 8 (sl 99) (sl 101)),mv 16 102]))))))
 ((.reg [mv 44 17,.o (.bin 45 .add (sl 44) (ci 1)),mv 17 45])))))))))
 ((.seq (.reg [mv 103 16,mv 12 103])
 (.ret))))))))))))))))
theorem q0c7 {rin args Q} (ha : args.length <= 104) (h : fW 104 q059 [.tmp 12] rin args Q) : Fun Try.prog 208 rin args Q :=
 Fun.of (H := ⟨[], []⟩) Try.func208 rfl rfl rfl (by kernel_rfl) ha (by decide) h

def q05d : CC :=
 (.seq (.reg [.o (.box 4 (sl 0)),.o (.box 5 (sl 1)),.o (.move 8 (ci 0))])
 ((.seq (.reg [fl 13 0 4,ln 14 1 13,mv 15 2,.o (.call (some 16) (cf 225) [(sl 14), (sl 15)]),mv 9 16])
 ((.seq (.reg [.o (.move 10 (ci 0)),.o (.move 11 (ci 1))])
 ((.seq (.seq (.reg [.o (.move 12 (ci 0))])
 ((.block 0 (.loop (.seq (.seq (.reg [mv 17 12,mv 18 9,.o (.lenS 19 (sl 18)),.o (.bin 20 .lss (sl 17) (sl 19))])
 ((.cond (sl 20) .skip
 (.exit 0))))
 ((.seq (.block 1 (.seq (.seq (.draw [] [kr (fl 23 0 4),kr (fl 24 0 23),kr (l1 25 24),kr (mv 26 10),kr (.o (.idx 27 5 (sl 25) (sl 26))),kr (fl 28 0 27),kr (l1 29 28),kr (fl 30 0 5),kr (l1 31 30),kr (.o (.bin 32 .eql (sl 29) (sl 31)))])
 ((.cond (sl 32) (.draw [] [kr (mv 33 11),kr (fl 34 1 5),kr (l1 35 34),kr (ln 36 3 4),kr (fl 37 0 5),kr (l1 38 37),kr (mv 39 10),kr (mv 40 3),kr (.o (.call (some 41) (cf 221) [(sl 36), (sl 38), (sl 39), (sl 40)])),kr (ix 42 35 41),kr (l1 43 42),kr (mv 44 9),kr (mv 45 12),kr (ix 46 44 45),kr (l1 47 46),kr (ix 48 43 47),kr (l1 49 48),kr (.o (.bin 50 .mul (sl 33) (sl 49))),kr (mv 11 50)])
 .skip)))
 ((.draw [] [kr (fl 51 0 4),kr (fl 52 0 51),kr (l1 53 52),kr (mv 54 10),kr (.o (.idx 55 5 (sl 53) (sl 54))),kr (fl 56 4 55),kr (l1 57 56),kr (mv 58 9),kr (mv 59 12),kr (ix 60 58 59),kr (l1 61 60),kr (ix 62 57 61),kr (l1 63 62),kr (mv 10 63)]))))
 ((.reg [mv 21 12,.o (.bin 22 .add (sl 21) (ci 1)),mv 12 22])))))))))
 ((.seq (.reg [mv 64 11,mv 8 64])
 (.ret))))))))))
theorem q0cb {rin args Q} (ha : args.length <= 65) (h : fW 65 q05d [.tmp 8] rin args Q) : Fun Try.prog 209 rin args Q :=
 Fun.of (H := ⟨[], []⟩) Try.func209 rfl rfl rfl (by kernel_rfl) ha (by decide) h

def q03h : CC :=
 (.seq (.reg [.o (.move 2 (cv (.slice none 0 0)))])
 ((.seq (.reg [mv 5 0,.o (.call (some 6) (cf 197) [(sl 5)]),mv 3 6])
 ((.seq (.block 0 (.loop (.seq (.seq (.reg [mv 7 3,.o (.call (some 8) (cf 106) [(sl 7)]),.o (.bin 9 .gtr (sl 8) (ci 1000000000))])
 ((.cond (sl 9) .skip
 (.exit 0))))
 ((.block 1 (.seq (.reg [mv 10 3,.o (.lenS 11 (sl 10)),.o (.move 12 (ci 0))])
 ((.block 2 (.loop (.seq (.reg [.o (.bin 13 .lss (sl 12) (sl 11))])
 ((.seq (.cond (sl 13) .skip
 (.exit 2))
 ((.seq (.block 3 (.seq (.reg [mv 14 12,mv 4 14])
 ((.reg [mv 15 3,mv 16 4,ix 17 15 16,l1 18 17,.o (.bin 19 .quo (sl 18) (ci 2)),ix 20 15 16,.o (.store 1 (sl 20) (sl 19))]))))
 ((.reg [.o (.bin 21 .add (sl 12) (ci 1)),mv 12 21]))))))))))))))))
 ((.seq (.reg [mv 22 3,mv 2 22])
 (.ret))))))))
theorem q0af {rin args Q} (ha : args.length <= 23) (h : fW 23 q03h [.tmp 2] rin args Q) : Fun Try.prog 211 rin args Q :=
 Fun.of (H := ⟨[], []⟩) Try.func211 rfl rfl rfl (by kernel_rfl) ha (by decide) h

def q03i : CC :=
 (.seq (.reg [.o (.move 2 (cb false))])
 ((.seq (.seq (.reg [.o (.move 3 (ci 1))])
 ((.block 0 (.loop (.seq (.seq (.reg [mv 4 3,mv 5 0,.o (.lenS 6 (sl 5)),.o (.bin 7 .lss (sl 4) (sl 6))])
 ((.cond (sl 7) .skip
 (.exit 0))))
 ((.seq (.block 1 (.seq (.draw [] [kr (mv 10 0),kr (mv 11 3),kr (.o (.bin 12 .sub (sl 11) (ci 1))),kr (ix 13 10 12),kr (l1 14 13),kr (mv 15 0),kr (mv 16 3),kr (ix 17 15 16),kr (l1 18 17),kr (.o (.bin 19 .geq (sl 14) (sl 18)))])
 ((.cond (sl 19) (.seq (.reg [.o (.move 2 (cb false))])
 (.ret))
 .skip))))
 ((.reg [mv 8 3,.o (.bin 9 .add (sl 8) (ci 1)),mv 3 9])))))))))
 ((.seq (.reg [.o (.move 2 (cb true))])
 (.ret))))))
theorem q0ag {rin args Q} (ha : args.length <= 20) (h : fW 20 q03i [.tmp 2] rin args Q) : Fun Try.prog 212 rin args Q :=
 Fun.of (H := ⟨[], []⟩) Try.func212 rfl rfl rfl (by kernel_rfl) ha (by decide) h

def q03o : CC :=
 (.seq (.reg [.o (.box 4 (sl 0)),.o (.move 8 (ci 0))])
 ((.seq (.reg [fl 11 0 4,fl 12 0 11,l1 13 12,mv 14 1,.o (.idx 15 5 (sl 13) (sl 14)),ln 16 5 15,.o (.alloc 9 [.v (.int .i64 0), .v (.int .i64 0), .v (.int .i64 0), .v (.int .i64 0), .v (.slice none 0 0)]),.o (.store 5 (sl 9) (sl 16))])
 ((.seq (.reg [fl 17 2 4,l1 18 17,mv 19 2,ix 20 18 19,l1 21 20,mv 22 3,ix 23 21 22,l1 24 23,mv 10 24])
 ((.seq (.seq (.reg [fl 25 3 9,l1 26 25])
 ((.block 0 (.seq (.reg [.o (.bin 28 .eql (sl 26) (ci 0)),mv 27 28])
 ((.cond (sl 27) (.reg [.o (.move 10 (ci (-1)))])
 (.seq (.reg [.o (.bin 30 .eql (sl 26) (ci 1)),mv 29 30])
 ((.cond (sl 29) (.reg [.o (.move 10 (ci 1))])
 .skip)))))))))
 ((.seq (.seq (.reg [mv 31 10])
 ((.block 1 (.seq (.reg [.o (.bin 33 .eql (sl 31) (ci 1)),mv 32 33])
 ((.cond (sl 32) (.seq (.reg [fl 34 2 9,l1 35 34,mv 8 35])
 (.ret))
 (.seq (.reg [.o (.bin 37 .eql (sl 31) (ci (-1))),mv 36 37])
 ((.cond (sl 36) (.seq (.reg [fl 38 1 9,l1 39 38,.o (.un 40 .neg (sl 39)),mv 8 40])
 (.ret))
 .skip)))))))))
 ((.seq (.reg [.o (.move 8 (ci 0))])
 (.ret))))))))))))
theorem q0am {rin args Q} (ha : args.length <= 41) (h : fW 41 q03o [.tmp 8] rin args Q) : Fun Try.prog 213 rin args Q :=
 Fun.of (H := ⟨[], []⟩) Try.func213 rfl rfl rfl (by kernel_rfl) ha (by decide) h

def q032 : CC :=
 (.seq (.reg [.o (.move 8 (cv (.slice none 0 0)))])
 ((.seq (.reg [mv 11 0,.o (.nilc 12 (sl 11)),fl 13 0 12,fl 14 0 13,fl 15 0 14,l1 16 15,mv 17 1,.o (.idx 18 5 (sl 16) (sl 17)),fl 19 0 18,l1 20 19,mv 9 20])
 ((.seq (.reg [mv 21 2,mv 10 21])
 ((.seq (.seq (.reg [mv 22 9,.o (.bin 23 .eql (sl 22) (ci 1))])
 ((.cond (sl 23) (.reg [mv 24 3,mv 10 24])
 .skip)))
 ((.seq (.draw [] [kr (mv 25 0),kr (mv 26 9),kr (.o (.nilc 27 (sl 25))),kr (fl 28 5 27),kr (.o (.idxA 29 2 1 (sl 28) (sl 26))),kr (l1 30 29),kr (mv 31 0),kr (mv 32 9),kr (.o (.nilc 33 (sl 31))),kr (fl 34 3 33),kr (.o (.idxA 35 2 1 (sl 34) (sl 32))),kr (l1 36 35),kr (mv 37 1),kr (ix 38 36 37),kr (l1 39 38),kr (mv 40 10),kr (.o (.bin 41 .add (sl 39) (sl 40))),kr (ix 42 30 41),kr (l1 43 42),kr (mv 8 43)])
 (.ret))))))))))
theorem q0a0 {rin args Q} (ha : args.length <= 44) (h : fW 44 q032 [.tmp 8] rin args Q) : Fun Try.prog 214 rin args Q :=
 Fun.of (H := ⟨[], []⟩) Try.func214 rfl rfl rfl (by kernel_rfl) ha (by decide) h

def q04v : CC :=
 (.seq (.reg [.o (.box 4 (sl 0)),.o (.move 8 (ci 0))])
 ((.seq (.reg [fl 11 0 4,fl 12 0 11,l1 13 12,mv 14 1,.o (.idx 15 5 (sl 13) (sl 14)),ln 16 5 15,.o (.alloc 9 [.v (.int .i64 0), .v (.int .i64 0), .v (.int .i64 0), .v (.int .i64 0), .v (.slice none 0 0)]),.o (.store 5 (sl 9) (sl 16))])
 ((.seq (.reg [fl 17 2 4,l1 18 17,mv 19 2,ix 20 18 19,l1 21 20,mv 22 3,ix 23 21 22,l1 24 23,mv 10 24])
 ((.seq (.seq (.reg [fl 25 3 9,l1 26 25])
 ((.block 0 (.seq (.reg [.o (.bin 28 .eql (sl 26) (ci 0)),mv 27 28])
 ((.cond (sl 27) (.reg [.o (.move 10 (ci (-1)))])
 (.seq (.reg [.o (.bin 30 .eql (sl 26) (ci 1)),mv 29 30])
 ((.cond (sl 29) (.reg [.o (.move 10 (ci 1))])
 .skip)))))))))
 ((.seq (.seq (.reg [mv 31 10])
 ((.block 1 (.seq (.reg [.o (.bin 33 .eql (sl 31) (ci (-1))),mv 32 33])
 ((.cond (sl 32) (.seq (.reg [fl 34 1 9,l1 35 34,.o (.un 36 .neg (sl 35)),mv 8 36])
 (.ret))
 (.seq (.reg [.o (.bin 38 .eql (sl 31) (ci 1)),mv 37 38])
 ((.cond (sl 37) (.seq (.reg [fl 39 2 9,l1 40 39,mv 8 40])
 (.ret))
 .skip)))))))))
 ((.seq (.reg [.o (.move 8 (ci 0))])
 (.ret))))))))))))
theorem q0bt {rin args Q} (ha : args.length <= 41) (h : fW 41 q04v [.tmp 8] rin args Q) : Fun Try.prog 215 rin args Q :=
 Fun.of (H := ⟨[], []⟩) Try.func215 rfl rfl rfl (by kernel_rfl) ha (by decide) h

def q050 : CC :=
 (.seq (.reg [.o (.box 6 (sl 0)),.o (.box 7 (sl 1)),.o (.box 8 (sl 2)),.o (.move 12 (cv (.slice none 0 0)))])
 ((.seq (.seq (.reg [fl 13 0 6,fl 14 0 13,l1 15 14,mv 16 3,.o (.idx 17 5 (sl 15) (sl 16)),fl 18 0 17,l1 19 18,.o (.bin 20 .eql (sl 19) (ci 0))])
 ((.cond (sl 20) (.seq (.draw [] [kr (fl 21 1 7),kr (l1 22 21),kr (ln 23 3 6),kr (mv 24 3),kr (mv 25 4),kr (.o (.call (some 26) (cf 221) [(sl 23), (ci 0), (sl 24), (sl 25)])),kr (ix 27 22 26),kr (l1 28 27),kr (mv 12 28)])
 (.ret))
 .skip)))
 ((.seq (.draw [] [kr (fl 29 1 8),kr (l1 30 29),kr (ln 31 3 6),kr (mv 32 3),kr (mv 33 5),kr (.o (.call (some 34) (cf 221) [(sl 31), (ci 1), (sl 32), (sl 33)])),kr (ix 35 30 34),kr (l1 36 35),kr (mv 12 36)])
 (.ret))))))
theorem q0by {rin args Q} (ha : args.length <= 37) (h : fW 37 q050 [.tmp 12] rin args Q) : Fun Try.prog 216 rin args Q :=
 Fun.of (H := ⟨[], []⟩) Try.func216 rfl rfl rfl (by kernel_rfl) ha (by decide) h

def q0ym : CC :=
 (.seq (.reg [.o (.move 14 (cv (.slice none 0 0)))])
 ((.seq (.reg [mv 19 0,.o (.lenS 20 (sl 19)),mv 15 20])
 ((.seq (.reg [mv 21 0,mv 22 1,mv 23 2,mv 24 3,.o (.build 25 [.v (.int .i64 0), .v (.int .i64 0), .v (.int .i64 0), .v (.int .i64 0), .v (.slice none 0 0)] [(0, 1), (1, 1), (2, 1), (3, 1), (4, 1)] [(0, (sl 22)), (1, (sl 23)), (2, (sl 24)), (3, (ci (-1)))]),.o (.bslice 26 5 1 [(0, (sl 25))]),.o (.app 27 5 56 (sl 21) (sl 26)),mv 0 27])
 ((.seq (.reg [mv 28 2,mv 29 3,mv 16 28,mv 17 29])
 ((.seq (.seq (.reg [mv 30 1,.o (.bin 31 .eql (sl 30) (ci 1))])
 ((.cond (sl 31) (.reg [mv 32 3,mv 33 2,mv 16 32,mv 17 33])
 .skip)))
 ((.seq (.reg [mv 34 0,.o (.lenS 35 (sl 34)),.o (.bslice 36 1 1 [(0, (sl 35))]),mv 18 36])
 ((.seq (.block 0 (.seq (.reg [mv 46 16,mv 47 17,.o (.bin 48 .lss (sl 46) (sl 47)),mv 45 48])
 ((.cond (sl 45) (.seq (.reg [mv 49 0,mv 50 2,mv 51 3,mv 52 1,.o (.build 53 [.v (.int .i64 0), .v (.int .i64 0), .v (.int .i64 0), .v (.int .i64 0), .v (.slice none 0 0)] [(0, 1), (1, 1), (2, 1), (3, 1), (4, 1)] [(0, (ci 2)), (1, (sl 50)), (2, (sl 51)), (3, (sl 52))]),.o (.bslice 54 5 1 [(0, (sl 53))]),.o (.app 55 5 56 (sl 49) (sl 54)),mv 0 55])
 ((.seq (.reg [mv 56 18,mv 57 0,.o (.lenS 58 (sl 57)),.o (.bslice 59 1 1 [(0, (sl 58))]),.o (.app 60 1 8 (sl 56) (sl 59)),mv 18 60])
 ((.seq (.reg [mv 61 0,mv 62 17,mv 63 17,.o (.build 64 [.v (.int .i64 0), .v (.int .i64 0), .v (.int .i64 0), .v (.int .i64 0), .v (.slice none 0 0)] [(0, 1), (1, 1), (2, 1), (3, 1), (4, 1)] [(0, (ci 2)), (1, (sl 62)), (2, (sl 63)), (3, (ci (-1)))]),.o (.bslice 65 5 1 [(0, (sl 64))]),.o (.app 66 5 56 (sl 61) (sl 65)),mv 0 66])
 ((.seq (.seq (.reg [mv 67 5,.o (.bin 68 .eql (sl 67) (ci 0))])
 ((.cond (sl 68) (.seq (.reg [mv 69 0,mv 70 15,mv 71 18,.o (.idx 72 5 (sl 69) (sl 70)),fl 73 4 72,.o (.store 1 (sl 73) (sl 71))])
 ((.seq (.reg [mv 74 0,mv 14 74])
 (.ret))))
 .skip)))
 ((.reg [mv 75 5,.o (.bin 76 .sub (sl 75) (ci 1)),mv 5 76])))))))))
 (.seq (.reg [mv 78 6,mv 77 78])
 ((.cond (sl 77) (.reg [mv 79 0,mv 80 2,mv 81 3,.o (.build 82 [.v (.int .i64 0), .v (.int .i64 0), .v (.int .i64 0), .v (.int .i64 0), .v (.slice none 0 0)] [(0, 1), (1, 1), (2, 1), (3, 1), (4, 1)] [(0, (ci 2)), (1, (sl 80)), (2, (sl 81)), (3, (ci (-1)))]),.o (.bslice 83 5 1 [(0, (sl 82))]),.o (.app 84 5 56 (sl 79) (sl 83)),mv 0 84])
 (.reg [mv 37 0,mv 38 1,.o (.bin 39 .sub (ci 1) (sl 38)),mv 40 2,mv 41 3,mv 42 4,mv 43 5,.o (.call (some 44) (cf 217) [(sl 37), (sl 39), (sl 40), (sl 41), (sl 42), (sl 43), (cb true)]),mv 0 44]))))))))
 ((.seq (.reg [mv 85 18,mv 86 0,.o (.lenS 87 (sl 86)),.o (.bslice 88 1 1 [(0, (sl 87))]),.o (.app 89 1 8 (sl 85) (sl 88)),mv 18 89])
 ((.seq (.seq (.reg [mv 90 1,.o (.bin 91 .eql (sl 90) (ci 0))])
 ((.cond (sl 91) (.reg [mv 92 17,mv 93 4,.o (.bin 94 .add (sl 92) (sl 93)),mv 2 94])
 (.reg [mv 95 17,mv 96 4,.o (.bin 97 .add (sl 95) (sl 96)),mv 3 97]))))
 ((.seq (.reg [mv 98 0,mv 99 1,.o (.bin 100 .sub (ci 1) (sl 99)),mv 101 2,mv 102 3,mv 103 4,mv 104 5,.o (.call (some 105) (cf 217) [(sl 98), (sl 100), (sl 101), (sl 102), (sl 103), (sl 104), (cb false)]),mv 0 105])
 ((.seq (.reg [mv 106 0,mv 107 15,mv 108 18,.o (.idx 109 5 (sl 106) (sl 107)),fl 110 4 109,.o (.store 1 (sl 110) (sl 108))])
 ((.seq (.reg [mv 111 0,mv 14 111])
 (.ret))))))))))))))))))))))))
theorem q0zr {rin args Q} (ha : args.length <= 112) (h : fW 112 q0ym [.tmp 14] rin args Q) : Fun Try.prog 217 rin args Q :=
 Fun.of (H := ⟨[], []⟩) Try.func217 rfl rfl rfl (by kernel_rfl) ha (by decide) h

def q0yk : CC :=
 (.seq (.reg [.o (.move 4 (ci 0))])
 ((.seq (.block 0 (.seq (.reg [mv 6 0,mv 7 1,.o (.bin 8 .lss (sl 6) (sl 7)),mv 5 8])
 ((.cond (sl 5) (.seq (.reg [.o (.move 4 (ci (-1)))])
 (.ret))
 (.seq (.reg [mv 10 0,mv 11 1,.o (.bin 12 .gtr (sl 10) (sl 11)),mv 9 12])
 ((.cond (sl 9) (.seq (.reg [.o (.move 4 (ci 1))])
 (.ret))
 .skip)))))))
 ((.seq (.reg [.o (.move 4 (ci 0))])
 (.ret))))))
theorem q0zp {rin args Q} (ha : args.length <= 13) (h : fW 13 q0yk [.tmp 4] rin args Q) : Fun Try.prog 218 rin args Q :=
 Fun.of (H := ⟨[], []⟩) Try.func218 rfl rfl rfl (by kernel_rfl) ha (by decide) h

def q0yr : CC :=
 (.seq (.reg [.o (.box 1 (sl 0)),.o (.alloc 2 [.v (.slice none 0 0)])])
 ((.seq (.reg [.o (.bslice 6 5 0 []),mv 3 6])
 ((.seq (.seq (.reg [.o (.move 4 (ci 0))])
 ((.block 0 (.loop (.seq (.seq (.reg [mv 7 4,fl 8 0 1,l1 9 8,.o (.lenS 10 (sl 9)),.o (.bin 11 .lss (sl 7) (sl 10))])
 ((.cond (sl 11) .skip
 (.exit 0))))
 ((.seq (.block 1 (.seq (.reg [fl 14 0 1,l1 15 14,mv 16 4,.o (.idx 17 5 (sl 15) (sl 16)),ln 18 5 17,.o (.alloc 5 [.v (.int .i64 0), .v (.int .i64 0), .v (.int .i64 0), .v (.int .i64 0), .v (.slice none 0 0)]),.o (.store 5 (sl 5) (sl 18))])
 ((.seq (.reg [fl 19 4 5,l1 20 19,.o (.call (some 21) (cf 167) [(sl 20)]),fl 22 4 5,.o (.store 1 (sl 22) (sl 21))])
 ((.reg [mv 23 3,ln 24 5 5,.o (.bslice 25 5 1 [(0, (sl 24))]),.o (.app 26 5 56 (sl 23) (sl 25)),mv 3 26]))))))
 ((.reg [mv 12 4,.o (.bin 13 .add (sl 12) (ci 1)),mv 4 13])))))))))
 ((.seq (.reg [mv 27 3,.o (.build 28 [.v (.slice none 0 0)] [(0, 1)] [(0, (sl 27))]),.o (.store 1 (sl 2) (sl 28))])
 (.ret))))))))
theorem q0zw {rin args Q} (ha : args.length <= 29) (h : fW 29 q0yr [.cell 2 33] rin args Q) : Fun Try.prog 219 rin args Q :=
 Fun.of (H := ⟨[], []⟩) Try.func219 rfl rfl rfl (by kernel_rfl) ha (by decide) h

def q04s : CC :=
 (.seq (.reg [.o (.box 2 (sl 0)),.o (.move 4 (cv (.slice none 0 0)))])
 ((.seq (.reg [.o (.bslice 7 1 0 []),mv 5 7])
 ((.seq (.seq (.reg [.o (.move 6 (ci 0))])
 ((.block 0 (.loop (.seq (.seq (.reg [mv 8 6,fl 9 0 2,l1 10 9,.o (.lenS 11 (sl 10)),.o (.bin 12 .lss (sl 8) (sl 11))])
 ((.cond (sl 12) .skip
 (.exit 0))))
 ((.seq (.block 1 (.seq (.reg [fl 15 0 2,l1 16 15,mv 17 6,.o (.idx 18 5 (sl 16) (sl 17)),fl 19 0 18,l1 20 19,mv 21 1,.o (.bin 22 .eql (sl 20) (sl 21))])
 ((.cond (sl 22) (.reg [mv 23 5,mv 24 6,.o (.bslice 25 1 1 [(0, (sl 24))]),.o (.app 26 1 8 (sl 23) (sl 25)),mv 5 26])
 .skip))))
 ((.reg [mv 13 6,.o (.bin 14 .add (sl 13) (ci 1)),mv 6 14])))))))))
 ((.seq (.reg [mv 27 5,mv 4 27])
 (.ret))))))))
theorem q0bq {rin args Q} (ha : args.length <= 28) (h : fW 28 q04s [.tmp 4] rin args Q) : Fun Try.prog 220 rin args Q :=
 Fun.of (H := ⟨[], []⟩) Try.func220 rfl rfl rfl (by kernel_rfl) ha (by decide) h

def q052 : CC :=
 (.seq (.reg [.o (.box 4 (sl 0)),.o (.move 8 (ci 0))])
 ((.seq (.reg [fl 11 0 4,ln 12 1 11,mv 13 1,.o (.call (some 14) (cf 220) [(sl 12), (sl 13)]),mv 9 14])
 ((.seq (.seq (.reg [.o (.move 10 (ci 0))])
 ((.block 0 (.loop (.seq (.seq (.reg [mv 15 10,mv 16 9,.o (.lenS 17 (sl 16)),.o (.bin 18 .lss (sl 15) (sl 17))])
 ((.cond (sl 18) .skip
 (.exit 0))))
 ((.seq (.block 1 (.seq (.reg [mv 21 9,mv 22 10,ix 23 21 22,l1 24 23,mv 25 2,.o (.bin 26 .eql (sl 24) (sl 25))])
 ((.cond (sl 26) (.seq (.reg [mv 27 10,fl 28 1 4,l1 29 28,.o (.lenS 30 (sl 29)),.o (.bin 31 .mul (sl 27) (sl 30)),mv 32 3,.o (.bin 33 .add (sl 31) (sl 32)),mv 8 33])
 (.ret))
 .skip))))
 ((.reg [mv 19 10,.o (.bin 20 .add (sl 19) (ci 1)),mv 10 20])))))))))
 ((.seq (.reg [.o (.move 8 (ci (-1)))])
 (.ret))))))))
theorem q0c0 {rin args Q} (ha : args.length <= 34) (h : fW 34 q052 [.tmp 8] rin args Q) : Fun Try.prog 221 rin args Q :=
 Fun.of (H := ⟨[], []⟩) Try.func221 rfl rfl rfl (by kernel_rfl) ha (by decide) h

def q04r : CC :=
 (.seq (.reg [.o (.box 2 (sl 0)),.o (.move 4 (cb false))])
 ((.seq (.reg [fl 6 0 2,l1 7 6,mv 8 1,.o (.idx 9 5 (sl 7) (sl 8)),ln 10 5 9,.o (.alloc 5 [.v (.int .i64 0), .v (.int .i64 0), .v (.int .i64 0), .v (.int .i64 0), .v (.slice none 0 0)]),.o (.store 5 (sl 5) (sl 10))])
 ((.seq (.seq (.reg [fl 11 0 5,l1 12 11,.o (.call (some 13) (cf 148) [(sl 12), (ci 0), (ci 2)]),.o (.un 14 .not (sl 13)),mv 15 14,.g 15 false (some 16) (.fld 16 1 (sl 5)),.g 15 false (some 17) (.load1 17 (sl 16)),.g 15 false (some 18) (.call (some 18) (cf 148) [(sl 17), (ci 0), (ci 100)]),.g 15 false (some 19) (.un 19 .not (sl 18)),.o (.pick 20 (sl 15) (cb true) (sl 19)),mv 21 20,.g 21 false (some 22) (.fld 22 2 (sl 5)),.g 21 false (some 23) (.load1 23 (sl 22)),.g 21 false (some 24) (.call (some 24) (cf 148) [(sl 23), (ci 0), (ci 100)]),.g 21 false (some 25) (.un 25 .not (sl 24)),.o (.pick 26 (sl 21) (cb true) (sl 25)),mv 27 26,.g 27 false (some 28) (.fld 28 3 (sl 5)),.g 27 false (some 29) (.load1 29 (sl 28)),.g 27 false (some 30) (.call (some 30) (cf 148) [(sl 29), (ci (-1)), (ci 1)]),.g 27 false (some 31) (.un 31 .not (sl 30)),.o (.pick 32 (sl 27) (cb true) (sl 31))])
 ((.cond (sl 32) (.seq (.reg [.o (.move 4 (cb false))])
 (.ret))
 .skip)))
 ((.seq (.seq (.reg [fl 33 0 5,l1 34 33,.o (.bin 35 .eql (sl 34) (ci 2))])
 ((.cond (sl 35) (.seq (.reg [fl 36 4 5,l1 37 36,.o (.lenS 38 (sl 37)),.o (.bin 39 .eql (sl 38) (ci 0)),mv 40 39,.g 40 true (some 41) (.fld 41 3 (sl 5)),.g 40 true (some 42) (.load1 42 (sl 41)),.g 40 true (some 43) (.bin 43 .geq (sl 42) (ci 0)),.g 40 true (some 44) (.move 44 (sl 43)),.g 44 false (some 45) (.fld 45 1 (sl 5)),.g 44 false (some 46) (.load1 46 (sl 45)),.g 44 false (some 47) (.fld 47 2 (sl 5)),.g 44 false (some 48) (.load1 48 (sl 47)),.g 44 false (some 49) (.bin 49 .eql (sl 46) (sl 48)),.g 40 true (some 50) (.pick 50 (sl 44) (cb true) (sl 49)),.o (.pick 51 (sl 40) (sl 50) (cb false)),mv 4 51])
 (.ret))
 .skip)))
 ((.seq (.seq (.reg [fl 52 3 5,l1 53 52,.o (.bin 54 .neq (sl 53) (ci (-1))),mv 55 54,.g 55 false (some 56) (.fld 56 4 (sl 5)),.g 55 false (some 57) (.load1 57 (sl 56)),.g 55 false (some 58) (.lenS 58 (sl 57)),.g 55 false (some 59) (.call (some 59) (cf 148) [(sl 58), (ci 1), (ci 4)]),.g 55 false (some 60) (.un 60 .not (sl 59)),.o (.pick 61 (sl 55) (cb true) (sl 60)),mv 62 61,.g 62 false (some 63) (.fld 63 4 (sl 5)),.g 62 false (some 64) (.load1 64 (sl 63)),.g 62 false (some 65) (.fld 65 0 (sl 2)),.g 62 false (some 66) (.load1 66 (sl 65)),.g 62 false (some 67) (.lenS 67 (sl 66)),.g 62 false (some 68) (.call (some 68) (cf 228) [(sl 64), (sl 67)]),.g 62 false (some 69) (.un 69 .not (sl 68)),.o (.pick 70 (sl 62) (cb true) (sl 69))])
 ((.cond (sl 70) (.seq (.reg [.o (.move 4 (cb false))])
 (.ret))
 .skip)))
 ((.seq (.reg [fl 71 4 5,l1 72 71,.o (.idx 73 1 (sl 72) (ci 0)),l1 74 73,mv 75 1,.o (.bin 76 .gtr (sl 74) (sl 75)),mv 4 76])
 (.ret))))))))))))
theorem q0bp {rin args Q} (ha : args.length <= 77) (h : fW 77 q04r [.tmp 4] rin args Q) : Fun Try.prog 224 rin args Q :=
 Fun.of (H := ⟨[], []⟩) Try.func224 rfl rfl rfl (by kernel_rfl) ha (by decide) h

def q04t : CC :=
 (.seq (.reg [.o (.box 2 (sl 0)),.o (.move 4 (cv (.slice none 0 0)))])
 ((.seq (.seq (.reg [mv 7 1,.o (.bin 8 .eql (sl 7) (ci 0))])
 ((.cond (sl 8) (.seq (.reg [.o (.bslice 9 1 0 []),mv 4 9])
 (.ret))
 .skip)))
 ((.seq (.seq (.reg [.o (.move 5 (ci 0))])
 ((.block 0 (.loop (.seq (.seq (.reg [mv 10 5,mv 11 1,.o (.bin 12 .lss (sl 10) (sl 11))])
 ((.cond (sl 12) .skip
 (.exit 0))))
 ((.seq (.block 1 (.seq (.reg [.o (.move 6 (ci 0))])
 ((.block 2 (.loop (.seq (.seq (.reg [mv 15 6,fl 16 0 2,l1 17 16,mv 18 5,.o (.idx 19 5 (sl 17) (sl 18)),fl 20 4 19,l1 21 20,.o (.lenS 22 (sl 21)),.o (.bin 23 .lss (sl 15) (sl 22))])
 ((.cond (sl 23) .skip
 (.exit 2))))
 ((.seq (.block 3 (.seq (.reg [fl 26 0 2,l1 27 26,mv 28 5,.o (.idx 29 5 (sl 27) (sl 28)),fl 30 4 29,l1 31 30,mv 32 6,ix 33 31 32,l1 34 33,mv 35 1,.o (.bin 36 .eql (sl 34) (sl 35))])
 ((.cond (sl 36) (.seq (.reg [ln 37 1 2,mv 38 5,.o (.call (some 39) (cf 225) [(sl 37), (sl 38)]),mv 40 6,.o (.bslice 41 1 1 [(0, (sl 40))]),.o (.app 42 1 8 (sl 39) (sl 41)),mv 4 42])
 (.ret))
 .skip))))
 ((.reg [mv 24 6,.o (.bin 25 .add (sl 24) (ci 1)),mv 6 25]))))))))))
 ((.reg [mv 13 5,.o (.bin 14 .add (sl 13) (ci 1)),mv 5 14])))))))))
 ((.seq (.reg [.o (.move 4 (cv (.slice none 0 0)))])
 (.ret))))))))
theorem q0br {rin args Q} (ha : args.length <= 43) (h : fW 43 q04t [.tmp 4] rin args Q) : Fun Try.prog 225 rin args Q :=
 Fun.of (H := ⟨[], []⟩) Try.func225 rfl rfl rfl (by kernel_rfl) ha (by decide) h

def q034 : CC :=
 (.seq (.reg [.o (.move 10 (ci 0))])
 ((.seq (.reg [.o (.move 11 (ci 1))])
 ((.seq (.block 0 (.loop (.seq (.seq (.reg [mv 13 1,.o (.bin 14 .gtr (sl 13) (ci 0))])
 ((.cond (sl 14) .skip
 (.exit 0))))
 ((.block 1 (.seq (.reg [mv 15 0,.o (.nilc 16 (sl 15)),fl 17 7 16,l1 18 17,mv 19 1,ix 20 18 19,l1 21 20,mv 12 21])
 ((.seq (.seq (.reg [mv 22 0,.o (.nilc 23 (sl 22)),fl 24 0 23,fl 25 0 24,fl 26 0 25,l1 27 26,mv 28 12,.o (.idx 29 5 (sl 27) (sl 28)),fl 30 0 29,l1 31 30,mv 32 2,.o (.bin 33 .eql (sl 31) (sl 32))])
 ((.cond (sl 33) (.draw [] [(kE, mv 34 11),kr (mv 35 0),kr (mv 36 12),kr (mv 37 3),kr (mv 38 4),(kH, .o (.call (some 39) (cf 214) [(sl 35), (sl 36), (sl 37), (sl 38)])),(kE, mv 40 0),(kE, .o (.nilc 41 (sl 40))),(kE, fl 42 0 41),(kE, fl 43 0 42),(kE, fl 44 0 43),(kE, l1 45 44),(kE, mv 46 12),(kE, .o (.idx 47 5 (sl 45) (sl 46))),(kE, fl 48 4 47),(kE, l1 49 48),(kE, mv 50 1),kr (.o (.call (some 51) (cf 117) [(sl 49), (sl 50)])),kr (ix 52 39 51),kr (l1 53 52),kr (.o (.bin 54 .mul (sl 34) (sl 53))),kr (mv 11 54)])
 .skip)))
 ((.reg [mv 55 12,mv 1 55]))))))))))
 ((.seq (.reg [mv 56 11,mv 10 56])
 (.ret))))))))
theorem q0a2 {rin args Q} (ha : args.length <= 57) (h : fW 57 q034 [.tmp 10] rin args Q) : Fun Try.prog 226 rin args Q :=
 Fun.of (H := ⟨[], []⟩) Try.func226 rfl rfl rfl (by kernel_rfl) ha (by decide) h

def q0yo : CC :=
 (.seq (.reg [.o (.alloc 2 [.v (.slice none 0 0)])])
 ((.seq (.seq (.reg [mv 8 0,.o (.call (some 9) (cf 126) [(sl 8), (ci 5)])])
 ((.block 0 (.seq (.reg [.o (.bin 11 .eql (sl 9) (ci 0)),mv 10 11])
 ((.cond (sl 10) (.seq (.reg [.o (.bslice 12 5 0 []),mv 3 12])
 ((.seq (.reg [mv 13 0,mv 14 3,.o (.call (some 15) (cf 199) [(sl 13), (sl 14), (ci 3)]),mv 3 15])
 ((.seq (.reg [mv 16 3,.o (.build 17 [.v (.slice none 0 0)] [(0, 1)] [(0, (sl 16))]),.o (.store 1 (sl 2) (sl 17))])
 (.ret))))))
 (.seq (.reg [.o (.bin 19 .eql (sl 9) (ci 1)),mv 18 19])
 ((.cond (sl 18) (.seq (.reg [mv 21 0,.o (.call (some 22) (cf 126) [(sl 21), (ci 4)]),mv 23 0,.o (.call (some 24) (cf 126) [(sl 23), (ci 5)]),.o (.bin 25 .add (ci 1) (sl 24)),.o (.call (some 26) (cf 184) [(sl 22), (sl 25), (ci 1)]),mv 20 26,.o (.extract 27 (sl 20) 0),.o (.extract 28 (sl 20) 1),.o (.alloc 4 [.v (.slice none 0 0)]),.o (.store 1 (sl 4) (sl 27)),mv 5 28])
 ((.seq (.reg [ln 29 1 4,.o (.store 1 (sl 2) (sl 29))])
 (.ret))))
 .skip)))))))))
 ((.seq (.reg [mv 31 0,.o (.call (some 32) (cf 126) [(sl 31), (ci 3)]),.o (.bin 33 .add (ci 1) (sl 32)),mv 34 0,.o (.call (some 35) (cf 126) [(sl 34), (ci 4)]),.o (.bin 36 .add (ci 1) (sl 35)),.o (.call (some 37) (cf 184) [(sl 33), (sl 36), (ci 0)]),mv 30 37,.o (.extract 38 (sl 30) 0),.o (.extract 39 (sl 30) 1),.o (.alloc 6 [.v (.slice none 0 0)]),.o (.store 1 (sl 6) (sl 38)),mv 7 39])
 ((.seq (.reg [ln 40 1 6,.o (.store 1 (sl 2) (sl 40))])
 (.ret))))))))
theorem q0zt {rin args Q} (ha : args.length <= 41) (h : fW 41 q0yo [.cell 2 33] rin args Q) : Fun Try.prog 227 rin args Q :=
 Fun.of (H := ⟨[], []⟩) Try.func227 rfl rfl rfl (by kernel_rfl) ha (by decide) h

def q04o : CC :=
 (.seq (.reg [.o (.move 4 (cb false))])
 ((.seq (.seq (.reg [.o (.move 5 (ci 0))])
 ((.block 0 (.loop (.seq (.seq (.reg [mv 6 5,mv 7 0,.o (.lenS 8 (sl 7)),.o (.bin 9 .lss (sl 6) (sl 8))])
 ((.cond (sl 9) .skip
 (.exit 0))))
 ((.seq (.block 1 (.seq (.draw [] [kr (mv 12 0),kr (mv 13 5),kr (ix 14 12 13),kr (l1 15 14),kr (mv 16 1),kr (.o (.bin 17 .sub (sl 16) (ci 1))),kr (.o (.call (some 18) (cf 148) [(sl 15), (ci 0), (sl 17)])),kr (.o (.un 19 .not (sl 18))),kr (mv 20 19),(kR, .g 20 false (some 21) (.move 21 (sl 5))),(kR, .g 20 false (some 22) (.bin 22 .gtr (sl 21) (ci 0))),(kR, .g 20 false (some 23) (.move 23 (sl 22))),(kR, .g 23 true (some 24) (.move 24 (sl 0))),(kR, .g 23 true (some 25) (.move 25 (sl 5))),(kR, .g 23 true (some 26) (.idx 26 1 (sl 24) (sl 25))),(kR, .g 23 true (some 27) (.load1 27 (sl 26))),(kR, .g 23 true (some 28) (.move 28 (sl 0))),(kR, .g 23 true (some 29) (.move 29 (sl 5))),(kR, .g 23 true (some 30) (.bin 30 .sub (sl 29) (ci 1))),(kR, .g 23 true (some 31) (.idx 31 1 (sl 28) (sl 30))),(kR, .g 23 true (some 32) (.load1 32 (sl 31))),(kR, .g 23 true (some 33) (.bin 33 .leq (sl 27) (sl 32))),(kR, .g 20 false (some 34) (.pick 34 (sl 23) (sl 33) (cb false))),kr (.o (.pick 35 (sl 20) (cb true) (sl 34)))])
 ((.cond (sl 35) (.seq (.reg [.o (.move 4 (cb false))])
 (.ret))
 .skip))))
 ((.reg [mv 10 5,.o (.bin 11 .add (sl 10) (ci 1)),mv 5 11])))))))))
 ((.seq (.reg [.o (.move 4 (cb true))])
 (.ret))))))
theorem q0bm {rin args Q} (ha : args.length <= 36) (h : fW 36 q04o [.tmp 4] rin args Q) : Fun Try.prog 228 rin args Q :=
 Fun.of (H := ⟨[], []⟩) Try.func228 rfl rfl rfl (by kernel_rfl) ha (by decide) h

theorem q0f9 (n lo hi : Int) : Pure Try.prog 110 [.i n, .i lo, .i hi] (.b (decide (lo <= n /\ n <= hi))) := by
  refine q0at (by simp) ?_
  simp -implicitDefEqProofs only [q03v, go_sem]
  refine ⟨fun h => ?_, fun h => ?_⟩
  . have : lo <= n := h
    simp [this]
  . have : ¬ lo <= n := h
    simp [this]

theorem q0eg (l : List Int) (lo hi : Int) (hl : l.length <= 1000000000000) : Pure Try.prog 176 [ints l, .i lo, .i hi] (.b (l.all fun x => decide (lo <= x /\ x <= hi))) := by
  refine q0ab (by simp) ?_
  simp -implicitDefEqProofs only [q03d, ints, go_sem]
  refine SemC.loopR (σ := Nat) (fun i => St.of [(0, .t (ints l)), (1, .t (.i lo)), (2, .t (.i hi)), (6, .t (.b false)), (9, .t (ints l)), (10, .t (.i l.length)), (11, .t (.i i))] []) (fun i => i <= l.length /\ ∀ x ∈ l.take i, lo <= x /\ x <= hi) (fun i => l.length - i) 0 (Weak.o _ [] [] ?_ trivial) ⟨by simp, by simp⟩ fun i hI R hn hr he => ?_
  . simp -implicitDefEqProofs only [ints, wkR, Nat.reduceEqDiff, ↓reduceIte]
  . simp -implicitDefEqProofs only [ints, go_sem]
    refine ⟨fun h => ⟨by omega, by omega, by omega, fun c x hx hc => ?_⟩, fun h => he _ _ ?_⟩
    . subst hc
      rw [q0ve] at hx
      refine q006.pure (q0f9 x lo hi) [] rfl Try.call110 ?_ ?_ rfl ?_
      . simp -implicitDefEqProofs only [vaR, go_sem]
      . trivial
      . simp -implicitDefEqProofs only [go_sem]
        refine ⟨fun h1 => hr _ ?_, fun h1 => hn _ (i + 1) (Weak.o _ [] [] ?_ trivial) ⟨by omega, q0uk hx hI.2 (by simpa using h1)⟩ (by omega)⟩
        . simp -implicitDefEqProofs only [go_sem]
          have : l.all (fun x => decide (lo <= x /\ x <= hi)) = false := by
            rw [List.all_eq_false]
            exact ⟨x, List.mem_of_getElem? hx, by simp at h1 ⊢; omega⟩
          rw [this]
        . simp -implicitDefEqProofs only [ints, wkR, Nat.reduceEqDiff, ↓reduceIte, q0lb (by omega : i < l.length) hl]
    . simp -implicitDefEqProofs only [go_sem]
      have : l.all (fun x => decide (lo <= x /\ x <= hi)) = true := by
        rw [List.all_eq_true]
        intro x hx
        have := hI.2 x (by rw [List.take_of_length_le (by omega)]; exact hx)
        simpa using this
      rw [this]

def filled {α : Type} (l : List α) (f : α -> T) (z : T) (i : Nat) : List T := (l.take i).map f ++ List.replicate (l.length - i) z
theorem q095 {α : Type} (l : List α) (f : α -> T) (z : T) (i : Nat) (h : i <= l.length) : (filled l f z i).length = l.length := by
  simp [filled]; omega
theorem q096 {α : Type} {l : List α} {f : α -> T} {z : T} {i : Nat} {x : α} (h : l[i]? = some x) : (filled l f z i).set i (f x) = filled l f z (i + 1) := by
  obtain ⟨hi, rfl⟩ := List.getElem?_eq_some_iff.1 h
  refine List.ext_getElem? fun j => ?_
  simp only [filled, List.getElem?_set, List.getElem?_append, List.length_map, List.length_take, List.length_append, List.length_replicate, List.getElem?_map, List.getElem?_take, List.getElem?_replicate, Nat.min_eq_left (Nat.le_of_lt hi), Nat.min_eq_left hi]
  by_cases hj : i = j
  . subst hj
    simp [hi]
    omega
  . by_cases h1 : j < i
    . simp [hj, h1, show j < i + 1 by omega]
    . simp only [hj, h1, show ¬ j < i + 1 by omega, if_false]
      by_cases h2 : j < l.length
      . rw [if_pos (by omega), if_pos (by omega)]
      . rw [if_neg (by omega), if_neg (by omega)]
theorem q097 {α : Type} (l : List α) (f : α -> T) (z : T) : filled l f z 0 = List.replicate l.length z := by simp [filled]
theorem q093 {α : Type} (l : List α) (f : α -> T) (z : T) : filled l f z l.length = l.map f := by simp [filled]
theorem q0jc (z : T) (n : Nat) : made [z] n = List.replicate n z := rfl

theorem q0s4 (n lo hi : Int) : Pure Try.prog 148 [.i n, .i lo, .i hi] (.b (decide (lo <= n /\ n <= hi))) := by
  refine q0bk (by simp) ?_
  simp -implicitDefEqProofs only [q04m, go_sem]
  refine ⟨fun h => ?_, fun h => ?_⟩
  . have : lo <= n := h
    simp [this]
  . have : ¬ lo <= n := h
    simp [this]

theorem q0s5 (l : List Int) (hl : l.length <= 1000000000000) : Fun Try.prog 167 [] [.t (ints l)] fun o r => o = [] /\ r = intsO l := by
  refine q0bl (by simp) ?_
  simp -implicitDefEqProofs only [q04n, ints, go_sem]
  exact ⟨by omega, rfl⟩

theorem q0rq (l : List Int) (hl : l.length <= 1000000000000) : Fun Try.prog 197 [] [.t (ints l)] fun o r => o = [] /\ r = intsO l := by
  refine Fun.le (Q := fun o r => o = [] /\ (r = intsO l ∨ (l = [] /\ r = .v (.slice none 0 0)))) ?_ ?_
  . refine q0bd (by simp) ?_
    simp -implicitDefEqProofs only [q04f, ints, go_sem]
    intro b hb
    exact ⟨fun h => .inr (by simpa using hb h), fun _ => ⟨by omega, .inl rfl⟩⟩
  . rintro o r ⟨rfl, rfl | ⟨rfl, rfl⟩⟩
    . exact ⟨_, .refl _, rfl, rfl⟩
    . exact ⟨_, .nilArr 1, rfl, rfl⟩

def minL (l : List Int) : Int := l.tail.foldl min (l.headD 0)
def maxL (l : List Int) : Int := l.tail.foldl max (l.headD 0)
theorem q0ka {l : List Int} (h : l ≠ []) (x : Int) : minL (l ++ [x]) = min (minL l) x := by
  cases l with
  | nil => exact absurd rfl h
  | cons a l => simp [minL, List.foldl_append]
theorem q0k2 {l : List Int} (h : l ≠ []) (x : Int) : maxL (l ++ [x]) = max (maxL l) x := by
  cases l with
  | nil => exact absurd rfl h
  | cons a l => simp [maxL, List.foldl_append]
theorem q0uj {α : Type} {l : List α} {i : Nat} {x : α} (h : l[i]? = some x) : l.take (i + 1) = l.take i ++ [x] := by
  rw [List.take_add_one, h]; rfl

theorem q0ru (l : List Int) (h0 : l ≠ []) (hl : l.length <= 1000000000000) : Pure Try.prog 105 [ints l] (.i (minL l)) := by
  have hpos : 0 < l.length := List.length_pos_iff.2 h0
  refine q0bg (by simp) ?_
  simp -implicitDefEqProofs only [q04i, go_sem, evR, ints, rows, rat, rats]
  refine ⟨fun h => absurd h (by omega), fun _ => ⟨by omega, by omega, fun x hx => ?_⟩⟩
  refine SemC.loopR (σ := Nat) (fun i => St.of [(0, .t (ints l)), (3, .t (.i (minL (l.take i)))), (4, .t (.i i))] []) (fun i => 1 <= i /\ i <= l.length) (fun i => l.length - i) 1 (Weak.o _ [] [] ?_ trivial) ⟨by simp, hpos⟩ fun i hI R hn hr he => ?_
  . simp -implicitDefEqProofs only [ints, wkR, Nat.reduceEqDiff, ↓reduceIte]
    cases l with
    | nil => simp at hx
    | cons a l => simp at hx; simp [minL, hx]
  . simp -implicitDefEqProofs only [eR', go_sem]
    refine ⟨fun h => ⟨by omega, by omega, by omega, fun x hx => hn _ (i + 1) (Weak.o _ [] [] ?_ trivial) (by omega) (by omega)⟩, fun h => he _ _ ?_⟩
    . have hne : l.take i ≠ [] := by intro h'; have := congrArg List.length h'; rw [List.length_take, List.length_nil] at this; omega
      simp -implicitDefEqProofs only [ints, wkR, Nat.reduceEqDiff, ↓reduceIte, q0lb (by omega : i < l.length) hl, q0uj hx, q0ka hne]
    . simp -implicitDefEqProofs only [go_sem]
      rw [List.take_of_length_le (by omega)]

theorem q0rt (l : List Int) (h0 : l ≠ []) (hl : l.length <= 1000000000000) : Pure Try.prog 106 [ints l] (.i (maxL l)) := by
  have hpos : 0 < l.length := List.length_pos_iff.2 h0
  refine q0bf (by simp) ?_
  simp -implicitDefEqProofs only [q04h, go_sem, evR, ints, rows, rat, rats]
  refine ⟨fun h => absurd h (by omega), fun _ => ⟨by omega, by omega, fun x hx => ?_⟩⟩
  refine SemC.loopR (σ := Nat) (fun i => St.of [(0, .t (ints l)), (3, .t (.i (maxL (l.take i)))), (4, .t (.i i))] []) (fun i => 1 <= i /\ i <= l.length) (fun i => l.length - i) 1 (Weak.o _ [] [] ?_ trivial) ⟨by simp, hpos⟩ fun i hI R hn hr he => ?_
  . simp -implicitDefEqProofs only [ints, wkR, Nat.reduceEqDiff, ↓reduceIte]
    cases l with
    | nil => simp at hx
    | cons a l => simp at hx; simp [maxL, hx]
  . simp -implicitDefEqProofs only [eR', go_sem]
    refine ⟨fun h => ⟨by omega, by omega, by omega, fun x hx => hn _ (i + 1) (Weak.o _ [] [] ?_ trivial) (by omega) (by omega)⟩, fun h => he _ _ ?_⟩
    . have hne : l.take i ≠ [] := by intro h'; have := congrArg List.length h'; rw [List.length_take, List.length_nil] at this; omega
      simp -implicitDefEqProofs only [ints, wkR, Nat.reduceEqDiff, ↓reduceIte, q0lb (by omega : i < l.length) hl, q0uj hx, q0k2 hne]
    . simp -implicitDefEqProofs only [go_sem]
      rw [List.take_of_length_le (by omega)]

def marks : Nat -> Int -> List Int
  | 0, _ => []
  | n + 1, k => k :: marks n (k + 1)
def held : List Int -> Int -> Int
  | [], k => k
  | x :: l, k => if x = k then held l (k + 1) else -1

def mx0 (l : List Int) : Int := l.foldl max 0
def half (l : List Int) : List Int := l.map fun x => x / 2
def hvd : Nat -> List Int -> List Int
  | 0, l => l
  | f + 1, l => if mx0 l <= 1000000000 then l else hvd f (half l)

theorem q0km {l : List Int} {b : Int} (hb : 0 <= b) : (∀ x ∈ l, x <= b) -> mx0 l <= b := by
  unfold mx0
  suffices ∀ (a : Int), a <= b -> (∀ x ∈ l, x <= b) -> l.foldl max a <= b from this 0 hb
  induction l with
  | nil => intro a ha _; simpa using ha
  | cons x l ih => intro a ha h; exact ih (max a x) (by have := h x (by simp); omega) fun y hy => h y (by simp [hy])
theorem q09o (l : List Int) : ∀ (a : Int), a <= l.foldl max a := by
  induction l with
  | nil => intro a; simp
  | cons x l ih => intro a; have := ih (max a x); simp only [List.foldl_cons]; omega
theorem q0kn (l : List Int) (x : Int) : mx0 (l ++ [x]) = max (mx0 l) x := by simp [mx0, List.foldl_append]
theorem q0k1 {l : List Int} (h0 : l ≠ []) (h : ∀ x ∈ l, 0 <= x) : maxL l = mx0 l := by
  cases l with
  | nil => exact absurd rfl h0
  | cons x l => have := h x (by simp); simp [maxL, mx0, Int.max_eq_right this]
def okW (b : Int) (l : List Int) : Prop := ∀ x ∈ l, 0 <= x /\ x < b
theorem q0ma {l : List Int} {b : Int} (h : okW (2 * b) l) : okW b (half l) := by
  intro x hx
  obtain ⟨y, hy, rfl⟩ := List.mem_map.1 hx
  have := h y hy
  omega
theorem q0dl (l : List Int) : (half l).length = l.length := by simp [half]
def q0dt (l : List Int) (i : Nat) : List Int := half (l.take i) ++ l.drop i
theorem q0dw (l : List Int) (i : Nat) (h : i <= l.length) : (q0dt l i).length = l.length := by simp [q0dt, half]; omega
theorem q0dv {l : List Int} {i : Nat} (h : i < l.length) : (q0dt l i)[i]? = some l[i] := by
  rw [q0dt, List.getElem?_append_right (by simp [half]; omega)]
  simp [half, h, Nat.min_eq_left (Nat.le_of_lt h)]
theorem q0dx {l : List Int} {i : Nat} (h : i < l.length) : ((q0dt l i).map T.i).set i (T.i (l[i] / 2)) = (q0dt l (i + 1)).map T.i := by
  rw [← List.map_set, q0dt, q0dt, List.take_succ_eq_append_getElem h, List.drop_eq_getElem_cons h, List.set_append_right _ _ (by simp [half]; omega)]
  have : i - (half (l.take i)).length = 0 := by simp [half]; omega
  rw [this]
  simp only [half, List.map_append, List.map_cons, List.map_nil, List.set_cons_zero, List.append_assoc, List.cons_append, List.nil_append]
theorem q0dy (l : List Int) : q0dt l 0 = l := by simp [q0dt, half]
theorem q0du (l : List Int) : q0dt l l.length = half l := by simp [q0dt]
theorem q0xr {x : Int} (h : 0 <= x) (h1 : x < 9223372036854775808) : IntKind.i64.wrap (x.tdiv 2) = x / 2 := by
  rw [Int.tdiv_eq_ediv_of_nonneg h, wrap64 (by omega) (by omega)]
def W (f : Nat) : Int := ((2 ^ (29 + f) : Nat) : Int)
theorem q00f (f : Nat) : W (f + 1) = 2 * W f := by unfold W; rw [show 29 + (f + 1) = (29 + f) + 1 by omega, Nat.pow_succ]; omega
theorem W_le (f : Nat) (h : f <= 34) : W f <= 9223372036854775808 := by
  have : 2 ^ (29 + f) <= 2 ^ 63 := Nat.pow_le_pow_right (by omega) (by omega)
  unfold W
  have h2 : (2 : Nat) ^ 63 = 9223372036854775808 := by decide
  omega

theorem q0em (l : List Int) (hl0 : l ≠ []) (hl : l.length <= 1000000000000) (hw : okW 9223372036854775808 l) : Fun Try.prog 211 [] [.t (ints l)] fun o r => o = [] /\ r = intsO (hvd 34 l) := by
  refine q0af (by simp) ?_
  simp -implicitDefEqProofs only [q03h, go_sem]
  refine q006.res (q0rq l hl) [] rfl Try.call197 ?_ (.inl rfl) ?_
  . simp -implicitDefEqProofs only [aR', go_sem]
  simp -implicitDefEqProofs only [clR, Nat.reduceLeDiff, go_sem]
  refine SemC.loopR (σ := Nat × List Int) (fun s => St.of [(3, .own 6)] [(6, intsO s.2)]) (fun s => s.1 <= 34 /\ s.2 ≠ [] /\ s.2.length <= 1000000000000 /\ okW (W s.1) s.2 /\ hvd s.1 s.2 = hvd 34 l) (fun s => s.1) (34, l) (Weak.o _ _ [some 6] ?_ ?_) ⟨by simp, hl0, hl, hw, rfl⟩ fun s hI R hn hr he => ?_
  . simp -implicitDefEqProofs only [ints, Nat.reduceBEq, wkR, Nat.reduceEqDiff, ↓reduceIte, wrR]
  . exact ⟨⟨_, rfl, .refl _⟩, rfl, trivial⟩
  . obtain ⟨f, m⟩ := s
    obtain ⟨hf, hm0, hml, hmw, hmv⟩ := hI
    simp only [] at hf hm0 hml hmw hmv
    have hpos : 0 < m.length := List.length_pos_iff.2 hm0
    have hmx := q0k1 hm0 fun x hx => (hmw x hx).1
    simp -implicitDefEqProofs only [eR', go_sem]
    refine q006.pure (q0rt m hm0 hml) [6] rfl Try.call106 ?_ trivial rfl ?_
    . simp -implicitDefEqProofs only [aR', go_sem]
    simp -implicitDefEqProofs only [eR', go_sem, intsO]
    rw [hmx]
    refine ⟨fun h => ?_, fun h => he _ _ ?_⟩
    . obtain ⟨g, rfl⟩ : ∃ g, f = g + 1 := by
        cases f with
        | zero => have : mx0 m <= 1000000000 := q0km (by omega) fun x hx => by have := (hmw x hx).2; simp [W] at this; omega
                  omega
        | succ g => exact ⟨g, rfl⟩
      have hWg := W_le (g + 1) hf
      refine SemC.loopR (σ := Nat) (fun i => St.of [(3, .own 6), (11, .t (.i m.length)), (12, .t (.i i))] [(6, .arr 1 ((q0dt m i).map T.i))]) (fun i => i <= m.length) (fun i => m.length - i) 0 (Weak.o _ _ [some 6] ?_ ?_) (by simp) fun i hi R2 hn2 hr2 he2 => ?_
      . simp -implicitDefEqProofs only [ints, Nat.reduceBEq, wkR, Nat.reduceEqDiff, ↓reduceIte, wrR]
      . exact ⟨⟨_, rfl, by rw [q0dy]; exact .refl _⟩, rfl, trivial⟩
      . have hlen := q0dw m i hi
        simp -implicitDefEqProofs only [eR', go_sem, hlen]
        refine ⟨fun h1 => ?_, fun h1 => he2 _ _ ?_⟩
        . have hi' : i < m.length := by omega
          refine ⟨by omega, by omega, by omega, fun x hx => ?_⟩
          rw [q0dv hi'] at hx
          cases hx
          have hx := hmw m[i] (List.getElem_mem _)
          simp -implicitDefEqProofs only [eR', go_sem, hlen, q0il, Value.oneCell', q0t9, List.filter_nil, q0xr hx.1 (by omega), q0dx hi']
          refine ⟨by omega, by omega, by omega, by omega, hn2 _ (i + 1) (Weak.o _ _ [some 6] ?_ ?_) (by omega) (by omega)⟩
          . simp -implicitDefEqProofs only [ints, Nat.reduceBEq, wkR, Nat.reduceEqDiff, ↓reduceIte, wrR, q0lb hi' hml]
          . exact ⟨⟨_, rfl, .refl _⟩, rfl, trivial⟩
        . simp -implicitDefEqProofs only [eR', go_sem, hlen]
          have e : i = m.length := by omega
          subst e
          refine hn _ (g, half m) (Weak.o _ _ [some 6] ?_ ?_) ⟨by simp only []; omega, ?_, by rw [q0dl]; exact hml, q0ma (by rw [← q00f]; exact hmw), ?_⟩ (by simp only []; omega)
          . simp -implicitDefEqProofs only [ints, Nat.reduceBEq, wkR, Nat.reduceEqDiff, ↓reduceIte, wrR]
          . exact ⟨⟨_, rfl, by rw [q0du]; exact .refl _⟩, rfl, trivial⟩
          . simpa [half] using hm0
          . rw [hvd, if_neg (by omega)] at hmv
            exact hmv
    . simp -implicitDefEqProofs only [eR', go_sem]
      have : hvd f m = m := by
        cases f with
        | zero => rfl
        | succ g => rw [hvd, if_pos (by omega)]
      rw [← hmv, this]
      rfl

theorem q0sw (l : List Int) (hl : l.length <= 1000000000000) (hw : okW 9223372036854775808 l) : Fun Try.prog 173 [] [.t (ints l)] fun o r => o = [] /\ r = intsO (hvd 34 l) := by
  refine q0c9 (by simp) ?_
  simp -implicitDefEqProofs only [q05b, go_sem]
  refine q006.res (q0s5 l hl) [] rfl Try.call167 ?_ (.inl rfl) ?_
  . simp -implicitDefEqProofs only [aR', go_sem]
  simp -implicitDefEqProofs only [clR, Nat.reduceLeDiff, go_sem]
  refine SemC.loopR (σ := Nat × List Int) (fun s => St.of [(3, .own 8)] [(8, intsO s.2)]) (fun s => s.1 <= 34 /\ s.2.length <= 1000000000000 /\ okW (W s.1) s.2 /\ hvd s.1 s.2 = hvd 34 l) (fun s => s.1) (34, l) (Weak.o _ _ [some 8] ?_ ?_) ⟨by simp, hl, hw, rfl⟩ fun s hI R hn hr he => ?_
  . simp -implicitDefEqProofs only [ints, Nat.reduceBEq, wkR, Nat.reduceEqDiff, ↓reduceIte, wrR]
  . exact ⟨⟨_, rfl, .refl _⟩, rfl, trivial⟩
  . obtain ⟨f, m⟩ := s
    obtain ⟨hf, hml, hmw, hmv⟩ := hI
    (try simp only [] at hf hml hmw hmv)
    simp -implicitDefEqProofs only [eR', go_sem, intsO]
    refine SemC.loopR (σ := Nat) (fun i => St.of [(3, .own 8), (4, .t (.i (mx0 (m.take i)))), (5, .t (.i i))] [(8, .arr 1 (m.map T.i))]) (fun i => i <= m.length) (fun i => m.length - i) 0 (Weak.o _ _ [some 8] ?_ ?_) (by simp) fun i hi R2 hn2 hr2 he2 => ?_
    . simp -implicitDefEqProofs only [ints, Nat.reduceBEq, wkR, Nat.reduceEqDiff, ↓reduceIte, wrR, show mx0 (m.take 0) = 0 from rfl]
    . exact ⟨⟨_, rfl, .refl _⟩, rfl, trivial⟩
    . simp -implicitDefEqProofs only [eR', go_sem]
      refine ⟨fun h1 => ⟨by omega, by omega, by omega, fun x hx => ?_⟩, fun h1 => he2 _ _ ?_⟩
      . refine hn2 _ (i + 1) (Weak.o _ _ [some 8] ?_ ?_) (by omega) (by omega)
        . simp -implicitDefEqProofs only [ints, Nat.reduceBEq, wkR, Nat.reduceEqDiff, ↓reduceIte, wrR, q0lb (by omega : i < m.length) hml, q0uj hx, q0kn]
        . exact ⟨⟨_, rfl, .refl _⟩, rfl, trivial⟩
      . have e : i = m.length := by omega
        subst e
        simp -implicitDefEqProofs only [eR', go_sem, List.take_length]
        refine ⟨fun h => hr _ ?_, fun h => ?_⟩
        . simp -implicitDefEqProofs only [eR', go_sem]
          have : hvd f m = m := by
            cases f with
            | zero => rfl
            | succ g => rw [hvd, if_pos h]
          rw [← hmv, this]
          rfl
        . obtain ⟨g, rfl⟩ : ∃ g, f = g + 1 := by
            cases f with
            | zero => have : mx0 m <= 1000000000 := q0km (by omega) fun x hx => by have := (hmw x hx).2; simp [W] at this; omega
                      omega
            | succ g => exact ⟨g, rfl⟩
          have hWg := W_le (g + 1) hf
          refine SemC.loopR (σ := Nat) (fun i => St.of [(3, .own 8), (6, .t (.i i))] [(8, .arr 1 ((q0dt m i).map T.i))]) (fun i => i <= m.length) (fun i => m.length - i) 0 (Weak.o _ _ [some 8] ?_ ?_) (by simp) fun i hi R3 hn3 hr3 he3 => ?_
          . simp -implicitDefEqProofs only [ints, Nat.reduceBEq, wkR, Nat.reduceEqDiff, ↓reduceIte, wrR]
          . exact ⟨⟨_, rfl, by rw [q0dy]; exact .refl _⟩, rfl, trivial⟩
          . have hlen := q0dw m i hi
            simp -implicitDefEqProofs only [eR', go_sem, hlen]
            refine ⟨fun h1 => ?_, fun h1 => he3 _ _ ?_⟩
            . have hi' : i < m.length := by omega
              refine ⟨by omega, by omega, by omega, fun x hx => ?_⟩
              rw [q0dv hi'] at hx
              cases hx
              have hx := hmw m[i] (List.getElem_mem _)
              simp -implicitDefEqProofs only [eR', go_sem, hlen, q0il, Value.oneCell', q0t9, List.filter_nil, q0xr hx.1 (by omega), q0dx hi']
              refine ⟨by omega, by omega, by omega, by omega, hn3 _ (i + 1) (Weak.o _ _ [some 8] ?_ ?_) (by omega) (by omega)⟩
              . simp -implicitDefEqProofs only [ints, Nat.reduceBEq, wkR, Nat.reduceEqDiff, ↓reduceIte, wrR, q0lb hi' hml]
              . exact ⟨⟨_, rfl, .refl _⟩, rfl, trivial⟩
            . simp -implicitDefEqProofs only [eR', go_sem, hlen]
              have e : i = m.length := by omega
              subst e
              refine hn _ (g, half m) (Weak.o _ _ [some 8] ?_ ?_) ⟨by simp only []; omega, by rw [q0dl]; exact hml, q0ma (by rw [← q00f]; exact hmw), ?_⟩ (by simp only []; omega)
              . simp -implicitDefEqProofs only [ints, Nat.reduceBEq, wkR, Nat.reduceEqDiff, ↓reduceIte, wrR]
              . exact ⟨⟨_, rfl, by rw [q0du]; exact .refl _⟩, rfl, trivial⟩
              . rw [hvd, if_neg (by omega)] at hmv
                exact hmv

def hw (l : List Int) : List Int × Int := if 1 <= l.length /\ l.length <= 4 /\ ∀ x ∈ l, 0 <= x then (hvd 34 l, 0) else ([], 2)

def maxI (r : List Int) : Nat -> Nat
  | 0 => 0
  | k + 1 => if r.getD (maxI r k) 0 < r.getD k 0 then k else maxI r k
theorem q0jx (r : List Int) : ∀ k, k <= r.length -> 0 < r.length -> maxI r k < r.length
  | 0, _, h => h
  | k + 1, hk, h => by
    have := q0jx r k (by omega) h
    rw [maxI]; split <;> omega
theorem q0jz (r : List Int) : maxI r 1 = 0 := by
  rw [maxI, show maxI r 0 = 0 from rfl, if_neg (Int.lt_irrefl _)]
theorem q0jy (r : List Int) : ∀ k i, i < k -> r.getD i 0 <= r.getD (maxI r k) 0
  | k + 1, i, h => by
    have ih := q0jy r k
    rw [maxI]
    split
    . rename_i h1
      by_cases hi : i = k
      . rw [hi]; exact Int.le_refl _
      . have := ih i (by omega); omega
    . rename_i h1
      by_cases hi : i = k
      . rw [hi]; omega
      . exact ih i (by omega)
theorem q0jw (r : List Int) : ∀ k i, i < maxI r k -> r.getD i 0 < r.getD (maxI r k) 0
  | 0, i, h => by simp [maxI] at h
  | k + 1, i, h => by
    have ih := q0jw r k
    have hm := q0jy r k
    rw [maxI] at h ⊢
    split at h
    . rename_i h1
      rw [if_pos h1]
      have := hm i h; omega
    . rename_i h1
      rw [if_neg h1]
      exact ih i h

def q0dn : Nat -> List Int -> List Int -> List Int
  | 0, p, _ => p
  | n + 1, p, r => q0dn n (p.set (maxI r r.length) (p.getD (maxI r r.length) 0 + 1)) (r.set (maxI r r.length) (-1))
def quoL (t : Int) (w : List Int) : List Int := w.map fun x => 60 * x / t
def remL (t : Int) (w : List Int) : List Int := w.map fun x => 60 * x % t
def q0mb (w : List Int) : List Int := w.map fun _ => 1
def ham1 (w : List Int) : List Int := q0dn (60 - (quoL w.sum w).sum).toNat (quoL w.sum w) (remL w.sum w)
def ham (w : List Int) : List Int := if w.sum = 0 then ham1 (q0mb w) else ham1 w

theorem q0uc {p : List Int} {b : Nat} (h : b < p.length) (x : Int) : (p.set b x).sum = p.sum - p.getD b 0 + x := by
  induction p generalizing b with
  | nil => simp at h
  | cons a p ih =>
    cases b with
    | zero => simp; omega
    | succ b =>
      have := ih (b := b) (by simpa using h)
      simp only [List.set_cons_succ, List.sum_cons, List.getD_cons_succ]
      omega
theorem q0ub {w : List Int} (h : ∀ x ∈ w, 0 <= x) : 0 <= w.sum := by
  induction w with
  | nil => simp
  | cons a w ih =>
    have := ih fun x hx => h x (List.mem_cons_of_mem _ hx)
    have := h a (by simp)
    simp only [List.sum_cons]; omega
theorem q0ua {t : Int} : ∀ (w p : List Int), w.length = p.length -> (∀ i, i < w.length -> 60 * w.getD i 0 <= t * p.getD i 0) -> 60 * w.sum <= t * p.sum
  | [], [], _, _ => by simp
  | a :: w, b :: p, hl, h => by
    have ih := q0ua w p (by simpa using hl) fun i hi => by simpa using h (i + 1) (by simpa using hi)
    have h0 := h 0 (by simp)
    simp only [List.getD_cons_zero] at h0
    simp only [List.sum_cons, Int.mul_add]
    omega
structure HamI (w : List Int) (t : Int) (m : Nat) (p r : List Int) : Prop where
  lp : p.length = w.length
  lr : r.length = w.length
  each : ∀ i, i < w.length -> (r.getD i 0 = 60 * w.getD i 0 - t * p.getD i 0 /\ 0 <= r.getD i 0 /\ r.getD i 0 < t) ∨ (r.getD i 0 = -1 /\ 60 * w.getD i 0 < t * p.getD i 0 /\ t * p.getD i 0 < 60 * w.getD i 0 + t)
  sum : p.sum + m = 60
theorem HamI.best {w : List Int} {m : Nat} {p r : List Int} (h : HamI w w.sum (m + 1) p r) (ht : 0 < w.sum) : maxI r r.length < w.length /\ 0 < r.getD (maxI r r.length) 0 := by
  have ⟨i, hi, hpos⟩ : ∃ i, i < w.length /\ ¬ 60 * w.getD i 0 <= w.sum * p.getD i 0 := by
    by_cases hc : ∃ i, i < w.length /\ ¬ 60 * w.getD i 0 <= w.sum * p.getD i 0
    . exact hc
    . have := q0ua (t := w.sum) w p h.lp.symm fun i hi => by
        by_cases h1 : 60 * w.getD i 0 <= w.sum * p.getD i 0
        . exact h1
        . exact absurd ⟨i, hi, h1⟩ hc
      have hs := h.sum
      have e : w.sum * p.sum = w.sum * (60 - (m + 1 : Nat)) := by rw [show p.sum = 60 - ((m + 1 : Nat) : Int) by omega]
      rw [e, Int.mul_sub] at this
      have h2 : 0 < w.sum * ((m + 1 : Nat) : Int) := Int.mul_pos ht (by omega)
      omega
  have hri : 0 < r.getD i 0 := by
    rcases h.each i hi with h1 | h1 <;> omega
  have hlr := h.lr
  have h1 := q0jx r r.length (Nat.le_refl _) (by omega)
  have h2 := q0jy r r.length i (by omega)
  exact ⟨by omega, by omega⟩
theorem q0ct {l : List Int} {b : Nat} (h : b < l.length) (x : Int) : (l.set b x).getD b 0 = x := by
  rw [List.getD_eq_getElem?_getD, List.getElem?_set_self h]; rfl
theorem q0cs {l : List Int} {b i : Nat} (h : i ≠ b) (x : Int) : (l.set b x).getD i 0 = l.getD i 0 := by
  rw [List.getD_eq_getElem?_getD, List.getElem?_set_ne (Ne.symm h), List.getD_eq_getElem?_getD]
theorem HamI.step {w : List Int} {m : Nat} {p r : List Int} (h : HamI w w.sum (m + 1) p r) (ht : 0 < w.sum) : HamI w w.sum m (p.set (maxI r r.length) (p.getD (maxI r r.length) 0 + 1)) (r.set (maxI r r.length) (-1)) := by
  obtain ⟨hb, hr⟩ := h.best ht
  have hlp := h.lp
  have hlr := h.lr
  generalize maxI r r.length = b at hb hr
  refine ⟨by simp [hlp], by simp [hlr], fun i hi => ?_, ?_⟩
  . by_cases hib : i = b
    . subst hib
      right
      rw [q0ct (by omega), q0ct (by omega)]
      rcases h.each i hi with h1 | h1
      . rw [Int.mul_add]; omega
      . omega
    . rw [q0cs hib, q0cs hib]
      exact h.each i hi
  . have := h.sum
    rw [q0uc (by omega)]
    omega
theorem q0do {w : List Int} (ht : 0 < w.sum) : ∀ (m : Nat) (p r : List Int), HamI w w.sum m p r →
    (q0dn m p r).length = w.length /\ (q0dn m p r).sum = 60 /\ ∀ i, i < w.length -> 60 * w.getD i 0 - w.sum < w.sum * (q0dn m p r).getD i 0 /\ w.sum * (q0dn m p r).getD i 0 < 60 * w.getD i 0 + w.sum
  | 0, p, r, h => ⟨h.lp, by have := h.sum; simpa [q0dn] using this, fun i hi => by
      rw [q0dn]
      rcases h.each i hi with h1 | h1 <;> omega⟩
  | m + 1, p, r, h => q0do ht m _ _ (h.step ht)
theorem q0co {w : List Int} {f : Int -> Int} {i : Nat} (h : i < w.length) : (w.map f).getD i 0 = f (w.getD i 0) := by
  rw [List.getD_eq_getElem?_getD, List.getD_eq_getElem?_getD, List.getElem?_map, List.getElem?_eq_getElem h]; rfl
theorem q0or {t : Int} (ht : 0 < t) : ∀ w : List Int, t * (quoL t w).sum <= 60 * w.sum
  | [] => by simp [quoL]
  | a :: w => by
    have ih := q0or ht w
    have h1 := Int.mul_ediv_self_le (x := 60 * a) (k := t) (by omega)
    simp only [quoL, List.map_cons, List.sum_cons, Int.mul_add] at ih ⊢
    omega
theorem q0dq {w : List Int} (hw : ∀ x ∈ w, 0 <= x) (ht : 0 < w.sum) : HamI w w.sum (60 - (quoL w.sum w).sum).toNat (quoL w.sum w) (remL w.sum w) := by
  refine ⟨by simp [quoL], by simp [remL], fun i hi => .inl ?_, ?_⟩
  . rw [quoL, remL, q0co hi, q0co hi]
    have h1 := Int.mul_ediv_add_emod (60 * w.getD i 0) w.sum
    have h2 := Int.emod_nonneg (60 * w.getD i 0) (show w.sum ≠ 0 by omega)
    have h3 := Int.emod_lt_of_pos (60 * w.getD i 0) ht
    omega
  . have h1 := q0or ht w
    have h2 : (quoL w.sum w).sum <= 60 := by
      rw [Int.mul_comm 60] at h1
      exact Int.le_of_mul_le_mul_left h1 ht
    omega
theorem q0dm {w : List Int} (hw : ∀ x ∈ w, 0 <= x) (ht : 0 < w.sum) : (ham1 w).length = w.length /\ (ham1 w).sum = 60 /\ ∀ i, i < w.length -> 60 * w.getD i 0 - w.sum < w.sum * (ham1 w).getD i 0 /\ w.sum * (ham1 w).getD i 0 < 60 * w.getD i 0 + w.sum :=
  q0do ht _ _ _ (q0dq hw ht)
theorem q0me (w : List Int) : (q0mb w).sum = w.length := by
  induction w with
  | nil => rfl
  | cons a w ih =>
    simp only [q0mb, List.map_cons, List.sum_cons] at ih ⊢
    simp only [List.length_cons]; omega
theorem q0dp {w : List Int} (hw : ∀ x ∈ w, 0 <= x) (hl : 1 <= w.length) : (ham w).length = w.length /\ (ham w).sum = 60 /\ (0 < w.sum -> ∀ i, i < w.length -> 60 * w.getD i 0 - w.sum < w.sum * (ham w).getD i 0 /\ w.sum * (ham w).getD i 0 < 60 * w.getD i 0 + w.sum) := by
  have h0 := q0ub hw
  unfold ham
  split
  . rename_i h
    have h1 := q0dm (w := q0mb w) (fun x hx => by simp [q0mb] at hx; omega) (by rw [q0me]; omega)
    refine ⟨by rw [h1.1]; simp [q0mb], h1.2.1, fun h' => by omega⟩
  . rename_i h
    obtain ⟨h1, h2, h3⟩ := q0dm hw (by omega)
    exact ⟨h1, h2, fun _ => h3⟩

def q0rv (l : List Int) : Prop := l.length <= 1000 /\ ∀ x ∈ l, -1000000000000 <= x /\ x <= 1000000000000
theorem q0rw {l : List Int} (h : q0rv l) (k : Nat) : -1000000000000000 <= (l.take k).sum /\ (l.take k).sum <= 1000000000000000 := by
  obtain ⟨h1, h2⟩ := h
  have key : ∀ (l : List Int), (∀ x ∈ l, -1000000000000 <= x /\ x <= 1000000000000) -> -(1000000000000 * (l.length : Int)) <= l.sum /\ l.sum <= 1000000000000 * (l.length : Int) := by
    intro l
    induction l with
    | nil => intro _; simp
    | cons a l ih =>
      intro h
      have := ih fun x hx => h x (List.mem_cons_of_mem _ hx)
      have := h a (by simp)
      simp only [List.sum_cons, List.length_cons]
      omega
  have := key (l.take k) fun x hx => h2 x (List.mem_of_mem_take hx)
  have hl : (l.take k).length <= 1000 := by rw [List.length_take]; omega
  omega
theorem q0ud (l : List Int) (x : Int) : (l ++ [x]).sum = l.sum + x := by simp
theorem q0f1 (l : List Int) (h : q0rv l) : Pure Try.prog 200 [ints l] (.i l.sum) := by
  have hl := h.1
  refine q0ap (by simp) ?_
  simp -implicitDefEqProofs only [eR', go_sem, q03r]
  refine SemC.loopR (σ := Nat) (fun i => St.of [(3, .t (.i (l.take i).sum)), (6, .t (ints l)), (7, .t (.i l.length)), (8, .t (.i i))] []) (fun i => i <= l.length) (fun i => l.length - i) 0 (Weak.o _ [] [] ?_ trivial) (by omega) fun i hi R hn hr he => ?_
  . simp -implicitDefEqProofs only [wR', Nat.reduceBEq, Nat.reduceEqDiff, ↓reduceIte, List.take_zero, List.sum_nil]
  . simp -implicitDefEqProofs only [eR', go_sem]
    refine ⟨fun h1 => ⟨by omega, by omega, by omega, fun x hx => ?_⟩, fun h1 => he _ _ ?_⟩
    . have e := q0ud (l.take i) x
      rw [← q0uj hx] at e
      have hb := q0rw h (i + 1)
      refine hn _ (i + 1) (Weak.o _ [] [] ?_ trivial) (by omega) (by omega)
      simp -implicitDefEqProofs only [wR', Nat.reduceBEq, Nat.reduceEqDiff, ↓reduceIte, q0lb (by omega : i < l.length) (by omega), ← e, wrap64 (n := (l.take (i + 1)).sum) (by omega) (by omega)]
    . simp -implicitDefEqProofs only [eR', go_sem]
      rw [List.take_of_length_le (by omega)]
theorem q0s7 (l : List Int) (h : q0rv l) : Pure Try.prog 187 [ints l] (.i l.sum) := by
  have hl := h.1
  refine q0bn (by simp) ?_
  simp -implicitDefEqProofs only [eR', go_sem, q04p]
  refine SemC.loopR (σ := Nat) (fun i => St.of [(0, .t (ints l)), (3, .t (.i (l.take i).sum)), (4, .t (.i i))] []) (fun i => i <= l.length) (fun i => l.length - i) 0 (Weak.o _ [] [] ?_ trivial) (by omega) fun i hi R hn hr he => ?_
  . simp -implicitDefEqProofs only [wR', Nat.reduceBEq, Nat.reduceEqDiff, ↓reduceIte, List.take_zero, List.sum_nil]
  . simp -implicitDefEqProofs only [eR', go_sem]
    refine ⟨fun h1 => ⟨by omega, by omega, by omega, fun x hx => ?_⟩, fun h1 => he _ _ ?_⟩
    . have e := q0ud (l.take i) x
      rw [← q0uj hx] at e
      have hb := q0rw h (i + 1)
      refine hn _ (i + 1) (Weak.o _ [] [] ?_ trivial) (by omega) (by omega)
      simp -implicitDefEqProofs only [wR', Nat.reduceBEq, Nat.reduceEqDiff, ↓reduceIte, q0lb (by omega : i < l.length) (by omega), ← e, wrap64 (n := (l.take (i + 1)).sum) (by omega) (by omega)]
    . simp -implicitDefEqProofs only [eR', go_sem]
      rw [List.take_of_length_le (by omega)]

theorem q0op {t : Int} {w : List Int} {i : Nat} {x : Int} (h : w[i]? = some x) : quoL t (w.take (i + 1)) = quoL t (w.take i) ++ [60 * x / t] := by rw [q0uj h]; simp [quoL]
theorem q0pf {t : Int} {w : List Int} {i : Nat} {x : Int} (h : w[i]? = some x) : remL t (w.take (i + 1)) = remL t (w.take i) ++ [60 * x % t] := by rw [q0uj h]; simp [remL]
def q0xj (w : List Int) : Prop := 1 <= w.length /\ w.length <= 4 /\ ∀ x ∈ w, 0 <= x /\ x <= 1000000000
theorem q0xk {w : List Int} (h : q0xj w) : q0rv w := ⟨by have := h.2.1; omega, fun x hx => by have := h.2.2 x hx; omega⟩
theorem q0oq {w : List Int} (h : q0xj w) (ht : 0 < w.sum) : q0rv (quoL w.sum w) := by
  refine ⟨by have := h.2.1; simp [quoL]; omega, fun y hy => ?_⟩
  obtain ⟨x, hx, rfl⟩ := List.mem_map.1 hy
  have hb := h.2.2 x hx
  have h1 := Int.ediv_nonneg (a := 60 * x) (b := w.sum) (by omega) (by omega)
  have h2 : 60 * x / w.sum <= 60 * x := Int.ediv_le_self _ (by omega)
  omega
theorem HamI.small {w : List Int} {t : Int} {m : Nat} {p r : List Int} (h : HamI w t m p r) (ht : 0 < t) {i : Nat} (hi : i < w.length) (hw : 0 <= w.getD i 0 /\ w.getD i 0 <= 1000000000) : 0 <= p.getD i 0 /\ p.getD i 0 <= 100000000000 := by
  have key : -t < t * p.getD i 0 /\ t * p.getD i 0 < 60 * w.getD i 0 + t := by
    rcases h.each i hi with h1 | h1 <;> omega
  refine ⟨?_, ?_⟩
  . have h1 : t * (-1) < t * p.getD i 0 := by omega
    have := Int.lt_of_mul_lt_mul_left h1 (by omega)
    omega
  . have h1 := Int.mul_le_mul_of_nonneg_right (show (1 : Int) <= t by omega) (show 0 <= 60 * w.getD i 0 by omega)
    have h2 : t * p.getD i 0 < t * (60 * w.getD i 0 + 1) := by rw [Int.mul_add, Int.mul_one]; omega
    have := Int.lt_of_mul_lt_mul_left h2 (by omega)
    omega
theorem q0sh (w : List Int) (hw : q0xj w) (ht : 0 < w.sum) : Fun Try.prog 172 [] [.t (ints w)] fun o r => o = [] /\ r = intsO (ham1 w) := by
  have hs := q0xk hw
  have hsum : w.sum <= 1000000000000000 := by have := q0rw hs w.length; rw [List.take_length] at this; omega
  obtain ⟨hw1, hw2, hw3⟩ := hw
  refine q0bw (by simp) ?_
  simp -implicitDefEqProofs only [eR', go_sem, q04y]
  refine q006.p (q0s7 w hs) [] rfl Try.call187 ?_ ?_
  . simp -implicitDefEqProofs only [aR', go_sem]
  simp -implicitDefEqProofs only [eR', go_sem]
  refine ⟨fun h => absurd h (by simp; omega), fun _ => ?_⟩
  refine SemC.loopR (σ := Nat) (fun i => St.of [(0, .t (ints w)), (3, .t (.i w.sum)), (6, .own 95), (7, .own 96), (8, .t (.i i))] [(95, .arr 1 ((quoL w.sum (w.take i)).map T.i)), (96, .arr 1 ((remL w.sum (w.take i)).map T.i))]) (fun i => i <= w.length) (fun i => w.length - i) 0 (Weak.o _ _ [some 28, some 29] ?_ ?_) (by omega) fun i hi R hn hr he => ?_
  . simp -implicitDefEqProofs only [wR', Nat.reduceBEq, Nat.reduceEqDiff, ↓reduceIte]
  . exact ⟨⟨_, rfl, .refl _⟩, rfl, ⟨_, rfl, .refl _⟩, rfl, trivial⟩
  . simp -implicitDefEqProofs only [eR', go_sem]
    refine ⟨fun h => ⟨by omega, by omega, by omega, fun x hx => ?_⟩, fun h => he _ _ ?_⟩
    . have hxb := hw3 x (List.mem_of_getElem? hx)
      have hq1 := Int.ediv_nonneg (a := 60 * x) (b := w.sum) (by omega) (by omega)
      have hq2 : 60 * x / w.sum <= 60 * x := Int.ediv_le_self _ (by omega)
      have hr1 := Int.emod_nonneg (60 * x) (show w.sum ≠ 0 by omega)
      have hr2 := Int.emod_lt_of_pos (60 * x) ht
      have e1 : IntKind.i64.wrap ((IntKind.i64.wrap (60 * x)).tdiv w.sum) = 60 * x / w.sum := by
        rw [wrap64 (n := 60 * x) (by omega) (by omega), Int.tdiv_eq_ediv_of_nonneg (by omega), wrap64 (by omega) (by omega)]
      have e2 : (IntKind.i64.wrap (60 * x)).tmod w.sum = 60 * x % w.sum := by
        rw [wrap64 (n := 60 * x) (by omega) (by omega), Int.tmod_eq_emod_of_nonneg (by omega)]
      simp only [e1]
      refine ⟨by omega, by rw [quoL, List.length_map, List.length_take]; omega, by omega, by omega, by omega, fun x' hx' => ?_⟩
      rw [hx] at hx'; cases hx'
      simp only [e2]
      refine ⟨by omega, by rw [remL, List.length_map, List.length_take]; omega, ?_⟩
      refine hn _ (i + 1) (Weak.o _ _ [some 45, some 55] ?_ ?_) (by omega) (by omega)
      . simp -implicitDefEqProofs only [wR', Nat.reduceBEq, Nat.reduceEqDiff, ↓reduceIte, q0lb (by omega : i < w.length) (by omega)]
      . refine ⟨⟨_, rfl, ?_⟩, rfl, ⟨_, rfl, ?_⟩, rfl, trivial⟩
        . rw [q0op hx, List.map_append]; exact .refl _
        . rw [q0pf hx, List.map_append]; exact .refl _
    . simp -implicitDefEqProofs only [eR', go_sem]
      rw [show i = w.length by omega, List.take_length]
      have hst := q0dq (fun x hx => (hw3 x hx).1) ht
      have hqs := q0oq ⟨hw1, hw2, hw3⟩ ht
      refine q006.p (q0s7 (quoL w.sum w) hqs) [95] rfl Try.call187 ?_ ?_
      . simp -implicitDefEqProofs only [aR', go_sem]
      simp -implicitDefEqProofs only [eR', go_sem]
      have hsm := hst.sum
      have e60 : IntKind.i64.wrap (60 - (quoL w.sum w).sum) = (((60 - (quoL w.sum w).sum).toNat : Nat) : Int) := by
        have := q0rw hqs (quoL w.sum w).length
        rw [List.take_length] at this
        rw [wrap64 (by omega) (by omega)]; omega
      rw [e60]
      refine SemC.loopR (σ := Nat × List Int × List Int) (fun s => St.of [(6, .own 95), (7, .own 96), (9, .t (.i s.1))] [(95, .arr 1 (s.2.1.map T.i)), (96, .arr 1 (s.2.2.map T.i))]) (fun s => HamI w w.sum s.1 s.2.1 s.2.2 /\ q0dn s.1 s.2.1 s.2.2 = ham1 w /\ s.1 <= 60) (fun s => s.1) ((60 - (quoL w.sum w).sum).toNat, quoL w.sum w, remL w.sum w) (Weak.o _ _ [some 95, some 96] ?_ ?_) ⟨hst, rfl, by
        have := q0ub (w := quoL w.sum w) fun y hy => by
          obtain ⟨x, hx, rfl⟩ := List.mem_map.1 hy
          exact Int.ediv_nonneg (by have := hw3 x hx; omega) (by omega)
        simp only []; omega⟩ fun s hI R hn hr he => ?_
      . simp -implicitDefEqProofs only [wR', Nat.reduceBEq, Nat.reduceEqDiff, ↓reduceIte]
      . exact ⟨⟨_, rfl, .refl _⟩, rfl, ⟨_, rfl, .refl _⟩, rfl, trivial⟩
      . obtain ⟨m, p, r⟩ := s
        obtain ⟨hH, hgo, hm60⟩ := hI
        (try simp only [] at hH hgo hm60)
        simp -implicitDefEqProofs only [eR', go_sem]
        have hlp := hH.lp
        have hlr := hH.lr
        refine ⟨fun h => ?_, fun h => he _ _ ?_⟩
        . obtain ⟨m', rfl⟩ : ∃ m', m = m' + 1 := ⟨m - 1, by omega⟩
          obtain ⟨hb1, hb2⟩ := hH.best ht
          have hnext := hH.step ht
          refine SemC.loopR (σ := Nat) (fun k => St.of [(6, .own 95), (7, .own 96), (9, .t (.i (m' + 1 : Nat))), (10, .t (.i (maxI r k : Nat))), (11, .t (.i k))] [(95, .arr 1 (p.map T.i)), (96, .arr 1 (r.map T.i))]) (fun k => 1 <= k /\ k <= r.length) (fun k => r.length - k) 1 (Weak.o _ _ [some 95, some 96] ?_ ?_) ⟨by omega, by omega⟩ fun k hk R2 hn2 hr2 he2 => ?_
          . simp -implicitDefEqProofs only [wR', Nat.reduceBEq, Nat.reduceEqDiff, ↓reduceIte, q0jz]
          . exact ⟨⟨_, rfl, .refl _⟩, rfl, ⟨_, rfl, .refl _⟩, rfl, trivial⟩
          . simp -implicitDefEqProofs only [eR', go_sem]
            refine ⟨fun h => ?_, fun h => he2 _ _ ?_⟩
            . have hkl : k < r.length := by omega
              obtain ⟨x, hx⟩ : ∃ x, r[k]? = some x := ⟨_, List.getElem?_eq_getElem hkl⟩
              have hml := q0jx r k (by omega) (by omega)
              obtain ⟨y, hy⟩ : ∃ y, r[maxI r k]? = some y := ⟨_, List.getElem?_eq_getElem hml⟩
              have hms : maxI r (k + 1) = if y < x then k else maxI r k := by
                rw [maxI, List.getD_eq_getElem?_getD, List.getD_eq_getElem?_getD, hx, hy]; rfl
              refine ⟨by omega, by omega, by omega, fun x' hx' => ⟨by omega, by omega, by omega, fun y' hy' => ?_⟩⟩
              rw [hx] at hx'; cases hx'
              rw [hy] at hy'; cases hy'
              refine ⟨fun hc => ?_, fun hc => ?_⟩
              . rw [if_pos (by omega)] at hms
                refine hn2 _ (k + 1) (Weak.o _ _ [some 95, some 96] ?_ ?_) ⟨by omega, by omega⟩ (by omega)
                . simp -implicitDefEqProofs only [wR', Nat.reduceBEq, Nat.reduceEqDiff, ↓reduceIte, q0lb hkl (by omega), hms]
                . exact ⟨⟨_, rfl, .refl _⟩, rfl, ⟨_, rfl, .refl _⟩, rfl, trivial⟩
              . rw [if_neg (by omega)] at hms
                refine hn2 _ (k + 1) (Weak.o _ _ [some 95, some 96] ?_ ?_) ⟨by omega, by omega⟩ (by omega)
                . simp -implicitDefEqProofs only [wR', Nat.reduceBEq, Nat.reduceEqDiff, ↓reduceIte, q0lb hkl (by omega), hms]
                . exact ⟨⟨_, rfl, .refl _⟩, rfl, ⟨_, rfl, .refl _⟩, rfl, trivial⟩
            . simp -implicitDefEqProofs only [eR', go_sem]
              have hk' : k = r.length := by omega
              subst hk'
              have hsm := hH.small ht hb1 (hw3 _ (by rw [List.getD_eq_getElem?_getD, List.getElem?_eq_getElem hb1]; exact List.getElem_mem _))
              refine ⟨by omega, by omega, by omega, fun a ha => ?_⟩
              have hg : p.getD (maxI r r.length) 0 = a := by rw [List.getD_eq_getElem?_getD, ha]; rfl
              rw [hg] at hsm hnext
              rw [wrap64 (n := a + 1) (by omega) (by omega)]
              refine ⟨by omega, by omega, by omega, by omega, by omega, by omega, ?_⟩
              refine hn _ (m', p.set (maxI r r.length) (a + 1), r.set (maxI r r.length) (-1)) (Weak.o _ _ [some 95, some 96] ?_ ?_) ⟨hnext, by rw [← hgo, q0dn, hg], by simp only []; omega⟩ (by simp only []; omega)
              . have e : IntKind.i64.wrap (((m' + 1 : Nat) : Int) - 1) = (m' : Int) := by rw [wrap64 (by omega) (by omega)]; omega
                simp -implicitDefEqProofs only [wR', Nat.reduceBEq, Nat.reduceEqDiff, ↓reduceIte, e]
              . refine ⟨⟨_, rfl, ?_⟩, rfl, ⟨_, rfl, ?_⟩, rfl, trivial⟩
                . rw [List.map_set]; exact .refl _
                . rw [List.map_set]; exact .refl _
        . simp -implicitDefEqProofs only [eR', go_sem]
          have hm0 : m = 0 := by omega
          subst hm0
          rw [← hgo, q0dn]; rfl

theorem q0mc {w : List Int} (h : q0xj w) : q0xj (q0mb w) := ⟨by have := h.1; simpa [q0mb] using this, by have := h.2.1; simpa [q0mb] using this, fun x hx => by simp [q0mb] at hx; omega⟩
theorem q0md {w : List Int} {i : Nat} {x : Int} (h : w[i]? = some x) : q0mb (w.take (i + 1)) = q0mb (w.take i) ++ [1] := by rw [q0uj h]; simp [q0mb]
theorem q0si (w : List Int) (hw : q0xj w) : Fun Try.prog 172 [] [.t (ints w)] fun o r => o = [] /\ r = intsO (ham w) := by
  have hs := q0xk hw
  have hs0 := q0ub (w := w) fun x hx => (hw.2.2 x hx).1
  by_cases h0 : w.sum = 0
  . rw [ham, if_pos h0]
    have ho := q0sh (q0mb w) (q0mc hw) (by rw [q0me]; have := hw.1; omega)
    obtain ⟨hw1, hw2, hw3⟩ := hw
    refine q0bw (by simp) ?_
    simp -implicitDefEqProofs only [eR', go_sem, q04y]
    refine q006.p (q0s7 w hs) [] rfl Try.call187 ?_ ?_
    . simp -implicitDefEqProofs only [aR', go_sem]
    simp -implicitDefEqProofs only [eR', go_sem]
    refine ⟨fun _ => ?_, fun h => absurd h (by simp [h0])⟩
    refine SemC.loopR (σ := Nat) (fun i => St.of [(0, .t (ints w)), (4, .own 95), (5, .t (.i i))] [(95, .arr 1 ((q0mb (w.take i)).map T.i))]) (fun i => i <= w.length) (fun i => w.length - i) 0 (Weak.o _ _ [some 16] ?_ ?_) (by omega) fun i hi R hn hr he => ?_
    . simp -implicitDefEqProofs only [wR', Nat.reduceBEq, Nat.reduceEqDiff, ↓reduceIte]
    . exact ⟨⟨_, rfl, .refl _⟩, rfl, trivial⟩
    . simp -implicitDefEqProofs only [eR', go_sem]
      refine ⟨fun h => ?_, fun h => he _ _ ?_⟩
      . obtain ⟨x, hx⟩ : ∃ x, w[i]? = some x := ⟨_, List.getElem?_eq_getElem (by omega)⟩
        refine ⟨by rw [q0mb, List.length_map, List.length_take]; omega, hn _ (i + 1) (Weak.o _ _ [some 25] ?_ ?_) (by omega) (by omega)⟩
        . simp -implicitDefEqProofs only [wR', Nat.reduceBEq, Nat.reduceEqDiff, ↓reduceIte, q0lb (by omega : i < w.length) (by omega)]
        . refine ⟨⟨_, rfl, ?_⟩, rfl, trivial⟩
          rw [q0md hx, List.map_append]; exact .refl _
      . simp -implicitDefEqProofs only [eR', go_sem]
        rw [show i = w.length by omega, List.take_length]
        refine q006.res ho [95] rfl Try.call172 ?_ (.inr (q0fh _)) ?_
        . simp -implicitDefEqProofs only [aR', go_sem]
        simp -implicitDefEqProofs only [cR', go_sem]
  . rw [ham, if_neg h0]
    exact q0sh w hw (by omega)
theorem q0k0 (r : List Int) : ∀ k, 1 <= k -> k <= r.length -> maxL (r.take k) = r.getD (maxI r k) 0
  | 0, h, _ => by omega
  | 1, _, h => by
    rw [q0jz]
    cases r with
    | nil => simp at h
    | cons a r => simp [maxL]
  | k + 2, _, h => by
    have ih := q0k0 r (k + 1) (by omega) (by omega)
    obtain ⟨x, hx⟩ : ∃ x, r[k + 1]? = some x := ⟨_, List.getElem?_eq_getElem (by omega)⟩
    have hg : r.getD (k + 1) 0 = x := by rw [List.getD_eq_getElem?_getD, hx]; rfl
    rw [q0uj hx, q0k2 (List.ne_nil_of_length_pos (by rw [List.length_take]; omega)), ih]
    show _ = r.getD (if r.getD (maxI r (k + 1)) 0 < r.getD (k + 1) 0 then k + 1 else maxI r (k + 1)) 0
    rw [hg]
    split
    . rw [hg]; omega
    . omega
theorem q0rs (r : List Int) (hr : r.length <= 1000000) (h0 : 0 < r.length) : Pure Try.prog 117 [ints r, .i (maxL r)] (.i (maxI r r.length : Nat)) := by
  refine q0be (by simp) ?_
  simp -implicitDefEqProofs only [eR', go_sem, q04g]
  refine SemC.loopR (σ := Nat) (fun i => St.of [(0, .t (ints r)), (1, .t (.i (maxL r))), (7, .t (.i r.length)), (8, .t (.i i))] []) (fun i => i <= maxI r r.length) (fun i => r.length - i) 0 (Weak.o _ [] [] ?_ trivial) (by omega) fun i hi R hn hr' he => ?_
  . simp -implicitDefEqProofs only [wR', Nat.reduceBEq, Nat.reduceEqDiff, ↓reduceIte]
  . simp -implicitDefEqProofs only [eR', go_sem]
    have hv := q0k0 r r.length (by omega) (by omega)
    rw [List.take_length] at hv
    have hml := q0jx r r.length (Nat.le_refl _) h0
    refine ⟨fun h => ⟨by omega, by omega, by omega, fun x hx => ⟨fun hc => hr' _ ?_, fun hc => ?_⟩⟩, fun h => by omega⟩
    . have hg : r.getD i 0 = x := by rw [List.getD_eq_getElem?_getD, hx]; rfl
      have e : i = maxI r r.length := by
        by_cases hlt : i < maxI r r.length
        . have := q0jw r r.length i hlt
          have hc : maxL r = x := by simpa using hc
          omega
        . omega
      simp -implicitDefEqProofs only [eR', go_sem]
      rw [← e]
    . have hg : r.getD i 0 = x := by rw [List.getD_eq_getElem?_getD, hx]; rfl
      have hne : i ≠ maxI r r.length := by
        intro e
        rw [← e, hg] at hv
        simp [hv] at hc
      refine hn _ (i + 1) (Weak.o _ [] [] ?_ trivial) (by omega) (by omega)
      simp -implicitDefEqProofs only [wR', Nat.reduceBEq, Nat.reduceEqDiff, ↓reduceIte, q0lb (by omega : i < r.length) (by omega)]

def useL (w : List Int) : List Int := if w.sum = 0 then q0mb w else w
theorem q0dr (w : List Int) : ham w = ham1 (useL w) := by unfold ham useL; split <;> rfl
theorem q0x3 (w : List Int) : (useL w).length = w.length := by unfold useL; split <;> simp [q0mb]
theorem q0x5 {w : List Int} (h : q0xj w) : 0 < (useL w).sum := by
  have hs0 := q0ub (w := w) fun x hx => (h.2.2 x hx).1
  have := h.1
  unfold useL; split
  . rw [q0me]; omega
  . omega
theorem q0x4 {w : List Int} (h : q0xj w) : q0xj (useL w) := by
  unfold useL; split
  . exact q0mc h
  . exact h
theorem q094 {α : Type} {l : List α} {f : α -> T} {z : T} {i : Nat} {x : α} (h : l[i]? = some x) : (filled l f z (i + 1))[i]? = some (f x) := by
  obtain ⟨hi, rfl⟩ := List.getElem?_eq_some_iff.1 h
  simp only [filled]
  rw [List.getElem?_append_left (by rw [List.length_map, List.length_take]; omega), List.getElem?_map, List.getElem?_take, if_pos (by omega), List.getElem?_eq_getElem hi]
  rfl
theorem q0ev (w : List Int) (hw : q0xj w) : Fun Try.prog 193 [] [.t (ints w)] fun o r => o = [] /\ r = intsO (ham w) := by
  have hs := q0xk hw
  have hu := q0x4 hw
  have ht := q0x5 hw
  have hul := q0x3 w
  rw [q0dr]
  have hsum0 := q0ub (w := w) fun x hx => (hw.2.2 x hx).1
  have hsum : w.sum <= 1000000000000000 := by have := q0rw hs w.length; rw [List.take_length] at this; omega
  have husum : (useL w).sum <= 1000000000000000 := by have := q0rw (q0xk hu) (useL w).length; rw [List.take_length] at this; omega
  have hql : (quoL (useL w).sum (useL w)).length = w.length := by simp [quoL, hul]
  have hrl : (remL (useL w).sum (useL w)).length = w.length := by simp [remL, hul]
  obtain ⟨hw1, hw2, hw3⟩ := hw
  refine q0al (by simp) ?_
  simp -implicitDefEqProofs only [eR', go_sem, q03n]
  refine q006.p (q0f1 w hs) [] rfl Try.call200 ?_ ?_
  . simp -implicitDefEqProofs only [aR', go_sem]
  simp -implicitDefEqProofs only [eR', go_sem]
  refine ⟨by omega, by omega, by omega, by omega, ?_⟩
  refine SemC.loopR (σ := Nat) (fun i => St.of [(0, .t (ints w)), (3, .t (.i w.sum)), (4, .own 14), (5, .own 17), (6, .t (.i (60 - ((quoL (useL w).sum (useL w)).take i).sum))), (18, .t (ints w)), (19, .t (.i w.length)), (20, .t (.i i))] [(14, .arr 1 (filled (quoL (useL w).sum (useL w)) T.i (T.i 0) i)), (17, .arr 1 (filled (remL (useL w).sum (useL w)) T.i (T.i 0) i))]) (fun i => i <= w.length) (fun i => w.length - i) 0 (Weak.o _ _ [some 14, some 17] ?_ ?_) (by omega) fun i hi R hn hr he => ?_
  . simp -implicitDefEqProofs only [wR', Nat.reduceBEq, Nat.reduceEqDiff, ↓reduceIte, List.take_zero, List.sum_nil, Int.sub_zero]
  . refine ⟨⟨_, rfl, ?_⟩, rfl, ⟨_, rfl, ?_⟩, rfl, trivial⟩
    . rw [q097, hql, q0jc]; exact .refl _
    . rw [q097, hrl, q0jc]; exact .refl _
  . simp -implicitDefEqProofs only [eR', go_sem]
    refine ⟨fun h => ⟨by omega, by omega, by omega, fun x hx => ?_⟩, fun h => he _ _ ?_⟩
    . have hxb := hw3 x (List.mem_of_getElem? hx)
      obtain ⟨ux, hux⟩ : ∃ y, (useL w)[i]? = some y := ⟨_, List.getElem?_eq_getElem (by omega)⟩
      have hq : (quoL (useL w).sum (useL w))[i]? = some (60 * ux / (useL w).sum) := by rw [quoL, List.getElem?_map, hux]; rfl
      have hr' : (remL (useL w).sum (useL w))[i]? = some (60 * ux % (useL w).sum) := by rw [remL, List.getElem?_map, hux]; rfl
      have hqs := q0oq hu ht
      have hb1 := q0rw hqs i
      have hb2 := q0rw hqs (i + 1)
      have hss := q0ud ((quoL (useL w).sum (useL w)).take i) (60 * ux / (useL w).sum)
      rw [← q0uj hq] at hss
      have hls : IntKind.i64.wrap (60 - ((quoL (useL w).sum (useL w)).take i).sum - 60 * ux / (useL w).sum) = 60 - ((quoL (useL w).sum (useL w)).take (i + 1)).sum := by
        rw [wrap64 (by omega) (by omega), hss]; omega
      have hfq := q096 (f := T.i) (z := T.i 0) hq
      have hfr := q096 (f := T.i) (z := T.i 0) hr'
      have hfl1 := q095 (quoL (useL w).sum (useL w)) T.i (T.i 0) i (by omega)
      have hfl2 := q095 (remL (useL w).sum (useL w)) T.i (T.i 0) i (by omega)
      have hget := q094 (f := T.i) (z := T.i 0) hq
      have hcase : (w.sum = 0 /\ ux = 1 /\ (useL w).sum = w.length) ∨ (w.sum ≠ 0 /\ ux = x /\ (useL w).sum = w.sum) := by
        unfold useL at hux ⊢
        split at hux
        . rename_i h0
          rw [if_pos h0, q0me]
          rw [q0mb, List.getElem?_map, hx] at hux
          exact .inl ⟨h0, by simpa using hux.symm, rfl⟩
        . rename_i h0
          rw [if_neg h0]
          rw [hx] at hux
          exact .inr ⟨h0, by simpa using hux.symm, rfl⟩
      refine ⟨fun h0 => ?_, fun h0 => ?_⟩
      . have h0 : w.sum = 0 := by simpa using h0
        obtain ⟨_, hu1, hu2⟩ := hcase.resolve_right (fun h => h.1 h0)
        have e1 : IntKind.i64.wrap (Int.tdiv 60 (w.length : Int)) = 60 * ux / (useL w).sum := by
          have := Int.ediv_nonneg (a := 60) (b := (w.length : Int)) (by omega) (by omega)
          have := Int.ediv_le_self (a := 60) (w.length : Int) (by omega)
          rw [Int.tdiv_eq_ediv_of_nonneg (by omega), wrap64 (by omega) (by omega), hu1, hu2]; rfl
        have e2 : Int.tmod 60 (w.length : Int) = 60 * ux % (useL w).sum := by
          rw [Int.tmod_eq_emod_of_nonneg (by omega), hu1, hu2]; rfl
        simp only [e1, e2, hfq, hfr]
        refine ⟨by omega, by omega, by omega, by omega, by omega, by omega, by omega, by omega, by omega, by omega, by omega, fun c hc => ?_⟩
        rw [hget] at hc; cases hc
        refine ⟨rfl, rfl, ?_⟩
        simp only [hls]
        refine hn _ (i + 1) (Weak.o _ _ [some 14, some 17] ?_ ?_) (by omega) (by omega)
        . simp -implicitDefEqProofs only [wR', Nat.reduceBEq, Nat.reduceEqDiff, ↓reduceIte, q0lb (by omega : i < w.length) (by omega)]
        . exact ⟨⟨_, rfl, .refl _⟩, rfl, ⟨_, rfl, .refl _⟩, rfl, trivial⟩
      . have h0 : w.sum ≠ 0 := by simpa using h0
        obtain ⟨_, hu1, hu2⟩ := hcase.resolve_left (fun h => h0 h.1)
        have hq1 := Int.ediv_nonneg (a := 60 * x) (b := w.sum) (by omega) (by omega)
        have hq2 : 60 * x / w.sum <= 60 * x := Int.ediv_le_self _ (by omega)
        have e1 : IntKind.i64.wrap ((IntKind.i64.wrap (60 * x)).tdiv w.sum) = 60 * ux / (useL w).sum := by
          rw [wrap64 (n := 60 * x) (by omega) (by omega), Int.tdiv_eq_ediv_of_nonneg (by omega), wrap64 (by omega) (by omega), hu1, hu2]
        have e2 : (IntKind.i64.wrap (60 * x)).tmod w.sum = 60 * ux % (useL w).sum := by
          rw [wrap64 (n := 60 * x) (by omega) (by omega), Int.tmod_eq_emod_of_nonneg (by omega), hu1, hu2]
        simp only [e1, e2, hfq, hfr]
        refine ⟨by omega, by omega, by omega, by omega, by omega, by omega, by omega, by omega, by omega, by omega, by omega, fun c hc => ?_⟩
        rw [hget] at hc; cases hc
        refine ⟨rfl, rfl, ?_⟩
        simp only [hls]
        refine hn _ (i + 1) (Weak.o _ _ [some 14, some 17] ?_ ?_) (by omega) (by omega)
        . simp -implicitDefEqProofs only [wR', Nat.reduceBEq, Nat.reduceEqDiff, ↓reduceIte, q0lb (by omega : i < w.length) (by omega)]
        . exact ⟨⟨_, rfl, .refl _⟩, rfl, ⟨_, rfl, .refl _⟩, rfl, trivial⟩
    . simp -implicitDefEqProofs only [eR', go_sem]
      have f1 : filled (quoL (useL w).sum (useL w)) T.i (T.i 0) i = (quoL (useL w).sum (useL w)).map T.i := by rw [show i = (quoL (useL w).sum (useL w)).length by omega, q093]
      have f2 : filled (remL (useL w).sum (useL w)) T.i (T.i 0) i = (remL (useL w).sum (useL w)).map T.i := by rw [show i = (remL (useL w).sum (useL w)).length by omega, q093]
      have f3 : (quoL (useL w).sum (useL w)).take i = quoL (useL w).sum (useL w) := List.take_of_length_le (by omega)
      rw [f1, f2, f3]
      have hst := q0dq (fun x hx => (hu.2.2 x hx).1) ht
      have hsm := hst.sum
      have hqn := q0ub (w := quoL (useL w).sum (useL w)) fun y hy => by
        obtain ⟨x, hx, rfl⟩ := List.mem_map.1 hy
        exact Int.ediv_nonneg (by have := hu.2.2 x hx; omega) (by omega)
      refine SemC.loopR (σ := Nat × List Int × List Int) (fun s => St.of [(4, .own 14), (5, .own 17), (6, .t (.i s.1))] [(14, .arr 1 (s.2.1.map T.i)), (17, .arr 1 (s.2.2.map T.i))]) (fun s => HamI (useL w) (useL w).sum s.1 s.2.1 s.2.2 /\ q0dn s.1 s.2.1 s.2.2 = ham1 (useL w) /\ s.1 <= 60) (fun s => s.1) ((60 - (quoL (useL w).sum (useL w)).sum).toNat, quoL (useL w).sum (useL w), remL (useL w).sum (useL w)) (Weak.o _ _ [some 14, some 17] ?_ ?_) ⟨hst, rfl, by simp only []; omega⟩ fun s hI R hn hr he => ?_
      . have e60 : 60 - (quoL (useL w).sum (useL w)).sum = (((60 - (quoL (useL w).sum (useL w)).sum).toNat : Nat) : Int) := by omega
        simp -implicitDefEqProofs only [wR', Nat.reduceBEq, Nat.reduceEqDiff, ↓reduceIte, ← e60]
      . exact ⟨⟨_, rfl, .refl _⟩, rfl, ⟨_, rfl, .refl _⟩, rfl, trivial⟩
      . obtain ⟨m, p, r⟩ := s
        obtain ⟨hH, hgo, hm60⟩ := hI
        (try simp only [] at hH hgo hm60)
        have hlp := hH.lp
        have hlr := hH.lr
        simp -implicitDefEqProofs only [eR', go_sem]
        refine ⟨fun h => ?_, fun h => he _ _ ?_⟩
        . obtain ⟨m', rfl⟩ : ∃ m', m = m' + 1 := ⟨m - 1, by omega⟩
          obtain ⟨hb1, hb2⟩ := hH.best ht
          have hnext := hH.step ht
          refine q006.p (q0rt r (List.ne_nil_of_length_pos (by omega)) (by omega)) [17] rfl Try.call106 ?_ ?_
          . simp -implicitDefEqProofs only [aR', go_sem]
          simp -implicitDefEqProofs only [eR', go_sem]
          refine q006.p (q0rs r (by omega) (by omega)) [17] rfl Try.call117 ?_ ?_
          . simp -implicitDefEqProofs only [aR', go_sem]
          simp -implicitDefEqProofs only [eR', go_sem]
          have hsm := hH.small ht hb1 (hu.2.2 _ (by rw [List.getD_eq_getElem?_getD, List.getElem?_eq_getElem hb1]; exact List.getElem_mem _))
          refine ⟨by omega, by omega, by omega, fun a ha => ?_⟩
          have hg : p.getD (maxI r r.length) 0 = a := by rw [List.getD_eq_getElem?_getD, ha]; rfl
          rw [hg] at hsm hnext
          rw [wrap64 (n := a + 1) (by omega) (by omega)]
          refine ⟨by omega, by omega, by omega, by omega, by omega, by omega, ?_⟩
          refine hn _ (m', p.set (maxI r r.length) (a + 1), r.set (maxI r r.length) (-1)) (Weak.o _ _ [some 14, some 17] ?_ ?_) ⟨hnext, by rw [← hgo, q0dn, hg], by simp only []; omega⟩ (by simp only []; omega)
          . have e : IntKind.i64.wrap (((m' + 1 : Nat) : Int) - 1) = (m' : Int) := by rw [wrap64 (by omega) (by omega)]; omega
            simp -implicitDefEqProofs only [wR', Nat.reduceBEq, Nat.reduceEqDiff, ↓reduceIte, e]
          . refine ⟨⟨_, rfl, ?_⟩, rfl, ⟨_, rfl, ?_⟩, rfl, trivial⟩
            . rw [List.map_set]; exact .refl _
            . rw [List.map_set]; exact .refl _
        . simp -implicitDefEqProofs only [eR', go_sem]
          have hm0 : m = 0 := by omega
          subst hm0
          rw [← hgo, q0dn]; rfl
end Go.Ab

/- The bridge, part 4: games, strategies and claims as arguments. -/
namespace Go.Ab

def q0q9 (m : List (List Int)) : Prop := m.length <= 9223372036854775807 /\ ∀ r ∈ m, r.length <= 9223372036854775807
def q0cf (g : Gm) : Prop := g.nd.length <= 9223372036854775807 /\ (∀ x ∈ g.nd, x.ch.length <= 9223372036854775807) /\ q0q9 g.w /\ q0q9 g.v
def q0ck (g : Gm) : T := .agg [nodes g.nd, rows g.w, rows g.v]
def q0tu (s : Int × List (List Int)) : T := .agg [.i s.1, rows s.2]
structure Cl where
  f : Int × List (List Int)
  s : Int × List (List Int)
  lo : Int
  hi : Int
deriving DecidableEq
end Go.Ab

/- Contracts: increasing numbers, depths of trees. -/
namespace Go.Ab
open Go.Proofs

theorem q0fb {l : List Int} : incr l = true ↔ ∀ i, i + 1 < l.length -> l.getD i 0 < l.getD (i + 1) 0 := by
  induction l with
  | nil => simp [incr]
  | cons a l ih =>
    cases l with
    | nil => simp [incr]
    | cons b l =>
      rw [incr, Bool.and_eq_true, decide_eq_true_eq, ih]
      constructor
      . rintro ⟨h1, h2⟩ i hi
        cases i with
        | zero => simpa using h1
        | succ i => simpa using h2 i (by simpa using hi)
      . intro h
        refine ⟨by simpa using h 0 (by simp), fun i hi => ?_⟩
        simpa using h (i + 1) (by simpa using hi)
theorem q0cr {l : List Int} {i : Nat} {x : Int} (h : l[i]? = some x) : l.getD i 0 = x := by rw [List.getD_eq_getElem?_getD, h]; rfl
theorem q0l1 {l : List Nd} {i : Nat} {x : Nd} (h : l[i]? = some x) : l.getD i nd0 = x := by rw [List.getD_eq_getElem?_getD, h]; rfl
theorem q0oc {i : Nat} (h : 1 <= i) (hi : i <= 1000000000000) : IntKind.i64.wrap ((i : Int) - 1) = ((i - 1 : Nat) : Int) := by rw [wrap64 (by omega) (by omega)]; omega

theorem q0en (l : List Int) (hl : l.length <= 1000000000000) : Pure Try.prog 212 [ints l] (.b (incr l)) := by
  refine q0ag (by simp) ?_
  simp -implicitDefEqProofs only [eR', go_sem, q03i]
  refine SemC.loopR (σ := Nat) (fun i => St.of [(0, .t (ints l)), (3, .t (.i i))] []) (fun i => 1 <= i /\ ∀ j, j + 1 < i -> j + 1 < l.length -> l.getD j 0 < l.getD (j + 1) 0) (fun i => l.length - i) 1 (Weak.o _ [] [] ?_ trivial) ⟨by omega, fun j hj => by omega⟩ fun i hI R hn hr he => ?_
  . simp -implicitDefEqProofs only [ints, rows, wkR, Nat.reduceEqDiff, ↓reduceIte]
  . simp -implicitDefEqProofs only [eR', go_sem]
    refine ⟨fun h => ?_, fun h => he _ _ ?_⟩
    . have hil : i < l.length := by omega
      rw [q0oc hI.1 (by omega)]
      obtain ⟨x, hx⟩ : ∃ x, l[i - 1]? = some x := ⟨_, List.getElem?_eq_getElem (by omega)⟩
      obtain ⟨y, hy⟩ : ∃ y, l[i]? = some y := ⟨_, List.getElem?_eq_getElem (by omega)⟩
      simp -implicitDefEqProofs only [eR', go_sem, hx, hy, q0ve]
      refine ⟨by omega, by omega, by omega, by omega, by omega, by omega, fun h1 => hr _ ?_, fun h1 => hn _ (i + 1) (Weak.o _ [] [] ?_ trivial) ⟨by omega, fun j hj hjl => ?_⟩ (by omega)⟩
      . simp -implicitDefEqProofs only [eR', go_sem]
        have : incr l = false := by
          cases hc : incr l with
          | false => rfl
          | true =>
            have := q0fb.1 hc (i - 1) (by omega)
            rw [show i - 1 + 1 = i by omega, q0cr hx, q0cr hy] at this
            omega
        rw [this]
      . simp -implicitDefEqProofs only [ints, rows, wkR, Nat.reduceEqDiff, ↓reduceIte, q0lb hil hl]
      . by_cases hji : j + 1 = i
        . have e : j = i - 1 := by omega
          rw [hji, e, q0cr hx, q0cr hy]; omega
        . exact hI.2 j (by omega) hjl
    . simp -implicitDefEqProofs only [eR', go_sem]
      have : incr l = true := q0fb.2 fun j hj => hI.2 j (by omega) hj
      rw [this]

theorem q0s6 (l : List Int) (n : Nat) (hl : l.length <= 1000000000000) (hn0 : n <= 1000000000000) : Pure Try.prog 228 [ints l, .i n] (.b (rises n l)) := by
  have hw : IntKind.i64.wrap ((n : Int) - 1) = (n : Int) - 1 := wrap64 (by omega) (by omega)
  refine q0bm (by simp) ?_
  simp -implicitDefEqProofs only [eR', go_sem, q04o]
  refine SemC.loopR (σ := Nat) (fun i => St.of [(0, .t (ints l)), (1, .t (.i n)), (5, .t (.i i))] []) (fun i => i <= l.length /\ (∀ c ∈ l.take i, 0 <= c /\ c <= (n : Int) - 1) /\ ∀ j, j + 1 < i -> j + 1 < l.length -> l.getD j 0 < l.getD (j + 1) 0) (fun i => l.length - i) 0 (Weak.o _ [] [] ?_ trivial) ⟨by simp, by simp, fun j hj => by omega⟩ fun i hI R hn hr he => ?_
  . simp -implicitDefEqProofs only [ints, rows, wkR, Nat.reduceEqDiff, ↓reduceIte]
  . obtain ⟨hi, h2, h3⟩ := hI
    simp -implicitDefEqProofs only [eR', go_sem, hw]
    refine ⟨fun h => ?_, fun h => he _ _ ?_⟩
    . have hil : i < l.length := by omega
      obtain ⟨y, hy⟩ : ∃ y, l[i]? = some y := ⟨_, List.getElem?_eq_getElem hil⟩
      refine ⟨by omega, by omega, by omega, fun y' hy' => ?_⟩
      rw [hy] at hy'; cases hy'
      refine q004.pure (q0s4 y 0 ((n : Int) - 1)) [] rfl Try.call148 (fun e R' hR => ?_) (by first | trivial | simp [T.noSh, T.noShL, rat]) (fun _ => rfl) ?_
      . simp -implicitDefEqProofs only [aR', go_sem]
      simp -implicitDefEqProofs only [eR', go_sem]
      have next : 0 <= y /\ y <= (n : Int) - 1 -> ∀ c ∈ l.take (i + 1), 0 <= c /\ c <= (n : Int) - 1 := fun hy1 c hc => by
        rw [List.take_add_one, hy] at hc
        rcases List.mem_append.1 hc with hc | hc
        . exact h2 c hc
        . simp at hc; rw [hc]; exact hy1
      refine ⟨fun h1 => ⟨fun h4 => ?_, fun h4 => ?_⟩, fun h1 => hr _ ?_⟩
      . have h1 : 0 <= y /\ y <= (n : Int) - 1 := by simpa using h1
        have hi1 : 1 <= i := by omega
        obtain ⟨x, hx⟩ : ∃ x, l[i - 1]? = some x := ⟨_, List.getElem?_eq_getElem (by omega)⟩
        rw [q0oc hi1 (by omega)]
        simp -implicitDefEqProofs only [eR', go_sem, hx, hy, q0ve]
        refine ⟨by omega, by omega, by omega, by omega, by omega, by omega, fun h5 => hr _ ?_, fun h5 => hn _ (i + 1) (Weak.o _ [] [] ?_ trivial) ⟨by omega, next h1, fun j hj hjl => ?_⟩ (by omega)⟩
        . simp -implicitDefEqProofs only [eR', go_sem]
          have : rises n l = false := by
            cases hc : rises n l with
            | false => rfl
            | true =>
              rw [rises, Bool.and_eq_true] at hc
              have := q0fb.1 hc.2 (i - 1) (by omega)
              rw [show i - 1 + 1 = i by omega, q0cr hx, q0cr hy] at this
              omega
          rw [this]
        . simp -implicitDefEqProofs only [ints, rows, wkR, Nat.reduceEqDiff, ↓reduceIte, q0lb hil hl]
        . by_cases hji : j + 1 = i
          . have e : j = i - 1 := by omega
            rw [hji, e, q0cr hx, q0cr hy]; omega
          . exact h3 j (by omega) hjl
      . have h1 : 0 <= y /\ y <= (n : Int) - 1 := by simpa using h1
        refine hn _ (i + 1) (Weak.o _ [] [] ?_ trivial) ⟨by omega, next h1, fun j hj hjl => h3 j (by omega) hjl⟩ (by omega)
        simp -implicitDefEqProofs only [ints, rows, wkR, Nat.reduceEqDiff, ↓reduceIte, q0lb hil hl]
      . simp -implicitDefEqProofs only [eR', go_sem]
        have h1 : ¬ (0 <= y /\ y <= (n : Int) - 1) := by
          have h1 : y < 0 ∨ (n : Int) - 1 < y := by simpa using h1
          omega
        have : rises n l = false := by
          cases hc : rises n l with
          | false => rfl
          | true =>
            rw [rises, Bool.and_eq_true, List.all_eq_true] at hc
            have := hc.1 y (List.mem_of_getElem? hy)
            exact absurd (by simpa using this) h1
        rw [this]
    . simp -implicitDefEqProofs only [eR', go_sem]
      have : rises n l = true := by
        rw [rises, Bool.and_eq_true, List.all_eq_true]
        refine ⟨fun c hc => by have := h2 c (by rw [List.take_of_length_le (by omega)]; exact hc); simpa using this, q0fb.2 fun j hj => h3 j (by omega) hj⟩
      rw [this]

def depI (l : List Nd) (f : Nat) (cs : List Int) : Int := cs.foldl (fun d c => max d (dep l f c.toNat)) 0
theorem q07v (l : List Nd) (f : Nat) (cs : List Int) (c : Int) : depI l f (cs ++ [c]) = max (depI l f cs) (dep l f c.toNat) := by simp [depI, List.foldl_append]
theorem q07u (l : List Nd) (f : Nat) : ∀ cs : List Int, 0 <= depI l f cs /\ depI l f cs <= f := by
  intro cs
  have key : ∀ (cs : List Int) (d : Int), 0 <= d /\ d <= f -> 0 <= cs.foldl (fun d c => max d (dep l f c.toNat)) d /\ cs.foldl (fun d c => max d (dep l f c.toNat)) d <= f := by
    intro cs
    induction cs with
    | nil => intro d h; exact h
    | cons c cs ih =>
      intro d h
      rw [List.foldl_cons]
      have := q07x (l := l) f c.toNat
      exact ih _ (by omega)
  exact key cs 0 (by omega)
theorem q07z {l : List Nd} {f i : Nat} {x : Nd} (hx : l[i]? = some x) : dep l (f + 1) i = if x.p = 2 then 0 else depI l f x.ch + 1 := by
  have := q0l1 hx
  unfold nd0 at this
  rw [dep, this]; rfl

theorem q0ek {l : List Nd} (hl : q0l2 l) (hln : l.length <= 1000000) : ∀ (f i : Nat), l.length <= i + f -> i < l.length -> f <= 1000000 -> Pure Try.prog 164 [q0vz l, .i i] (.i (dep l f i)) := by
  intro f
  induction f with
  | zero => intro i h1 h2; omega
  | succ f ih =>
    intro i h1 h2 hf
    obtain ⟨x, hx⟩ : ∃ x, l[i]? = some x := ⟨_, List.getElem?_eq_getElem h2⟩
    rw [q07z hx]
    refine q0ad (by simp) ?_
    simp -implicitDefEqProofs only [eR', go_sem, q03f, q0vz, nodes, q0kw hx]
    refine ⟨by omega, by rw [q0l0]; omega, by rw [q0l0]; omega, ?_⟩
    refine ⟨fun h => ?_, fun h => ?_⟩
    . rw [if_pos (by simpa using h)]
    . have hp : x.p ≠ 2 := by simpa using h
      rw [if_neg hp]
      have hch := q0kp (hl i x hx)
      have hcl := (q0ks (hl i x hx)).2.2.2.2.2
      refine SemC.loopR (σ := Nat) (fun k => St.of [(2, .own 2), (6, .t (.i (depI l f (x.ch.take k)))), (18, .t (ints x.ch)), (19, .t (.i x.ch.length)), (20, .t (.i k))] [(2, .box [nodes l])]) (fun k => k <= x.ch.length) (fun k => x.ch.length - k) 0 (Weak.o _ _ [some 2] ?_ ?_) (by simp) fun k hk R hn hr he => ?_
      . simp -implicitDefEqProofs only [wR', Nat.reduceBEq, Nat.reduceEqDiff, ↓reduceIte, depI, List.take_zero, List.foldl_nil]
      . exact ⟨⟨_, rfl, .refl _⟩, rfl, trivial⟩
      . simp -implicitDefEqProofs only [eR', go_sem, nodes]
        refine ⟨fun h => ⟨by omega, by omega, by omega, fun c hc => ?_⟩, fun h => he _ _ ?_⟩
        . have hcb := hch c (List.mem_of_getElem? hc)
          have hpure := ih c.toNat (by omega) (by omega) (by omega)
          rw [show ((c.toNat : Nat) : Int) = c by omega] at hpure
          simp only [q0vz, nodes] at hpure
          refine q006.p hpure [] rfl Try.call164 ?_ ?_
          . simp -implicitDefEqProofs only [aR', go_sem]
          simp -implicitDefEqProofs only [eR', go_sem, q0vz, nodes]
          have e := q07v l f (x.ch.take k) c
          rw [← q0uj hc] at e
          refine hn _ (k + 1) (Weak.o _ _ [some 2] ?_ ?_) (by omega) (by omega)
          . simp -implicitDefEqProofs only [wR', Nat.reduceBEq, Nat.reduceEqDiff, ↓reduceIte, q0lb (by omega : k < x.ch.length) (by omega), e]
          . exact ⟨⟨_, rfl, .refl _⟩, rfl, trivial⟩
        . simp -implicitDefEqProofs only [eR', go_sem]
          have hb := q07u l f x.ch
          rw [show k = x.ch.length by omega, List.take_length, wrap64 (by omega) (by omega)]

theorem q0s8 {l : List Nd} (hl : q0l2 l) (hln : l.length <= 1000000) : ∀ (f i : Nat), l.length <= i + f -> i < l.length -> f <= 1000000 -> Pure Try.prog 158 [q0vz l, .i i] (.i (dep l f i)) := by
  intro f
  induction f with
  | zero => intro i h1 h2; omega
  | succ f ih =>
    intro i h1 h2 hf
    obtain ⟨x, hx⟩ : ∃ x, l[i]? = some x := ⟨_, List.getElem?_eq_getElem h2⟩
    rw [q07z hx]
    refine q0bo (by simp) ?_
    simp -implicitDefEqProofs only [eR', go_sem, q04q, q0vz, nodes, q0kw hx]
    refine ⟨by omega, by rw [q0l0]; omega, by rw [q0l0]; omega, ?_⟩
    refine ⟨fun h => ?_, fun h => ?_⟩
    . rw [if_pos (by simpa using h)]
    . have hp : x.p ≠ 2 := by simpa using h
      rw [if_neg hp]
      have hch := q0kp (hl i x hx)
      have hcl := (q0ks (hl i x hx)).2.2.2.2.2
      refine SemC.loopR (σ := Nat) (fun k => St.of [(2, .own 2), (5, .own 5), (6, .t (.i (depI l f (x.ch.take k)))), (7, .t (.i k))] [(2, .box [nodes l]), (5, .box [.i x.p, .i x.a, .i x.b, .i x.f, ints x.ch])]) (fun k => k <= x.ch.length) (fun k => x.ch.length - k) 0 (Weak.o _ _ [some 2, some 5] ?_ ?_) (by simp) fun k hk R hn hr he => ?_
      . simp -implicitDefEqProofs only [wR', Nat.reduceBEq, Nat.reduceEqDiff, ↓reduceIte, depI, List.take_zero, List.foldl_nil]
      . exact ⟨⟨_, rfl, .refl _⟩, rfl, ⟨_, rfl, .refl _⟩, rfl, trivial⟩
      . simp -implicitDefEqProofs only [eR', go_sem, nodes]
        refine ⟨fun h => ⟨by omega, by omega, by omega, fun c hc => ?_⟩, fun h => he _ _ ?_⟩
        . have hcb := hch c (List.mem_of_getElem? hc)
          have hpure := ih c.toNat (by omega) (by omega) (by omega)
          rw [show ((c.toNat : Nat) : Int) = c by omega] at hpure
          simp only [q0vz, nodes] at hpure
          refine q004.pure hpure [] rfl Try.call158 (fun e R' hR => ?_) (by first | trivial | simp [T.noSh, T.noShL, rat]) (fun _ => rfl) ?_
          . simp -implicitDefEqProofs only [aR', go_sem]
          simp -implicitDefEqProofs only [eR', go_sem, q0vz, nodes]
          have e := q07v l f (x.ch.take k) c
          rw [← q0uj hc] at e
          refine hn _ (k + 1) (Weak.o _ _ [some 2, some 5] ?_ ?_) (by omega) (by omega)
          . simp -implicitDefEqProofs only [wR', Nat.reduceBEq, Nat.reduceEqDiff, ↓reduceIte, q0lb (by omega : k < x.ch.length) (by omega), e]
          . exact ⟨⟨_, rfl, .refl _⟩, rfl, ⟨_, rfl, .refl _⟩, rfl, trivial⟩
        . simp -implicitDefEqProofs only [eR', go_sem]
          have hb := q07u l f x.ch
          rw [show k = x.ch.length by omega, List.take_length, wrap64 (by omega) (by omega)]
end Go.Ab
