/- The functions in compact form, printed by a program (CcDump.lean). -/
import Derived.Test.YtnnmgdngfofjlaaGreatDoorRows
import Derived.Test.YtnnmgdngfofjlaaGreatDoorQ3
set_option linter.unusedSimpArgs false
set_option linter.unusedVariables false
set_option maxRecDepth 20000
namespace Go.Ab
open Go.Proofs

@[go_sem] theorem q228 : q0w0 Tryz.prog 29 = some true := by kernel_rfl
@[go_sem] theorem q22b : q0wn Tryz.prog 29 = some 3 := by kernel_rfl
@[go_sem] theorem q229 : q0w0 Tryz.prog 31 = some true := by kernel_rfl
@[go_sem] theorem q22c : q0wn Tryz.prog 31 = some 2 := by kernel_rfl
@[go_sem] theorem q05l : q0w0 Tryz.prog 35 = some true := by kernel_rfl
@[go_sem] theorem q05q : q0wn Tryz.prog 35 = some 6 := by kernel_rfl
@[go_sem] theorem q227 : q0w0 Tryz.prog 26 = some true := by kernel_rfl
@[go_sem] theorem q22a : q0wn Tryz.prog 26 = some 1 := by kernel_rfl
theorem q0wk : q0wn Tryz.prog 0 = some 1 := by kernel_rfl

abbrev mv (a b : Nat) : CI := .o (.move a (sl b))
abbrev l1 (a b : Nat) : CI := .o (.load1 a (sl b))
abbrev ix (a b c : Nat) : CI := .o (.idx a 1 (sl b) (sl c))
abbrev fl (a b c : Nat) : CI := .o (.fld a b (sl c))
abbrev ln (a b c : Nat) : CI := .o (.loadN a b (sl c))
abbrev kr (c : CI) : DK × CI := (kR, c)
abbrev fW (n : Nat) (c : CC) (rs : List ResultVar) (rin : List T) (args : List A) (Q : List T -> T -> Prop) : Prop := cW Tryz.prog n c (retP Tryz.prog rs rin.length Q) (St.of (enum 0 args) (enum 1000000000 rin))
attribute [go_sem ↓] fW
theorem Weak.o {n : Nat} {S : St} (e : List (Nat × A)) (r : List (Nat × T)) (ss : List (Option Nat)) (he : q08f S (piOf r ss) e) (hr : q0py S r ss) (hd : (((r.map (·.1)).zip ss).filterMap (·.2)).Nodup := by simp) (hb : ∀ p ∈ (r.map (·.1)).zip ss, p.1 < 1000000000 ∨ p.2 = some p.1 := by simp) : Weak n S (St.of e r) := Weak.of e r ss hd hb he hr
theorem q006.p {P : Program} {n : Nat} {S : St} {d : Nat} {fo : Operand} {ao : List Operand} {K : St -> Prop} {f : FuncId} {cap : List A} {args : List T} {res : T} {x : A} (hF : Pure P f args res) (bor : List Nat) (hfo : fnA (S.ev fo) = some (f, cap)) (hcall : ∀ args w, (callFunc f args).run P w = .ok (.enter f args) w)
  (hargs : vaL S [] bor (args.map A.t) (ao.map S.ev ++ cap)) (hk : K { S with env := upd S.env d x }) (hns : res.noSh := by first | trivial | simp [T.noSh, T.noShL, rat]) (hx : absT d 0 res = (x, [], 0) := by rfl) : q006 P n (some d) fo ao K S := q006.pure hF bor hfo hcall hargs hns hx hk
def q21k : CC :=
 (.seq (.reg [.o (.move 2 (cb false))])
 ((.seq (.seq (.reg [mv 20 0,.o (.call (some 21) (cf 4) [(sl 20)])])
 ((.cond (sl 21) (.seq (.reg [.o (.move 2 (cb true))])
 (.ret))
 .skip)))
 ((.seq (.reg [mv 23 0,.o (.call (some 24) (cf 5) [(sl 23)]),mv 22 24,.o (.extract 25 (sl 22) 0),.o (.extract 26 (sl 22) 1),.o (.extract 27 (sl 22) 2),.o (.alloc 3 [.v (.slice none 0 0), .v (.slice none 0 0), .v (.slice none 0 0)]),.o (.alloc 4 [.v (.int .i64 0), .v (.slice none 0 0)]),.o (.alloc 5 [.v (.int .i64 0), .v (.slice none 0 0)]),.o (.store 3 (sl 3) (sl 25)),.o (.store 2 (sl 4) (sl 26)),.o (.store 2 (sl 5) (sl 27))])
 ((.seq (.reg [ln 29 3 3,ln 30 2 4,ln 31 2 5,.o (.call (some 32) (cf 6) [(sl 29), (sl 30), (sl 31)]),mv 28 32,.o (.extract 33 (sl 28) 0),.o (.extract 34 (sl 28) 1),.o (.alloc 6 [.v (.int .i64 0), .v (.slice none 0 0), .v (.int .i64 0), .v (.slice none 0 0), .v (.int .i64 0), .v (.int .i64 0)]),.o (.store 6 (sl 6) (sl 33)),mv 7 34])
 ((.seq (.reg [ln 36 3 3,ln 37 2 4,ln 38 2 5,.o (.call (some 39) (cf 7) [(sl 36), (sl 37), (sl 38)]),mv 35 39,.o (.extract 40 (sl 35) 0),.o (.extract 41 (sl 35) 1),.o (.alloc 8 [.v (.int .i64 0), .v (.slice none 0 0), .v (.int .i64 0), .v (.slice none 0 0), .v (.int .i64 0), .v (.int .i64 0)]),.o (.store 6 (sl 8) (sl 40)),mv 9 41])
 ((.seq (.reg [mv 43 0,.o (.call (some 44) (cf 8) [(sl 43)]),mv 42 44,.o (.extract 45 (sl 42) 0),.o (.extract 46 (sl 42) 1),.o (.alloc 10 [.v (.slice none 0 0), .v (.slice none 0 0), .v (.slice none 0 0)]),.o (.alloc 11 [.v (.int .i64 0), .v (.slice none 0 0), .v (.int .i64 0), .v (.slice none 0 0), .v (.int .i64 0), .v (.int .i64 0)]),.o (.store 3 (sl 10) (sl 45)),.o (.store 6 (sl 11) (sl 46))])
 ((.seq (.reg [ln 48 3 10,ln 49 6 11,.o (.call (some 50) (cf 9) [(sl 48), (sl 49)]),mv 47 50,.o (.extract 51 (sl 47) 0),.o (.extract 52 (sl 47) 1),mv 12 51,mv 13 52])
 ((.seq (.reg [ln 54 3 10,ln 55 6 11,.o (.call (some 56) (cf 10) [(sl 54), (sl 55)]),mv 53 56,.o (.extract 57 (sl 53) 0),.o (.extract 58 (sl 53) 1),mv 14 57,mv 15 58])
 ((.seq (.reg [mv 60 0,.o (.call (some 61) (cf 11) [(sl 60)]),mv 59 61,.o (.extract 62 (sl 59) 0),.o (.extract 63 (sl 59) 1),.o (.alloc 16 [.v (.slice none 0 0), .v (.slice none 0 0), .v (.slice none 0 0)]),.o (.alloc 17 [.v (.int .i64 0), .v (.slice none 0 0), .v (.int .i64 0), .v (.slice none 0 0), .v (.int .i64 0), .v (.int .i64 0)]),.o (.store 3 (sl 16) (sl 62)),.o (.store 6 (sl 17) (sl 63))])
 ((.seq (.seq (.draw [] [kr (mv 64 7),kr (mv 65 9),kr (.o (.bin 66 .neq (sl 64) (sl 65))),kr (mv 67 66),(kR, .g 67 false (some 68) (.loadN 68 6 (sl 6))),(kR, .g 67 false (some 69) (.loadN 69 6 (sl 8))),(kR, .g 67 false (some 70) (.call (some 70) (cf 12) [(sl 68), (sl 69)])),(kR, .g 67 false (some 71) (.un 71 .not (sl 70))),kr (.o (.pick 72 (sl 67) (cb true) (sl 71))),kr (mv 73 72),(kR, .g 73 false (some 74) (.move 74 (sl 13))),(kR, .g 73 false (some 75) (.move 75 (sl 15))),(kR, .g 73 false (some 76) (.bin 76 .neq (sl 74) (sl 75))),kr (.o (.pick 77 (sl 73) (cb true) (sl 76))),kr (mv 78 77),(kR, .g 78 false (some 79) (.move 79 (sl 12))),(kR, .g 78 false (some 80) (.move 80 (sl 14))),(kR, .g 78 false (some 81) (.bin 81 .neq (sl 79) (sl 80))),kr (.o (.pick 82 (sl 78) (cb true) (sl 81))),kr (mv 83 82),(kR, .g 83 false (some 84) (.loadN 84 3 (sl 16))),(kR, .g 83 false (some 85) (.loadN 85 6 (sl 17))),(kR, .g 83 false (some 86) (.call (some 86) (cf 13) [(sl 84), (sl 85)])),(kR, .g 83 false (some 87) (.loadN 87 3 (sl 16))),(kR, .g 83 false (some 88) (.loadN 88 6 (sl 17))),(kR, .g 83 false (some 89) (.call (some 89) (cf 14) [(sl 87), (sl 88)])),(kR, .g 83 false (some 90) (.beq 90 true (sl 86) (sl 89))),kr (.o (.pick 91 (sl 83) (cb true) (sl 90)))])
 ((.cond (sl 91) (.seq (.reg [.o (.move 2 (cb false))])
 (.ret))
 .skip)))
 ((.seq (.seq (.reg [mv 92 7,.o (.bin 93 .neq (sl 92) (ci 0))])
 ((.cond (sl 93) (.seq (.reg [.o (.move 2 (cb true))])
 (.ret))
 .skip)))
 ((.seq (.reg [fl 94 0 6,ln 95 2 94,fl 96 2 6,ln 97 2 96,fl 98 4 6,l1 99 98,.o (.bin 100 .add (sl 99) (ci 1)),fl 101 5 6,l1 102 101,.o (.build 103 [.v (.int .i64 0), .v (.slice none 0 0), .v (.int .i64 0), .v (.slice none 0 0), .v (.int .i64 0), .v (.int .i64 0)] [(0, 2), (2, 2), (4, 1), (5, 1)] [(0, (sl 95)), (1, (sl 97)), (2, (sl 100)), (3, (sl 102))]),.o (.alloc 18 [.v (.int .i64 0), .v (.slice none 0 0), .v (.int .i64 0), .v (.slice none 0 0), .v (.int .i64 0), .v (.int .i64 0)]),.o (.store 6 (sl 18) (sl 103))])
 ((.seq (.reg [fl 104 0 6,ln 105 2 104,fl 106 2 6,ln 107 2 106,fl 108 4 6,l1 109 108,fl 110 5 6,l1 111 110,.o (.bin 112 .sub (sl 111) (ci 1)),.o (.build 113 [.v (.int .i64 0), .v (.slice none 0 0), .v (.int .i64 0), .v (.slice none 0 0), .v (.int .i64 0), .v (.int .i64 0)] [(0, 2), (2, 2), (4, 1), (5, 1)] [(0, (sl 105)), (1, (sl 107)), (2, (sl 109)), (3, (sl 112))]),.o (.alloc 19 [.v (.int .i64 0), .v (.slice none 0 0), .v (.int .i64 0), .v (.slice none 0 0), .v (.int .i64 0), .v (.int .i64 0)]),.o (.store 6 (sl 19) (sl 113))])
 ((.seq (.reg [ln 114 3 3,ln 115 6 6,.o (.call (some 116) (cf 13) [(sl 114), (sl 115)]),mv 117 116,.g 117 true (some 118) (.loadN 118 3 (sl 3)),.g 117 true (some 119) (.loadN 119 6 (sl 18)),.g 117 true (some 120) (.call (some 120) (cf 13) [(sl 118), (sl 119)]),.g 117 true (some 121) (.un 121 .not (sl 120)),.o (.pick 122 (sl 117) (sl 121) (cb false)),mv 123 122,.g 123 true (some 124) (.loadN 124 3 (sl 3)),.g 123 true (some 125) (.loadN 125 6 (sl 19)),.g 123 true (some 126) (.call (some 126) (cf 13) [(sl 124), (sl 125)]),.g 123 true (some 127) (.un 127 .not (sl 126)),.o (.pick 128 (sl 123) (sl 127) (cb false)),mv 2 128])
 (.ret))))))))))))))))))))))))))))
theorem q22y {rin args Q} (ha : args.length <= 129) (h : fW 129 q21k [.tmp 2] rin args Q) : Fun Tryz.prog 3 rin args Q :=
 Fun.of (H := ⟨[], []⟩) Tryz.func3 rfl rfl rfl (by kernel_rfl) ha (by decide) h

def q0ya : CC :=
 (.seq (.reg [.o (.move 2 (cb false))])
 ((.seq (.reg [mv 3 0,.o (.lenS 4 (sl 3)),.o (.bin 5 .gtr (sl 4) (ci 4096)),mv 2 5])
 (.ret))))
theorem q0zf {rin args Q} (ha : args.length <= 6) (h : fW 6 q0ya [.tmp 2] rin args Q) : Fun Tryz.prog 4 rin args Q :=
 Fun.of (H := ⟨[], []⟩) Tryz.func4 rfl rfl rfl (by kernel_rfl) ha (by decide) h

def q21p : CC :=
 (.seq (.reg [.o (.alloc 2 [.v (.slice none 0 0), .v (.slice none 0 0), .v (.slice none 0 0)]),.o (.alloc 3 [.v (.int .i64 0), .v (.slice none 0 0)]),.o (.alloc 4 [.v (.int .i64 0), .v (.slice none 0 0)])])
 ((.seq (.reg [mv 5 0,.o (.call (some 6) (cf 16) [(sl 5)]),.o (.call (some 7) (cf 15) [(sl 6)]),.o (.extract 8 (sl 7) 0),.o (.extract 9 (sl 7) 1),.o (.extract 10 (sl 7) 2),.o (.store 3 (sl 2) (sl 8)),.o (.store 2 (sl 3) (sl 9)),.o (.store 2 (sl 4) (sl 10))])
 (.ret))))
theorem q233 {rin args Q} (ha : args.length <= 11) (h : fW 11 q21p [.cell 2 29, .cell 3 31, .cell 4 31] rin args Q) : Fun Tryz.prog 5 rin args Q :=
 Fun.of (H := ⟨[], []⟩) Tryz.func5 rfl rfl rfl (by kernel_rfl) ha (by decide) h

def q21c : CC :=
 (.seq (.reg [.o (.box 3 (sl 0)),.o (.box 4 (sl 1)),.o (.box 5 (sl 2)),.o (.alloc 6 [.v (.int .i64 0), .v (.slice none 0 0), .v (.int .i64 0), .v (.slice none 0 0), .v (.int .i64 0), .v (.int .i64 0)]),.o (.move 7 (ci 0))])
 ((.seq (.seq (.reg [ln 10 3 3,ln 11 2 4,ln 12 2 5,.o (.call (some 13) (cf 17) [(sl 10), (sl 11), (sl 12)]),.o (.un 14 .not (sl 13))])
 ((.cond (sl 14) (.seq (.reg [.o (.build 15 [.v (.int .i64 0), .v (.slice none 0 0), .v (.int .i64 0), .v (.slice none 0 0), .v (.int .i64 0), .v (.int .i64 0)] [(0, 2), (2, 2), (4, 1), (5, 1)] []),.o (.store 6 (sl 6) (sl 15)),.o (.move 7 (ci 1))])
 (.ret))
 .skip)))
 ((.seq (.reg [ln 17 3 3,ln 18 2 4,ln 19 2 5,.o (.call (some 20) (cf 18) [(sl 17), (sl 18), (sl 19)]),mv 16 20,.o (.extract 21 (sl 16) 0),.o (.extract 22 (sl 16) 1),mv 8 21,mv 9 22])
 ((.seq (.draw [24, 26] [kr (ln 23 2 4),(.c false [], .o (.call (some 24) (cf 19) [(sl 23)])),(.r false [24], ln 25 2 5),(.c false [], .o (.call (some 26) (cf 19) [(sl 25)])),(.r false [24, 26], mv 27 8),(.r false [24, 26], mv 28 9),kr (.o (.build 29 [.v (.int .i64 0), .v (.slice none 0 0), .v (.int .i64 0), .v (.slice none 0 0), .v (.int .i64 0), .v (.int .i64 0)] [(0, 2), (2, 2), (4, 1), (5, 1)] [(0, (sl 24)), (1, (sl 26)), (2, (sl 27)), (3, (sl 28))])),(kH, .o (.store 6 (sl 6) (sl 29))),kr (.o (.move 7 (ci 0)))])
 (.ret))))))))
theorem q22q {rin args Q} (ha : args.length <= 30) (h : fW 30 q21c [.cell 6 35, .tmp 7] rin args Q) : Fun Tryz.prog 6 rin args Q :=
 Fun.of (H := ⟨[], []⟩) Tryz.func6 rfl rfl rfl (by kernel_rfl) ha (by decide) h

def q21s : CC :=
 (.seq (.reg [.o (.box 3 (sl 0)),.o (.box 4 (sl 1)),.o (.box 5 (sl 2)),.o (.alloc 6 [.v (.int .i64 0), .v (.slice none 0 0), .v (.int .i64 0), .v (.slice none 0 0), .v (.int .i64 0), .v (.int .i64 0)]),.o (.move 7 (ci 0))])
 ((.seq (.reg [ln 13 3 3,ln 14 2 4,ln 15 2 5,.o (.call (some 16) (cf 20) [(sl 13), (sl 14), (sl 15)]),mv 12 16,.o (.extract 17 (sl 12) 0),.o (.extract 18 (sl 12) 1),.o (.extract 19 (sl 12) 2),.o (.extract 20 (sl 12) 3),mv 8 17,mv 9 18,mv 10 19,mv 11 20])
 ((.seq (.seq (.reg [mv 21 11,.o (.bin 22 .neq (sl 21) (ci 0))])
 ((.cond (sl 22) (.seq (.reg [.o (.build 23 [.v (.int .i64 0), .v (.slice none 0 0), .v (.int .i64 0), .v (.slice none 0 0), .v (.int .i64 0), .v (.int .i64 0)] [(0, 2), (2, 2), (4, 1), (5, 1)] []),mv 24 11,.o (.store 6 (sl 6) (sl 23)),mv 7 24])
 (.ret))
 .skip)))
 ((.seq (.draw [26, 28] [kr (ln 25 2 4),(.c false [], .o (.call (some 26) (cf 21) [(sl 25)])),(.r false [26], ln 27 2 5),(.c false [], .o (.call (some 28) (cf 21) [(sl 27)])),(.r false [26, 28], mv 29 8),(.r false [26, 28], mv 30 9),kr (.o (.build 31 [.v (.int .i64 0), .v (.slice none 0 0), .v (.int .i64 0), .v (.slice none 0 0), .v (.int .i64 0), .v (.int .i64 0)] [(0, 2), (2, 2), (4, 1), (5, 1)] [(0, (sl 26)), (1, (sl 28)), (2, (sl 29)), (3, (sl 30))])),(kH, .o (.store 6 (sl 6) (sl 31))),kr (.o (.move 7 (ci 0)))])
 (.ret))))))))
theorem q236 {rin args Q} (ha : args.length <= 32) (h : fW 32 q21s [.cell 6 35, .tmp 7] rin args Q) : Fun Tryz.prog 7 rin args Q :=
 Fun.of (H := ⟨[], []⟩) Tryz.func7 rfl rfl rfl (by kernel_rfl) ha (by decide) h

def q21n : CC :=
 (.seq (.reg [.o (.alloc 2 [.v (.slice none 0 0), .v (.slice none 0 0), .v (.slice none 0 0)]),.o (.alloc 3 [.v (.int .i64 0), .v (.slice none 0 0), .v (.int .i64 0), .v (.slice none 0 0), .v (.int .i64 0), .v (.int .i64 0)])])
 ((.seq (.reg [mv 4 0,.o (.call (some 5) (cf 16) [(sl 4)]),.o (.call (some 6) (cf 22) [(sl 5)]),.o (.extract 7 (sl 6) 0),.o (.extract 8 (sl 6) 1),.o (.store 3 (sl 2) (sl 7)),.o (.store 6 (sl 3) (sl 8))])
 (.ret))))
theorem q231 {rin args Q} (ha : args.length <= 9) (h : fW 9 q21n [.cell 2 29, .cell 3 35] rin args Q) : Fun Tryz.prog 8 rin args Q :=
 Fun.of (H := ⟨[], []⟩) Tryz.func8 rfl rfl rfl (by kernel_rfl) ha (by decide) h

def q21a : CC :=
 (.seq (.reg [.o (.box 2 (sl 0)),.o (.box 3 (sl 1)),.o (.move 4 (cv (.string ⟨#[]⟩))),.o (.move 5 (ci 0))])
 ((.seq (.seq (.reg [ln 10 3 2,.o (.call (some 11) (cf 23) [(sl 10)]),.o (.un 12 .not (sl 11))])
 ((.cond (sl 12) (.seq (.reg [.o (.move 4 (cv (.string ⟨#[]⟩))),.o (.move 5 (ci 1))])
 (.ret))
 .skip)))
 ((.seq (.seq (.reg [ln 13 3 2,ln 14 6 3,.o (.call (some 15) (cf 24) [(sl 13), (sl 14)]),.o (.un 16 .not (sl 15))])
 ((.cond (sl 16) (.seq (.reg [.o (.move 4 (cv (.string ⟨#[]⟩))),.o (.move 5 (ci 5))])
 (.ret))
 .skip)))
 ((.seq (.reg [ln 18 3 2,fl 19 0 3,ln 20 2 19,.o (.call (some 21) (cf 25) [(sl 18), (sl 20)]),mv 17 21,.o (.extract 22 (sl 17) 0),.o (.extract 23 (sl 17) 1),mv 6 22,mv 7 23])
 ((.seq (.reg [ln 25 3 2,fl 26 2 3,ln 27 2 26,.o (.call (some 28) (cf 25) [(sl 25), (sl 27)]),mv 24 28,.o (.extract 29 (sl 24) 0),.o (.extract 30 (sl 24) 1),mv 8 29,mv 9 30])
 ((.seq (.draw [40] [kr (mv 31 6),kr (mv 32 8),kr (.o (.bin 33 .add (sl 31) (sl 32))),kr (fl 34 4 3),kr (l1 35 34),kr (fl 36 5 3),kr (l1 37 36),kr (ln 38 3 2),kr (.o (.call (some 39) (cf 27) [(sl 38)])),(kN, .o (.bslice 40 1 3 [(0, (sl 35)), (1, (sl 37)), (2, (sl 39))])),kr (.o (.call (some 41) (cf 26) [(sl 40), (cv (.string ⟨#[32]⟩))])),kr (.o (.bin 42 .add (sl 33) (sl 41))),kr (.o (.bin 43 .add (sl 42) (cv (.string ⟨#[10]⟩)))),kr (mv 4 43),kr (.o (.move 5 (ci 0)))])
 (.ret))))))))))))
theorem q22o {rin args Q} (ha : args.length <= 44) (h : fW 44 q21a [.tmp 4, .tmp 5] rin args Q) : Fun Tryz.prog 9 rin args Q :=
 Fun.of (H := ⟨[], []⟩) Tryz.func9 rfl rfl rfl (by kernel_rfl) ha (by decide) h

def q21m : CC :=
 (.seq (.reg [.o (.box 2 (sl 0)),.o (.box 3 (sl 1)),.o (.move 4 (cv (.string ⟨#[]⟩))),.o (.move 5 (ci 0))])
 ((.seq (.reg [ln 11 3 2,ln 12 6 3,.o (.call (some 13) (cf 28) [(sl 11), (sl 12)]),mv 6 13])
 ((.seq (.seq (.reg [mv 14 6,.o (.bin 15 .neq (sl 14) (ci 0))])
 ((.cond (sl 15) (.seq (.reg [mv 16 6,.o (.move 4 (cv (.string ⟨#[]⟩))),mv 5 16])
 (.ret))
 .skip)))
 ((.seq (.reg [ln 18 3 2,fl 19 0 3,ln 20 2 19,.o (.call (some 21) (cf 29) [(sl 18), (sl 20)]),mv 17 21,.o (.extract 22 (sl 17) 0),.o (.extract 23 (sl 17) 1),mv 7 22,mv 8 23])
 ((.seq (.reg [ln 25 3 2,fl 26 2 3,ln 27 2 26,.o (.call (some 28) (cf 29) [(sl 25), (sl 27)]),mv 24 28,.o (.extract 29 (sl 24) 0),.o (.extract 30 (sl 24) 1),mv 9 29,mv 10 30])
 ((.seq (.draw [] [kr (mv 31 7),kr (mv 32 9),kr (.o (.bin 33 .add (sl 31) (sl 32))),kr (fl 34 4 3),kr (l1 35 34),kr (.o (.call (some 36) (cf 30) [(sl 35)])),kr (.o (.bin 37 .add (sl 33) (sl 36))),kr (.o (.bin 38 .add (sl 37) (cv (.string ⟨#[32]⟩)))),kr (fl 39 5 3),kr (l1 40 39),kr (.o (.call (some 41) (cf 30) [(sl 40)])),kr (.o (.bin 42 .add (sl 38) (sl 41))),kr (.o (.bin 43 .add (sl 42) (cv (.string ⟨#[32]⟩)))),kr (ln 44 3 2),kr (.o (.call (some 45) (cf 32) [(sl 44)])),kr (.o (.call (some 46) (cf 31) [(sl 45)])),kr (.o (.bin 47 .add (sl 43) (sl 46))),kr (.o (.bin 48 .add (sl 47) (cv (.string ⟨#[10]⟩)))),kr (mv 4 48),kr (.o (.move 5 (ci 0)))])
 (.ret))))))))))))
theorem q230 {rin args Q} (ha : args.length <= 49) (h : fW 49 q21m [.tmp 4, .tmp 5] rin args Q) : Fun Tryz.prog 10 rin args Q :=
 Fun.of (H := ⟨[], []⟩) Tryz.func10 rfl rfl rfl (by kernel_rfl) ha (by decide) h

def q21o : CC :=
 (.seq (.reg [.o (.alloc 2 [.v (.slice none 0 0), .v (.slice none 0 0), .v (.slice none 0 0)]),.o (.alloc 3 [.v (.int .i64 0), .v (.slice none 0 0), .v (.int .i64 0), .v (.slice none 0 0), .v (.int .i64 0), .v (.int .i64 0)])])
 ((.seq (.reg [mv 4 0,.o (.call (some 5) (cf 16) [(sl 4)]),.o (.call (some 6) (cf 22) [(sl 5)]),.o (.extract 7 (sl 6) 0),.o (.extract 8 (sl 6) 1),.o (.store 3 (sl 2) (sl 7)),.o (.store 6 (sl 3) (sl 8))])
 (.ret))))
theorem q232 {rin args Q} (ha : args.length <= 9) (h : fW 9 q21o [.cell 2 29, .cell 3 35] rin args Q) : Fun Tryz.prog 11 rin args Q :=
 Fun.of (H := ⟨[], []⟩) Tryz.func11 rfl rfl rfl (by kernel_rfl) ha (by decide) h

def q21l : CC :=
 (.seq (.reg [.o (.box 2 (sl 0)),.o (.box 3 (sl 1)),.o (.move 4 (cb false))])
 ((.seq (.reg [fl 5 0 2,ln 6 2 5,fl 7 0 3,ln 8 2 7,.o (.call (some 9) (cf 33) [(sl 6), (sl 8)]),mv 10 9,.g 10 true (some 11) (.fld 11 2 (sl 2)),.g 10 true (some 12) (.loadN 12 2 (sl 11)),.g 10 true (some 13) (.fld 13 2 (sl 3)),.g 10 true (some 14) (.loadN 14 2 (sl 13)),.g 10 true (some 15) (.call (some 15) (cf 33) [(sl 12), (sl 14)]),.o (.pick 16 (sl 10) (sl 15) (cb false)),mv 17 16,.g 17 true (some 18) (.fld 18 4 (sl 2)),.g 17 true (some 19) (.load1 19 (sl 18)),.g 17 true (some 20) (.fld 20 4 (sl 3)),.g 17 true (some 21) (.load1 21 (sl 20)),.g 17 true (some 22) (.bin 22 .eql (sl 19) (sl 21)),.o (.pick 23 (sl 17) (sl 22) (cb false)),mv 24 23,.g 24 true (some 25) (.fld 25 5 (sl 2)),.g 24 true (some 26) (.load1 26 (sl 25)),.g 24 true (some 27) (.fld 27 5 (sl 3)),.g 24 true (some 28) (.load1 28 (sl 27)),.g 24 true (some 29) (.bin 29 .eql (sl 26) (sl 28)),.o (.pick 30 (sl 24) (sl 29) (cb false)),mv 4 30])
 (.ret))))
theorem q22z {rin args Q} (ha : args.length <= 31) (h : fW 31 q21l [.tmp 4] rin args Q) : Fun Tryz.prog 12 rin args Q :=
 Fun.of (H := ⟨[], []⟩) Tryz.func12 rfl rfl rfl (by kernel_rfl) ha (by decide) h

def q21b : CC :=
 (.seq (.reg [.o (.box 2 (sl 0)),.o (.box 3 (sl 1)),.o (.move 4 (cb false))])
 ((.seq (.reg [ln 5 3 2,.o (.call (some 6) (cf 23) [(sl 5)]),mv 7 6,.g 7 true (some 8) (.loadN 8 3 (sl 2)),.g 7 true (some 9) (.loadN 9 6 (sl 3)),.g 7 true (some 10) (.call (some 10) (cf 24) [(sl 8), (sl 9)]),.o (.pick 11 (sl 7) (sl 10) (cb false)),mv 4 11])
 (.ret))))
theorem q22p {rin args Q} (ha : args.length <= 12) (h : fW 12 q21b [.tmp 4] rin args Q) : Fun Tryz.prog 13 rin args Q :=
 Fun.of (H := ⟨[], []⟩) Tryz.func13 rfl rfl rfl (by kernel_rfl) ha (by decide) h

def q21q : CC :=
 (.seq (.reg [.o (.box 2 (sl 0)),.o (.box 3 (sl 1)),.o (.move 4 (cb false))])
 ((.seq (.reg [ln 10 3 2,fl 11 0 3,ln 12 2 11,fl 13 2 3,ln 14 2 13,.o (.call (some 15) (cf 20) [(sl 10), (sl 12), (sl 14)]),mv 9 15,.o (.extract 16 (sl 9) 0),.o (.extract 17 (sl 9) 1),.o (.extract 18 (sl 9) 2),.o (.extract 19 (sl 9) 3),mv 5 16,mv 6 17,mv 7 18,mv 8 19])
 ((.seq (.reg [mv 20 8,.o (.bin 21 .eql (sl 20) (ci 0)),mv 22 21,.g 22 true (some 23) (.fld 23 4 (sl 3)),.g 22 true (some 24) (.load1 24 (sl 23)),.g 22 true (some 25) (.bin 25 .geq (sl 24) (ci (-1000000000000000))),.o (.pick 26 (sl 22) (sl 25) (cb false)),mv 27 26,.g 27 true (some 28) (.fld 28 4 (sl 3)),.g 27 true (some 29) (.load1 29 (sl 28)),.g 27 true (some 30) (.move 30 (sl 5)),.g 27 true (some 31) (.bin 31 .leq (sl 29) (sl 30)),.o (.pick 32 (sl 27) (sl 31) (cb false)),mv 33 32,.g 33 true (some 34) (.fld 34 5 (sl 3)),.g 33 true (some 35) (.load1 35 (sl 34)),.g 33 true (some 36) (.move 36 (sl 6)),.g 33 true (some 37) (.bin 37 .geq (sl 35) (sl 36)),.o (.pick 38 (sl 33) (sl 37) (cb false)),mv 39 38,.g 39 true (some 40) (.fld 40 5 (sl 3)),.g 39 true (some 41) (.load1 41 (sl 40)),.g 39 true (some 42) (.bin 42 .leq (sl 41) (ci 1000000000000000)),.o (.pick 43 (sl 39) (sl 42) (cb false)),mv 4 43])
 (.ret))))))
theorem q234 {rin args Q} (ha : args.length <= 44) (h : fW 44 q21q [.tmp 4] rin args Q) : Fun Tryz.prog 14 rin args Q :=
 Fun.of (H := ⟨[], []⟩) Tryz.func14 rfl rfl rfl (by kernel_rfl) ha (by decide) h

def q221 : CC :=
 (.seq (.reg [.o (.alloc 2 [.v (.slice none 0 0), .v (.slice none 0 0), .v (.slice none 0 0)]),.o (.alloc 3 [.v (.int .i64 0), .v (.slice none 0 0)]),.o (.alloc 4 [.v (.int .i64 0), .v (.slice none 0 0)])])
 ((.seq (.reg [mv 9 0,.o (.call (some 10) (cf 34) [(sl 9), (ci 0)]),mv 8 10,.o (.extract 11 (sl 8) 0),.o (.extract 12 (sl 8) 1),.o (.alloc 5 [.v (.slice none 0 0), .v (.slice none 0 0), .v (.slice none 0 0)]),.o (.alloc 6 [.v (.int .i64 0), .v (.slice none 0 0)]),.o (.store 3 (sl 5) (sl 11)),.o (.store 2 (sl 6) (sl 12))])
 ((.seq (.seq (.reg [ln 13 3 5,.o (.call (some 14) (cf 35) [(sl 13)]),.o (.un 15 .not (sl 14))])
 ((.cond (sl 15) (.seq (.weak (.draw [] [kr (ln 16 3 5),(.r false [2], ln 17 2 6),(.r false [2, 3], .o (.build 18 [.v (.int .i64 0), .v (.slice none 0 0)] [(0, 1), (1, 1)] [(0, (ci 1))])),(.h (some [2]) [], .o (.store 3 (sl 2) (sl 16))),(.h (some [3]) [], .o (.store 2 (sl 3) (sl 17))),(kH, .o (.store 2 (sl 4) (sl 18)))]))
 (.ret))
 .skip)))
 ((.seq (.reg [mv 19 0,ln 20 3 5,.o (.call (some 21) (cf 36) [(sl 19), (sl 20), (ci 1)]),.o (.alloc 7 [.v (.int .i64 0), .v (.slice none 0 0)]),.o (.store 2 (sl 7) (sl 21))])
 ((.seq (.seq (.reg [mv 22 0,.o (.call (some 23) (cf 37) [(sl 22), (ci 6)]),.o (.bin 24 .eql (sl 23) (ci 0))])
 ((.cond (sl 24) (.reg [ln 25 3 5,.o (.call (some 26) (cf 38) [(sl 25), (ci 1)]),.o (.store 2 (sl 7) (sl 26))])
 .skip)))
 ((.seq (.seq (.reg [mv 27 0,.o (.call (some 28) (cf 37) [(sl 27), (ci 20)]),.o (.bin 29 .eql (sl 28) (ci 0))])
 ((.cond (sl 29) (.reg [fl 30 0 7,.o (.store 1 (sl 30) (ci 0))])
 .skip)))
 ((.seq (.weak (.draw [] [kr (ln 31 3 5),(.r false [2], ln 32 2 6),(.r false [2, 3], ln 33 2 7),(.h (some [2]) [], .o (.store 3 (sl 2) (sl 31))),(.h (some [3]) [], .o (.store 2 (sl 3) (sl 32))),(kH, .o (.store 2 (sl 4) (sl 33)))]))
 (.ret))))))))))))))
theorem q23f {rin args Q} (ha : args.length <= 34) (h : fW 34 q221 [.cell 2 29, .cell 3 31, .cell 4 31] rin args Q) : Fun Tryz.prog 15 rin args Q :=
 Fun.of (H := ⟨[(3, 1, .r false [2]), (3, 2, .r false [2, 3]), (3, 3, .h (some [2]) []), (3, 4, .h (some [3]) []), (9, 1, .r false [2]), (9, 2, .r false [2, 3]), (9, 3, .h (some [2]) []), (9, 4, .h (some [3]) [])], [3, 9]⟩) Tryz.func15 rfl rfl rfl (by kernel_rfl) ha (by decide) h

def q0yh : CC :=
 (.seq (.reg [.o (.move 2 (cv (.pointer none)))])
 ((.seq (.reg [mv 5 0,.o (.build 6 [.v (.slice none 0 0), .v (.int .i64 0), .v (.int .i64 0)] [(0, 1), (1, 1), (2, 1)] [(0, (sl 5)), (2, (ci 45007))]),.o (.box 7 (sl 6)),mv 3 7])
 ((.seq (.seq (.reg [.o (.move 4 (ci 0))])
 ((.block 0 (.loop (.seq (.seq (.reg [mv 8 4,mv 9 0,.o (.lenS 10 (sl 9)),.o (.bin 11 .lss (sl 8) (sl 10)),mv 12 11,.g 12 true (some 13) (.move 13 (sl 4)),.g 12 true (some 14) (.bin 14 .lss (sl 13) (ci 64)),.o (.pick 15 (sl 12) (sl 14) (cb false))])
 ((.cond (sl 15) .skip
 (.exit 0))))
 ((.seq (.block 1 (.draw [] [kr (mv 18 3),kr (mv 19 3),kr (.o (.nilc 20 (sl 19))),kr (fl 21 2 20),kr (l1 22 21),kr (.o (.bin 23 .mul (sl 22) (ci 61))),kr (mv 24 0),kr (mv 25 4),kr (ix 26 24 25),kr (l1 27 26),kr (.o (.conv 28 .i64 (sl 27))),kr (.o (.bin 29 .add (sl 23) (sl 28))),kr (.o (.bin 30 .rem (sl 29) (ci 2147483647))),kr (.o (.nilc 31 (sl 18))),kr (fl 32 2 31),(kH, .o (.store 1 (sl 32) (sl 30)))]))
 ((.reg [mv 16 4,.o (.bin 17 .add (sl 16) (ci 1)),mv 4 17])))))))))
 ((.seq (.reg [mv 33 3,mv 2 33])
 (.ret))))))))
theorem q0zm {rin args Q} (ha : args.length <= 34) (h : fW 34 q0yh [.tmp 2] rin args Q) : Fun Tryz.prog 16 rin args Q :=
 Fun.of (H := ⟨[], []⟩) Tryz.func16 rfl rfl rfl (by kernel_rfl) ha (by decide) h

def q21e : CC :=
 (.seq (.reg [.o (.box 3 (sl 0)),.o (.box 4 (sl 1)),.o (.box 5 (sl 2)),.o (.move 6 (cb false))])
 ((.seq (.reg [ln 7 3 3,.o (.call (some 8) (cf 23) [(sl 7)]),mv 9 8,.g 9 true (some 10) (.fld 10 0 (sl 4)),.g 9 true (some 11) (.load1 11 (sl 10)),.g 9 true (some 12) (.bin 12 .eql (sl 11) (ci 0)),.o (.pick 13 (sl 9) (sl 12) (cb false)),mv 14 13,.g 14 true (some 15) (.fld 15 0 (sl 5)),.g 14 true (some 16) (.load1 16 (sl 15)),.g 14 true (some 17) (.bin 17 .eql (sl 16) (ci 1)),.o (.pick 18 (sl 14) (sl 17) (cb false)),mv 19 18,.g 19 true (some 20) (.loadN 20 3 (sl 3)),.g 19 true (some 21) (.loadN 21 2 (sl 4)),.g 19 true (some 22) (.call (some 22) (cf 39) [(sl 20), (sl 21)]),.o (.pick 23 (sl 19) (sl 22) (cb false)),mv 24 23,.g 24 true (some 25) (.loadN 25 3 (sl 3)),.g 24 true (some 26) (.loadN 26 2 (sl 5)),.g 24 true (some 27) (.call (some 27) (cf 39) [(sl 25), (sl 26)]),.o (.pick 28 (sl 24) (sl 27) (cb false)),mv 6 28])
 (.ret))))
theorem q22s {rin args Q} (ha : args.length <= 29) (h : fW 29 q21e [.tmp 6] rin args Q) : Fun Tryz.prog 17 rin args Q :=
 Fun.of (H := ⟨[], []⟩) Tryz.func17 rfl rfl rfl (by kernel_rfl) ha (by decide) h

def q03u : CC :=
 (.seq (.reg [.o (.box 3 (sl 0)),.o (.box 4 (sl 1)),.o (.box 5 (sl 2)),.o (.move 6 (ci 0)),.o (.move 7 (ci 0))])
 ((.seq (.reg [ln 13 3 3,ln 14 2 4,.o (.call (some 15) (cf 40) [(sl 13), (sl 14)]),mv 12 15,.o (.extract 16 (sl 12) 0),.o (.extract 17 (sl 12) 1),.o (.alloc 9 [.v (.int .i64 0), .v (.slice none 0 0)]),mv 8 16,.o (.store 2 (sl 9) (sl 17))])
 ((.seq (.reg [ln 19 3 3,ln 20 2 5,.o (.call (some 21) (cf 40) [(sl 19), (sl 20)]),mv 18 21,.o (.extract 22 (sl 18) 0),.o (.extract 23 (sl 18) 1),.o (.alloc 11 [.v (.int .i64 0), .v (.slice none 0 0)]),mv 10 22,.o (.store 2 (sl 11) (sl 23))])
 ((.seq (.reg [mv 24 8,.o (.un 25 .neg (sl 24)),mv 26 10,mv 6 25,mv 7 26])
 (.ret))))))))
theorem q0as {rin args Q} (ha : args.length <= 27) (h : fW 27 q03u [.tmp 6, .tmp 7] rin args Q) : Fun Tryz.prog 18 rin args Q :=
 Fun.of (H := ⟨[], []⟩) Tryz.func18 rfl rfl rfl (by kernel_rfl) ha (by decide) h

def q21f : CC :=
 (.seq (.reg [.o (.box 1 (sl 0)),.o (.alloc 2 [.v (.int .i64 0), .v (.slice none 0 0)])])
 ((.seq (.reg [fl 6 0 1,l1 7 6,.o (.build 8 [.v (.int .i64 0), .v (.slice none 0 0)] [(0, 1), (1, 1)] [(0, (sl 7))]),.o (.alloc 3 [.v (.int .i64 0), .v (.slice none 0 0)]),.o (.store 2 (sl 3) (sl 8))])
 ((.seq (.seq (.reg [fl 9 1 1,l1 10 9,.o (.lenS 11 (sl 10)),.o (.move 12 (ci 0))])
 ((.block 0 (.loop (.seq (.reg [.o (.bin 13 .lss (sl 12) (sl 11))])
 ((.seq (.cond (sl 13) .skip
 (.exit 0))
 ((.seq (.block 1 (.seq (.reg [ix 14 10 12,l1 15 14,mv 5 15])
 ((.weak (.draw [19] [(.r false [19, 20], fl 16 1 3),(.r false [19, 20], l1 17 16),(.r false [20], mv 18 5),(.c false [], .o (.call (some 19) (cf 41) [(sl 18)])),(.h (some [19]) [], .o (.bslice 20 1 1 [(0, (sl 19))])),(kH, .o (.app 21 1 24 (sl 17) (sl 20))),kr (fl 22 1 3),(kH, .o (.store 1 (sl 22) (sl 21)))])))))
 ((.reg [.o (.bin 23 .add (sl 12) (ci 1)),mv 12 23])))))))))))
 ((.seq (.reg [ln 24 2 3,.o (.store 2 (sl 2) (sl 24))])
 (.ret))))))))
theorem q22t {rin args Q} (ha : args.length <= 25) (h : fW 25 q21f [.cell 2 31] rin args Q) : Fun Tryz.prog 19 rin args Q :=
 Fun.of (H := ⟨[], []⟩) Tryz.func19 rfl rfl rfl (by kernel_rfl) ha (by decide) h

def q21u : CC :=
 (.seq (.reg [.o (.box 3 (sl 0)),.o (.box 4 (sl 1)),.o (.box 5 (sl 2)),.o (.move 6 (ci 0)),.o (.move 7 (ci 0)),.o (.move 8 (ci 0)),.o (.move 9 (ci 0))])
 ((.seq (.seq (.reg [ln 12 3 3,ln 13 2 4,ln 14 2 5,.o (.call (some 15) (cf 42) [(sl 12), (sl 13), (sl 14)]),.o (.un 16 .not (sl 15))])
 ((.cond (sl 16) (.seq (.reg [.o (.move 6 (ci 0)),.o (.move 7 (ci 0)),.o (.move 8 (ci 0)),.o (.move 9 (ci 1))])
 (.ret))
 .skip)))
 ((.seq (.reg [ln 18 3 3,ln 19 2 4,ln 20 2 5,.o (.call (some 21) (cf 43) [(sl 18), (sl 19), (sl 20)]),mv 17 21,.o (.extract 22 (sl 17) 0),.o (.extract 23 (sl 17) 1),mv 10 22,mv 11 23])
 ((.seq (.reg [mv 24 11,.o (.un 25 .neg (sl 24)),mv 26 10,ln 27 3 3,.o (.call (some 28) (cf 32) [(sl 27)]),mv 6 25,mv 7 26,mv 8 28,.o (.move 9 (ci 0))])
 (.ret))))))))
theorem q238 {rin args Q} (ha : args.length <= 29) (h : fW 29 q21u [.tmp 6, .tmp 7, .tmp 8, .tmp 9] rin args Q) : Fun Tryz.prog 20 rin args Q :=
 Fun.of (H := ⟨[], []⟩) Tryz.func20 rfl rfl rfl (by kernel_rfl) ha (by decide) h

def q224 : CC :=
 (.seq (.reg [.o (.box 1 (sl 0)),.o (.alloc 2 [.v (.int .i64 0), .v (.slice none 0 0)])])
 ((.seq (.reg [.o (.bslice 5 1 0 []),mv 3 5])
 ((.seq (.seq (.reg [.o (.move 4 (ci 0))])
 ((.block 0 (.loop (.seq (.seq (.reg [mv 6 4,fl 7 1 1,l1 8 7,.o (.lenS 9 (sl 8)),.o (.bin 10 .lss (sl 6) (sl 9))])
 ((.cond (sl 10) .skip
 (.exit 0))))
 ((.seq (.block 1 (.reg [mv 13 3,fl 14 1 1,l1 15 14,mv 16 4,ix 17 15 16,l1 18 17,.o (.call (some 19) (cf 44) [(sl 18)]),.o (.bslice 20 1 1 [(0, (sl 19))]),.o (.app 21 1 24 (sl 13) (sl 20)),mv 3 21]))
 ((.reg [mv 11 4,.o (.bin 12 .add (sl 11) (ci 1)),mv 4 12])))))))))
 ((.seq (.reg [fl 22 0 1,l1 23 22,mv 24 3,.o (.build 25 [.v (.int .i64 0), .v (.slice none 0 0)] [(0, 1), (1, 1)] [(0, (sl 23)), (1, (sl 24))]),.o (.store 2 (sl 2) (sl 25))])
 (.ret))))))))
theorem q23i {rin args Q} (ha : args.length <= 26) (h : fW 26 q224 [.cell 2 31] rin args Q) : Fun Tryz.prog 21 rin args Q :=
 Fun.of (H := ⟨[], []⟩) Tryz.func21 rfl rfl rfl (by kernel_rfl) ha (by decide) h

def q03b : CC :=
 (.seq (.reg [.o (.box 1 (sl 0)),.o (.move 2 (cb false))])
 ((.seq (.reg [fl 5 1 1,l1 6 5,.o (.lenS 7 (sl 6)),mv 3 7])
 ((.seq (.seq (.reg [fl 8 0 1,ln 9 1 8,.o (.call (some 10) (cf 46) [(sl 9)]),.o (.un 11 .not (sl 10)),mv 12 11,.g 12 false (some 13) (.move 13 (sl 3)),.g 12 false (some 14) (.call (some 14) (cf 47) [(sl 13), (ci 1), (ci 6)]),.g 12 false (some 15) (.un 15 .not (sl 14)),.o (.pick 16 (sl 12) (cb true) (sl 15)),mv 17 16,.g 17 false (some 18) (.fld 18 2 (sl 1)),.g 17 false (some 19) (.load1 19 (sl 18)),.g 17 false (some 20) (.lenS 20 (sl 19)),.g 17 false (some 21) (.move 21 (sl 3)),.g 17 false (some 22) (.bin 22 .neq (sl 20) (sl 21)),.o (.pick 23 (sl 17) (cb true) (sl 22))])
 ((.cond (sl 23) (.seq (.reg [.o (.move 2 (cb false))])
 (.ret))
 .skip)))
 ((.seq (.seq (.reg [mv 24 3,.o (.move 25 (ci 0))])
 ((.block 0 (.loop (.seq (.reg [.o (.bin 26 .lss (sl 25) (sl 24))])
 ((.seq (.cond (sl 26) .skip
 (.exit 0))
 ((.seq (.block 1 (.seq (.reg [mv 27 25,mv 4 27])
 ((.seq (.reg [fl 28 1 1,l1 29 28,mv 30 4,ix 31 29 30,l1 32 31,.o (.lenS 33 (sl 32)),mv 34 3,.o (.bin 35 .neq (sl 33) (sl 34)),mv 36 35,.g 36 false (some 37) (.fld 37 2 (sl 1)),.g 36 false (some 38) (.load1 38 (sl 37)),.g 36 false (some 39) (.move 39 (sl 4)),.g 36 false (some 40) (.idx 40 1 (sl 38) (sl 39)),.g 36 false (some 41) (.load1 41 (sl 40)),.g 36 false (some 42) (.lenS 42 (sl 41)),.g 36 false (some 43) (.move 43 (sl 3)),.g 36 false (some 44) (.bin 44 .neq (sl 42) (sl 43)),.o (.pick 45 (sl 36) (cb true) (sl 44)),mv 46 45,.g 46 false (some 47) (.fld 47 1 (sl 1)),.g 46 false (some 48) (.load1 48 (sl 47)),.g 46 false (some 49) (.move 49 (sl 4)),.g 46 false (some 50) (.idx 50 1 (sl 48) (sl 49)),.g 46 false (some 51) (.load1 51 (sl 50)),.g 46 false (some 52) (.call (some 52) (cf 48) [(sl 51), (ci 0), (ci 9)]),.g 46 false (some 53) (.un 53 .not (sl 52)),.o (.pick 54 (sl 46) (cb true) (sl 53)),mv 55 54,.g 55 false (some 56) (.fld 56 2 (sl 1)),.g 55 false (some 57) (.load1 57 (sl 56)),.g 55 false (some 58) (.move 58 (sl 4)),.g 55 false (some 59) (.idx 59 1 (sl 57) (sl 58)),.g 55 false (some 60) (.load1 60 (sl 59)),.g 55 false (some 61) (.call (some 61) (cf 48) [(sl 60), (ci (-1)), (ci 1)]),.g 55 false (some 62) (.un 62 .not (sl 61)),.o (.pick 63 (sl 55) (cb true) (sl 62))])
 ((.cond (sl 63) (.seq (.reg [.o (.move 2 (cb false))])
 (.ret))
 .skip))))))
 ((.reg [.o (.bin 64 .add (sl 25) (ci 1)),mv 25 64])))))))))))
 ((.seq (.reg [ln 65 3 1,.o (.call (some 66) (cf 49) [(sl 65)]),.o (.bin 67 .gtr (sl 66) (ci 0)),mv 2 67])
 (.ret))))))))))
theorem q0a9 {rin args Q} (ha : args.length <= 68) (h : fW 68 q03b [.tmp 2] rin args Q) : Fun Tryz.prog 23 rin args Q :=
 Fun.of (H := ⟨[], []⟩) Tryz.func23 rfl rfl rfl (by kernel_rfl) ha (by decide) h

def q21h : CC :=
 (.seq (.reg [.o (.box 2 (sl 0)),.o (.box 3 (sl 1)),.o (.move 4 (cb false))])
 ((.seq (.seq (.reg [ln 7 3 2,fl 8 0 3,ln 9 2 8,fl 10 2 3,ln 11 2 10,.o (.call (some 12) (cf 17) [(sl 7), (sl 9), (sl 11)]),.o (.un 13 .not (sl 12)),mv 14 13,.g 14 false (some 15) (.fld 15 4 (sl 3)),.g 14 false (some 16) (.load1 16 (sl 15)),.g 14 false (some 17) (.call (some 17) (cf 47) [(sl 16), (ci (-1000000000000000)), (ci 1000000000000000)]),.g 14 false (some 18) (.un 18 .not (sl 17)),.o (.pick 19 (sl 14) (cb true) (sl 18)),mv 20 19,.g 20 false (some 21) (.fld 21 5 (sl 3)),.g 20 false (some 22) (.load1 22 (sl 21)),.g 20 false (some 23) (.call (some 23) (cf 47) [(sl 22), (ci (-1000000000000000)), (ci 1000000000000000)]),.g 20 false (some 24) (.un 24 .not (sl 23)),.o (.pick 25 (sl 20) (cb true) (sl 24))])
 ((.cond (sl 25) (.seq (.reg [.o (.move 4 (cb false))])
 (.ret))
 .skip)))
 ((.seq (.reg [ln 27 3 2,fl 28 0 3,ln 29 2 28,fl 30 2 3,ln 31 2 30,.o (.call (some 32) (cf 18) [(sl 27), (sl 29), (sl 31)]),mv 26 32,.o (.extract 33 (sl 26) 0),.o (.extract 34 (sl 26) 1),mv 5 33,mv 6 34])
 ((.seq (.reg [fl 35 4 3,l1 36 35,mv 37 5,.o (.bin 38 .leq (sl 36) (sl 37)),mv 39 38,.g 39 true (some 40) (.fld 40 5 (sl 3)),.g 39 true (some 41) (.load1 41 (sl 40)),.g 39 true (some 42) (.move 42 (sl 6)),.g 39 true (some 43) (.bin 43 .geq (sl 41) (sl 42)),.o (.pick 44 (sl 39) (sl 43) (cb false)),mv 4 44])
 (.ret))))))))
theorem q22v {rin args Q} (ha : args.length <= 45) (h : fW 45 q21h [.tmp 4] rin args Q) : Fun Tryz.prog 24 rin args Q :=
 Fun.of (H := ⟨[], []⟩) Tryz.func24 rfl rfl rfl (by kernel_rfl) ha (by decide) h

def q21i : CC :=
 (.seq (.reg [.o (.move 4 (cv (.string ⟨#[]⟩)))])
 ((.seq (.reg [mv 8 0,.o (.lenS 9 (sl 8)),.o (.make 10 [.v (.string ⟨#[]⟩)] 16 (sl 9) (sl 9)),mv 5 10])
 ((.seq (.seq (.reg [mv 11 0,.o (.lenS 12 (sl 11)),.o (.move 13 (ci 0))])
 ((.block 0 (.loop (.seq (.reg [.o (.bin 14 .lss (sl 13) (sl 12))])
 ((.seq (.cond (sl 14) .skip
 (.exit 0))
 ((.seq (.block 1 (.seq (.reg [mv 15 13,ix 16 11 13,l1 17 16,mv 6 15,mv 7 17])
 ((.reg [mv 18 5,mv 19 6,mv 20 7,.o (.call (some 21) (cf 54) [(sl 20)]),ix 22 18 19,.o (.store 1 (sl 22) (sl 21))]))))
 ((.reg [.o (.bin 23 .add (sl 13) (ci 1)),mv 13 23])))))))))))
 ((.seq (.reg [mv 24 5,mv 25 1,.o (.call (some 26) (cf 55) [(sl 24), (sl 25)]),mv 4 26])
 (.ret))))))))
theorem q22w {rin args Q} (ha : args.length <= 27) (h : fW 27 q21i [.tmp 4] rin args Q) : Fun Tryz.prog 26 rin args Q :=
 Fun.of (H := ⟨[], []⟩) Tryz.func26 rfl rfl rfl (by kernel_rfl) ha (by decide) h

def q21j : CC :=
 (.seq (.reg [.o (.box 1 (sl 0)),.o (.move 2 (ci 0))])
 ((.seq (.draw [] [kr (ln 3 3 1),kr (.o (.call (some 4) (cf 49) [(sl 3)])),kr (fl 5 0 1),kr (ln 6 1 5),kr (.o (.call (some 7) (cf 57) [(sl 6), (ci 0)])),kr (.o (.call (some 8) (cf 56) [(ci 60), (sl 7)])),kr (.o (.bin 9 .mul (sl 4) (sl 8))),kr (mv 2 9)])
 (.ret))))
theorem q22x {rin args Q} (ha : args.length <= 10) (h : fW 10 q21j [.tmp 2] rin args Q) : Fun Tryz.prog 27 rin args Q :=
 Fun.of (H := ⟨[], []⟩) Tryz.func27 rfl rfl rfl (by kernel_rfl) ha (by decide) h

def q225 : CC :=
 (.seq (.reg [.o (.box 2 (sl 0)),.o (.box 3 (sl 1)),.o (.move 4 (ci 0))])
 ((.seq (.seq (.reg [ln 5 3 2,.o (.call (some 6) (cf 35) [(sl 5)]),.o (.un 7 .not (sl 6))])
 ((.cond (sl 7) (.seq (.reg [.o (.move 4 (ci 1))])
 (.ret))
 .skip)))
 ((.seq (.seq (.reg [ln 8 3 2,ln 9 6 3,.o (.call (some 10) (cf 14) [(sl 8), (sl 9)]),.o (.un 11 .not (sl 10))])
 ((.cond (sl 11) (.seq (.reg [.o (.move 4 (ci 5))])
 (.ret))
 .skip)))
 ((.seq (.reg [.o (.move 4 (ci 0))])
 (.ret))))))))
theorem q23j {rin args Q} (ha : args.length <= 12) (h : fW 12 q225 [.tmp 4] rin args Q) : Fun Tryz.prog 28 rin args Q :=
 Fun.of (H := ⟨[], []⟩) Tryz.func28 rfl rfl rfl (by kernel_rfl) ha (by decide) h

def q21t : CC :=
 (.seq (.reg [.o (.box 2 (sl 0)),.o (.box 3 (sl 1)),.o (.move 4 (cv (.string ⟨#[]⟩))),.o (.move 5 (ci 0))])
 ((.seq (.seq (.reg [ln 9 3 2,ln 10 2 3,.o (.call (some 11) (cf 58) [(sl 9), (sl 10)]),.o (.un 12 .not (sl 11))])
 ((.cond (sl 12) (.seq (.reg [.o (.move 4 (cv (.string ⟨#[]⟩))),.o (.move 5 (ci 1))])
 (.ret))
 .skip)))
 ((.seq (.reg [ln 13 3 2,fl 14 0 3,l1 15 14,.o (.call (some 16) (cf 59) [(sl 13), (sl 15)]),mv 6 16])
 ((.seq (.reg [.o (.move 7 (cv (.string ⟨#[]⟩)))])
 ((.seq (.seq (.reg [.o (.move 8 (ci 0))])
 ((.block 0 (.loop (.seq (.seq (.reg [mv 17 8,mv 18 6,.o (.lenS 19 (sl 18)),.o (.bin 20 .lss (sl 17) (sl 19))])
 ((.cond (sl 20) .skip
 (.exit 0))))
 ((.seq (.block 1 (.draw [] [kr (mv 23 7),kr (mv 24 6),kr (mv 25 8),kr (ix 26 24 25),kr (l1 27 26),kr (.o (.idx 28 1 (sl 27) (ci 0))),kr (l1 29 28),kr (.o (.call (some 30) (cf 31) [(sl 29)])),kr (.o (.bin 31 .add (sl 23) (sl 30))),kr (.o (.bin 32 .add (sl 31) (cv (.string ⟨#[47]⟩)))),kr (mv 33 6),kr (mv 34 8),kr (ix 35 33 34),kr (l1 36 35),kr (.o (.idx 37 1 (sl 36) (ci 1))),kr (l1 38 37),kr (.o (.call (some 39) (cf 31) [(sl 38)])),kr (.o (.bin 40 .add (sl 32) (sl 39))),kr (.o (.bin 41 .add (sl 40) (cv (.string ⟨#[58]⟩)))),kr (fl 42 1 3),kr (l1 43 42),kr (mv 44 8),kr (ix 45 43 44),kr (l1 46 45),kr (.o (.call (some 47) (cf 60) [(sl 46)])),kr (.o (.bin 48 .add (sl 41) (sl 47))),kr (.o (.bin 49 .add (sl 48) (cv (.string ⟨#[10]⟩)))),kr (mv 7 49)]))
 ((.reg [mv 21 8,.o (.bin 22 .add (sl 21) (ci 1)),mv 8 22])))))))))
 ((.seq (.reg [mv 50 7,mv 4 50,.o (.move 5 (ci 0))])
 (.ret))))))))))))
theorem q237 {rin args Q} (ha : args.length <= 51) (h : fW 51 q21t [.tmp 4, .tmp 5] rin args Q) : Fun Tryz.prog 29 rin args Q :=
 Fun.of (H := ⟨[], []⟩) Tryz.func29 rfl rfl rfl (by kernel_rfl) ha (by decide) h

def q21w : CC :=
 (.seq (.reg [.o (.move 2 (cv (.string ⟨#[]⟩)))])
 ((.seq (.seq (.reg [mv 3 0,.o (.bin 4 .lss (sl 3) (ci 0))])
 ((.cond (sl 4) (.seq (.reg [mv 5 0,.o (.un 6 .neg (sl 5)),.o (.call (some 7) (cf 31) [(sl 6)]),.o (.bin 8 .add (cv (.string ⟨#[45]⟩)) (sl 7)),mv 2 8])
 (.ret))
 .skip)))
 ((.seq (.reg [mv 9 0,.o (.call (some 10) (cf 31) [(sl 9)]),mv 2 10])
 (.ret))))))
theorem q23a {rin args Q} (ha : args.length <= 11) (h : fW 11 q21w [.tmp 2] rin args Q) : Fun Tryz.prog 30 rin args Q :=
 Fun.of (H := ⟨[], []⟩) Tryz.func30 rfl rfl rfl (by kernel_rfl) ha (by decide) h

def q21v : CC :=
 (.seq (.reg [.o (.move 2 (cv (.string ⟨#[]⟩)))])
 ((.seq (.seq (.reg [mv 3 0,.o (.bin 4 .lss (sl 3) (ci 10))])
 ((.cond (sl 4) (.seq (.reg [mv 5 0,.o (.bin 6 .add (ci 48) (sl 5)),.o (.conv 7 .u8 (sl 6)),.o (.bslice 8 1 1 [(0, (sl 7))]),.o (.strB 9 (sl 8)),mv 2 9])
 (.ret))
 .skip)))
 ((.seq (.draw [17] [kr (mv 10 0),kr (.o (.bin 11 .quo (sl 10) (ci 10))),kr (.o (.call (some 12) (cf 31) [(sl 11)])),kr (mv 13 0),kr (.o (.bin 14 .rem (sl 13) (ci 10))),kr (.o (.bin 15 .add (ci 48) (sl 14))),kr (.o (.conv 16 .u8 (sl 15))),(kN, .o (.bslice 17 1 1 [(0, (sl 16))])),kr (.o (.strB 18 (sl 17))),kr (.o (.bin 19 .add (sl 12) (sl 18))),kr (mv 2 19)])
 (.ret))))))
theorem q239 {rin args Q} (ha : args.length <= 20) (h : fW 20 q21v [.tmp 2] rin args Q) : Fun Tryz.prog 31 rin args Q :=
 Fun.of (H := ⟨[], []⟩) Tryz.func31 rfl rfl rfl (by kernel_rfl) ha (by decide) h

def q223 : CC :=
 (.seq (.reg [.o (.box 1 (sl 0)),.o (.move 2 (ci 0))])
 ((.seq (.draw [] [kr (ln 3 3 1),kr (.o (.call (some 4) (cf 61) [(sl 3)])),kr (fl 5 0 1),kr (ln 6 1 5),kr (.o (.call (some 7) (cf 63) [(sl 6), (ci 0)])),kr (.o (.call (some 8) (cf 62) [(sl 7)])),kr (.o (.bin 9 .mul (sl 4) (sl 8))),kr (mv 2 9)])
 (.ret))))
theorem q23h {rin args Q} (ha : args.length <= 10) (h : fW 10 q223 [.tmp 2] rin args Q) : Fun Tryz.prog 32 rin args Q :=
 Fun.of (H := ⟨[], []⟩) Tryz.func32 rfl rfl rfl (by kernel_rfl) ha (by decide) h

def q16o : CC :=
 (.seq (.reg [.o (.box 2 (sl 0)),.o (.box 3 (sl 1)),.o (.move 4 (cb false))])
 ((.seq (.reg [fl 5 0 2,l1 6 5,fl 7 0 3,l1 8 7,.o (.bin 9 .eql (sl 6) (sl 8)),mv 10 9,.g 10 true (some 11) (.fld 11 1 (sl 2)),.g 10 true (some 12) (.load1 12 (sl 11)),.g 10 true (some 13) (.fld 13 1 (sl 3)),.g 10 true (some 14) (.load1 14 (sl 13)),.g 10 true (some 15) (.call (some 15) (cf 64) [(sl 12), (sl 14)]),.o (.pick 16 (sl 10) (sl 15) (cb false)),mv 4 16])
 (.ret))))
theorem q176 {rin args Q} (ha : args.length <= 17) (h : fW 17 q16o [.tmp 4] rin args Q) : Fun Tryz.prog 33 rin args Q :=
 Fun.of (H := ⟨[], []⟩) Tryz.func33 rfl rfl rfl (by kernel_rfl) ha (by decide) h

def q04k : CC :=
 (.seq (.reg [.o (.box 1 (sl 0)),.o (.move 2 (cb false))])
 ((.seq (.reg [fl 4 1 1,l1 5 4,.o (.lenS 6 (sl 5)),mv 3 6])
 ((.seq (.reg [fl 7 0 1,ln 8 1 7,.o (.call (some 9) (cf 66) [(sl 8)]),mv 10 9,.g 10 true (some 11) (.move 11 (sl 3)),.g 10 true (some 12) (.call (some 12) (cf 67) [(sl 11), (ci 1), (ci 6)]),.o (.pick 13 (sl 10) (sl 12) (cb false)),mv 14 13,.g 14 true (some 15) (.fld 15 1 (sl 1)),.g 14 true (some 16) (.load1 16 (sl 15)),.g 14 true (some 17) (.move 17 (sl 3)),.g 14 true (some 18) (.call (some 18) (cf 68) [(sl 16), (sl 17), (ci 0), (ci 9)]),.o (.pick 19 (sl 14) (sl 18) (cb false)),mv 20 19,.g 20 true (some 21) (.fld 21 2 (sl 1)),.g 20 true (some 22) (.load1 22 (sl 21)),.g 20 true (some 23) (.move 23 (sl 3)),.g 20 true (some 24) (.call (some 24) (cf 68) [(sl 22), (sl 23), (ci (-1)), (ci 1)]),.o (.pick 25 (sl 20) (sl 24) (cb false)),mv 26 25,.g 26 true (some 27) (.loadN 27 3 (sl 1)),.g 26 true (some 28) (.call (some 28) (cf 61) [(sl 27)]),.g 26 true (some 29) (.bin 29 .gtr (sl 28) (ci 0)),.o (.pick 30 (sl 26) (sl 29) (cb false)),mv 2 30])
 (.ret))))))
theorem q0bi {rin args Q} (ha : args.length <= 31) (h : fW 31 q04k [.tmp 2] rin args Q) : Fun Tryz.prog 35 rin args Q :=
 Fun.of (H := ⟨[], []⟩) Tryz.func35 rfl rfl rfl (by kernel_rfl) ha (by decide) h

def q21z : CC :=
 (.seq (.reg [.o (.box 4 (sl 1)),.o (.alloc 6 [.v (.int .i64 0), .v (.slice none 0 0)])])
 ((.seq (.reg [ln 12 3 4,mv 13 2,.o (.call (some 14) (cf 69) [(sl 12), (sl 13)]),mv 7 14])
 ((.seq (.reg [.o (.bslice 15 1 0 []),mv 8 15])
 ((.seq (.seq (.reg [.o (.move 9 (ci 0))])
 ((.block 0 (.loop (.seq (.seq (.reg [mv 16 9,mv 17 7,.o (.lenS 18 (sl 17)),.o (.bin 19 .lss (sl 16) (sl 18))])
 ((.cond (sl 19) .skip
 (.exit 0))))
 ((.seq (.block 1 (.seq (.reg [.o (.bslice 22 1 0 []),mv 10 22])
 ((.seq (.seq (.reg [.o (.move 11 (ci 0))])
 ((.block 2 (.loop (.seq (.seq (.reg [mv 23 11,mv 24 7,mv 25 9,ix 26 24 25,l1 27 26,.o (.bin 28 .lss (sl 23) (sl 27))])
 ((.cond (sl 28) .skip
 (.exit 2))))
 ((.seq (.block 3 (.reg [mv 31 10,mv 32 0,mv 33 0,.o (.call (some 34) (cf 37) [(sl 33), (ci 9)]),.o (.bslice 35 1 5 [(0, (ci 0)), (1, (ci 0)), (2, (ci 1)), (3, (ci 2)), (4, (sl 34))]),.o (.call (some 36) (cf 45) [(sl 32), (sl 35)]),.o (.bslice 37 1 1 [(0, (sl 36))]),.o (.app 38 1 8 (sl 31) (sl 37)),mv 10 38]))
 ((.reg [mv 29 11,.o (.bin 30 .add (sl 29) (ci 1)),mv 11 30])))))))))
 ((.reg [mv 39 8,mv 40 10,.o (.call (some 41) (cf 70) [(sl 40)]),.o (.bslice 42 1 1 [(0, (sl 41))]),.o (.app 43 1 24 (sl 39) (sl 42)),mv 8 43]))))))
 ((.reg [mv 20 9,.o (.bin 21 .add (sl 20) (ci 1)),mv 9 21])))))))))
 ((.seq (.reg [mv 44 2,mv 45 8,.o (.build 46 [.v (.int .i64 0), .v (.slice none 0 0)] [(0, 1), (1, 1)] [(0, (sl 44)), (1, (sl 45))]),.o (.store 2 (sl 6) (sl 46))])
 (.ret))))))))))
theorem q23d {rin args Q} (ha : args.length <= 47) (h : fW 47 q21z [.cell 6 31] rin args Q) : Fun Tryz.prog 36 rin args Q :=
 Fun.of (H := ⟨[], []⟩) Tryz.func36 rfl rfl rfl (by kernel_rfl) ha (by decide) h

def q0yi : CC :=
 (.seq (.reg [.o (.move 4 (ci 0))])
 ((.seq (.seq (.reg [mv 6 1,.o (.bin 7 .leq (sl 6) (ci 1))])
 ((.cond (sl 7) (.seq (.reg [.o (.move 4 (ci 0))])
 (.ret))
 .skip)))
 ((.seq (.reg [mv 8 0,mv 9 0,.o (.nilc 10 (sl 9)),fl 11 2 10,l1 12 11,.o (.bin 13 .mul (sl 12) (ci 48271)),.o (.bin 14 .add (sl 13) (ci 29)),.o (.bin 15 .rem (sl 14) (ci 2147483647)),.o (.nilc 16 (sl 8)),fl 17 2 16,.o (.store 1 (sl 17) (sl 15))])
 ((.seq (.reg [mv 18 0,.o (.nilc 19 (sl 18)),fl 20 2 19,l1 21 20,.o (.bin 22 .quo (sl 21) (ci 31)),mv 5 22])
 ((.seq (.seq (.draw [] [kr (mv 23 0),kr (.o (.nilc 24 (sl 23))),kr (fl 25 1 24),kr (l1 26 25),kr (mv 27 0),kr (.o (.nilc 28 (sl 27))),kr (fl 29 0 28),kr (l1 30 29),kr (.o (.lenS 31 (sl 30))),kr (.o (.bin 32 .lss (sl 26) (sl 31)))])
 ((.cond (sl 32) (.seq (.draw [] [kr (mv 33 5),kr (mv 34 0),kr (.o (.nilc 35 (sl 34))),kr (fl 36 0 35),kr (l1 37 36),kr (mv 38 0),kr (.o (.nilc 39 (sl 38))),kr (fl 40 1 39),kr (l1 41 40),kr (ix 42 37 41),kr (l1 43 42),kr (.o (.conv 44 .i64 (sl 43))),kr (.o (.bin 45 .add (sl 33) (sl 44))),kr (mv 5 45)])
 ((.seq (.reg [mv 46 0,.o (.nilc 47 (sl 46)),fl 48 1 47,l1 49 48,.o (.bin 50 .add (sl 49) (ci 1)),.o (.nilc 51 (sl 46)),fl 52 1 51,.o (.store 1 (sl 52) (sl 50))])
 ((.seq (.reg [mv 53 1,.o (.bin 54 .leq (sl 53) (ci 256)),mv 55 54,.g 55 true (some 56) (.move 56 (sl 0)),.g 55 true (some 57) (.nilc 57 (sl 56)),.g 55 true (some 58) (.fld 58 1 (sl 57)),.g 55 true (some 59) (.load1 59 (sl 58)),.g 55 true (some 60) (.bin 60 .rem (sl 59) (ci 2)),.g 55 true (some 61) (.bin 61 .eql (sl 60) (ci 0)),.o (.pick 62 (sl 55) (sl 61) (cb false))])
 ((.cond (sl 62) (.draw [] [kr (mv 63 0),kr (.o (.nilc 64 (sl 63))),kr (fl 65 0 64),kr (l1 66 65),kr (mv 67 0),kr (.o (.nilc 68 (sl 67))),kr (fl 69 1 68),kr (l1 70 69),kr (.o (.bin 71 .sub (sl 70) (ci 1))),kr (ix 72 66 71),kr (l1 73 72),kr (.o (.conv 74 .i64 (sl 73))),kr (mv 5 74)])
 .skip)))))))
 .skip)))
 ((.seq (.reg [mv 75 5,mv 76 1,.o (.bin 77 .rem (sl 75) (sl 76)),mv 4 77])
 (.ret))))))))))))
theorem q0zn {rin args Q} (ha : args.length <= 78) (h : fW 78 q0yi [.tmp 4] rin args Q) : Fun Tryz.prog 37 rin args Q :=
 Fun.of (H := ⟨[], []⟩) Tryz.func37 rfl rfl rfl (by kernel_rfl) ha (by decide) h

def q220 : CC :=
 (.seq (.reg [.o (.box 2 (sl 0)),.o (.alloc 4 [.v (.int .i64 0), .v (.slice none 0 0)])])
 ((.seq (.reg [ln 8 3 2,mv 9 1,.o (.call (some 10) (cf 69) [(sl 8), (sl 9)]),mv 5 10])
 ((.seq (.reg [.o (.bslice 11 1 0 []),mv 6 11])
 ((.seq (.seq (.reg [.o (.move 7 (ci 0))])
 ((.block 0 (.loop (.seq (.seq (.reg [mv 12 7,mv 13 5,.o (.lenS 14 (sl 13)),.o (.bin 15 .lss (sl 12) (sl 14))])
 ((.cond (sl 15) .skip
 (.exit 0))))
 ((.seq (.block 1 (.reg [mv 18 6,mv 19 5,mv 20 7,ix 21 19 20,l1 22 21,.o (.make 23 [.v (.int .i64 0)] 8 (sl 22) (sl 22)),.o (.call (some 24) (cf 70) [(sl 23)]),.o (.bslice 25 1 1 [(0, (sl 24))]),.o (.app 26 1 24 (sl 18) (sl 25)),mv 6 26]))
 ((.reg [mv 16 7,.o (.bin 17 .add (sl 16) (ci 1)),mv 7 17])))))))))
 ((.seq (.reg [mv 27 1,mv 28 6,.o (.build 29 [.v (.int .i64 0), .v (.slice none 0 0)] [(0, 1), (1, 1)] [(0, (sl 27)), (1, (sl 28))]),.o (.store 2 (sl 4) (sl 29))])
 (.ret))))))))))
theorem q23e {rin args Q} (ha : args.length <= 30) (h : fW 30 q220 [.cell 4 31] rin args Q) : Fun Tryz.prog 38 rin args Q :=
 Fun.of (H := ⟨[], []⟩) Tryz.func38 rfl rfl rfl (by kernel_rfl) ha (by decide) h

def q16j : CC :=
 (.seq (.reg [.o (.box 2 (sl 0)),.o (.box 3 (sl 1)),.o (.move 4 (cb false))])
 ((.seq (.reg [ln 9 3 2,fl 10 0 3,l1 11 10,.o (.call (some 12) (cf 51) [(sl 9), (sl 11)]),mv 5 12])
 ((.seq (.seq (.reg [fl 13 1 3,l1 14 13,.o (.lenS 15 (sl 14)),mv 16 5,.o (.lenS 17 (sl 16)),.o (.bin 18 .neq (sl 15) (sl 17))])
 ((.cond (sl 18) (.seq (.reg [.o (.move 4 (cb false))])
 (.ret))
 .skip)))
 ((.seq (.seq (.reg [mv 19 5,.o (.lenS 20 (sl 19)),.o (.move 21 (ci 0))])
 ((.block 0 (.loop (.seq (.reg [.o (.bin 22 .lss (sl 21) (sl 20))])
 ((.seq (.cond (sl 22) .skip
 (.exit 0))
 ((.seq (.block 1 (.seq (.reg [mv 23 21,ix 24 19 21,l1 25 24,mv 6 23,mv 7 25])
 ((.seq (.reg [fl 26 1 3,l1 27 26,mv 28 6,ix 29 27 28,l1 30 29,mv 8 30])
 ((.seq (.draw [] [kr (mv 31 8),kr (.o (.lenS 32 (sl 31))),kr (fl 33 0 2),kr (fl 34 0 33),kr (l1 35 34),kr (mv 36 7),kr (.o (.idx 37 1 (sl 36) (ci 0))),kr (l1 38 37),kr (.o (.idx 39 5 (sl 35) (sl 38))),kr (fl 40 4 39),kr (l1 41 40),kr (.o (.lenS 42 (sl 41))),kr (.o (.bin 43 .neq (sl 32) (sl 42))),kr (mv 44 43),(kR, .g 44 false (some 45) (.move 45 (sl 8))),(kR, .g 44 false (some 46) (.call (some 46) (cf 48) [(sl 45), (ci 0), (ci 60)])),(kR, .g 44 false (some 47) (.un 47 .not (sl 46))),kr (.o (.pick 48 (sl 44) (cb true) (sl 47))),kr (mv 49 48),(kR, .g 49 false (some 50) (.move 50 (sl 8))),(kR, .g 49 false (some 51) (.call (some 51) (cf 71) [(sl 50)])),(kR, .g 49 false (some 52) (.bin 52 .neq (sl 51) (ci 60))),kr (.o (.pick 53 (sl 49) (cb true) (sl 52)))])
 ((.cond (sl 53) (.seq (.reg [.o (.move 4 (cb false))])
 (.ret))
 .skip))))))))
 ((.reg [.o (.bin 54 .add (sl 21) (ci 1)),mv 21 54])))))))))))
 ((.seq (.reg [.o (.move 4 (cb true))])
 (.ret))))))))))
theorem q171 {rin args Q} (ha : args.length <= 55) (h : fW 55 q16j [.tmp 4] rin args Q) : Fun Tryz.prog 39 rin args Q :=
 Fun.of (H := ⟨[], []⟩) Tryz.func39 rfl rfl rfl (by kernel_rfl) ha (by decide) h

def q04f : CC :=
 (.seq (.reg [.o (.move 2 (cv (.slice none 0 0)))])
 ((.seq (.seq (.reg [mv 3 0,.o (.isNil 4 false (sl 3))])
 ((.cond (sl 4) (.seq (.reg [.o (.move 2 (cv (.slice none 0 0)))])
 (.ret))
 .skip)))
 ((.seq (.reg [.o (.bslice 5 1 0 []),mv 6 0,.o (.app 7 1 8 (sl 5) (sl 6)),mv 2 7])
 (.ret))))))
theorem q0bd {rin args Q} (ha : args.length <= 8) (h : fW 8 q04f [.tmp 2] rin args Q) : Fun Tryz.prog 41 rin args Q :=
 Fun.of (H := ⟨[], []⟩) Tryz.func41 rfl rfl rfl (by kernel_rfl) ha (by decide) h

def q222 : CC :=
 (.seq (.reg [.o (.box 3 (sl 0)),.o (.box 4 (sl 1)),.o (.box 5 (sl 2)),.o (.move 6 (cb false))])
 ((.seq (.reg [ln 7 3 3,ln 8 2 4,.o (.call (some 9) (cf 58) [(sl 7), (sl 8)]),mv 10 9,.g 10 true (some 11) (.loadN 11 3 (sl 3)),.g 10 true (some 12) (.loadN 12 2 (sl 5)),.g 10 true (some 13) (.call (some 13) (cf 58) [(sl 11), (sl 12)]),.o (.pick 14 (sl 10) (sl 13) (cb false)),mv 15 14,.g 15 true (some 16) (.fld 16 0 (sl 4)),.g 15 true (some 17) (.load1 17 (sl 16)),.g 15 true (some 18) (.bin 18 .eql (sl 17) (ci 0)),.o (.pick 19 (sl 15) (sl 18) (cb false)),mv 20 19,.g 20 true (some 21) (.fld 21 0 (sl 5)),.g 20 true (some 22) (.load1 22 (sl 21)),.g 20 true (some 23) (.bin 23 .eql (sl 22) (ci 1)),.o (.pick 24 (sl 20) (sl 23) (cb false)),mv 6 24])
 (.ret))))
theorem q23g {rin args Q} (ha : args.length <= 25) (h : fW 25 q222 [.tmp 6] rin args Q) : Fun Tryz.prog 42 rin args Q :=
 Fun.of (H := ⟨[], []⟩) Tryz.func42 rfl rfl rfl (by kernel_rfl) ha (by decide) h

def q054 : CC :=
 (.seq (.reg [.o (.box 3 (sl 0)),.o (.box 4 (sl 1)),.o (.box 5 (sl 2)),.o (.move 6 (ci 0)),.o (.move 7 (ci 0))])
 ((.seq (.reg [ln 13 3 3,ln 14 2 5,.o (.call (some 15) (cf 74) [(sl 13), (sl 14)]),mv 12 15,.o (.extract 16 (sl 12) 0),.o (.extract 17 (sl 12) 1),.o (.alloc 9 [.v (.int .i64 0), .v (.slice none 0 0)]),mv 8 16,.o (.store 2 (sl 9) (sl 17))])
 ((.seq (.reg [ln 19 3 3,ln 20 2 4,.o (.call (some 21) (cf 74) [(sl 19), (sl 20)]),mv 18 21,.o (.extract 22 (sl 18) 0),.o (.extract 23 (sl 18) 1),.o (.alloc 11 [.v (.int .i64 0), .v (.slice none 0 0)]),mv 10 22,.o (.store 2 (sl 11) (sl 23))])
 ((.seq (.reg [mv 24 8,mv 25 10,mv 6 24,mv 7 25])
 (.ret))))))))
theorem q0c2 {rin args Q} (ha : args.length <= 26) (h : fW 26 q054 [.tmp 6, .tmp 7] rin args Q) : Fun Tryz.prog 43 rin args Q :=
 Fun.of (H := ⟨[], []⟩) Tryz.func43 rfl rfl rfl (by kernel_rfl) ha (by decide) h

def q04n : CC :=
 (.seq (.reg [.o (.move 2 (cv (.slice none 0 0)))])
 ((.seq (.reg [.o (.bslice 3 1 0 []),mv 4 0,.o (.app 5 1 8 (sl 3) (sl 4)),mv 2 5])
 (.ret))))
theorem q0bl {rin args Q} (ha : args.length <= 6) (h : fW 6 q04n [.tmp 2] rin args Q) : Fun Tryz.prog 44 rin args Q :=
 Fun.of (H := ⟨[], []⟩) Tryz.func44 rfl rfl rfl (by kernel_rfl) ha (by decide) h

def q0yj : CC :=
 (.seq (.reg [.o (.move 4 (ci 0))])
 ((.seq (.reg [mv 5 1,mv 6 0,mv 7 1,.o (.lenS 8 (sl 7)),.o (.call (some 9) (cf 37) [(sl 6), (sl 8)]),ix 10 5 9,l1 11 10,mv 4 11])
 (.ret))))
theorem q0zo {rin args Q} (ha : args.length <= 12) (h : fW 12 q0yj [.tmp 4] rin args Q) : Fun Tryz.prog 45 rin args Q :=
 Fun.of (H := ⟨[], []⟩) Tryz.func45 rfl rfl rfl (by kernel_rfl) ha (by decide) h

def q03c : CC :=
 (.seq (.reg [.o (.box 1 (sl 0)),.o (.move 2 (cb false))])
 ((.seq (.reg [fl 11 0 1,l1 12 11,.o (.lenS 13 (sl 12)),mv 3 13])
 ((.seq (.seq (.reg [mv 14 3,.o (.call (some 15) (cf 47) [(sl 14), (ci 1), (ci 60)]),.o (.un 16 .not (sl 15))])
 ((.cond (sl 16) (.seq (.reg [.o (.move 2 (cb false))])
 (.ret))
 .skip)))
 ((.seq (.reg [mv 17 3,.o (.make 18 [.v (.int .i64 0)] 8 (sl 17) (sl 17)),mv 4 18])
 ((.seq (.seq (.reg [fl 19 0 1,l1 20 19,.o (.lenS 21 (sl 20)),.o (.move 22 (ci 0))])
 ((.block 0 (.loop (.seq (.reg [.o (.bin 23 .lss (sl 22) (sl 21))])
 ((.seq (.cond (sl 23) .skip
 (.exit 0))
 ((.seq (.block 1 (.seq (.reg [mv 24 22,.o (.idx 25 5 (sl 20) (sl 22)),ln 26 5 25,.o (.alloc 6 [.v (.int .i64 0), .v (.int .i64 0), .v (.int .i64 0), .v (.int .i64 0), .v (.slice none 0 0)]),mv 5 24,.o (.store 5 (sl 6) (sl 26))])
 ((.seq (.seq (.reg [fl 27 0 6,l1 28 27,.o (.call (some 29) (cf 47) [(sl 28), (ci 0), (ci 2)]),.o (.un 30 .not (sl 29)),mv 31 30,.g 31 false (some 32) (.fld 32 1 (sl 6)),.g 31 false (some 33) (.load1 33 (sl 32)),.g 31 false (some 34) (.call (some 34) (cf 47) [(sl 33), (ci 0), (ci 100)]),.g 31 false (some 35) (.un 35 .not (sl 34)),.o (.pick 36 (sl 31) (cb true) (sl 35)),mv 37 36,.g 37 false (some 38) (.fld 38 2 (sl 6)),.g 37 false (some 39) (.load1 39 (sl 38)),.g 37 false (some 40) (.call (some 40) (cf 47) [(sl 39), (ci 0), (ci 100)]),.g 37 false (some 41) (.un 41 .not (sl 40)),.o (.pick 42 (sl 37) (cb true) (sl 41))])
 ((.cond (sl 42) (.seq (.reg [.o (.move 2 (cb false))])
 (.ret))
 .skip)))
 ((.seq (.seq (.reg [fl 43 0 6,l1 44 43,.o (.bin 45 .eql (sl 44) (ci 2))])
 ((.cond (sl 45) (.seq (.seq (.reg [fl 46 4 6,l1 47 46,.o (.lenS 48 (sl 47)),.o (.bin 49 .gtr (sl 48) (ci 0)),mv 50 49,.g 50 false (some 51) (.fld 51 3 (sl 6)),.g 50 false (some 52) (.load1 52 (sl 51)),.g 50 false (some 53) (.call (some 53) (cf 47) [(sl 52), (ci (-1)), (ci 1)]),.g 50 false (some 54) (.un 54 .not (sl 53)),.o (.pick 55 (sl 50) (cb true) (sl 54)),mv 56 55,.g 56 false (some 57) (.fld 57 3 (sl 6)),.g 56 false (some 58) (.load1 58 (sl 57)),.g 56 false (some 59) (.bin 59 .eql (sl 58) (ci (-1))),.g 56 false (some 60) (.move 60 (sl 59)),.g 60 true (some 61) (.fld 61 1 (sl 6)),.g 60 true (some 62) (.load1 62 (sl 61)),.g 60 true (some 63) (.fld 63 2 (sl 6)),.g 60 true (some 64) (.load1 64 (sl 63)),.g 60 true (some 65) (.bin 65 .neq (sl 62) (sl 64)),.g 56 false (some 66) (.pick 66 (sl 60) (sl 65) (cb false)),.o (.pick 67 (sl 56) (cb true) (sl 66))])
 ((.cond (sl 67) (.seq (.reg [.o (.move 2 (cb false))])
 (.ret))
 .skip)))
 ((.exit 1)))
 .skip)))
 ((.seq (.seq (.reg [fl 68 3 6,l1 69 68,.o (.bin 70 .neq (sl 69) (ci (-1))),mv 71 70,.g 71 false (some 72) (.fld 72 4 (sl 6)),.g 71 false (some 73) (.load1 73 (sl 72)),.g 71 false (some 74) (.lenS 74 (sl 73)),.g 71 false (some 75) (.call (some 75) (cf 47) [(sl 74), (ci 1), (ci 4)]),.g 71 false (some 76) (.un 76 .not (sl 75)),.o (.pick 77 (sl 71) (cb true) (sl 76)),mv 78 77,.g 78 false (some 79) (.fld 79 4 (sl 6)),.g 78 false (some 80) (.load1 80 (sl 79)),.g 78 false (some 81) (.move 81 (sl 5)),.g 78 false (some 82) (.bin 82 .add (sl 81) (ci 1)),.g 78 false (some 83) (.move 83 (sl 3)),.g 78 false (some 84) (.bin 84 .sub (sl 83) (ci 1)),.g 78 false (some 85) (.call (some 85) (cf 48) [(sl 80), (sl 82), (sl 84)]),.g 78 false (some 86) (.un 86 .not (sl 85)),.o (.pick 87 (sl 78) (cb true) (sl 86)),mv 88 87,.g 88 false (some 89) (.fld 89 4 (sl 6)),.g 88 false (some 90) (.load1 90 (sl 89)),.g 88 false (some 91) (.call (some 91) (cf 75) [(sl 90)]),.g 88 false (some 92) (.un 92 .not (sl 91)),.o (.pick 93 (sl 88) (cb true) (sl 92))])
 ((.cond (sl 93) (.seq (.reg [.o (.move 2 (cb false))])
 (.ret))
 .skip)))
 ((.seq (.reg [fl 94 4 6,l1 95 94,.o (.lenS 96 (sl 95)),.o (.move 97 (ci 0))])
 ((.block 2 (.loop (.seq (.reg [.o (.bin 98 .lss (sl 97) (sl 96))])
 ((.seq (.cond (sl 98) .skip
 (.exit 2))
 ((.seq (.block 3 (.seq (.reg [ix 99 95 97,l1 100 99,mv 8 100])
 ((.reg [mv 101 4,mv 102 8,ix 103 101 102,l1 104 103,.o (.bin 105 .add (sl 104) (ci 1)),ix 106 101 102,.o (.store 1 (sl 106) (sl 105))]))))
 ((.reg [.o (.bin 107 .add (sl 97) (ci 1)),mv 97 107]))))))))))))))))))))
 ((.reg [.o (.bin 108 .add (sl 22) (ci 1)),mv 22 108])))))))))))
 ((.seq (.seq (.reg [mv 109 4,.o (.slc 110 1 (sl 109) (some (ci 1)) none),.o (.lenS 111 (sl 110)),.o (.move 112 (ci 0))])
 ((.block 4 (.loop (.seq (.reg [.o (.bin 113 .lss (sl 112) (sl 111))])
 ((.seq (.cond (sl 113) .skip
 (.exit 4))
 ((.seq (.block 5 (.seq (.reg [ix 114 110 112,l1 115 114,mv 10 115])
 ((.seq (.reg [mv 116 10,.o (.bin 117 .neq (sl 116) (ci 1))])
 ((.cond (sl 117) (.seq (.reg [.o (.move 2 (cb false))])
 (.ret))
 .skip))))))
 ((.reg [.o (.bin 118 .add (sl 112) (ci 1)),mv 112 118])))))))))))
 ((.seq (.reg [ln 119 1 1,.o (.call (some 120) (cf 57) [(sl 119), (ci 0)]),.o (.bin 121 .leq (sl 120) (ci 5)),mv 2 121])
 (.ret))))))))))))))
theorem q0aa {rin args Q} (ha : args.length <= 122) (h : fW 122 q03c [.tmp 2] rin args Q) : Fun Tryz.prog 46 rin args Q :=
 Fun.of (H := ⟨[], []⟩) Tryz.func46 rfl rfl rfl (by kernel_rfl) ha (by decide) h

def q03v : CC :=
 (.seq (.reg [.o (.move 6 (cb false))])
 ((.seq (.reg [mv 7 0,mv 8 1,.o (.bin 9 .geq (sl 7) (sl 8)),mv 10 9,.g 10 true (some 11) (.move 11 (sl 0)),.g 10 true (some 12) (.move 12 (sl 2)),.g 10 true (some 13) (.bin 13 .leq (sl 11) (sl 12)),.o (.pick 14 (sl 10) (sl 13) (cb false)),mv 6 14])
 (.ret))))
theorem q0at {rin args Q} (ha : args.length <= 15) (h : fW 15 q03v [.tmp 6] rin args Q) : Fun Tryz.prog 47 rin args Q :=
 Fun.of (H := ⟨[], []⟩) Tryz.func47 rfl rfl rfl (by kernel_rfl) ha (by decide) h

def q03d : CC :=
 (.seq (.reg [.o (.move 6 (cb false))])
 ((.seq (.seq (.reg [mv 9 0,.o (.lenS 10 (sl 9)),.o (.move 11 (ci 0))])
 ((.block 0 (.loop (.seq (.reg [.o (.bin 12 .lss (sl 11) (sl 10))])
 ((.seq (.cond (sl 12) .skip
 (.exit 0))
 ((.seq (.block 1 (.seq (.reg [ix 13 9 11,l1 14 13,mv 8 14])
 ((.seq (.reg [mv 15 8,mv 16 1,mv 17 2,.o (.call (some 18) (cf 47) [(sl 15), (sl 16), (sl 17)]),.o (.un 19 .not (sl 18))])
 ((.cond (sl 19) (.seq (.reg [.o (.move 6 (cb false))])
 (.ret))
 .skip))))))
 ((.reg [.o (.bin 20 .add (sl 11) (ci 1)),mv 11 20])))))))))))
 ((.seq (.reg [.o (.move 6 (cb true))])
 (.ret))))))
theorem q0ab {rin args Q} (ha : args.length <= 21) (h : fW 21 q03d [.tmp 6] rin args Q) : Fun Tryz.prog 48 rin args Q :=
 Fun.of (H := ⟨[], []⟩) Tryz.func48 rfl rfl rfl (by kernel_rfl) ha (by decide) h

def q03s : CC :=
 (.seq (.reg [.o (.box 1 (sl 0)),.o (.move 2 (ci 0))])
 ((.seq (.reg [.o (.move 3 (ci 0))])
 ((.seq (.seq (.reg [fl 6 1 1,l1 7 6,.o (.lenS 8 (sl 7)),.o (.move 9 (ci 0))])
 ((.block 0 (.loop (.seq (.reg [.o (.bin 10 .lss (sl 9) (sl 8))])
 ((.seq (.cond (sl 10) .skip
 (.exit 0))
 ((.seq (.block 1 (.seq (.reg [ix 11 7 9,l1 12 11,mv 5 12])
 ((.reg [mv 13 3,mv 14 5,.o (.call (some 15) (cf 71) [(sl 14)]),.o (.bin 16 .add (sl 13) (sl 15)),mv 3 16]))))
 ((.reg [.o (.bin 17 .add (sl 9) (ci 1)),mv 9 17])))))))))))
 ((.seq (.reg [mv 18 3,mv 2 18])
 (.ret))))))))
theorem q0aq {rin args Q} (ha : args.length <= 19) (h : fW 19 q03s [.tmp 2] rin args Q) : Fun Tryz.prog 49 rin args Q :=
 Fun.of (H := ⟨[], []⟩) Tryz.func49 rfl rfl rfl (by kernel_rfl) ha (by decide) h

def q16h : CC :=
 (.seq (.reg [.o (.box 2 (sl 0)),.o (.box 3 (sl 1)),.o (.move 4 (cb false))])
 ((.seq (.seq (.reg [ln 5 3 2,.o (.call (some 6) (cf 23) [(sl 5)]),.o (.un 7 .not (sl 6)),mv 8 7,.g 8 false (some 9) (.fld 9 0 (sl 3)),.g 8 false (some 10) (.load1 10 (sl 9)),.g 8 false (some 11) (.call (some 11) (cf 47) [(sl 10), (ci 0), (ci 1)]),.g 8 false (some 12) (.un 12 .not (sl 11)),.o (.pick 13 (sl 8) (cb true) (sl 12))])
 ((.cond (sl 13) (.seq (.reg [.o (.move 4 (cb false))])
 (.ret))
 .skip)))
 ((.seq (.reg [ln 14 3 2,ln 15 2 3,.o (.call (some 16) (cf 39) [(sl 14), (sl 15)]),mv 4 16])
 (.ret))))))
theorem q16z {rin args Q} (ha : args.length <= 17) (h : fW 17 q16h [.tmp 4] rin args Q) : Fun Tryz.prog 50 rin args Q :=
 Fun.of (H := ⟨[], []⟩) Tryz.func50 rfl rfl rfl (by kernel_rfl) ha (by decide) h

def q03j : CC :=
 (.seq (.reg [.o (.box 2 (sl 0)),.o (.move 4 (cv (.slice none 0 0)))])
 ((.seq (.reg [.o (.move 5 (cv (.slice none 0 0)))])
 ((.seq (.seq (.reg [fl 9 0 2,ln 10 1 9,mv 11 1,.o (.call (some 12) (cf 72) [(sl 10), (sl 11)]),.o (.lenS 13 (sl 12)),.o (.move 14 (ci 0))])
 ((.block 0 (.loop (.seq (.reg [.o (.bin 15 .lss (sl 14) (sl 13))])
 ((.seq (.cond (sl 15) .skip
 (.exit 0))
 ((.seq (.block 1 (.seq (.reg [ix 16 12 14,l1 17 16,mv 7 17])
 ((.seq (.reg [fl 18 1 2,l1 19 18,.o (.lenS 20 (sl 19)),.o (.move 21 (ci 0))])
 ((.block 2 (.loop (.seq (.reg [.o (.bin 22 .lss (sl 21) (sl 20))])
 ((.seq (.cond (sl 22) .skip
 (.exit 2))
 ((.seq (.block 3 (.seq (.reg [mv 23 21,mv 8 23])
 ((.reg [mv 24 5,mv 25 7,mv 26 8,.o (.bslice 27 1 2 [(0, (sl 25)), (1, (sl 26))]),.o (.bslice 28 1 1 [(0, (sl 27))]),.o (.app 29 1 24 (sl 24) (sl 28)),mv 5 29]))))
 ((.reg [.o (.bin 30 .add (sl 21) (ci 1)),mv 21 30]))))))))))))))
 ((.reg [.o (.bin 31 .add (sl 14) (ci 1)),mv 14 31])))))))))))
 ((.seq (.reg [mv 32 5,mv 4 32])
 (.ret))))))))
theorem q0ah {rin args Q} (ha : args.length <= 33) (h : fW 33 q03j [.tmp 4] rin args Q) : Fun Tryz.prog 51 rin args Q :=
 Fun.of (H := ⟨[], []⟩) Tryz.func51 rfl rfl rfl (by kernel_rfl) ha (by decide) h

def q21g : CC :=
 (.seq (.reg [.o (.move 2 (cv (.string ⟨#[]⟩)))])
 ((.seq (.reg [mv 3 0,.o (.call (some 4) (cf 77) [(sl 3), (ci 10)]),mv 2 4])
 (.ret))))
theorem q22u {rin args Q} (ha : args.length <= 5) (h : fW 5 q21g [.tmp 2] rin args Q) : Fun Tryz.prog 54 rin args Q :=
 Fun.of (H := ⟨[], []⟩) Tryz.func54 rfl rfl rfl (by kernel_rfl) ha (by decide) h

def q03p : CC :=
 (.seq (.reg [.o (.move 4 (ci 0))])
 ((.seq (.reg [.o (.move 5 (ci 1))])
 ((.seq (.seq (.reg [mv 6 1,.o (.move 7 (ci 0))])
 ((.block 0 (.loop (.seq (.reg [.o (.bin 8 .lss (sl 7) (sl 6))])
 ((.seq (.cond (sl 8) .skip
 (.exit 0))
 ((.seq (.block 1 (.reg [mv 9 5,mv 10 0,.o (.bin 11 .mul (sl 9) (sl 10)),mv 5 11]))
 ((.reg [.o (.bin 12 .add (sl 7) (ci 1)),mv 7 12])))))))))))
 ((.seq (.reg [mv 13 5,mv 4 13])
 (.ret))))))))
theorem q0an {rin args Q} (ha : args.length <= 14) (h : fW 14 q03p [.tmp 4] rin args Q) : Fun Tryz.prog 56 rin args Q :=
 Fun.of (H := ⟨[], []⟩) Tryz.func56 rfl rfl rfl (by kernel_rfl) ha (by decide) h

def q03f : CC :=
 (.seq (.reg [.o (.box 2 (sl 0)),.o (.move 4 (ci 0))])
 ((.seq (.reg [fl 9 0 2,l1 10 9,mv 11 1,.o (.idx 12 5 (sl 10) (sl 11)),ln 13 5 12,.o (.alloc 5 [.v (.int .i64 0), .v (.int .i64 0), .v (.int .i64 0), .v (.int .i64 0), .v (.slice none 0 0)]),.o (.store 5 (sl 5) (sl 13))])
 ((.seq (.seq (.reg [fl 14 0 5,l1 15 14,.o (.bin 16 .eql (sl 15) (ci 2))])
 ((.cond (sl 16) (.seq (.reg [.o (.move 4 (ci 0))])
 (.ret))
 .skip)))
 ((.seq (.reg [.o (.move 6 (ci 0))])
 ((.seq (.seq (.reg [fl 17 4 5,l1 18 17,.o (.lenS 19 (sl 18)),.o (.move 20 (ci 0))])
 ((.block 0 (.loop (.seq (.reg [.o (.bin 21 .lss (sl 20) (sl 19))])
 ((.seq (.cond (sl 21) .skip
 (.exit 0))
 ((.seq (.block 1 (.seq (.reg [ix 22 18 20,l1 23 22,mv 8 23])
 ((.reg [mv 24 6,ln 25 1 2,mv 26 8,.o (.call (some 27) (cf 57) [(sl 25), (sl 26)]),.o (.mm 28 true (sl 24) (sl 27)),mv 6 28]))))
 ((.reg [.o (.bin 29 .add (sl 20) (ci 1)),mv 20 29])))))))))))
 ((.seq (.reg [mv 30 6,.o (.bin 31 .add (sl 30) (ci 1)),mv 4 31])
 (.ret))))))))))))
theorem q0ad {rin args Q} (ha : args.length <= 32) (h : fW 32 q03f [.tmp 4] rin args Q) : Fun Tryz.prog 57 rin args Q :=
 Fun.of (H := ⟨[], []⟩) Tryz.func57 rfl rfl rfl (by kernel_rfl) ha (by decide) h

def q21r : CC :=
 (.seq (.reg [.o (.box 2 (sl 0)),.o (.box 3 (sl 1)),.o (.move 4 (cb false))])
 ((.seq (.seq (.reg [ln 8 3 2,.o (.call (some 9) (cf 35) [(sl 8)]),.o (.un 10 .not (sl 9)),mv 11 10,.g 11 false (some 12) (.fld 12 0 (sl 3)),.g 11 false (some 13) (.load1 13 (sl 12)),.g 11 false (some 14) (.call (some 14) (cf 67) [(sl 13), (ci 0), (ci 1)]),.g 11 false (some 15) (.un 15 .not (sl 14)),.o (.pick 16 (sl 11) (cb true) (sl 15))])
 ((.cond (sl 16) (.seq (.reg [.o (.move 4 (cb false))])
 (.ret))
 .skip)))
 ((.seq (.reg [ln 17 3 2,fl 18 0 3,l1 19 18,.o (.call (some 20) (cf 59) [(sl 17), (sl 19)]),mv 5 20])
 ((.seq (.seq (.reg [fl 21 1 3,l1 22 21,.o (.lenS 23 (sl 22)),mv 24 5,.o (.lenS 25 (sl 24)),.o (.bin 26 .neq (sl 23) (sl 25))])
 ((.cond (sl 26) (.seq (.reg [.o (.move 4 (cb false))])
 (.ret))
 .skip)))
 ((.seq (.seq (.reg [.o (.move 6 (ci 0))])
 ((.block 0 (.loop (.seq (.seq (.reg [mv 27 6,mv 28 5,.o (.lenS 29 (sl 28)),.o (.bin 30 .lss (sl 27) (sl 29))])
 ((.cond (sl 30) .skip
 (.exit 0))))
 ((.seq (.block 1 (.seq (.seq (.draw [] [kr (fl 33 1 3),kr (l1 34 33),kr (mv 35 6),kr (ix 36 34 35),kr (l1 37 36),kr (.o (.lenS 38 (sl 37))),kr (fl 39 0 2),kr (fl 40 0 39),kr (l1 41 40),kr (mv 42 5),kr (mv 43 6),kr (ix 44 42 43),kr (l1 45 44),kr (.o (.idx 46 1 (sl 45) (ci 0))),kr (l1 47 46),kr (.o (.idx 48 5 (sl 41) (sl 47))),kr (fl 49 4 48),kr (l1 50 49),kr (.o (.lenS 51 (sl 50))),kr (.o (.bin 52 .neq (sl 38) (sl 51)))])
 ((.cond (sl 52) (.seq (.reg [.o (.move 4 (cb false))])
 (.ret))
 .skip)))
 ((.seq (.seq (.reg [.o (.move 7 (ci 0))])
 ((.block 2 (.loop (.seq (.seq (.reg [mv 53 7,fl 54 1 3,l1 55 54,mv 56 6,ix 57 55 56,l1 58 57,.o (.lenS 59 (sl 58)),.o (.bin 60 .lss (sl 53) (sl 59))])
 ((.cond (sl 60) .skip
 (.exit 2))))
 ((.seq (.block 3 (.seq (.reg [fl 63 1 3,l1 64 63,mv 65 6,ix 66 64 65,l1 67 66,mv 68 7,ix 69 67 68,l1 70 69,.o (.call (some 71) (cf 67) [(sl 70), (ci 0), (ci 60)]),.o (.un 72 .not (sl 71))])
 ((.cond (sl 72) (.seq (.reg [.o (.move 4 (cb false))])
 (.ret))
 .skip))))
 ((.reg [mv 61 7,.o (.bin 62 .add (sl 61) (ci 1)),mv 7 62])))))))))
 ((.seq (.reg [fl 73 1 3,l1 74 73,mv 75 6,ix 76 74 75,l1 77 76,.o (.call (some 78) (cf 79) [(sl 77)]),.o (.bin 79 .neq (sl 78) (ci 60))])
 ((.cond (sl 79) (.seq (.reg [.o (.move 4 (cb false))])
 (.ret))
 .skip))))))))
 ((.reg [mv 31 6,.o (.bin 32 .add (sl 31) (ci 1)),mv 6 32])))))))))
 ((.seq (.reg [.o (.move 4 (cb true))])
 (.ret))))))))))))
theorem q235 {rin args Q} (ha : args.length <= 80) (h : fW 80 q21r [.tmp 4] rin args Q) : Fun Tryz.prog 58 rin args Q :=
 Fun.of (H := ⟨[], []⟩) Tryz.func58 rfl rfl rfl (by kernel_rfl) ha (by decide) h

def q04w : CC :=
 (.seq (.reg [.o (.box 2 (sl 0)),.o (.move 4 (cv (.slice none 0 0)))])
 ((.seq (.reg [fl 9 0 2,ln 10 1 9,mv 11 1,.o (.call (some 12) (cf 80) [(sl 10), (sl 11)]),mv 5 12])
 ((.seq (.reg [.o (.bslice 13 1 0 []),mv 6 13])
 ((.seq (.seq (.reg [.o (.move 7 (ci 0))])
 ((.block 0 (.loop (.seq (.seq (.reg [mv 14 7,mv 15 5,.o (.lenS 16 (sl 15)),.o (.bin 17 .lss (sl 14) (sl 16))])
 ((.cond (sl 17) .skip
 (.exit 0))))
 ((.seq (.block 1 (.seq (.reg [.o (.move 8 (ci 0))])
 ((.block 2 (.loop (.seq (.seq (.reg [mv 20 8,fl 21 1 2,l1 22 21,.o (.lenS 23 (sl 22)),.o (.bin 24 .lss (sl 20) (sl 23))])
 ((.cond (sl 24) .skip
 (.exit 2))))
 ((.seq (.block 3 (.reg [mv 27 6,mv 28 5,mv 29 7,ix 30 28 29,l1 31 30,mv 32 8,.o (.bslice 33 1 2 [(0, (sl 31)), (1, (sl 32))]),.o (.bslice 34 1 1 [(0, (sl 33))]),.o (.app 35 1 24 (sl 27) (sl 34)),mv 6 35]))
 ((.reg [mv 25 8,.o (.bin 26 .add (sl 25) (ci 1)),mv 8 26]))))))))))
 ((.reg [mv 18 7,.o (.bin 19 .add (sl 18) (ci 1)),mv 7 19])))))))))
 ((.seq (.reg [mv 36 6,mv 4 36])
 (.ret))))))))))
theorem q0bu {rin args Q} (ha : args.length <= 37) (h : fW 37 q04w [.tmp 4] rin args Q) : Fun Tryz.prog 59 rin args Q :=
 Fun.of (H := ⟨[], []⟩) Tryz.func59 rfl rfl rfl (by kernel_rfl) ha (by decide) h

def q21x : CC :=
 (.seq (.reg [.o (.move 2 (cv (.string ⟨#[]⟩)))])
 ((.seq (.reg [.o (.move 3 (cv (.string ⟨#[]⟩)))])
 ((.seq (.seq (.reg [.o (.move 4 (ci 0))])
 ((.block 0 (.loop (.seq (.seq (.reg [mv 5 4,mv 6 0,.o (.lenS 7 (sl 6)),.o (.bin 8 .lss (sl 5) (sl 7))])
 ((.cond (sl 8) .skip
 (.exit 0))))
 ((.seq (.block 1 (.seq (.seq (.reg [mv 11 4,.o (.bin 12 .gtr (sl 11) (ci 0))])
 ((.cond (sl 12) (.reg [mv 13 3,.o (.bin 14 .add (sl 13) (cv (.string ⟨#[44]⟩))),mv 3 14])
 .skip)))
 ((.reg [mv 15 3,mv 16 0,mv 17 4,ix 18 16 17,l1 19 18,.o (.call (some 20) (cf 31) [(sl 19)]),.o (.bin 21 .add (sl 15) (sl 20)),mv 3 21]))))
 ((.reg [mv 9 4,.o (.bin 10 .add (sl 9) (ci 1)),mv 4 10])))))))))
 ((.seq (.reg [mv 22 3,mv 2 22])
 (.ret))))))))
theorem q23b {rin args Q} (ha : args.length <= 23) (h : fW 23 q21x [.tmp 2] rin args Q) : Fun Tryz.prog 60 rin args Q :=
 Fun.of (H := ⟨[], []⟩) Tryz.func60 rfl rfl rfl (by kernel_rfl) ha (by decide) h

def q04x : CC :=
 (.seq (.reg [.o (.box 1 (sl 0)),.o (.move 2 (ci 0))])
 ((.seq (.reg [.o (.move 3 (ci 0))])
 ((.seq (.seq (.reg [.o (.move 4 (ci 0))])
 ((.block 0 (.loop (.seq (.seq (.reg [mv 5 4,fl 6 1 1,l1 7 6,.o (.lenS 8 (sl 7)),.o (.bin 9 .lss (sl 5) (sl 8))])
 ((.cond (sl 9) .skip
 (.exit 0))))
 ((.seq (.block 1 (.reg [mv 12 3,fl 13 1 1,l1 14 13,mv 15 4,ix 16 14 15,l1 17 16,.o (.call (some 18) (cf 79) [(sl 17)]),.o (.bin 19 .add (sl 12) (sl 18)),mv 3 19]))
 ((.reg [mv 10 4,.o (.bin 11 .add (sl 10) (ci 1)),mv 4 11])))))))))
 ((.seq (.reg [mv 20 3,mv 2 20])
 (.ret))))))))
theorem q0bv {rin args Q} (ha : args.length <= 21) (h : fW 21 q04x [.tmp 2] rin args Q) : Fun Tryz.prog 61 rin args Q :=
 Fun.of (H := ⟨[], []⟩) Tryz.func61 rfl rfl rfl (by kernel_rfl) ha (by decide) h

def q051 : CC :=
 (.seq (.reg [.o (.move 2 (ci 0))])
 ((.seq (.reg [.o (.move 3 (ci 1))])
 ((.seq (.block 0 (.loop (.seq (.seq (.reg [mv 4 0,.o (.bin 5 .gtr (sl 4) (ci 0))])
 ((.cond (sl 5) .skip
 (.exit 0))))
 ((.seq (.block 1 (.reg [mv 8 3,.o (.bin 9 .mul (sl 8) (ci 60)),mv 3 9]))
 ((.reg [mv 6 0,.o (.bin 7 .sub (sl 6) (ci 1)),mv 0 7])))))))
 ((.seq (.reg [mv 10 3,mv 2 10])
 (.ret))))))))
theorem q0bz {rin args Q} (ha : args.length <= 11) (h : fW 11 q051 [.tmp 2] rin args Q) : Fun Tryz.prog 62 rin args Q :=
 Fun.of (H := ⟨[], []⟩) Tryz.func62 rfl rfl rfl (by kernel_rfl) ha (by decide) h

def q04q : CC :=
 (.seq (.reg [.o (.box 2 (sl 0)),.o (.move 4 (ci 0))])
 ((.seq (.reg [fl 8 0 2,l1 9 8,mv 10 1,.o (.idx 11 5 (sl 9) (sl 10)),ln 12 5 11,.o (.alloc 5 [.v (.int .i64 0), .v (.int .i64 0), .v (.int .i64 0), .v (.int .i64 0), .v (.slice none 0 0)]),.o (.store 5 (sl 5) (sl 12))])
 ((.seq (.seq (.reg [fl 13 0 5,l1 14 13,.o (.bin 15 .eql (sl 14) (ci 2))])
 ((.cond (sl 15) (.seq (.reg [.o (.move 4 (ci 0))])
 (.ret))
 .skip)))
 ((.seq (.reg [.o (.move 6 (ci 0))])
 ((.seq (.seq (.reg [.o (.move 7 (ci 0))])
 ((.block 0 (.loop (.seq (.seq (.reg [mv 16 7,fl 17 4 5,l1 18 17,.o (.lenS 19 (sl 18)),.o (.bin 20 .lss (sl 16) (sl 19))])
 ((.cond (sl 20) .skip
 (.exit 0))))
 ((.seq (.block 1 (.draw [] [kr (mv 23 6),kr (ln 24 1 2),kr (fl 25 4 5),kr (l1 26 25),kr (mv 27 7),kr (ix 28 26 27),kr (l1 29 28),kr (.o (.call (some 30) (cf 63) [(sl 24), (sl 29)])),kr (.o (.mm 31 true (sl 23) (sl 30))),kr (mv 6 31)]))
 ((.reg [mv 21 7,.o (.bin 22 .add (sl 21) (ci 1)),mv 7 22])))))))))
 ((.seq (.reg [mv 32 6,.o (.bin 33 .add (sl 32) (ci 1)),mv 4 33])
 (.ret))))))))))))
theorem q0bo {rin args Q} (ha : args.length <= 34) (h : fW 34 q04q [.tmp 4] rin args Q) : Fun Tryz.prog 63 rin args Q :=
 Fun.of (H := ⟨[], []⟩) Tryz.func63 rfl rfl rfl (by kernel_rfl) ha (by decide) h

def q16n : CC :=
 (.seq (.reg [.o (.move 4 (cb false))])
 ((.seq (.seq (.reg [mv 6 0,.o (.lenS 7 (sl 6)),mv 8 1,.o (.lenS 9 (sl 8)),.o (.bin 10 .neq (sl 7) (sl 9))])
 ((.cond (sl 10) (.seq (.reg [.o (.move 4 (cb false))])
 (.ret))
 .skip)))
 ((.seq (.seq (.reg [.o (.move 5 (ci 0))])
 ((.block 0 (.loop (.seq (.seq (.reg [mv 11 5,mv 12 0,.o (.lenS 13 (sl 12)),.o (.bin 14 .lss (sl 11) (sl 13))])
 ((.cond (sl 14) .skip
 (.exit 0))))
 ((.seq (.block 1 (.seq (.draw [] [kr (mv 17 0),kr (mv 18 5),kr (ix 19 17 18),kr (l1 20 19),kr (mv 21 1),kr (mv 22 5),kr (ix 23 21 22),kr (l1 24 23),kr (.o (.call (some 25) (cf 81) [(sl 20), (sl 24)])),kr (.o (.un 26 .not (sl 25)))])
 ((.cond (sl 26) (.seq (.reg [.o (.move 4 (cb false))])
 (.ret))
 .skip))))
 ((.reg [mv 15 5,.o (.bin 16 .add (sl 15) (ci 1)),mv 5 16])))))))))
 ((.seq (.reg [.o (.move 4 (cb true))])
 (.ret))))))))
theorem q175 {rin args Q} (ha : args.length <= 27) (h : fW 27 q16n [.tmp 4] rin args Q) : Fun Tryz.prog 64 rin args Q :=
 Fun.of (H := ⟨[], []⟩) Tryz.func64 rfl rfl rfl (by kernel_rfl) ha (by decide) h

def q04l : CC :=
 (.seq (.reg [.o (.box 1 (sl 0)),.o (.move 2 (cb false))])
 ((.seq (.reg [fl 8 0 1,l1 9 8,.o (.lenS 10 (sl 9)),mv 3 10])
 ((.seq (.seq (.reg [mv 11 3,.o (.call (some 12) (cf 67) [(sl 11), (ci 1), (ci 60)]),.o (.un 13 .not (sl 12))])
 ((.cond (sl 13) (.seq (.reg [.o (.move 2 (cb false))])
 (.ret))
 .skip)))
 ((.seq (.reg [mv 14 3,.o (.make 15 [.v (.int .i64 0)] 8 (sl 14) (sl 14)),mv 4 15])
 ((.seq (.seq (.reg [.o (.move 5 (ci 0))])
 ((.block 0 (.loop (.seq (.seq (.reg [mv 16 5,mv 17 3,.o (.bin 18 .lss (sl 16) (sl 17))])
 ((.cond (sl 18) .skip
 (.exit 0))))
 ((.seq (.block 1 (.seq (.seq (.reg [ln 21 1 1,mv 22 5,.o (.call (some 23) (cf 84) [(sl 21), (sl 22)]),.o (.un 24 .not (sl 23))])
 ((.cond (sl 24) (.seq (.reg [.o (.move 2 (cb false))])
 (.ret))
 .skip)))
 ((.seq (.reg [.o (.move 6 (ci 0))])
 ((.block 2 (.loop (.seq (.seq (.reg [mv 25 6,fl 26 0 1,l1 27 26,mv 28 5,.o (.idx 29 5 (sl 27) (sl 28)),fl 30 4 29,l1 31 30,.o (.lenS 32 (sl 31)),.o (.bin 33 .lss (sl 25) (sl 32))])
 ((.cond (sl 33) .skip
 (.exit 2))))
 ((.seq (.block 3 (.reg [mv 36 4,fl 37 0 1,l1 38 37,mv 39 5,.o (.idx 40 5 (sl 38) (sl 39)),fl 41 4 40,l1 42 41,mv 43 6,ix 44 42 43,l1 45 44,ix 46 36 45,l1 47 46,.o (.bin 48 .add (sl 47) (ci 1)),ix 49 36 45,.o (.store 1 (sl 49) (sl 48))]))
 ((.reg [mv 34 6,.o (.bin 35 .add (sl 34) (ci 1)),mv 6 35]))))))))))))
 ((.reg [mv 19 5,.o (.bin 20 .add (sl 19) (ci 1)),mv 5 20])))))))))
 ((.seq (.seq (.reg [.o (.move 7 (ci 1))])
 ((.block 4 (.loop (.seq (.seq (.reg [mv 50 7,mv 51 3,.o (.bin 52 .lss (sl 50) (sl 51))])
 ((.cond (sl 52) .skip
 (.exit 4))))
 ((.seq (.block 5 (.seq (.reg [mv 55 4,mv 56 7,ix 57 55 56,l1 58 57,.o (.bin 59 .neq (sl 58) (ci 1))])
 ((.cond (sl 59) (.seq (.reg [.o (.move 2 (cb false))])
 (.ret))
 .skip))))
 ((.reg [mv 53 7,.o (.bin 54 .add (sl 53) (ci 1)),mv 7 54])))))))))
 ((.seq (.reg [ln 60 1 1,.o (.call (some 61) (cf 63) [(sl 60), (ci 0)]),.o (.bin 62 .leq (sl 61) (ci 5)),mv 2 62])
 (.ret))))))))))))))
theorem q0bj {rin args Q} (ha : args.length <= 63) (h : fW 63 q04l [.tmp 2] rin args Q) : Fun Tryz.prog 66 rin args Q :=
 Fun.of (H := ⟨[], []⟩) Tryz.func66 rfl rfl rfl (by kernel_rfl) ha (by decide) h

def q04m : CC :=
 (.seq (.reg [.o (.move 6 (cb false))])
 ((.seq (.reg [mv 7 0,mv 8 1,.o (.bin 9 .geq (sl 7) (sl 8)),mv 10 9,.g 10 true (some 11) (.move 11 (sl 0)),.g 10 true (some 12) (.move 12 (sl 2)),.g 10 true (some 13) (.bin 13 .leq (sl 11) (sl 12)),.o (.pick 14 (sl 10) (sl 13) (cb false)),mv 6 14])
 (.ret))))
theorem q0bk {rin args Q} (ha : args.length <= 15) (h : fW 15 q04m [.tmp 6] rin args Q) : Fun Tryz.prog 67 rin args Q :=
 Fun.of (H := ⟨[], []⟩) Tryz.func67 rfl rfl rfl (by kernel_rfl) ha (by decide) h

def q04u : CC :=
 (.seq (.reg [.o (.move 8 (cb false))])
 ((.seq (.seq (.reg [.o (.move 9 (ci 0))])
 ((.block 0 (.loop (.seq (.seq (.reg [mv 11 9,mv 12 0,.o (.lenS 13 (sl 12)),.o (.bin 14 .lss (sl 11) (sl 13))])
 ((.cond (sl 14) .skip
 (.exit 0))))
 ((.seq (.block 1 (.seq (.seq (.reg [mv 17 0,mv 18 9,ix 19 17 18,l1 20 19,.o (.lenS 21 (sl 20)),mv 22 1,.o (.bin 23 .neq (sl 21) (sl 22))])
 ((.cond (sl 23) (.seq (.reg [.o (.move 8 (cb false))])
 (.ret))
 .skip)))
 ((.seq (.reg [.o (.move 10 (ci 0))])
 ((.block 2 (.loop (.seq (.seq (.reg [mv 24 10,mv 25 1,.o (.bin 26 .lss (sl 24) (sl 25))])
 ((.cond (sl 26) .skip
 (.exit 2))))
 ((.seq (.block 3 (.seq (.reg [mv 29 0,mv 30 9,ix 31 29 30,l1 32 31,mv 33 10,ix 34 32 33,l1 35 34,mv 36 2,mv 37 3,.o (.call (some 38) (cf 67) [(sl 35), (sl 36), (sl 37)]),.o (.un 39 .not (sl 38))])
 ((.cond (sl 39) (.seq (.reg [.o (.move 8 (cb false))])
 (.ret))
 .skip))))
 ((.reg [mv 27 10,.o (.bin 28 .add (sl 27) (ci 1)),mv 10 28]))))))))))))
 ((.reg [mv 15 9,.o (.bin 16 .add (sl 15) (ci 1)),mv 9 16])))))))))
 ((.seq (.reg [mv 40 0,.o (.lenS 41 (sl 40)),mv 42 1,.o (.bin 43 .eql (sl 41) (sl 42)),mv 8 43])
 (.ret))))))
theorem q0bs {rin args Q} (ha : args.length <= 44) (h : fW 44 q04u [.tmp 8] rin args Q) : Fun Tryz.prog 68 rin args Q :=
 Fun.of (H := ⟨[], []⟩) Tryz.func68 rfl rfl rfl (by kernel_rfl) ha (by decide) h

def q04z : CC :=
 (.seq (.reg [.o (.box 2 (sl 0)),.o (.move 4 (cv (.slice none 0 0)))])
 ((.seq (.reg [ln 8 3 2,mv 9 1,.o (.call (some 10) (cf 59) [(sl 8), (sl 9)]),mv 5 10])
 ((.seq (.reg [.o (.bslice 11 1 0 []),mv 6 11])
 ((.seq (.seq (.reg [.o (.move 7 (ci 0))])
 ((.block 0 (.loop (.seq (.seq (.reg [mv 12 7,mv 13 5,.o (.lenS 14 (sl 13)),.o (.bin 15 .lss (sl 12) (sl 14))])
 ((.cond (sl 15) .skip
 (.exit 0))))
 ((.seq (.block 1 (.draw [32] [kr (mv 18 6),kr (fl 19 0 2),kr (fl 20 0 19),kr (l1 21 20),kr (mv 22 5),kr (mv 23 7),kr (ix 24 22 23),kr (l1 25 24),kr (.o (.idx 26 1 (sl 25) (ci 0))),kr (l1 27 26),kr (.o (.idx 28 5 (sl 21) (sl 27))),kr (fl 29 4 28),kr (l1 30 29),kr (.o (.lenS 31 (sl 30))),(kN, .o (.bslice 32 1 1 [(0, (sl 31))])),(kH, .o (.app 33 1 8 (sl 18) (sl 32))),kr (mv 6 33)]))
 ((.reg [mv 16 7,.o (.bin 17 .add (sl 16) (ci 1)),mv 7 17])))))))))
 ((.seq (.reg [mv 34 6,mv 4 34])
 (.ret))))))))))
theorem q0bx {rin args Q} (ha : args.length <= 35) (h : fW 35 q04z [.tmp 4] rin args Q) : Fun Tryz.prog 69 rin args Q :=
 Fun.of (H := ⟨[], []⟩) Tryz.func69 rfl rfl rfl (by kernel_rfl) ha (by decide) h

def q04y : CC :=
 (.seq (.reg [.o (.move 2 (cv (.slice none 0 0)))])
 ((.seq (.reg [mv 12 0,.o (.call (some 13) (cf 79) [(sl 12)]),mv 3 13])
 ((.seq (.seq (.reg [mv 14 3,.o (.bin 15 .eql (sl 14) (ci 0))])
 ((.cond (sl 15) (.seq (.reg [.o (.bslice 16 1 0 []),mv 4 16])
 ((.seq (.seq (.reg [.o (.move 5 (ci 0))])
 ((.block 0 (.loop (.seq (.seq (.reg [mv 17 5,mv 18 0,.o (.lenS 19 (sl 18)),.o (.bin 20 .lss (sl 17) (sl 19))])
 ((.cond (sl 20) .skip
 (.exit 0))))
 ((.seq (.block 1 (.reg [mv 23 4,.o (.bslice 24 1 1 [(0, (ci 1))]),.o (.app 25 1 8 (sl 23) (sl 24)),mv 4 25]))
 ((.reg [mv 21 5,.o (.bin 22 .add (sl 21) (ci 1)),mv 5 22])))))))))
 ((.seq (.reg [mv 26 4,.o (.call (some 27) (cf 70) [(sl 26)]),mv 2 27])
 (.ret))))))
 .skip)))
 ((.seq (.reg [.o (.bslice 28 1 0 []),.o (.bslice 29 1 0 []),mv 6 28,mv 7 29])
 ((.seq (.seq (.reg [.o (.move 8 (ci 0))])
 ((.block 2 (.loop (.seq (.seq (.reg [mv 30 8,mv 31 0,.o (.lenS 32 (sl 31)),.o (.bin 33 .lss (sl 30) (sl 32))])
 ((.cond (sl 33) .skip
 (.exit 2))))
 ((.seq (.block 3 (.seq (.reg [mv 36 6,mv 37 0,mv 38 8,ix 39 37 38,l1 40 39,.o (.bin 41 .mul (ci 60) (sl 40)),mv 42 3,.o (.bin 43 .quo (sl 41) (sl 42)),.o (.bslice 44 1 1 [(0, (sl 43))]),.o (.app 45 1 8 (sl 36) (sl 44)),mv 6 45])
 ((.reg [mv 46 7,mv 47 0,mv 48 8,ix 49 47 48,l1 50 49,.o (.bin 51 .mul (ci 60) (sl 50)),mv 52 3,.o (.bin 53 .rem (sl 51) (sl 52)),.o (.bslice 54 1 1 [(0, (sl 53))]),.o (.app 55 1 8 (sl 46) (sl 54)),mv 7 55]))))
 ((.reg [mv 34 8,.o (.bin 35 .add (sl 34) (ci 1)),mv 8 35])))))))))
 ((.seq (.seq (.reg [mv 56 6,.o (.call (some 57) (cf 79) [(sl 56)]),.o (.bin 58 .sub (ci 60) (sl 57)),mv 9 58])
 ((.block 4 (.loop (.seq (.seq (.reg [mv 59 9,.o (.bin 60 .gtr (sl 59) (ci 0))])
 ((.cond (sl 60) .skip
 (.exit 4))))
 ((.seq (.block 5 (.seq (.reg [.o (.move 10 (ci 0))])
 ((.seq (.seq (.reg [.o (.move 11 (ci 1))])
 ((.block 6 (.loop (.seq (.seq (.reg [mv 63 11,mv 64 7,.o (.lenS 65 (sl 64)),.o (.bin 66 .lss (sl 63) (sl 65))])
 ((.cond (sl 66) .skip
 (.exit 6))))
 ((.seq (.block 7 (.seq (.draw [] [kr (mv 69 7),kr (mv 70 11),kr (ix 71 69 70),kr (l1 72 71),kr (mv 73 7),kr (mv 74 10),kr (ix 75 73 74),kr (l1 76 75),kr (.o (.bin 77 .gtr (sl 72) (sl 76)))])
 ((.cond (sl 77) (.reg [mv 78 11,mv 10 78])
 .skip))))
 ((.reg [mv 67 11,.o (.bin 68 .add (sl 67) (ci 1)),mv 11 68])))))))))
 ((.seq (.reg [mv 79 6,mv 80 10,ix 81 79 80,l1 82 81,.o (.bin 83 .add (sl 82) (ci 1)),ix 84 79 80,.o (.store 1 (sl 84) (sl 83))])
 ((.reg [mv 85 7,mv 86 10,ix 87 85 86,.o (.store 1 (sl 87) (ci (-1)))]))))))))
 ((.reg [mv 61 9,.o (.bin 62 .sub (sl 61) (ci 1)),mv 9 62])))))))))
 ((.seq (.reg [mv 88 6,mv 2 88])
 (.ret))))))))))))))
theorem q0bw {rin args Q} (ha : args.length <= 89) (h : fW 89 q04y [.tmp 2] rin args Q) : Fun Tryz.prog 70 rin args Q :=
 Fun.of (H := ⟨[], []⟩) Tryz.func70 rfl rfl rfl (by kernel_rfl) ha (by decide) h

def q03r : CC :=
 (.seq (.reg [.o (.move 2 (ci 0))])
 ((.seq (.reg [.o (.move 3 (ci 0))])
 ((.seq (.seq (.reg [mv 6 0,.o (.lenS 7 (sl 6)),.o (.move 8 (ci 0))])
 ((.block 0 (.loop (.seq (.reg [.o (.bin 9 .lss (sl 8) (sl 7))])
 ((.seq (.cond (sl 9) .skip
 (.exit 0))
 ((.seq (.block 1 (.seq (.reg [ix 10 6 8,l1 11 10,mv 5 11])
 ((.reg [mv 12 3,mv 13 5,.o (.bin 14 .add (sl 12) (sl 13)),mv 3 14]))))
 ((.reg [.o (.bin 15 .add (sl 8) (ci 1)),mv 8 15])))))))))))
 ((.seq (.reg [mv 16 3,mv 2 16])
 (.ret))))))))
theorem q0ap {rin args Q} (ha : args.length <= 17) (h : fW 17 q03r [.tmp 2] rin args Q) : Fun Tryz.prog 71 rin args Q :=
 Fun.of (H := ⟨[], []⟩) Tryz.func71 rfl rfl rfl (by kernel_rfl) ha (by decide) h

def q03m : CC :=
 (.seq (.reg [.o (.box 2 (sl 0)),.o (.move 4 (cv (.slice none 0 0)))])
 ((.seq (.reg [.o (.move 5 (cv (.slice none 0 0)))])
 ((.seq (.seq (.reg [fl 8 0 2,l1 9 8,.o (.lenS 10 (sl 9)),.o (.move 11 (ci 0))])
 ((.block 0 (.loop (.seq (.reg [.o (.bin 12 .lss (sl 11) (sl 10))])
 ((.seq (.cond (sl 12) .skip
 (.exit 0))
 ((.seq (.block 1 (.seq (.reg [mv 13 11,.o (.idx 14 5 (sl 9) (sl 11)),ln 15 5 14,.o (.alloc 7 [.v (.int .i64 0), .v (.int .i64 0), .v (.int .i64 0), .v (.int .i64 0), .v (.slice none 0 0)]),mv 6 13,.o (.store 5 (sl 7) (sl 15))])
 ((.seq (.reg [fl 16 0 7,l1 17 16,mv 18 1,.o (.bin 19 .eql (sl 17) (sl 18))])
 ((.cond (sl 19) (.reg [mv 20 5,mv 21 6,.o (.bslice 22 1 1 [(0, (sl 21))]),.o (.app 23 1 8 (sl 20) (sl 22)),mv 5 23])
 .skip))))))
 ((.reg [.o (.bin 24 .add (sl 11) (ci 1)),mv 11 24])))))))))))
 ((.seq (.reg [mv 25 5,mv 4 25])
 (.ret))))))))
theorem q0ak {rin args Q} (ha : args.length <= 26) (h : fW 26 q03m [.tmp 4] rin args Q) : Fun Tryz.prog 72 rin args Q :=
 Fun.of (H := ⟨[], []⟩) Tryz.func72 rfl rfl rfl (by kernel_rfl) ha (by decide) h

def q03i : CC :=
 (.seq (.reg [.o (.move 2 (cb false))])
 ((.seq (.seq (.reg [.o (.move 3 (ci 1))])
 ((.block 0 (.loop (.seq (.seq (.reg [mv 4 3,mv 5 0,.o (.lenS 6 (sl 5)),.o (.bin 7 .lss (sl 4) (sl 6))])
 ((.cond (sl 7) .skip
 (.exit 0))))
 ((.seq (.block 1 (.seq (.draw [] [kr (mv 10 0),kr (mv 11 3),kr (.o (.bin 12 .sub (sl 11) (ci 1))),kr (ix 13 10 12),kr (l1 14 13),kr (mv 15 0),kr (mv 16 3),kr (ix 17 15 16),kr (l1 18 17),kr (.o (.bin 19 .geq (sl 14) (sl 18)))])
 ((.cond (sl 19) (.seq (.reg [.o (.move 2 (cb false))])
 (.ret))
 .skip))))
 ((.reg [mv 8 3,.o (.bin 9 .add (sl 8) (ci 1)),mv 3 9])))))))))
 ((.seq (.reg [.o (.move 2 (cb true))])
 (.ret))))))
theorem q0ag {rin args Q} (ha : args.length <= 20) (h : fW 20 q03i [.tmp 2] rin args Q) : Fun Tryz.prog 75 rin args Q :=
 Fun.of (H := ⟨[], []⟩) Tryz.func75 rfl rfl rfl (by kernel_rfl) ha (by decide) h

def q04p : CC :=
 (.seq (.reg [.o (.move 2 (ci 0))])
 ((.seq (.reg [.o (.move 3 (ci 0))])
 ((.seq (.seq (.reg [.o (.move 4 (ci 0))])
 ((.block 0 (.loop (.seq (.seq (.reg [mv 5 4,mv 6 0,.o (.lenS 7 (sl 6)),.o (.bin 8 .lss (sl 5) (sl 7))])
 ((.cond (sl 8) .skip
 (.exit 0))))
 ((.seq (.block 1 (.reg [mv 11 3,mv 12 0,mv 13 4,ix 14 12 13,l1 15 14,.o (.bin 16 .add (sl 11) (sl 15)),mv 3 16]))
 ((.reg [mv 9 4,.o (.bin 10 .add (sl 9) (ci 1)),mv 4 10])))))))))
 ((.seq (.reg [mv 17 3,mv 2 17])
 (.ret))))))))
theorem q0bn {rin args Q} (ha : args.length <= 18) (h : fW 18 q04p [.tmp 2] rin args Q) : Fun Tryz.prog 79 rin args Q :=
 Fun.of (H := ⟨[], []⟩) Tryz.func79 rfl rfl rfl (by kernel_rfl) ha (by decide) h

def q04s : CC :=
 (.seq (.reg [.o (.box 2 (sl 0)),.o (.move 4 (cv (.slice none 0 0)))])
 ((.seq (.reg [.o (.bslice 7 1 0 []),mv 5 7])
 ((.seq (.seq (.reg [.o (.move 6 (ci 0))])
 ((.block 0 (.loop (.seq (.seq (.reg [mv 8 6,fl 9 0 2,l1 10 9,.o (.lenS 11 (sl 10)),.o (.bin 12 .lss (sl 8) (sl 11))])
 ((.cond (sl 12) .skip
 (.exit 0))))
 ((.seq (.block 1 (.seq (.reg [fl 15 0 2,l1 16 15,mv 17 6,.o (.idx 18 5 (sl 16) (sl 17)),fl 19 0 18,l1 20 19,mv 21 1,.o (.bin 22 .eql (sl 20) (sl 21))])
 ((.cond (sl 22) (.reg [mv 23 5,mv 24 6,.o (.bslice 25 1 1 [(0, (sl 24))]),.o (.app 26 1 8 (sl 23) (sl 25)),mv 5 26])
 .skip))))
 ((.reg [mv 13 6,.o (.bin 14 .add (sl 13) (ci 1)),mv 6 14])))))))))
 ((.seq (.reg [mv 27 5,mv 4 27])
 (.ret))))))))
theorem q0bq {rin args Q} (ha : args.length <= 28) (h : fW 28 q04s [.tmp 4] rin args Q) : Fun Tryz.prog 80 rin args Q :=
 Fun.of (H := ⟨[], []⟩) Tryz.func80 rfl rfl rfl (by kernel_rfl) ha (by decide) h

def q0yb : CC :=
 (.seq (.reg [.o (.move 4 (cb false))])
 ((.seq (.seq (.reg [mv 6 0,.o (.lenS 7 (sl 6)),mv 8 1,.o (.lenS 9 (sl 8)),.o (.bin 10 .neq (sl 7) (sl 9))])
 ((.cond (sl 10) (.seq (.reg [.o (.move 4 (cb false))])
 (.ret))
 .skip)))
 ((.seq (.seq (.reg [.o (.move 5 (ci 0))])
 ((.block 0 (.loop (.seq (.seq (.reg [mv 11 5,mv 12 0,.o (.lenS 13 (sl 12)),.o (.bin 14 .lss (sl 11) (sl 13))])
 ((.cond (sl 14) .skip
 (.exit 0))))
 ((.seq (.block 1 (.seq (.draw [] [kr (mv 17 0),kr (mv 18 5),kr (ix 19 17 18),kr (l1 20 19),kr (mv 21 1),kr (mv 22 5),kr (ix 23 21 22),kr (l1 24 23),kr (.o (.bin 25 .neq (sl 20) (sl 24)))])
 ((.cond (sl 25) (.seq (.reg [.o (.move 4 (cb false))])
 (.ret))
 .skip))))
 ((.reg [mv 15 5,.o (.bin 16 .add (sl 15) (ci 1)),mv 5 16])))))))))
 ((.seq (.reg [.o (.move 4 (cb true))])
 (.ret))))))))
theorem q0zg {rin args Q} (ha : args.length <= 26) (h : fW 26 q0yb [.tmp 4] rin args Q) : Fun Tryz.prog 81 rin args Q :=
 Fun.of (H := ⟨[], []⟩) Tryz.func81 rfl rfl rfl (by kernel_rfl) ha (by decide) h

def q04r : CC :=
 (.seq (.reg [.o (.box 2 (sl 0)),.o (.move 4 (cb false))])
 ((.seq (.reg [fl 6 0 2,l1 7 6,mv 8 1,.o (.idx 9 5 (sl 7) (sl 8)),ln 10 5 9,.o (.alloc 5 [.v (.int .i64 0), .v (.int .i64 0), .v (.int .i64 0), .v (.int .i64 0), .v (.slice none 0 0)]),.o (.store 5 (sl 5) (sl 10))])
 ((.seq (.seq (.reg [fl 11 0 5,l1 12 11,.o (.call (some 13) (cf 67) [(sl 12), (ci 0), (ci 2)]),.o (.un 14 .not (sl 13)),mv 15 14,.g 15 false (some 16) (.fld 16 1 (sl 5)),.g 15 false (some 17) (.load1 17 (sl 16)),.g 15 false (some 18) (.call (some 18) (cf 67) [(sl 17), (ci 0), (ci 100)]),.g 15 false (some 19) (.un 19 .not (sl 18)),.o (.pick 20 (sl 15) (cb true) (sl 19)),mv 21 20,.g 21 false (some 22) (.fld 22 2 (sl 5)),.g 21 false (some 23) (.load1 23 (sl 22)),.g 21 false (some 24) (.call (some 24) (cf 67) [(sl 23), (ci 0), (ci 100)]),.g 21 false (some 25) (.un 25 .not (sl 24)),.o (.pick 26 (sl 21) (cb true) (sl 25)),mv 27 26,.g 27 false (some 28) (.fld 28 3 (sl 5)),.g 27 false (some 29) (.load1 29 (sl 28)),.g 27 false (some 30) (.call (some 30) (cf 67) [(sl 29), (ci (-1)), (ci 1)]),.g 27 false (some 31) (.un 31 .not (sl 30)),.o (.pick 32 (sl 27) (cb true) (sl 31))])
 ((.cond (sl 32) (.seq (.reg [.o (.move 4 (cb false))])
 (.ret))
 .skip)))
 ((.seq (.seq (.reg [fl 33 0 5,l1 34 33,.o (.bin 35 .eql (sl 34) (ci 2))])
 ((.cond (sl 35) (.seq (.reg [fl 36 4 5,l1 37 36,.o (.lenS 38 (sl 37)),.o (.bin 39 .eql (sl 38) (ci 0)),mv 40 39,.g 40 true (some 41) (.fld 41 3 (sl 5)),.g 40 true (some 42) (.load1 42 (sl 41)),.g 40 true (some 43) (.bin 43 .geq (sl 42) (ci 0)),.g 40 true (some 44) (.move 44 (sl 43)),.g 44 false (some 45) (.fld 45 1 (sl 5)),.g 44 false (some 46) (.load1 46 (sl 45)),.g 44 false (some 47) (.fld 47 2 (sl 5)),.g 44 false (some 48) (.load1 48 (sl 47)),.g 44 false (some 49) (.bin 49 .eql (sl 46) (sl 48)),.g 40 true (some 50) (.pick 50 (sl 44) (cb true) (sl 49)),.o (.pick 51 (sl 40) (sl 50) (cb false)),mv 4 51])
 (.ret))
 .skip)))
 ((.seq (.seq (.reg [fl 52 3 5,l1 53 52,.o (.bin 54 .neq (sl 53) (ci (-1))),mv 55 54,.g 55 false (some 56) (.fld 56 4 (sl 5)),.g 55 false (some 57) (.load1 57 (sl 56)),.g 55 false (some 58) (.lenS 58 (sl 57)),.g 55 false (some 59) (.call (some 59) (cf 67) [(sl 58), (ci 1), (ci 4)]),.g 55 false (some 60) (.un 60 .not (sl 59)),.o (.pick 61 (sl 55) (cb true) (sl 60)),mv 62 61,.g 62 false (some 63) (.fld 63 4 (sl 5)),.g 62 false (some 64) (.load1 64 (sl 63)),.g 62 false (some 65) (.fld 65 0 (sl 2)),.g 62 false (some 66) (.load1 66 (sl 65)),.g 62 false (some 67) (.lenS 67 (sl 66)),.g 62 false (some 68) (.call (some 68) (cf 94) [(sl 64), (sl 67)]),.g 62 false (some 69) (.un 69 .not (sl 68)),.o (.pick 70 (sl 62) (cb true) (sl 69))])
 ((.cond (sl 70) (.seq (.reg [.o (.move 4 (cb false))])
 (.ret))
 .skip)))
 ((.seq (.reg [fl 71 4 5,l1 72 71,.o (.idx 73 1 (sl 72) (ci 0)),l1 74 73,mv 75 1,.o (.bin 76 .gtr (sl 74) (sl 75)),mv 4 76])
 (.ret))))))))))))
theorem q0bp {rin args Q} (ha : args.length <= 77) (h : fW 77 q04r [.tmp 4] rin args Q) : Fun Tryz.prog 84 rin args Q :=
 Fun.of (H := ⟨[], []⟩) Tryz.func84 rfl rfl rfl (by kernel_rfl) ha (by decide) h

def q03o : CC :=
 (.seq (.reg [.o (.box 4 (sl 0)),.o (.move 8 (ci 0))])
 ((.seq (.reg [fl 11 0 4,fl 12 0 11,l1 13 12,mv 14 1,.o (.idx 15 5 (sl 13) (sl 14)),ln 16 5 15,.o (.alloc 9 [.v (.int .i64 0), .v (.int .i64 0), .v (.int .i64 0), .v (.int .i64 0), .v (.slice none 0 0)]),.o (.store 5 (sl 9) (sl 16))])
 ((.seq (.reg [fl 17 2 4,l1 18 17,mv 19 2,ix 20 18 19,l1 21 20,mv 22 3,ix 23 21 22,l1 24 23,mv 10 24])
 ((.seq (.seq (.reg [fl 25 3 9,l1 26 25])
 ((.block 0 (.seq (.reg [.o (.bin 28 .eql (sl 26) (ci 0)),mv 27 28])
 ((.cond (sl 27) (.reg [.o (.move 10 (ci (-1)))])
 (.seq (.reg [.o (.bin 30 .eql (sl 26) (ci 1)),mv 29 30])
 ((.cond (sl 29) (.reg [.o (.move 10 (ci 1))])
 .skip)))))))))
 ((.seq (.seq (.reg [mv 31 10])
 ((.block 1 (.seq (.reg [.o (.bin 33 .eql (sl 31) (ci 1)),mv 32 33])
 ((.cond (sl 32) (.seq (.reg [fl 34 2 9,l1 35 34,mv 8 35])
 (.ret))
 (.seq (.reg [.o (.bin 37 .eql (sl 31) (ci (-1))),mv 36 37])
 ((.cond (sl 36) (.seq (.reg [fl 38 1 9,l1 39 38,.o (.un 40 .neg (sl 39)),mv 8 40])
 (.ret))
 .skip)))))))))
 ((.seq (.reg [.o (.move 8 (ci 0))])
 (.ret))))))))))))
theorem q0am {rin args Q} (ha : args.length <= 41) (h : fW 41 q03o [.tmp 8] rin args Q) : Fun Tryz.prog 85 rin args Q :=
 Fun.of (H := ⟨[], []⟩) Tryz.func85 rfl rfl rfl (by kernel_rfl) ha (by decide) h

def q055 : CC :=
 (.seq (.reg [.o (.move 6 (ci 0)),.o (.move 7 (ci 0))])
 ((.seq (.seq (.reg [mv 8 0,.o (.nilc 9 (sl 8)),fl 10 3 9,l1 11 10,.o (.bin 12 .eql (sl 11) (ci 0))])
 ((.cond (sl 12) (.seq (.reg [mv 13 1,mv 14 2,mv 6 13,mv 7 14])
 (.ret))
 .skip)))
 ((.seq (.reg [mv 15 2,mv 16 1,mv 6 15,mv 7 16])
 (.ret))))))
theorem q0c3 {rin args Q} (ha : args.length <= 17) (h : fW 17 q055 [.tmp 6, .tmp 7] rin args Q) : Fun Tryz.prog 86 rin args Q :=
 Fun.of (H := ⟨[], []⟩) Tryz.func86 rfl rfl rfl (by kernel_rfl) ha (by decide) h

def q0yf : CC :=
 (.seq (.reg [.o (.alloc 0 [.v (.slice none 0 0), .v (.slice none 0 0), .v (.slice none 0 0)])])
 ((.seq (.reg [.o (.call (some 4) (cf 102) [(ci 1), (ci 1), (ci 0)]),mv 3 4,.o (.extract 5 (sl 3) 0),.o (.extract 6 (sl 3) 1),.o (.alloc 1 [.v (.slice none 0 0)]),.o (.store 1 (sl 1) (sl 5)),mv 2 6])
 ((.seq (.reg [ln 7 1 1,.o (.call (some 8) (cf 92) [(sl 7), (ci 3), (cb false)]),.o (.store 3 (sl 0) (sl 8))])
 (.ret))))))
theorem q0zk {rin args Q} (ha : args.length <= 9) (h : fW 9 q0yf [.cell 0 29] rin args Q) : Fun Tryz.prog 91 rin args Q :=
 Fun.of (H := ⟨[], []⟩) Tryz.func91 rfl rfl rfl (by kernel_rfl) ha (by decide) h

def q0yq : CC :=
 (.seq (.reg [.o (.box 3 (sl 0)),.o (.alloc 6 [.v (.slice none 0 0), .v (.slice none 0 0), .v (.slice none 0 0)])])
 ((.seq (.reg [.o (.bslice 13 1 0 []),.o (.bslice 14 1 0 []),mv 7 13,mv 8 14])
 ((.seq (.seq (.reg [.o (.move 9 (ci 0))])
 ((.block 0 (.loop (.seq (.seq (.reg [mv 15 9,mv 16 1,.o (.bin 17 .lss (sl 15) (sl 16))])
 ((.cond (sl 17) .skip
 (.exit 0))))
 ((.seq (.block 1 (.seq (.reg [.o (.bslice 20 1 0 []),.o (.bslice 21 1 0 []),mv 10 20,mv 11 21])
 ((.seq (.seq (.reg [.o (.move 12 (ci 0))])
 ((.block 2 (.loop (.seq (.seq (.reg [mv 22 12,mv 23 1,.o (.bin 24 .lss (sl 22) (sl 23))])
 ((.cond (sl 24) .skip
 (.exit 2))))
 ((.seq (.block 3 (.seq (.seq (.reg [mv 27 9,mv 28 12,.o (.bin 29 .eql (sl 27) (sl 28)),mv 30 29,.g 30 true (some 31) (.move 31 (sl 2)),.g 30 true (some 32) (.un 32 .not (sl 31)),.o (.pick 33 (sl 30) (sl 32) (cb false))])
 ((.cond (sl 33) (.reg [mv 34 10,.o (.bslice 35 1 1 [(0, (ci 0))]),.o (.app 36 1 8 (sl 34) (sl 35)),mv 10 36])
 (.reg [mv 37 10,.o (.bslice 38 1 1 [(0, (ci 1))]),.o (.app 39 1 8 (sl 37) (sl 38)),mv 10 39]))))
 ((.reg [mv 40 11,mv 41 9,mv 42 12,.o (.call (some 43) (cf 103) [(sl 41), (sl 42)]),.o (.bslice 44 1 1 [(0, (sl 43))]),.o (.app 45 1 8 (sl 40) (sl 44)),mv 11 45]))))
 ((.reg [mv 25 12,.o (.bin 26 .add (sl 25) (ci 1)),mv 12 26])))))))))
 ((.seq (.reg [mv 46 7,mv 47 10,.o (.bslice 48 1 1 [(0, (sl 47))]),.o (.app 49 1 24 (sl 46) (sl 48)),mv 7 49])
 ((.reg [mv 50 8,mv 51 11,.o (.bslice 52 1 1 [(0, (sl 51))]),.o (.app 53 1 24 (sl 50) (sl 52)),mv 8 53]))))))))
 ((.reg [mv 18 9,.o (.bin 19 .add (sl 18) (ci 1)),mv 9 19])))))))))
 ((.seq (.reg [ln 54 1 3,.o (.call (some 55) (cf 104) [(sl 54)]),mv 56 7,mv 57 8,.o (.build 58 [.v (.slice none 0 0), .v (.slice none 0 0), .v (.slice none 0 0)] [(0, 1), (1, 1), (2, 1)] [(0, (sl 55)), (1, (sl 56)), (2, (sl 57))]),.o (.store 3 (sl 6) (sl 58))])
 (.ret))))))))
theorem q0zv {rin args Q} (ha : args.length <= 59) (h : fW 59 q0yq [.cell 6 29] rin args Q) : Fun Tryz.prog 92 rin args Q :=
 Fun.of (H := ⟨[], []⟩) Tryz.func92 rfl rfl rfl (by kernel_rfl) ha (by decide) h

def q0yo : CC :=
 (.seq (.reg [.o (.alloc 2 [.v (.slice none 0 0)])])
 ((.seq (.seq (.reg [mv 8 0,.o (.call (some 9) (cf 37) [(sl 8), (ci 5)])])
 ((.block 0 (.seq (.reg [.o (.bin 11 .eql (sl 9) (ci 0)),mv 10 11])
 ((.cond (sl 10) (.seq (.reg [.o (.bslice 12 5 0 []),mv 3 12])
 ((.seq (.reg [mv 13 0,mv 14 3,.o (.call (some 15) (cf 105) [(sl 13), (sl 14), (ci 3)]),mv 3 15])
 ((.seq (.reg [mv 16 3,.o (.build 17 [.v (.slice none 0 0)] [(0, 1)] [(0, (sl 16))]),.o (.store 1 (sl 2) (sl 17))])
 (.ret))))))
 (.seq (.reg [.o (.bin 19 .eql (sl 9) (ci 1)),mv 18 19])
 ((.cond (sl 18) (.seq (.reg [mv 21 0,.o (.call (some 22) (cf 37) [(sl 21), (ci 4)]),mv 23 0,.o (.call (some 24) (cf 37) [(sl 23), (ci 5)]),.o (.bin 25 .add (ci 1) (sl 24)),.o (.call (some 26) (cf 102) [(sl 22), (sl 25), (ci 1)]),mv 20 26,.o (.extract 27 (sl 20) 0),.o (.extract 28 (sl 20) 1),.o (.alloc 4 [.v (.slice none 0 0)]),.o (.store 1 (sl 4) (sl 27)),mv 5 28])
 ((.seq (.reg [ln 29 1 4,.o (.store 1 (sl 2) (sl 29))])
 (.ret))))
 .skip)))))))))
 ((.seq (.reg [mv 31 0,.o (.call (some 32) (cf 37) [(sl 31), (ci 3)]),.o (.bin 33 .add (ci 1) (sl 32)),mv 34 0,.o (.call (some 35) (cf 37) [(sl 34), (ci 4)]),.o (.bin 36 .add (ci 1) (sl 35)),.o (.call (some 37) (cf 102) [(sl 33), (sl 36), (ci 0)]),mv 30 37,.o (.extract 38 (sl 30) 0),.o (.extract 39 (sl 30) 1),.o (.alloc 6 [.v (.slice none 0 0)]),.o (.store 1 (sl 6) (sl 38)),mv 7 39])
 ((.seq (.reg [ln 40 1 6,.o (.store 1 (sl 2) (sl 40))])
 (.ret))))))))
theorem q0zt {rin args Q} (ha : args.length <= 41) (h : fW 41 q0yo [.cell 2 26] rin args Q) : Fun Tryz.prog 93 rin args Q :=
 Fun.of (H := ⟨[], []⟩) Tryz.func93 rfl rfl rfl (by kernel_rfl) ha (by decide) h

def q04o : CC :=
 (.seq (.reg [.o (.move 4 (cb false))])
 ((.seq (.seq (.reg [.o (.move 5 (ci 0))])
 ((.block 0 (.loop (.seq (.seq (.reg [mv 6 5,mv 7 0,.o (.lenS 8 (sl 7)),.o (.bin 9 .lss (sl 6) (sl 8))])
 ((.cond (sl 9) .skip
 (.exit 0))))
 ((.seq (.block 1 (.seq (.draw [] [kr (mv 12 0),kr (mv 13 5),kr (ix 14 12 13),kr (l1 15 14),kr (mv 16 1),kr (.o (.bin 17 .sub (sl 16) (ci 1))),kr (.o (.call (some 18) (cf 67) [(sl 15), (ci 0), (sl 17)])),kr (.o (.un 19 .not (sl 18))),kr (mv 20 19),(kR, .g 20 false (some 21) (.move 21 (sl 5))),(kR, .g 20 false (some 22) (.bin 22 .gtr (sl 21) (ci 0))),(kR, .g 20 false (some 23) (.move 23 (sl 22))),(kR, .g 23 true (some 24) (.move 24 (sl 0))),(kR, .g 23 true (some 25) (.move 25 (sl 5))),(kR, .g 23 true (some 26) (.idx 26 1 (sl 24) (sl 25))),(kR, .g 23 true (some 27) (.load1 27 (sl 26))),(kR, .g 23 true (some 28) (.move 28 (sl 0))),(kR, .g 23 true (some 29) (.move 29 (sl 5))),(kR, .g 23 true (some 30) (.bin 30 .sub (sl 29) (ci 1))),(kR, .g 23 true (some 31) (.idx 31 1 (sl 28) (sl 30))),(kR, .g 23 true (some 32) (.load1 32 (sl 31))),(kR, .g 23 true (some 33) (.bin 33 .leq (sl 27) (sl 32))),(kR, .g 20 false (some 34) (.pick 34 (sl 23) (sl 33) (cb false))),kr (.o (.pick 35 (sl 20) (cb true) (sl 34)))])
 ((.cond (sl 35) (.seq (.reg [.o (.move 4 (cb false))])
 (.ret))
 .skip))))
 ((.reg [mv 10 5,.o (.bin 11 .add (sl 10) (ci 1)),mv 5 11])))))))))
 ((.seq (.reg [.o (.move 4 (cb true))])
 (.ret))))))
theorem q0bm {rin args Q} (ha : args.length <= 36) (h : fW 36 q04o [.tmp 4] rin args Q) : Fun Tryz.prog 94 rin args Q :=
 Fun.of (H := ⟨[], []⟩) Tryz.func94 rfl rfl rfl (by kernel_rfl) ha (by decide) h

def q04v : CC :=
 (.seq (.reg [.o (.box 4 (sl 0)),.o (.move 8 (ci 0))])
 ((.seq (.reg [fl 11 0 4,fl 12 0 11,l1 13 12,mv 14 1,.o (.idx 15 5 (sl 13) (sl 14)),ln 16 5 15,.o (.alloc 9 [.v (.int .i64 0), .v (.int .i64 0), .v (.int .i64 0), .v (.int .i64 0), .v (.slice none 0 0)]),.o (.store 5 (sl 9) (sl 16))])
 ((.seq (.reg [fl 17 2 4,l1 18 17,mv 19 2,ix 20 18 19,l1 21 20,mv 22 3,ix 23 21 22,l1 24 23,mv 10 24])
 ((.seq (.seq (.reg [fl 25 3 9,l1 26 25])
 ((.block 0 (.seq (.reg [.o (.bin 28 .eql (sl 26) (ci 0)),mv 27 28])
 ((.cond (sl 27) (.reg [.o (.move 10 (ci (-1)))])
 (.seq (.reg [.o (.bin 30 .eql (sl 26) (ci 1)),mv 29 30])
 ((.cond (sl 29) (.reg [.o (.move 10 (ci 1))])
 .skip)))))))))
 ((.seq (.seq (.reg [mv 31 10])
 ((.block 1 (.seq (.reg [.o (.bin 33 .eql (sl 31) (ci (-1))),mv 32 33])
 ((.cond (sl 32) (.seq (.reg [fl 34 1 9,l1 35 34,.o (.un 36 .neg (sl 35)),mv 8 36])
 (.ret))
 (.seq (.reg [.o (.bin 38 .eql (sl 31) (ci 1)),mv 37 38])
 ((.cond (sl 37) (.seq (.reg [fl 39 2 9,l1 40 39,mv 8 40])
 (.ret))
 .skip)))))))))
 ((.seq (.reg [.o (.move 8 (ci 0))])
 (.ret))))))))))))
theorem q0bt {rin args Q} (ha : args.length <= 41) (h : fW 41 q04v [.tmp 8] rin args Q) : Fun Tryz.prog 95 rin args Q :=
 Fun.of (H := ⟨[], []⟩) Tryz.func95 rfl rfl rfl (by kernel_rfl) ha (by decide) h

def q052 : CC :=
 (.seq (.reg [.o (.box 4 (sl 0)),.o (.move 8 (ci 0))])
 ((.seq (.reg [fl 11 0 4,ln 12 1 11,mv 13 1,.o (.call (some 14) (cf 80) [(sl 12), (sl 13)]),mv 9 14])
 ((.seq (.seq (.reg [.o (.move 10 (ci 0))])
 ((.block 0 (.loop (.seq (.seq (.reg [mv 15 10,mv 16 9,.o (.lenS 17 (sl 16)),.o (.bin 18 .lss (sl 15) (sl 17))])
 ((.cond (sl 18) .skip
 (.exit 0))))
 ((.seq (.block 1 (.seq (.reg [mv 21 9,mv 22 10,ix 23 21 22,l1 24 23,mv 25 2,.o (.bin 26 .eql (sl 24) (sl 25))])
 ((.cond (sl 26) (.seq (.reg [mv 27 10,fl 28 1 4,l1 29 28,.o (.lenS 30 (sl 29)),.o (.bin 31 .mul (sl 27) (sl 30)),mv 32 3,.o (.bin 33 .add (sl 31) (sl 32)),mv 8 33])
 (.ret))
 .skip))))
 ((.reg [mv 19 10,.o (.bin 20 .add (sl 19) (ci 1)),mv 10 20])))))))))
 ((.seq (.reg [.o (.move 8 (ci (-1)))])
 (.ret))))))))
theorem q0c0 {rin args Q} (ha : args.length <= 34) (h : fW 34 q052 [.tmp 8] rin args Q) : Fun Tryz.prog 96 rin args Q :=
 Fun.of (H := ⟨[], []⟩) Tryz.func96 rfl rfl rfl (by kernel_rfl) ha (by decide) h

def q0yc : CC :=
 (.seq (.reg [.o (.alloc 6 [.v (.slice none 0 0)]),.o (.move 7 (ci 0))])
 ((.seq (.seq (.reg [mv 8 0,.o (.call (some 9) (cf 67) [(sl 8), (ci 0), (ci 100)]),.o (.un 10 .not (sl 9)),mv 11 10,.g 11 false (some 12) (.move 12 (sl 1)),.g 11 false (some 13) (.call (some 13) (cf 67) [(sl 12), (ci 1), (ci 100)]),.g 11 false (some 14) (.un 14 .not (sl 13)),.o (.pick 15 (sl 11) (cb true) (sl 14)),mv 16 15,.g 16 false (some 17) (.move 17 (sl 2)),.g 16 false (some 18) (.call (some 18) (cf 67) [(sl 17), (ci 0), (ci 2)]),.g 16 false (some 19) (.un 19 .not (sl 18)),.o (.pick 20 (sl 16) (cb true) (sl 19)),mv 21 20,.g 21 false (some 22) (.move 22 (sl 0)),.g 21 false (some 23) (.move 23 (sl 1)),.g 21 false (some 24) (.move 24 (sl 2)),.g 21 false (some 25) (.bin 25 .add (sl 24) (ci 1)),.g 21 false (some 26) (.bin 26 .mul (sl 23) (sl 25)),.g 21 false (some 27) (.bin 27 .add (sl 22) (sl 26)),.g 21 false (some 28) (.bin 28 .gtr (sl 27) (ci 100)),.o (.pick 29 (sl 21) (cb true) (sl 28))])
 ((.cond (sl 29) (.seq (.reg [.o (.build 30 [.v (.slice none 0 0)] [(0, 1)] []),.o (.store 1 (sl 6) (sl 30)),.o (.move 7 (ci 2))])
 (.ret))
 .skip)))
 ((.seq (.reg [mv 31 0,mv 32 0,mv 33 1,mv 34 2,.o (.call (some 35) (cf 111) [(cv (.slice none 0 0)), (ci 0), (sl 31), (sl 32), (sl 33), (sl 34), (cb false)]),.o (.build 36 [.v (.slice none 0 0)] [(0, 1)] [(0, (sl 35))]),.o (.store 1 (sl 6) (sl 36)),.o (.move 7 (ci 0))])
 (.ret))))))
theorem q0zh {rin args Q} (ha : args.length <= 37) (h : fW 37 q0yc [.cell 6 26, .tmp 7] rin args Q) : Fun Tryz.prog 102 rin args Q :=
 Fun.of (H := ⟨[], []⟩) Tryz.func102 rfl rfl rfl (by kernel_rfl) ha (by decide) h

def q0yk : CC :=
 (.seq (.reg [.o (.move 4 (ci 0))])
 ((.seq (.block 0 (.seq (.reg [mv 6 0,mv 7 1,.o (.bin 8 .lss (sl 6) (sl 7)),mv 5 8])
 ((.cond (sl 5) (.seq (.reg [.o (.move 4 (ci (-1)))])
 (.ret))
 (.seq (.reg [mv 10 0,mv 11 1,.o (.bin 12 .gtr (sl 10) (sl 11)),mv 9 12])
 ((.cond (sl 9) (.seq (.reg [.o (.move 4 (ci 1))])
 (.ret))
 .skip)))))))
 ((.seq (.reg [.o (.move 4 (ci 0))])
 (.ret))))))
theorem q0zp {rin args Q} (ha : args.length <= 13) (h : fW 13 q0yk [.tmp 4] rin args Q) : Fun Tryz.prog 103 rin args Q :=
 Fun.of (H := ⟨[], []⟩) Tryz.func103 rfl rfl rfl (by kernel_rfl) ha (by decide) h

def q0yr : CC :=
 (.seq (.reg [.o (.box 1 (sl 0)),.o (.alloc 2 [.v (.slice none 0 0)])])
 ((.seq (.reg [.o (.bslice 6 5 0 []),mv 3 6])
 ((.seq (.seq (.reg [.o (.move 4 (ci 0))])
 ((.block 0 (.loop (.seq (.seq (.reg [mv 7 4,fl 8 0 1,l1 9 8,.o (.lenS 10 (sl 9)),.o (.bin 11 .lss (sl 7) (sl 10))])
 ((.cond (sl 11) .skip
 (.exit 0))))
 ((.seq (.block 1 (.seq (.reg [fl 14 0 1,l1 15 14,mv 16 4,.o (.idx 17 5 (sl 15) (sl 16)),ln 18 5 17,.o (.alloc 5 [.v (.int .i64 0), .v (.int .i64 0), .v (.int .i64 0), .v (.int .i64 0), .v (.slice none 0 0)]),.o (.store 5 (sl 5) (sl 18))])
 ((.seq (.reg [fl 19 4 5,l1 20 19,.o (.call (some 21) (cf 44) [(sl 20)]),fl 22 4 5,.o (.store 1 (sl 22) (sl 21))])
 ((.reg [mv 23 3,ln 24 5 5,.o (.bslice 25 5 1 [(0, (sl 24))]),.o (.app 26 5 56 (sl 23) (sl 25)),mv 3 26]))))))
 ((.reg [mv 12 4,.o (.bin 13 .add (sl 12) (ci 1)),mv 4 13])))))))))
 ((.seq (.reg [mv 27 3,.o (.build 28 [.v (.slice none 0 0)] [(0, 1)] [(0, (sl 27))]),.o (.store 1 (sl 2) (sl 28))])
 (.ret))))))))
theorem q0zw {rin args Q} (ha : args.length <= 29) (h : fW 29 q0yr [.cell 2 26] rin args Q) : Fun Tryz.prog 104 rin args Q :=
 Fun.of (H := ⟨[], []⟩) Tryz.func104 rfl rfl rfl (by kernel_rfl) ha (by decide) h

def q0yn : CC :=
 (.seq (.reg [.o (.move 6 (cv (.slice none 0 0)))])
 ((.seq (.reg [mv 12 1,.o (.lenS 13 (sl 12)),mv 7 13])
 ((.seq (.reg [mv 14 0,.o (.call (some 15) (cf 37) [(sl 14), (ci 6)]),mv 8 15])
 ((.seq (.seq (.reg [mv 16 2,.o (.bin 17 .eql (sl 16) (ci 0)),mv 18 17,.g 18 false (some 19) (.move 19 (sl 1)),.g 18 false (some 20) (.lenS 20 (sl 19)),.g 18 false (some 21) (.bin 21 .gtr (sl 20) (ci 30)),.o (.pick 22 (sl 18) (cb true) (sl 21)),mv 23 22,.g 23 false (some 24) (.move 24 (sl 1)),.g 23 false (some 25) (.lenS 25 (sl 24)),.g 23 false (some 26) (.bin 26 .gtr (sl 25) (ci 0)),.g 23 false (some 27) (.move 27 (sl 26)),.g 27 true (some 28) (.move 28 (sl 0)),.g 27 true (some 29) (.call (some 29) (cf 37) [(sl 28), (ci 3)]),.g 27 true (some 30) (.bin 30 .eql (sl 29) (ci 0)),.g 23 false (some 31) (.pick 31 (sl 27) (sl 30) (cb false)),.o (.pick 32 (sl 23) (cb true) (sl 31))])
 ((.cond (sl 32) (.seq (.reg [mv 33 8,mv 34 8,mv 35 0,.o (.call (some 36) (cf 37) [(sl 35), (ci 3)]),.o (.bin 37 .sub (sl 36) (ci 1)),.o (.build 38 [.v (.int .i64 0), .v (.int .i64 0), .v (.int .i64 0), .v (.int .i64 0), .v (.slice none 0 0)] [(0, 1), (1, 1), (2, 1), (3, 1), (4, 1)] [(0, (ci 2)), (1, (sl 33)), (2, (sl 34)), (3, (sl 37))]),.o (.alloc 9 [.v (.int .i64 0), .v (.int .i64 0), .v (.int .i64 0), .v (.int .i64 0), .v (.slice none 0 0)]),.o (.store 5 (sl 9) (sl 38))])
 ((.seq (.seq (.reg [fl 39 3 9,l1 40 39,.o (.bin 41 .geq (sl 40) (ci 0))])
 ((.cond (sl 41) (.reg [mv 42 0,.o (.call (some 43) (cf 37) [(sl 42), (ci 6)]),fl 44 2 9,.o (.store 1 (sl 44) (sl 43))])
 .skip)))
 ((.seq (.reg [mv 45 1,ln 46 5 9,.o (.bslice 47 5 1 [(0, (sl 46))]),.o (.app 48 5 56 (sl 45) (sl 47)),mv 6 48])
 (.ret))))))
 .skip)))
 ((.seq (.reg [mv 49 1,mv 50 0,.o (.call (some 51) (cf 37) [(sl 50), (ci 2)]),mv 52 8,mv 53 8,.o (.build 54 [.v (.int .i64 0), .v (.int .i64 0), .v (.int .i64 0), .v (.int .i64 0), .v (.slice none 0 0)] [(0, 1), (1, 1), (2, 1), (3, 1), (4, 1)] [(0, (sl 51)), (1, (sl 52)), (2, (sl 53)), (3, (ci (-1)))]),.o (.bslice 55 5 1 [(0, (sl 54))]),.o (.app 56 5 56 (sl 49) (sl 55)),mv 1 56])
 ((.seq (.reg [.o (.bslice 57 1 0 []),mv 10 57])
 ((.seq (.seq (.reg [mv 58 0,.o (.call (some 59) (cf 37) [(sl 58), (ci 3)]),.o (.bin 60 .add (ci 1) (sl 59)),mv 11 60])
 ((.block 0 (.loop (.seq (.seq (.reg [mv 61 11,.o (.bin 62 .gtr (sl 61) (ci 0))])
 ((.cond (sl 62) .skip
 (.exit 0))))
 ((.seq (.block 1 (.seq (.reg [mv 65 10,mv 66 1,.o (.lenS 67 (sl 66)),.o (.bslice 68 1 1 [(0, (sl 67))]),.o (.app 69 1 8 (sl 65) (sl 68)),mv 10 69])
 ((.reg [mv 70 0,mv 71 1,mv 72 2,.o (.bin 73 .sub (sl 72) (ci 1)),.o (.call (some 74) (cf 105) [(sl 70), (sl 71), (sl 73)]),mv 1 74]))))
 ((.reg [mv 63 11,.o (.bin 64 .sub (sl 63) (ci 1)),mv 11 64])))))))))
 ((.seq (.reg [mv 75 1,mv 76 7,mv 77 10,.o (.idx 78 5 (sl 75) (sl 76)),fl 79 4 78,.o (.store 1 (sl 79) (sl 77))])
 ((.seq (.reg [mv 80 1,mv 6 80])
 (.ret))))))))))))))))))
theorem q0zs {rin args Q} (ha : args.length <= 81) (h : fW 81 q0yn [.tmp 6] rin args Q) : Fun Tryz.prog 105 rin args Q :=
 Fun.of (H := ⟨[], []⟩) Tryz.func105 rfl rfl rfl (by kernel_rfl) ha (by decide) h

def q0ym : CC :=
 (.seq (.reg [.o (.move 14 (cv (.slice none 0 0)))])
 ((.seq (.reg [mv 19 0,.o (.lenS 20 (sl 19)),mv 15 20])
 ((.seq (.reg [mv 21 0,mv 22 1,mv 23 2,mv 24 3,.o (.build 25 [.v (.int .i64 0), .v (.int .i64 0), .v (.int .i64 0), .v (.int .i64 0), .v (.slice none 0 0)] [(0, 1), (1, 1), (2, 1), (3, 1), (4, 1)] [(0, (sl 22)), (1, (sl 23)), (2, (sl 24)), (3, (ci (-1)))]),.o (.bslice 26 5 1 [(0, (sl 25))]),.o (.app 27 5 56 (sl 21) (sl 26)),mv 0 27])
 ((.seq (.reg [mv 28 2,mv 29 3,mv 16 28,mv 17 29])
 ((.seq (.seq (.reg [mv 30 1,.o (.bin 31 .eql (sl 30) (ci 1))])
 ((.cond (sl 31) (.reg [mv 32 3,mv 33 2,mv 16 32,mv 17 33])
 .skip)))
 ((.seq (.reg [mv 34 0,.o (.lenS 35 (sl 34)),.o (.bslice 36 1 1 [(0, (sl 35))]),mv 18 36])
 ((.seq (.block 0 (.seq (.reg [mv 46 16,mv 47 17,.o (.bin 48 .lss (sl 46) (sl 47)),mv 45 48])
 ((.cond (sl 45) (.seq (.reg [mv 49 0,mv 50 2,mv 51 3,mv 52 1,.o (.build 53 [.v (.int .i64 0), .v (.int .i64 0), .v (.int .i64 0), .v (.int .i64 0), .v (.slice none 0 0)] [(0, 1), (1, 1), (2, 1), (3, 1), (4, 1)] [(0, (ci 2)), (1, (sl 50)), (2, (sl 51)), (3, (sl 52))]),.o (.bslice 54 5 1 [(0, (sl 53))]),.o (.app 55 5 56 (sl 49) (sl 54)),mv 0 55])
 ((.seq (.reg [mv 56 18,mv 57 0,.o (.lenS 58 (sl 57)),.o (.bslice 59 1 1 [(0, (sl 58))]),.o (.app 60 1 8 (sl 56) (sl 59)),mv 18 60])
 ((.seq (.reg [mv 61 0,mv 62 17,mv 63 17,.o (.build 64 [.v (.int .i64 0), .v (.int .i64 0), .v (.int .i64 0), .v (.int .i64 0), .v (.slice none 0 0)] [(0, 1), (1, 1), (2, 1), (3, 1), (4, 1)] [(0, (ci 2)), (1, (sl 62)), (2, (sl 63)), (3, (ci (-1)))]),.o (.bslice 65 5 1 [(0, (sl 64))]),.o (.app 66 5 56 (sl 61) (sl 65)),mv 0 66])
 ((.seq (.seq (.reg [mv 67 5,.o (.bin 68 .eql (sl 67) (ci 0))])
 ((.cond (sl 68) (.seq (.reg [mv 69 0,mv 70 15,mv 71 18,.o (.idx 72 5 (sl 69) (sl 70)),fl 73 4 72,.o (.store 1 (sl 73) (sl 71))])
 ((.seq (.reg [mv 74 0,mv 14 74])
 (.ret))))
 .skip)))
 ((.reg [mv 75 5,.o (.bin 76 .sub (sl 75) (ci 1)),mv 5 76])))))))))
 (.seq (.reg [mv 78 6,mv 77 78])
 ((.cond (sl 77) (.reg [mv 79 0,mv 80 2,mv 81 3,.o (.build 82 [.v (.int .i64 0), .v (.int .i64 0), .v (.int .i64 0), .v (.int .i64 0), .v (.slice none 0 0)] [(0, 1), (1, 1), (2, 1), (3, 1), (4, 1)] [(0, (ci 2)), (1, (sl 80)), (2, (sl 81)), (3, (ci (-1)))]),.o (.bslice 83 5 1 [(0, (sl 82))]),.o (.app 84 5 56 (sl 79) (sl 83)),mv 0 84])
 (.reg [mv 37 0,mv 38 1,.o (.bin 39 .sub (ci 1) (sl 38)),mv 40 2,mv 41 3,mv 42 4,mv 43 5,.o (.call (some 44) (cf 111) [(sl 37), (sl 39), (sl 40), (sl 41), (sl 42), (sl 43), (cb true)]),mv 0 44]))))))))
 ((.seq (.reg [mv 85 18,mv 86 0,.o (.lenS 87 (sl 86)),.o (.bslice 88 1 1 [(0, (sl 87))]),.o (.app 89 1 8 (sl 85) (sl 88)),mv 18 89])
 ((.seq (.seq (.reg [mv 90 1,.o (.bin 91 .eql (sl 90) (ci 0))])
 ((.cond (sl 91) (.reg [mv 92 17,mv 93 4,.o (.bin 94 .add (sl 92) (sl 93)),mv 2 94])
 (.reg [mv 95 17,mv 96 4,.o (.bin 97 .add (sl 95) (sl 96)),mv 3 97]))))
 ((.seq (.reg [mv 98 0,mv 99 1,.o (.bin 100 .sub (ci 1) (sl 99)),mv 101 2,mv 102 3,mv 103 4,mv 104 5,.o (.call (some 105) (cf 111) [(sl 98), (sl 100), (sl 101), (sl 102), (sl 103), (sl 104), (cb false)]),mv 0 105])
 ((.seq (.reg [mv 106 0,mv 107 15,mv 108 18,.o (.idx 109 5 (sl 106) (sl 107)),fl 110 4 109,.o (.store 1 (sl 110) (sl 108))])
 ((.seq (.reg [mv 111 0,mv 14 111])
 (.ret))))))))))))))))))))))))
theorem q0zr {rin args Q} (ha : args.length <= 112) (h : fW 112 q0ym [.tmp 14] rin args Q) : Fun Tryz.prog 111 rin args Q :=
 Fun.of (H := ⟨[], []⟩) Tryz.func111 rfl rfl rfl (by kernel_rfl) ha (by decide) h

theorem q0f9 (n lo hi : Int) : Pure Tryz.prog 47 [.i n, .i lo, .i hi] (.b (decide (lo <= n /\ n <= hi))) := by
 refine q0at (by simp) ?_
 simp -implicitDefEqProofs only [q03v, go_sem]
 refine ⟨fun h => ?_, fun h => ?_⟩
 ·have : lo <= n := h
  simp [this]
 ·have : ¬ lo <= n := h
  simp [this]

theorem q0eg (l : List Int) (lo hi : Int) (hl : l.length <= 1000000000000) : Pure Tryz.prog 48 [ints l, .i lo, .i hi] (.b (l.all fun x => decide (lo <= x /\ x <= hi))) := by
 refine q0ab (by simp) ?_
 simp -implicitDefEqProofs only [q03d, ints, go_sem]
 refine SemC.loopR (σ := Nat) (fun i => St.of [(0, .t (ints l)), (1, .t (.i lo)), (2, .t (.i hi)), (6, .t (.b false)), (9, .t (ints l)), (10, .t (.i l.length)), (11, .t (.i i))] []) (fun i => i <= l.length /\ ∀ x ∈ l.take i, lo <= x /\ x <= hi) (fun i => l.length - i) 0 (Weak.o _ [] [] ?_ trivial) ⟨by simp, by simp⟩ fun i hI R hn hr he => ?_
 ·simp -implicitDefEqProofs only [ints, wkR, Nat.reduceEqDiff, ↓reduceIte]
 ·simp -implicitDefEqProofs only [ints, go_sem]
  refine ⟨fun h => ⟨by omega, by omega, by omega, fun c x hx hc => ?_⟩, fun h => he _ _ ?_⟩
  ·subst hc
   rw [q0ve] at hx
   refine q006.pure (q0f9 x lo hi) [] rfl Tryz.call47 ?_ ?_ rfl ?_
   ·simp -implicitDefEqProofs only [vaR, go_sem]
   ·trivial
   ·simp -implicitDefEqProofs only [go_sem]
    refine ⟨fun h1 => hr _ ?_, fun h1 => hn _ (i + 1) (Weak.o _ [] [] ?_ trivial) ⟨by omega, q0uk hx hI.2 (by simpa using h1)⟩ (by omega)⟩
    ·simp -implicitDefEqProofs only [go_sem]
     have : l.all (fun x => decide (lo <= x /\ x <= hi)) = false := by
      rw [List.all_eq_false]
      exact ⟨x, List.mem_of_getElem? hx, by simp at h1 ⊢; omega⟩
     rw [this]
    ·simp -implicitDefEqProofs only [ints, wkR, Nat.reduceEqDiff, ↓reduceIte, q0lb (by omega : i < l.length) hl]
  ·simp -implicitDefEqProofs only [go_sem]
   have : l.all (fun x => decide (lo <= x /\ x <= hi)) = true := by
    rw [List.all_eq_true]
    intro x hx
    have := hI.2 x (by rw [List.take_of_length_le (by omega)]; exact hx)
    simpa using this
   rw [this]

def filled {α : Type} (l : List α) (f : α -> T) (z : T) (i : Nat) : List T := (l.take i).map f ++ List.replicate (l.length - i) z
theorem q095 {α : Type} (l : List α) (f : α -> T) (z : T) (i : Nat) (h : i <= l.length) : (filled l f z i).length = l.length := by
 simp [filled]; omega
theorem q096 {α : Type} {l : List α} {f : α -> T} {z : T} {i : Nat} {x : α} (h : l[i]? = some x) : (filled l f z i).set i (f x) = filled l f z (i + 1) := by
 obtain ⟨hi, rfl⟩ := List.getElem?_eq_some_iff.1 h
 refine List.ext_getElem? fun j => ?_
 simp only [filled, List.getElem?_set, List.getElem?_append, List.length_map, List.length_take, List.length_append, List.length_replicate, List.getElem?_map, List.getElem?_take, List.getElem?_replicate, Nat.min_eq_left (Nat.le_of_lt hi), Nat.min_eq_left hi]
 by_cases hj : i = j
 ·subst hj
  simp [hi]
  omega
 ·by_cases h1 : j < i
  ·simp [hj, h1, show j < i + 1 by omega]
  ·simp only [hj, h1, show ¬ j < i + 1 by omega, if_false]
   by_cases h2 : j < l.length
   ·rw [if_pos (by omega), if_pos (by omega)]
   ·rw [if_neg (by omega), if_neg (by omega)]
theorem q097 {α : Type} (l : List α) (f : α -> T) (z : T) : filled l f z 0 = List.replicate l.length z := by simp [filled]
theorem q093 {α : Type} (l : List α) (f : α -> T) (z : T) : filled l f z l.length = l.map f := by simp [filled]
theorem q0jc (z : T) (n : Nat) : made [z] n = List.replicate n z := rfl

theorem q0s4 (n lo hi : Int) : Pure Tryz.prog 67 [.i n, .i lo, .i hi] (.b (decide (lo <= n /\ n <= hi))) := by
 refine q0bk (by simp) ?_
 simp -implicitDefEqProofs only [q04m, go_sem]
 refine ⟨fun h => ?_, fun h => ?_⟩
 ·have : lo <= n := h
  simp [this]
 ·have : ¬ lo <= n := h
  simp [this]

theorem q0fb {l : List Int} : incr l = true ↔ ∀ i, i + 1 < l.length -> l.getD i 0 < l.getD (i + 1) 0 := by
 induction l with
 | nil => simp [incr]
 | cons a l ih =>
   cases l with
   | nil => simp [incr]
   | cons b l =>
     rw [incr, Bool.and_eq_true, decide_eq_true_eq, ih]
     constructor
     ·rintro ⟨h1, h2⟩ i hi
      cases i with
      | zero => simpa using h1
      | succ i => simpa using h2 i (by simpa using hi)
     ·intro h
      refine ⟨by simpa using h 0 (by simp), fun i hi => ?_⟩
      simpa using h (i + 1) (by simpa using hi)
theorem q0cr {l : List Int} {i : Nat} {x : Int} (h : l[i]? = some x) : l.getD i 0 = x := by rw [List.getD_eq_getElem?_getD, h]; rfl
theorem q0l1 {l : List Nd} {i : Nat} {x : Nd} (h : l[i]? = some x) : l.getD i nd0 = x := by rw [List.getD_eq_getElem?_getD, h]; rfl
theorem q0oc {i : Nat} (h : 1 <= i) (hi : i <= 1000000000000) : IntKind.i64.wrap ((i : Int) - 1) = ((i - 1 : Nat) : Int) := by rw [wrap64 (by omega) (by omega)]; omega

theorem q0en (l : List Int) (hl : l.length <= 1000000000000) : Pure Tryz.prog 75 [ints l] (.b (incr l)) := by
 refine q0ag (by simp) ?_
 simp -implicitDefEqProofs only [eR', go_sem, q03i]
 refine SemC.loopR (σ := Nat) (fun i => St.of [(0, .t (ints l)), (3, .t (.i i))] []) (fun i => 1 <= i /\ ∀ j, j + 1 < i -> j + 1 < l.length -> l.getD j 0 < l.getD (j + 1) 0) (fun i => l.length - i) 1 (Weak.o _ [] [] ?_ trivial) ⟨by omega, fun j hj => by omega⟩ fun i hI R hn hr he => ?_
 ·simp -implicitDefEqProofs only [ints, rows, wkR, Nat.reduceEqDiff, ↓reduceIte]
 ·simp -implicitDefEqProofs only [eR', go_sem]
  refine ⟨fun h => ?_, fun h => he _ _ ?_⟩
  ·have hil : i < l.length := by omega
   rw [q0oc hI.1 (by omega)]
   obtain ⟨x, hx⟩ : ∃ x, l[i - 1]? = some x := ⟨_, List.getElem?_eq_getElem (by omega)⟩
   obtain ⟨y, hy⟩ : ∃ y, l[i]? = some y := ⟨_, List.getElem?_eq_getElem (by omega)⟩
   simp -implicitDefEqProofs only [eR', go_sem, hx, hy, q0ve]
   refine ⟨by omega, by omega, by omega, by omega, by omega, by omega, fun h1 => hr _ ?_, fun h1 => hn _ (i + 1) (Weak.o _ [] [] ?_ trivial) ⟨by omega, fun j hj hjl => ?_⟩ (by omega)⟩
   ·simp -implicitDefEqProofs only [eR', go_sem]
    have : incr l = false := by
     cases hc : incr l with
     | false => rfl
     | true =>
       have := q0fb.1 hc (i - 1) (by omega)
       rw [show i - 1 + 1 = i by omega, q0cr hx, q0cr hy] at this
       omega
    rw [this]
   ·simp -implicitDefEqProofs only [ints, rows, wkR, Nat.reduceEqDiff, ↓reduceIte, q0lb hil hl]
   ·by_cases hji : j + 1 = i
    ·have e : j = i - 1 := by omega
     rw [hji, e, q0cr hx, q0cr hy]; omega
    ·exact hI.2 j (by omega) hjl
  ·simp -implicitDefEqProofs only [eR', go_sem]
   have : incr l = true := q0fb.2 fun j hj => hI.2 j (by omega) hj
   rw [this]

theorem q0s6 (l : List Int) (n : Nat) (hl : l.length <= 1000000000000) (hn0 : n <= 1000000000000) : Pure Tryz.prog 94 [ints l, .i n] (.b (rises n l)) := by
 have hw : IntKind.i64.wrap ((n : Int) - 1) = (n : Int) - 1 := wrap64 (by omega) (by omega)
 refine q0bm (by simp) ?_
 simp -implicitDefEqProofs only [eR', go_sem, q04o]
 refine SemC.loopR (σ := Nat) (fun i => St.of [(0, .t (ints l)), (1, .t (.i n)), (5, .t (.i i))] []) (fun i => i <= l.length /\ (∀ c ∈ l.take i, 0 <= c /\ c <= (n : Int) - 1) /\ ∀ j, j + 1 < i -> j + 1 < l.length -> l.getD j 0 < l.getD (j + 1) 0) (fun i => l.length - i) 0 (Weak.o _ [] [] ?_ trivial) ⟨by simp, by simp, fun j hj => by omega⟩ fun i hI R hn hr he => ?_
 ·simp -implicitDefEqProofs only [ints, rows, wkR, Nat.reduceEqDiff, ↓reduceIte]
 ·obtain ⟨hi, h2, h3⟩ := hI
  simp -implicitDefEqProofs only [eR', go_sem, hw]
  refine ⟨fun h => ?_, fun h => he _ _ ?_⟩
  ·have hil : i < l.length := by omega
   obtain ⟨y, hy⟩ : ∃ y, l[i]? = some y := ⟨_, List.getElem?_eq_getElem hil⟩
   refine ⟨by omega, by omega, by omega, fun y' hy' => ?_⟩
   rw [hy] at hy'; cases hy'
   refine q004.pure (q0s4 y 0 ((n : Int) - 1)) [] rfl Tryz.call67 (fun e R' hR => ?_) (by first | trivial | simp [T.noSh, T.noShL, rat]) (fun _ => rfl) ?_
   ·simp -implicitDefEqProofs only [aR', go_sem]
   simp -implicitDefEqProofs only [eR', go_sem]
   have next : 0 <= y /\ y <= (n : Int) - 1 -> ∀ c ∈ l.take (i + 1), 0 <= c /\ c <= (n : Int) - 1 := fun hy1 c hc => by
    rw [List.take_add_one, hy] at hc
    rcases List.mem_append.1 hc with hc | hc
    ·exact h2 c hc
    ·simp at hc; rw [hc]; exact hy1
   refine ⟨fun h1 => ⟨fun h4 => ?_, fun h4 => ?_⟩, fun h1 => hr _ ?_⟩
   ·have h1 : 0 <= y /\ y <= (n : Int) - 1 := by simpa using h1
    have hi1 : 1 <= i := by omega
    obtain ⟨x, hx⟩ : ∃ x, l[i - 1]? = some x := ⟨_, List.getElem?_eq_getElem (by omega)⟩
    rw [q0oc hi1 (by omega)]
    simp -implicitDefEqProofs only [eR', go_sem, hx, hy, q0ve]
    refine ⟨by omega, by omega, by omega, by omega, by omega, by omega, fun h5 => hr _ ?_, fun h5 => hn _ (i + 1) (Weak.o _ [] [] ?_ trivial) ⟨by omega, next h1, fun j hj hjl => ?_⟩ (by omega)⟩
    ·simp -implicitDefEqProofs only [eR', go_sem]
     have : rises n l = false := by
      cases hc : rises n l with
      | false => rfl
      | true =>
        rw [rises, Bool.and_eq_true] at hc
        have := q0fb.1 hc.2 (i - 1) (by omega)
        rw [show i - 1 + 1 = i by omega, q0cr hx, q0cr hy] at this
        omega
     rw [this]
    ·simp -implicitDefEqProofs only [ints, rows, wkR, Nat.reduceEqDiff, ↓reduceIte, q0lb hil hl]
    ·by_cases hji : j + 1 = i
     ·have e : j = i - 1 := by omega
      rw [hji, e, q0cr hx, q0cr hy]; omega
     ·exact h3 j (by omega) hjl
   ·have h1 : 0 <= y /\ y <= (n : Int) - 1 := by simpa using h1
    refine hn _ (i + 1) (Weak.o _ [] [] ?_ trivial) ⟨by omega, next h1, fun j hj hjl => h3 j (by omega) hjl⟩ (by omega)
    simp -implicitDefEqProofs only [ints, rows, wkR, Nat.reduceEqDiff, ↓reduceIte, q0lb hil hl]
   ·simp -implicitDefEqProofs only [eR', go_sem]
    have h1 : ¬ (0 <= y /\ y <= (n : Int) - 1) := by
     have h1 : y < 0 ∨ (n : Int) - 1 < y := by simpa using h1
     omega
    have : rises n l = false := by
     cases hc : rises n l with
     | false => rfl
     | true =>
       rw [rises, Bool.and_eq_true, List.all_eq_true] at hc
       have := hc.1 y (List.mem_of_getElem? hy)
       exact absurd (by simpa using this) h1
    rw [this]
  ·simp -implicitDefEqProofs only [eR', go_sem]
   have : rises n l = true := by
    rw [rises, Bool.and_eq_true, List.all_eq_true]
    refine ⟨fun c hc => by have := h2 c (by rw [List.take_of_length_le (by omega)]; exact hc); simpa using this, q0fb.2 fun j hj => h3 j (by omega) hj⟩
   rw [this]

theorem q0s5 (l : List Int) (hl : l.length <= 1000000000000) : Fun Tryz.prog 44 [] [.t (ints l)] fun o r => o = [] /\ r = intsO l := by
 refine q0bl (by simp) ?_
 simp -implicitDefEqProofs only [q04n, ints, go_sem]
 exact ⟨by omega, rfl⟩

theorem q0rq (l : List Int) (hl : l.length <= 1000000000000) : Fun Tryz.prog 41 [] [.t (ints l)] fun o r => o = [] /\ r = intsO l := by
 refine Fun.le (Q := fun o r => o = [] /\ (r = intsO l ∨ (l = [] /\ r = .v (.slice none 0 0)))) ?_ ?_
 ·refine q0bd (by simp) ?_
  simp -implicitDefEqProofs only [q04f, ints, go_sem]
  intro b hb
  exact ⟨fun h => .inr (by simpa using hb h), fun _ => ⟨by omega, .inl rfl⟩⟩
 ·rintro o r ⟨rfl, rfl | ⟨rfl, rfl⟩⟩
  ·exact ⟨_, .refl _, rfl, rfl⟩
  ·exact ⟨_, .nilArr 1, rfl, rfl⟩

theorem q0uj {α : Type} {l : List α} {i : Nat} {x : α} (h : l[i]? = some x) : l.take (i + 1) = l.take i ++ [x] := by
 rw [List.take_add_one, h]; rfl

def marks : Nat -> Int -> List Int
 | 0, _ => []
 | n + 1, k => k :: marks n (k + 1)
def held : List Int -> Int -> Int
 | [], k => k
 | x :: l, k => if x = k then held l (k + 1) else -1

def depI (l : List Nd) (f : Nat) (cs : List Int) : Int := cs.foldl (fun d c => max d (dep l f c.toNat)) 0
theorem q07v (l : List Nd) (f : Nat) (cs : List Int) (c : Int) : depI l f (cs ++ [c]) = max (depI l f cs) (dep l f c.toNat) := by simp [depI, List.foldl_append]
theorem q07u (l : List Nd) (f : Nat) : ∀ cs : List Int, 0 <= depI l f cs /\ depI l f cs <= f := by
 intro cs
 have key : ∀ (cs : List Int) (d : Int), 0 <= d /\ d <= f -> 0 <= cs.foldl (fun d c => max d (dep l f c.toNat)) d /\ cs.foldl (fun d c => max d (dep l f c.toNat)) d <= f := by
  intro cs
  induction cs with
  | nil => intro d h; exact h
  | cons c cs ih =>
    intro d h
    rw [List.foldl_cons]
    have := q07x (l := l) f c.toNat
    exact ih _ (by omega)
 exact key cs 0 (by omega)
theorem q07z {l : List Nd} {f i : Nat} {x : Nd} (hx : l[i]? = some x) : dep l (f + 1) i = if x.p = 2 then 0 else depI l f x.ch + 1 := by
 have := q0l1 hx
 unfold nd0 at this
 rw [dep, this]; rfl

theorem q0ek {l : List Nd} (hl : q0l2 l) (hln : l.length <= 1000000) : ∀ (f i : Nat), l.length <= i + f -> i < l.length -> f <= 1000000 -> Pure Tryz.prog 57 [q0vz l, .i i] (.i (dep l f i)) := by
 intro f
 induction f with
 | zero => intro i h1 h2; omega
 | succ f ih =>
   intro i h1 h2 hf
   obtain ⟨x, hx⟩ : ∃ x, l[i]? = some x := ⟨_, List.getElem?_eq_getElem h2⟩
   rw [q07z hx]
   refine q0ad (by simp) ?_
   simp -implicitDefEqProofs only [eR', go_sem, q03f, q0vz, nodes, q0kw hx]
   refine ⟨by omega, by rw [q0l0]; omega, by rw [q0l0]; omega, ?_⟩
   refine ⟨fun h => ?_, fun h => ?_⟩
   ·rw [if_pos (by simpa using h)]
   ·have hp : x.p ≠ 2 := by simpa using h
    rw [if_neg hp]
    have hch := q0kp (hl i x hx)
    have hcl := (q0ks (hl i x hx)).2.2.2.2.2
    refine SemC.loopR (σ := Nat) (fun k => St.of [(2, .own 2), (6, .t (.i (depI l f (x.ch.take k)))), (18, .t (ints x.ch)), (19, .t (.i x.ch.length)), (20, .t (.i k))] [(2, .box [nodes l])]) (fun k => k <= x.ch.length) (fun k => x.ch.length - k) 0 (Weak.o _ _ [some 2] ?_ ?_) (by simp) fun k hk R hn hr he => ?_
    ·simp -implicitDefEqProofs only [wR', Nat.reduceBEq, Nat.reduceEqDiff, ↓reduceIte, depI, List.take_zero, List.foldl_nil]
    ·exact ⟨⟨_, rfl, .refl _⟩, rfl, trivial⟩
    ·simp -implicitDefEqProofs only [eR', go_sem, nodes]
     refine ⟨fun h => ⟨by omega, by omega, by omega, fun c hc => ?_⟩, fun h => he _ _ ?_⟩
     ·have hcb := hch c (List.mem_of_getElem? hc)
      have hpure := ih c.toNat (by omega) (by omega) (by omega)
      rw [show ((c.toNat : Nat) : Int) = c by omega] at hpure
      simp only [q0vz, nodes] at hpure
      refine q006.p hpure [] rfl Tryz.call57 ?_ ?_
      ·simp -implicitDefEqProofs only [aR', go_sem]
      simp -implicitDefEqProofs only [eR', go_sem, q0vz, nodes]
      have e := q07v l f (x.ch.take k) c
      rw [← q0uj hc] at e
      refine hn _ (k + 1) (Weak.o _ _ [some 2] ?_ ?_) (by omega) (by omega)
      ·simp -implicitDefEqProofs only [wR', Nat.reduceBEq, Nat.reduceEqDiff, ↓reduceIte, q0lb (by omega : k < x.ch.length) (by omega), e]
      ·exact ⟨⟨_, rfl, .refl _⟩, rfl, trivial⟩
     ·simp -implicitDefEqProofs only [eR', go_sem]
      have hb := q07u l f x.ch
      rw [show k = x.ch.length by omega, List.take_length, wrap64 (by omega) (by omega)]

theorem q0s8 {l : List Nd} (hl : q0l2 l) (hln : l.length <= 1000000) : ∀ (f i : Nat), l.length <= i + f -> i < l.length -> f <= 1000000 -> Pure Tryz.prog 63 [q0vz l, .i i] (.i (dep l f i)) := by
 intro f
 induction f with
 | zero => intro i h1 h2; omega
 | succ f ih =>
   intro i h1 h2 hf
   obtain ⟨x, hx⟩ : ∃ x, l[i]? = some x := ⟨_, List.getElem?_eq_getElem h2⟩
   rw [q07z hx]
   refine q0bo (by simp) ?_
   simp -implicitDefEqProofs only [eR', go_sem, q04q, q0vz, nodes, q0kw hx]
   refine ⟨by omega, by rw [q0l0]; omega, by rw [q0l0]; omega, ?_⟩
   refine ⟨fun h => ?_, fun h => ?_⟩
   ·rw [if_pos (by simpa using h)]
   ·have hp : x.p ≠ 2 := by simpa using h
    rw [if_neg hp]
    have hch := q0kp (hl i x hx)
    have hcl := (q0ks (hl i x hx)).2.2.2.2.2
    refine SemC.loopR (σ := Nat) (fun k => St.of [(2, .own 2), (5, .own 5), (6, .t (.i (depI l f (x.ch.take k)))), (7, .t (.i k))] [(2, .box [nodes l]), (5, .box [.i x.p, .i x.a, .i x.b, .i x.f, ints x.ch])]) (fun k => k <= x.ch.length) (fun k => x.ch.length - k) 0 (Weak.o _ _ [some 2, some 5] ?_ ?_) (by simp) fun k hk R hn hr he => ?_
    ·simp -implicitDefEqProofs only [wR', Nat.reduceBEq, Nat.reduceEqDiff, ↓reduceIte, depI, List.take_zero, List.foldl_nil]
    ·exact ⟨⟨_, rfl, .refl _⟩, rfl, ⟨_, rfl, .refl _⟩, rfl, trivial⟩
    ·simp -implicitDefEqProofs only [eR', go_sem, nodes]
     refine ⟨fun h => ⟨by omega, by omega, by omega, fun c hc => ?_⟩, fun h => he _ _ ?_⟩
     ·have hcb := hch c (List.mem_of_getElem? hc)
      have hpure := ih c.toNat (by omega) (by omega) (by omega)
      rw [show ((c.toNat : Nat) : Int) = c by omega] at hpure
      simp only [q0vz, nodes] at hpure
      refine q004.pure hpure [] rfl Tryz.call63 (fun e R' hR => ?_) (by first | trivial | simp [T.noSh, T.noShL, rat]) (fun _ => rfl) ?_
      ·simp -implicitDefEqProofs only [aR', go_sem]
      simp -implicitDefEqProofs only [eR', go_sem, q0vz, nodes]
      have e := q07v l f (x.ch.take k) c
      rw [← q0uj hc] at e
      refine hn _ (k + 1) (Weak.o _ _ [some 2, some 5] ?_ ?_) (by omega) (by omega)
      ·simp -implicitDefEqProofs only [wR', Nat.reduceBEq, Nat.reduceEqDiff, ↓reduceIte, q0lb (by omega : k < x.ch.length) (by omega), e]
      ·exact ⟨⟨_, rfl, .refl _⟩, rfl, ⟨_, rfl, .refl _⟩, rfl, trivial⟩
     ·simp -implicitDefEqProofs only [eR', go_sem]
      have hb := q07u l f x.ch
      rw [show k = x.ch.length by omega, List.take_length, wrap64 (by omega) (by omega)]

theorem q0fy {l : List Nd} {i : Nat} {x : Nd} (hx : l[i]? = some x) (h : ndOK l.length i x = false) : q0fv l = false := by
 cases hc : q0fv l with
 | false => rfl
 | true =>
   have := (q0g0 hc).2.1 i x hx
   rw [h] at this; cases this
theorem q0fz {l : List Nd} {i : Nat} (hi : i < l.length) (h1 : 1 <= i) (h : occ i l ≠ 1) : q0fv l = false := by
 cases hc : q0fv l with
 | false => rfl
 | true => rcases (q0g0 hc).2.2.1 i hi with h2 | h2 <;> omega
theorem q0fx {l : List Nd} (h : ¬ (1 <= l.length /\ l.length <= 60)) : q0fv l = false := by
 cases hc : q0fv l with
 | false => rfl
 | true => exact absurd (q0g0 hc).1 h
theorem q0fw {l : List Nd} (h1 : 1 <= l.length /\ l.length <= 60) (h2 : q0l2 l) (h3 : ∀ i, i < l.length -> i = 0 ∨ occ i l = 1) : q0fv l = decide (dep l l.length 0 <= 5) := by
 rw [q0fv, decide_eq_true h1, (q0l3 l).2 h2]
 have : ((List.range l.length).all fun i => decide (i = 0 ∨ occ i l = 1)) = true := by
  rw [List.all_eq_true]
  intro i hi
  simpa using h3 i (List.mem_range.1 hi)
 rw [this]; simp
theorem q0kt {n i : Nat} {x : Nd} (h : ndOK n i x = true) (hp : x.p ≠ 2) : incr x.ch = true := by
 simp only [ndOK, Bool.and_eq_true] at h
 have h2 := h.2
 rw [if_neg hp] at h2
 simp only [Bool.and_eq_true] at h2
 exact h2.2
theorem q0ku {n i : Nat} {x : Nd} (h : ndOK n i x = true -> False) : ndOK n i x = false := by
 cases hc : ndOK n i x with
 | false => rfl
 | true => exact (h hc).elim
theorem q0kr {n i : Nat} {x : Nd} (h1 : 0 <= x.p /\ x.p <= 2) (h2 : 0 <= x.a /\ x.a <= 100) (h3 : 0 <= x.b /\ x.b <= 100) (hp : x.p = 2) (h4 : x.ch.length = 0) (h5 : -1 <= x.f /\ x.f <= 1) (h6 : x.f = -1 -> x.a = x.b) : ndOK n i x = true := by
 rw [ndOK, decide_eq_true h1, decide_eq_true h2, decide_eq_true h3, if_pos hp, decide_eq_true (List.length_eq_zero_iff.1 h4), decide_eq_true h5]
 by_cases hf : x.f = -1
 ·simp [h6 hf]
 ·simp [hf]
theorem q0kq {n i : Nat} {x : Nd} (h1 : 0 <= x.p /\ x.p <= 2) (h2 : 0 <= x.a /\ x.a <= 100) (h3 : 0 <= x.b /\ x.b <= 100) (hp : x.p ≠ 2) (h4 : x.f = -1) (h5 : 1 <= x.ch.length /\ x.ch.length <= 4) (h6 : (x.ch.all fun c => decide ((i : Int) + 1 <= c /\ c <= (n : Int) - 1)) = true) (h7 : incr x.ch = true) : ndOK n i x = true := by
 rw [ndOK, decide_eq_true h1, decide_eq_true h2, decide_eq_true h3, if_neg hp, decide_eq_true h4, decide_eq_true h5, h6, h7]; rfl

theorem q0m4 (c : Nat) : ∀ (m : List Nd), (∀ x ∈ m, x.ch.length <= 4) -> occ c m <= m.length * 4
 | [], _ => by simp [occ]
 | x :: m, hm => by
   have h1 := q0m4 c m fun y hy => hm y (by simp [hy])
   have h2 := hm x (by simp)
   have e : occ c (x :: m) = (if x.p = 2 then 0 else x.ch.count (c : Int)) + occ c m := by simp [occ]
   have h3 : (if x.p = 2 then 0 else x.ch.count (c : Int)) <= 4 := by
    split
    ·omega
    ·exact Nat.le_trans (List.count_le_length) h2
   rw [e, List.length_cons]; omega
theorem q0ef (l : List Nd) (hl : l.length <= 9223372036854775807) (hcl : ∀ x ∈ l, x.ch.length <= 9223372036854775807) : Pure Tryz.prog 46 [q0vz l] (.b (q0fv l)) := by
 refine q0aa (by simp) ?_
 simp -implicitDefEqProofs only [eR', go_sem, q03c, q0vz, nodes]
 refine q006.p (q0f9 l.length 1 60) [] rfl Tryz.call47 ?_ ?_
 ·simp -implicitDefEqProofs only [aR', go_sem]
 simp -implicitDefEqProofs only [eR', go_sem]
 refine ⟨fun h => ?_, fun h => ?_⟩
 ·rw [q0fx (by simp at h; omega)]
 ·have hn : 1 <= l.length /\ l.length <= 60 := by simp at h; omega
  refine ⟨by omega, by omega, ?_⟩
  refine SemC.loopR (σ := Nat) (fun i => St.of [(1, .own 1), (3, .t (.i l.length)), (4, .own 18), (20, .t (nodes l)), (21, .t (.i l.length)), (22, .t (.i i))] [(1, .box [nodes l]), (18, .arr 1 ((cntV l l.length i 0).map T.i))]) (fun i => i <= l.length /\ ∀ j x, j < i -> l[j]? = some x -> ndOK l.length j x = true) (fun i => l.length - i) 0 (Weak.o _ _ [some 1, some 18] ?_ ?_) ⟨by simp, fun j x hj => by omega⟩ fun i hI R hn' hr he => ?_
  ·simp -implicitDefEqProofs only [wR', Nat.reduceBEq, Nat.reduceEqDiff, ↓reduceIte, nodes]
  ·exact ⟨⟨_, rfl, .refl _⟩, rfl, ⟨_, rfl, by rw [q0jc, q06o, List.map_replicate]; exact .refl _⟩, rfl, trivial⟩
  ·obtain ⟨hi, hOK⟩ := hI
   simp -implicitDefEqProofs only [eR', go_sem, nodes]
   refine ⟨fun h => ?_, fun h => he _ _ ?_⟩
   ·have hil : i < l.length := by omega
    obtain ⟨x, hx⟩ : ∃ x, l[i]? = some x := ⟨_, List.getElem?_eq_getElem hil⟩
    have hwi : IntKind.i64.wrap ((i : Int) + 1) = (i : Int) + 1 := wrap64 (by omega) (by omega)
    have hwn : IntKind.i64.wrap ((l.length : Int) - 1) = (l.length : Int) - 1 := wrap64 (by omega) (by omega)
    have hno : (ndOK l.length i x = true -> False) -> q0fv l = false := fun h => q0fy hx (q0ku h)
    have hxc := hcl x (List.mem_of_getElem? hx)
    refine ⟨by omega, by rw [q0l0]; omega, by rw [q0l0]; omega, ?_⟩
    rw [q0kw hx]
    simp -implicitDefEqProofs only [eR', go_sem]
    refine q006.p (q0f9 x.p 0 2) [] rfl Tryz.call47 ?_ ?_
    ·simp -implicitDefEqProofs only [aR', go_sem]
    simp -implicitDefEqProofs only [eR', go_sem]
    refine ⟨fun h1 => ?_, fun h1 => hr _ ?_⟩
    rotate_left
    ·simp -implicitDefEqProofs only [eR', go_sem]
     rw [hno fun hok => by have := (q0ks hok).1; simp at h1; omega]
    have h1 : 0 <= x.p /\ x.p <= 2 := by simpa using h1
    refine q006.p (q0f9 x.a 0 100) [] rfl Tryz.call47 ?_ ?_
    ·simp -implicitDefEqProofs only [aR', go_sem]
    simp -implicitDefEqProofs only [eR', go_sem]
    refine ⟨fun h2 => ?_, fun h2 => hr _ ?_⟩
    rotate_left
    ·simp -implicitDefEqProofs only [eR', go_sem]
     rw [hno fun hok => by have := (q0ks hok).2.1; simp at h2; omega]
    have h2 : 0 <= x.a /\ x.a <= 100 := by simpa using h2
    refine q006.p (q0f9 x.b 0 100) [] rfl Tryz.call47 ?_ ?_
    ·simp -implicitDefEqProofs only [aR', go_sem]
    simp -implicitDefEqProofs only [eR', go_sem]
    refine ⟨fun h3 => hr _ ?_, fun h3 => ⟨fun h4 => ⟨fun h5 => ?_, fun h5 => hr _ ?_⟩, fun h4 => ⟨fun h5 => ?_, fun h5 => hr _ ?_⟩⟩⟩
    ·simp -implicitDefEqProofs only [eR', go_sem]
     rw [hno fun hok => by have := (q0ks hok).2.2.1; simp at h3; omega]
    ·-- the end of a way
     have h3 : 0 <= x.b /\ x.b <= 100 := by simpa using h3
     have h4 : x.p = 2 := by simpa using h4
     refine q006.p (q0f9 x.f (-1) 1) [] rfl Tryz.call47 ?_ ?_
     ·simp -implicitDefEqProofs only [aR', go_sem]
     simp -implicitDefEqProofs only [eR', go_sem]
     have hnext : ndOK l.length i x = true -> ∀ j y, j < i + 1 -> l[j]? = some y -> ndOK l.length j y = true := fun hok j y hj hy => by
      by_cases hji : j = i
      ·subst hji; rw [hx] at hy; cases hy; exact hok
      ·exact hOK j y (by omega) hy
     refine ⟨fun h6 => ⟨fun h7 => ⟨fun h8 => hr _ ?_, fun h8 => ?_⟩, fun h7 => ?_⟩, fun h6 => hr _ ?_⟩
     ·simp -implicitDefEqProofs only [eR', go_sem]
      rw [hno fun hok => by have := ((q0ks hok).2.2.2.1 h4).2.2.2 (by simpa using h7); simp [this] at h8]
     ·refine hn' _ (i + 1) (Weak.o _ _ [some 1, some 18] ?_ ?_) ⟨by omega, hnext (q0kr h1 h2 h3 h4 (by omega) (by simpa using h6) fun _ => by simpa using h8)⟩ (by omega)
      ·simp -implicitDefEqProofs only [wR', Nat.reduceBEq, Nat.reduceEqDiff, ↓reduceIte, nodes, q0lb hil (by omega)]
      ·exact ⟨⟨_, rfl, .refl _⟩, rfl, ⟨_, rfl, by rw [q06n hx (List.length_eq_zero_iff.1 (by omega))]; exact .refl _⟩, rfl, trivial⟩
     ·refine hn' _ (i + 1) (Weak.o _ _ [some 1, some 18] ?_ ?_) ⟨by omega, hnext (q0kr h1 h2 h3 h4 (by omega) (by simpa using h6) fun hf => by simp [hf] at h7)⟩ (by omega)
      ·simp -implicitDefEqProofs only [wR', Nat.reduceBEq, Nat.reduceEqDiff, ↓reduceIte, nodes, q0lb hil (by omega)]
      ·exact ⟨⟨_, rfl, .refl _⟩, rfl, ⟨_, rfl, by rw [q06n hx (List.length_eq_zero_iff.1 (by omega))]; exact .refl _⟩, rfl, trivial⟩
     ·simp -implicitDefEqProofs only [eR', go_sem]
      rw [hno fun hok => by have := (q0ks hok).2.2.2.1 h4; simp at h6; omega]
    ·simp -implicitDefEqProofs only [eR', go_sem]
     rw [hno fun hok => by have := (q0ks hok).2.2.2.1 (by simpa using h4); rw [this.1] at h5; simp at h5]
    ·-- a decision
     have h3 : 0 <= x.b /\ x.b <= 100 := by simpa using h3
     have h4 : ¬ x.p = 2 := by simpa using h4
     have h5 : x.f = -1 := by simpa using h5
     refine q006.p (q0f9 x.ch.length 1 4) [] rfl Tryz.call47 ?_ ?_
     ·simp -implicitDefEqProofs only [aR', go_sem]
     simp -implicitDefEqProofs only [eR', go_sem, hwi, hwn]
     refine ⟨fun h6 => ?_, fun h6 => hr _ ?_⟩
     rotate_left
     ·simp -implicitDefEqProofs only [eR', go_sem]
      rw [hno fun hok => by have := (q0ks hok).2.2.2.2.1 h4; have := (q0ks hok).2.2.2.2.2; simp at h6; omega]
     have h6 : 1 <= x.ch.length /\ x.ch.length <= 4 := by simp at h6; omega
     refine q006.p (q0eg x.ch ((i : Int) + 1) ((l.length : Int) - 1) (by omega)) [] rfl Tryz.call48 ?_ ?_
     ·simp -implicitDefEqProofs only [aR', go_sem]
     simp -implicitDefEqProofs only [eR', go_sem]
     refine ⟨fun h7 => ?_, fun h7 => hr _ ?_⟩
     rotate_left
     ·simp -implicitDefEqProofs only [eR', go_sem]
      rw [hno fun hok => by
       have hc := q0kp hok
       have : (x.ch.all fun c => decide ((i : Int) + 1 <= c /\ c <= (l.length : Int) - 1)) = true := by rw [List.all_eq_true]; intro c hcm; exact decide_eq_true (hc c hcm)
       rw [this] at h7; simp at h7]
     have h7 : (x.ch.all fun c => decide ((i : Int) + 1 <= c /\ c <= (l.length : Int) - 1)) = true := by simpa using h7
     refine q006.p (q0en x.ch (by omega)) [] rfl Tryz.call75 ?_ ?_
     ·simp -implicitDefEqProofs only [aR', go_sem]
     simp -implicitDefEqProofs only [eR', go_sem]
     refine ⟨fun h8 => hr _ ?_, fun h8 => ?_⟩
     ·simp -implicitDefEqProofs only [eR', go_sem]
      rw [hno fun hok => by rw [q0kt hok h4] at h8; simp at h8]
     have h8 : incr x.ch = true := by simpa using h8
     have hok := q0kq h1 h2 h3 h4 h5 h6 h7 h8
     have hch := q0kp hok
     have hd : l.getD i nd0 = x := by rw [List.getD_eq_getElem?_getD, hx]; rfl
     refine SemC.loopR (σ := Nat) (fun k => St.of [(1, .own 1), (3, .t (.i l.length)), (4, .own 18), (20, .t (nodes l)), (21, .t (.i l.length)), (22, .t (.i i)), (95, .t (ints x.ch)), (96, .t (.i x.ch.length)), (97, .t (.i k))] [(1, .box [nodes l]), (18, .arr 1 ((cntV l l.length i k).map T.i))]) (fun k => k <= x.ch.length) (fun k => x.ch.length - k) 0 (Weak.o _ _ [some 1, some 18] ?_ ?_) (by simp) fun k hk R2 hn2 hr2 he2 => ?_
     ·simp -implicitDefEqProofs only [wR', Nat.reduceBEq, Nat.reduceEqDiff, ↓reduceIte, nodes]
     ·exact ⟨⟨_, rfl, .refl _⟩, rfl, ⟨_, rfl, .refl _⟩, rfl, trivial⟩
     ·have hcl' := q06k l l.length i k
      simp -implicitDefEqProofs only [eR', go_sem, nodes]
      refine ⟨fun h9 => ⟨by omega, by omega, by omega, fun c hc => ?_⟩, fun h9 => he2 _ _ ?_⟩
      ·have hcb := hch c (List.mem_of_getElem? hc)
       obtain ⟨cn, rfl⟩ : ∃ cn : Nat, c = (cn : Int) := ⟨c.toNat, by omega⟩
       have hg := q06j l (n := l.length) (i := i) (k := k) (c := cn) (by omega)
       have hset := q06m (l := l) (n := l.length) (i := i) (k := k) (c := cn) (by omega) (by rw [hd]; exact hc)
       have hocc := q0m4 cn (l.take i) fun y hy => by
        obtain ⟨j, hj, rfl⟩ := List.mem_iff_getElem.1 hy
        rw [List.length_take] at hj
        rw [List.getElem_take]
        exact (q0ks (hOK j _ (by omega) (List.getElem?_eq_getElem (by omega)))).2.2.2.2.2
       have hlt : (l.take i).length <= 60 := by rw [List.length_take]; omega
       have hcnt := List.count_le_length (a := (cn : Int)) (l := (l.getD i nd0).ch.take k)
       have hctl : ((l.getD i nd0).ch.take k).length <= 4 := by rw [List.length_take, hd]; omega
       simp only [q0ve, hcl', hg, Option.some.injEq, forall_eq']
       rw [wrap64 (n := (occ cn (l.take i) : Int) + (((l.getD i nd0).ch.take k).count (cn : Int) : Nat) + 1) (by omega) (by omega)]
       refine ⟨by omega, by omega, by omega, by omega, by omega, by omega, hn2 _ (k + 1) (Weak.o _ _ [some 1, some 18] ?_ ?_) (by omega) (by omega)⟩
       ·simp -implicitDefEqProofs only [wR', Nat.reduceBEq, Nat.reduceEqDiff, ↓reduceIte, nodes, q0lb (by omega : k < x.ch.length) (by omega)]
       ·refine ⟨⟨_, rfl, .refl _⟩, rfl, ⟨_, rfl, ?_⟩, rfl, trivial⟩
        rw [← hset, List.map_set]; exact .refl _
      ·simp -implicitDefEqProofs only [eR', go_sem]
       have hke : k = x.ch.length := by omega
       refine hn' _ (i + 1) (Weak.o _ _ [some 1, some 18] ?_ ?_) ⟨by omega, fun j y hj hy => ?_⟩ (by omega)
       ·simp -implicitDefEqProofs only [wR', Nat.reduceBEq, Nat.reduceEqDiff, ↓reduceIte, nodes, q0lb hil (by omega)]
       ·exact ⟨⟨_, rfl, .refl _⟩, rfl, ⟨_, rfl, by rw [hke, q06l hx (fun hp => absurd hp h4)]; exact .refl _⟩, rfl, trivial⟩
       ·by_cases hji : j = i
        ·subst hji; rw [hx] at hy; cases hy; exact hok
        ·exact hOK j y (by omega) hy
    ·simp -implicitDefEqProofs only [eR', go_sem]
     rw [hno fun hok => by have := (q0ks hok).2.2.2.2.1 (by simpa using h4); simp [this.1] at h5]
   ·simp -implicitDefEqProofs only [eR', go_sem]
    have hie : i = l.length := by omega
    have hnds : q0l2 l := fun j y hy => hOK j y (by have := (List.getElem?_eq_some_iff.1 hy).1; omega) hy
    have hcl' := q06k l l.length i 0
    refine ⟨by omega, by omega, ?_⟩
    refine SemC.loopR (σ := Nat) (fun k => St.of [(1, .own 1), (110, .sub 18 1 (l.length - 1)), (111, .t (.i (l.length - 1 : Nat))), (112, .t (.i k))] [(1, .box [nodes l]), (18, .arr 1 ((cntV l l.length l.length 0).map T.i))]) (fun k => k <= l.length - 1 /\ ∀ j, j < k -> occ (j + 1) l = 1) (fun k => l.length - 1 - k) 0 (Weak.o _ _ [some 1, some 18] ?_ ?_) ⟨by simp, fun j hj => by omega⟩ fun k hI R2 hn2 hr2 he2 => ?_
    ·simp -implicitDefEqProofs only [wR', Nat.reduceBEq, Nat.reduceEqDiff, ↓reduceIte, nodes, hie, q06k]
    ·exact ⟨⟨_, rfl, .refl _⟩, rfl, ⟨_, rfl, by rw [hie]; exact .refl _⟩, rfl, trivial⟩
    ·obtain ⟨hk, hocc⟩ := hI
     simp -implicitDefEqProofs only [eR', go_sem, nodes]
     refine ⟨fun h9 => ⟨by omega, by omega, by rw [q06k]; omega, fun a ha => ?_⟩, fun h9 => he2 _ _ ?_⟩
     ·rw [q06i l l.length (1 + k) (by omega)] at ha
      cases ha
      refine ⟨fun h10 => hr2 _ ?_, fun h10 => hn2 _ (k + 1) (Weak.o _ _ [some 1, some 18] ?_ ?_) ⟨by omega, fun j hj => ?_⟩ (by omega)⟩
      ·simp -implicitDefEqProofs only [eR', go_sem]
       have h10 : ¬ occ (1 + k) l = 1 := by simp at h10; omega
       rw [q0fz (by omega : 1 + k < l.length) (by omega) h10]
      ·simp -implicitDefEqProofs only [wR', Nat.reduceBEq, Nat.reduceEqDiff, ↓reduceIte, nodes, q0lb (by omega : k < l.length - 1) (by omega)]
      ·exact ⟨⟨_, rfl, .refl _⟩, rfl, ⟨_, rfl, .refl _⟩, rfl, trivial⟩
      ·by_cases hjk : j = k
       ·have h10 : occ (1 + k) l = 1 := by
         have : ((occ (1 + k) l : Nat) : Int) = 1 := by simpa using h10
         omega
        rw [hjk, Nat.add_comm]; exact h10
       ·exact hocc j (by omega)
     ·simp -implicitDefEqProofs only [eR', go_sem, nodes]
      have hall : ∀ j, j < l.length -> j = 0 ∨ occ j l = 1 := fun j hj => by
       by_cases hj0 : j = 0
       ·exact .inl hj0
       ·right
        have := hocc (j - 1) (by omega)
        rwa [show j - 1 + 1 = j by omega] at this
      have hdep := q0ek hnds (by omega) l.length 0 (by omega) (by omega) (by omega)
      simp only [q0vz, nodes] at hdep
      refine q006.p hdep [] rfl Tryz.call57 ?_ ?_
      ·simp -implicitDefEqProofs only [aR', go_sem]
      simp -implicitDefEqProofs only [eR', go_sem]
      rw [q0fw hn hnds hall]

theorem bnT {b : Bool} (h : (!b) = true) : b = false := by cases b <;> simp_all
theorem bnF {b : Bool} (h : (!b) = false) : b = true := by cases b <;> simp_all
theorem q0s9 {l : List Nd} {i : Nat} {x : Nd} (hx : l[i]? = some x) (hl : l.length <= 1000000) (hxc : x.ch.length <= 9223372036854775807) : Pure Tryz.prog 84 [q0vz l, .i i] (.b (ndOK l.length i x)) := by
 have hil := (List.getElem?_eq_some_iff.1 hx).1
 rw [q0kv]
 refine q0bp (by simp) ?_
 simp -implicitDefEqProofs only [eR', go_sem, q04r, q0vz, nodes, q0kw hx]
 refine ⟨by omega, by rw [q0l0]; omega, by rw [q0l0]; omega, ?_⟩
 refine q006.p (q0s4 x.p 0 2) [] rfl Tryz.call67 ?_ ?_
 ·simp -implicitDefEqProofs only [aR', go_sem]
 simp -implicitDefEqProofs only [eR', go_sem]
 refine ⟨fun h1 => ?_, fun h1 => by rw [show decide (0 <= x.p /\ x.p <= 2) = false from bnT h1]; rfl⟩
 rw [show decide (0 <= x.p /\ x.p <= 2) = true from bnF h1]
 refine q006.p (q0s4 x.a 0 100) [] rfl Tryz.call67 ?_ ?_
 ·simp -implicitDefEqProofs only [aR', go_sem]
 simp -implicitDefEqProofs only [eR', go_sem]
 refine ⟨fun h2 => ?_, fun h2 => by rw [show decide (0 <= x.a /\ x.a <= 100) = false from bnT h2]; simp⟩
 rw [show decide (0 <= x.a /\ x.a <= 100) = true from bnF h2]
 refine q006.p (q0s4 x.b 0 100) [] rfl Tryz.call67 ?_ ?_
 ·simp -implicitDefEqProofs only [aR', go_sem]
 simp -implicitDefEqProofs only [eR', go_sem]
 refine ⟨fun h3 => ?_, fun h3 => by rw [show decide (0 <= x.b /\ x.b <= 100) = false from bnT h3]; simp⟩
 rw [show decide (0 <= x.b /\ x.b <= 100) = true from bnF h3]
 refine q006.p (q0s4 x.f (-1) 1) [] rfl Tryz.call67 ?_ ?_
 ·simp -implicitDefEqProofs only [aR', go_sem]
 simp -implicitDefEqProofs only [eR', go_sem]
 refine ⟨fun h4 => by rw [show decide (-1 <= x.f /\ x.f <= 1) = false from bnT h4]; simp, fun h4 => ?_⟩
 rw [show decide (-1 <= x.f /\ x.f <= 1) = true from bnF h4]
 refine ⟨fun h5 => ?_, fun h5 => ?_⟩
 ·have h5 : x.p = 2 := by simpa using h5
  rw [if_pos h5]
  refine ⟨fun h6 => ?_, fun h6 => ?_⟩
  ·have h6 : x.ch.length = 0 := by
    have : (x.ch.length : Int) = 0 := by simpa using h6
    omega
   rw [decide_eq_true h6]
   refine ⟨fun h7 => ?_, fun h7 => by rw [decide_eq_true (show 0 <= x.f by omega)]; rfl⟩
   rw [decide_eq_false (show ¬ 0 <= x.f by omega)]
   by_cases h8 : x.a = x.b
   ·rw [decide_eq_true h8, h8]; simp
   ·rw [decide_eq_false h8]; simp [h8]
  ·have h6 : ¬ x.ch.length = 0 := by
    have : ¬ (x.ch.length : Int) = 0 := by simpa using h6
    omega
   rw [decide_eq_false h6]; rfl
 ·have h5 : ¬ x.p = 2 := by simpa using h5
  rw [if_neg h5]
  refine ⟨fun h6 => ?_, fun h6 => ?_⟩
  ·have h6 : x.f = -1 := by simpa using h6
   rw [decide_eq_true h6]
   refine q006.p (q0s4 x.ch.length 1 4) [] rfl Tryz.call67 ?_ ?_
   ·simp -implicitDefEqProofs only [aR', go_sem]
   simp -implicitDefEqProofs only [eR', go_sem]
   refine ⟨fun h7 => ?_, fun h7 => ?_⟩
   ·have h7 : 1 <= x.ch.length /\ x.ch.length <= 4 := by
     have := bnF h7
     simp only [decide_eq_true_eq] at this; omega
    rw [decide_eq_true h7]
    refine q006.p (q0s6 x.ch l.length (by omega) (by omega)) [] rfl Tryz.call94 ?_ ?_
    ·simp -implicitDefEqProofs only [aR', go_sem]
    simp -implicitDefEqProofs only [eR', go_sem]
    refine ⟨fun h8 => by rw [bnT h8]; rfl, fun h8 => ⟨by omega, by omega, fun c hc => ?_⟩⟩
    rw [bnF h8]
    have hhd : x.ch.headD 0 = c := by
     cases hch : x.ch with
     | nil => rw [hch] at hc; simp at hc
     | cons a as' => rw [hch] at hc; simpa using hc
    rw [hhd]; rfl
   ·have h7 : ¬ (1 <= x.ch.length /\ x.ch.length <= 4) := by
     have := bnT h7
     simp only [decide_eq_false_iff_not] at this; omega
    rw [decide_eq_false h7]; rfl
  ·have h6 : ¬ x.f = -1 := by simpa using h6
   rw [decide_eq_false h6]; rfl

section
attribute [-go_sem] q0i5
theorem q0s3 (l : List Nd) (hl : l.length <= 9223372036854775807) (hcl : ∀ x ∈ l, x.ch.length <= 9223372036854775807) : Pure Tryz.prog 66 [q0vz l] (.b (q0fv l)) := by
 refine q0bj (by simp) ?_
 simp -implicitDefEqProofs only [eR', go_sem, q04l, q0vz, nodes]
 refine q006.p (q0s4 l.length 1 60) [] rfl Tryz.call67 ?_ ?_
 ·simp -implicitDefEqProofs only [aR', go_sem]
 simp -implicitDefEqProofs only [eR', go_sem]
 refine ⟨fun h => ?_, fun h => ?_⟩
 ·rw [q0fx (by have := bnT h; simp at this; omega)]
 ·have hn : 1 <= l.length /\ l.length <= 60 := by
   have := bnF h
   simp only [decide_eq_true_eq] at this; omega
  refine ⟨by omega, by omega, ?_⟩
  refine SemC.loopR (σ := Nat) (fun i => St.of [(1, .own 1), (3, .t (.i l.length)), (4, .own 15), (5, .t (.i i))] [(1, .box [nodes l]), (15, .arr 1 ((cntV l l.length i 0).map T.i))]) (fun i => i <= l.length /\ ∀ j x, j < i -> l[j]? = some x -> ndOK l.length j x = true) (fun i => l.length - i) 0 (Weak.o _ _ [some 1, some 15] ?_ ?_) ⟨by simp, fun j x hj => by omega⟩ fun i hI R hn' hr he => ?_
  ·simp -implicitDefEqProofs only [wR', Nat.reduceBEq, Nat.reduceEqDiff, ↓reduceIte, nodes]
  ·exact ⟨⟨_, rfl, .refl _⟩, rfl, ⟨_, rfl, by rw [q0jc, q06o, List.map_replicate]; exact .refl _⟩, rfl, trivial⟩
  ·obtain ⟨hi, hOK⟩ := hI
   simp -implicitDefEqProofs only [eR', go_sem, nodes]
   refine ⟨fun h => ?_, fun h => he _ _ ?_⟩
   ·have hil : i < l.length := by omega
    obtain ⟨x, hx⟩ : ∃ x, l[i]? = some x := ⟨_, List.getElem?_eq_getElem hil⟩
    have hxc := hcl x (List.mem_of_getElem? hx)
    have hnode := q0s9 hx (by omega) hxc
    simp only [q0vz, nodes] at hnode
    refine q006.p hnode [] rfl Tryz.call84 ?_ ?_
    ·simp -implicitDefEqProofs only [aR', go_sem]
    simp -implicitDefEqProofs only [eR', go_sem]
    refine ⟨fun h1 => hr _ ?_, fun h1 => ?_⟩
    ·simp -implicitDefEqProofs only [eR', go_sem]
     rw [q0fy hx (bnT h1)]
    ·have hok := bnF h1
     have hch := q0kp hok
     have hcl4 := (q0ks hok).2.2.2.2.2
     have hd : l.getD i nd0 = x := by rw [List.getD_eq_getElem?_getD, hx]; rfl
     refine SemC.loopR (σ := Nat) (fun k => St.of [(1, .own 1), (3, .t (.i l.length)), (4, .own 15), (5, .t (.i i)), (6, .t (.i k))] [(1, .box [nodes l]), (15, .arr 1 ((cntV l l.length i k).map T.i))]) (fun k => k <= x.ch.length) (fun k => x.ch.length - k) 0 (Weak.o _ _ [some 1, some 15] ?_ ?_) (by simp) fun k hk R2 hn2 hr2 he2 => ?_
     ·simp -implicitDefEqProofs only [wR', Nat.reduceBEq, Nat.reduceEqDiff, ↓reduceIte, nodes]
     ·exact ⟨⟨_, rfl, .refl _⟩, rfl, ⟨_, rfl, .refl _⟩, rfl, trivial⟩
     ·have hcl' := q06k l l.length i k
      rcases Nat.lt_or_ge k x.ch.length with h9 | h9
      ·obtain ⟨c, hc⟩ : ∃ c, x.ch[k]? = some c := ⟨_, List.getElem?_eq_getElem h9⟩
       have hcb := hch c (List.mem_of_getElem? hc)
       obtain ⟨cn, rfl⟩ : ∃ cn : Nat, c = (cn : Int) := ⟨c.toNat, by omega⟩
       have hg := q06j l (n := l.length) (i := i) (k := k) (c := cn) (by omega)
       simp -implicitDefEqProofs only [eR', go_sem, nodes, q0kz hx, decide_eq_true (show (k : Int) < (x.ch.length : Int) by omega), hc, hg]
       have hset := q06m (l := l) (n := l.length) (i := i) (k := k) (c := cn) (by omega) (by rw [hd]; exact hc)
       refine ⟨by omega, by rw [q0l0]; omega, by rw [q0l0]; omega, by omega, by rw [q0l0]; omega, by rw [q0l0]; omega, by omega, by omega, by omega, by omega, by omega, by omega, by omega, by omega, by omega, hn2 _ (k + 1) (Weak.o _ _ [some 1, some 15] ?_ ?_) (by omega) (by omega)⟩
       ·simp -implicitDefEqProofs only [wR', Nat.reduceBEq, Nat.reduceEqDiff, ↓reduceIte, nodes, q0lb (by omega : k < x.ch.length) (by omega)]
       ·refine ⟨⟨_, rfl, .refl _⟩, rfl, ⟨_, rfl, ?_⟩, rfl, trivial⟩
        have hocc := q0m4 cn (l.take i) fun y hy => by
         obtain ⟨j, hj, rfl⟩ := List.mem_iff_getElem.1 hy
         rw [List.length_take] at hj
         rw [List.getElem_take]
         exact (q0ks (hOK j _ (by omega) (List.getElem?_eq_getElem (by omega)))).2.2.2.2.2
        have hlt : (l.take i).length <= 60 := by rw [List.length_take]; omega
        have hcnt := List.count_le_length (a := (cn : Int)) (l := (l.getD i nd0).ch.take k)
        have hctl : ((l.getD i nd0).ch.take k).length <= 4 := by rw [List.length_take, hd]; omega
        rw [wrap64 (n := (occ cn (l.take i) : Int) + (((l.getD i nd0).ch.take k).count (cn : Int) : Nat) + 1) (by omega) (by omega), ← hset, List.map_set]; exact .refl _
      ·simp -implicitDefEqProofs only [eR', go_sem, nodes, q0kz hx, decide_eq_false (show ¬ (k : Int) < (x.ch.length : Int) by omega)]
       refine ⟨by omega, by rw [q0l0]; omega, by rw [q0l0]; omega, he2 _ _ ?_⟩
       simp -implicitDefEqProofs only [eR', go_sem]
       have hke : k = x.ch.length := by omega
       refine hn' _ (i + 1) (Weak.o _ _ [some 1, some 15] ?_ ?_) ⟨by omega, fun j y hj hy => ?_⟩ (by omega)
       ·simp -implicitDefEqProofs only [wR', Nat.reduceBEq, Nat.reduceEqDiff, ↓reduceIte, nodes, q0lb hil (by omega)]
       ·exact ⟨⟨_, rfl, .refl _⟩, rfl, ⟨_, rfl, by rw [hke, q06l hx (fun hp => ((q0ks hok).2.2.2.1 hp).1)]; exact .refl _⟩, rfl, trivial⟩
       ·by_cases hji : j = i
        ·subst hji; rw [hx] at hy; cases hy; exact hok
        ·exact hOK j y (by omega) hy
   ·simp -implicitDefEqProofs only [eR', go_sem, nodes]
    have hie : i = l.length := by omega
    have hnds : q0l2 l := fun j y hy => hOK j y (by have := (List.getElem?_eq_some_iff.1 hy).1; omega) hy
    refine SemC.loopR (σ := Nat) (fun k => St.of [(1, .own 1), (3, .t (.i l.length)), (4, .own 15), (7, .t (.i k))] [(1, .box [nodes l]), (15, .arr 1 ((cntV l l.length l.length 0).map T.i))]) (fun k => 1 <= k /\ k <= l.length /\ ∀ j, 1 <= j -> j < k -> occ j l = 1) (fun k => l.length - k) 1 (Weak.o _ _ [some 1, some 15] ?_ ?_) ⟨by omega, by omega, fun j h1 h2 => by omega⟩ fun k hI R2 hn2 hr2 he2 => ?_
    ·simp -implicitDefEqProofs only [wR', Nat.reduceBEq, Nat.reduceEqDiff, ↓reduceIte, nodes]
    ·exact ⟨⟨_, rfl, .refl _⟩, rfl, ⟨_, rfl, by rw [hie]; exact .refl _⟩, rfl, trivial⟩
    ·obtain ⟨hk1, hk, hocc⟩ := hI
     rcases Nat.lt_or_ge k l.length with h9 | h9
     ·have hg := q06i l l.length k h9
      have hcl' := q06k l l.length l.length 0
      simp -implicitDefEqProofs only [eR', go_sem, nodes, hg, decide_eq_true (show (k : Int) < (l.length : Int) by omega)]
      refine ⟨by omega, by omega, by omega, fun h10 => hr2 _ ?_, fun h10 => hn2 _ (k + 1) (Weak.o _ _ [some 1, some 15] ?_ ?_) ⟨by omega, by omega, fun j h1 h2 => ?_⟩ (by omega)⟩
      ·simp -implicitDefEqProofs only [eR', go_sem]
       have h10 : ¬ occ k l = 1 := by simp at h10; omega
       rw [q0fz h9 (by omega) h10]
      ·simp -implicitDefEqProofs only [wR', Nat.reduceBEq, Nat.reduceEqDiff, ↓reduceIte, nodes, q0lb h9 (by omega)]
      ·exact ⟨⟨_, rfl, .refl _⟩, rfl, ⟨_, rfl, .refl _⟩, rfl, trivial⟩
      ·by_cases hjk : j = k
       ·have h10 : occ k l = 1 := by
         have : ((occ k l : Nat) : Int) = 1 := by simpa using h10
         omega
        rw [hjk]; exact h10
       ·exact hocc j h1 (by omega)
     ·simp -implicitDefEqProofs only [eR', go_sem, nodes, decide_eq_false (show ¬ (k : Int) < (l.length : Int) by omega)]
      refine he2 _ _ ?_
      simp -implicitDefEqProofs only [eR', go_sem]
      have hall : ∀ j, j < l.length -> j = 0 ∨ occ j l = 1 := fun j hj => by
       by_cases hj0 : j = 0
       ·exact .inl hj0
       ·exact .inr (hocc j (by omega) (by omega))
      have hdep := q0s8 hnds (by omega) l.length 0 (by omega) (by omega) (by omega)
      simp only [q0vz, nodes] at hdep
      refine q006.p hdep [] rfl Tryz.call63 ?_ ?_
      ·simp -implicitDefEqProofs only [aR', go_sem]
      simp -implicitDefEqProofs only [eR', go_sem]
      rw [q0fw hn hnds hall]
end

def maxI (r : List Int) : Nat -> Nat
 | 0 => 0
 | k + 1 => if r.getD (maxI r k) 0 < r.getD k 0 then k else maxI r k
theorem q0jx (r : List Int) : ∀ k, k <= r.length -> 0 < r.length -> maxI r k < r.length
 | 0, _, h => h
 | k + 1, hk, h => by
   have := q0jx r k (by omega) h
   rw [maxI]; split <;> omega
theorem q0jz (r : List Int) : maxI r 1 = 0 := by
 rw [maxI, show maxI r 0 = 0 from rfl, if_neg (Int.lt_irrefl _)]
theorem q0jy (r : List Int) : ∀ k i, i < k -> r.getD i 0 <= r.getD (maxI r k) 0
 | k + 1, i, h => by
   have ih := q0jy r k
   rw [maxI]
   split
   ·rename_i h1
    by_cases hi : i = k
    ·rw [hi]; exact Int.le_refl _
    ·have := ih i (by omega); omega
   ·rename_i h1
    by_cases hi : i = k
    ·rw [hi]; omega
    ·exact ih i (by omega)
def q0dn : Nat -> List Int -> List Int -> List Int
 | 0, p, _ => p
 | n + 1, p, r => q0dn n (p.set (maxI r r.length) (p.getD (maxI r r.length) 0 + 1)) (r.set (maxI r r.length) (-1))
def quoL (t : Int) (w : List Int) : List Int := w.map fun x => 60 * x / t
def remL (t : Int) (w : List Int) : List Int := w.map fun x => 60 * x % t
def q0mb (w : List Int) : List Int := w.map fun _ => 1
def ham1 (w : List Int) : List Int := q0dn (60 - (quoL w.sum w).sum).toNat (quoL w.sum w) (remL w.sum w)
def ham (w : List Int) : List Int := if w.sum = 0 then ham1 (q0mb w) else ham1 w

theorem q0uc {p : List Int} {b : Nat} (h : b < p.length) (x : Int) : (p.set b x).sum = p.sum - p.getD b 0 + x := by
 induction p generalizing b with
 | nil => simp at h
 | cons a p ih =>
   cases b with
   | zero => simp; omega
   | succ b =>
     have := ih (b := b) (by simpa using h)
     simp only [List.set_cons_succ, List.sum_cons, List.getD_cons_succ]
     omega
theorem q0ub {w : List Int} (h : ∀ x ∈ w, 0 <= x) : 0 <= w.sum := by
 induction w with
 | nil => simp
 | cons a w ih =>
   have := ih fun x hx => h x (List.mem_cons_of_mem _ hx)
   have := h a (by simp)
   simp only [List.sum_cons]; omega
theorem q0ua {t : Int} : ∀ (w p : List Int), w.length = p.length -> (∀ i, i < w.length -> 60 * w.getD i 0 <= t * p.getD i 0) -> 60 * w.sum <= t * p.sum
 | [], [], _, _ => by simp
 | a :: w, b :: p, hl, h => by
   have ih := q0ua w p (by simpa using hl) fun i hi => by simpa using h (i + 1) (by simpa using hi)
   have h0 := h 0 (by simp)
   simp only [List.getD_cons_zero] at h0
   simp only [List.sum_cons, Int.mul_add]
   omega
structure HamI (w : List Int) (t : Int) (m : Nat) (p r : List Int) : Prop where
 lp : p.length = w.length
 lr : r.length = w.length
 each : ∀ i, i < w.length -> (r.getD i 0 = 60 * w.getD i 0 - t * p.getD i 0 /\ 0 <= r.getD i 0 /\ r.getD i 0 < t) ∨ (r.getD i 0 = -1 /\ 60 * w.getD i 0 < t * p.getD i 0 /\ t * p.getD i 0 < 60 * w.getD i 0 + t)
 sum : p.sum + m = 60
theorem HamI.best {w : List Int} {m : Nat} {p r : List Int} (h : HamI w w.sum (m + 1) p r) (ht : 0 < w.sum) : maxI r r.length < w.length /\ 0 < r.getD (maxI r r.length) 0 := by
 have ⟨i, hi, hpos⟩ : ∃ i, i < w.length /\ ¬ 60 * w.getD i 0 <= w.sum * p.getD i 0 := by
  by_cases hc : ∃ i, i < w.length /\ ¬ 60 * w.getD i 0 <= w.sum * p.getD i 0
  ·exact hc
  ·have := q0ua (t := w.sum) w p h.lp.symm fun i hi => by
    by_cases h1 : 60 * w.getD i 0 <= w.sum * p.getD i 0
    ·exact h1
    ·exact absurd ⟨i, hi, h1⟩ hc
   have hs := h.sum
   have e : w.sum * p.sum = w.sum * (60 - (m + 1 : Nat)) := by rw [show p.sum = 60 - ((m + 1 : Nat) : Int) by omega]
   rw [e, Int.mul_sub] at this
   have h2 : 0 < w.sum * ((m + 1 : Nat) : Int) := Int.mul_pos ht (by omega)
   omega
 have hri : 0 < r.getD i 0 := by
  rcases h.each i hi with h1 | h1 <;> omega
 have hlr := h.lr
 have h1 := q0jx r r.length (Nat.le_refl _) (by omega)
 have h2 := q0jy r r.length i (by omega)
 exact ⟨by omega, by omega⟩
theorem q0ct {l : List Int} {b : Nat} (h : b < l.length) (x : Int) : (l.set b x).getD b 0 = x := by
 rw [List.getD_eq_getElem?_getD, List.getElem?_set_self h]; rfl
theorem q0cs {l : List Int} {b i : Nat} (h : i ≠ b) (x : Int) : (l.set b x).getD i 0 = l.getD i 0 := by
 rw [List.getD_eq_getElem?_getD, List.getElem?_set_ne (Ne.symm h), List.getD_eq_getElem?_getD]
theorem HamI.step {w : List Int} {m : Nat} {p r : List Int} (h : HamI w w.sum (m + 1) p r) (ht : 0 < w.sum) : HamI w w.sum m (p.set (maxI r r.length) (p.getD (maxI r r.length) 0 + 1)) (r.set (maxI r r.length) (-1)) := by
 obtain ⟨hb, hr⟩ := h.best ht
 have hlp := h.lp
 have hlr := h.lr
 generalize maxI r r.length = b at hb hr
 refine ⟨by simp [hlp], by simp [hlr], fun i hi => ?_, ?_⟩
 ·by_cases hib : i = b
  ·subst hib
   right
   rw [q0ct (by omega), q0ct (by omega)]
   rcases h.each i hi with h1 | h1
   ·rw [Int.mul_add]; omega
   ·omega
  ·rw [q0cs hib, q0cs hib]
   exact h.each i hi
 ·have := h.sum
  rw [q0uc (by omega)]
  omega
theorem q0do {w : List Int} (ht : 0 < w.sum) : ∀ (m : Nat) (p r : List Int), HamI w w.sum m p r →
  (q0dn m p r).length = w.length /\ (q0dn m p r).sum = 60 /\ ∀ i, i < w.length -> 60 * w.getD i 0 - w.sum < w.sum * (q0dn m p r).getD i 0 /\ w.sum * (q0dn m p r).getD i 0 < 60 * w.getD i 0 + w.sum
 | 0, p, r, h => ⟨h.lp, by have := h.sum; simpa [q0dn] using this, fun i hi => by
   rw [q0dn]
   rcases h.each i hi with h1 | h1 <;> omega⟩
 | m + 1, p, r, h => q0do ht m _ _ (h.step ht)
theorem q0co {w : List Int} {f : Int -> Int} {i : Nat} (h : i < w.length) : (w.map f).getD i 0 = f (w.getD i 0) := by
 rw [List.getD_eq_getElem?_getD, List.getD_eq_getElem?_getD, List.getElem?_map, List.getElem?_eq_getElem h]; rfl
theorem q0or {t : Int} (ht : 0 < t) : ∀ w : List Int, t * (quoL t w).sum <= 60 * w.sum
 | [] => by simp [quoL]
 | a :: w => by
   have ih := q0or ht w
   have h1 := Int.mul_ediv_self_le (x := 60 * a) (k := t) (by omega)
   simp only [quoL, List.map_cons, List.sum_cons, Int.mul_add] at ih ⊢
   omega
theorem q0dq {w : List Int} (hw : ∀ x ∈ w, 0 <= x) (ht : 0 < w.sum) : HamI w w.sum (60 - (quoL w.sum w).sum).toNat (quoL w.sum w) (remL w.sum w) := by
 refine ⟨by simp [quoL], by simp [remL], fun i hi => .inl ?_, ?_⟩
 ·rw [quoL, remL, q0co hi, q0co hi]
  have h1 := Int.mul_ediv_add_emod (60 * w.getD i 0) w.sum
  have h2 := Int.emod_nonneg (60 * w.getD i 0) (show w.sum ≠ 0 by omega)
  have h3 := Int.emod_lt_of_pos (60 * w.getD i 0) ht
  omega
 ·have h1 := q0or ht w
  have h2 : (quoL w.sum w).sum <= 60 := by
   rw [Int.mul_comm 60] at h1
   exact Int.le_of_mul_le_mul_left h1 ht
  omega
theorem q0dm {w : List Int} (hw : ∀ x ∈ w, 0 <= x) (ht : 0 < w.sum) : (ham1 w).length = w.length /\ (ham1 w).sum = 60 /\ ∀ i, i < w.length -> 60 * w.getD i 0 - w.sum < w.sum * (ham1 w).getD i 0 /\ w.sum * (ham1 w).getD i 0 < 60 * w.getD i 0 + w.sum :=
 q0do ht _ _ _ (q0dq hw ht)
theorem q0me (w : List Int) : (q0mb w).sum = w.length := by
 induction w with
 | nil => rfl
 | cons a w ih =>
   simp only [q0mb, List.map_cons, List.sum_cons] at ih ⊢
   simp only [List.length_cons]; omega
theorem q0dp {w : List Int} (hw : ∀ x ∈ w, 0 <= x) (hl : 1 <= w.length) : (ham w).length = w.length /\ (ham w).sum = 60 /\ (0 < w.sum -> ∀ i, i < w.length -> 60 * w.getD i 0 - w.sum < w.sum * (ham w).getD i 0 /\ w.sum * (ham w).getD i 0 < 60 * w.getD i 0 + w.sum) := by
 have h0 := q0ub hw
 unfold ham
 split
 ·rename_i h
  have h1 := q0dm (w := q0mb w) (fun x hx => by simp [q0mb] at hx; omega) (by rw [q0me]; omega)
  refine ⟨by rw [h1.1]; simp [q0mb], h1.2.1, fun h' => by omega⟩
 ·rename_i h
  obtain ⟨h1, h2, h3⟩ := q0dm hw (by omega)
  exact ⟨h1, h2, fun _ => h3⟩

def q0rv (l : List Int) : Prop := l.length <= 1000 /\ ∀ x ∈ l, -1000000000000 <= x /\ x <= 1000000000000
theorem q0rw {l : List Int} (h : q0rv l) (k : Nat) : -1000000000000000 <= (l.take k).sum /\ (l.take k).sum <= 1000000000000000 := by
 obtain ⟨h1, h2⟩ := h
 have key : ∀ (l : List Int), (∀ x ∈ l, -1000000000000 <= x /\ x <= 1000000000000) -> -(1000000000000 * (l.length : Int)) <= l.sum /\ l.sum <= 1000000000000 * (l.length : Int) := by
  intro l
  induction l with
  | nil => intro _; simp
  | cons a l ih =>
    intro h
    have := ih fun x hx => h x (List.mem_cons_of_mem _ hx)
    have := h a (by simp)
    simp only [List.sum_cons, List.length_cons]
    omega
 have := key (l.take k) fun x hx => h2 x (List.mem_of_mem_take hx)
 have hl : (l.take k).length <= 1000 := by rw [List.length_take]; omega
 omega
theorem q0ud (l : List Int) (x : Int) : (l ++ [x]).sum = l.sum + x := by simp
theorem q0f1 (l : List Int) (h : q0rv l) : Pure Tryz.prog 71 [ints l] (.i l.sum) := by
 have hl := h.1
 refine q0ap (by simp) ?_
 simp -implicitDefEqProofs only [eR', go_sem, q03r]
 refine SemC.loopR (σ := Nat) (fun i => St.of [(3, .t (.i (l.take i).sum)), (6, .t (ints l)), (7, .t (.i l.length)), (8, .t (.i i))] []) (fun i => i <= l.length) (fun i => l.length - i) 0 (Weak.o _ [] [] ?_ trivial) (by omega) fun i hi R hn hr he => ?_
 ·simp -implicitDefEqProofs only [wR', Nat.reduceBEq, Nat.reduceEqDiff, ↓reduceIte, List.take_zero, List.sum_nil]
 ·simp -implicitDefEqProofs only [eR', go_sem]
  refine ⟨fun h1 => ⟨by omega, by omega, by omega, fun x hx => ?_⟩, fun h1 => he _ _ ?_⟩
  ·have e := q0ud (l.take i) x
   rw [← q0uj hx] at e
   have hb := q0rw h (i + 1)
   refine hn _ (i + 1) (Weak.o _ [] [] ?_ trivial) (by omega) (by omega)
   simp -implicitDefEqProofs only [wR', Nat.reduceBEq, Nat.reduceEqDiff, ↓reduceIte, q0lb (by omega : i < l.length) (by omega), ← e, wrap64 (n := (l.take (i + 1)).sum) (by omega) (by omega)]
  ·simp -implicitDefEqProofs only [eR', go_sem]
   rw [List.take_of_length_le (by omega)]
theorem q0s7 (l : List Int) (h : q0rv l) : Pure Tryz.prog 79 [ints l] (.i l.sum) := by
 have hl := h.1
 refine q0bn (by simp) ?_
 simp -implicitDefEqProofs only [eR', go_sem, q04p]
 refine SemC.loopR (σ := Nat) (fun i => St.of [(0, .t (ints l)), (3, .t (.i (l.take i).sum)), (4, .t (.i i))] []) (fun i => i <= l.length) (fun i => l.length - i) 0 (Weak.o _ [] [] ?_ trivial) (by omega) fun i hi R hn hr he => ?_
 ·simp -implicitDefEqProofs only [wR', Nat.reduceBEq, Nat.reduceEqDiff, ↓reduceIte, List.take_zero, List.sum_nil]
 ·simp -implicitDefEqProofs only [eR', go_sem]
  refine ⟨fun h1 => ⟨by omega, by omega, by omega, fun x hx => ?_⟩, fun h1 => he _ _ ?_⟩
  ·have e := q0ud (l.take i) x
   rw [← q0uj hx] at e
   have hb := q0rw h (i + 1)
   refine hn _ (i + 1) (Weak.o _ [] [] ?_ trivial) (by omega) (by omega)
   simp -implicitDefEqProofs only [wR', Nat.reduceBEq, Nat.reduceEqDiff, ↓reduceIte, q0lb (by omega : i < l.length) (by omega), ← e, wrap64 (n := (l.take (i + 1)).sum) (by omega) (by omega)]
  ·simp -implicitDefEqProofs only [eR', go_sem]
   rw [List.take_of_length_le (by omega)]
end Go.Ab
