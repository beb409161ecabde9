import Derived.Test.YtecafjkedemhnaaGreatRows
import Derived.Test.YtecafjkedemhnaaGreatQ4
set_option maxRecDepth 20000
set_option linter.all false
namespace Go.Ab
open Go.Proofs
variable{a0 a1 yL a2 a3 a4 a5 a6 a7 a8 a9 q:Prop}{S:St}{i n:Nat}{t:T}{l:List T}{r:List (Nat×T)}{e:List (Nat×A)}{c:CC}{ss:List (Option Nat)}{P:Program}
@[go_sem] theorem bx1:fB Tryz.prog 30=some true:=by kernel_rfl
@[go_sem] theorem bx2:dJ Tryz.prog 30=some 10:=by kernel_rfl
@[go_sem] theorem bx3:fB Tryz.prog 33=some true:=by kernel_rfl
@[go_sem] theorem bx4:dJ Tryz.prog 33=some 4:=by kernel_rfl
@[go_sem] theorem bx5:fB Tryz.prog 40=some true:=by kernel_rfl
@[go_sem] theorem bx6:dJ Tryz.prog 40=some 3:=by kernel_rfl
@[go_sem] theorem bx7:fB Tryz.prog 42=some true:=by kernel_rfl
@[go_sem] theorem bx8:dJ Tryz.prog 42=some 2:=by kernel_rfl
@[go_sem] theorem bx9:fB Tryz.prog 62=some true:=by kernel_rfl
@[go_sem] theorem by0:dJ Tryz.prog 62=some 13:=by kernel_rfl
@[go_sem] theorem by1:fB Tryz.prog 68=some true:=by kernel_rfl
@[go_sem] theorem by2:dJ Tryz.prog 68=some 14:=by kernel_rfl
@[go_sem] theorem by3:fB Tryz.prog 60=some true:=by kernel_rfl
@[go_sem] theorem by4:dJ Tryz.prog 60=some 9:=by kernel_rfl
@[go_sem] theorem by5:fB Tryz.prog 101=some true:=by kernel_rfl
@[go_sem] theorem by6:dJ Tryz.prog 101=some 6:=by kernel_rfl
@[go_sem] theorem by7:fB Tryz.prog 26=some true:=by kernel_rfl
@[go_sem] theorem by8:dJ Tryz.prog 26=some 6:=by kernel_rfl
@[go_sem] theorem by9:fB Tryz.prog 89=some true:=by kernel_rfl
@[go_sem] theorem bz0:dJ Tryz.prog 89=some 2:=by kernel_rfl
@[go_sem] theorem bz1:fB Tryz.prog 132=some true:=by kernel_rfl
@[go_sem] theorem bz2:dJ Tryz.prog 132=some 4:=by kernel_rfl
@[go_sem] theorem bz3:fB Tryz.prog 38=some true:=by kernel_rfl
@[go_sem] theorem bz4:dJ Tryz.prog 38=some 1:=by kernel_rfl
def Ew:dJ Tryz.prog 0=some 1:=by kernel_rfl
abbrev mv(a b:Nat):CI:=.o (.move a (sl b))
abbrev l1(a b:Nat):CI:=.o (.load1 a (sl b))
abbrev ix(a b c:Nat):CI:=.o (.idx a 1 (sl b) (sl c))
abbrev fl(a b c:Nat):CI:=.o (.rt a b (sl c))
abbrev ln(a b c:Nat):CI:=.o (.loadN a b (sl c))
abbrev kr(c:CI):DK×CI:=(kR,c)
abbrev fW(n:Nat)(c:CC)(rs:List ResultVar)(aH:LA)(args:List A)(Q:LA->T->Prop):Prop:=cW Tryz.prog n c (pO Tryz.prog rs aH.length Q) (St.of (enum 0 args) (enum 1000000000 aH))
attribute [go_sem ↓] fW
def sn(P:Program)(n:Nat)(H:Hints):Code->Option CC
 | .skip=>some .skip
 | .region id ops false=>(match gZ P n ops ops.toList with|some l=>(match H.w.contains (id+1000),H.w.contains id with|true,_=>some (.DO l)|false,false=>some (.aN l)|false,true=>some (.weak (.aN l)))|none=>none)
 | .region id ops true=>(match gZ P n ops ops.toList with|some l=>(match pM P n H id ops l,H.weak n id with|l,false=>some (.draw l.1 l.2)|l,true=>some (.weak (.draw l.1 l.2)))|none=>none)
 | .seq a b=>(match sn P n H a,sn P n H b with|some a,some b=>some (.seq a b)|_,_=>none)
 | .cond x a b=>(match sn P n H a,sn P n H b with|some a,some b=>some (.cond x a b)|_,_=>none)
 | .block id c=>(sn P n H c).map (.block id)
 | .loop c=>(sn P n H c).map .loop
 | .exit id=>some (.exit id)
 | .ret=>some .ret
 | .rangeFunc g ps a b=>(match sn P n H a,sn P n H b with|some a,some b=>some (.pL g ps.toList a b)|_,_=>none)
 |_=>none
def cO{f:Nat}{fn:Func}{code:Code}{rs:List ResultVar}(hf:Tryz.prog.funcs[f]? =some fn)(H:Hints:=⟨[],[]⟩)(hb:fn.body=some code:=by rfl)(hn:fn.ntmps=n:=by conv=>lhs;cbv)(hr:fn.results.toList=rs:=by conv=>lhs;cbv)(hq:sn Tryz.prog n H code=some c:=by first|(conv=>lhs;cbv)|((conv=>lhs;simp only[sn]);(repeat (conv in (gZ _ _ _ _)=>cbv));conv=>lhs;cbv))(hc:dg Tryz.prog n H code=some c:=by kernel_rfl)(hs:n<=100000:=by decide)⦃aH args Q⦄(ha:args.length<=n)(h:fW n c rs aH args Q):cF Tryz.prog f aH args Q:=cF.of (H:=H) hf hb hn hr hc ha hs h
def aj.o(e:List (Nat×A))(r:List (Nat×T))(ss:List (Option Nat))(he:oc S (en r ss) e)(hr:jf S r ss)(hd:(((r.map (·.1)).zip ss).filterMap (·.2)).Nodup:=by simp)(hb:∀p∈(r.map (·.1)).zip ss,p.1<1000000000∨p.2=some p.1:=by simp):aj n S (St.of e r):=aj.of e r ss hd hb he hr
def bA:=And.intro @ne_eq.{1} (And.intro @false_and (And.intro @true_and (And.intro @and_true (And.intro @and_false (And.intro @not_true (And.intro @not_false_eq_true (And.intro @if_false.{1} (And.intro @if_true.{1} (And.intro @List.map_set.{0,0} (@List.map_replicate.{0,0}))))))))))
abbrev Pr:=Pure Tryz.prog
abbrev FA:=cF Tryz.prog
abbrev FR(f:FuncId)(args:List A)(x:T):Prop:=cF Tryz.prog f [] args fun o r=>o=[]/\r=x
def qS{W:List Nat}{d:Option Nat}{R:Nat->aE}{j:Nat}{x:aE}(hj:j∈W:=by simp):it W d R (Go.Ab.ak R j x):=(it.refl _ _ _).ak _ (.inl hj)
def wT:=@aj.trans
def wO(r o d:Nat){lk:List (Nat×Nat)}{c:T}(h:(S.roots r).cells=some (l,lk):=by exact rfl)(hc:l[o]? =some c:=by exact rfl)(hd:S.roots d= .free:=by exact rfl)(hdn:d<1000000000:=by decide)(bv:c.b8=true:=by exact rfl):=aj.open (n:=n) r o d h hc hd hdn bv
def wS(q:Nat)(hq:S.roots q= .live t []:=by exact rfl):=aj.share (n:=n) q hq
def wC(r o d:Nat)(hd:S.roots d= .live t []:=by exact rfl)(hr:(S.roots r).cells=some (l,[(o,d)]):=by exact rfl)(hne:d≠r:=by decide)(hc:l[o]? =some .any:=by exact rfl):=aj.tA (n:=n) r o d hd hr hne hc
def wJ(r o d:Nat){lk:List (Nat×Nat)}(hd:S.roots d= .live t []:=by exact rfl)(hr:(S.roots r).cells=some (l,lk):=by exact rfl)(hne:d≠r:=by decide)(hc:l[o]? =some .any:=by exact rfl)(hlk:(o,d)∈lk:=by simp):=aj.Yw (n:=n) r o d hd hr hne hc hlk
def wL(r o d:Nat){lk:List (Nat×Nat)}(hd:S.roots d= .live t []:=by exact rfl)(hr:(S.roots r).cells=some (l,lk):=by exact rfl)(hne:d≠r:=by decide)(hc:l[o]? =some .any:=by exact rfl)(hlk:(o,d)∈lk:=by simp):=aj.close (n:=n) r o d hd hr hne hc hlk
def wI(r:Nat)(hr:(S.roots r).cells=some (l,[]):=by exact rfl)(hl0:0<l.length:=by simp):=aj.N8 (n:=n) r hr hl0
def rB{q:Nat}(h:jf S r ss)(a:S.roots i= .live t []:=by exact rfl)(b:t.b8=true:=by exact rfl):jf S ((q,t)::r) (some i::ss):=⟨⟨t,a,.refl _⟩,b,h⟩
def rI{q:Nat}{t':T}(l:Le t' t)(h:jf S r ss)(a:S.roots i= .live t' []:=by exact rfl)(b:t.b8=true:=by exact rfl):jf S ((q,t)::r) (some i::ss):=⟨⟨t',a,l⟩,b,h⟩
def rK{q:Nat}{t':T}(a:S.roots i= .live t' [])(l:Le t' t)(h:jf S r ss)(b:t.b8=true:=by exact rfl):jf S ((q,t)::r) (some i::ss):=⟨⟨t',a,l⟩,b,h⟩
def bz.p{S:St}{d:Nat}{fo:Operand}{ao:List Operand}{K:SP}{f:FuncId}{cap:List A}{args:LA}{res:T}{x:A}(hF:Pure P f args res)(au:LN)(bj:gY (S.ev fo)=some (f,cap))(b_:∀args w,(callFunc f args).run P w= .ok (.enter f args) w)(hargs:gn S [] au (args.map A.t) (ao.map S.ev++cap))(hk:K {S with env:=ak S.env d x})(be:res.bJ:=by first|trivial|simp[T.bJ,T.df,rat])(hx:bp d 0 res=(x,[],0):=by rfl):bz P n (some d) fo ao K S:=bz.pure hF au bj b_ hargs be hx hk
def zB:=And.intro @T.bB.eq_1 (And.intro @T.bB.eq_2 (And.intro @T.bB.eq_3 (And.intro @T.bB.eq_4 (@T.bB.eq_5))))
def zC:=And.intro @T.cr.eq_1 (@T.cr.eq_2)
def zA:=And.intro @sc.eq_1 (@sc.eq_2)
def yM:=And.intro @List.lookup_cons.{0,0} (And.intro @List.lookup_nil.{0,0} (And.intro @List.filter_cons.{0} (And.intro @List.filter_nil.{0} (And.intro @Nat.not_lt_zero (And.intro @decide_true (And.intro @decide_false (And.intro @Bool.or_true (And.intro @Bool.true_or (And.intro @Bool.or_self (And.intro @Bool.or_false (And.intro @Bool.false_or (And.intro @Bool.false_eq_true (And.intro @if_true.{1} (And.intro @if_false.{1} (And.intro @Bool.true_eq_false (And.intro @true_implies (And.intro @false_implies (And.intro @not_true (And.intro @not_false_eq_true (And.intro @and_true (@true_and)))))))))))))))))))))
def dt(p:Prop)[Decidable p](h:p:=by omega):decide p=true:=decide_eq_true h
def dF(p:Prop)[Decidable p](h:¬p:=by omega):decide p=false:=decide_eq_false h
def ah(e0:a0)(e1:a1):a0/\a1:=⟨e0,e1⟩
def ay(e0:a0)(e1:a1)(e2:a2):a0/\a1/\a2:=⟨e0,e1,e2⟩
def bf(e0:a0)(e1:a1)(e2:a2)(e3:a3):a0/\a1/\a2/\a3:=⟨e0,e1,e2,e3⟩
def bM(e0:a0)(e1:a1)(e2:a2)(e3:a3)(e4:a4):a0/\a1/\a2/\a3/\a4:=⟨e0,e1,e2,e3,e4⟩
def c5(e0:a0)(e1:a1)(e2:a2)(e3:a3)(e4:a4)(e5:a5):a0/\a1/\a2/\a3/\a4/\a5:=⟨e0,e1,e2,e3,e4,e5⟩
def dZ(e0:a0)(e1:a1)(e2:a2)(e3:a3)(e4:a4)(e5:a5)(e6:a6):a0/\a1/\a2/\a3/\a4/\a5/\a6:=⟨e0,e1,e2,e3,e4,e5,e6⟩
def jz(e0:a0)(e1:a1)(e2:a2)(e3:a3)(e4:a4)(e5:a5)(e6:a6)(e7:a7):a0/\a1/\a2/\a3/\a4/\a5/\a6/\a7:=⟨e0,e1,e2,e3,e4,e5,e6,e7⟩
def tC(e0:a0)(e1:a1)(e2:a2)(e3:a3)(e4:a4)(e5:a5)(e6:a6)(e7:a7)(e8:a8):a0/\a1/\a2/\a3/\a4/\a5/\a6/\a7/\a8:=⟨e0,e1,e2,e3,e4,e5,e6,e7,e8⟩
def Ex(e0:a0)(e1:a1)(e2:a2)(e3:a3)(e4:a4)(e5:a5)(e6:a6)(e7:a7)(e8:a8)(e9:a9):a0/\a1/\a2/\a3/\a4/\a5/\a6/\a7/\a8/\a9:=⟨e0,e1,e2,e3,e4,e5,e6,e7,e8,e9⟩
def xk(e0:a0)(e1:a1)(e2:a2)(e3:a3)(e4:a4)(e5:a5)(e6:a6)(e7:a7)(e8:a8)(e9:a9)(A6:yL):a0/\a1/\a2/\a3/\a4/\a5/\a6/\a7/\a8/\a9/\yL:=⟨e0,e1,e2,e3,e4,e5,e6,e7,e8,e9,A6⟩
def xm{A7:Prop}(e0:a0)(e1:a1)(e2:a2)(e3:a3)(e4:a4)(e5:a5)(e6:a6)(e7:a7)(e8:a8)(e9:a9)(A6:yL)(IM:A7):a0/\a1/\a2/\a3/\a4/\a5/\a6/\a7/\a8/\a9/\yL/\A7:=⟨e0,e1,e2,e3,e4,e5,e6,e7,e8,e9,A6,IM⟩
def ab3{A7 a12 O8 O9 O_ Pa:Prop}(e0:a0)(e1:a1)(e2:a2)(e3:a3)(e4:a4)(e5:a5)(e6:a6)(e7:a7)(e8:a8)(e9:a9)(A6:yL)(IM:A7)(e12:a12)(e13:O8)(e14:O9)(e15:O_)(e16:Pa):a0/\a1/\a2/\a3/\a4/\a5/\a6/\a7/\a8/\a9/\yL/\A7/\a12/\O8/\O9/\O_/\Pa:=⟨e0,e1,e2,e3,e4,e5,e6,e7,e8,e9,A6,IM,e12,e13,e14,e15,e16⟩
def ey{p:Prop}(hq:q)(h:p=q:=by conv=>lhs;simp -implicitDefEqProofs only[pY,go_sem]):p:=h▸hq
def pZ{p:Prop}(e0:a0)(hq:q)(h:a0->p=q:=by intro e0;conv=>lhs;simp -implicitDefEqProofs only[pY,go_sem,e0]):p:=h e0▸hq
def ij{p:Prop}(hq:q)(h:p=q:=by conv=>lhs;simp -implicitDefEqProofs only[fc,Nat.reduceBEq,Nat.reduceEqDiff, ↓reduceIte]):p:=h▸hq
def bZ{p:Prop}(e0:a0)(hq:q)(h:a0->p=q:=by intro e0;conv=>lhs;simp -implicitDefEqProofs only[fc,Nat.reduceBEq,Nat.reduceEqDiff, ↓reduceIte,e0]):p:=h e0▸hq
def aP{p:Prop}(hq:q)(h:p=q:=by conv=>lhs;simp -implicitDefEqProofs only[yK,go_sem]):p:=h▸hq
def bu{p:Prop}(e0:a0)(hq:q)(h:a0->p=q:=by intro e0;conv=>lhs;simp -implicitDefEqProofs only[yK,go_sem,e0]):p:=h e0▸hq
def ab{p:Prop}(hq:q)(h:p=q:=by conv=>lhs;simp -implicitDefEqProofs only[c8,go_sem]):p:=h▸hq
def aa{p:Prop}(e0:a0)(hq:q)(h:a0->p=q:=by intro e0;conv=>lhs;simp -implicitDefEqProofs only[c8,go_sem,e0]):p:=h e0▸hq
def tD{p r:Prop}(hq:r)(h:p=q:=by conv=>lhs;simp -implicitDefEqProofs only[c8,go_sem])(hr:r->q:=by intro h;(repeat (refine⟨by clear h;omega,?_⟩));exact h):p:=h▸hr hq
def aB{p r:Prop}(e0:a0)(hq:r)(h:a0->p=q:=by intro e0;conv=>lhs;simp -implicitDefEqProofs only[c8,go_sem,e0])(hr:r->q:=by intro h;(repeat (refine⟨by clear h;omega,?_⟩));exact h):p:=h e0▸hr hq
def tE{p:Prop}(hq:q)(h:p=q:=by conv=>lhs;simp -implicitDefEqProofs only[go_sem]):p:=h▸hq
def xn{p:Prop}(e0:a0)(hq:q)(h:a0->p=q:=by intro e0;conv=>lhs;simp -implicitDefEqProofs only[go_sem,e0]):p:=h e0▸hq
def bP{p:Prop}(hq:q)(h:p=q:=by conv=>lhs;simp -implicitDefEqProofs only[c8,go_sem,yM,xj,Nat.reduceBEq,Nat.reduceLT,Nat.reduceLeDiff,reduceIte,Int.reduceBEq,Int.reduceBNe]):p:=h▸hq
def cE{p:Prop}(e0:a0)(hq:q)(h:a0->p=q:=by intro e0;conv=>lhs;simp -implicitDefEqProofs only[c8,go_sem,yM,xj,Nat.reduceBEq,Nat.reduceLT,Nat.reduceLeDiff,reduceIte,Int.reduceBEq,Int.reduceBNe,e0]):p:=h e0▸hq
def Pb{p r:Prop}(hq:r)(h:p=q:=by conv=>lhs;simp -implicitDefEqProofs only[c8,go_sem,yM,xj,Nat.reduceBEq,Nat.reduceLT,Nat.reduceLeDiff,reduceIte,Int.reduceBEq,Int.reduceBNe])(hr:r->q:=by intro h;(repeat (refine⟨by clear h;omega,?_⟩));exact h):p:=h▸hr hq
def bQ{p r:Prop}(e0:a0)(hq:r)(h:a0->p=q:=by intro e0;conv=>lhs;simp -implicitDefEqProofs only[c8,go_sem,yM,xj,Nat.reduceBEq,Nat.reduceLT,Nat.reduceLeDiff,reduceIte,Int.reduceBEq,Int.reduceBNe,e0])(hr:r->q:=by intro h;(repeat (refine⟨by clear h;omega,?_⟩));exact h):p:=h e0▸hr hq
def dA{p:Prop}(hq:q)(h:p=q:=by conv=>lhs;simp -implicitDefEqProofs only[yK,go_sem,yM,xj,Nat.reduceBEq,Nat.reduceLT,Nat.reduceLeDiff,reduceIte,Int.reduceBEq,Int.reduceBNe]):p:=h▸hq
def dl{p:Prop}(e0:a0)(hq:q)(h:a0->p=q:=by intro e0;conv=>lhs;simp -implicitDefEqProofs only[yK,go_sem,yM,xj,Nat.reduceBEq,Nat.reduceLT,Nat.reduceLeDiff,reduceIte,Int.reduceBEq,Int.reduceBNe,e0]):p:=h e0▸hq
def iL{p:Prop}(hq:q)(h:p=q:=by conv=>lhs;simp -implicitDefEqProofs only[IK,Nat.reduceEqDiff, ↓reduceIte]):p:=h▸hq
def tF(h:oc S (en [] []) e:=by simp -implicitDefEqProofs only[fc,Nat.reduceBEq,Nat.reduceEqDiff, ↓reduceIte]):aj n S (St.of e []):=aj.o e [] [] (h) trivial
def eU(e0:a0)(h:a0->oc S (en [] []) e:=by intro e0;simp -implicitDefEqProofs only[fc,Nat.reduceBEq,Nat.reduceEqDiff, ↓reduceIte,e0]):aj n S (St.of e []):=aj.o e [] [] (h e0) trivial
def cH(l:List Nat)(h:oc S (en r (l.map some)) e:=by simp -implicitDefEqProofs only[fc,Nat.reduceBEq,Nat.reduceEqDiff, ↓reduceIte])(hr:jf S r (l.map some):=by repeat (first|exact trivial|refine⟨⟨_,rfl,.refl _⟩,rfl,?_⟩))(hd:(((r.map (·.1)).zip (l.map some)).filterMap (·.2)).Nodup:=by simp)(hb:∀p∈(r.map (·.1)).zip (l.map some),p.1<1000000000∨p.2=some p.1:=by simp):aj n S (St.of e r):=aj.o e r (l.map some) (h) hr hd hb
def aq(l:List Nat)(e0:a0)(h:a0->oc S (en r (l.map some)) e:=by intro e0;simp -implicitDefEqProofs only[fc,Nat.reduceBEq,Nat.reduceEqDiff, ↓reduceIte,e0])(hr:jf S r (l.map some):=by repeat (first|exact trivial|refine⟨⟨_,rfl,.refl _⟩,rfl,?_⟩))(hd:(((r.map (·.1)).zip (l.map some)).filterMap (·.2)).Nodup:=by simp)(hb:∀p∈(r.map (·.1)).zip (l.map some),p.1<1000000000∨p.2=some p.1:=by simp):aj n S (St.of e r):=aj.o e r (l.map some) (h e0) hr hd hb
def lN{Q:Exit->St->Prop}(mk:Nat->St)(Inv:Nat->Prop)(μ:Nat->Nat)(s0:Nat)(h0:aj n S (mk s0))(round:∀s,Inv s->∀R:Exit->St->Prop,(∀S' s',aj n S' (mk s')->(h:Inv s':=by omega)->(h:μ s'<μ s:=by omega)->R .normal S')->(∀S',Q .ret S'->R .ret S')->(∀i S',Q (.exit i) S'->R (.exit i) S')->cW P n c R (mk s))(hi:Inv s0:=by omega):dX P n (.loop c) Q S:=dX.ig mk Inv μ s0 h0 hi round
def lR{σ:Type}{Q:Exit->St->Prop}(mk:σ->St)(Inv:σ->Prop)(μ:σ->Nat)(s0:σ)(h0:aj n S (mk s0))(round:∀s,Inv s->∀R:Exit->St->Prop,(∀S' s',aj n S' (mk s')->(h:Inv s':=by omega)->(h:μ s'<μ s:=by omega)->R .normal S')->(∀S',Q .ret S'->R .ret S')->(∀i S',Q (.exit i) S'->R (.exit i) S')->cW P n c R (mk s))(hi:Inv s0:=by omega):dX P n (.loop c) Q S:=dX.ig mk Inv μ s0 h0 hi round
section
variable {P:Program} {n:Nat} {S:St} {d:Nat} {d':Option Nat} {fo:Operand} {ao:List Operand} {K:St->Prop} {f:FuncId} {cap:List A} {args:List A} {res:T} {aH aA:List T} {gs:List T}
def Px(hF:Pure P f gs res)(hk:K {S with env:=ak S.env d (bp d 0 res).1})(hc:∀a w,(callFunc f a).run P w= .ok (.enter f a) w:=by intro _ _;kernel_rfl)(au:List Nat:=[])(bj:gY (S.ev fo)=some (f,cap):=by exact rfl)(ha:gn S [] au (gs.map A.t) (ao.map S.ev++cap):=by simp -implicitDefEqProofs only[pY,go_sem])(be:res.bJ:=by first|trivial|simp[T.bJ,T.df,rat])(hx:bp d 0 res=((bp d 0 res).1,[],0):=by rfl):bz P n (some d) fo ao K S:=bz.pure hF au bj hc ha be hx hk
def Rx(hF:cF P f [] args fun o r=>o=[]/\r=res)(hk:kI S d' [] [] res K)(hc:∀a w,(callFunc f a).run P w= .ok (.enter f a) w:=by intro _ _;kernel_rfl)(au:List Nat:=[])(bj:gY (S.ev fo)=some (f,cap):=by exact rfl)(ha:gn S [] au args (ao.map S.ev++cap):=by simp -implicitDefEqProofs only[pY,go_sem])(be:au=[]∨res.bJ:=by exact .inl rfl):bz P n d' fo ao K S:=bz.res hF au bj hc ha be hk
def Fx(hF:cF P f aH args fun o r=>o=aA/\r=res)(ai:List Nat)(hk:kI S d' ai aA res K)(hc:∀a w,(callFunc f a).run P w= .ok (.enter f a) w:=by intro _ _;kernel_rfl)(au:List Nat:=[])(bj:gY (S.ev fo)=some (f,cap):=by exact rfl)(dL:ai.Nodup:=by simp)(hsrc:gB S ai aH:=by simp -implicitDefEqProofs only[IK,Nat.reduceEqDiff, ↓reduceIte])(dk:∀q∈au,q∉ai:=by simp)(ha:gn S ai au args (ao.map S.ev++cap):=by simp -implicitDefEqProofs only[pY,go_sem])(be:au=[]∨(res.bJ/\T.df aA):=by exact .inl rfl):bz P n d' fo ao K S:=bz.ref hF ai au bj hc dL hsrc dk ha be hk
def Xx{α:Type}{F:α->T}{G:α->List T}{Φ:α->Prop}(hF:cF P f aH args fun o r=>∃x,o=G x/\r=F x/\Φ x)(ai:List Nat)(hk:∀x,Φ x->kI S d' ai (G x) (F x) K)(hc:∀a w,(callFunc f a).run P w= .ok (.enter f a) w:=by intro _ _;kernel_rfl)(au:List Nat:=[])(bj:gY (S.ev fo)=some (f,cap):=by exact rfl)(dL:ai.Nodup:=by simp)(hsrc:gB S ai aH:=by simp -implicitDefEqProofs only[IK,Nat.reduceEqDiff, ↓reduceIte])(dk:∀q∈au,q∉ai:=by simp)(ha:gn S ai au args (ao.map S.ev++cap):=by simp -implicitDefEqProofs only[pY,go_sem])(be:au=[]∨∀x,(F x).bJ/\T.df (G x):=by exact .inl rfl):bz P n d' fo ao K S:=bz.xa hF ai au bj hc dL hsrc dk ha be hk
def V{ρ:Operand->A}{R:Nat->aE}{K:A->Prop}(hF:Pure P f gs res)(hk:K (bp 0 0 res).1)(hc:∀a w,(callFunc f a).run P w= .ok (.enter f a) w:=by intro _ _;kernel_rfl)(au:List Nat:=[])(bj:gY (ρ fo)=some (f,cap):=by exact rfl)(ha:∀e R',(∀r,R r= .free∨R' r=R r)->gn ⟨e,R'⟩ [] au (gs.map A.t) (ao.map ρ++cap):=by intro e R' hR;first|(simp -implicitDefEqProofs only[pY,go_sem];done)|(have hR:=fun r h=>(hR r).resolve_left h;simp -implicitDefEqProofs only[pY,c8,go_sem,hR,not_false_eq_true]))(be:res.bJ:=by first|trivial|simp[T.bJ,T.df,rat])(hx:∀d,bp d 0 res=((bp 0 0 res).1,[],0):=by exact fun _=>rfl):tr P n fo ao ρ R K:=tr.pure hF au bj hc ha be hx hk
def Hx{m:List Nat}(hF:cF P f [] args fun o r=>o=[]/\r=res)(hk:kI S (some d) [] [] res K)(hc:∀a w,(callFunc f a).run P w= .ok (.enter f a) w:=by intro _ _;kernel_rfl)(au:List Nat:=[])(bj:gY (S.ev fo)=some (f,cap):=by exact rfl)(ha:∀e R',(∀r,bW m S.roots r= .free∨R' r=bW m S.roots r)->gn ⟨e,R'⟩ [] au args (ao.map S.ev++cap):=by intro e R' hR;simp -implicitDefEqProofs only[pY,go_sem])(be:au=[]∨res.bJ:=by exact .inl rfl):lT P n d fo ao m K S:=lT.res hF au bj hc ha be hk
end
end Go.Ab
