/- Chips are conserved in every hand, and nobody gains more against a strategy than the exploitability: the law FnTop returns true for every list of bytes. No conditions. -/
import Derived.Test.YtecafjkedemhnaaGreatRows
import Derived.Test.YtecafjkedemhnaaGreatQ16
set_option maxRecDepth 20000
set_option linter.all false
set_option maxHeartbeats 1000000
/- The law FnTop. -/
namespace Go.Ab
open Go.Proofs
def zR:LA:=[.zz,.zz,.v (.int .i64 0),.v (.bool false)]
def Vq{h:Hd}(hb:¬(cU h/\(aY h).2=0/\(aY h).1.ov=true)):∃c:Int,c≠0/\nO h= .aI [.agg zR,.i c]:=by
 unfold nO;by_cases h1:cU h
 ·rw[if_pos h1];by_cases h2:(aY h).2=0
  ·rw[if_pos h2,if_neg fun h3=>hb ⟨h1,h2,h3⟩];exact⟨3,dc,rfl⟩
  ·rw[if_neg h2];exact⟨_,h2,rfl⟩
 ·rw[if_neg h1];exact⟨1,dc,rfl⟩
def Mf(h:Hd)(rc:LA)(c:Int):Prop:=(cU h/\(aY h).2=0/\(aY h).1.ov=true/\rc=[.sh 1 ((ji h).map T.i),.sh 1 ((iN h (aY h).1).map T.i),.i (aY h).1.s,.b (aY h).1.sh]/\c=0)∨(c≠0/\rc=zR)
def bl1{g:Gm}{s:Int×LL}(h:fR g s=true)(h1:s.1=1):iF g (q_ g s) s=true/\jJ g (q_ g s).2 s.2=gm g s:=by
 obtain⟨p1,p2,p3⟩:=L8 h;have p4:=(L8 (bj0 h)).2.2;have e1:(q_ g s).1=0:=by show 1-s.1=0;omega
 rw[h1]at p3;rw[e1]at p4;have e2:gm g s=fY g s.2 0 g.w.length:=by rw[gm,h1];rfl
 have e3:(q_ g s).2=ia g s.2 0 g.w.length:=by show ia g s.2 (1-s.1) g.w.length=_;rw[h1];rfl
 exact⟨vX.2 ⟨p1,e1,h1,by rw[e1];exact p4,by rw[h1];exact p3⟩,by rw[e2,e3];exact bg5 p1 (zD p3)⟩
section
attribute [-go_sem] bC bF bK bE bH bL gN
def bl2(cs:LI)(hc:iO cs)(hl:cs.length<=100000000000):FA 8 [] [.t (bytes cs)] fun o r=>∃x:Gm×(Int×LL)×(Int×LL),o=[]/\r=xZ x/\LH x:=by
 refine ab7 sA (ab ?_);refine Rx (Tp cs hc om) (bu @vF.eq_1 ?_);have hs0:=Tr (cs.take 64);generalize ng (cs.take 64)=sd at hs0 ⊢;have hp:=be5 cs hc hl (0,sd) hs0;simp only[xZ]at hp;refine Xx hp [6] (fun x hx=>dA ?_);exact⟨x.1,rfl,hx.1⟩
def Vr:Pr 32 [.zz,.zz] (.b true):=
 cF.Tw (Me [] [] sA sA) rfl fun i h h'=>match i,h with
  |0,_|1,_=>.inr ⟨⟨1,rfl⟩,rfl⟩
  |n+2,h=>absurd h sA
def bl3(A B:LI)(hA:A.length<=1000)(hB:B.length<=1000)(s:Int)(b:Bool):Pr 11 [.agg [.sh 1 (A.map T.i),.sh 1 (B.map T.i),.i s,.b b],.agg [.sh 1 (A.map T.i),.sh 1 (B.map T.i),.i s,.b b]] (.b true):=by
 refine Pe sA (ab ?_);refine Px (Me A A om om) (cE (decide_eq_true (rfl:A=A)) ?_);refine bz.p (Me B B (by omega) (by omega)) [] rfl Tryz.call32 ?_ ?_
 ·exact ey trivial
 simp -implicitDefEqProofs only[c8,go_sem,decide_eq_true (rfl:B=B),jA (rfl:s=s),List.lookup_cons,List.lookup_nil,Nat.reduceBEq,List.filter_cons,List.filter_nil,Nat.reduceLT,Nat.reduceLeDiff,Nat.not_lt_zero,decide_true,decide_false,Bool.or_true,Bool.true_or,Bool.or_self,Bool.or_false,Bool.false_or,Bool.false_eq_true,if_true,if_false,reduceIte,Int.reduceBEq,Int.reduceBNe,Bool.true_eq_false,true_implies,false_implies,not_true,not_false_eq_true,and_true,true_and];cases b<;>rfl
def bl4:Pr 11 [.agg zR,.agg zR] (.b true):=by
 refine Pe sA (aa @zR.eq_1 ?_);refine Px Vr (bP ?_);refine bz.p Vr [] rfl Tryz.call32 ?_ ?_
 ·exact ey trivial
 simp -implicitDefEqProofs only[c8,go_sem,List.lookup_cons,List.lookup_nil,Nat.reduceBEq,List.filter_cons,List.filter_nil,Nat.reduceLT,Nat.reduceLeDiff,Nat.not_lt_zero,decide_true,decide_false,Bool.or_true,Bool.true_or,Bool.or_self,Bool.or_false,Bool.false_or,Bool.false_eq_true,if_true,if_false,reduceIte,Int.reduceBEq,Int.reduceBNe,Bool.true_eq_false,true_implies,false_implies,not_true,not_false_eq_true,and_true,true_and];rfl
def bl5(cs:LI)(hc:iO cs):Pr 3 [bytes cs] (.b true):=by
 refine ab4 sA (ab ?_);refine Px (bl0 cs) (ab ?_);refine⟨fun _=>trivial,fun hbig=>?_⟩;have hl:cs.length<=4096:=by
  have:(cs.length:Int)<=4096:=sU hbig;omega
 apply Cd (X:=Hd×LA×Int) (fun x=>mh x.1/\Mf x.1 x.2.1 x.2.2)
 case h=>
  intro tail;have nT:∀(a:Hd) (rc:LA) (c:Int),mh a->Mf a rc c->∃X:Hd×LA×Int,X.1=a/\X.2.1=rc/\X.2.2=c/\(mh X.1/\Mf X.1 X.2.1 X.2.2):=fun a rc c h1 h2=>⟨(a,rc,c),rfl,rfl,rfl,h1,h2⟩;refine bz.xa (aY4 cs hc om) [] [] rfl Tryz.call5 sA ?_ sA ?_ (.inl rfl) (fun x hs=>?_)
  ·exact iL trivial
  ·exact ey trivial
  obtain⟨h,b⟩:=x
  (try simp only[]at hs)
  have qp:=Ti h hs;have qs:=aU2 h hs;simp only[cz,ints,rows,cG]at qp qs;cases b with
  |true=>
   refine dl (bM (show uc h true=lH h from rfl) @lH.eq_1 @ae.eq_1 @a_.eq_1 @ku.eq_1) ?_;by_cases mw:cU h/\(aY h).2=0/\(aY h).1.ov=true
   ·have hr:nO h= .aI [.agg [ae (ji h),ae (iN h (aY h).1),.i (aY h).1.s,.b (aY h).1.sh],.i 0]:=(by rw[nO,if_pos mw.1,if_pos mw.2.1,if_pos mw.2.2]);rw[hr]at qp qs;simp only[ae]at qp qs;refine Rx qp (dA ?_) (au:=[35001,35008,35009,35010]) (be:=.inr ⟨⟨dY _,dY _,trivial,trivial,trivial⟩,trivial,trivial⟩);refine Rx qs (dA ?_) (au:=[35001,35008,35009,35010]) (be:=.inr ⟨⟨dY _,dY _,trivial,trivial,trivial⟩,trivial,trivial⟩);obtain⟨X,jj,ew,x_,hX⟩:=nT h [.sh 1 ((ji h).map T.i),.sh 1 ((iN h (aY h).1).map T.i),.i (aY h).1.s,.b (aY h).1.sh] 0 hs (.inl ⟨mw.1,mw.2.1,mw.2.2,rfl,rfl⟩);refine bz.weak (wT (wL 3 0 35001) (wT (wL 3 7 35008) (wT (wL 3 8 35009) (wT (wC 3 9 35010) (wT (wS 3) (wT (wS 4) (wT (wS 6) (aj.o [(0,.t (bytes cs)),(3,.t (.ax (gI X.1) 0)),(4,.t (.ax X.2.1 0)),(5,.t (.i X.2.2)),(6,.t (.ax X.2.1 0)),(7,.t (.i X.2.2)),(44,.t (bytes cs))] [] [] ?_ trivial)))))))) (tail X hX);rw[jj,ew,x_];exact bZ (xk @zA @zB @zC @sj @ii @zp @si @gI.eq_1 @cG.eq_1 @List.set_cons_zero.{0} @List.set_cons_succ.{0}) trivial
   ·obtain⟨c,hc0,hr⟩:=Vq mw;rw[hr]at qp qs;simp only[zR]at qp qs;refine Rx qp (dA ?_) (au:=[35001,35008,35009,35010]) (be:=.inr ⟨⟨trivial,trivial,trivial,trivial,trivial⟩,trivial,trivial⟩);refine Rx qs (dA ?_) (au:=[35001,35008,35009,35010]) (be:=.inr ⟨⟨trivial,trivial,trivial,trivial,trivial⟩,trivial,trivial⟩);obtain⟨X,jj,ew,x_,hX⟩:=nT h zR c hs (.inr ⟨hc0,rfl⟩);refine bz.weak (wT (wL 3 0 35001) (wT (wL 3 7 35008) (wT (wL 3 8 35009) (wT (wC 3 9 35010) (wT (wS 3) (wT (wS 4) (wT (wS 6) (aj.o [(0,.t (bytes cs)),(3,.t (.ax (gI X.1) 0)),(4,.t (.ax X.2.1 0)),(5,.t (.i X.2.2)),(6,.t (.ax X.2.1 0)),(7,.t (.i X.2.2)),(44,.t (bytes cs))] [] [] ?_ trivial)))))))) (tail X hX);rw[jj,ew,x_];simp -implicitDefEqProofs only[fc,Nat.reduceBEq,Nat.reduceEqDiff, ↓reduceIte,zR,qu,sc,T.bB,T.cr,sj,ii,zp,si,gI,cG,List.set_cons_zero,List.set_cons_succ]
  |false=>
   refine dl (c5 (show uc h false=vH h from rfl) @vH.eq_1 @ints.eq_1 @ae.eq_1 @rows.eq_1 @cG.eq_1) ?_;by_cases mw:cU h/\(aY h).2=0/\(aY h).1.ov=true
   ·have hr:nO h= .aI [.agg [ae (ji h),ae (iN h (aY h).1),.i (aY h).1.s,.b (aY h).1.sh],.i 0]:=(by rw[nO,if_pos mw.1,if_pos mw.2.1,if_pos mw.2.2]);rw[hr]at qp qs;simp only[ae]at qp qs;refine Rx qp (dA ?_) (au:=[35009]) (be:=.inr ⟨⟨dY _,dY _,trivial,trivial,trivial⟩,trivial,trivial⟩);refine Rx qs (dA ?_) (au:=[35009]) (be:=.inr ⟨⟨dY _,dY _,trivial,trivial,trivial⟩,trivial,trivial⟩);obtain⟨X,jj,ew,x_,hX⟩:=nT h [.sh 1 ((ji h).map T.i),.sh 1 ((iN h (aY h).1).map T.i),.i (aY h).1.s,.b (aY h).1.sh] 0 hs (.inl ⟨mw.1,mw.2.1,mw.2.2,rfl,rfl⟩);refine bz.weak (wT (wC 3 8 35009) (wT (wS 3) (wT (wS 4) (wT (wS 6) (aj.o [(0,.t (bytes cs)),(3,.t (.ax (gI X.1) 0)),(4,.t (.ax X.2.1 0)),(5,.t (.i X.2.2)),(6,.t (.ax X.2.1 0)),(7,.t (.i X.2.2)),(44,.t (bytes cs))] [] [] ?_ trivial))))) (tail X hX);rw[jj,ew,x_];exact bZ (xk @zA @zB @zC @sj @ii @zp @si @gI.eq_1 @cG.eq_1 @List.set_cons_zero.{0} @List.set_cons_succ.{0}) trivial
   ·obtain⟨c,hc0,hr⟩:=Vq mw;rw[hr]at qp qs;simp only[zR]at qp qs;refine Rx qp (dA ?_) (au:=[35009]) (be:=.inr ⟨⟨trivial,trivial,trivial,trivial,trivial⟩,trivial,trivial⟩);refine Rx qs (dA ?_) (au:=[35009]) (be:=.inr ⟨⟨trivial,trivial,trivial,trivial,trivial⟩,trivial,trivial⟩);obtain⟨X,jj,ew,x_,hX⟩:=nT h zR c hs (.inr ⟨hc0,rfl⟩);refine bz.weak (wT (wC 3 8 35009) (wT (wS 3) (wT (wS 4) (wT (wS 6) (aj.o [(0,.t (bytes cs)),(3,.t (.ax (gI X.1) 0)),(4,.t (.ax X.2.1 0)),(5,.t (.i X.2.2)),(6,.t (.ax X.2.1 0)),(7,.t (.i X.2.2)),(44,.t (bytes cs))] [] [] ?_ trivial))))) (tail X hX);rw[jj,ew,x_];simp -implicitDefEqProofs only[fc,Nat.reduceBEq,Nat.reduceEqDiff, ↓reduceIte,zR,qu,sc,T.bB,T.cr,sj,ii,zp,si,gI,cG,List.set_cons_zero,List.set_cons_succ]
 case t=>
  rintro⟨h,rc,c⟩ ⟨hs,hk⟩
  (try simp only[]at hs hk)
  (try simp only[])
  have hp:=bl2 cs hc om;simp only[xZ]at hp;refine Xx hp [] (fun x hx=>dA ?_);obtain⟨g,s,t⟩:=x;obtain⟨h1,h2,h3⟩:=hx
  (try simp only[]at h1 h2 h3)
  (try simp only[])
  have hg:=LG h1;have Mg:=Vo h2;have wQ:=Vo h3;have hq:=bi4 g s t hg Mg wQ;simp only[cq,dw,nodes,rows,vY]at hq;refine Px hq (ab ?_);have hq:=bi3 g s t hg Mg wQ;simp only[cq,dw,nodes,rows,vY]at hq;refine Px hq (cE @bne_self_eq_false.{0} ?_);have br:rc.length=4:=by rcases hk with h|h<;>simp[h.2,zR]
  refine⟨om,om,?_⟩;rw[qQ (show rc.length<=4 by omega)];have CV:Pr 11 [.agg rc,.agg rc] (.b true):=by
   rcases hk with⟨ok,cJ,gH,e,_⟩|⟨_,e⟩
   ·rw[e];have hw:=(B9 h ok gH).2;have dy:=FJ h ok;have n2:=ok.1.1;exact bl3 _ _ om om _ _
   ·rw[e];exact bl4
  refine Px CV (cE @bne_self_eq_false.{0} ?_);apply Cd (X:=Unit) (fun _=>iF g s t=true)
  case h=>
   intro Vs;obtain⟨Y,_⟩:∃Y:Unit,True:=⟨(),trivial⟩;have nM:((pb g s t).2.2 !=0)=false->iF g s t=true:=fun e=>by
    rcases Bool.eq_false_or_eq_true (iF g s t)with h|h
    ·exact h
    ·rw[pb,h]at e;simp at e
   refine⟨fun g1=>?_,fun g1=>⟨fun _=>trivial,fun g2=>?_⟩⟩
   ·have hc0:c=0:=sU g1;obtain⟨ok,cJ,gH,e,_⟩:=hk.resolve_right fun e=>e.1 hc0
    rw[e];have q1:=aU8 h.t ok.1;have q2:=aU7 h ok cJ gH;simp only[cY,ints]at q1;simp only[cz,ints,rows,cG,ae]at q2;have dy:=FJ h ok;have dk:=Tl h ok gH;have n2:=ok.1.1;have bl6:=SX h ok gH;have bl7:=aU5 h ok gH;have bV:nx (ji h):=⟨om,fun x hx=>by
     obtain⟨i,hi,rfl⟩:=uU hx;have:=dk i om;omega⟩
    have hnm:nx (zn h):=⟨by rw[zn,fx];omega,fun x hx=>by
     obtain⟨i,hi,rfl⟩:=qN.1 hx;have hi:=List.mem_range.1 hi;have:=dk i hi;have:=ok.1.2.1 _ (gO hi);omega⟩
    refine⟨by simp[gI],aa (ay @gI.eq_1 @List.take_succ_cons.{0} @List.take_zero.{0}) ?_⟩;refine Px q1 (cE @gI.eq_1 ?_);refine Rx q2 (dA ?_);refine Px (Vn _ bV) (cE (ah bl6 @bne_self_eq_false.{0}) ?_);refine Px (Vn _ hnm) (cE (ah bl7 @bne_self_eq_false.{0}) ?_) (au:=[99]);exact⟨fun _=>trivial,fun g2=>bz.weak (cH [8,9,10] (e:=[(8,.own 88),(9,.own 89),(10,.own 90),(11,.t (.i (pb g s t).1)),(123,.t (.agg [.sh 5 (chunk c_ g.nd),.sh 1 (g.w.map ints),.sh 1 (g.v.map ints)])),(124,.t (.agg [.i t.1,.sh 1 (t.2.map ints)]))]) (r:=[(88,.box [.sh 5 (chunk c_ g.nd),.sh 1 (g.w.map ints),.sh 1 (g.v.map ints)]),(89,.box [.i s.1,.sh 1 (s.2.map ints)]),(90,.box [.i t.1,.sh 1 (t.2.map ints)])])) (Vs Y (nM g2))⟩
   ·exact bz.weak (cH [8,9,10] (e:=[(8,.own 88),(9,.own 89),(10,.own 90),(11,.t (.i (pb g s t).1)),(123,.t (.agg [.sh 5 (chunk c_ g.nd),.sh 1 (g.w.map ints),.sh 1 (g.v.map ints)])),(124,.t (.agg [.i t.1,.sh 1 (t.2.map ints)]))]) (r:=[(88,.box [.sh 5 (chunk c_ g.nd),.sh 1 (g.w.map ints),.sh 1 (g.v.map ints)]),(89,.box [.i s.1,.sh 1 (s.2.map ints)]),(90,.box [.i t.1,.sh 1 (t.2.map ints)])])) (Vs Y (nM g2))
  case t=>
   intro _ nM;obtain⟨l1,l2,l3,l4,l5,l6⟩:=bk9 nM;have l7:=Mc nM;obtain⟨p1,p2,p3,p4,p5⟩:=vX.1 nM;have dk:fR g t=true:=by
    have:=nM;simp only[iF,qM]at this;exact this.1.1.2
   have e0:pb g s t=(mu g s t,unit g,0):=(by rw[pb,if_pos nM]);rw[e0];have hq:=bi6 g t hg wQ;have e1:zS g t=(q_ g t,0):=(by rw[zS,if_pos dk]);rw[e1]at hq;simp only[cq,dw,nodes,rows,Gy,a_]at hq;refine ab ?_;refine Rx hq (dA ?_);obtain⟨z1,z2⟩:=bl1 dk p3;have J_:=bj1 dk;have Vt:=bi8 J_;have l8:kA (q_ g t).2:=⟨rA Vt.1 dc,fun r hr=>rA (Vt.2 r hr) dc⟩;have hq:=Vp g (q_ g t) t hg l8 wQ z1;simp only[vY]at hq;refine Px hq (bP ?_) (au:=[131002]);have hq:=Vp g s t hg Mg wQ nM;simp only[vY]at hq;refine Px hq (bP ?_);have e:IntKind.i64.wrap (jJ g (q_ g t).2 t.2-jJ g s.2 t.2)=gm g t-jJ g s.2 t.2:=(by rw[z2,wrap64 om om]);rw[e];exact⟨fun _=>by rw[decide_eq_true (show mu g s t ≥ 0 from l4)],fun h=>absurd om h⟩
end
end Go.Ab
namespace Go.Proofs.YtecafjkedemhnaaGreat
open Go.ChangeShapes Go.WideShapes Go.ChangeAt Go.RowKit Go.Ab
namespace fnTop
def said:∀xs,Ep [KQ] xs->Pr 3 xs (.b true)
 |[x],h=>by
  obtain⟨cs,rfl,_,hc⟩:=aU9 h.1;exact bl5 cs hc
 |[],h=>h.elim
 |_::_::_,h=>h.2.elim
set_option maxRecDepth 100000 in
def lifted(os:Os)(started:os.Started)(H:Type)(enc:TypeId×Value->H):
  ReturnsInHanded {} Tryz.checked os 3 .any (Rows.fnTopSpec.pre6 enc Tryz.prog Tryz.f3 Rows.fnTopRow.domain false) (Rows.fnTopSpec.post enc Tryz.prog Tryz.f3 false true false false):=by
 refine returnsInHanded_of_change (C:=Tryz.checked) (by kernel_rfl) started (by kernel_rfl) Tryz.func3
  (ChangeSpec.witness6 (enc:=enc) (C:=Tryz.checked) false ⟨#[],#[.slice none 0 0],[]⟩ 8 (by kernel_rfl) (by kernel_rfl) (by kernel_rfl) (by kernel_rfl)) ?_
 intro W base args ds gs before hval hW _ _;refine ZH (tys:=[KQ]) (by kernel_rfl) (by kernel_rfl) rfl (by kernel_rfl) rfl (fun ds h=>?_) said W base args ds gs before hval hW
 match ds,h with
 |[d0],_=>rfl
def f9{a b:Bool}(ha:a=true)(hb:b=true):(a&&b)=true:=by rw[ha,hb];rfl
def bl8:((Rows.fnTopRow.wf (OpenSpec.ofChange Rows.fnTopSpec)))=true:=by kernel_rfl
def bl9:(laidOutB Tryz.prog)=true:=Tryz.ab1
def bm0:(mapsRowed Tryz.prog)=true:=Tryz.ab2
def bm1:(Tryz.f3.params.all (Tryz.prog.readableRec ·))=true:=by kernel_rfl
def bm2:(namedTie Tryz.prog Rows.fnTopRow.named Rows.fnTopSpec.vars)=true:=by kernel_rfl
def bm3:((Rows.fnTopRow.stops== []))=true:=by kernel_rfl
def bm4:((Tryz.prog.stops== []))=true:=by kernel_rfl
def bm5:((Rows.fnTopRow.knobs== []))=true:=by kernel_rfl
def bm6:((Tryz.prog.stopKnobs== []))=true:=by kernel_rfl
def bm7:((Rows.fnTopRow.inPlace==Tryz.prog.inPlace 3))=true:=by kernel_rfl
def bm8:((Rows.fnTopRow.unfollowed==Tryz.prog.unfollowed 3))=true:=by kernel_rfl
def bm9:((Rows.fnTopRow.recurses==Tryz.prog.recurses 3))=true:=by kernel_rfl
def bn0:((Rows.fnTopRow.named==Tryz.prog.varsNamed 3))=true:=by kernel_rfl
def bn1:((Rows.fnTopRow.maps==(Tryz.f3.params.toList++Rows.fnTopSpec.plain.varTypes Tryz.prog).any (Tryz.prog.mapsRec ·)))=true:=by kernel_rfl
def bn2:((Rows.fnTopRow.ifaces==(Tryz.f3.params.toList++Rows.fnTopSpec.plain.varTypes Tryz.prog).any (Tryz.prog.ifacesRec ·)))=true:=by kernel_rfl
def bn3:((Rows.fnTopRow.mapsOut==Tryz.prog.mapsAmong Tryz.f3.resultTypes.toList))=true:=by kernel_rfl
def bn4:((Rows.fnTopRow.loops==(Tryz.f3.params.toList++Rows.fnTopSpec.plain.varTypes Tryz.prog).any (Tryz.prog.loopsFrom ·)))=true:=by kernel_rfl
def bn5:((Rows.fnTopRow.wideKeys==(Tryz.f3.params.toList++Rows.fnTopSpec.plain.varTypes Tryz.prog++Tryz.f3.resultTypes.toList).any (Tryz.prog.wideKeysFrom ·)))=true:=by kernel_rfl
def bn6:(Rows.fnTopSpec.vars.all (Tryz.prog.varReadable ·))=true:=by kernel_rfl
def bn7:(Tryz.f3.resultTypes.all (fun t=>Tryz.prog.readableRec t&&decide (t<Tryz.prog.types.size)))=true:=by kernel_rfl
def bn8:((Rows.fnTopRow.ifacesOut==Tryz.f3.resultTypes.toList.any (Tryz.prog.ifacesRec ·)))=true:=by kernel_rfl
def bn9:((Rows.fnTopRow.loopsOut==Tryz.f3.resultTypes.toList.any (Tryz.prog.loopsFrom ·)))=true:=by kernel_rfl
def bo0:((Rows.fnTopRow.plainKeys==Tryz.prog.plainKeys))=true:=by kernel_rfl
def bo1:(Rows.fnTopRow.shortTexts.isNone)=true:=by kernel_rfl
def bo2:(Tryz.prog.stopsHeard)=true:=Tryz.ab0
def bo3:(Tryz.prog.mayEnter)=true:=Tryz.aa8
def bo4:((Rows.fnTopRow.lifted==Tryz.prog.liftsFinal))=true:=(by rw[Tryz.aa9];rfl)
def bo5:((Tryz.prog.make==some Rows.fnTopRow.make))=true:=(by rw[Tryz.lS];rfl)
def bo6:((Rows.fnTopRow.kinds==(if Rows.fnTopRow.domain.isEmpty then []else Tryz.f3.params.toList.map fun t=>match Tryz.prog.underlying t with|some (.int k)=>some k|_=>none)))=true:=by kernel_rfl
def bo7:((Rows.fnTopRow.pinned==Rows.fnTopRow.pinnedBy))=true:=by kernel_rfl
def bo8:((Rows.fnTopRow.veiled==(Tryz.f3.params.toList++Rows.fnTopSpec.plain.varTypes Tryz.prog++Tryz.f3.resultTypes.toList).any (Tryz.prog.veiledRec ·)))=true:=by kernel_rfl
def bo9:(Rows.fnTopRow.veiledFits Tryz.prog Tryz.f3.params.toList (Tryz.f3.params.toList++Rows.fnTopSpec.plain.varTypes Tryz.prog++Tryz.f3.resultTypes.toList))=true:=by kernel_rfl
set_option maxRecDepth 100000 in
def joined:joinedFacts Tryz.prog 3 Tryz.f3 Rows.fnTopSpec Rows.fnTopRow=true:=by
 unfold joinedFacts;exact f9 (f9 (f9 (f9 (f9 (f9 (f9 (f9 (f9 (f9 (f9 (f9 (f9 (f9 (f9 (f9 (f9 (f9 (f9 (f9 (f9 (f9 (f9 (f9 (f9 (f9 (f9 (f9 (f9 (f9 (f9 (bl8) bl9) bm0) bm1) bm2) bm3) bm4) bm5) bm6) bm7) bm8) bm9) bn0) bn1) bn2) bn3) bn4) bn5) bn6) bn7) bn8) bn9) bo0) bo1) bo2) bo3) bo4) bo5) bo6) bo7) bo8) bo9
def bp0:Rows.fnTopRow.holds Tryz.pinned (OpenSpec.ofChange Rows.fnTopSpec):=
 OpenClaim.holds_of_wide 3 Tryz.f3 rfl rfl rfl rfl rfl rfl rfl ⟨rfl,rfl,rfl,rfl,rfl⟩ rfl rfl rfl rfl rfl (by kernel_rfl) Tryz.func3 joined
  (of_decide_eq_true (by kernel_rfl)) (by unfold Func.isWrapper;first|(rw[if_pos (by decide+kernel)];kernel_rfl)|(rw[if_neg (by decide+kernel)];exact⟨rfl,rfl⟩))
  (fun os started H enc _=>lifted os started H enc)
end fnTop
theorem fnTop_holds:Rows.FnTopSaid:=fnTop.bp0
#print axioms fnTop_holds
end Go.Proofs.YtecafjkedemhnaaGreat
