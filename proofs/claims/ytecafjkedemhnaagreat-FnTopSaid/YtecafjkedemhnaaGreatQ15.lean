import Derived.Test.YtecafjkedemhnaaGreatQ14
set_option maxRecDepth 20000
set_option linter.all false
set_option maxHeartbeats 1000000
namespace Go.Ab
open Go.Proofs
variable{g:Gm}{l:List Nd}{a b i k n:Nat}{pl:Int}{cs r:LI}{x:Nd}{f:FuncId}{m:LL}
def F9(h:l[i]? =some x)(pl:Int):idxs l pl (i+1)=if x.p=pl then idxs l pl i++[(i:Int)]else idxs l pl i:=by
 rw[KX,qA,h];rfl
def o6(l:List Nd)(pl:Int)(n:Nat):(idxs l pl n).length<=n:=by
 unfold idxs;rw[qJ];have:=List.length_filter_le (fun i=>decide ((l.getD i av).p=pl)) (List.range n);simpa using this
section
attribute [-go_sem] bC
def ba7(l:List Nd)(pl:Int)(hl:l.length<=1000000000000):FR 192 [.t (gk l),.t (.i pl)] (ae (idxs l pl l.length)):=by
 refine aq3 sA (aa (ah @gk.eq_1 @nodes.eq_1) ?_);refine lN (fun i=>St.of [(1,.t (.i pl)),(2,.own 2),(5,.own 77),(6,.t (.i i))] [(2,.box [nodes l]),(77,.arr 1 ((idxs l pl i).map T.i))]) (fun i=>i<=l.length) (fun i=>l.length-i) 0 (aq [2,7] @nodes.eq_1) (fun i hi R hn hr he=>?_)
 ·rcases qH i l.length with h9|h9
  ·obtain⟨x,hx⟩:∃x,l[i]? =some x:=⟨_,qB h9⟩;have bq:=o6 l pl i;refine aB (ay @nodes.eq_1 (KW hx) (dt ((i:Int)<(l.length:Int)))) ?_;refine⟨by rw[cN];omega,by rw[cN];omega,fun h1=>⟨om,?_⟩,fun h1=>?_⟩
   ·have h1:x.p=pl:=sU h1;refine hn _ (i+1) (aq [2,26] (ah @nodes.eq_1 (aw h9 hl)) (hr:=?_))
    ·refine rB (rI ?_ trivial);rw[F9 hx,if_pos h1,qG];exact .refl _
   ·have h1:¬x.p=pl:=sU h1;refine hn _ (i+1) (aq [2,77] (ah @nodes.eq_1 (aw h9 hl)) (hr:=?_))
    ·refine rB (rI ?_ trivial);rw[F9 hx,if_neg h1];exact .refl _
  ·refine aa (ah @nodes.eq_1 (dF ((i:Int)<(l.length:Int)))) ?_;refine he _ _ (ab ?_);rw[show i=l.length by omega];rfl
def ba8(l:List Nd)(pl:Int)(hl:l.length<=1000000000000):FR 80 [.t (gk l),.t (.i pl)] (ae (idxs l pl l.length)):=by
 refine ah5 sA (aa (ah @gk.eq_1 @nodes.eq_1) ?_);refine lN (fun i=>St.of [(1,.t (.i pl)),(5,.own 77),(9,.t (nodes l)),(10,.t (.i l.length)),(11,.t (.i i))] [(77,.arr 1 ((idxs l pl i).map T.i))]) (fun i=>i<=l.length) (fun i=>l.length-i) 0 (aj.o _ _ [none] ?_ ?_) (fun i hi R hn hr he=>?_)
 ·exact bZ @nodes.eq_1 trivial
 ·exact⟨⟨1,rfl⟩,trivial⟩
 ·rcases qH i l.length with h9|h9
  ·obtain⟨x,hx⟩:∃x,l[i]? =some x:=⟨_,qB h9⟩;have bq:=o6 l pl i;refine aB (ay @nodes.eq_1 (nU hx) (dt ((i:Int)<(l.length:Int)))) ?_;refine⟨by rw[cN];omega,by rw[cN];omega,fun h1=>⟨om,?_⟩,fun h1=>?_⟩
   ·have h1:x.p=pl:=sU h1;refine hn _ (i+1) (aq [23] (ah @nodes.eq_1 (aw h9 hl)) (hr:=?_))
    ·refine rI ?_ trivial;rw[F9 hx,if_pos h1,qG];exact .refl _
   ·have h1:¬x.p=pl:=sU h1;refine hn _ (i+1) (aq [77] (ah @nodes.eq_1 (aw h9 hl)) (hr:=?_))
    ·refine rI ?_ trivial;rw[F9 hx,if_neg h1];exact .refl _
  ·refine aa (ah @nodes.eq_1 (dF ((i:Int)<(l.length:Int)))) ?_;refine he _ _ (ab ?_);rw[show i=l.length by omega];rfl
def mq(ns:LI)(k i c:Nat):LL:=iQ (ns.take i) k++(List.range c).map fun a:Nat=>[ns.getD i 0,(a:Int)]
def Ui(ns:LI)(k i:Nat):mq ns k i 0=iQ (ns.take i) k:=by simp[mq]
def Uj(ns:LI)(k i c:Nat):mq ns k i (c+1)=mq ns k i c++[[ns.getD i 0,(c:Int)]]:=by simp[mq,List.range_succ]
def Uk{ns:LI}{n:Int}(h:ns[i]? =some n):mq ns k i k=mq ns k (i+1) 0:=by
 rw[Ui,bG h,aY7,mq,qA,h];rfl
def Ul(ns:LI)(k i c:Nat):(mq ns k i c).length<=ns.length*k+c:=by
 rw[mq,qD,FY,qJ,List.length_range,qL];have:Nat.min i ns.length*k<=ns.length*k:=Nat.mul_le_mul_right _ (Nat.min_le_right _ _);have e:min i ns.length=Nat.min i ns.length:=rfl;rw[e];omega
def Um(ns:LI)(k:Nat):mq ns k ns.length 0=iQ ns k:=by rw[Ui,rT]
def Un(l:List Nd)(pl:Int)(hl:l.length<=1000000000000):FR 192 [.t (.agg [.sh 5 (chunk c_ l)]),.t (.i pl)] (ae (idxs l pl l.length)):=ba7 l pl hl
def zG(l:List Nd)(pl:Int)(hl:l.length<=1000000000000):FR 80 [.t (.agg [.sh 5 (chunk c_ l)]),.t (.i pl)] (ae (idxs l pl l.length)):=ba8 l pl hl
def ba9(g:Gm)(pl:Int)(hl:g.nd.length<=60)(hk:g.w.length<=6):FR 138 [.t (cq g),.t (.i pl)] (a_ (sets g pl)):=by
 refine am1 sA (aa (ah @cq.eq_1 @nodes.eq_1) ?_);refine Rx (Un g.nd pl om) (aP ?_);have be:=o6 g.nd pl g.nd.length;have Lf:sets g pl=iQ (idxs g.nd pl g.nd.length) g.w.length:=rfl;rw[Lf];generalize idxs g.nd pl g.nd.length=ns at be ⊢;refine lN (fun i=>St.of [(2,.own 2),(5,.own 12),(6,.own 77),(7,.t (.i i))] [(2,.box [nodes g.nd,rows g.w,rows g.v]),(12,ae ns),(77,.arr 1 ((mq ns g.w.length i 0).map ae))]) (fun i=>i<=ns.length) (fun i=>ns.length-i) 0 (aq [2,12,13] @nodes.eq_1) (fun i hi R hn hr he=>?_)
 ·rcases qH i ns.length with h9|h9
  ·obtain⟨n,hx⟩:∃n,ns[i]? =some n:=⟨_,qB h9⟩;refine aa (ay @nodes.eq_1 @ae.eq_1 (dt ((i:Int)<(ns.length:Int)))) ?_;refine lN (fun c=>St.of [(2,.own 2),(5,.own 12),(6,.own 77),(7,.t (.i i)),(8,.t (.i c))] [(2,.box [nodes g.nd,rows g.w,rows g.v]),(12,ae ns),(77,.arr 1 ((mq ns g.w.length i c).map ae))]) (fun c=>c<=g.w.length) (fun c=>g.w.length-c) 0 (aq [2,12,77] @nodes.eq_1) (fun c hc R2 hn2 cP cL=>?_)
   ·rcases qH c g.w.length with h8|h8
    ·have bq:=Ul ns g.w.length i c;refine aa (bf @nodes.eq_1 @ae.eq_1 hx (dt ((c:Int)<(g.w.length:Int)))) ?_;have hmul:ns.length*g.w.length<=60*6:=Nat.mul_le_mul om hk;refine⟨om,om,om,om,hn2 _ (c+1) (aq [2,12,35] (ah @nodes.eq_1 (aw h8 om)) (hr:=?_))⟩
     ·refine rB (rB (rI ?_ trivial));rw[Uj,qG,qA,hx];exact .refl _
    ·refine aa (ah @nodes.eq_1 (dF ((c:Int)<(g.w.length:Int)))) ?_;refine cL _ _ (ab ?_);refine hn _ (i+1) (aq [2,12,77] (ah @nodes.eq_1 (aw h9 om)) (hr:=?_))
     ·refine rB (rB (rI ?_ trivial));rw[show c=g.w.length by omega,Uk hx];exact .refl _
  ·refine aa (ay @nodes.eq_1 @ae.eq_1 (dF ((i:Int)<(ns.length:Int)))) ?_;refine he _ _ (ab ?_);rw[show i=ns.length by omega,Um];rfl
def bb0(g:Gm)(pl:Int)(hl:g.nd.length<=60)(hk:g.w.length<=6):FR 137 [.t (cq g),.t (.i pl)] (a_ (sets g pl)):=by
 refine am0 sA (aa (ah @cq.eq_1 @nodes.eq_1) ?_);refine Rx (zG g.nd pl om) (bu @ae.eq_1 ?_);have be:=o6 g.nd pl g.nd.length;have Lf:sets g pl=iQ (idxs g.nd pl g.nd.length) g.w.length:=rfl;rw[Lf];generalize idxs g.nd pl g.nd.length=ns at be ⊢;refine lN (fun i=>St.of [(2,.own 2),(5,.own 77),(12,.own 12),(13,.t (.i ns.length)),(14,.t (.i i))] [(2,.box [nodes g.nd,rows g.w,rows g.v]),(12,ae ns),(77,.arr 1 ((mq ns g.w.length i 0).map ae))]) (fun i=>i<=ns.length) (fun i=>ns.length-i) 0 (aj.o _ _ [some 2,some 12,none] ?_ ?_) (fun i hi R hn hr he=>?_)
 ·exact bZ @nodes.eq_1 trivial
 ·exact⟨⟨_,rfl,.refl _⟩,rfl,⟨_,rfl,.refl _⟩,rfl,⟨1,rfl⟩,trivial⟩
 ·rcases qH i ns.length with h9|h9
  ·obtain⟨n,hx⟩:∃n,ns[i]? =some n:=⟨_,qB h9⟩;refine aB (bf @nodes.eq_1 @ae.eq_1 hx (dt ((i:Int)<(ns.length:Int)))) ?_;refine lN (fun c=>St.of [(2,.own 2),(5,.own 77),(7,.t (.i n)),(12,.own 12),(13,.t (.i ns.length)),(14,.t (.i i)),(20,.t (.i g.w.length)),(21,.t (.i c))] [(2,.box [nodes g.nd,rows g.w,rows g.v]),(12,ae ns),(77,.arr 1 ((mq ns g.w.length i c).map ae))]) (fun c=>c<=g.w.length) (fun c=>g.w.length-c) 0 (aq [2,12,77] @nodes.eq_1) (fun c hc R2 hn2 cP cL=>?_)
   ·rcases qH c g.w.length with h8|h8
    ·have bq:=Ul ns g.w.length i c;refine aa (ay @nodes.eq_1 @ae.eq_1 (dt ((c:Int)<(g.w.length:Int)))) ?_;have hmul:ns.length*g.w.length<=60*6:=Nat.mul_le_mul om hk;refine⟨om,hn2 _ (c+1) (aq [2,12,29] (ah @nodes.eq_1 (aw h8 om)) (hr:=?_))⟩
     ·refine rB (rB (rI ?_ trivial));rw[Uj,qG,qA,hx];exact .refl _
    ·refine aa (ah @nodes.eq_1 (dF ((c:Int)<(g.w.length:Int)))) ?_;refine cL _ _ (ab ?_);refine hn _ (i+1) (aq [2,12,77] (ah @nodes.eq_1 (aw h9 om)) (hr:=?_))
     ·refine rB (rB (rI ?_ trivial));rw[show c=g.w.length by omega,Uk hx];exact .refl _
  ·refine aa (ay @nodes.eq_1 @ae.eq_1 (dF ((i:Int)<(ns.length:Int)))) ?_;refine he _ _ (ab ?_);rw[show i=ns.length by omega,Um];rfl
end
def F_(h:i<(sets g pl).length):∃(n c:Nat) (x:Nd),(sets g pl)[i]? =some [(n:Int),(c:Int)]/\g.nd[n]? =some x/\n<g.nd.length/\c<g.w.length/\x.p=pl/\h_ g pl i=x.ch.length:=by
 have hg:=qB h;obtain⟨n0,hn0,c,hc,e⟩:=aY9 (rJ h);obtain⟨n,rfl,hn,hp⟩:=F2 hn0;rw[e]at hg;have hx:=qB hn;have hd:g.nd.getD n av=g.nd[n]:=by rw[qA,hx];rfl
 refine⟨n,c,g.nd[n],hg,hx,hn,hc,by rw[←hd];exact hp,?_⟩;have e0:(sets g pl).getD i []=[(n:Int),(c:Int)]:=by rw[qA,hg];rfl
 rw[h_,e0,←hd];rfl
def Lg{pt:LL}:i9 g pl pt=true↔pt.length=(sets g pl).length/\∀i,i<(sets g pl).length->qx (h_ g pl i) (pt.getD i [])=true:=by
 simp only[i9,qM,decide_eq_true_eq,rO,List.mem_range]
def Ga{pt:LL}(h:¬(pt.length=(sets g pl).length/\∀i,i<(sets g pl).length->qx (h_ g pl i) (pt.getD i [])=true)):i9 g pl pt=false:=by
 cases hc:i9 g pl pt with
 |false=>rfl
 |true=>exact absurd (Lg.1 hc) h
def vQ{l:LI}:qx n l=true↔l.length=n/\(l.all fun x=>decide (0<=x/\x<=60))=true/\l.sum=60:=by
 simp only[qx,qM,decide_eq_true_eq,K8,and_assoc]
def q8(g:Gm)(pl:Int)(hl:g.nd.length<=60)(hk:g.w.length<=6):(sets g pl).length<=360:=by
 rw[TP];have:=o6 g.nd pl g.nd.length;have:(idxs g.nd pl g.nd.length).length*g.w.length<=60*6:=Nat.mul_le_mul om hk;omega
def Uo(h:(r.all fun x=>decide (0<=x/\x<=60))=true)(hl:r.length<=1000):nx r:=by
 rw[rO]at h;exact⟨hl,fun x hx=>by have:=h x hx;simp only[decide_eq_true_eq]at this;omega⟩
def fR(g:Gm)(s:Int×LL):Bool:=bR g&&decide (0<=s.1/\s.1<=1)&&i9 g s.1 s.2
def bb1(g:Gm)(pl:Int)(hl:g.nd.length<=60)(hk:g.w.length<=6):FR 137 [.t (.agg [.sh 5 (chunk c_ g.nd),.sh 1 (g.w.map ints),.sh 1 (g.v.map ints)]),.t (.i pl)] (a_ (sets g pl)):=bb0 g pl hl hk
def Lh(g:Gm)(pl:Int)(hl:g.nd.length<=60)(hk:g.w.length<=6):FR 138 [.t (.agg [.sh 5 (chunk c_ g.nd),.sh 1 (g.w.map ints),.sh 1 (g.v.map ints)]),.t (.i pl)] (a_ (sets g pl)):=ba9 g pl hl hk
def Up(m:LL):(T.arr 1 (m.map ae)).bB=T.sh 1 (m.map ints):=IH m
section
attribute [-go_sem] bC bF bK bE bH bL
def Li(g:Gm)(s:Int×LL)(hg:bR g=true)(hs:kA s.2):Pr 68 [cq g,dw s] (.b (i9 g s.1 s.2)):=by
 obtain⟨pl,pt⟩:=s;obtain⟨hs1,aW⟩:=hs;simp only[]at hs1 aW ⊢;obtain⟨p1,p2,p3,p4,p5⟩:=fZ hg;obtain⟨t1,t2,t3,t4⟩:=fX p1;have hnl:∀{n:Nat} {x:Nd},g.nd[n]? =some x->x.ch.length<=4:=fun hx=>(eJ (t2 _ _ hx)).2.2.2.2.2;have dy:=q8 g pl t1.2 p2.2;refine ag4 sA (aa (ay @cq.eq_1 @dw.eq_1 @nodes.eq_1) ?_);refine Rx (bb1 g pl t1.2 p2.2) (bu @a_.eq_1 ?_);refine⟨fun h1=>?_,fun h1=>?_⟩
 ·have h1:¬pt.length=(sets g pl).length:=by simp at h1;omega
  rw[Ga fun h=>h1 h.1]
 have h1:pt.length=(sets g pl).length:=by simp at h1;omega
 refine lN (fun i=>St.of [(2,.own 2),(3,.own 3),(19,.t (rows (sets g pl))),(20,.t (.i (sets g pl).length)),(21,.t (.i i))] [(2,.box [nodes g.nd,rows g.w,rows g.v]),(3,.box [.i pl,rows pt])]) (fun i=>i<=(sets g pl).length/\∀j,j<i->qx (h_ g pl j) (pt.getD j [])=true) (fun i=>(sets g pl).length-i) 0 (wT (wS 12) (aq [2,3] (ay @zA @Up @nodes.eq_1))) (fun i hI R hn hr he=>?_) (hi:=⟨om,fun j hj=>om⟩)
 ·obtain⟨hi,hok⟩:=hI;rcases qH i (sets g pl).length with h9|h9
  ·obtain⟨n,c,x,hx1,hx2,jl,hx4,hx5,Cp⟩:=F_ h9;obtain⟨r,fE⟩:∃r,pt[i]? =some r:=⟨_,qB om⟩;have hrd:pt.getD i []=r:=by rw[qA,fE];rfl
   have hno:¬qx x.ch.length r=true->i9 g pl pt=false:=fun hc=>Ga fun h=>hc (by have:=h.2 i h9;rwa[Cp,hrd]at this);have nv:=hnl hx2;refine aB (bM @nodes.eq_1 hx1 fE (Ce hx2) (dt ((i:Int)<((sets g pl).length:Int)))) ?_;refine⟨by rw[cN];omega,by rw[cN];omega,fun h2=>?_,fun h2=>hr _ ?_⟩
   rotate_left
   ·refine ab ?_;rw[hno fun h=>by have:=(vQ.1 h).1;simp at h2;omega]
   have h2:r.length=x.ch.length:=by simp at h2;omega
   refine V (so r 0 60 om) (ab ?_);refine⟨fun h3=>?_,fun h3=>hr _ ?_⟩
   rotate_left
   ·refine ab ?_;rw[hno fun h=>by rw[(vQ.1 h).2.1]at h3;simp at h3]
   have h3:=mp h3;refine V (tH r (Uo h3 om)) (ab ?_);refine⟨fun h4=>hr _ ?_,fun h4=>hn _ (i+1) (aj.o _ _ [some 2,some 3] ?_ ?_) ⟨om,fun j hj=>?_⟩⟩
   ·refine ab ?_;rw[hno fun h=>by have:=(vQ.1 h).2.2;simp at h4;omega]
   ·exact bZ (ah @nodes.eq_1 (aw h9 om)) trivial
   ·exact rB (rB trivial)
   ·by_cases hji:j=i
    ·subst hji;rw[Cp,hrd];exact vQ.2 ⟨h2,h3,sU h4⟩
    ·exact hok j om
  ·refine aa (ah @nodes.eq_1 (dF ((i:Int)<((sets g pl).length:Int)))) ?_;refine he _ _ (ab ?_);rw[Lg.2 ⟨h1,fun j hj=>hok j om⟩]
def Cq{b:Bool}(h:Pr f [cq g] (.b b)):Pr f [.agg [.sh 5 (chunk c_ g.nd),.sh 1 (g.w.map ints),.sh 1 (g.v.map ints)]] (.b b):=h
def bb2(g:Gm)(s:Int×LL)(hg:qz g)(hs:kA s.2):Pr 35 [cq g,dw s] (.b (fR g s)):=by
 refine ae0 sA (aa (ay @cq.eq_1 @dw.eq_1 @nodes.eq_1) ?_);refine Px (Cq (Ug g hg)) (ab ?_);refine⟨fun h1=>?_,fun h1=>?_⟩
 rotate_left
 ·have h1:bR g=false:=sU h1;rw[fR,h1];rfl
 have h1:bR g=true:=sU h1;refine Px (fq s.1 0 1) (ab ?_);refine⟨fun h2=>?_,fun h2=>?_⟩
 ·have h2:=nW h2;rw[fR,h2,Bool.and_false];rfl
 have h2:=mp h2;have hst:=Li g s h1 hs;simp only[cq,dw,nodes,rows]at hst;refine Px hst (ab ?_);rw[fR,h1,h2];rfl
def Uq(g:Gm)(s:Int×LL)(hg:qz g)(hs:kA s.2):Pr 73 [cq g,dw s] (.b (fR g s)):=by
 refine ag9 sA (aa (ay @cq.eq_1 @dw.eq_1 @nodes.eq_1) ?_);refine Px (Cq (Lc g hg)) (ab ?_);refine⟨fun h1=>?_,fun h1=>?_⟩
 rotate_left
 ·have h1:bR g=false:=sU h1;rw[fR,h1];rfl
 have h1:bR g=true:=sU h1;refine Px (eN s.1 0 1) (ab ?_);refine⟨fun h2=>?_,fun h2=>?_⟩
 ·have h2:=nW h2;rw[fR,h2,Bool.and_false];rfl
 have h2:=mp h2;have KP:fR g s=i9 g s.1 s.2:=by rw[fR,h1,h2];rfl
 rw[KP];obtain⟨pl,pt⟩:=s;obtain⟨hs1,aW⟩:=hs
 (try simp only[]at hs1 aW h2 ⊢)
 obtain⟨p1,p2,p3,p4,p5⟩:=fZ h1;obtain⟨t1,t2,t3,t4⟩:=fX p1;have hnl:∀{n:Nat} {x:Nd},g.nd[n]? =some x->x.ch.length<=4:=fun hx=>(eJ (t2 _ _ hx)).2.2.2.2.2;have dy:=q8 g pl t1.2 p2.2;refine Rx (Lh g pl t1.2 p2.2) (bu @a_.eq_1 ?_);refine⟨fun h3=>?_,fun h3=>?_⟩
 ·have h3:¬pt.length=(sets g pl).length:=by simp at h3;omega
  rw[Ga fun h=>h3 h.1]
 have h3:pt.length=(sets g pl).length:=by simp at h3;omega
 refine lN (fun i=>St.of [(2,.own 2),(3,.own 3),(5,.t (rows (sets g pl))),(6,.t (.i i))] [(2,.box [nodes g.nd,rows g.w,rows g.v]),(3,.box [.i pl,rows pt])]) (fun i=>i<=(sets g pl).length/\∀j,j<i->qx (h_ g pl j) (pt.getD j [])=true) (fun i=>(sets g pl).length-i) 0 (wT (wS 20) (aq [2,3] (ay @zA @Up @nodes.eq_1))) (fun i hI R hn hr he=>?_) (hi:=⟨om,fun j hj=>om⟩)
 ·obtain⟨hi,hok⟩:=hI;rcases qH i (sets g pl).length with h9|h9
  ·obtain⟨n,c,x,hx1,hx2,jl,hx4,hx5,Cp⟩:=F_ h9;obtain⟨r,fE⟩:∃r,pt[i]? =some r:=⟨_,qB om⟩;have hrd:pt.getD i []=r:=by rw[qA,fE];rfl
   have hno:¬qx x.ch.length r=true->i9 g pl pt=false:=fun hc=>Ga fun h=>hc (by have:=h.2 i h9;rwa[Cp,hrd]at this);have nv:=hnl hx2;refine aB (bM @nodes.eq_1 hx1 fE (Ce hx2) (dt ((i:Int)<((sets g pl).length:Int)))) ?_;refine⟨by rw[cN];omega,by rw[cN];omega,fun h4=>hr _ ?_,fun h4=>?_⟩
   ·refine ab ?_;rw[hno fun h=>by have:=(vQ.1 h).1;simp at h4;omega]
   have h4:r.length=x.ch.length:=by simp at h4;omega
   refine lN (fun k=>St.of [(2,.own 2),(3,.own 3),(5,.t (rows (sets g pl))),(6,.t (.i i)),(7,.t (.i k))] [(2,.box [nodes g.nd,rows g.w,rows g.v]),(3,.box [.i pl,rows pt])]) (fun k=>k<=r.length/\∀t y,t<k->r[t]? =some y->0<=y/\y<=60) (fun k=>r.length-k) 0 (aq [2,3] @nodes.eq_1) (fun k hK R2 hn2 cP cL=>?_) (hi:=⟨om,fun t y ht=>om⟩)
   ·obtain⟨hk,Cn⟩:=hK;rcases qH k r.length with h8|h8
    ·obtain⟨y,hy⟩:∃y,r[k]? =some y:=⟨_,qB h8⟩;refine aB (bf @nodes.eq_1 fE hy (dt ((k:Int)<(r.length:Int)))) ?_;refine Px (eN y 0 60) (ab ?_);refine⟨fun h5=>cP _ ?_,fun h5=>hn2 _ (k+1) (aj.o _ _ [some 2,some 3] ?_ ?_) ⟨om,fun t z ht hz=>?_⟩⟩
     ·refine ab ?_;refine hr _ (ab ?_);rw[hno fun h=>by have:=rO.1 (vQ.1 h).2.1 y (qE hy);rw[nW h5]at this;simp at this]
     ·exact bZ (ah @nodes.eq_1 (aw h8 om)) trivial
     ·exact rB (rB trivial)
     ·by_cases uv:t=k
      ·subst uv;rw[hy]at hz;cases hz;simpa using mp h5
      ·exact Cn t z om hz
    ·refine aB (ay @nodes.eq_1 fE (dF ((k:Int)<(r.length:Int)))) ?_;refine cL _ _ ?_;have hall:(r.all fun x=>decide (0<=x/\x<=60))=true:=rO.2 fun z hz=>by
      obtain⟨u,hu,rfl⟩:=rE.1 hz;exact decide_eq_true (Cn u _ om (qB hu))
     refine aB fE ?_;refine Px (uT r (Uo hall om)) (ab ?_);refine⟨fun h5=>hr _ ?_,fun h5=>hn _ (i+1) (aj.o _ _ [some 2,some 3] ?_ ?_) ⟨om,fun j hj=>?_⟩⟩
     ·refine ab ?_;rw[hno fun h=>by have:=(vQ.1 h).2.2;simp at h5;omega]
     ·exact bZ (ah @nodes.eq_1 (aw h9 om)) trivial
     ·exact rB (rB trivial)
     ·by_cases hji:j=i
      ·subst hji;rw[Cp,hrd];exact vQ.2 ⟨h4,hall,sU h5⟩
      ·exact hok j om
  ·refine aa (ah @nodes.eq_1 (dF ((i:Int)<((sets g pl).length:Int)))) ?_;refine he _ _ (ab ?_);rw[Lg.2 ⟨h3,fun j hj=>hok j om⟩]
end
def Ur{y:Int}(hx:g.nd[i]? =some x)(hr:g.v[a]? =some r)(hy:r[b]? =some y):gw g i a b=if(if x.f=0 then -1 else if x.f=1 then 1 else y)=1 then x.b else if(if x.f=0 then -1 else if x.f=1 then 1 else y)= -1 then -x.a else 0:=by
 have e1:g.nd.getD i av=x:=by rw[qA,hx];rfl
 have e2:(g.v.getD a []).getD b 0=y:=by rw[qA,qA,hr,Option.getD_some,hy];rfl
 rw[gw,e1,e2]
def Us(hg:bR g=true)(ha:a<g.w.length)(hb:b<g.w.length):∃r y,g.v[a]? =some r/\r[b]? =some y:=by
 obtain⟨h1,h2⟩:=vO.1 (fZ hg).2.2.2.1;have hx:=qB (show a<g.v.length by omega);have h3:=(h2 _ (rJ (show a<g.v.length by omega))).1;exact⟨_,_,hx,qB om⟩
def Gb(hg:bR g=true)(ha:a<g.w.length)(hb:b<g.w.length):∃r y,g.w[a]? =some r/\r[b]? =some y/\0<=y/\y<=9:=by
 obtain⟨h1,h2⟩:=vO.1 (fZ hg).2.2.1;have hx:=qB ha;obtain⟨h3,h4⟩:=h2 _ (rJ ha);have hl:b<g.w[a].length:=om;exact⟨_,_,hx,qB hl,h4 _ (rJ hl)⟩
def Gc:∀{p q:Nat},p<=q->pw p<=pw q:=by
 intro p q h;induction h with
 |refl=>exact Int.le_refl _
 |step h ih=>rw[xR];have:=nV (p:= ‹Nat›);omega
def unit(g:Gm):Int:=jk g.w*pw (eD g)
section
attribute [-go_sem] bC bF bK bE bH bL
def bb3(g:Gm)(hg:bR g=true)(i a b:Nat)(hi:i<g.nd.length)(ha:a<g.w.length)(hb:b<g.w.length):Pr 141 [cq g,.i i,.i a,.i b] (.i (gw g i a b)):=by
 obtain⟨p1,p2,p3,p4,p5⟩:=fZ hg;obtain⟨t1,t2,t3,t4⟩:=fX p1;obtain⟨x,hx⟩:∃x,g.nd[i]? =some x:=⟨_,qB hi⟩;obtain⟨r,y,hr,hy⟩:=Us hg ha hb;have hf:=eJ (t2 _ _ hx);have lh:=(qK.1 hr).1;have l8:=(qK.1 hy).1;rw[Ur hx hr hy];refine am3 sA (aB (bM @cq.eq_1 @nodes.eq_1 (nU hx) hr hy) ?_);refine⟨by rw[cN];omega,by rw[cN];omega,om,om,om,om,om,om,?_⟩;rw[wrap64 (n:=0-x.a) om om,Int.zero_sub];by_cases h0:x.f=0
 ·simp[h0]
 ·by_cases h1:x.f=1
  ·simp[h1]
  ·by_cases h2:y=1
   ·simp[h0,h1,h2]
   ·by_cases h3:y= -1<;>simp[h0,h1,h2,h3]
def Ut(g:Gm)(hg:bR g=true)(i a b:Nat)(hi:i<g.nd.length)(ha:a<g.w.length)(hb:b<g.w.length):Pr 193 [cq g,.i i,.i a,.i b] (.i (gw g i a b)):=by
 obtain⟨p1,p2,p3,p4,p5⟩:=fZ hg;obtain⟨t1,t2,t3,t4⟩:=fX p1;obtain⟨x,hx⟩:∃x,g.nd[i]? =some x:=⟨_,qB hi⟩;obtain⟨r,y,hr,hy⟩:=Us hg ha hb;have hf:=eJ (t2 _ _ hx);have lh:=(qK.1 hr).1;have l8:=(qK.1 hy).1;rw[Ur hx hr hy];refine aq4 sA (aB (bM @cq.eq_1 @nodes.eq_1 (nU hx) hr hy) ?_);refine⟨by rw[cN];omega,by rw[cN];omega,om,om,om,om,om,om,?_⟩;rw[wrap64 (n:=0-x.a) om om,Int.zero_sub];by_cases h0:x.f=0
 ·simp[h0]
 ·by_cases h1:x.f=1
  ·simp[h1]
  ·by_cases h2:y=1
   ·simp[h0,h1,h2]
   ·by_cases h3:y= -1<;>simp[h0,h1,h2,h3]
def Lj(p:Nat)(hp:p<=8):Pr 71 [.i 60,.i p] (.i (pw p)):=by
 refine ag7 sA (ab ?_);refine lN (fun i=>St.of [(0,.t (.i 60)),(5,.t (.i (pw i))),(6,.t (.i p)),(7,.t (.i i))] []) (fun i=>i<=p) (fun i=>p-i) 0 (eU (show pw 0=1 from rfl)) (fun i hi R hn hr he=>?_)
 ·rcases qH i p with h9|h9
  ·refine aa (dt ((i:Int)<(p:Int))) ?_;have hb:=Gc (show i+1<=8 by omega);have hb0:=nV (p:=i+1);have hb8:pw 8=167961600000000:=dc;have e:pw i*60=pw (i+1):=(by rw[xR,Int.mul_comm]);exact hn _ (i+1) (eU (ay (aw h9 om) e (wrap64 (n:=pw (i+1)) om om)))
  ·refine aa (dF ((i:Int)<(p:Int))) ?_;refine he _ _ (ab ?_);rw[show i=p by omega]
def Lk(p:Nat)(hp:p<=8):Pr 76 [.i p] (.i (pw p)):=by
 refine ah1 sA (ab ?_);refine lN (fun i=>St.of [(0,.t (.i ((p-i:Nat):Int))),(3,.t (.i (pw i)))] []) (fun i=>i<=p) (fun i=>p-i) 0 (eU (ah (show pw 0=1 from rfl) @Nat.sub_zero)) (fun i hi R hn hr he=>?_)
 ·rcases qH i p with h9|h9
  ·refine aa (dt (((p-i:Nat):Int)>0)) ?_;have hb:=Gc (show i+1<=8 by omega);have hb0:=nV (p:=i+1);have hb8:pw 8=167961600000000:=dc;have e:pw i*60=pw (i+1):=(by rw[xR,Int.mul_comm]);exact hn _ (i+1) (eU (bf e (wrap64 (n:=pw (i+1)) om om) (wrap64 (n:=((p-(i+1):Nat):Int)) om om) (show((p-i:Nat):Int)-1=((p-(i+1):Nat):Int) by omega)))
  ·refine aa (dF (((p-i:Nat):Int)>0)) ?_;refine he _ _ (ab ?_);rw[show i=p by omega]
def Uu{n:Int}(h:Pr f [cq g] (.i n)):Pr f [.agg [.sh 5 (chunk c_ g.nd),.sh 1 (g.w.map ints),.sh 1 (g.v.map ints)]] (.i n):=h
def Cr{i n:Int}(h:Pr f [gk l,.i i] (.i n)):Pr f [.agg [.sh 5 (chunk c_ l)],.i i] (.i n):=h
def vR(hg:bR g=true):zE g.w/\dep g.nd g.nd.length 0=(eD g:Nat)/\eD g<=5/\0<=jk g.w/\jk g.w<=324/\1<=pw (eD g)/\pw (eD g)<=777600000:=by
 obtain⟨p1,p2,p3,p4,p5⟩:=fZ hg;obtain⟨t1,t2,t3,t4⟩:=fX p1;have hs:=K_ p3 p2.2;have jw:=FV (l:=g.nd) g.nd.length 0;have hd:eD g<=5:=by unfold eD;omega
 have hb:=K9 hs g.w.length;rw[rT]at hb;have h1:=Gc hd;have h2:=nV (p:=eD g);have h5:pw 5=777600000:=dc;exact⟨hs,by unfold eD;omega,hd,hb.1,hb.2,om,om⟩
def Uv(hg:bR g=true):0<=unit g/\unit g<=251942400000:=by
 obtain⟨h1,h2,h3,h4,h5,h6,h7⟩:=vR hg;refine⟨Int.mul_nonneg h4 om,?_⟩;have:=Int.mul_le_mul h5 h7 om (by omega:(0:Int)<=324);unfold unit;omega
def Uw(g:Gm)(hg:bR g=true):Pr 28 [cq g] (.i (unit g)):=by
 obtain⟨p1,p2,p3,p4,p5⟩:=fZ hg;obtain⟨t1,t2,t3,t4⟩:=fX p1;obtain⟨h1,h2,h3,h4,h5,h6,h7⟩:=vR hg;have sD:=Uv hg;have q7:=Cr (F7 t2 om g.nd.length 0 om om om);rw[h2]at q7;refine ad3 sA (aa (ah @cq.eq_1 @nodes.eq_1) ?_);refine V (Uu (T9 g h1)) (ab ?_);refine V q7 (ab ?_);refine V (Lj (eD g) om) (ab ?_);rw[wrap64 (n:=jk g.w*pw (eD g)) (by unfold unit at sD;omega) (by unfold unit at sD;omega)];rfl
def bb4(g:Gm)(hg:bR g=true):Pr 31 [cq g] (.i (unit g)):=by
 obtain⟨p1,p2,p3,p4,p5⟩:=fZ hg;obtain⟨t1,t2,t3,t4⟩:=fX p1;obtain⟨h1,h2,h3,h4,h5,h6,h7⟩:=vR hg;have sD:=Uv hg;have q7:=Cr (K5 t2 om g.nd.length 0 om om om);rw[h2]at q7;refine ad6 sA (aa (ah @cq.eq_1 @nodes.eq_1) ?_);refine V (Uu (T_ g h1)) (ab ?_);refine V q7 (ab ?_);refine V (Lk (eD g) om) (ab ?_);rw[wrap64 (n:=jk g.w*pw (eD g)) (by unfold unit at sD;omega) (by unfold unit at sD;omega)];rfl
def bb5(hi:i<n)(hp:(l.getD i av).p=pl){j:Nat}{y:Int}(hj:j<=(idxs l pl i).length)(hy:(idxs l pl n)[j]? =some y):(y=i↔j=(idxs l pl i).length):=by
 obtain⟨rest,e⟩:=zy l pl hp n hi;rw[e]at hy;rcases qH j (idxs l pl i).length with h|h
 ·rw[rR h]at hy;obtain⟨k,rfl,hk,_⟩:=F2 (qE hy);constructor
  ·intro h1;omega
  ·intro h1;omega
 ·rw[rD h,show j-(idxs l pl i).length=0 by omega]at hy;have:(i:Int)=y:=sU hy;constructor
  ·intro;omega
  ·intro;omega
def bb6(hi:i<n)(hp:(l.getD i av).p=pl):(idxs l pl i).length<(idxs l pl n).length:=by
 obtain⟨rest,e⟩:=zy l pl hp n hi;rw[e];simp
def bb7(g:Gm)(hg:bR g=true)(pl:Int)(i c:Nat)(hi:i<g.nd.length)(hp:(g.nd.getD i av).p=pl)(hc:c<g.w.length):Pr 194 [cq g,.i pl,.i i,.i c] (.i (el g pl i c)):=by
 obtain⟨p1,p2,p3,p4,p5⟩:=fZ hg;obtain⟨t1,t2,t3,t4⟩:=fX p1;have hlt:=bb6 hi hp;have gz:∀{j:Nat} {y:Int},j<=(idxs g.nd pl i).length->(idxs g.nd pl g.nd.length)[j]? =some y->(y=i↔j=(idxs g.nd pl i).length):=fun hj hy=>bb5 hi hp hj hy;have hlen:=o6 g.nd pl g.nd.length;refine aq5 sA (aa (ah @cq.eq_1 @nodes.eq_1) ?_);refine Rx (Un g.nd pl om) (bu @ae.eq_1 ?_);unfold el;generalize idxs g.nd pl g.nd.length=ns at hlt gz hlen ⊢;generalize hm:(idxs g.nd pl i).length=m at hlt gz ⊢;refine lN (fun j=>St.of [(2,.t (.i i)),(3,.t (.i c)),(4,.own 4),(9,.own 14),(10,.t (.i j))] [(4,.box [nodes g.nd,rows g.w,rows g.v]),(14,ae ns)]) (fun j=>j<=m) (fun j=>m-j) 0 (aq [4,14] @nodes.eq_1) (fun j hj R hn hr he=>?_)
 ·obtain⟨y,hy⟩:∃y,ns[j]? =some y:=⟨_,qB om⟩;have hiff:=gz hj hy;have hmul:j*g.w.length<=60*6:=Nat.mul_le_mul om p2.2;have hcast:(j:Int)*(g.w.length:Int)=((j*g.w.length:Nat):Int):=by rw[Int.natCast_mul]
  refine aB (bf @nodes.eq_1 @ae.eq_1 hy (dt ((j:Int)<(ns.length:Int)))) ?_;refine⟨fun h1=>hr _ ?_,fun h1=>hn _ (j+1) (aj.o _ _ [some 4,some 14] ?_ ?_) ?_ ?_⟩
  ·have h1:j=m:=hiff.1 (sU h1);refine aa (ay hcast (wrap64 (n:=((j*g.w.length:Nat):Int)) om om) (wrap64 (n:=((j*g.w.length:Nat):Int)+(c:Int)) om om)) ?_;rw[h1];rfl
  ·exact bZ (ay @nodes.eq_1 @ae.eq_1 (aw (show j<ns.length by omega) om)) trivial
  ·exact rB (rB trivial)
  ·have h1:¬j=m:=fun h=>by have:=hiff.2 h;simp at h1;omega
   omega
  ·have h1:¬j=m:=fun h=>by have:=hiff.2 h;simp at h1;omega
   omega
end
def tot:LL->Nat
 |[]=>0
 |r::m=>r.length+tot m
def Ux:∀{m:LL} {r:LI},r∈m->r.length<=tot m
 |r'::m,r,h=>by
  rcases qO.1 h with rfl|h
  ·simp[tot]
  ·have:=Ux h;simp only[tot];omega
def zH(g:Gm):T:=.agg [bk g.nd,a_ g.w,a_ g.v]
def Uy(l:List Nd):(bk l).bB=nodes l:=by
 show T.sh 5 (T.cr (chunk fP l))=T.sh 5 (chunk c_ l);congr 1;induction l with
 |nil=>rfl
 |cons x l ih=>
  rw[iP,iP,T.pv,qG,←T.pv (chunk fP l),ih];congr 1;show [T.i x.p,.i x.a,.i x.b,.i x.f,(ae x.ch).bB]=_;rw[yJ];rfl
def bb8(l:List Nd):T.cr (chunk fP l)=chunk c_ l:=by
 have:=Uy l;simpa[bk,nodes,T.bB]using this
attribute [go_sem] bb8
section
attribute [-go_sem] bC bF bK bE bH bL
end
def dq(l l':LA):Prop:=l.length=l'.length/\∀i (h:i<l.length) (h':i<l'.length),Le l[i] l'[i]
def dq.refl(l:LA):dq l l:=⟨rfl,fun _ _ _=>.refl _⟩
def dq.cons{a a':T}{l l':LA}(h:Le a a')(h':dq l l'):dq (a::l) (a'::l'):=by
 refine⟨by simp[h'.1],fun i q q'=>?_⟩;cases i with
 |zero=>exact h
 |succ i=>simpa using h'.2 i (sU q) (by simpa using q')
def lA{x:T}{l l':List T}(h:dq l l'):dq (x::l) (x::l'):=dq.cons (.refl _) h
def dq.append:∀{l l' m m':LA},dq l l'->dq m m'->dq (l++m) (l'++m')
 |[],[],_,_,_,h=>h
 |[],_::_,_,_,h,_=>absurd h.1 sA
 |_::_,[],_,_,h,_=>absurd h.1 sA
 |a::l,a'::l',m,m',h,h2=>dq.cons (h.2 0 sA sA) (dq.append ⟨by have:=h.1;simpa using this,fun i q q'=>by have:=h.2 (i+1) (sU q) (by simpa using q');simpa using this⟩ h2)
def dq.arr{s:Nat}{l l':LA}(h:dq l l'):Le (.arr s l) (.arr s l'):=.arr s h.1 h.2
def gU(b:Nat)(l:List Nd):Prop:=l.length<=b/\∀x∈l,x.ch.length<=8
def uf:∀(l:List Nd) (i:Nat) (x:Nd) (ch:LI),l[i]? =some x->(chunk fP l).set (i*5+4) (ae ch)=chunk fP (l.set i ⟨x.p,x.a,x.b,x.f,ch⟩)
 |[],i,x,ch,h=>by simp at h
 |a::l,0,x,ch,h=>by
  simp at h;subst h;rw[iP,List.set_cons_zero,iP];rfl
 |a::l,i+1,x,ch,h=>by
  rw[iP,List.set_append_right _ _ (by rw[gJ];omega),gJ,show(i+1)*5+4-5=i*5+4 by omega,uf l i x ch (sU h),List.set_cons_succ,iP]
def xX(h:gU b l)(i:Nat)(x:Nd)(hx:x.ch.length<=8):gU b (l.set i x):=by
 refine⟨by rw[List.length_set];exact h.1,fun y hy=>?_⟩;rcases List.mem_or_eq_of_mem_set hy with hy|rfl
 ·exact h.2 y hy
 ·exact hx
section
attribute [-go_sem] bC bF bK bE bH bL
def Cs(dG:Int)(hb:1<=dG/\dG<=1000)(B:Nat)(hB:B<=1000)(M:Int)(hM:M<=10000):∀(r:Nat),r<=2->∀(l:List Nd) (pl p0 p1:Int) (ck:Bool),gU B l->l.length+3*(r+1)<=B->(pl=0/\p0<p1∨pl=1/\p1<p0)->0<=p0->0<=p1->p0+1000*(r:Int)<=M->p1+1000*(r:Int)<=M→
  ∃l':List Nd,gU (l.length+3*(r+1)) l'/\l.length<l'.length/\FA 248 [bk l] [.own 1000000000,.t (.i pl),.t (.i p0),.t (.i p1),.t (.i dG),.t (.i r),.t (.b ck)] fun o res=>o=[.any]/\res=bk l'
 |0,hr,l,pl,p0,p1,ck,hl,El,hp,q0,q1,q2,q3=>by
  have sf:∀(a b:Int) (ch:LI),ch.length<=8->FA 248 [bk l] [.own 1000000000,.t (.i pl),.t (.i p0),.t (.i p1),.t (.i dG),.t (.i (0:Nat)),.t (.b ck)] (fun o res=>o=[.any]/\res= .arr 5 (chunk fP l++[.i pl,.i p0,.i p1,.i (-1),ae ch]++[.i 2,.i p0,.i p1,.i pl,.zz]++[.i 2,.i a,.i b,.i (-1),.zz]))→
    ∃l':List Nd,gU (l.length+3*(0+1)) l'/\l.length<l'.length/\FA 248 [bk l] [.own 1000000000,.t (.i pl),.t (.i p0),.t (.i p1),.t (.i dG),.t (.i (0:Nat)),.t (.b ck)] fun o res=>o=[.any]/\res=bk l':=fun a b ch hch hF=>by
   refine⟨l++[⟨pl,p0,p1, -1,ch⟩,⟨2,p0,p1,pl,[]⟩,⟨2,a,b, -1,[]⟩],⟨sA,fun x hx=>?_⟩,sA,cF.le hF ?_⟩
   ·simp only[qI,qO,List.not_mem_nil,or_false]at hx;rcases hx with hx|rfl|rfl|rfl
    ·exact hl.2 x hx
    ·exact hch
    ·simp
    ·simp
   ·rintro o res ⟨rfl,rfl⟩;refine⟨_,?_,rfl,rfl⟩;rw[bk,sP];refine dq.arr ?_;rw[qW,qW];refine dq.append (.refl _) ?_;exact lA (lA (lA (lA (lA (lA (lA (lA (lA (dq.cons (.iH 1) (lA (lA (lA (lA (dq.cons (.iH 1) (.refl _)))))))))))))))
  have hnl:(chunk fP l).length/5=l.length:=vI gJ dc l;have j_:=lI gJ l;have fJ:=hl.1;have eE:∀(x y:LA) (c d:T) (z:LA),x.length=l.length*5->y.length=4->(x++(y++c::z)).set (l.length*5+4) d=x++(y++d::z):=fun x y c d z h1 h2=>by
   rw[List.set_append_right _ _ om,List.set_append_right _ _ om,show l.length*5+4-x.length-y.length=0 by omega,List.set_cons_zero]
  rcases hp with⟨rfl,hp⟩|⟨rfl,hp⟩
  ·refine sf p1 p1 [((l.length*5+5)/5:Nat),((l.length*5+5+5)/5:Nat)] sA ?_;refine xo sA (aB (xk @bk.eq_1 j_ (decide_eq_true hp) ((show((0:Int)==1)=false from rfl)) ((show(((0:Nat):Int)==0)=true from rfl)) @qD.{0} @List.length_cons.{0} @List.length_nil.{0} @Bool.false_eq_true @false_implies @true_and) ?_);rw[show l.length*5/5*5+4=l.length*5+4 by omega,qW,qW,qW,qW];congr 1;exact eE (chunk fP l) [T.i 0,T.i p0,T.i p1,T.i (-1)] _ _ _ j_ rfl
  ·refine sf p0 p0 [((l.length*5+5)/5:Nat),((l.length*5+5+5)/5:Nat)] sA ?_;refine xo sA (aB (xk @bk.eq_1 j_ (decide_eq_true hp) ((show((1:Int)==1)=true from rfl)) ((show(((0:Nat):Int)==0)=true from rfl)) @qD.{0} @List.length_cons.{0} @List.length_nil.{0} @Bool.false_eq_true @false_implies @true_and) ?_);rw[show l.length*5/5*5+4=l.length*5+4 by omega,qW,qW,qW,qW];congr 1;exact eE (chunk fP l) [T.i 1,T.i p0,T.i p1,T.i (-1)] _ _ _ j_ rfl
 |r+1,hr,l,pl,p0,p1,ck,hl,El,hp,q0,q1,q2,q3=>by
  have hnl:(chunk fP l).length/5=l.length:=vI gJ dc l;have j_:=lI gJ l;have fJ:=hl.1;have b9:(((r+1:Nat):Int)==0)=false:=by simp;omega
  rcases hp with⟨rfl,hp⟩|⟨rfl,hp⟩
  ·obtain⟨l',bO,fb,kw⟩:=Cs dG hb B hB M hM r om (l++[⟨0,p0,p1, -1,[]⟩,⟨2,p0,p1,0,[]⟩,⟨2,p1,p1, -1,[]⟩]) 1 (p1+dG) p1 false ⟨by simp;omega,fun x hx=>by
    simp only[qI,qO,List.not_mem_nil,or_false]at hx;rcases hx with hx|rfl|rfl|rfl
    ·exact hl.2 x hx
    all_goals simp⟩ (by simp;omega) (.inr ⟨rfl,om⟩) om q1 om om
   simp only[qD,List.length_cons,List.length_nil]at bO fb;have Gd:=lI gJ l';obtain⟨z,hz⟩:∃z,l'[l.length]? =some z:=⟨_,qB om⟩;refine⟨l'.set l.length ⟨z.p,z.a,z.b,z.f,[((l.length*5+5)/5:Nat),((l.length*5+5+5)/5:Nat),((l.length*5+5+5+5)/5:Nat)]⟩,xX ⟨by have:=bO.1;omega,bO.2⟩ _ _ sA,by rw[List.length_set];omega,?_⟩;refine xo sA (aa (xm @bk.eq_1 j_ (decide_eq_true hp) ((show((0:Int)==1)=false from rfl)) ((show((0:Int)==0)=true from rfl)) b9 @qD.{0} @List.length_cons.{0} @List.length_nil.{0} @Bool.false_eq_true @false_implies @true_and) ?_);have hq:l.length*5/5=l.length:=om;have hw0:IntKind.i64.wrap (1-0)=1:=dc;have hw1:IntKind.i64.wrap (p1+dG)=p1+dG:=wrap64 om om;have dr:IntKind.i64.wrap (((r+1:Nat):Int)-1)=(r:Int):=by rw[wrap64 om om];omega
   refine⟨om,om,om,?_⟩;simp only[hw0,hw1,dr,hq];refine bz.weak (aj.le 66 (t':=bk (l++[⟨0,p0,p1, -1,[]⟩,⟨2,p0,p1,0,[]⟩,⟨2,p1,p1, -1,[]⟩])) rfl ?_ rfl) ?_
   ·rw[bk,sP,qW,qW];refine dq.arr (dq.append (.refl _) ?_);exact lA (lA (lA (lA (dq.cons (.iH 1) (lA (lA (lA (lA (dq.cons (.iH 1) (lA (lA (lA (lA (dq.cons (.iH 1) (.refl _)))))))))))))))
   refine Fx kw [66] (bu @bk.eq_1 ?_);refine⟨om,om,om,?_⟩;rw[←uf l' l.length z _ hz];rfl
  ·obtain⟨l',bO,fb,kw⟩:=Cs dG hb B hB M hM r om (l++[⟨1,p0,p1, -1,[]⟩,⟨2,p0,p1,1,[]⟩,⟨2,p0,p0, -1,[]⟩]) 0 p0 (p0+dG) false ⟨by simp;omega,fun x hx=>by
    simp only[qI,qO,List.not_mem_nil,or_false]at hx;rcases hx with hx|rfl|rfl|rfl
    ·exact hl.2 x hx
    all_goals simp⟩ (by simp;omega) (.inl ⟨rfl,om⟩) q0 om om om
   simp only[qD,List.length_cons,List.length_nil]at bO fb;have Gd:=lI gJ l';obtain⟨z,hz⟩:∃z,l'[l.length]? =some z:=⟨_,qB om⟩;refine⟨l'.set l.length ⟨z.p,z.a,z.b,z.f,[((l.length*5+5)/5:Nat),((l.length*5+5+5)/5:Nat),((l.length*5+5+5+5)/5:Nat)]⟩,xX ⟨by have:=bO.1;omega,bO.2⟩ _ _ sA,by rw[List.length_set];omega,?_⟩;refine xo sA (aa (xm @bk.eq_1 j_ (decide_eq_true hp) ((show((1:Int)==1)=true from rfl)) ((show((1:Int)==0)=false from rfl)) b9 @qD.{0} @List.length_cons.{0} @List.length_nil.{0} @Bool.false_eq_true @false_implies @true_and) ?_);have hq:l.length*5/5=l.length:=om;have hw0:IntKind.i64.wrap (1-1)=0:=dc;have hw1:IntKind.i64.wrap (p0+dG)=p0+dG:=wrap64 om om;have dr:IntKind.i64.wrap (((r+1:Nat):Int)-1)=(r:Int):=by rw[wrap64 om om];omega
   refine⟨om,om,om,?_⟩;simp only[hw0,hw1,dr,hq];refine bz.weak (aj.le 66 (t':=bk (l++[⟨1,p0,p1, -1,[]⟩,⟨2,p0,p1,1,[]⟩,⟨2,p0,p0, -1,[]⟩])) rfl ?_ rfl) ?_
   ·rw[bk,sP,qW,qW];refine dq.arr (dq.append (.refl _) ?_);exact lA (lA (lA (lA (dq.cons (.iH 1) (lA (lA (lA (lA (dq.cons (.iH 1) (lA (lA (lA (lA (dq.cons (.iH 1) (.refl _)))))))))))))))
   refine Fx kw [66] (bu @bk.eq_1 ?_);refine⟨om,om,om,?_⟩;rw[←uf l' l.length z _ hz];rfl
def bb9(dG:Int)(hb:1<=dG/\dG<=1000)(r:Nat)(hr:r<=2)(l:List Nd)(pl p:Int)(hl:gU 900 l)(hp:pl=0∨pl=1)(q0:0<=p)(q1:p<=1000):
  ∃l':List Nd,gU (l.length+2+3*(r+1)) l'/\l.length<l'.length/\FA 248 [bk l] [.own 1000000000,.t (.i pl),.t (.i p),.t (.i p),.t (.i dG),.t (.i r),.t (.b true)] fun o res=>o=[.any]/\res=bk l':=by
 have hnl:(chunk fP l).length/5=l.length:=vI gJ dc l;have j_:=lI gJ l;have fJ:=hl.1;have hq:l.length*5/5=l.length:=om;have hw1:IntKind.i64.wrap (p+dG)=p+dG:=wrap64 om om;rcases hp with rfl|rfl
 ·obtain⟨l',bO,fb,kw⟩:=Cs dG hb 1000 om 10000 om r hr (l++[⟨0,p,p, -1,[]⟩,⟨2,p,p, -1,[]⟩]) 1 (p+dG) p false ⟨by simp;omega,fun x hx=>by
   simp only[qI,qO,List.not_mem_nil,or_false]at hx;rcases hx with hx|rfl|rfl
   ·exact hl.2 x hx
   all_goals simp⟩ (by simp;omega) (.inr ⟨rfl,om⟩) om q0 om om
  simp only[qD,List.length_cons,List.length_nil]at bO fb;have Gd:=lI gJ l';obtain⟨z,hz⟩:∃z,l'[l.length]? =some z:=⟨_,qB om⟩;refine⟨l'.set l.length ⟨z.p,z.a,z.b,z.f,[((l.length*5+5)/5:Nat),((l.length*5+5+5)/5:Nat)]⟩,xX ⟨by have:=bO.1;omega,bO.2⟩ _ _ sA,by rw[List.length_set];omega,?_⟩;refine xo sA ?_;have hw0:IntKind.i64.wrap (1-0)=1:=dc;refine aB (xk @bk.eq_1 j_ (dF (p<p)) ((show((0:Int)==1)=false from rfl)) ((show((0:Int)==0)=true from rfl)) @qD.{0} @List.length_cons.{0} @List.length_nil.{0} @Bool.false_eq_true @false_implies @true_and) ?_;simp only[hw0,hw1,hq];refine bz.weak (aj.le 84 (t':=bk (l++[⟨0,p,p, -1,[]⟩,⟨2,p,p, -1,[]⟩])) rfl ?_ rfl) ?_
  ·rw[bk,sP,qW];refine dq.arr (dq.append (.refl _) ?_);exact lA (lA (lA (lA (dq.cons (.iH 1) (lA (lA (lA (lA (dq.cons (.iH 1) (.refl _))))))))))
  refine Fx kw [84] (bu @bk.eq_1 ?_);refine⟨om,om,om,?_⟩;rw[←uf l' l.length z _ hz];rfl
 ·obtain⟨l',bO,fb,kw⟩:=Cs dG hb 1000 om 10000 om r hr (l++[⟨1,p,p, -1,[]⟩,⟨2,p,p, -1,[]⟩]) 0 p (p+dG) false ⟨by simp;omega,fun x hx=>by
   simp only[qI,qO,List.not_mem_nil,or_false]at hx;rcases hx with hx|rfl|rfl
   ·exact hl.2 x hx
   all_goals simp⟩ (by simp;omega) (.inl ⟨rfl,om⟩) q0 om om om
  simp only[qD,List.length_cons,List.length_nil]at bO fb;have Gd:=lI gJ l';obtain⟨z,hz⟩:∃z,l'[l.length]? =some z:=⟨_,qB om⟩;refine⟨l'.set l.length ⟨z.p,z.a,z.b,z.f,[((l.length*5+5)/5:Nat),((l.length*5+5+5)/5:Nat)]⟩,xX ⟨by have:=bO.1;omega,bO.2⟩ _ _ sA,by rw[List.length_set];omega,?_⟩;refine xo sA ?_;have hw0:IntKind.i64.wrap (1-1)=0:=dc;refine aB (xk @bk.eq_1 j_ (dF (p<p)) ((show((1:Int)==1)=true from rfl)) ((show((1:Int)==0)=false from rfl)) @qD.{0} @List.length_cons.{0} @List.length_nil.{0} @Bool.false_eq_true @false_implies @true_and) ?_;simp only[hw0,hw1,hq];refine bz.weak (aj.le 84 (t':=bk (l++[⟨1,p,p, -1,[]⟩,⟨2,p,p, -1,[]⟩])) rfl ?_ rfl) ?_
  ·rw[bk,sP,qW];refine dq.arr (dq.append (.refl _) ?_);exact lA (lA (lA (lA (dq.cons (.iH 1) (lA (lA (lA (lA (dq.cons (.iH 1) (.refl _))))))))))
  refine Fx kw [84] (bu @bk.eq_1 ?_);refine⟨om,om,om,?_⟩;rw[←uf l' l.length z _ hz];rfl
def bc0(dG:Int)(hb:1<=dG/\dG<=1000)(r:Nat)(hr:r<=2)(p:Int)(q0:0<=p)(q1:p<=1000):
  ∃l':List Nd,gU 100 l'/\0<l'.length/\FA 248 [] [.t (.zz),.t (.i 0),.t (.i p),.t (.i p),.t (.i dG),.t (.i r),.t (.b false)] fun o res=>o=[]/\res=bk l':=by
 obtain⟨l1,bO,fb,hC⟩:=bb9 dG hb r hr [⟨0,p,p, -1,[]⟩] 1 p ⟨sA,sA⟩ (.inr rfl) q0 q1;simp only[List.length_cons,List.length_nil]at bO fb;have h1:=bO.1;obtain⟨l2,BR,Fj,kw⟩:=Cs dG hb 1000 om 10000 om r hr l1 1 (p+dG) p false ⟨om,bO.2⟩ om (.inr ⟨rfl,om⟩) om q0 om om;have Gd:=lI gJ l2;obtain⟨z,hz⟩:∃z,l2[0]? =some z:=⟨_,qB om⟩;refine⟨l2.set 0 ⟨z.p,z.a,z.b,z.f,[1,((chunk fP l1).length/5:Nat)]⟩,xX ⟨by have:=BR.1;omega,BR.2⟩ _ _ sA,by rw[List.length_set];omega,?_⟩;refine xo sA ?_;have hw1:IntKind.i64.wrap (p+dG)=p+dG:=wrap64 om om;have hw0:IntKind.i64.wrap (1-0)=1:=dc;refine aa (jz @bk.eq_1 (dF (p<p)) ((show((0:Int)==1)=false from rfl)) @List.length_cons.{0} @List.length_nil.{0} @Bool.false_eq_true @false_implies @true_and) ?_;simp only[hw0];refine bz.weak (aj.le 27 (t':=bk [⟨0,p,p, -1,[]⟩]) rfl ?_ rfl) ?_
 ·exact dq.arr (lA (lA (lA (lA (dq.cons (.iH 1) (.refl _))))))
 refine Fx hC [27] (bu (bM @bk.eq_1 ((show((0:Int)==0)=true from rfl)) @Bool.false_eq_true @false_implies @true_and) ?_);simp only[hw0,hw1];simp only[bk]at kw;refine Fx kw [44] (aP ?_);refine⟨om,om,?_⟩;rw[←uf l2 0 z _ hz];rfl
def Ll(ug dG:Int)(r:Nat)(h0:0<=ug)(h1:ug<=20)(b0:1<=dG)(b1:dG<=20)(hr:r<=1):
  ∃l':List Nd,gU 100 l'/\0<l'.length/\FA 238 [] [.t (.i ug),.t (.i dG),.t (.i r)] fun o res=>o=[]/\res= .aI [.agg [bk l'],.i 0]:=by
 obtain⟨l',cC,bi,hG⟩:=bc0 dG om r om ug h0 om;refine⟨l',cC,bi,?_⟩;refine at5 sA (ab ?_);have e1:decide (0<=ug/\ug<=100)=true:=decide_eq_true om;have e2:decide (1<=dG/\dG<=100)=true:=decide_eq_true om;have e3:decide ((0:Int)<=(r:Int)/\(r:Int)<=2)=true:=decide_eq_true om;refine Px (eN ug 0 100) (aa (ah e1 @Bool.not_true) ?_);refine Px (eN dG 1 100) (aa (ah e2 @Bool.not_true) ?_);refine Px (eN r 0 2) (aa (ah e3 @Bool.not_true) ?_);have hm:0<=dG*((r:Int)+1)/\dG*((r:Int)+1)<=40:=by
  have:(r:Int)=0∨(r:Int)=1:=om;rcases this with h|h<;>rw[h]<;>omega
 have hw1:IntKind.i64.wrap ((r:Int)+1)=(r:Int)+1:=wrap64 om om;have dr:IntKind.i64.wrap (dG*((r:Int)+1))=dG*((r:Int)+1):=wrap64 om om;have lP:IntKind.i64.wrap (ug+dG*((r:Int)+1))=ug+dG*((r:Int)+1):=wrap64 om om;simp only[hw1,dr,lP];refine⟨fun h=>om,fun _=>?_⟩;exact Rx hG (bu @bk.eq_1 trivial)
end
def kb:Nat->Nat
 |0=>1
 |d+1=>1+3*kb d
def Uz:∀d,d+1<=kb d
 |0=>qR _
 |d+1=>by have:=Uz d;rw[kb];omega
def jI(cs:LI)(l:List Nd)(z:Int×(Nat×Int)):List Nd×(Nat×Int):=
 if 0<=IntKind.i64.wrap ((aJ cs z.2 3).1-1)then(l++[⟨2,z.1,(aJ cs (aJ cs z.2 3).2 6).1,IntKind.i64.wrap ((aJ cs z.2 3).1-1),[]⟩],(aJ cs (aJ cs z.2 3).2 6).2)
 else(l++[⟨2,z.1,z.1,IntKind.i64.wrap ((aJ cs z.2 3).1-1),[]⟩],(aJ cs z.2 3).2)
def zI(f:List Nd×(Nat×Int)->List Nd×(Nat×Int))(s:(List Nd×(Nat×Int))×LI):(List Nd×(Nat×Int))×LI:=(f (s.1.1,s.1.2),s.2++[(s.1.1.length:Int)])
def gy(f:List Nd×(Nat×Int)->List Nd×(Nat×Int))(s:(List Nd×(Nat×Int))×LI):Nat->(List Nd×(Nat×Int))×LI
 |0=>s
 |k+1=>zI f (gy f s k)
def q9(l:List Nd)(i:Nat)(ch:LI):List Nd:=match l[i]? with|some z=>l.set i ⟨z.p,z.a,z.b,z.f,ch⟩|none=>l
def f6(cs:LI)(l:List Nd)(b7:Int)(b:Nat×Int):(List Nd×(Nat×Int))×LI:=((l++[⟨(aJ cs b 2).1,b7,b7, -1,[]⟩],(aJ cs (aJ cs b 2).2 3).2),[])
def sV(cs:LI)(f:List Nd×(Nat×Int)->List Nd×(Nat×Int))(l:List Nd)(b7:Int)(b:Nat×Int):List Nd×(Nat×Int):=
 (q9 (gy f (f6 cs l b7 b) (1+(aJ cs (aJ cs b 2).2 3).1).toNat).1.1 l.length (gy f (f6 cs l b7 b) (1+(aJ cs (aJ cs b 2).2 3).1).toNat).2,(gy f (f6 cs l b7 b) (1+(aJ cs (aJ cs b 2).2 3).1).toNat).1.2)
def dH(cs:LI):Nat->List Nd×(Nat×Int)->List Nd×(Nat×Int)
 |0,s=>jI cs s.1 (aJ cs s.2 6)
 |d+1,s=>if 30<s.1.length then jI cs s.1 (aJ cs s.2 6)
  else if 0<s.1.length then(if(aJ cs (aJ cs s.2 6).2 3).1=0 then jI cs s.1 ((aJ cs s.2 6).1,(aJ cs (aJ cs s.2 6).2 3).2)else sV cs (dH cs d) s.1 (aJ cs s.2 6).1 (aJ cs (aJ cs s.2 6).2 3).2)
  else sV cs (dH cs d) s.1 (aJ cs s.2 6).1 (aJ cs s.2 6).2
def grown(b:Nat)(l:List Nd)(x:List Nd×(Nat×Int)):Prop:=gU (l.length+b) x.1/\l.length<x.1.length/\cI x.2
def Ct{z:Nd}(h:∀x∈l,x.ch.length<=8)(hz:z.ch.length<=8):∀x∈l++[z],x.ch.length<=8:=by
 intro x hx;rcases qI.1 hx with hx|hx
 ·exact h x hx
 ·simp at hx;rw[hx];exact hz
def Lm(hl:cs.length<=100000000000)(hs:∀x∈l,x.ch.length<=8){z:Int×(Nat×Int)}(hz:cI z.2):grown 1 l (jI cs l z):=by
 have h3:=dK (cs:=cs) hl hz 3;have h6:=dK (cs:=cs) hl h3 6;unfold jI;split
 ·exact⟨⟨sA,Ct hs sA⟩,sA,h6⟩
 ·exact⟨⟨sA,Ct hs sA⟩,sA,h3⟩
def Ge{f:List Nd×(Nat×Int)->List Nd×(Nat×Int)}{b:Nat}{s:(List Nd×(Nat×Int))×LI}(hs:∀x∈s.1.1,x.ch.length<=8)(hb:cI s.1.2)(hc:s.2=[])(B:Nat):∀k,k<=3->s.1.1.length+k*b<=B->(∀m e,cI e->(∀x∈m,x.ch.length<=8)->m.length+b<=B->grown b m (f (m,e)))→
  (gy f s k).1.1.length<=s.1.1.length+k*b/\(∀x∈(gy f s k).1.1,x.ch.length<=8)/\s.1.1.length<=(gy f s k).1.1.length/\cI (gy f s k).1.2/\(gy f s k).2.length=k
 |0,_,_,_=>by
  simp only[gy];exact⟨om,hs,qR _,hb,by rw[hc];rfl⟩
 |k+1,hk,hB,hf=>by
  have e:(k+1)*b=k*b+b:=by rw[Nat.add_mul];omega
  obtain⟨h1,h2,h3,h4,h5⟩:=Ge hs hb hc B k om om hf;obtain⟨g1,g2,g3⟩:=hf (gy f s k).1.1 (gy f s k).1.2 h4 h2 om;simp only[gy,zI];refine⟨?_,g1.2,by have:=g2;omega,g3,by simp[h5]⟩;have:=g1.1;rw[e];omega
def UA(h:gU b l)(i:Nat){ch:LI}(hc:ch.length<=8):gU b (q9 l i ch)/\(q9 l i ch).length=l.length:=by
 unfold q9;split
 ·exact⟨xX h _ _ hc,by rw[List.length_set]⟩
 ·exact⟨h,rfl⟩
def UB(hl:cs.length<=100000000000){f:List Nd×(Nat×Int)->List Nd×(Nat×Int)}{B:Nat}(hf:∀m e,cI e->(∀x∈m,x.ch.length<=8)->m.length+b<=B->grown b m (f (m,e)))(hs:∀x∈l,x.ch.length<=8){b7:Int}{e:Nat×Int}(he:cI e)(hB:l.length+1+3*b<=B):grown (1+3*b) l (sV cs f l b7 e):=by
 have h2:=dK (cs:=cs) hl he 2;have h3:=dK (cs:=cs) hl h2 3;have iq:=ky (cs:=cs) (a:=(aJ cs e 2).2) (n:=3) om;obtain⟨K,hK⟩:∃K:Nat,(1+(aJ cs (aJ cs e 2).2 3).1).toNat=K:=⟨_,rfl⟩;have us:1<=K/\K<=3:=om;have hKb:K*b<=3*b:=Nat.mul_le_mul_right _ us.2;obtain⟨q1,q2,q3,q4,q5⟩:=Ge (s:=f6 cs l b7 e) (b:=b) (f:=f) (Ct hs sA) h3 rfl B K us.2 (by simp[f6];omega) hf;have hlen:(f6 cs l b7 e).1.1.length=l.length+1:=by simp[f6]
 rw[hlen]at q1 q3;unfold sV;rw[hK];have bV:gU (l.length+(1+3*b)) (gy f (f6 cs l b7 e) K).1.1:=⟨om,q2⟩;obtain⟨s1,s2⟩:=UA bV l.length (ch:=(gy f (f6 cs l b7 e) K).2) om;exact⟨s1,by show l.length<(q9 _ _ _).length;rw[s2];omega,q4⟩
def Gf{cs:LI}(hl:cs.length<=100000000000):∀(d:Nat) (l:List Nd) (a:Nat×Int),cI a->(∀x∈l,x.ch.length<=8)->grown (kb d) l (dH cs d (l,a))
 |0,l,a,ha,hs=>Lm hl hs (dK hl ha 6)
 |d+1,l,a,ha,hs=>by
  have h6:=dK (cs:=cs) hl ha 6;have h3:=dK (cs:=cs) hl h6 3;have up:∀x,grown 1 l x->grown (kb (d+1)) l x:=fun x h=>⟨⟨by have:=h.1.1;rw[kb];omega,h.1.2⟩,h.2⟩;have hf:∀m e,cI e->(∀x∈m,x.ch.length<=8)->m.length+kb d<=l.length+1+3*kb d->grown (kb d) m (dH cs d (m,e)):=fun m e he hm _=>Gf hl d m e he hm;rw[dH];split
  ·exact up _ (Lm hl hs h6)
  ·split
   ·split
    ·exact up _ (Lm hl hs h3)
    ·exact UB hl hf hs h3 (qR _)
   ·exact UB hl hf hs h6 (qR _)
section
attribute [-go_sem] bC bF bK bE bH bL
def Ln(cs:LI)(hc:iO cs)(hl:cs.length<=100000000000)(B:Nat)(oA:B<=1000):∀(d:Nat) (l:List Nd) (a:Nat×Int),cI a->gU B l->l.length+kb d<=B→
  FA 241 [.box [bytes cs,.i a.1,.i a.2],bk l] [.own 1000000000,.own 1000000001,.t (.i d)] fun o res=>o=[.box [bytes cs,.i (dH cs d (l,a)).2.1,.i (dH cs d (l,a)).2.2],.any]/\res=bk (dH cs d (l,a)).1:=by
 intro d l a ha hs hb;refine cF.le (Q:=fun o res=>o=[.box [bytes cs,.i (dH cs d (l,a)).2.1,.i (dH cs d (l,a)).2.2],.any]/\(res=bk (dH cs d (l,a)).1∨∃p q f,(dH cs d (l,a)).1=l++[⟨2,p,q,f,[]⟩]/\res= .arr 5 (chunk fP l++[.i 2,.i p,.i q,.i f,.zz]))) ?_ ?_
 rotate_left
 ·rintro o res ⟨rfl,rfl|⟨p,q,f,e,rfl⟩⟩
  ·exact⟨_,.refl _,rfl,rfl⟩
  ·refine⟨bk (dH cs d (l,a)).1,?_,rfl,rfl⟩;rw[e,bk,sP];exact dq.arr (dq.append (.refl _) (lA (lA (lA (lA (dq.cons (.iH 1) (.refl _)))))))
 have hnl:(chunk fP l).length/5=l.length:=vI gJ dc l;have j_:=lI gJ l;have fJ:=hs.1
 match d,hb with
 |0,hb=>
  refine Po sA (aa (ah @bk.eq_1 j_) ?_);refine Fx (dV cs hc hl a ha 6 om) [1000000000] (aP ?_);have aW:=dK (cs:=cs) hl ha 6;generalize hz:aJ cs a 6=z at aW ⊢;obtain⟨b7,b⟩:=z;simp only[]at aW ⊢;refine⟨fun h=>absurd h dc,fun _=>?_⟩;refine Fx (dV cs hc hl b aW 3 om) [1000000000] (aP ?_);have bY:=dK (cs:=cs) hl aW 3;generalize oS:aJ cs b 3=z at bY ⊢;obtain⟨f,b3⟩:=z;simp only[]at bY ⊢;have hF:=(show dH cs 0 (l,a)=jI cs l (b7,b) by rw[dH,hz]);refine⟨fun h=>?_,fun h=>?_⟩
  ·refine Fx (dV cs hc hl b3 bY 6 om) [1000000000] (aP ?_);have hE:jI cs l (b7,b)=(l++[⟨2,b7,(aJ cs b3 6).1,IntKind.i64.wrap (f-1),[]⟩],(aJ cs b3 6).2):=by
    simp only[jI,oS];exact if_pos h
   rw[hF,hE];exact⟨om,rfl,.inr ⟨b7,_,_,rfl,rfl⟩⟩
  ·have hE:jI cs l (b7,b)=(l++[⟨2,b7,b7,IntKind.i64.wrap (f-1),[]⟩],b3):=by
    simp only[jI,oS];exact if_neg h
   rw[hF,hE];exact⟨om,rfl,.inr ⟨b7,_,_,rfl,rfl⟩⟩
 |d+1,hb=>
  have hB:=hb;have hdg:=Uz d;simp only[kb]at hB;have jw:(((d+1:Nat):Int)==0)=false:=by simp;omega
  refine Po sA (aa (ah @bk.eq_1 j_) ?_);refine Fx (dV cs hc hl a ha 6 om) [1000000000] (bu (ah jw hnl) ?_);have aW:=dK (cs:=cs) hl ha 6;generalize hz:aJ cs a 6=z at aW ⊢;obtain⟨b7,b⟩:=z;simp only[]at aW ⊢;refine⟨fun h30=>⟨fun h0=>?_,fun h0=>?_⟩,fun h30=>?_⟩
  ·refine Fx (dV cs hc hl b aW 3 om) [1000000000] (aP ?_);have zJ:=dK (cs:=cs) hl aW 3;generalize hzd:aJ cs b 3=z at zJ ⊢;obtain⟨k,bd⟩:=z;simp only[]at zJ ⊢;refine⟨fun hk=>?_,fun hk=>?_⟩
   ·refine Fx (dV cs hc hl bd zJ 3 om) [1000000000] (aP ?_);have bY:=dK (cs:=cs) hl zJ 3;generalize oS:aJ cs bd 3=z at bY ⊢;obtain⟨f,b3⟩:=z;simp only[]at bY ⊢;have hF:=(show dH cs (d+1) (l,a)=jI cs l (b7,bd) by rw[dH,if_neg (show¬30<l.length by omega),if_pos (show 0<l.length by omega),hz];simp only[hzd];exact if_pos (sU hk));refine⟨fun h=>?_,fun h=>?_⟩
    ·refine Fx (dV cs hc hl b3 bY 6 om) [1000000000] (aP ?_);have hE:jI cs l (b7,bd)=(l++[⟨2,b7,(aJ cs b3 6).1,IntKind.i64.wrap (f-1),[]⟩],(aJ cs b3 6).2):=by
      simp only[jI,oS];exact if_pos h
     rw[hF,hE];exact⟨om,rfl,.inr ⟨b7,_,_,rfl,rfl⟩⟩
    ·have hE:jI cs l (b7,bd)=(l++[⟨2,b7,b7,IntKind.i64.wrap (f-1),[]⟩],b3):=by
      simp only[jI,oS];exact if_neg h
     rw[hF,hE];exact⟨om,rfl,.inr ⟨b7,_,_,rfl,rfl⟩⟩
   ·refine Fx (dV cs hc hl bd zJ 2 om) [1000000000] (bu (ay @List.length_cons.{0} @List.length_nil.{0} j_) ?_);have bY:=dK (cs:=cs) hl zJ 2;have hb4:=ky (cs:=cs) (a:=(aJ cs bd 2).2) (n:=3) om;have hs4:=dK (cs:=cs) hl bY 3;have hF:=(show dH cs (d+1) (l,a)=sV cs (dH cs d) l b7 bd by rw[dH,if_neg (show¬30<l.length by omega),if_pos (show 0<l.length by omega),hz];simp only[hzd];exact if_neg (sU hk));obtain⟨K,hK⟩:∃K:Nat,(1+(aJ cs (aJ cs bd 2).2 3).1).toNat=K:=⟨_,rfl⟩;have Lo:1+(aJ cs (aJ cs bd 2).2 3).1=(K:Int):=om;have us:1<=K/\K<=3:=om;have vN:sV cs (dH cs d) l b7 bd=(q9 (gy (dH cs d) (f6 cs l b7 bd) K).1.1 l.length (gy (dH cs d) (f6 cs l b7 bd) K).2,(gy (dH cs d) (f6 cs l b7 bd) K).1.2):=(by rw[sV,hK]);have Cu:=fun i (hi:i<=K)=>Ge (s:=f6 cs l b7 bd) (b:=kb d) (f:=dH cs d) (Ct hs.2 sA) hs4 rfl B i om (by have:=Nat.mul_le_mul_right (kb d) (show i<=3 by omega);simp[f6];omega) (fun m e he hm _=>Gf hl d m e he hm);refine⟨om,?_⟩;refine bz.weak (aj.le 56 (t':=bk (l++[⟨(aJ cs bd 2).1,b7,b7, -1,[]⟩])) rfl ?_ rfl) ?_
    ·rw[bk,sP];exact dq.arr (dq.append (.refl _) (lA (lA (lA (lA (dq.cons (.iH 1) (.refl _)))))))
    refine Fx (dV cs hc hl (aJ cs bd 2).2 bY 3 om) [1000000000] (aP ?_);have Lp:IntKind.i64.wrap (1+(aJ cs (aJ cs bd 2).2 3).1)=(K:Int):=by rw[wrap64 om om];exact Lo
    have Lq:IntKind.i64.wrap (((d+1:Nat):Int)-1)=(d:Int):=by rw[wrap64 om om];omega
    have Cv:gy (dH cs d) (f6 cs l b7 bd) 0=((l++[⟨(aJ cs bd 2).1,b7,b7, -1,[]⟩],(aJ cs (aJ cs bd 2).2 3).2),[]):=rfl;have Cw:∀i,gy (dH cs d) (f6 cs l b7 bd) (i+1)=zI (dH cs d) (gy (dH cs d) (f6 cs l b7 bd) i):=fun i=>rfl;have hl0:(f6 cs l b7 bd).1.1.length=l.length+1:=(by simp[f6]);generalize hLL:gy (dH cs d) (f6 cs l b7 bd)=L at Cv Cw vN Cu;refine dX.ig (σ:=Nat) (fun i=>St.tB [(0,.own 1000000000),(1,.own 196),(2,.t (.i ((d+1:Nat):Int))),(7,.t (.i l.length)),(10,.own 197),(11,.t (.i ((K:Int)-i)))] [(1000000000,.box [bytes cs,.i (L i).1.2.1,.i (L i).1.2.2]),(196,bk (L i).1.1),(197,ae (L i).2)] 1000000001) (fun i=>i<=K) (fun i=>3-i) 0 (aj.tB _ _ _ [some 1000000000,some 56,some 57] sA sA rfl ?_ ?_) om fun i hi R hn' hr he=>?_
    ·exact bZ (ay Lp @Int.sub_zero (show l.length*5/5=l.length by omega)) trivial
    ·rw[Cv];exact rB (rB (rB trivial))
    obtain⟨i1,i2,i3,i4,i5⟩:=Cu i hi;rw[hl0]at i1 i3;have hi3:=Nat.mul_le_mul_right (kb d) (show i<=3 by omega);have hml:(chunk fP (L i).1.1).length/5=(L i).1.1.length:=vI gJ dc _;have Cx:(chunk fP (L i).1.1).length=(L i).1.1.length*5:=lI gJ _;rcases qH i K with h9|h9
    ·refine aa (bM @bk.eq_1 @ae.eq_1 Cx (dt (0<(K:Int)-(i:Int))) @qJ.{0,0}) ?_;have BP:=Nat.mul_le_mul_right (kb d) (show i+1<=3 by omega);rw[Nat.add_mul,Nat.one_mul]at BP;refine⟨om,?_⟩;simp only[Lq];have kw:=Ln cs hc hl B oA d (L i).1.1 (L i).1.2 i4 ⟨om,i2⟩ om;simp only[bk]at kw;refine Fx kw [1000000000,196] (aP ?_);refine hn' _ (i+1) (aj.tB _ _ _ [some 1000000000,some 74,some 69] sA sA rfl ?_ ?_) om om
     ·exact bZ (show IntKind.i64.wrap ((K:Int)-(i:Int)-1)=(K:Int)-((i+1:Nat):Int) by rw[wrap64 om om];omega) trivial
     ·rw[Cw];refine rB (rB (rI ?_ trivial));simp only[zI,ae,qG,List.map_cons,List.map_nil,show(L i).1.1.length*5/5=(L i).1.1.length by omega];exact .refl _
    ·refine aa (ay @bk.eq_1 @ae.eq_1 (dF (0<(K:Int)-(i:Int)))) ?_;refine he _ _ (aa Cx ?_);obtain rfl:i=K:=om;obtain⟨z,hz⟩:∃z,(L i).1.1[l.length]? =some z:=⟨_,qB om⟩;refine⟨om,om,om,?_⟩;rw[hF,vN];refine⟨rfl,.inl ?_⟩;simp only[q9,hz];rw[←uf (L i).1.1 l.length z _ hz];rfl
  ·refine Fx (dV cs hc hl b aW 2 om) [1000000000] (bu (ay @List.length_cons.{0} @List.length_nil.{0} j_) ?_);have bY:=dK (cs:=cs) hl aW 2;have hb4:=ky (cs:=cs) (a:=(aJ cs b 2).2) (n:=3) om;have hs4:=dK (cs:=cs) hl bY 3;have hF:=(show dH cs (d+1) (l,a)=sV cs (dH cs d) l b7 b by rw[dH,if_neg (show¬30<l.length by omega),if_neg (show¬0<l.length by omega),hz]);obtain⟨K,hK⟩:∃K:Nat,(1+(aJ cs (aJ cs b 2).2 3).1).toNat=K:=⟨_,rfl⟩;have Lo:1+(aJ cs (aJ cs b 2).2 3).1=(K:Int):=om;have us:1<=K/\K<=3:=om;have vN:sV cs (dH cs d) l b7 b=(q9 (gy (dH cs d) (f6 cs l b7 b) K).1.1 l.length (gy (dH cs d) (f6 cs l b7 b) K).2,(gy (dH cs d) (f6 cs l b7 b) K).1.2):=(by rw[sV,hK]);have Cu:=fun i (hi:i<=K)=>Ge (s:=f6 cs l b7 b) (b:=kb d) (f:=dH cs d) (Ct hs.2 sA) hs4 rfl B i om (by have:=Nat.mul_le_mul_right (kb d) (show i<=3 by omega);simp[f6];omega) (fun m e he hm _=>Gf hl d m e he hm);refine⟨om,?_⟩;refine bz.weak (aj.le 56 (t':=bk (l++[⟨(aJ cs b 2).1,b7,b7, -1,[]⟩])) rfl ?_ rfl) ?_
   ·rw[bk,sP];exact dq.arr (dq.append (.refl _) (lA (lA (lA (lA (dq.cons (.iH 1) (.refl _)))))))
   refine Fx (dV cs hc hl (aJ cs b 2).2 bY 3 om) [1000000000] (aP ?_);have Lp:IntKind.i64.wrap (1+(aJ cs (aJ cs b 2).2 3).1)=(K:Int):=by rw[wrap64 om om];exact Lo
   have Lq:IntKind.i64.wrap (((d+1:Nat):Int)-1)=(d:Int):=by rw[wrap64 om om];omega
   have Cv:gy (dH cs d) (f6 cs l b7 b) 0=((l++[⟨(aJ cs b 2).1,b7,b7, -1,[]⟩],(aJ cs (aJ cs b 2).2 3).2),[]):=rfl;have Cw:∀i,gy (dH cs d) (f6 cs l b7 b) (i+1)=zI (dH cs d) (gy (dH cs d) (f6 cs l b7 b) i):=fun i=>rfl;have hl0:(f6 cs l b7 b).1.1.length=l.length+1:=(by simp[f6]);generalize hLL:gy (dH cs d) (f6 cs l b7 b)=L at Cv Cw vN Cu;refine dX.ig (σ:=Nat) (fun i=>St.tB [(0,.own 1000000000),(1,.own 196),(2,.t (.i ((d+1:Nat):Int))),(7,.t (.i l.length)),(10,.own 197),(11,.t (.i ((K:Int)-i)))] [(1000000000,.box [bytes cs,.i (L i).1.2.1,.i (L i).1.2.2]),(196,bk (L i).1.1),(197,ae (L i).2)] 1000000001) (fun i=>i<=K) (fun i=>3-i) 0 (aj.tB _ _ _ [some 1000000000,some 56,some 57] sA sA rfl ?_ ?_) om fun i hi R hn' hr he=>?_
   ·exact bZ (ay Lp @Int.sub_zero (show l.length*5/5=l.length by omega)) trivial
   ·rw[Cv];exact rB (rB (rB trivial))
   obtain⟨i1,i2,i3,i4,i5⟩:=Cu i hi;rw[hl0]at i1 i3;have hi3:=Nat.mul_le_mul_right (kb d) (show i<=3 by omega);have hml:(chunk fP (L i).1.1).length/5=(L i).1.1.length:=vI gJ dc _;have Cx:(chunk fP (L i).1.1).length=(L i).1.1.length*5:=lI gJ _;rcases qH i K with h9|h9
   ·refine aa (bM @bk.eq_1 @ae.eq_1 Cx (dt (0<(K:Int)-(i:Int))) @qJ.{0,0}) ?_;have BP:=Nat.mul_le_mul_right (kb d) (show i+1<=3 by omega);rw[Nat.add_mul,Nat.one_mul]at BP;refine⟨om,?_⟩;simp only[Lq];have kw:=Ln cs hc hl B oA d (L i).1.1 (L i).1.2 i4 ⟨om,i2⟩ om;simp only[bk]at kw;refine Fx kw [1000000000,196] (aP ?_);refine hn' _ (i+1) (aj.tB _ _ _ [some 1000000000,some 74,some 69] sA sA rfl ?_ ?_) om om
    ·exact bZ (show IntKind.i64.wrap ((K:Int)-(i:Int)-1)=(K:Int)-((i+1:Nat):Int) by rw[wrap64 om om];omega) trivial
    ·rw[Cw];refine rB (rB (rI ?_ trivial));simp only[zI,ae,qG,List.map_cons,List.map_nil,show(L i).1.1.length*5/5=(L i).1.1.length by omega];exact .refl _
   ·refine aa (ay @bk.eq_1 @ae.eq_1 (dF (0<(K:Int)-(i:Int)))) ?_;refine he _ _ (aa Cx ?_);obtain rfl:i=K:=om;obtain⟨z,hz⟩:∃z,(L i).1.1[l.length]? =some z:=⟨_,qB om⟩;refine⟨om,om,om,?_⟩;rw[hF,vN];refine⟨rfl,.inl ?_⟩;simp only[q9,hz];rw[←uf (L i).1.1 l.length z _ hz];rfl
  ·refine Fx (dV cs hc hl b aW 3 om) [1000000000] (aP ?_);have bY:=dK (cs:=cs) hl aW 3;generalize oS:aJ cs b 3=z at bY ⊢;obtain⟨f,b3⟩:=z;simp only[]at bY ⊢;have hF:=(show dH cs (d+1) (l,a)=jI cs l (b7,b) by rw[dH,if_pos (show 30<l.length by omega),hz]);refine⟨fun h=>?_,fun h=>?_⟩
   ·refine Fx (dV cs hc hl b3 bY 6 om) [1000000000] (aP ?_);have hE:jI cs l (b7,b)=(l++[⟨2,b7,(aJ cs b3 6).1,IntKind.i64.wrap (f-1),[]⟩],(aJ cs b3 6).2):=by
     simp only[jI,oS];exact if_pos h
    rw[hF,hE];exact⟨om,rfl,.inr ⟨b7,_,_,rfl,rfl⟩⟩
   ·have hE:jI cs l (b7,b)=(l++[⟨2,b7,b7,IntKind.i64.wrap (f-1),[]⟩],b3):=by
     simp only[jI,oS];exact if_neg h
    rw[hF,hE];exact⟨om,rfl,.inr ⟨b7,_,_,rfl,rfl⟩⟩
end
def bc1:=cO Tryz.func63 (H:=⟨[(8,0,.r false [1000000000,40,39]),(8,1,.r false [1000000000,40,39]),(8,2,.r false [1000000000,40,39]),(8,3,.r false [1000000000,40,39]),(8,4,.r false [1000000000,40,39]),(8,5,.r false [1000000000,40,39]),(8,6,.r false [1000000000,40,39]),(8,7,.r false [1000000000,40,39]),(8,8,.r false [1000000000,40,39]),(8,9,.r false [1000000000,40,39]),(8,12,.h (some [1000000000,39]) []),(13,1,.r false [4]),(13,2,.h (some [4]) [])],[2,8,13]⟩)
def bc2:=cO Tryz.func131 (H:=⟨[(5,0,.r false [1000000000,23,22]),(5,1,.r false [1000000000,23,22]),(5,2,.r false [1000000000,23,22]),(5,3,.r false [1000000000,23,22]),(5,4,.r false [1000000000,23,22]),(5,7,.h (some [1000000000,22]) []),(7,0,.r false [1000000000,34,33]),(7,1,.r false [1000000000,34,33]),(7,2,.r false [1000000000,34,33]),(7,3,.r false [1000000000,34,33]),(7,4,.r false [1000000000,34,33]),(7,7,.h (some [1000000000,33]) []),(11,2,.r false [1000000000,49]),(11,3,.r false [1000000000,49]),(11,4,.r false [1000000000,49]),(11,5,.r false [1000000000,49]),(11,1,.h (some [1000000000]) [])],[5,7,9,11,12]⟩)
def bc3:=cO Tryz.func188 (H:=⟨[(14,0,.r false [1000000000,44]),(14,1,.r false [1000000000,44]),(14,2,.r false [1000000000,44]),(14,3,.r false [1000000000,44]),(14,4,.r false [1000000000,44]),(14,5,.r false [1000000000,44]),(14,7,.h (some [1000000000]) []),(16,0,.r false [1000000000,56]),(16,1,.r false [1000000000,56]),(16,2,.r false [1000000000,56]),(16,3,.r false [1000000000,56]),(16,4,.r false [1000000000,56]),(16,5,.r false [1000000000,56]),(16,7,.h (some [1000000000]) [])],[14,16,17,18]⟩)
def bc4:=cO Tryz.func189 (H:=⟨[(5,0,.r false [1000000000,21,20]),(5,1,.r false [1000000000,21,20]),(5,2,.r false [1000000000,21,20]),(5,5,.h (some [1000000000,20]) []),(7,0,.r false [1000000000,31,30]),(7,1,.r false [1000000000,31,30]),(7,2,.r false [1000000000,31,30]),(7,5,.h (some [1000000000,30]) []),(9,0,.r false [1000000000,41,40]),(9,1,.r false [1000000000,41,40]),(9,2,.r false [1000000000,41,40]),(9,5,.h (some [1000000000,40]) []),(15,0,.h (some []) [72]),(15,3,.h (some [60]) [72]),(15,12,.h (some []) [60,63]),(15,1,.r false [60,63,72]),(15,2,.r false [60,63,72]),(15,4,.r false [60,63,72]),(15,5,.r false [60,63,72]),(15,6,.r false [60,63,72]),(15,7,.r false [60,63,72]),(15,8,.r false [60,63,72]),(15,9,.r false [60,63,72]),(15,10,.r false [60,63,72]),(15,11,.r false [60,63,72])],[13,15,16]⟩)
section
attribute [-go_sem] bC bF bK bE bH bL gN
def Lr(cs:LI)(hc:iO cs)(hl:cs.length<=100000000000)(a:Nat×Int)(ha:cI a):∃x:List Nd×(Nat×Int),(gU 100 x.1/\0<x.1.length/\cI x.2)/\FA 223 [.box [bytes cs,.i a.1,.i a.2]] [.own 1000000000] fun o r=>o=[.box [bytes cs,.i x.2.1,.i x.2.2]]/\r= .agg [bk x.1]:=by
 have hs1:=dK (cs:=cs) hl ha 5;by_cases q0:(aJ cs a 5).1=0
 ·obtain⟨g1,g2,g3⟩:=Gf (cs:=cs) hl 3 [] (aJ cs a 5).2 hs1 sA;refine⟨dH cs 3 ([],(aJ cs a 5).2),⟨⟨rA g1.1 dc,g1.2⟩,sU g2,g3⟩,?_⟩;refine IP sA (ab ?_);refine Fx (dV cs hc hl a ha 5 om) [1000000000] (aP ?_);generalize aJ cs a 5=z at q0 hs1 ⊢;obtain⟨k,b⟩:=z;simp only[]at q0 hs1 ⊢;refine⟨fun h0=>?_,fun h0=>absurd h0 (by simp[q0])⟩;have hp:=Ln cs hc hl 1000 om 3 [] b hs1 ⟨sA,sA⟩ dc;simp only[bk,aY5,show((3:Nat):Int)=3 from rfl]at hp;refine Fx hp [1000000000,12] (aP ?_);rfl
 ·by_cases q1:(aJ cs a 5).1=1
  ·have aW:=dK (cs:=cs) hl hs1 4;have cD:=ky (cs:=cs) (a:=(aJ cs a 5).2) (n:=4) om;have bY:=dK (cs:=cs) hl aW 5;have iq:=ky (cs:=cs) (a:=(aJ cs (aJ cs a 5).2 4).2) (n:=5) om;obtain⟨l',cC,bi,hp⟩:=Ll (aJ cs (aJ cs a 5).2 4).1 (1+(aJ cs (aJ cs (aJ cs a 5).2 4).2 5).1) 1 om om om om om;refine⟨(l',(aJ cs (aJ cs (aJ cs a 5).2 4).2 5).2),⟨cC,bi,bY⟩,?_⟩;refine IP sA (ab ?_);refine Fx (dV cs hc hl a ha 5 om) [1000000000] (aP ?_);generalize aJ cs a 5=z at*;obtain⟨k,b⟩:=z;simp only[]at q0 q1 hs1 aW cD bY iq hp ⊢;refine⟨fun h0=>absurd h0 (by simp[q0]),fun h0=>⟨fun h1=>?_,fun h1=>absurd h1 (by simp[q1])⟩⟩;refine Fx (dV cs hc hl b hs1 4 om) [1000000000] (aP ?_);generalize aJ cs b 4=z at*;obtain⟨p,b2⟩:=z;simp only[]at aW cD bY iq hp ⊢;refine Fx (dV cs hc hl b2 aW 5 om) [1000000000] (aP ?_);generalize aJ cs b2 5=z at*;obtain⟨q,b3⟩:=z;simp only[]at bY iq hp ⊢;rw[wrap64 (n:=1+q) om om];simp only[show((1:Nat):Int)=1 from rfl,bk]at hp;refine Rx hp (dA ?_);rfl
  ·have aW:=dK (cs:=cs) hl hs1 3;have cD:=ky (cs:=cs) (a:=(aJ cs a 5).2) (n:=3) om;have bY:=dK (cs:=cs) hl aW 4;have iq:=ky (cs:=cs) (a:=(aJ cs (aJ cs a 5).2 3).2) (n:=4) om;obtain⟨l',cC,bi,hp⟩:=Ll (1+(aJ cs (aJ cs a 5).2 3).1) (1+(aJ cs (aJ cs (aJ cs a 5).2 3).2 4).1) 0 om om om om om;refine⟨(l',(aJ cs (aJ cs (aJ cs a 5).2 3).2 4).2),⟨cC,bi,bY⟩,?_⟩;refine IP sA (ab ?_);refine Fx (dV cs hc hl a ha 5 om) [1000000000] (aP ?_);generalize aJ cs a 5=z at*;obtain⟨k,b⟩:=z;simp only[]at q0 q1 hs1 aW cD bY iq hp ⊢;refine⟨fun h0=>absurd h0 (by simp[q0]),fun h0=>⟨fun h1=>absurd h1 (by simp[q1]),fun h1=>?_⟩⟩;refine Fx (dV cs hc hl b hs1 3 om) [1000000000] (aP ?_);generalize aJ cs b 3=z at*;obtain⟨p,b2⟩:=z;simp only[]at aW cD bY iq hp ⊢;refine Fx (dV cs hc hl b2 aW 4 om) [1000000000] (aP ?_);generalize aJ cs b2 4=z at*;obtain⟨q,b3⟩:=z;simp only[]at bY iq hp ⊢;rw[wrap64 (n:=1+p) om om,wrap64 (n:=1+q) om om];simp only[show((0:Nat):Int)=0 from rfl,bk]at hp;refine Rx hp (dA ?_);rfl
def bc5(l:List Nd):(T.arr 5 (chunk c_ l)).bB=nodes l:=by
 simp only[nodes,T.bB,T.pv,chunk,List.map_flatMap];rfl
def o7(l:List Nd):T.cr (chunk fP l)=chunk c_ l:=by
 have h:=Uy l;rw[bk,nodes,T.bB]at h;injection h
def bc6(l:List Nd):T.cr (chunk c_ l)=chunk c_ l:=by
 have h:=bc5 l;rw[nodes,T.bB]at h;injection h
def bc7(l:List Nd):(chunk c_ l).all T.cell=true:=by
 rw[rO];intro t ht;simp only[chunk,List.mem_flatMap]at ht;obtain⟨x,_,hx⟩:=ht;simp only[c_,qO,List.not_mem_nil,or_false]at hx;rcases hx with rfl|rfl|rfl|rfl|rfl<;>rfl
def UC:∀(l:List Nd) (i:Nat) (x:Nd) (v:Int),l[i]? =some x->(chunk fP l).set (i*5) (.i v)=chunk fP (l.set i ⟨v,x.a,x.b,x.f,x.ch⟩)
 |[],i,x,v,h=>by simp at h
 |a::l,0,x,v,h=>by
  simp at h;subst h;rw[iP,List.set_cons_zero,iP];rfl
 |a::l,i+1,x,v,h=>by
  rw[iP,List.set_append_right _ _ (by rw[gJ];omega),gJ,show(i+1)*5-5=i*5 by omega,UC l i x v (sU h),List.set_cons_succ,iP]
def UD:∀(l:List Nd) (i:Nat) (x:Nd) (v:Int),l[i]? =some x->(chunk fP l).set (i*5+1) (.i v)=chunk fP (l.set i ⟨x.p,v,x.b,x.f,x.ch⟩)
 |[],i,x,v,h=>by simp at h
 |a::l,0,x,v,h=>by
  simp at h;subst h;rw[iP,List.set_cons_zero,iP];rfl
 |a::l,i+1,x,v,h=>by
  rw[iP,List.set_append_right _ _ (by rw[gJ];omega),gJ,show(i+1)*5+1-5=i*5+1 by omega,UD l i x v (sU h),List.set_cons_succ,iP]
def UE:∀(l:List Nd) (i:Nat) (x:Nd) (v:Int),l[i]? =some x->(chunk fP l).set (i*5+3) (.i v)=chunk fP (l.set i ⟨x.p,x.a,x.b,v,x.ch⟩)
 |[],i,x,v,h=>by simp at h
 |a::l,0,x,v,h=>by
  simp at h;subst h;rw[iP,List.set_cons_zero,iP];rfl
 |a::l,i+1,x,v,h=>by
  rw[iP,List.set_append_right _ _ (by rw[gJ];omega),gJ,show(i+1)*5+3-5=i*5+3 by omega,UE l i x v (sU h),List.set_cons_succ,iP]
def Ls(h:gU b l)(hx:l[i]? =some x)(p a c f:Int):gU b (l.set i ⟨p,a,c,f,x.ch⟩):=xX h i _ (h.2 x (qE hx))
def Cy(b:Bool)(l:List Nd):T:=.agg [if b then nodes l else .arr 5 (chunk c_ l)]
def kC(cs:LI)(l:List Nd)(k:Nat)(q:Int)(c:Nat×Int):(List Nd×Bool)×(Nat×Int):=
 match l[k]? with
 |none=>((l,true),c)
 |some z=>
  if q=0 then((l.set k ⟨(il cs c [-1,0,1,2,3]).1,z.a,z.b,z.f,z.ch⟩,true),(il cs c [-1,0,1,2,3]).2)
  else if q=1 then((l.set k ⟨z.p,(il cs c [-1,0,100,101]).1,z.b,z.f,z.ch⟩,true),(il cs c [-1,0,100,101]).2)
  else if q=2 then((l.set k ⟨z.p,z.a,z.b,(il cs c [-2, -1,0,2]).1,z.ch⟩,true),(il cs c [-2, -1,0,2]).2)
  else if q=3 then((q9 l 0 [1,1],true),c)
  else if q=4 then((l.take k,true),c)
  else if q=5 then((l++l[l.length-1]?.toList,false),c)
  else((l,true),c)
def bc8(hl:cs.length<=100000000000)(h:gU 100 l)(k:Nat)(q:Int){c:Nat×Int}(hc:cI c):gU 101 (kC cs l k q c).1.1/\cI (kC cs l k q c).2:=by
 have hs:gU 101 l:=⟨by have:=h.1;omega,h.2⟩;unfold kC;cases hz:l[k]? with
 |none=>exact⟨hs,hc⟩
 |some z=>
  (try simp only[])
  split
  ·exact⟨Ls hs hz _ _ _ _,nP hl hc _⟩
  split
  ·exact⟨Ls hs hz _ _ _ _,nP hl hc _⟩
  split
  ·exact⟨Ls hs hz _ _ _ _,nP hl hc _⟩
  split
  ·exact⟨(UA hs 0 sA).1,hc⟩
  split
  ·exact⟨⟨by show(l.take k).length<=101;rw[qL];have:=hs.1;omega,fun x hx=>hs.2 x (rU hx)⟩,hc⟩
  split
  ·refine⟨⟨?_,fun x hx=>?_⟩,hc⟩
   ·have:=h.1;show(l++l[l.length-1]?.toList).length<=101;rw[qD];have:l[l.length-1]?.toList.length<=1:=by cases l[l.length-1]? <;>simp
    omega
   ·rcases qI.1 hx with hx|hx
    ·exact hs.2 x hx
    ·cases hg:l[l.length-1]? with
     |none=>rw[hg]at hx;simp at hx
     |some y=>rw[hg]at hx;simp at hx;rw[hx];exact hs.2 _ (qE hg)
  ·exact⟨hs,hc⟩
def bc9(cs:LI)(hc:iO cs)(hl:cs.length<=100000000000)(a:Nat×Int)(ha:cI a):∃x:(List Nd×Bool)×(Nat×Int),(gU 101 x.1.1/\cI x.2)/\FA 189 [.box [bytes cs,.i a.1,.i a.2]] [.own 1000000000] fun o r=>o=[.box [bytes cs,.i x.2.1,.i x.2.2]]/\r=Cy x.1.2 x.1.1:=by
 obtain⟨⟨l,e⟩,⟨hx1,hx2,jl⟩,hV⟩:=Lr cs hc hl a ha
 (try simp only[]at hx1 hx2 jl hV)
 refine⟨kC cs l (aJ cs e l.length).1.toNat (aJ cs (aJ cs e l.length).2 30).1 (aJ cs (aJ cs e l.length).2 30).2,bc8 hl hx1 _ _ (dK hl (dK hl jl _) _),?_⟩;refine bc4 sA (ab ?_);simp only[bk]at hV;refine Fx hV [1000000000] (aP ?_);have fJ:=hx1.1;have hnl:(chunk fP l).length/5=l.length:=vI gJ dc l;have j_:=lI gJ l;rw[hnl];refine Fx (dV cs hc hl e jl l.length om) [1000000000] (aP ?_);have hs1:=dK (cs:=cs) hl jl l.length;have fk:=ky (cs:=cs) (a:=e) (n:=l.length) om;generalize aJ cs e l.length=z at hs1 fk ⊢;obtain⟨k,b⟩:=z;simp only[]at hs1 fk ⊢;obtain⟨k,rfl⟩:∃n:Nat,k=n:=⟨k.toNat,om⟩;rw[Int.toNat_natCast];refine Fx (dV cs hc hl b hs1 30 om) [1000000000] (dA ?_);have aW:=dK (cs:=cs) hl hs1 30;generalize aJ cs b 30=z at aW ⊢;obtain⟨q,c⟩:=z;simp only[]at aW ⊢;obtain⟨z0,cJ⟩:∃z,l[k]? =some z:=⟨_,qB om⟩;have bV:gU 101 l:=⟨om,hx1.2⟩;refine⟨fun q0=>?_,fun q0=>⟨fun q1=>?_,fun q1=>⟨fun q2=>?_,fun q2=>⟨fun q3=>?_,fun q3=>⟨fun q4=>?_,fun q4=>⟨fun q5=>?_,fun q5=>?_⟩⟩⟩⟩⟩⟩
 ·have hp:=sN cs hc hl c aW [-1,0,1,2,3] sA sA;simp only[ae,List.map_cons,List.map_nil]at hp;refine iX.ref hp [1000000000,20] [] rfl Tryz.call41 sA ?_ sA (fun e R' hR=>?_) (.inl rfl) ?_
  ·exact iL trivial
  ·exact ey trivial
  refine aP ?_;have bY:=nP (cs:=cs) hl aW [-1,0,1,2,3];generalize hpk:il cs c [-1,0,1,2,3]=z at bY ⊢;obtain⟨v,d⟩:=z;simp only[]at bY ⊢;refine⟨?_,(qS).ak _ (.inl sA)⟩;refine aB j_ ?_;rw[UC l k z0 v cJ];refine⟨_,wT (wC 3 0 9) (wT (wS 3) (aq [1000000000,2] (c5 @zA @zB @zC @o7 @nodes.eq_1 @List.set_cons_zero.{0}) (e:=[(0,.own 1000000000),(2,.own 2),(3,.t (.ax [nodes (l.set k ⟨v,z0.a,z0.b,z0.f,z0.ch⟩)] 0)),(4,.t (.i k))]) (r:=[(1000000000,.box [bytes cs,.i d.1,.i d.2]),(2,.box [.zz])]))),aa @nodes.eq_1 ?_⟩;have hT:kC cs l k q c=(((l.set k ⟨v,z0.a,z0.b,z0.f,z0.ch⟩),true),d):=by simp only[kC,cJ,hpk];exact if_pos (sU q0)
  rw[hT];exact⟨rfl,rfl⟩
 ·have hp:=sN cs hc hl c aW [-1,0,100,101] sA sA;simp only[ae,List.map_cons,List.map_nil]at hp;refine iX.ref hp [1000000000,30] [] rfl Tryz.call41 sA ?_ sA (fun e R' hR=>?_) (.inl rfl) ?_
  ·exact iL trivial
  ·exact ey trivial
  refine aP ?_;have bY:=nP (cs:=cs) hl aW [-1,0,100,101];generalize hpk:il cs c [-1,0,100,101]=z at bY ⊢;obtain⟨v,d⟩:=z;simp only[]at bY ⊢;refine⟨?_,(qS).ak _ (.inl sA)⟩;refine aB j_ ?_;rw[UD l k z0 v cJ];refine⟨_,wT (wC 3 0 9) (wT (wS 3) (aq [1000000000,2] (c5 @zA @zB @zC @o7 @nodes.eq_1 @List.set_cons_zero.{0}) (e:=[(0,.own 1000000000),(2,.own 2),(3,.t (.ax [nodes (l.set k ⟨z0.p,v,z0.b,z0.f,z0.ch⟩)] 0)),(4,.t (.i k))]) (r:=[(1000000000,.box [bytes cs,.i d.1,.i d.2]),(2,.box [.zz])]))),aa @nodes.eq_1 ?_⟩;have hT:kC cs l k q c=(((l.set k ⟨z0.p,v,z0.b,z0.f,z0.ch⟩),true),d):=by simp only[kC,cJ,hpk];rw[if_neg (sU q0)];exact if_pos (sU q1)
  rw[hT];exact⟨rfl,rfl⟩
 ·have hp:=sN cs hc hl c aW [-2, -1,0,2] sA sA;simp only[ae,List.map_cons,List.map_nil]at hp;refine iX.ref hp [1000000000,40] [] rfl Tryz.call41 sA ?_ sA (fun e R' hR=>?_) (.inl rfl) ?_
  ·exact iL trivial
  ·exact ey trivial
  refine aP ?_;have bY:=nP (cs:=cs) hl aW [-2, -1,0,2];generalize hpk:il cs c [-2, -1,0,2]=z at bY ⊢;obtain⟨v,d⟩:=z;simp only[]at bY ⊢;refine⟨?_,(qS).ak _ (.inl sA)⟩;refine aB j_ ?_;rw[UE l k z0 v cJ];refine⟨_,wT (wC 3 0 9) (wT (wS 3) (aq [1000000000,2] (c5 @zA @zB @zC @o7 @nodes.eq_1 @List.set_cons_zero.{0}) (e:=[(0,.own 1000000000),(2,.own 2),(3,.t (.ax [nodes (l.set k ⟨z0.p,z0.a,z0.b,v,z0.ch⟩)] 0)),(4,.t (.i k))]) (r:=[(1000000000,.box [bytes cs,.i d.1,.i d.2]),(2,.box [.zz])]))),aa @nodes.eq_1 ?_⟩;have hT:kC cs l k q c=(((l.set k ⟨z0.p,z0.a,z0.b,v,z0.ch⟩),true),d):=by simp only[kC,cJ,hpk];rw[if_neg (sU q0),if_neg (sU q1)];exact if_pos (sU q2)
  rw[hT];exact⟨rfl,rfl⟩
 ·obtain⟨z1,tQ⟩:∃z,l[0]? =some z:=⟨_,qB om⟩;have hch:=uf l 0 z1 [1,1] tQ;simp only[Nat.zero_mul,Nat.zero_add,ae,List.map_cons,List.map_nil]at hch;refine⟨om,om,aa hch ?_⟩;refine⟨_,wT (wC 3 0 9) (wT (wS 3) (aq [1000000000,2] (c5 @zA @zB @zC @o7 @nodes.eq_1 @List.set_cons_zero.{0}) (e:=[(0,.own 1000000000),(2,.own 2),(3,.t (.ax [nodes (l.set 0 ⟨z1.p,z1.a,z1.b,z1.f,[1,1]⟩)] 0)),(4,.t (.i k))]) (r:=[(1000000000,.box [bytes cs,.i c.1,.i c.2]),(2,.box [.zz])]))),aa @nodes.eq_1 ?_⟩;have hT:kC cs l k q c=((l.set 0 ⟨z1.p,z1.a,z1.b,z1.f,[1,1]⟩,true),c):=by simp only[kC,cJ];rw[if_neg (sU q0),if_neg (sU q1),if_neg (sU q2),if_pos (sU q3)];simp only[q9,tQ]
  rw[hT];exact⟨rfl,rfl⟩
 ·refine⟨_,wT (wC 3 0 9) (wT (wS 3) (aq [1000000000,2] (c5 @zA @zB @zC @o7 @nodes.eq_1 @List.set_cons_zero.{0}) (e:=[(0,.own 1000000000),(2,.own 2),(3,.t (.ax [nodes l] 0)),(4,.t (.i k))]) (r:=[(1000000000,.box [bytes cs,.i c.1,.i c.2]),(2,.box [.zz])]))),aa @nodes.eq_1 ?_⟩;have hT:kC cs l k q c=((l.take k,true),c):=by simp only[kC,cJ];rw[if_neg (sU q0),if_neg (sU q1),if_neg (sU q2),if_neg (sU q3)];exact if_pos (sU q4)
  rw[hT];refine⟨om,by rw[cN];omega,rfl,?_⟩;rw[Cy,Nat.sub_zero,TF zq];rfl
 ·refine⟨_,wT (wC 3 0 9) (wT (wS 3) (aq [1000000000,2] (c5 @zA @zB @zC @o7 @nodes.eq_1 @List.set_cons_zero.{0}) (e:=[(0,.own 1000000000),(2,.own 2),(3,.t (.ax [nodes l] 0)),(4,.t (.i k))]) (r:=[(1000000000,.box [bytes cs,.i c.1,.i c.2]),(2,.box [.zz])]))),?_⟩;obtain⟨z1,tQ⟩:∃z,l[l.length-1]? =some z:=⟨_,qB om⟩;have hw:IntKind.i64.wrap ((l.length:Int)-1)=((l.length-1:Nat):Int):=by rw[wrap64 om om];omega
  refine aa (c5 @nodes.eq_1 @cN hw (nU tQ) @bc7 (show l.length*5/5=l.length by omega)) ?_;refine⟨⟨om,⟨om,om,om,rfl,?_,(it.refl _ _ _).ak _ (.inr rfl)⟩,(qS).ak _ (.inr rfl)⟩,(it.refl _ _ _).ak _ (.inr rfl)⟩;generalize hR:kL [60,63] _ _=R;have h63:R 63= .live (.arr 5 (chunk c_ l)) []:=by rw[←hR];rfl
  have h73:R 73= .free:=by rw[←hR];rfl
  rw[h63,h73];have hT:kC cs l k q c=((l++[z1],false),c):=by simp only[kC,cJ];rw[if_neg (sU q0),if_neg (sU q1),if_neg (sU q2),if_neg (sU q3),if_neg (sU q4),if_pos (sU q5),tQ];rfl
  rw[hT];refine⟨rfl,by rw[cN];omega,rfl,rfl,?_⟩;simp only[Cy,sP];rfl
 ·refine⟨_,wT (wC 3 0 9) (wT (wS 3) (aq [1000000000,2] (c5 @zA @zB @zC @o7 @nodes.eq_1 @List.set_cons_zero.{0}) (e:=[(0,.own 1000000000),(2,.own 2),(3,.t (.ax [nodes l] 0)),(4,.t (.i k))]) (r:=[(1000000000,.box [bytes cs,.i c.1,.i c.2]),(2,.box [.zz])]))),aa @nodes.eq_1 ?_⟩;have hT:kC cs l k q c=((l,true),c):=by simp only[kC,cJ];rw[if_neg (sU q0),if_neg (sU q1),if_neg (sU q2),if_neg (sU q3),if_neg (sU q4),if_neg (sU q5)]
  rw[hT];exact⟨rfl,rfl⟩
def bd0(l:List Nd)(hl:gU 1000 l):FR 240 [.t (gk l)] (.agg [bk l]):=by
 refine at7 sA (aa (ah @gk.eq_1 @nodes.eq_1) ?_);refine lN (fun i=>St.of [(1,.own 1),(2,.own 2),(3,.own 96),(4,.t (.i i))] [(1,.box [nodes l]),(2,.box [.zz]),(96,bk (l.take i))]) (fun i=>i<=l.length) (fun i=>l.length-i) 0 (aq [1,2,6] @nodes.eq_1) (fun i hi R hn hr he=>?_) (hi:=sA);have fJ:=hl.1;rcases qH i l.length with h9|h9
 ·obtain⟨x,hx⟩:∃x,l[i]? =some x:=⟨_,qB h9⟩;have nv:=hl.2 x (qE hx);have hnt:(chunk fP (l.take i)).length=i*5:=by rw[lI gJ,qL,Nat.min_eq_left om]
  refine aB (bf @nodes.eq_1 @bk.eq_1 (dt ((i:Int)<(l.length:Int))) (nU hx)) ?_;refine⟨by rw[cN];omega,by rw[cN];omega,?_⟩;have hp:=nw x.ch om;simp only[ints,ae]at hp;refine Rx hp (dl hnt ?_);refine⟨om,hn _ (i+1) (aq [1,2,26] (ah @nodes.eq_1 (aw h9 om)) (hr:=?_))⟩
  ·refine rB (rB (rI ?_ trivial));rw[bk,bG hx,sP];exact .refl _
 ·refine aa (ah @nodes.eq_1 (dF ((i:Int)<(l.length:Int)))) ?_;refine he _ _ (aa @bk.eq_1 ?_);rw[qQ om]
def Lt(x y:Int):FA 239 [] [.t (.i x),.t (.i y)] fun o r=>∃z:Int,o=[]/\r= .i z/\(-1<=z/\z<=1):=by
 refine at6 sA (ab ?_);refine⟨fun h=>?_,fun h=>⟨fun h1=>?_,fun h1=>?_⟩⟩
 ·exact⟨_,rfl,om,om⟩
 ·exact⟨_,rfl,om,om⟩
 ·exact⟨_,rfl,om,om⟩
def zK(g:Gm):Prop:=gU 101 g.nd/\g.w.length<=4/\(∀r∈g.w,r.length<=4)/\g.v.length<=4/\∀r∈g.v,r.length<=4
def UF(h:∀x∈m,x.length=k)(hr:r.length=k):∀x∈m++[r],x.length=k:=by
 intro x hx;rcases qI.1 hx with hx|hx
 ·exact h x hx
 ·simp at hx;rw[hx];exact hr
def Lu(l:List Nd)(hl:gU 101 l)(k:Nat)(hk:k<=4)(ag:Bool):FA 222 [] [.t (gk l),.t (.i k),.t (.b ag)] fun o r=>∃g:Gm,o=[]/\r=zH g/\(g.nd=l/\g.w.length=k/\(∀r∈g.w,r.length=k)/\g.v.length=k/\∀r∈g.v,r.length=k):=by
 refine at1 sA (aa (ah @gk.eq_1 @nodes.eq_1) ?_);refine lR (σ:=LL×LL) (fun s=>St.of [(1,.t (.i k)),(2,.t (.b ag)),(3,.own 3),(6,.own 6),(7,.own 96),(8,.own 97),(9,.t (.i s.1.length))] [(3,.box [nodes l]),(6,.box [.zz,.zz,.zz]),(96,a_ s.1),(97,a_ s.2)]) (fun s=>s.1.length<=k/\s.2.length=s.1.length/\(∀r∈s.1,r.length=k)/\∀r∈s.2,r.length=k) (fun s=>k-s.1.length) ([],[]) (aq [3,6,13,14] (ah @nodes.eq_1 @List.length_nil.{0})) (fun s hI R hn hr he=>?_) (hi:=sA);obtain⟨w,v⟩:=s;obtain⟨i1,i2,i3,i4⟩:=hI
 (try simp only[]at i1 i2 i3 i4)
 rcases qH w.length k with h9|h9
 ·refine aa (ay @nodes.eq_1 @a_.eq_1 (dt ((w.length:Int)<(k:Int)))) ?_;refine lR (σ:=LI×LI) (fun s=>St.of [(1,.t (.i k)),(2,.t (.b ag)),(3,.own 3),(6,.own 6),(7,.own 96),(8,.own 97),(9,.t (.i w.length)),(10,.own 98),(11,.own 99),(12,.t (.i s.1.length))] [(3,.box [nodes l]),(6,.box [.zz,.zz,.zz]),(96,a_ w),(97,a_ v),(98,ae s.1),(99,ae s.2)]) (fun s=>s.1.length<=k/\s.2.length=s.1.length) (fun s=>k-s.1.length) ([],[]) (aq [3,6,96,97,20,21] (ah @nodes.eq_1 @List.length_nil.{0})) (fun s hI R2 hn2 cP cL=>?_) (hi:=sA);obtain⟨p,q⟩:=s;obtain⟨j1,j2⟩:=hI
  (try simp only[]at j1 j2)
  rcases qH p.length k with h8|h8
  ·refine aa (bf @nodes.eq_1 @a_.eq_1 @ae.eq_1 (dt ((p.length:Int)<(k:Int)))) ?_;refine⟨fun _=>⟨fun _=>⟨om,?_⟩,fun _=>⟨om,?_⟩⟩,fun _=>⟨om,?_⟩⟩
   ·refine Xx (Lt (w.length:Int) (p.length:Int)) [] (fun z hz=>aP ?_);refine⟨om,hn2 _ (p++[0],q++[z]) (aq [3,6,96,97,36,45] (bM @nodes.eq_1 (aw h8 om) @qD.{0} @List.length_cons.{0} @List.length_nil.{0}) (hr:=?_)) ⟨by simp;omega,by simp;omega⟩ (by simp;omega)⟩
    ·refine rB (rB (rB (rB (rI ?_ (rI ?_ trivial)))))
     ·simp only[ae,qG,List.map_cons,List.map_nil];exact .refl _
     ·simp only[ae,qG,List.map_cons,List.map_nil];exact .refl _
   ·refine Xx (Lt (w.length:Int) (p.length:Int)) [] (fun z hz=>aP ?_);refine⟨om,hn2 _ (p++[1],q++[z]) (aq [3,6,96,97,39,45] (bM @nodes.eq_1 (aw h8 om) @qD.{0} @List.length_cons.{0} @List.length_nil.{0}) (hr:=?_)) ⟨by simp;omega,by simp;omega⟩ (by simp;omega)⟩
    ·refine rB (rB (rB (rB (rI ?_ (rI ?_ trivial)))))
     ·simp only[ae,qG,List.map_cons,List.map_nil];exact .refl _
     ·simp only[ae,qG,List.map_cons,List.map_nil];exact .refl _
   ·refine Xx (Lt (w.length:Int) (p.length:Int)) [] (fun z hz=>aP ?_);refine⟨om,hn2 _ (p++[1],q++[z]) (aq [3,6,96,97,39,45] (bM @nodes.eq_1 (aw h8 om) @qD.{0} @List.length_cons.{0} @List.length_nil.{0}) (hr:=?_)) ⟨by simp;omega,by simp;omega⟩ (by simp;omega)⟩
    ·refine rB (rB (rB (rB (rI ?_ (rI ?_ trivial)))))
     ·simp only[ae,qG,List.map_cons,List.map_nil];exact .refl _
     ·simp only[ae,qG,List.map_cons,List.map_nil];exact .refl _
  ·refine aa (bf @nodes.eq_1 @a_.eq_1 @ae.eq_1 (dF ((p.length:Int)<(k:Int)))) ?_;refine cL _ _ (tD ?_);refine hn _ (w++[p],v++[q]) (aj.o _ _ [some 3,some 6,some 49,some 53] ?_ ?_) ⟨by simp;omega,by simp;omega,UF i3 om,UF i4 om⟩ (by simp;omega)
   ·exact bZ (bM @nodes.eq_1 (aw h9 om) @qD.{0} @List.length_cons.{0} @List.length_nil.{0}) trivial
   ·refine rB (rB (rI ?_ (rI ?_ trivial)))
    ·simp only[a_,ae,qG,List.map_cons,List.map_nil];exact .refl _
    ·simp only[a_,ae,qG,List.map_cons,List.map_nil];exact .refl _
 ·refine aa (ah @nodes.eq_1 (dF ((w.length:Int)<(k:Int)))) ?_;refine he _ _ ?_;have hp:=bd0 l ⟨by have:=hl.1;omega,hl.2⟩;simp only[gk,nodes]at hp;refine aa @a_.eq_1 ?_;simp only[bk]at hp;refine Rx hp (dA ?_);exact⟨⟨l,w,v⟩,rfl,rfl,by show w.length=k;omega,i3,by show v.length=k;omega,i4⟩
def UG:∀{l:LA},(∀t∈l,t.bJ)->T.df l
 |[],_=>trivial
 |t::l,h=>⟨h t (List.mem_cons_self ..),UG fun x hx=>h x (rH _ hx)⟩
def bd1(l:List Nd):(T.arr 5 (chunk fP l)).bJ:=by
 refine UG fun t ht=>?_;simp only[chunk,List.mem_flatMap]at ht;obtain⟨x,_,hx⟩:=ht;simp only[fP,qO,List.not_mem_nil,or_false]at hx;rcases hx with rfl|rfl|rfl|rfl|rfl
 ·trivial
 ·trivial
 ·trivial
 ·trivial
 ·exact dY _
def Lv(g:Gm):(T.agg [.arr 5 (chunk fP g.nd),.arr 1 (g.w.map ae),.arr 1 (g.v.map ae)]).bJ:=⟨bd1 _,Eu _,Eu _,trivial⟩
def uh(k:Nat)(m:LL):Prop:=m.length=k/\∀r∈m,r.length=k
def zL(h:uh k m)(a:Nat)(hr:r.length=k):uh k (m.set a r):=by
 refine⟨by rw[List.length_set];exact h.1,fun x hx=>?_⟩;rcases List.mem_or_eq_of_mem_set hx with hx|rfl
 ·exact h.2 x hx
 ·exact hr
def Cz(h:uh k m)(ha:a<k):∃r,m[a]? =some r/\r.length=k:=by
 have h1:a<m.length:=by rw[h.1];exact ha
 exact⟨m[a],qB h1,h.2 _ (rJ h1)⟩
def Lw(g:Gm):Prop:=gU 101 g.nd/\∃k,1<=k/\k<=4/\uh k g.w/\uh k g.v
def Lx(h:Lw g):zK g:=by
 obtain⟨h1,k,h2,h3,h4,h5⟩:=h;exact⟨h1,by have:=h4.1;omega,fun r hr=>by have:=h4.2 r hr;omega,by have:=h5.1;omega,fun r hr=>by have:=h5.2 r hr;omega⟩
def bd2:FA 221 [] [] fun o r=>∃g:Gm,o=[]/\r=zH g/\Lw g:=by
 refine at0 sA (ab ?_);obtain⟨l',fJ,bO,hp⟩:=Ll 1 1 0 om om om om om;have hl':gU 100 l'/\0<l'.length:=⟨fJ,bO⟩;simp only[show((0:Nat):Int)=0 from rfl,bk]at hp;refine Rx hp (dA ?_);have hq:=Lu l' ⟨by have:=hl'.1.1;omega,hl'.1.2⟩ 3 om false;simp only[gk,nodes,zH,bk,a_,show((3:Nat):Int)=3 from rfl]at hq;refine Xx hq [] (fun g hg=>dA ?_) (au:=[8001]) (be:=.inr (fun g=>⟨Lv g,trivial⟩));obtain⟨g1,g2,g3,g4,g5⟩:=hg;exact⟨g,rfl,⟨by rw[g1];have:=hl'.1.1;omega,by rw[g1];exact hl'.1.2⟩,3,om,om,⟨g2,g3⟩,⟨g4,g5⟩⟩
def bd3(cs:LI)(hc:iO cs)(hl:cs.length<=100000000000)(a:Nat×Int)(ha:cI a):FA 188 [.box [bytes cs,.i a.1,.i a.2]] [.own 1000000000] fun o r=>∃x:Gm×(Nat×Int),o=[.box [bytes cs,.i x.2.1,.i x.2.2]]/\r= .agg [bk x.1.nd,a_ x.1.w,a_ x.1.v]/\(Lw x.1/\cI x.2):=by
 refine bc3 sA (ab ?_);refine Fx (dV cs hc hl a ha 6 om) [1000000000] (aP ?_);have hs1:=dK (cs:=cs) hl ha 6;generalize aJ cs a 6=z at hs1 ⊢;obtain⟨k,b⟩:=z;simp only[]at hs1 ⊢;refine⟨fun h0=>?_,fun h0=>⟨fun h1=>?_,fun h1=>?_⟩⟩
 ·have hp:=bd2;simp only[zH,bk,a_]at hp;refine Xx hp [] (fun g hg=>dA ?_);exact⟨(g,b),rfl,rfl,hg,hs1⟩
 ·obtain⟨⟨l,c⟩,⟨hx1,hx2,jl⟩,hV⟩:=Lr cs hc hl b hs1;simp only[bk]at hx1 hx2 jl hV;refine Fx hV [1000000000] (aP ?_);refine Fx (dV cs hc hl c jl 2 om) [1000000000] (aP ?_);have aW:=dK (cs:=cs) hl jl 2;have cD:=ky (cs:=cs) (a:=c) (n:=2) om;generalize aJ cs c 2=z at aW cD ⊢;obtain⟨q,d⟩:=z;simp only[]at aW cD ⊢;obtain⟨k,hk⟩:∃n:Nat,IntKind.i64.wrap (2+q)=n:=⟨(2+q).toNat,by rw[wrap64 om om];omega⟩;have B_:2<=k/\k<=3:=by rw[wrap64 om om]at hk;omega
  simp only[hk];have hq:=Lu l ⟨by have:=hx1.1;omega,hx1.2⟩ k om true;simp only[gk,nodes,zH,bk,a_]at hq;refine Xx hq [] (fun g hg=>dA ?_) (au:=[15]) (be:=.inr (fun g=>⟨Lv g,trivial⟩));obtain⟨g1,g2,g3,g4,g5⟩:=hg;exact⟨(g,d),rfl,rfl,⟨⟨by rw[g1];have:=hx1.1;omega,by rw[g1];exact hx1.2⟩,k,om,om,⟨g2,g3⟩,⟨g4,g5⟩⟩,aW⟩
 ·refine Fx (dV cs hc hl b hs1 3 om) [1000000000] (aP ?_);have aW:=dK (cs:=cs) hl hs1 3;have cD:=ky (cs:=cs) (a:=b) (n:=3) om;generalize aJ cs b 3=z at aW cD ⊢;obtain⟨q,d⟩:=z;simp only[]at aW cD ⊢;obtain⟨k,hk⟩:∃n:Nat,IntKind.i64.wrap (1+q)=n:=⟨(1+q).toNat,by rw[wrap64 om om];omega⟩;have B_:1<=k/\k<=3:=by rw[wrap64 om om]at hk;omega
  simp only[hk];obtain⟨⟨l,c⟩,⟨hx1,hx2,jl⟩,hV⟩:=Lr cs hc hl d aW;simp only[bk]at hx1 hx2 jl hV;refine Fx hV [1000000000] (aP ?_);have hq:=Lu l ⟨by have:=hx1.1;omega,hx1.2⟩ k om true;simp only[gk,nodes,zH,bk,a_]at hq;refine Xx hq [] (fun g hg=>dA ?_) (au:=[24]) (be:=.inr (fun g=>⟨Lv g,trivial⟩));obtain⟨g1,g2,g3,g4,g5⟩:=hg;obtain rfl:g.nd=l:=g1;refine lR (σ:=Nat×(LL×LL)×(Nat×Int)) (fun s=>St.of [(0,.own 1000000000),(2,.own 2),(3,.t (.i k)),(4,.own 4),(5,.t (.i s.1))] [(1000000000,.box [bytes cs,.i s.2.2.1,.i s.2.2.2]),(2,.box [.zz,.zz,.zz]),(4,.box [bk g.nd,a_ s.2.1.1,a_ s.2.1.2])]) (fun s=>s.1<=k/\uh k s.2.1.1/\uh k s.2.1.2/\cI s.2.2) (fun s=>k-s.1) (0,(g.w,g.v),c) (aq [1000000000,2,4] @bk.eq_1) (fun s hI R hn hr he=>?_) (hi:=⟨sA,⟨g2,g3⟩,⟨g4,g5⟩,jl⟩);obtain⟨i,⟨w,v⟩,e⟩:=s;obtain⟨i1,i2,i3,i4⟩:=hI
  (try simp only[]at i1 i2 i3 i4)
  rcases qH i k with h9|h9
  ·refine aa (ay @bk.eq_1 @a_.eq_1 (dt ((i:Int)<(k:Int)))) ?_;refine lR (σ:=Nat×(LL×LL)×(Nat×Int)) (fun s=>St.of [(0,.own 1000000000),(2,.own 2),(3,.t (.i k)),(4,.own 4),(5,.t (.i i)),(6,.t (.i s.1))] [(1000000000,.box [bytes cs,.i s.2.2.1,.i s.2.2.2]),(2,.box [.zz,.zz,.zz]),(4,.box [bk g.nd,a_ s.2.1.1,a_ s.2.1.2])]) (fun s=>s.1<=k/\uh k s.2.1.1/\uh k s.2.1.2/\cI s.2.2) (fun s=>k-s.1) (0,(w,v),e) (aq [1000000000,2,4] @bk.eq_1) (fun s hI R2 hn2 cP cL=>?_) (hi:=⟨sA,i2,i3,i4⟩);obtain⟨j,⟨w',v'⟩,f⟩:=s;obtain⟨j1,j2,j3,j4⟩:=hI
   (try simp only[]at j1 j2 j3 j4)
   obtain⟨r0,b9,zM⟩:=Cz j2 h9;obtain⟨s0,hs0,Ly⟩:=Cz j3 h9;rcases qH j k with h8|h8
   ·refine aa (ay @bk.eq_1 @a_.eq_1 (dt ((j:Int)<(k:Int)))) ?_;refine⟨_,wT (wO 4 1 501) (aj.open 501 i 502 (l:=w'.map ae) (lk:=[]) (c:=ae r0) rfl (by rw[qU,b9];rfl) rfl dc rfl),cE (ah @ae.eq_1 @List.length_set.{0}) ?_⟩;have Fk:w'.length=k:=j2.1;have hvl:v'.length=k:=j3.1;refine⟨om,om,om,?_⟩;refine iX.ref (dV cs hc hl f j4 4 om) [1000000000] [] rfl Tryz.call39 sA ?_ sA (fun e R' hR=>?_) (.inl rfl) ?_
    ·exact iL trivial
    ·exact ey trivial
    refine aP ?_;have hs5:=dK (cs:=cs) hl j4 4;generalize aJ cs f 4=z at hs5 ⊢;obtain⟨y,f2⟩:=z;simp only[]at hs5 ⊢;refine⟨?_,qS⟩;refine⟨om,om,om,?_⟩;refine Fx (dV cs hc hl f2 hs5 4 om) [1000000000] (aP ?_);have pV:=dK (cs:=cs) hl hs5 4;generalize aJ cs f2 4=z at pV ⊢;obtain⟨y2,f3⟩:=z;simp only[]at pV ⊢;have ox:((w'.map ae).set i T.any)[i]? =some .any:=by rw[List.getElem?_set_self (by rw[qJ];omega)]
    have Lz:((v'.map ae).set i T.any)[i]? =some .any:=by rw[List.getElem?_set_self (by rw[qJ];omega)]
    have hrow:((w'.map ae).set i T.any).set i (.arr 1 ((r0.map T.i).set j (.i y)))=(w'.set i (r0.set j y)).map ae:=by
     rw[List.set_set,List.map_set,ae,List.map_set]
    refine⟨fun hz=>?_,fun hz=>?_⟩
    ·refine⟨_,wT (aj.tA 501 i 502 rfl rfl dc ox) (wT (wC 4 1 501) (wT (wO 4 2 503) (aj.open 503 i 504 (l:=v'.map ae) (lk:=[]) (c:=ae s0) rfl (by rw[qU,hs0];rfl) rfl dc rfl))),bQ (ah @ae.eq_1 @List.length_set.{0}) ?_⟩;refine iX.ref (dV cs hc hl f3 pV 3 om) [1000000000] [] rfl Tryz.call39 sA ?_ sA (fun e R' hR=>?_) (.inl rfl) ?_
     ·exact iL trivial
     ·exact ey trivial
     refine aP ?_;have D9:=dK (cs:=cs) hl pV 3;generalize aJ cs f3 3=z at D9 ⊢;obtain⟨y3,f4⟩:=z;simp only[]at D9 ⊢;have bd4:((v'.map ae).set i T.any).set i (.arr 1 ((s0.map T.i).set j (.i (IntKind.i64.wrap (y3-1)))))=(v'.set i (s0.set j (IntKind.i64.wrap (y3-1)))).map ae:=by
      rw[List.set_set,List.map_set,ae,List.map_set]
     refine⟨?_,qS⟩;refine⟨om,om,om,?_⟩;refine hn2 _ (j+1,(w'.set i (r0.set j y),v'.set i (s0.set j (IntKind.i64.wrap (y3-1)))),f4) (wT (aj.tA 503 i 504 rfl rfl dc Lz) (wT (wC 4 2 503) (aq [1000000000,2,4] (ah @bk.eq_1 (aw h8 om)) (hr:=?_)))) ⟨om,zL j2 _ (by rw[List.length_set];exact zM),zL j3 _ (by rw[List.length_set];exact Ly),D9⟩ (by show k-(j+1)<k-j;omega)
     ·refine rB (rB (rI ?_ trivial));have bd5:(w'.map ae).set i (.arr 1 ((r0.map T.i).set j (.i y)))=(w'.set i (r0.set j y)).map ae:=(by rw[List.map_set,ae,List.map_set]);rw[bd4,bd5];exact .refl _
    ·refine hn2 _ (j+1,(w'.set i (r0.set j y),v'),f3) (wT (aj.tA 501 i 502 rfl rfl dc ox) (wT (wC 4 1 501) (aq [1000000000,2,4] (ah @bk.eq_1 (aw h8 om)) (hr:=?_)))) ⟨om,zL j2 _ (by rw[List.length_set];exact zM),j3,pV⟩ (by show k-(j+1)<k-j;omega)
     ·refine rB (rB (rI ?_ trivial));rw[hrow];exact .refl _
   ·refine aa (ay @bk.eq_1 @a_.eq_1 (dF ((j:Int)<(k:Int)))) ?_;refine cL _ _ (ab ?_);exact hn _ (i+1,(w',v'),f) (aq [1000000000,2,4] (ah @bk.eq_1 (aw h9 om))) ⟨om,j2,j3,j4⟩ (by show k-(i+1)<k-i;omega)
  ·refine aa (ay @bk.eq_1 @a_.eq_1 (dF ((i:Int)<(k:Int)))) ?_;refine he _ _ (aa (ah @bk.eq_1 @a_.eq_1) ?_);obtain⟨r0,b9,zM⟩:=Cz i2 (a:=0) om;obtain⟨y,hy⟩:∃y,r0[0]? =some y:=⟨_,qB om⟩;have Fk:w.length=k:=i2.1;refine⟨_,wT (wO 4 1 501) (aj.open 501 0 502 (l:=w.map ae) (lk:=[]) (c:=ae r0) rfl (by rw[qU,b9];rfl) rfl dc rfl),?_⟩;simp -implicitDefEqProofs only[c8,go_sem,List.lookup_cons,beq_self_eq_true,ae,List.length_set,hy];have ox:((w.map ae).set 0 T.any)[0]? =some .any:=by rw[List.getElem?_set_self (by rw[qJ];omega)]
   refine⟨om,om,om,om,om,om,om,om,_,wT (aj.tA 501 0 502 rfl rfl dc ox) (wC 4 1 501),cE @List.set_set.{0} ?_⟩;refine⟨(⟨g.nd,w.set 0 (r0.set 0 (max 1 y)),v⟩,e),rfl,?_,⟨⟨by have:=hx1.1;show g.nd.length<=101;omega,hx1.2⟩,k,om,om,zL i2 _ (by rw[List.length_set];exact zM),i3⟩,i4⟩;simp only[List.map_set,ae]
def UH(b:Bool)(g:Gm):T:=.agg [if b then nodes g.nd else .arr 5 (chunk c_ g.nd),rows g.w,rows g.v]
def bd6(cs:LI)(hc:iO cs)(hl:cs.length<=100000000000)(a:Nat×Int)(ha:cI a):FA 131 [.box [bytes cs,.i a.1,.i a.2]] [.own 1000000000] fun o r=>∃x:(Gm×Bool)×(Nat×Int),o=[.box [bytes cs,.i x.2.1,.i x.2.2]]/\r=UH x.1.2 x.1.1/\(zK x.1.1/\cI x.2):=by
 refine bc2 sA (ab ?_);have xq:=bd3 cs hc hl a ha;simp only[bk,a_]at xq;refine Xx xq [1000000000] (fun x hx=>dA ?_);obtain⟨g,e⟩:=x;obtain⟨⟨hx1,K,Ac,pi,hw,hv⟩,jl⟩:=hx
 (try simp only[]at hx1 jl hw hv)
 have Fk:=hw.1;have hvl:=hv.1
 (try simp only[])
 refine Fx (dV cs hc hl e jl g.w.length om) [1000000000] (aP ?_);have hs1:=dK (cs:=cs) hl jl g.w.length;have fk:=ky (cs:=cs) (a:=e) (n:=g.w.length) om;generalize aJ cs e g.w.length=z at hs1 fk ⊢;obtain⟨k,b⟩:=z;simp only[]at hs1 fk ⊢;obtain⟨k,rfl⟩:∃n:Nat,k=n:=⟨k.toNat,om⟩;refine bz.ref (dV cs hc hl b hs1 24 (by omega)) [1000000000] [] rfl Tryz.call39 (by simp) ?_ (by simp) ?_ (.inl rfl) ?_
 ·exact iL trivial
 ·exact ey trivial
 simp -implicitDefEqProofs only[yK,go_sem,List.lookup_cons];have aW:=dK (cs:=cs) hl hs1 24;generalize aJ cs b 24=z at aW ⊢;obtain⟨q,c⟩:=z;simp only[]at aW ⊢;obtain⟨r0,b9,zM⟩:=Cz hw (a:=k) om;obtain⟨s0,hs0,Ly⟩:=Cz hv (a:=k) om;have bV:=Lx (g:=g) ⟨hx1,K,Ac,pi,hw,hv⟩;have ox:((g.w.map ae).set k T.any)[k]? =some .any:=by rw[List.getElem?_set_self (by rw[qJ];omega)]
 have Lz:((g.v.map ae).set k T.any)[k]? =some .any:=by rw[List.getElem?_set_self (by rw[qJ];omega)]
 refine⟨fun q0=>?_,fun q0=>⟨fun q1=>?_,fun q1=>⟨fun q2=>?_,fun q2=>⟨fun q3=>?_,fun q3=>?_⟩⟩⟩⟩
 ·refine⟨_,aj.open 9 k 502 (l:=g.w.map ae) (lk:=[]) (c:=ae r0) rfl (by rw[qU,b9];rfl) rfl dc rfl,cE (ah @ae.eq_1 @List.length_set.{0}) ?_⟩;have hp:=sN cs hc hl c aW [-1,0,9,10] sA sA;simp only[ae,List.map_cons,List.map_nil]at hp;refine⟨om,om,om,?_⟩;refine iX.ref hp [1000000000,22] [] rfl Tryz.call41 sA ?_ sA (fun e R' hR=>?_) (.inl rfl) ?_
  ·exact iL trivial
  ·exact ey trivial
  refine aP ?_;have bY:=nP (cs:=cs) hl aW [-1,0,9,10];generalize il cs c [-1,0,9,10]=z at bY ⊢;obtain⟨v,d⟩:=z;simp only[]at bY ⊢;have hrow:((g.w.map ae).set k T.any).set k (.arr 1 ((r0.map T.i).set 0 (.i v)))=(g.w.set k (r0.set 0 v)).map ae:=by
   rw[List.set_set,List.map_set,ae,List.map_set]
  refine⟨?_,(qS).ak _ (.inl sA)⟩;refine⟨om,om,_,wT (aj.tA 9 k 502 rfl rfl dc ox) (wT (wC 3 1 9) (wT (wS 3) (aq [1000000000,2] (tC @zA @zB @zC @o7 @ii @nodes.eq_1 @List.set_cons_succ.{0} @List.set_cons_zero.{0} hrow) (e:=[(0,.own 1000000000),(2,.own 2),(3,.t (.ax [nodes g.nd,rows (g.w.set k (r0.set 0 v)),rows g.v] 0))]) (r:=[(1000000000,.box [bytes cs,.i d.1,.i d.2]),(2,.box [.zz,.zz,.zz])])))),aa @nodes.eq_1 ?_⟩;exact⟨((⟨g.nd,g.w.set k (r0.set 0 v),g.v⟩,true),d),rfl,rfl,Lx ⟨hx1,K,Ac,pi,zL hw _ (by rw[List.length_set];exact zM),hv⟩,bY⟩
 ·refine⟨_,wT (wO 3 2 503) (aj.open 503 k 504 (l:=g.v.map ae) (lk:=[]) (c:=ae s0) rfl (by rw[qU,hs0];rfl) rfl dc rfl),cE (ah @ae.eq_1 @List.length_set.{0}) ?_⟩;have hp:=sN cs hc hl c aW [-2,2] sA sA;simp only[ae,List.map_cons,List.map_nil]at hp;refine⟨om,om,om,?_⟩;refine iX.ref hp [1000000000,33] [] rfl Tryz.call41 sA ?_ sA (fun e R' hR=>?_) (.inl rfl) ?_
  ·exact iL trivial
  ·exact ey trivial
  refine aP ?_;have bY:=nP (cs:=cs) hl aW [-2,2];generalize il cs c [-2,2]=z at bY ⊢;obtain⟨v,d⟩:=z;simp only[]at bY ⊢;have hrow:((g.v.map ae).set k T.any).set k (.arr 1 ((s0.map T.i).set 0 (.i v)))=(g.v.set k (s0.set 0 v)).map ae:=by
   rw[List.set_set,List.map_set,ae,List.map_set]
  refine⟨?_,(qS).ak _ (.inl sA)⟩;refine⟨om,om,_,wT (aj.tA 503 k 504 rfl rfl dc Lz) (wT (wL 3 2 503) (wT (wC 3 1 9) (wT (wS 3) (aq [1000000000,2] (tC @zA @zB @zC @o7 @ii @nodes.eq_1 @List.set_cons_succ.{0} @List.set_cons_zero.{0} hrow) (e:=[(0,.own 1000000000),(2,.own 2),(3,.t (.ax [nodes g.nd,rows g.w,rows (g.v.set k (s0.set 0 v))] 0))]) (r:=[(1000000000,.box [bytes cs,.i d.1,.i d.2]),(2,.box [.zz,.zz,.zz])]))))),aa @nodes.eq_1 ?_⟩;exact⟨((⟨g.nd,g.w,g.v.set k (s0.set 0 v)⟩,true),d),rfl,rfl,Lx ⟨hx1,K,Ac,pi,hw,zL hv _ (by rw[List.length_set];exact Ly)⟩,bY⟩
 ·refine⟨_,wT (wC 3 1 9) (wT (wS 3) (aq [1000000000,2] (jz @zA @zB @zC @o7 @ii @nodes.eq_1 @List.set_cons_succ.{0} @List.set_cons_zero.{0}) (e:=[(0,.own 1000000000),(2,.own 2),(3,.t (.ax [nodes g.nd,rows g.w,rows g.v] 0))]) (r:=[(1000000000,.box [bytes cs,.i c.1,.i c.2]),(2,.box [.zz,.zz,.zz])]))),aB @nodes.eq_1 ?_⟩;refine⟨((⟨g.nd,g.w,g.v.drop 1⟩,true),c),rfl,?_,⟨bV.1,bV.2.1,bV.2.2.1,by show(g.v.drop 1).length<=4;rw[List.length_drop];omega,fun r hr=>bV.2.2.2.2 r (List.mem_of_mem_drop hr)⟩,aW⟩;rw[qQ (by rw[List.length_drop,qJ];omega),←List.map_drop];rfl
 ·refine⟨_,wT (wC 3 1 9) (wT (wS 3) (aq [1000000000,2] (jz @zA @zB @zC @o7 @ii @nodes.eq_1 @List.set_cons_succ.{0} @List.set_cons_zero.{0}) (e:=[(0,.own 1000000000),(2,.own 2),(3,.t (.ax [nodes g.nd,rows g.w,rows g.v] 0))]) (r:=[(1000000000,.box [bytes cs,.i c.1,.i c.2]),(2,.box [.zz,.zz,.zz])]))),aa @nodes.eq_1 ?_⟩;obtain⟨⟨⟨l2,bb⟩,d⟩,⟨hy1,hy2⟩,hT⟩:=bc9 cs hc hl c aW
  (try simp only[]at hy1 hy2 hT)
  cases bb
  ·simp only[Cy,Bool.false_eq_true,if_false]at hT;refine iX.ref hT [1000000000] [] rfl Tryz.call189 sA ?_ sA (fun e R' hR=>?_) (.inl rfl) ?_
   ·exact iL trivial
   ·exact ey trivial
   refine aP ?_;exact⟨⟨((⟨l2,g.w,g.v⟩,false),d),rfl,rfl,⟨hy1,bV.2⟩,hy2⟩,(qS).ak _ (.inr rfl)⟩
  ·simp only[Cy,if_true,nodes]at hT;refine iX.ref hT [1000000000] [] rfl Tryz.call189 sA ?_ sA (fun e R' hR=>?_) (.inl rfl) ?_
   ·exact iL trivial
   ·exact ey trivial
   refine aP ?_;exact⟨⟨((⟨l2,g.w,g.v⟩,true),d),rfl,rfl,⟨hy1,bV.2⟩,hy2⟩,qS⟩
 ·refine⟨_,wT (wC 3 1 9) (wT (wS 3) (aq [1000000000,2] (jz @zA @zB @zC @o7 @ii @nodes.eq_1 @List.set_cons_succ.{0} @List.set_cons_zero.{0}) (e:=[(0,.own 1000000000),(2,.own 2),(3,.t (.ax [nodes g.nd,rows g.w,rows g.v] 0))]) (r:=[(1000000000,.box [bytes cs,.i c.1,.i c.2]),(2,.box [.zz,.zz,.zz])]))),aa @nodes.eq_1 ?_⟩;exact⟨((g,true),c),rfl,rfl,bV,aW⟩
end
def o8(g:Gm)(pl:Int):LI:=(List.range (sets g pl).length).map fun i=>(h_ g pl i:Int)
def vS(g:Gm)(pl:Int):(o8 g pl).length=(sets g pl).length:=by simp[o8]
def Gg(h:i<(sets g pl).length):(o8 g pl)[i]? =some (h_ g pl i:Int):=by simp[o8,h]
def bd7(h:i<(sets g pl).length):(o8 g pl).take (i+1)=(o8 g pl).take i++[(h_ g pl i:Int)]:=bG (Gg h)
section
attribute [-go_sem] bC bF bK bE bH bL gN
def UI(g:Gm)(pl:Int)(hl:g.nd.length<=60)(hk:g.w.length<=6):FR 134 [.t (.agg [.sh 5 (chunk c_ g.nd),.sh 1 (g.w.map ints),.sh 1 (g.v.map ints)]),.t (.i pl)] (ae (o8 g pl)):=by
 refine al8 sA (ab ?_);have dy:=q8 g pl hl hk;have hp:=Lh g pl hl hk;simp only[a_]at hp;refine Rx hp (aP ?_);refine lN (fun i=>St.of [(2,.own 2),(5,.t (rows (sets g pl))),(6,.own 96),(7,.t (.i i))] [(2,.box [.sh 5 (chunk c_ g.nd),.sh 1 (g.w.map ints),.sh 1 (g.v.map ints)]),(96,ae ((o8 g pl).take i))]) (fun i=>i<=(sets g pl).length) (fun i=>(sets g pl).length-i) 0 (wT (wS 10) (aq [2,11] (ay @zA @zB @ii))) (fun i hi R hn hr he=>?_) (hi:=sA);rcases qH i (sets g pl).length with h9|h9
 ·obtain⟨n,c,x,hs,hx,nD,hc1,hxp,hsz⟩:=F_ h9;have hlt:((o8 g pl).take i).length=i:=by rw[qL,vS];omega
  refine aB (c5 @ae.eq_1 (dt ((i:Int)<((sets g pl).length:Int))) hs (Ce hx) @Option.map_some.{0,0} @Option.getD_some.{0}) ?_;refine⟨by rw[cN];omega,by rw[cN];omega,om,hn _ (i+1) (aj.o _ _ [some 2,some 33] ?_ ?_)⟩
  ·exact bZ (aw h9 om) trivial
  ·refine rB (rI ?_ trivial);rw[bd7 h9,hsz,ae,qG];exact .refl _
 ·refine aa (dF ((i:Int)<((sets g pl).length:Int))) ?_;refine he _ _ (aa @ae.eq_1 ?_);rw[qQ (by rw[vS];exact h9)]
def LC(hg:bR g=true)(aM:pl=0∨pl=1)(h:i<(sets g pl).length):1<=h_ g pl i/\h_ g pl i<=4:=by
 obtain⟨n,c,x,hs,hx,nD,hc1,hxp,hsz⟩:=F_ h;obtain⟨p1,p2,p3,p4,p5⟩:=fZ hg;obtain⟨t1,t2,t3,t4⟩:=fX p1;obtain⟨-, -, -, -,f1,f2⟩:=eJ (t2 _ _ hx);rw[hsz];exact⟨(f1 om).2,f2⟩
def bd8{a:Nat×Int}{x:Int}(hx:0<=x/\x<9):0<=(il cs a [0,0,1,2,x]).1/\(il cs a [0,0,1,2,x]).1<=8:=by
 have h:=Ts (cs:=cs) (a:=a) (l:=[0,0,1,2,x]) sA;simp only[qO,List.not_mem_nil,or_false]at h;omega
def UJ(cs:LI)(hc:iO cs)(hl:cs.length<=100000000000)(a:Nat×Int)(ha:cI a)(g:Gm)(hg:bR g=true)(pl:Int)(aM:pl=0∨pl=1):
  FA 65 [.box [bytes cs,.i a.1,.i a.2]] [.own 1000000000,.t (.agg [.sh 5 (chunk c_ g.nd),.sh 1 (g.w.map ints),.sh 1 (g.v.map ints)]),.t (.i pl)] fun o r=>∃x:LL×(Nat×Int),o=[.box [bytes cs,.i x.2.1,.i x.2.2]]/\r= .agg [.i pl,.arr 1 (x.1.map ae)]/\(x.1.length<=360/\(∀r∈x.1,1<=r.length/\r.length<=4)/\cI x.2):=by
 obtain⟨p1,p2,p3,p4,p5⟩:=fZ hg;obtain⟨t1,t2,t3,t4⟩:=fX p1;have dy:=q8 g pl t1.2 p2.2;refine ag1 sA (ab ?_);have hp:=UI g pl t1.2 p2.2;simp only[ae]at hp;refine Rx hp (aP ?_);refine lR (σ:=LL×(Nat×Int)) (fun s=>St.of [(0,.own 1000000000),(2,.t (.i pl)),(6,.own 6),(7,.t (ints (o8 g pl))),(8,.own 96),(9,.t (.i s.1.length))] [(1000000000,.box [bytes cs,.i s.2.1,.i s.2.2]),(6,.box [.i 0,.zz]),(96,a_ s.1)]) (fun s=>cI s.2/\s.1.length<=(sets g pl).length/\∀r∈s.1,1<=r.length/\r.length<=4) (fun s=>(sets g pl).length-s.1.length) ([],a) (wT (wS 14) (aq [1000000000,6,15] (bf @zA @zB @sj @List.length_nil.{0}))) (fun s hI R hn hr he=>?_) (hi:=⟨ha,sA,sA⟩);obtain⟨m,b⟩:=s;obtain⟨i1,i2,i3⟩:=hI
 (try simp only[]at i1 i2 i3)
 rcases qH m.length (sets g pl).length with h9|h9
 ·obtain⟨b1,b2⟩:=LC hg aM h9;refine aa (ay @a_.eq_1 @vS (dt ((m.length:Int)<((sets g pl).length:Int)))) ?_;refine lR (σ:=LI×(Nat×Int)) (fun s=>St.of [(0,.own 1000000000),(2,.t (.i pl)),(6,.own 6),(7,.t (ints (o8 g pl))),(8,.own 96),(9,.t (.i m.length)),(10,.own 97),(11,.t (.i s.1.length))] [(1000000000,.box [bytes cs,.i s.2.1,.i s.2.2]),(6,.box [.i 0,.zz]),(96,a_ m),(97,ae s.1)]) (fun s=>cI s.2/\s.1.length<=h_ g pl m.length/\∀x∈s.1,0<=x/\x<=8) (fun s=>h_ g pl m.length-s.1.length) ([],b) (aq [1000000000,6,96,22] @List.length_nil.{0}) (fun s hI R2 hn2 cP cL=>?_) (hi:=⟨i1,sA,sA⟩);obtain⟨w,c⟩:=s;obtain⟨j1,j2,j3⟩:=hI
  (try simp only[]at j1 j2 j3)
  rcases qH w.length (h_ g pl m.length)with h8|h8
  ·refine aB (bM @a_.eq_1 @ae.eq_1 @vS (Gg h9) (dt ((w.length:Int)<(h_ g pl m.length:Int)))) ?_;refine Fx (dV cs hc hl c j1 9 om) [1000000000] (aP ?_);have hs5:=dK (cs:=cs) hl j1 9;have oT:=ky (cs:=cs) (a:=c) (n:=9) om;generalize aJ cs c 9=z at hs5 oT ⊢;obtain⟨y,d⟩:=z;simp only[]at hs5 oT ⊢;have hq:=sN cs hc hl d hs5 [0,0,1,2,y] sA sA;simp only[ae,List.map_cons,List.map_nil]at hq;refine Fx hq [1000000000,35] (aP ?_);have pV:=nP (cs:=cs) hl hs5 [0,0,1,2,y];have LD:=bd8 (cs:=cs) (a:=d) oT;generalize il cs d [0,0,1,2,y]=z at pV LD ⊢;obtain⟨v,f⟩:=z;simp only[]at pV LD ⊢;refine⟨om,hn2 _ (w++[v],f) (aq [1000000000,6,96,38] (bf (aw h8 om) @qD.{0} @List.length_cons.{0} @List.length_nil.{0}) (hr:=?_)) ⟨pV,by simp;omega,fun x hx=>?_⟩ (by simp only[qD,List.length_cons,List.length_nil];omega)⟩
   ·refine rB (rB (rB (rI ?_ trivial)));simp only[ae,qG,List.map_cons,List.map_nil];exact .refl _
   ·rcases qI.1 hx with hx|hx
    ·exact j3 x hx
    ·simp at hx;rw[hx];exact LD
  ·refine aB (bM @a_.eq_1 @ae.eq_1 @vS (Gg h9) (dF ((w.length:Int)<(h_ g pl m.length:Int)))) ?_;refine cL _ _ (ab ?_);have wn:vo w:=⟨om,om,fun x hx=>by have:=j3 x hx;omega⟩;have hq:=Q3 w wn;simp only[ints,ae]at hq;refine Rx hq (aP ?_) (au:=[97]) (be:=.inr (dY _));have sM:=(PI (fun x hx=>(j3 x hx).1) (show 1<=w.length by omega)).1;refine⟨om,hn _ (m++[p7 w],c) (aq [1000000000,6,43] (bf (aw h9 om) @qD.{0} @List.length_cons.{0} @List.length_nil.{0}) (hr:=?_)) ⟨j1,by simp;omega,fun r hr'=>?_⟩ (by simp only[qD,List.length_cons,List.length_nil];omega)⟩
   ·refine rB (rB (rI ?_ trivial));simp only[a_,ae,qG,List.map_cons,List.map_nil];exact .refl _
   ·rcases qI.1 hr' with hr'|hr'
    ·exact i3 r hr'
    ·simp at hr';rw[hr',sM];omega
 ·refine aa (ay @a_.eq_1 @vS (dF ((m.length:Int)<((sets g pl).length:Int)))) ?_;refine he _ _ (ab ?_);exact⟨(m,b),rfl,rfl,by show m.length<=360;omega,i3,i1⟩
end
def nX(g:Gm)(pl:Int):LL:=(List.range (sets g pl).length).map fun i=>p7 (List.replicate (h_ g pl i) 0)
def LF(g:Gm)(pl:Int):(nX g pl).length=(sets g pl).length:=by simp[nX]
def bd9(h:i<(sets g pl).length):(nX g pl).take (i+1)=(nX g pl).take i++[p7 (List.replicate (h_ g pl i) 0)]:=bG (by simp[nX,h])
def be0(h1:1<=n)(h4:n<=4):vo (List.replicate n 0):=⟨sU h1,by simpa using h4,fun x hx=>by rw[List.eq_of_mem_replicate hx];omega⟩
def be1(m:LL):T.cr (m.map ae++[.arr 1 [.i 60]])=(m++[[60]]).map ints:=by
 rw[show m.map ae++[T.arr 1 [.i 60]]=(m++[[60]]).map ae by rw[qG];rfl,ii]
def be2{A C:Prop}(t:C)(h:C->A):A:=h t
def zN(m:LL):Prop:=m.length<=400/\∀r∈m,r.length<=4
def UK(hg:bR g=true)(aM:pl=0∨pl=1):zN (nX g pl):=by
 obtain⟨p1,p2,p3,p4,p5⟩:=fZ hg;obtain⟨t1,t2,t3,t4⟩:=fX p1;have dy:=q8 g pl t1.2 p2.2;refine⟨by rw[LF];omega,fun r hr=>?_⟩;obtain⟨i,hi,rfl⟩:=qN.1 hr;obtain⟨b1,b2⟩:=LC hg aM (List.mem_range.1 hi);rw[(PI (w:=List.replicate (h_ g pl i) 0) (fun x hx=>by rw[List.eq_of_mem_replicate hx];omega) (sU b1)).1];simpa using b2
def LG(h:zK g):qz g:=by
 obtain⟨⟨h1,h2⟩,h3,h4,h5,h6⟩:=h;exact⟨om,fun x hx=>by have:=h2 x hx;omega,⟨om,fun r hr=>by have:=h4 r hr;omega⟩,om,fun r hr=>by have:=h6 r hr;omega⟩
section
attribute [-go_sem] bC bF bK bE bH bL gN
def be3(g:Gm)(hg:bR g=true)(pl:Int)(aM:pl=0∨pl=1):FR 66 [.t (.agg [.sh 5 (chunk c_ g.nd),.sh 1 (g.w.map ints),.sh 1 (g.v.map ints)]),.t (.i pl)] (.agg [.i pl,.arr 1 ((nX g pl).map ae)]):=by
 obtain⟨p1,p2,p3,p4,p5⟩:=fZ hg;obtain⟨t1,t2,t3,t4⟩:=fX p1;have dy:=q8 g pl t1.2 p2.2;refine ag2 sA (ab ?_);have hp:=UI g pl t1.2 p2.2;simp only[ae]at hp;refine Rx hp (aP ?_);refine lN (fun i=>St.of [(1,.t (.i pl)),(4,.own 4),(5,.t (ints (o8 g pl))),(6,.own 96),(7,.t (.i i))] [(4,.box [.i 0,.zz]),(96,a_ ((nX g pl).take i))]) (fun i=>i<=(sets g pl).length) (fun i=>(sets g pl).length-i) 0 (wT (wS 10) (aq [4,11] (ay @zA @zB @sj))) (fun i hi R hn hr he=>?_) (hi:=sA);rcases qH i (sets g pl).length with h9|h9
 ·obtain⟨b1,b2⟩:=LC hg aM h9;have hlt:((nX g pl).take i).length=i:=by rw[qL,LF];omega
  refine aB (bM @a_.eq_1 @vS (Gg h9) (dt ((i:Int)<((sets g pl).length:Int))) @fe) ?_;rw[show List.replicate (h_ g pl i) (T.v (.int .i64 0))=(List.replicate (h_ g pl i) 0).map T.i by rw[List.map_replicate]];have hq:=Q3 _ (be0 b1 b2);simp only[ints,ae]at hq;refine Rx hq (aP ?_) (au:=[23]) (be:=.inr (dY _));refine⟨om,hn _ (i+1) (aq [4,26] (aw h9 om) (hr:=?_))⟩
  ·refine rB (rI ?_ trivial);rw[bd9 h9,a_,qG];exact .refl _
 ·refine aa (ah @vS (dF ((i:Int)<((sets g pl).length:Int)))) ?_;refine he _ _ (aa @a_.eq_1 ?_);rw[qQ (by rw[LF];exact h9)]
def CA(x:Gm×(Int×LL)):T:=.aI [.agg [.sh 5 (chunk c_ x.1.nd),.sh 1 (x.1.w.map ints),.sh 1 (x.1.v.map ints)],.agg [.i x.2.1,.sh 1 (x.2.2.map ints)]]
def be4(cs:LI)(hc:iO cs)(hl:cs.length<=100000000000)(a:Nat×Int)(ha:cI a)(pl:Int)(aM:pl=0∨pl=1):FA 63 [.box [bytes cs,.i a.1,.i a.2]] [.own 1000000000,.t (.i pl)] fun o r=>∃x:(Gm×(Int×LL))×(Nat×Int),o=[.box [bytes cs,.i x.2.1,.i x.2.2]]/\r=CA x.1/\(zK x.1.1/\zN x.1.2.2/\cI x.2):=by
 refine cF.le (Q:=fun o r=>∃x:(Gm×(Int×LL))×(Nat×Int),o=[.box [bytes cs,.i x.2.1,.i x.2.2]]/\(r=CA x.1∨x.1.2.2=[]/\r= .aI [.agg [.sh 5 (chunk c_ x.1.1.nd),.sh 1 (x.1.1.w.map ints),.sh 1 (x.1.1.v.map ints)],.agg [.i x.1.2.1,.zz]])/\(zK x.1.1/\zN x.1.2.2/\cI x.2)) ?_ ?_
 rotate_left
 ·rintro o r ⟨x,rfl,rfl|⟨e,rfl⟩,hx⟩
  ·exact⟨_,.refl _,x,rfl,rfl,hx⟩
  ·refine⟨CA x.1,?_,x,rfl,rfl,hx⟩;rw[CA,e];refine .aI rfl fun i h h'=>?_
   match i,h with
   |0,_=>exact .refl _
   |1,_=>
    refine .agg rfl fun j g g'=>?_
    match j,g with
    |0,_=>exact .refl _
    |1,_=>exact .Al 1
 refine bc1 sA (ab ?_);have hp:=bd6 cs hc hl a ha;simp only[UH]at hp;refine bz.xa hp [1000000000] [] rfl Tryz.call131 sA ?_ sA ?_ (.inl rfl) (fun x hx=>?_)
 ·exact iL trivial
 ·exact ey trivial
 obtain⟨⟨g,bb⟩,d⟩:=x;obtain⟨hx1,hx2⟩:=hx;simp only[]at hx1 hx2 ⊢;apply be2
 rotate_left
 ·intro tail;cases bb
  ·simp only[Bool.false_eq_true,if_false,rows,nodes];refine dA ?_;exact⟨St.of [(0,.own 1000000000),(1,.t (.i pl)),(4,.own 4),(5,.own 5),(6,.t (.ax [nodes g.nd,rows g.w,rows g.v] 0))] [(1000000000,.box [bytes cs,.i d.1,.i d.2]),(4,.box [.zz,.zz,.zz]),(5,.box [.i 0,.zz])],wT (wS 6) (aq [1000000000,4,5] (bM @zA @zB @zC @nodes.eq_1 @bc6)),tail⟩
  ·simp only[if_true,rows,nodes];refine dA ?_;exact⟨St.of [(0,.own 1000000000),(1,.t (.i pl)),(4,.own 4),(5,.own 5),(6,.t (.ax [nodes g.nd,rows g.w,rows g.v] 0))] [(1000000000,.box [bytes cs,.i d.1,.i d.2]),(4,.box [.zz,.zz,.zz]),(5,.box [.i 0,.zz])],wT (wS 6) (aq [1000000000,4,5] (bf @zA @zB @zC @nodes.eq_1)),tail⟩
 ·refine aa @nodes.eq_1 ?_;have kh:=LG hx1;refine Px (Cq (Lc g kh)) (ab ?_);cases uw:bR g with
  |false=>exact⟨fun _=>⟨((g,(pl,[])),d),rfl,.inr ⟨rfl,rfl⟩,hx1,⟨sA,sA⟩,hx2⟩,fun h=>absurd h dc⟩
  |true=>
   refine⟨fun h=>absurd h dc,fun _=>?_⟩;have hr:=UJ cs hc hl d hx2 g uw pl aM;refine bz.xa hr [1000000000] [] rfl Tryz.call65 sA ?_ sA ?_ (.inl rfl) (fun y hy=>?_)
   ·exact iL trivial
   ·exact ey trivial
   obtain⟨m,e⟩:=y;obtain⟨hy1,hy2,xY⟩:=hy
   (try simp only[]at hy1 hy2 xY)
   (try simp only[])
   refine aP ?_;refine Fx (dV cs hc hl e xY 20 om) [1000000000] (aP ?_);have hs1:=dK (cs:=cs) hl xY 20;have fk:=ky (cs:=cs) (a:=e) (n:=20) om;generalize aJ cs e 20=z at hs1 fk ⊢;obtain⟨k,f⟩:=z;simp only[]at hs1 fk ⊢;refine⟨fun hk=>?_,fun hk=>⟨fun hk1=>?_,fun hk1=>⟨fun hk2=>?_,fun hk2=>?_⟩⟩⟩
   ·refine⟨fun hm=>?_,fun hm=>?_⟩
    ·obtain⟨r0,b9⟩:∃r0,m[0]? =some r0:=⟨_,qB om⟩;refine⟨_,aj.open 25 0 505 (l:=m.map ae) (lk:=[]) (c:=ae r0) rfl (by rw[qU,b9];rfl) rfl dc rfl,?_⟩;have bA2:=hy2 r0 (qE b9);obtain⟨y0,hy0⟩:∃y,r0[0]? =some y:=⟨_,qB om⟩;refine cE (ay @ae.eq_1 @List.length_set.{0} hy0) ?_;have hp1:=sN cs hc hl f hs1 [-1,1,60] sA sA;simp only[ae,List.map_cons,List.map_nil]at hp1;refine⟨om,om,om,om,om,om,?_⟩;refine iX.ref hp1 [1000000000,39] [] rfl Tryz.call41 sA ?_ sA (fun e R' hR=>?_) (.inl rfl) ?_
     ·exact iL trivial
     ·exact ey trivial
     refine aP ?_;have aW:=nP (cs:=cs) hl hs1 [-1,1,60];generalize il cs f [-1,1,60]=z at aW ⊢;obtain⟨v,f2⟩:=z
     (try simp only[]at aW)
     (try simp only[])
     have ox:((m.map ae).set 0 T.any)[0]? =some .any:=by rw[List.getElem?_set_self (by rw[qJ];omega)]
     have hrow:((m.map ae).set 0 T.any).set 0 (.arr 1 ((r0.map T.i).set 0 (.i (IntKind.i64.wrap (y0+v)))))=(m.set 0 (r0.set 0 (IntKind.i64.wrap (y0+v)))).map ae:=by
      rw[List.set_set,List.map_set,ae,List.map_set]
     refine⟨?_,(qS).ak _ (.inl sA)⟩;refine⟨om,om,_,wT (aj.tA 25 0 505 rfl rfl dc ox) (wT (wC 7 1 25) (wT (wS 7) (aq [1000000000,4,5] (jz @zA @zB @zC @nodes.eq_1 @ii @List.set_cons_succ.{0} @List.set_cons_zero.{0} hrow) (e:=[(0,.own 1000000000),(1,.t (.i pl)),(4,.own 4),(5,.own 5),(6,.t (.ax [nodes g.nd,rows g.w,rows g.v] 0)),(7,.t (.ax [.i pl,rows (m.set 0 (r0.set 0 (IntKind.i64.wrap (y0+v))))] 0))]) (r:=[(1000000000,.box [bytes cs,.i f2.1,.i f2.2]),(4,.box [.zz,.zz,.zz]),(5,.box [.i 0,.zz])])))),aa @nodes.eq_1 ?_⟩;exact⟨⟨((g,(pl,m.set 0 (r0.set 0 (IntKind.i64.wrap (y0+v))))),f2),rfl,.inl rfl,hx1,⟨by show(m.set 0 _).length<=400;rw[List.length_set];omega,fun r hr=>by rcases List.mem_or_eq_of_mem_set hr with h|h;exact(hy2 r h).2;rw[h,List.length_set];omega⟩,aW⟩,qS⟩
    ·refine⟨_,wT (wC 7 1 25) (wT (wS 7) (aq [1000000000,4,5] (dZ @zA @zB @zC @nodes.eq_1 @ii @List.set_cons_succ.{0} @List.set_cons_zero.{0}) (e:=[(0,.own 1000000000),(1,.t (.i pl)),(4,.own 4),(5,.own 5),(6,.t (.ax [nodes g.nd,rows g.w,rows g.v] 0)),(7,.t (.ax [.i pl,rows m] 0))]) (r:=[(1000000000,.box [bytes cs,.i f.1,.i f.2]),(4,.box [.zz,.zz,.zz]),(5,.box [.i 0,.zz])]))),aa @nodes.eq_1 ?_⟩;exact⟨⟨((g,(pl,m)),f),rfl,.inl rfl,hx1,⟨by show m.length<=400;omega,fun r hr=>(hy2 r hr).2⟩,hs1⟩,qS⟩
   ·have hp1:=sN cs hc hl f hs1 [-1,IntKind.i64.wrap (1-pl),2] sA sA;simp only[ae,List.map_cons,List.map_nil]at hp1;refine Fx hp1 [1000000000,48] (aP ?_);have aW:=nP (cs:=cs) hl hs1 [-1,IntKind.i64.wrap (1-pl),2];generalize il cs f [-1,IntKind.i64.wrap (1-pl),2]=z at aW ⊢;obtain⟨v,f2⟩:=z
    (try simp only[]at aW)
    (try simp only[])
    refine⟨_,wT (wS 7) (aq [1000000000,4,5] (bM @zA @zB @zC @nodes.eq_1 @ii) (e:=[(0,.own 1000000000),(1,.t (.i pl)),(4,.own 4),(5,.own 5),(6,.t (.ax [nodes g.nd,rows g.w,rows g.v] 0)),(7,.t (.ax [.i v,rows m] 0))]) (r:=[(1000000000,.box [bytes cs,.i f2.1,.i f2.2]),(4,.box [.zz,.zz,.zz]),(5,.box [.i 0,.zz])])),aa @nodes.eq_1 ?_⟩;exact⟨⟨((g,(v,m)),f2),rfl,.inl rfl,hx1,⟨by show m.length<=400;omega,fun r hr=>(hy2 r hr).2⟩,aW⟩,qS⟩
   ·refine⟨om,_,wT (wS 7) (aq [1000000000,4,5] (bM @zA @zB @zC @nodes.eq_1 @be1) (e:=[(0,.own 1000000000),(1,.t (.i pl)),(4,.own 4),(5,.own 5),(6,.t (.ax [nodes g.nd,rows g.w,rows g.v] 0)),(7,.t (.ax [.i pl,rows (m++[[60]])] 0))]) (r:=[(1000000000,.box [bytes cs,.i f.1,.i f.2]),(4,.box [.zz,.zz,.zz]),(5,.box [.i 0,.zz])])),aa @nodes.eq_1 ?_⟩;exact⟨⟨((g,(pl,m++[[60]])),f),rfl,.inl rfl,hx1,⟨by show(m++[[60]]).length<=400;simp;omega,fun r hr=>by rcases qI.1 hr with h|h;exact(hy2 r h).2;simp at h;subst h;decide⟩,hs1⟩,qS⟩
   ·refine⟨_,wT (wS 7) (aq [1000000000,4,5] (bM @zA @zB @zC @nodes.eq_1 @ii) (e:=[(0,.own 1000000000),(1,.t (.i pl)),(4,.own 4),(5,.own 5),(6,.t (.ax [nodes g.nd,rows g.w,rows g.v] 0)),(7,.t (.ax [.i pl,rows m] 0))]) (r:=[(1000000000,.box [bytes cs,.i f.1,.i f.2]),(4,.box [.zz,.zz,.zz]),(5,.box [.i 0,.zz])])),aa @nodes.eq_1 ?_⟩;exact⟨⟨((g,(pl,m)),f),rfl,.inl rfl,hx1,⟨by show m.length<=400;omega,fun r hr=>(hy2 r hr).2⟩,hs1⟩,qS⟩
end
end Go.Ab
