import Derived.Test.YtecafjkedemhnaaGreatQ15
set_option maxRecDepth 20000
set_option linter.all false
set_option maxHeartbeats 1000000
namespace Go.Ab
open Go.Proofs
variable{g:Gm}{a b c f i j k n own p:Nat}{pl:Int}{s:Int×LL}{B ot t:LL}{l:List Nd}{reach:LI}{S:St}{K:A->Prop}
section
attribute [-go_sem] bC bF bK bE bH bL gN
def xZ(x:Gm×(Int×LL)×(Int×LL)):T:=.aI [.agg [.sh 5 (chunk c_ x.1.nd),.sh 1 (x.1.w.map ints),.sh 1 (x.1.v.map ints)],.agg [.i x.2.1.1,.sh 1 (x.2.1.2.map ints)],.agg [.i x.2.2.1,.sh 1 (x.2.2.2.map ints)]]
def LH(x:Gm×(Int×LL)×(Int×LL)):Prop:=zK x.1/\zN x.2.1.2/\zN x.2.2.2
def be5(cs:LI)(hc:iO cs)(hl:cs.length<=100000000000)(a:Nat×Int)(ha:cI a):FA 25 [.box [bytes cs,.i a.1,.i a.2]] [.own 1000000000] fun o r=>∃x:(Gm×(Int×LL)×(Int×LL))×(Nat×Int),o=[.box [bytes cs,.i x.2.1,.i x.2.2]]/\r=xZ x.1/\(LH x.1/\cI x.2):=by
 refine cF.le (Q:=fun o r=>∃x:(Gm×(Int×LL)×(Int×LL))×(Nat×Int),o=[.box [bytes cs,.i x.2.1,.i x.2.2]]/\(r=xZ x.1∨x.1.2.2.2=[]/\r= .aI [.agg [.sh 5 (chunk c_ x.1.1.nd),.sh 1 (x.1.1.w.map ints),.sh 1 (x.1.1.v.map ints)],.agg [.i x.1.2.1.1,.sh 1 (x.1.2.1.2.map ints)],.agg [.i x.1.2.2.1,.zz]])/\(LH x.1/\cI x.2)) ?_ ?_
 rotate_left
 ·rintro o r ⟨x,rfl,rfl|⟨e,rfl⟩,hx⟩
  ·exact⟨_,.refl _,x,rfl,rfl,hx⟩
  ·refine⟨xZ x.1,?_,x,rfl,rfl,hx⟩;rw[xZ,e];refine .aI rfl fun i h h'=>?_
   match i,h with
   |0,_=>exact .refl _
   |1,_=>exact .refl _
   |2,_=>
    refine .agg rfl fun j g g'=>?_
    match j,g with
    |0,_=>exact .refl _
    |1,_=>exact .Al 1
 refine ad0 sA (ab ?_);have hp:=be4 cs hc hl a ha 0 (.inl rfl);simp only[CA]at hp;refine Xx hp [1000000000] (fun x hx=>dA ?_);obtain⟨⟨g,⟨p,m⟩⟩,d⟩:=x;obtain⟨hx1,hx2,jl⟩:=hx
 (try simp only[]at hx1 hx2 jl)
 (try simp only[])
 have kh:=LG hx1;refine Px (Cq (Lc g kh)) (ab ?_);cases uw:bR g with
 |false=>
  refine⟨fun _=>⟨_,aj.refl _ _,?_⟩,fun h=>absurd h dc⟩;refine ab ?_;exact⟨⟨⟨((g,(p,m),(1,[])),d),rfl,.inr ⟨rfl,rfl⟩,⟨hx1,hx2,⟨sA,sA⟩⟩,jl⟩,qS⟩,qS⟩
 |true=>
  refine⟨fun h=>absurd h dc,fun _=>?_⟩;have hr:=UJ cs hc hl d jl g uw 1 (.inr rfl);refine bz.xa hr [1000000000] [] rfl Tryz.call65 sA ?_ sA ?_ (.inl rfl) (fun y hy=>?_)
  ·exact iL trivial
  ·exact ey trivial
  obtain⟨q,e⟩:=y;obtain⟨hy1,hy2,xY⟩:=hy
  (try simp only[]at hy1 hy2 xY)
  (try simp only[])
  refine dA ?_;refine Fx (dV cs hc hl e xY 6 om) [1000000000] (aP ?_);have hs1:=dK (cs:=cs) hl xY 6;generalize aJ cs e 6=z at hs1 ⊢;obtain⟨k,f⟩:=z;simp only[]at hs1 ⊢;refine⟨fun hk=>?_,fun hk=>?_⟩
  ·have hu:=be3 g uw 1 (.inr rfl);refine Rx hu (dA ?_);refine Fx (dV cs hc hl f hs1 20 om) [1000000000] (aP ?_);have aW:=dK (cs:=cs) hl hs1 20;generalize aJ cs f 20=z at aW ⊢;obtain⟨k2,f2⟩:=z;simp only[]at aW ⊢;refine⟨fun hk2=>?_,fun hk2=>?_⟩
   ·refine⟨_,wT (wS 7) (aq [1000000000,2,3,4,5,6] (bM @zA @zB @zC @nodes.eq_1 @ii) (e:=[(0,.own 1000000000),(2,.own 2),(3,.own 3),(4,.own 4),(5,.own 5),(6,.own 6),(7,.t (.ax [.i 0,rows (nX g 1)] 0))]) (r:=[(1000000000,.box [bytes cs,.i f2.1,.i f2.2]),(2,.box [.zz,.zz,.zz]),(3,.box [.i 0,.zz]),(4,.box [.i 0,.zz]),(5,.box [nodes g.nd,rows g.w,rows g.v]),(6,.box [.i p,rows m])])),aa @nodes.eq_1 ?_⟩;exact⟨⟨⟨((g,(p,m),(0,nX g 1)),f2),rfl,.inl rfl,⟨hx1,hx2,UK uw (.inr rfl)⟩,aW⟩,qS⟩,qS⟩
   ·refine⟨_,wT (wS 7) (aq [1000000000,2,3,4,5,6] (bM @zA @zB @zC @nodes.eq_1 @ii) (e:=[(0,.own 1000000000),(2,.own 2),(3,.own 3),(4,.own 4),(5,.own 5),(6,.own 6),(7,.t (.ax [.i 1,rows (nX g 1)] 0))]) (r:=[(1000000000,.box [bytes cs,.i f2.1,.i f2.2]),(2,.box [.zz,.zz,.zz]),(3,.box [.i 0,.zz]),(4,.box [.i 0,.zz]),(5,.box [nodes g.nd,rows g.w,rows g.v]),(6,.box [.i p,rows m])])),aa @nodes.eq_1 ?_⟩;exact⟨⟨⟨((g,(p,m),(1,nX g 1)),f2),rfl,.inl rfl,⟨hx1,hx2,UK uw (.inr rfl)⟩,aW⟩,qS⟩,qS⟩
  ·skip
   refine Fx (dV cs hc hl f hs1 20 om) [1000000000] (aP ?_);have aW:=dK (cs:=cs) hl hs1 20;generalize aJ cs f 20=z at aW ⊢;obtain⟨k2,f2⟩:=z;simp only[]at aW ⊢;refine⟨fun hk2=>?_,fun hk2=>?_⟩
   ·refine⟨_,wT (wS 7) (aq [1000000000,2,3,4,5,6] (bM @zA @zB @zC @nodes.eq_1 @ii) (e:=[(0,.own 1000000000),(2,.own 2),(3,.own 3),(4,.own 4),(5,.own 5),(6,.own 6),(7,.t (.ax [.i 0,rows (q)] 0))]) (r:=[(1000000000,.box [bytes cs,.i f2.1,.i f2.2]),(2,.box [.zz,.zz,.zz]),(3,.box [.i 0,.zz]),(4,.box [.i 0,.zz]),(5,.box [nodes g.nd,rows g.w,rows g.v]),(6,.box [.i p,rows m])])),aa @nodes.eq_1 ?_⟩;exact⟨⟨⟨((g,(p,m),(0,q)),f2),rfl,.inl rfl,⟨hx1,hx2,⟨by show q.length<=400;omega,fun r hr=>(hy2 r hr).2⟩⟩,aW⟩,qS⟩,qS⟩
   ·refine⟨_,wT (wS 7) (aq [1000000000,2,3,4,5,6] (bM @zA @zB @zC @nodes.eq_1 @ii) (e:=[(0,.own 1000000000),(2,.own 2),(3,.own 3),(4,.own 4),(5,.own 5),(6,.own 6),(7,.t (.ax [.i 1,rows (q)] 0))]) (r:=[(1000000000,.box [bytes cs,.i f2.1,.i f2.2]),(2,.box [.zz,.zz,.zz]),(3,.box [.i 0,.zz]),(4,.box [.i 0,.zz]),(5,.box [nodes g.nd,rows g.w,rows g.v]),(6,.box [.i p,rows m])])),aa @nodes.eq_1 ?_⟩;exact⟨⟨⟨((g,(p,m),(1,q)),f2),rfl,.inl rfl,⟨hx1,hx2,⟨by show q.length<=400;omega,fun r hr=>(hy2 r hr).2⟩⟩,aW⟩,qS⟩,qS⟩
end
def d9(g:Gm)(ot:LL)(pl:Int)(B:LL):T:=.box [nodes g.nd,rows g.w,rows g.v,.i pl,.i (1-pl),rows ot,a_ B]
def nY(pl a b:Int):Int:=if pl=0 then a else b
def kD(reach:LI)(p:Nat):Prop:=az reach*pw p<=41990400000
def dC:Int:=4199040000000
def LJ:∀{l:LI},(∀x∈l,0<=x)->∀x∈l,x<=az l
 |[],_,x,h=>by simp at h
 |y::l,h0,x,h=>by
  have h1:=oZ (l:=l) fun z hz=>h0 z (by simp[hz]);have h2:=h0 y sA;rw[az];rcases qO.1 h with rfl|h
  ·omega
  ·have:=LJ (l:=l) (fun z hz=>h0 z (by simp[hz])) x h;omega
def vT(g:Gm)(pl:Int)(i own c:Nat):Int:=if pl=0 then gw g i own c else gw g i c own
def be6(g:Gm)(pl:Int)(i own c:Nat):i8 g pl i own c=if pl=0 then vT g pl i own c else -vT g pl i own c:=by
 unfold i8 vT;split<;>rfl
def LK(h0:∀x∈reach,0<=x)(c:Nat):0<=reach.getD c 0/\reach.getD c 0<=az reach:=by
 rw[qA];cases h:reach[c]? with
 |none=>exact⟨sA,sU (oZ h0)⟩
 |some y=>exact⟨h0 y (qE h),LJ h0 y (qE h)⟩
def Gh(h0:∀x∈reach,0<=x)(hc:kD reach p){y:Int}(h1: -100<=y)(h2:y<=100):(-dC<=reach.getD c 0*y*pw p/\reach.getD c 0*y*pw p<=dC)/\(-4199040000000<=reach.getD c 0*y/\reach.getD c 0*y<=4199040000000):=by
 obtain⟨r1,r2⟩:=LK h0 c;have hp:=nV p;obtain⟨m1,m2⟩:=zx r1 h1 h2;have k1:=Int.mul_le_mul_of_nonneg_right m1 (Int.le_of_lt hp);have k2:=Int.mul_le_mul_of_nonneg_right m2 (Int.le_of_lt hp);have k3:=Int.mul_le_mul_of_nonneg_right r2 (Int.le_of_lt hp);have k4:reach.getD c 0<=reach.getD c 0*pw p:=by
  have:=Int.mul_le_mul_of_nonneg_left (show(1:Int)<=pw p by omega) r1;omega
 rw[Int.neg_mul,Int.mul_assoc 100]at k1;rw[Int.mul_assoc 100]at k2;unfold kD at hc;unfold dC;refine⟨⟨om,om⟩,om,om⟩
def o9(vs:LI)(k:Nat):Int:=if k=0 then 0 else vs.getD (dO.go k vs) 0
def UL{vs:LI}{n:Int}(h:vs[k]? =some n):dO.go (k+1) vs=(if k=0∨n>o9 vs k then k else dO.go k vs)/\o9 vs (k+1)=(if k=0∨n>o9 vs k then n else o9 vs k):=by
 have hd:vs.getD k 0=n:=by rw[qA,h];rfl
 unfold o9;rw[Cf,hd];by_cases h0:k=0
 ·subst h0;simp[hd];rw[qA]at hd;exact hd
 ·rw[if_neg h0,if_neg h0,if_neg (by omega:¬k+1=0)];by_cases h1:vs.getD (dO.go k vs) 0<n
  ·rw[if_pos h1,if_pos (.inr h1),if_pos (.inr h1)];exact⟨rfl,hd⟩
  ·rw[if_neg h1,if_neg (by rintro(h|h);exact h0 h;exact h1 h),if_neg (by rintro(h|h);exact h0 h;exact h1 h)];exact⟨rfl,rfl⟩
def UM{α β:Type}(F:β->α->β)(l:List α)(b:β){c:α}(h:l[k]? =some c):(l.take (k+1)).foldl F b=F ((l.take k).foldl F b) c:=by
 rw[bG h,List.foldl_append];rfl
def tS(g:Gm)(pl:Int)(i own:Nat)(reach:LI)(p k:Nat):Int:=az ((List.range k).map fun c=>reach.getD c 0*i8 g pl i own c)*pw p
def UN(g:Gm)(pl:Int)(i own:Nat)(reach:LI)(p k:Nat):tS g pl i own reach p (k+1)=tS g pl i own reach p k+reach.getD k 0*i8 g pl i own k*pw p:=by
 unfold tS;rw[List.range_succ,qG,List.map_cons,List.map_nil,vJ,Int.add_mul]
def LM{g:Gm}{pl:Int}{i own:Nat}{reach:LI}{p:Nat}(hp:zw g)(h0:∀x∈reach,0<=x)(hc:kD reach p):∀k, -(k*dC)<=tS g pl i own reach p k/\tS g pl i own reach p k<=k*dC
 |0=>by simp[tS,az]
 |k+1=>by
  have ih:=LM (pl:=pl) (i:=i) (own:=own) hp h0 hc k;obtain⟨h1,h2⟩:=Ci hp pl i own k;have h3:=(Gh h0 hc (c:=k) h1 h2).1;rw[UN];have e:((k+1:Nat):Int)*dC=k*dC+dC:=by rw[Int.natCast_add,Int.add_mul];simp
  omega
def Gi(bT:dv g ot (1-pl))(hi:i<g.nd.length)(hr:reach.length=g.w.length)(hp:(g.nd.getD i av).p=1-pl)(h0:∀x∈reach,0<=x)(hc:kD reach (p+1))(hk:k<(g.nd.getD i av).ch.length):kD (da g ot pl i reach k) p:=by
 have hs:=TN bT hi hr hp;have hle:az (da g ot pl i reach k)<=60*az reach:=by
  rw[←hs];refine LJ (fun x hx=>?_) _ (qN.2 ⟨k,List.mem_range.2 hk,rfl⟩);obtain⟨k',_,rfl⟩:=qN.1 hx;exact oZ (xT bT hi hr hp h0 k')
 have h1:=Int.mul_le_mul_of_nonneg_right hle (Int.le_of_lt (nV p));unfold kD at hc ⊢;rw[xR,←Int.mul_assoc,Int.mul_comm (az reach) 60]at hc;omega
def x4{G:Nat->Int}{c:Int}:∀{n:Nat},(∀k,k<n-> -c<=G k/\G k<=c)-> -(n*c)<=az ((List.range n).map G)/\az ((List.range n).map G)<=n*c
 |0,_=>by simp[az]
 |n+1,h=>by
  have ih:=x4 (n:=n) fun k hk=>h k om;have h1:=h n om;rw[List.range_succ,qG,List.map_cons,List.map_nil,vJ];have e:((n+1:Nat):Int)*c=n*c+c:=by rw[Int.natCast_add,Int.add_mul];simp
  omega
def Gj(aK:fQ g.nd)(aM:pl=0∨pl=1)(bT:dv g ot (1-pl))(hi:i<g.nd.length)(hr:reach.length=g.w.length)(h0:∀x∈reach,0<=x)(hd:dep g.nd f i<=p)(hc:kD reach p): -dC<=bD g ot pl own f i reach p/\bD g ot pl own f i reach p<=dC:=by
 have h:=KY (own:=own) aK aM bT (Ck aK) f i reach p hi hr h0 hd;rw[Int.mul_assoc]at h;unfold kD at hc;unfold dC;omega
def UO(r:Nat)(K:A->Prop):aE->Prop
 | .live (.box _) _=>K (.own r)
 |_=>False
def be7{r:Nat}:gN (.own r) S K=UO r K (S.roots r):=by
 show(match S.roots r with| .live (.box _) _=>K (.own r)|_=>False)=_;cases S.roots r with
 |live t lk=>cases t<;>rfl
 |_=>rfl
def be8{r off:Nat}:gN (.ptr r off) S K=K (.ptr r off):=rfl
def be9{l:LA}{off:Nat}:gN (.t (.ax l off)) S K=K (.t (.ax l off)):=rfl
attribute [go_sem] be7 be8 be9 UO
section
attribute [-go_sem] bC bF bK bE bH bL gN
def bf0(g:Gm)(ot B:LL)(pl a b:Int):FA 139 [d9 g ot pl B] [.own 1000000000,.t (.i a),.t (.i b)] fun o r=>o=[d9 g ot pl B]/\r= .aI [.i (nY pl a b),.i (nY pl b a)]:=by
 refine am2 sA (aa @d9.eq_1 ?_);refine⟨fun h=>?_,fun h=>?_⟩
 ·have h:pl=0:=sU h;rw[nY,nY,if_pos h,if_pos h]
 ·have h:¬pl=0:=sU h;rw[nY,nY,if_neg h,if_neg h]
def UP(g:Gm)(ot B:LL)(pl a b:Int):FA 139 [.box [.sh 5 (chunk c_ g.nd),.sh 1 (g.w.map ints),.sh 1 (g.v.map ints),.i pl,.i (1-pl),.sh 1 (ot.map ints),a_ B]] [.own 1000000000,.t (.i a),.t (.i b)] fun o r=>o=[.box [.sh 5 (chunk c_ g.nd),.sh 1 (g.w.map ints),.sh 1 (g.v.map ints),.i pl,.i (1-pl),.sh 1 (ot.map ints),a_ B]]/\r= .aI [.i (nY pl a b),.i (nY pl b a)]:=bf0 g ot B pl a b
def bf1(hg:bR g=true)(pl:Int)(hi:i<g.nd.length)(ha:own<g.w.length)(hb:c<g.w.length):Pr 193 [.agg [.sh 5 (chunk c_ g.nd),.sh 1 (g.w.map ints),.sh 1 (g.v.map ints)],.i i,.i (nY pl own c),.i (nY pl c own)] (.i (vT g pl i own c)):=by
 unfold nY vT;by_cases h:pl=0
 ·rw[if_pos h,if_pos h,if_pos h];exact Ut g hg i own c hi ha hb
 ·rw[if_neg h,if_neg h,if_neg h];exact Ut g hg i c own hi hb ha
def UQ(hg:bR g=true)(hi:i<g.nd.length)(hp:(g.nd.getD i av).p=pl)(hc:c<g.w.length):Pr 194 [.agg [.sh 5 (chunk c_ g.nd),.sh 1 (g.w.map ints),.sh 1 (g.v.map ints)],.i pl,.i i,.i c] (.i (el g pl i c)):=bb7 g hg pl i c hi hp hc
theorem bf2{g:Gm}{ot:LL}{pl:Int}{own:Nat}(hg:bR g=true)(aM:pl=0∨pl=1)(bT:dv g ot (1-pl))(hown:own<g.w.length):∀(f i:Nat) (reach:LI) (p:Nat) (B:LL),g.nd.length<=i+f->i<g.nd.length->reach.length=g.w.length->(∀x∈reach,0<=x)->dep g.nd f i<=p->p<=5->kD reach p->i_ (sets g pl).length B→
  FA 140 [d9 g ot pl B] [.own 1000000000,.t (.i i),.t (.i own),.t (ints reach),.t (.i p)] fun o r=>o=[d9 g ot pl (dp g ot pl own f i reach p B)]/\r= .i (bD g ot pl own f i reach p):=by
 obtain⟨p1,p2,p3,p4,p5⟩:=fZ hg;obtain⟨t1,t2,t3,t4⟩:=fX p1;have o5:=Ck t2;intro f;induction f with
 |zero=>intro i reach p B h1 h2;omega
 |succ f ih=>
  intro i reach p B hf hi hrl b9 hdp Gk hcap x5;obtain⟨x,hx⟩:∃x,g.nd[i]? =some x:=⟨_,qB hi⟩;have dM:g.nd.getD i av=x:=by rw[qA,hx];rfl
  have nv:=(eJ (t2 _ _ hx)).2.2.2.2.2;have pW:x.p=2->dp g ot pl own (f+1) i reach p B=B:=fun h=>by rw[dp];simp only[dM];rw[if_pos h]
  have vU:x.p=2->bD g ot pl own (f+1) i reach p=tS g pl i own reach p reach.length:=fun h=>by rw[bD];simp only[dM];rw[if_pos h];rfl
  have kO:x.p≠2->x.p=pl->dp g ot pl own (f+1) i reach p B=(x.ch.foldl (fun B c=>dp g ot pl own f c.toNat reach p B) B).set (el g pl i own) ((List.replicate x.ch.length 0).set (dO (x.ch.map fun c=>bD g ot pl own f c.toNat reach p)) 60):=fun h h'=>by rw[dp];simp only[dM];rw[if_neg h,if_pos h']
  have mr:x.p≠2->x.p=pl->bD g ot pl own (f+1) i reach p=(x.ch.map fun c=>bD g ot pl own f c.toNat reach p).getD (dO (x.ch.map fun c=>bD g ot pl own f c.toNat reach p)) 0:=fun h h'=>by rw[bD];simp only[dM];rw[if_neg h,if_pos h']
  have oA:x.p≠2->x.p≠pl->dp g ot pl own (f+1) i reach p B=(List.range x.ch.length).foldl (fun B k=>dp g ot pl own f (x.ch.getD k 0).toNat (da g ot pl i reach k) (p-1) B) B:=fun h h'=>by rw[dp];simp only[dM];rw[if_neg h,if_neg h']
  have x6:x.p≠2->x.p≠pl->bD g ot pl own (f+1) i reach p=az ((List.range x.ch.length).map fun k=>bD g ot pl own f (x.ch.getD k 0).toNat (da g ot pl i reach k) (p-1)):=fun h h'=>by rw[bD];simp only[dM];rw[if_neg h,if_neg h']
  generalize dp g ot pl own (f+1) i reach p B=B' at pW kO oA ⊢;generalize bD g ot pl own (f+1) i reach p=V' at vU mr x6 ⊢;refine aK8 sA (aB (bf @RH.eq_1 @d9.eq_1 @nodes.eq_1 (nU hx)) ?_);refine⟨by rw[cN];omega,by rw[cN];omega,fun h2=>?_,fun h2=>?_⟩
  ·have h2:x.p=2:=sU h2;rw[pW h2,vU h2];refine lN (fun k=>St.of [(0,.own 1000000000),(1,.t (.i i)),(2,.t (.i own)),(3,.t (ints reach)),(4,.t (.i p)),(12,.t (.i (tS g pl i own reach p k))),(13,.t (.i k))] [(1000000000,d9 g ot pl B)]) (fun k=>k<=reach.length) (fun k=>reach.length-k) 0 (aq [1000000000] (show tS g pl i own reach p 0=0 by simp[tS,az])) (fun k hk R hn hr he=>?_)
   ·rcases qH k reach.length with h9|h9
    ·refine aa (ay @d9.eq_1 @nodes.eq_1 (dt ((k:Int)<(reach.length:Int)))) ?_;refine Fx (UP g ot B pl own k) [1000000000] (aP ?_);obtain⟨y,hy⟩:∃y,reach[k]? =some y:=⟨_,qB h9⟩;have wh:reach.getD k 0=y:=by rw[qA,hy];rfl
     obtain⟨q1,q2⟩:=Ci o5 pl i own k;obtain⟨⟨m1,m2⟩,m3,m4⟩:=Gh b9 hcap (c:=k) q1 q2;have m5:=LM (pl:=pl) (i:=i) (own:=own) o5 b9 hcap k;have m6:=UN g pl i own reach p k;have m7:(k:Int)*dC<=6*dC:=Int.mul_le_mul_of_nonneg_right om dc;have CB:dC=4199040000000:=rfl;have Gl:=be6 g pl i own k;rw[wh]at m1 m2 m3 m4 m6;generalize hP:i8 g pl i own k=P at q1 q2 m1 m2 m3 m4 m6 Gl;refine Px (bf1 (c:=k) hg pl hi hown om) (aa hy ?_);have hw0:pl=1->IntKind.i64.wrap (0-vT g pl i own k)=P:=fun h=>by
      rw[if_neg om]at Gl;rw[wrap64 (n:=0-vT g pl i own k) om om];omega
     have hw1:pl≠1->vT g pl i own k=P:=fun h=>by
      rw[if_pos om]at Gl;exact Gl.symm
     refine⟨fun h5=>⟨om,om,om,?_⟩,fun h5=>⟨om,om,om,?_⟩⟩
     ·rw[hw0 (sU h5)];refine V (Lk p om) (ab ?_);refine hn _ (k+1) (aj.o _ _ [some 1000000000] ?_ ?_)
      ·simp -implicitDefEqProofs only[fc,Nat.reduceBEq,Nat.reduceEqDiff, ↓reduceIte,d9,nodes,aw h9 om,wrap64 (n:=y*P) om om,wrap64 (n:=y*P*pw p) om om,←m6,wrap64 (n:=tS g pl i own reach p (k+1)) om om]
      ·exact rB trivial
     ·rw[hw1 (sU h5)];refine V (Lk p om) (ab ?_);refine hn _ (k+1) (aj.o _ _ [some 1000000000] ?_ ?_)
      ·simp -implicitDefEqProofs only[fc,Nat.reduceBEq,Nat.reduceEqDiff, ↓reduceIte,d9,nodes,aw h9 om,wrap64 (n:=y*P) om om,wrap64 (n:=y*P*pw p) om om,←m6,wrap64 (n:=tS g pl i own reach p (k+1)) om om]
      ·exact rB trivial
    ·refine aa (ay @d9.eq_1 @nodes.eq_1 (dF ((k:Int)<(reach.length:Int)))) ?_;refine he _ _ (ab ?_);rw[show k=reach.length by omega]
  have h2:x.p≠2:=sU h2;have hp2:(g.nd.getD i av).p≠2:=by rw[dM];exact h2
  obtain⟨d1,d2⟩:=sQ (f:=f) hp2;rw[dM]at d2;have hch:=k8 (t2 _ _ hx);refine⟨fun h3=>?_,fun h3=>?_⟩
  ·have h3:x.p=pl:=sU h3;generalize hF:(fun(B:LL) (c:Int)=>dp g ot pl own f c.toNat reach p B)=F at kO;generalize hvs:(x.ch.map fun c=>bD g ot pl own f c.toNat reach p)=vs at kO mr;have hvl:vs.length=x.ch.length:=(by rw[←hvs,qJ]);rw[kO h2 h3,mr h2 h3];refine lN (fun k=>St.of [(0,.own 1000000000),(1,.t (.i i)),(2,.t (.i own)),(3,.t (ints reach)),(4,.t (.i p)),(11,.own 11),(17,.t (.i (dO.go k vs))),(18,.t (.i (o9 vs k))),(19,.t (.i k))] [(11,.box [.i x.p,.i x.a,.i x.b,.i x.f,ints x.ch]),(1000000000,d9 g ot pl ((x.ch.take k).foldl F B))]) (fun k=>k<=x.ch.length) (fun k=>x.ch.length-k) 0 (aq [11,1000000000] (ah (show o9 vs 0=0 from rfl) (show dO.go 0 vs=0 from rfl))) (fun k hk R hn hr he=>?_)
   ·rcases qH k x.ch.length with h9|h9
    ·obtain⟨c,hc⟩:∃c,x.ch[k]? =some c:=⟨_,qB h9⟩;have gM:=qE hc;have hcb:=hch c gM;have hcd:=d2 c gM;have hrow:i_ (sets g pl).length ((x.ch.take k).foldl F B):=by
      refine ni (i_ (sets g pl).length) _ _ x5 fun B' c' _ iY=>?_;rw[←hF];exact ue t2 f _ _ _ _ iY
     have b_:=ih c.toNat reach p ((x.ch.take k).foldl F B) om om hrl b9 om Gk hcap hrow;rw[show((c.toNat:Nat):Int)=c by omega,show dp g ot pl own f c.toNat reach p ((x.ch.take k).foldl F B)=(x.ch.take (k+1)).foldl F B by rw[UM F x.ch B hc,←hF]]at b_;have CD:vs[k]? =some (bD g ot pl own f c.toNat reach p):=by rw[←hvs,qU,hc];rfl
     obtain⟨g1,g2⟩:=UL CD;generalize bD g ot pl own f c.toNat reach p=n at b_ CD g1 g2;simp only[d9,nodes,rows,ints]at b_;refine aB (bf @d9.eq_1 @nodes.eq_1 hc (dt ((k:Int)<(x.ch.length:Int)))) ?_;refine Fx b_ [1000000000] (aP ?_);refine⟨fun h0=>⟨fun h1=>?_,fun h1=>?_⟩,fun h0=>?_⟩
     ·rw[if_pos (.inr h1)]at g1 g2;exact hn _ (k+1) (aq [11,1000000000] (ay (aw h9 om) g1 g2))
     ·rw[if_neg (by rintro(h|h);(· rw[h]at h0;simp at h0);(· exact h1 h))]at g1 g2;exact hn _ (k+1) (aq [11,1000000000] (ay (aw h9 om) g1 g2))
     ·rw[if_pos (.inl (sU h0))]at g1 g2;exact hn _ (k+1) (aq [11,1000000000] (ay (aw h9 om) g1 g2))
    ·refine aa (ay @d9.eq_1 @nodes.eq_1 (dF ((k:Int)<(x.ch.length:Int)))) ?_;refine he _ _ (ab ?_);have qT:k=x.ch.length:=om;have bf3:1<=x.ch.length:=((eJ (t2 _ _ hx)).2.2.2.2.1 h2).2;have kh:=Cg vs k om;have hge:dO.go k vs=dO vs:=(by rw[zr,hvl,qT]);rw[fe,List.length_replicate];refine⟨om,om,om,om,om,?_⟩;rw[show x.ch.take k=x.ch by rw[qT,rT]];refine⟨_,wO 1000000000 6 500,bP ?_⟩;have eE:=UQ (pl:=pl) hg hi (by rw[dM];exact h3) hown;have LO:i_ (sets g pl).length (x.ch.foldl F B):=by
      refine ni (i_ (sets g pl).length) _ _ x5 fun B' c' _ iY=>?_;rw[←hF];exact ue t2 f _ _ _ _ iY
     have hslt:=Cj (pl:=pl) hi hown (by rw[dM];exact h3);have bf4:=LO.1;refine V eE (aB @a_.eq_1 ?_);refine⟨_,aj.DV Tryz.prog Ew (sl 120) (sl 121) rfl rfl rfl rfl dc sA,ab ?_⟩;refine⟨?_,?_⟩
     ·rw[List.map_set,ae,List.map_set,List.map_replicate,hge]
     ·rw[o9,if_neg om,hge]
  ·have h3:x.p≠pl:=sU h3;have jy:x.p=1-pl:=by
    obtain⟨⟨q1,q2⟩,_⟩:=eJ (t2 _ _ hx);omega
   have dm:(g.nd.getD i av).p=1-pl:=by rw[dM];exact jy
   generalize hF:(fun(B:LL) (k:Nat)=>dp g ot pl own f (x.ch.getD k 0).toNat (da g ot pl i reach k) (p-1) B)=F at oA;generalize hG:(fun k=>bD g ot pl own f (x.ch.getD k 0).toNat (da g ot pl i reach k) (p-1))=G at x6;rw[oA h2 h3,x6 h2 h3];refine lN (fun k=>St.of [(0,.own 1000000000),(1,.t (.i i)),(2,.t (.i own)),(3,.t (ints reach)),(4,.t (.i p)),(11,.own 11),(22,.t (.i (az ((List.range k).map G)))),(23,.t (.i k))] [(11,.box [.i x.p,.i x.a,.i x.b,.i x.f,ints x.ch]),(1000000000,d9 g ot pl ((List.range k).foldl F B))]) (fun k=>k<=x.ch.length) (fun k=>x.ch.length-k) 0 (aq [11,1000000000] (ah @List.range_zero (show az []=0 from rfl))) (fun k hk R hn hr he=>?_)
   ·rcases qH k x.ch.length with h9|h9
    ·obtain⟨c,hc⟩:∃c,x.ch[k]? =some c:=⟨_,qB h9⟩;refine aa (ay @d9.eq_1 @nodes.eq_1 (dt ((k:Int)<(x.ch.length:Int)))) ?_;have hnl:(da g ot pl i reach k).length=reach.length:=ud _ _ _ _ _ _;refine lN (fun b=>St.of [(0,.own 1000000000),(1,.t (.i i)),(2,.t (.i own)),(3,.t (ints reach)),(4,.t (.i p)),(11,.own 11),(22,.t (.i (az ((List.range k).map G)))),(23,.t (.i k)),(24,.own 77),(25,.t (.i b))] [(11,.box [.i x.p,.i x.a,.i x.b,.i x.f,ints x.ch]),(77,.arr 1 (((da g ot pl i reach k).take b).map T.i)),(1000000000,d9 g ot pl ((List.range k).foldl F B))]) (fun b=>b<=reach.length) (fun b=>reach.length-b) 0 (aq [11,143,1000000000] (ay @List.take_zero.{0} @d9.eq_1 @nodes.eq_1)) (fun b hb R2 hn2 cP cL=>?_)
     ·rcases qH b reach.length with h8|h8
      ·obtain⟨y,hy⟩:∃y,reach[b]? =some y:=⟨_,qB h8⟩;refine aa (bf @d9.eq_1 @nodes.eq_1 hy (dt ((b:Int)<(reach.length:Int)))) ?_;obtain⟨o1,o2,o3⟩:=bT i b hi om dm;obtain⟨r,fE⟩:∃r,ot[el g (1-pl) i b]? =some r:=by
        cases h:ot[el g (1-pl) i b]? with
        |some r=>exact⟨r,rfl⟩
        |none=>
         rw[partsOf,qA,h,dM]at o1;simp at o1;omega
       have CE:partsOf g ot (1-pl) i b=r:=by rw[partsOf,qA,fE];rfl
       rw[CE]at o1 o2;rw[dM]at o1;obtain⟨y2,hy2⟩:∃y2,r[k]? =some y2:=⟨_,qB om⟩;have x7:=o2 y2 (qE hy2);refine⟨om,om,om,?_⟩;rw[wrap64 (n:=1-pl) om om];refine V (UQ (pl:=1-pl) (c:=b) hg hi dm om) (aa (ah fE hy2) ?_);have hslt:=(qK.1 fE).1;have fC:0<=y/\y<=41990400000:=by
        have h1:=LK b9 b;rw[qA,hy]at h1;have h2:=nV p;have h3:=oZ b9;have h4:=Int.mul_le_mul_of_nonneg_left (show(1:Int)<=pw p by omega) h3;unfold kD at hcap;simp only[Option.getD_some]at h1;omega
       have g_:=Int.mul_nonneg fC.1 x7.1;have hm2:y*y2<=41990400000*60:=Int.mul_le_mul fC.2 x7.2 x7.1 dc;have i7:(da g ot pl i reach k)[b]? =some (y*y2):=by
        rw[da,qU,List.getElem?_range om,Option.map_some,CE,qA,hy,qA,hy2];rfl
       refine⟨om,om,om,om,om,om,by rw[qL];omega,hn2 _ (b+1) (aq [11,179,1000000000] (ay @d9.eq_1 @nodes.eq_1 (aw h8 om)) (hr:=?_))⟩
       ·refine rB (rI ?_ (rB trivial));rw[bG i7,qG,wrap64 (n:=y*y2) om om];exact .refl _
      ·refine aa (ay @d9.eq_1 @nodes.eq_1 (dF ((b:Int)<(reach.length:Int)))) ?_;refine cL _ _ (ab ?_);have l8:b=reach.length:=om;have uv:(da g ot pl i reach k).take b=da g ot pl i reach k:=qQ om;rw[uv];refine⟨_,wT (wS 77) (aj.o [(0,.own 1000000000),(1,.t (.i i)),(2,.t (.i own)),(3,.t (ints reach)),(4,.t (.i p)),(11,.own 11),(22,.t (.i (az ((List.range k).map G)))),(23,.t (.i k)),(24,.t (ints (da g ot pl i reach k)))] [(11,.box [.i x.p,.i x.a,.i x.b,.i x.f,ints x.ch]),(1000000000,d9 g ot pl ((List.range k).foldl F B))] [some 11,some 1000000000] ?_ ?_),?_⟩
       ·refine bZ (c5 @zA @d9.eq_1 @nodes.eq_1 @zB @T.pv @List.map_map.{0,0,0}) ?_;exact .inr (.inl rfl)
       ·exact rB (rB trivial)
       ·refine aB (ay @d9.eq_1 @nodes.eq_1 hc) ?_;have hp1:1<=p:=om;obtain⟨p',rfl⟩:∃p',p=p'+1:=⟨p-1,om⟩;have gM:=qE hc;have hcb:=hch c gM;have hcd:=d2 c gM;have CF:x.ch.getD k 0=c:=by rw[qA,hc];rfl
        have CG:∀j,j<x.ch.length-> -dC<=G j/\G j<=dC:=fun j hj=>by
         have CH:=k9 (0:Int) hj;have hjb:=hch _ CH;have LP:=d2 _ CH;rw[←hG];exact Gj t2 aM bT om (by rw[ud];exact hrl) (xT bT hi hrl dm b9 j) om (Gi bT hi hrl dm b9 hcap (by rw[dM];exact hj))
        have hs1:=x4 (G:=G) (c:=dC) (n:=k) fun j hj=>CG j om;have aW:=CG k h9;have CB:dC=4199040000000:=rfl;have hk4:(k:Int)*dC<=4*dC:=Int.mul_le_mul_of_nonneg_right om dc;have hrow:i_ (sets g pl).length ((List.range k).foldl F B):=by
         refine ni (i_ (sets g pl).length) _ _ x5 fun B' c' _ iY=>?_;rw[←hF];exact ue t2 f _ _ _ _ iY
        have b_:=ih c.toNat (da g ot pl i reach k) p' ((List.range k).foldl F B) om om om (xT bT hi hrl dm b9 k) om om (Gi bT hi hrl dm b9 hcap (by rw[dM];omega)) hrow;rw[show((c.toNat:Nat):Int)=c by omega,show dp g ot pl own f c.toNat (da g ot pl i reach k) p' ((List.range k).foldl F B)=(List.range (k+1)).foldl F B by rw[List.range_succ,List.foldl_append,←hF,List.foldl_cons,List.foldl_nil];simp only[CF,Nat.add_sub_cancel],show bD g ot pl own f c.toNat (da g ot pl i reach k) p'=G k by rw[←hG];simp only[CF,Nat.add_sub_cancel]]at b_;have px:az ((List.range (k+1)).map G)=az ((List.range k).map G)+G k:=(by rw[List.range_succ,qG,List.map_cons,List.map_nil,vJ]);simp only[d9,nodes,rows,ints]at b_;rw[wrap64 (n:=((p'+1:Nat):Int)-1) om om,show((p'+1:Nat):Int)-1=(p':Int) by omega];refine Fx b_ [1000000000] (aP ?_);refine hn _ (k+1) (aq [11,1000000000] (bM @d9.eq_1 @nodes.eq_1 (aw h9 om) px (wrap64 (n:=az ((List.range k).map G)+G k) om om)) (hr:=?_))
        ·refine rB (rI ?_ trivial);rw[List.range_succ];exact .refl _
    ·refine aa (ay @d9.eq_1 @nodes.eq_1 (dF ((k:Int)<(x.ch.length:Int)))) ?_;refine he _ _ (ab ?_);rw[show k=x.ch.length by omega];exact⟨rfl,rfl⟩
end
def vP(g:Gm)(s t:LL)(pl:Int)(own c f i p:Nat):Int:=if pl=0 then val g s t f i own c p else -val g s t f i c own p
def CJ(pl:Int)(s t:LL):LL:=if pl=0 then s else t
def iD(pl:Int)(s t:LL):LL:=if pl=0 then t else s
def Gn(F:Int->Int->Int):∀(l m:LI),l.length=m.length->az (List.zipWith F l m)=az ((List.range m.length).map fun k=>F (l.getD k 0) (m.getD k 0))
 |[],[],_=>rfl
 |x::l,y::m,h=>by
  rw[List.zipWith_cons_cons,az,Gn F l m (sU h),List.length_cons,List.range_succ_eq_map,List.map_cons,List.map_map,az];rfl
def UR{s:LL}(h:(g.nd.getD i av).p=2):vP g s t pl own c (f+1) i p=i8 g pl i own c*pw p:=by
 unfold vP i8;split
 ·rw[val];(try simp only[]);rw[if_pos h]
 ·rw[val];(try simp only[]);rw[if_pos h,Int.neg_mul]
def LQ{α:Type}(F:α->Int)(l:List α):az (l.map fun x=> -F x)= -az (l.map F):=by
 have:=k_ F (-1) l;rw[Int.neg_one_mul]at this;rw[←this];exact iR fun x _=>by rw[Int.neg_one_mul]
def Gp{s:LL}(aK:fQ g.nd)(aM:pl=0∨pl=1)(hi:i<g.nd.length)(h2:(g.nd.getD i av).p≠2){q:LI}(hq:q=if(g.nd.getD i av).p=pl then partsOf g (CJ pl s t) pl i own else partsOf g (iD pl s t) (1-pl) i c)(hl:q.length=(g.nd.getD i av).ch.length):
  vP g s t pl own c (f+1) i p=az ((List.range (g.nd.getD i av).ch.length).map fun k=>q.getD k 0*vP g s t pl own c f ((g.nd.getD i av).ch.getD k 0).toNat (p-1)):=by
 have hx:g.nd[i]? =some (g.nd.getD i av):=by rw[qA,qB hi];rfl
 obtain⟨⟨q1,q2⟩,_⟩:=eJ (aK i _ hx);unfold vP;rcases aM with rfl|rfl
 ·rw[if_pos rfl,val]
  (try simp only[])
  rw[if_neg h2];have e:(if(g.nd.getD i av).p=0 then partsOf g s 0 i own else partsOf g t 1 i c)=q:=by rw[hq];rfl
  rw[e,Gn _ _ _ hl];rfl
 ·rw[if_neg dc,val]
  (try simp only[])
  rw[if_neg h2];have e:(if(g.nd.getD i av).p=0 then partsOf g s 0 i c else partsOf g t 1 i own)=q:=by
   rw[hq];by_cases h1:(g.nd.getD i av).p=1
   ·rw[if_pos h1,if_neg om];rfl
   ·rw[if_neg h1,if_pos om];rfl
  rw[e,Gn _ _ _ hl,←LQ];refine iR fun k _=>?_;rw[if_neg dc,Int.mul_neg]
def US(l:LI):∀n k,k<n->l.getD k 0<=l.getD (dO.go n l) 0
 |0,k,h=>absurd h om
 |1,k,h=>by
  have:k=0:=om;subst this;exact Int.le_refl _
 |n+2,k,h=>by
  rw[Cf,if_neg om];have ih:=US l (n+1);split
  ·rename_i h1;by_cases hk:k=n+1
   ·rw[hk];exact Int.le_refl _
   ·have:=ih k om;omega
  ·rename_i h1;by_cases hk:k=n+1
   ·rw[hk];omega
   ·exact ih k om
def bf5{l:LI}(h:k<l.length):l.getD k 0<=l.getD (dO l) 0:=by
 rw[zr];exact US l _ k h
def CK{α:Type}{F G:α->Int}:∀{l:List α},(∀x∈l,F x<=G x)->az (l.map F)<=az (l.map G)
 |[],_=>Int.le_refl _
 |x::l,h=>by
  have h1:=h x sA;have h2:=CK (l:=l) fun y hy=>h y (by simp[hy]);rw[List.map_cons,List.map_cons,az,az];omega
def UT(F:Int->Int){l:LI}(hk:k<l.length):(l.map F).getD k 0=F (l.getD k 0):=by
 rw[qA,qU,qA,qB hk];rfl
def Gq{g:Gm}{s t:LL}{pl:Int}{own:Nat}(aK:fQ g.nd)(aM:pl=0∨pl=1)(hm:dv g (CJ pl s t) pl)(bT:dv g (iD pl s t) (1-pl))(hown:own<g.w.length):∀(f i:Nat) (reach:LI) (p:Nat),i<g.nd.length->reach.length=g.w.length->(∀x∈reach,0<=x)->dep g.nd f i<=p→
  az ((List.range reach.length).map fun c=>reach.getD c 0*vP g s t pl own c f i p)<=bD g (iD pl s t) pl own f i reach p
 |0,i,reach,p,_,_,_,_=>by
  have:az ((List.range reach.length).map fun c=>reach.getD c 0*vP g s t pl own c 0 i p)=az ((List.range reach.length).map fun _=>0):=iR fun c _=>by
   have:vP g s t pl own c 0 i p=0:=by unfold vP val;split<;>rfl
   rw[this,Int.mul_zero]
  rw[this,F0,bD];exact Int.le_refl _
 |f+1,i,reach,p,hi,hr,h0,hd=>by
  rw[bD]
  (try simp only[])
  have hx:g.nd[i]? =some (g.nd.getD i av):=by rw[qA,qB hi];rfl
  have hch:=k8 (aK i _ hx);obtain⟨⟨q1,q2⟩,_⟩:=eJ (aK i _ hx);have AO:∀c,0<=reach.getD c 0:=fun c=>by
   rw[qA];cases hc:reach[c]? with
   |none=>simp
   |some x=>exact h0 x (qE hc)
  by_cases h2:(g.nd.getD i av).p=2
  ·rw[if_pos h2];have e:az ((List.range reach.length).map fun c=>reach.getD c 0*vP g s t pl own c (f+1) i p)=az ((List.range reach.length).map fun c=>pw p*(reach.getD c 0*i8 g pl i own c)):=iR fun c _=>by
    rw[UR h2,←Int.mul_assoc,Int.mul_comm]
   rw[e,k_,Int.mul_comm];exact Int.le_refl _
  ·rw[if_neg h2];obtain⟨d1,d2⟩:=sQ (f:=f) h2;obtain⟨p',rfl⟩:∃p',p=p'+1:=⟨p-1,om⟩;have o_:∀k,k<(g.nd.getD i av).ch.length->((g.nd.getD i av).ch.getD k 0).toNat<g.nd.length/\dep g.nd f ((g.nd.getD i av).ch.getD k 0).toNat<=p':=fun k hk=>by
    have hmem:=k9 0 hk;have h1:=hch _ hmem;have h3:=d2 _ hmem;exact⟨om,om⟩
   by_cases h3:(g.nd.getD i av).p=pl
   ·rw[if_pos h3];obtain⟨m1,m2,m3⟩:=hm i own hi hown h3;generalize hq:partsOf g (CJ pl s t) pl i own=q at m1 m2 m3;have e1:az ((List.range reach.length).map fun c=>reach.getD c 0*vP g s t pl own c (f+1) i (p'+1))=az ((List.range reach.length).map fun c=>az ((List.range (g.nd.getD i av).ch.length).map fun k=>reach.getD c 0*(q.getD k 0*vP g s t pl own c f ((g.nd.getD i av).ch.getD k 0).toNat p'))):=iR fun c _=>by
     rw[Gp aK aM hi h2 (q:=q) (by rw[if_pos h3,hq]) m1,k_];rfl
    rw[e1,zt];have e2:az ((List.range (g.nd.getD i av).ch.length).map fun k=>az ((List.range reach.length).map fun c=>reach.getD c 0*(q.getD k 0*vP g s t pl own c f ((g.nd.getD i av).ch.getD k 0).toNat p')))=az ((List.range (g.nd.getD i av).ch.length).map fun k=>q.getD k 0*az ((List.range reach.length).map fun c=>reach.getD c 0*vP g s t pl own c f ((g.nd.getD i av).ch.getD k 0).toNat p')):=iR fun k _=>by
     rw[←k_];refine iR fun c _=>?_;rw[←Int.mul_assoc,Int.mul_comm (reach.getD c 0),Int.mul_assoc]
    rw[e2];generalize hB:((g.nd.getD i av).ch.map fun c=>bD g (iD pl s t) pl own f c.toNat reach (p'+1)).getD (dO ((g.nd.getD i av).ch.map fun c=>bD g (iD pl s t) pl own f c.toNat reach (p'+1))) 0=B;have hle:∀k,k<(g.nd.getD i av).ch.length->60*az ((List.range reach.length).map fun c=>reach.getD c 0*vP g s t pl own c f ((g.nd.getD i av).ch.getD k 0).toNat p')<=B:=fun k hk=>by
     obtain⟨k1,k2⟩:=o_ k hk;have h4:=Gq aK aM hm bT hown f _ reach p' k1 hr h0 k2;have h5:=xS (g:=g) (ot:=iD pl s t) (pl:=pl) (own:=own) f ((g.nd.getD i av).ch.getD k 0).toNat reach p' k2;have h6:=bf5 (l:=(g.nd.getD i av).ch.map fun c=>bD g (iD pl s t) pl own f c.toNat reach (p'+1)) (k:=k) (sU hk);rw[hB]at h6;have h7:=UT (fun c=>bD g (iD pl s t) pl own f c.toNat reach (p'+1)) hk;rw[h7]at h6;omega
    have sf:=CK (l:=List.range (g.nd.getD i av).ch.length) (F:=fun k=>60*(q.getD k 0*az ((List.range reach.length).map fun c=>reach.getD c 0*vP g s t pl own c f ((g.nd.getD i av).ch.getD k 0).toNat p'))) (G:=fun k=>B*q.getD k 0) fun k hk=>by
     have hk:=List.mem_range.1 hk;have LR:0<=q.getD k 0:=by
      rw[qA,qB om];exact(m2 _ (rJ _)).1
     have:=Int.mul_le_mul_of_nonneg_left (hle k hk) LR;rw[Int.mul_comm B,←Int.mul_assoc,Int.mul_comm 60,Int.mul_assoc];exact this
    rw[k_,k_,←m1,zu,m3]at sf;rw[m1]at sf;omega
   ·rw[if_neg h3];have hp1:(g.nd.getD i av).p=1-pl:=om;have LS:=fun c (hc:c<g.w.length)=>bT i c hi hc hp1;have e1:az ((List.range reach.length).map fun c=>reach.getD c 0*vP g s t pl own c (f+1) i (p'+1))=az ((List.range reach.length).map fun c=>az ((List.range (g.nd.getD i av).ch.length).map fun k=>reach.getD c 0*((partsOf g (iD pl s t) (1-pl) i c).getD k 0*vP g s t pl own c f ((g.nd.getD i av).ch.getD k 0).toNat p'))):=iR fun c hc=>by
     have hc:=List.mem_range.1 hc;rw[Gp aK aM hi h2 (q:=partsOf g (iD pl s t) (1-pl) i c) (by rw[if_neg h3]) (LS c om).1,k_];rfl
    rw[e1,zt];refine CK fun k hk=>?_;have hk:=List.mem_range.1 hk;obtain⟨k1,k2⟩:=o_ k hk;have h4:=Gq aK aM hm bT hown f ((g.nd.getD i av).ch.getD k 0).toNat (da g (iD pl s t) pl i reach k) p' k1 (by rw[ud,hr]) (xT bT hi hr hp1 h0 k) k2;rw[ud]at h4;refine Int.le_trans (Int.le_of_eq (iR fun c hc=>?_)) h4;have hc:=List.mem_range.1 hc;have:(da g (iD pl s t) pl i reach k).getD c 0=reach.getD c 0*(partsOf g (iD pl s t) (1-pl) i c).getD k 0:=by
     unfold da;rw[qA,qU,List.getElem?_range hc];rfl
    rw[this,Int.mul_assoc]
def jJ(g:Gm)(s t:LL):Int:=az ((List.range g.w.length).map fun a=>az ((List.range g.w.length).map fun b=>(g.w.getD a []).getD b 0*val g s t g.nd.length 0 a b (eD g)))
def zO(g:Gm):((eD g:Nat):Int)=dep g.nd g.nd.length 0:=by
 have:=(FV (l:=g.nd) g.nd.length 0).1;unfold eD;omega
def LU(hc:c<g.w.length):(fj g pl own).getD c 0=if pl=0 then(g.w.getD own []).getD c 0 else(g.w.getD c []).getD own 0:=by
 unfold fj;rw[qA,qU,List.getElem?_range hc];rfl
def bf6{s:LL}(hg:bR g=true)(hs:dv g s 0)(ht:dv g t 1):jJ g s t<=fY g t 0 g.w.length:=by
 obtain⟨ht1,hk,hw,_,_,_⟩:=vK hg;obtain⟨hn,aK,_,_⟩:=fX ht1;unfold jJ fY;refine CK fun a ha=>?_;have ha:=List.mem_range.1 ha;have h:=Gq (s:=s) (t:=t) (pl:=0) (own:=a) aK (.inl rfl) hs ht ha g.nd.length 0 (fj g 0 a) (eD g) om (sR g 0 a) (fun x hx=>(K0 hw 0 a x hx).1) (by rw[zO];exact Int.le_refl _);rw[sR]at h;refine Int.le_trans (Int.le_of_eq (iR fun b hb=>?_)) h;have hb:=List.mem_range.1 hb;rw[LU hb,if_pos rfl];unfold vP;rw[if_pos rfl]
def bf7{s:LL}(hg:bR g=true)(hs:dv g s 0)(ht:dv g t 1): -fY g s 1 g.w.length<=jJ g s t:=by
 obtain⟨ht1,hk,hw,_,_,_⟩:=vK hg;obtain⟨hn,aK,_,_⟩:=fX ht1;have key: -jJ g s t<=fY g s 1 g.w.length:=by
  unfold jJ fY;rw[zt,←LQ];refine CK fun b hb=>?_;have hb:=List.mem_range.1 hb;have h:=Gq (s:=s) (t:=t) (pl:=1) (own:=b) aK (.inr rfl) ht hs hb g.nd.length 0 (fj g 1 b) (eD g) om (sR g 1 b) (fun x hx=>(K0 hw 1 b x hx).1) (by rw[zO];exact Int.le_refl _);rw[sR]at h;rw[←LQ];refine Int.le_trans (Int.le_of_eq (iR fun a ha=>?_)) h;have ha:=List.mem_range.1 ha;rw[LU ha,if_neg dc];unfold vP;rw[if_neg dc,Int.mul_neg]
 omega
def ms(l:List Nd)(i j:Nat):Prop:=i<l.length/\(l.getD i av).p≠2/\(j:Int)∈(l.getD i av).ch
inductive iS (l:List Nd):Nat->Nat->Prop
 |refl (i:Nat):iS l i i
 |step {i j k:Nat}:iS l i j->ms l j k->iS l i k
def zP(h:fQ l)(hk:ms l i j):i<j/\j<l.length:=by
 obtain⟨h1,h2,h3⟩:=hk;have hx:l[i]? =some (l.getD i av):=by rw[qA,qB h1];rfl
 have:=k8 (h i _ hx) _ h3;omega
def iS.le(h:fQ l)(hr:iS l i j):i<=j:=by
 induction hr with
 |refl=>exact qR _
 |step _ hk ih=>have:=zP h hk;omega
def UU(hk:ms l i j):1<=cg j [l.getD i av]:=by
 obtain⟨h1,h2,h3⟩:=hk;have:=List.count_pos_iff.2 h3;simp only[cg,List.map_cons,List.map_nil,if_neg h2,rZ,List.sum_nil];omega
def CL(c:Nat)(l l':List Nd):cg c (l++l')=cg c l+cg c l':=by simp[cg]
def UV{i':Nat}(hii:i<i')(h:ms l i j)(h':ms l i' j):2<=cg j l:=by
 have hl':i'<l.length:=h'.1;have hl:i<l.length:=h.1;have e1:l=l.take i'++(l.getD i' av)::l.drop (i'+1):=by
  have:l.getD i' av=l[i']'hl':=by simp[qB hl']
  rw[this,←List.drop_eq_getElem_cons hl',List.take_append_drop]
 have bq:i<(l.take i').length:=by rw[qL];omega
 have e2:l.take i'=(l.take i').take i++(l.getD i av)::(l.take i').drop (i+1):=by
  have:l.getD i av=(l.take i')[i]'bq:=by simp[List.getElem_take,qB hl]
  rw[this,←List.drop_eq_getElem_cons bq,List.take_append_drop]
 have o1:=UU h;have o2:=UU h';have e3:cg j (l.getD i' av::l.drop (i'+1))=cg j [l.getD i' av]+cg j (l.drop (i'+1)):=CL j [_] _;have e4:cg j (l.getD i av::(l.take i').drop (i+1))=cg j [l.getD i av]+cg j ((l.take i').drop (i+1)):=CL j [_] _;have e5:cg j l=cg j (l.take i')+cg j (l.getD i' av::l.drop (i'+1)):=by
  conv=>lhs;rw[e1]
  exact CL _ _ _
 have e6:cg j (l.take i')=cg j ((l.take i').take i)+cg j (l.getD i av::(l.take i').drop (i+1)):=by
  conv=>lhs;rw[e2]
  exact CL _ _ _
 omega
def LW(h:fQ l)(ho:∀i,i<l.length->i=0∨cg i l=1){i':Nat}(hk:ms l i j)(hk':ms l i' j):i=i':=by
 have hj:=zP h hk;have h1:=(ho j hj.2).resolve_left om;rcases Nat.lt_trichotomy i i' with h2|h2|h2
 ·have:=UV h2 hk hk';omega
 ·exact h2
 ·have:=UV h2 hk' hk;omega
def iS.up(hr:iS l i j):j=i∨∃m,iS l i m/\ms l m j:=by
 cases hr with
 |refl=>exact .inl rfl
 |step h hk=>exact .inr ⟨_,h,hk⟩
def iS.apart(h:fQ l)(ho:∀i,i<l.length->i=0∨cg i l=1){c1 c2:Nat}(k1:ms l i c1)(k2:ms l i c2)(h1:iS l c1 j)(h2:iS l c2 j):c1=c2:=by
 induction h1 with
 |refl=>
  rcases h2.up with e|⟨m,hm,hk⟩
  ·exact e
  ·have:=LW h ho k1 hk;subst this;have:=hm.le h;have:=zP h k2;omega
 |step hj hk ih=>
  rcases h2.up with e|⟨m,hm,hk2⟩
  ·subst e;have:=LW h ho k2 hk;subst this;have:=hj.le h;have:=zP h k1;omega
  ·have:=LW h ho hk hk2;subst this;exact ih hm
def UW{c:Nat}:∀{l:List Nd},1<=cg c l->∃i,ms l i c
 |[],h=>by simp[cg]at h
 |x::l,h=>by
  have e:cg c (x::l)=cg c [x]+cg c l:=CL c [x] l;by_cases h1:1<=cg c l
  ·obtain⟨i,h2,h3,h4⟩:=UW h1;exact⟨i+1,sU h2,h3,h4⟩
  ·have h2:1<=cg c [x]:=(by omega);simp only[cg,List.map_cons,List.map_nil]at h2;by_cases hp:x.p=2
   ·rw[if_pos hp]at h2;simp at h2
   ·rw[if_neg hp]at h2;exact⟨0,sA,hp,List.count_pos_iff.1 (sU h2)⟩
def UX{l:List Nd}(h:fQ l)(ho:∀i,i<l.length->i=0∨cg i l=1):∀n j,j<n->j<l.length->iS l 0 j
 |0,j,hj,_=>absurd hj om
 |n+1,j,hj,hjl=>by
  rcases ho j hjl with rfl|h1
  ·exact .refl 0
  ·obtain⟨i,hk⟩:=UW (c:=j) (l:=l) om;have:=zP h hk;exact .step (UX h ho n i om om) hk
def UY(l:List Nd)(pl:Int)(hij:i<j)(hp:(l.getD i av).p=pl):(idxs l pl i).length<(idxs l pl j).length:=by
 obtain⟨rest,e⟩:=zy l pl hp j hij;rw[e];simp
def LX{d:Nat}(hi:(g.nd.getD i av).p=pl)(hj:(g.nd.getD j av).p=pl)(hc:c<g.w.length)(hd:d<g.w.length)(h:el g pl i c=el g pl j d):i=j/\c=d:=by
 unfold el at h;have key:∀{a b c d k:Nat},c<k->d<k->a<b->a*k+c=b*k+d->False:=by
  intro a b c d k hc hd hab h;have:(a+1)*k<=b*k:=Nat.mul_le_mul_right k hab;rw[Nat.add_mul]at this;omega
 rcases Nat.lt_trichotomy i j with h1|h1|h1
 ·exact(key hc hd (UY g.nd pl h1 hi) h).elim
 ·subst h1;exact⟨rfl,om⟩
 ·exact(key hd hc (UY g.nd pl h1 hj) h.symm).elim
def pa(n k:Nat):LI:=(List.replicate n 0).set k 60
def CM{g:Gm}{ot:LL}{pl:Int}{own:Nat}(e:Nat):∀(f i:Nat) (reach:LI) (p:Nat) (B:LL),i<g.nd.length->fQ g.nd->(∀j,iS g.nd i j->(g.nd.getD j av).p=pl->el g pl j own≠e)->(dp g ot pl own f i reach p B)[e]? =B[e]?
 |0,i,reach,p,B,_,_,_=>rfl
 |f+1,i,reach,p,B,hi,aK,h=>by
  rw[dp]
  (try simp only[])
  have hx:g.nd[i]? =some (g.nd.getD i av):=by rw[qA,qB hi];rfl
  have hch:=k8 (aK i _ hx);by_cases h2:(g.nd.getD i av).p=2
  ·rw[if_pos h2]
  ·rw[if_neg h2];have o_:∀c∈(g.nd.getD i av).ch,ms g.nd i c.toNat:=fun c hc=>⟨hi,h2,by have:=hch c hc;rw[show((c.toNat:Nat):Int)=c by omega];exact hc⟩;have hsub:∀c∈(g.nd.getD i av).ch,∀j,iS g.nd c.toNat j->iS g.nd i j:=fun c hc j hj=>by
    induction hj with
    |refl=>exact .step (.refl i) (o_ c hc)
    |step _ hk ih=>exact .step ih hk
   by_cases h3:(g.nd.getD i av).p=pl
   ·rw[if_pos h3,List.getElem?_set_ne (h i (.refl i) h3)];exact ni (fun B':LL=>B'[e]? =B[e]?) _ _ rfl fun B' c hc iY=>by
     rw[CM e f c.toNat reach p B' (by have:=hch c hc;omega) aK fun j hj hp=>h j (hsub c hc j hj) hp];exact iY
   ·rw[if_neg h3];exact ni (fun B':LL=>B'[e]? =B[e]?) _ _ rfl fun B' k hk iY=>by
     have hk:=List.mem_range.1 hk;have hm:=k9 0 hk;rw[CM e f _ (da g ot pl i reach k) (p-1) B' (by have:=hch _ hm;omega) aK fun j hj hp=>h j (hsub _ hm j hj) hp];exact iY
def okB(g:Gm)(ot:LL)(pl:Int)(own:Nat):Nat->Nat->LI->Nat->LL->Prop
 |0,_,_,_,_=>True
 |f+1,i,reach,p,B=>
  let x:=g.nd.getD i av
  x.p≠2→
   if x.p=pl then B[el g pl i own]? =some (pa x.ch.length (dO (x.ch.map fun c=>bD g ot pl own f c.toNat reach p)))/\∀c∈x.ch,okB g ot pl own f c.toNat reach p B
   else∀k,k<x.ch.length->okB g ot pl own f (x.ch.getD k 0).toNat (da g ot pl i reach k) (p-1) B
def zQ{g:Gm}{ot:LL}{pl:Int}{own:Nat}(aK:fQ g.nd):∀(f i:Nat) (reach:LI) (p:Nat) (B B':LL),i<g.nd.length->(∀j,iS g.nd i j->(g.nd.getD j av).p=pl->B'[el g pl j own]? =B[el g pl j own]?)->okB g ot pl own f i reach p B->okB g ot pl own f i reach p B'
 |0,i,reach,p,B,B',_,_,_=>trivial
 |f+1,i,reach,p,B,B',hi,h,hok=>by
  rw[okB]at hok ⊢
  (try simp only[]at hok ⊢)
  intro h2;have hok:=hok h2;have hx:g.nd[i]? =some (g.nd.getD i av):=by rw[qA,qB hi];rfl
  have hch:=k8 (aK i _ hx);have o_:∀c∈(g.nd.getD i av).ch,ms g.nd i c.toNat:=fun c hc=>⟨hi,h2,by have:=hch c hc;rw[show((c.toNat:Nat):Int)=c by omega];exact hc⟩;have hsub:∀c∈(g.nd.getD i av).ch,∀j,iS g.nd c.toNat j->iS g.nd i j:=fun c hc j hj=>by
   induction hj with
   |refl=>exact .step (.refl i) (o_ c hc)
   |step _ hk ih=>exact .step ih hk
  by_cases h3:(g.nd.getD i av).p=pl
  ·rw[if_pos h3]at hok ⊢;refine⟨by rw[h i (.refl i) h3];exact hok.1,fun c hc=>?_⟩;exact zQ aK f _ _ _ B B' (by have:=hch c hc;omega) (fun j hj hp=>h j (hsub c hc j hj) hp) (hok.2 c hc)
  ·rw[if_neg h3]at hok ⊢;intro k hk;have hm:=k9 0 hk;exact zQ aK f _ _ _ B B' (by have:=hch _ hm;omega) (fun j hj hp=>h j (hsub _ hm j hj) hp) (hok k hk)
def CN{g:Gm}{ot:LL}{pl:Int}{own:Nat}:∀(f i:Nat) (reach:LI) (p:Nat) (B:LL),(dp g ot pl own f i reach p B).length=B.length
 |0,i,reach,p,B=>rfl
 |f+1,i,reach,p,B=>by
  rw[dp]
  (try simp only[])
  split
  ·rfl
  ·split
   ·rw[List.length_set];exact ni (fun B':LL=>B'.length=B.length) _ _ rfl fun B' c _ iY=>by rw[CN];exact iY
   ·exact ni (fun B':LL=>B'.length=B.length) _ _ rfl fun B' c _ iY=>by rw[CN];exact iY
def Gr{α β:Type}{F:β->α->β}{P:α->β->Prop}(I:β->Prop):∀(l:List α) (b:β),l.Nodup->I b->(∀b x,x∈l->I b->I (F b x)/\P x (F b x))->(∀b x y,x∈l->y∈l->x≠y->I b->P x b->P x (F b y))->I (l.foldl F b)/\∀x∈l,P x (l.foldl F b)
 |[],b,_,hI,_,_=>⟨hI,sA⟩
 |x::l,b,hn,hI,h1,h2=>by
  rw[List.foldl_cons];obtain⟨hx,hn'⟩:=qX.1 hn;obtain⟨i1,p1⟩:=h1 b x sA hI;obtain⟨i2,p2⟩:=Gr I l (F b x) hn' i1 (fun b y hy=>h1 b y (by simp[hy])) (fun b y z hy hz=>h2 b y z (by simp[hy]) (by simp[hz]));refine⟨i2,fun y hy=>?_⟩;rcases qO.1 hy with rfl|hy
  ·have key:∀(m:List α) (b:β),(∀z∈m,z∈l)->I b->P y b->P y (m.foldl F b):=by
    intro m;induction m with
    |nil=>intro b _ _ hp;exact hp
    |cons z m ih=>
     intro b hm hb hp;rw[List.foldl_cons];have hz:=hm z sA;exact ih _ (fun q hq=>hm q (by simp[hq])) (h1 b z (by simp[hz]) hb).1 (h2 b y z sA (by simp[hz]) (fun e=>hx (e▸hz)) hb hp)
   exact key l _ (fun z hz=>hz) i1 p1
  ·exact p2 y hy
def bf8:∀{l:LI},incr l=true->l.Nodup:=by
 have key:∀(l:LI) (a:Int),incr (a::l)=true->(∀x∈l,a<x)/\l.Nodup:=by
  intro l;induction l with
  |nil=>intro a _;simp
  |cons b l ih=>
   intro a h;simp only[incr,qM,decide_eq_true_eq]at h;obtain⟨h1,h2⟩:=ih b h.2;refine⟨fun x hx=>?_,qX.2 ⟨fun hb=>by have:=h1 b hb;omega,h2⟩⟩;rcases qO.1 hx with rfl|hx
   ·exact h.1
   ·have:=h1 x hx;omega
 intro l h;cases l with
 |nil=>simp
 |cons a l=>
  obtain⟨h1,h2⟩:=key l a h;exact qX.2 ⟨fun hb=>by have:=h1 a hb;omega,h2⟩
def bf9(h:fQ l)(hi:i<l.length)(hp:(l.getD i av).p≠2):(l.getD i av).ch.Nodup:=by
 have hx:l[i]? =some (l.getD i av):=by rw[qA,qB hi];rfl
 have h1:=h i _ hx;simp only[hZ,qM,if_neg hp]at h1;exact bf8 h1.2.2
def LY{g:Gm}{ot:LL}{pl:Int}{own:Nat}(aK:fQ g.nd)(ho:∀i,i<g.nd.length->i=0∨cg i g.nd=1)(hown:own<g.w.length):∀(f i:Nat) (reach:LI) (p:Nat) (B:LL),i<g.nd.length->B.length=(sets g pl).length->okB g ot pl own f i reach p (dp g ot pl own f i reach p B)
 |0,i,reach,p,B,_,_=>trivial
 |f+1,i,reach,p,B,hi,hB=>by
  rw[dp,okB]
  (try simp only[])
  intro h2;rw[if_neg h2];have hx:g.nd[i]? =some (g.nd.getD i av):=by rw[qA,qB hi];rfl
  have hch:=k8 (aK i _ hx);have AS:=bf9 aK hi h2;have o_:∀c∈(g.nd.getD i av).ch,ms g.nd i c.toNat:=fun c hc=>⟨hi,h2,by have:=hch c hc;rw[show((c.toNat:Nat):Int)=c by omega];exact hc⟩;have Cb:∀c∈(g.nd.getD i av).ch,∀j,iS g.nd c.toNat j->i<j:=fun c hc j hj=>by
   have:=hj.le aK;have:=hch c hc;omega
  have UZ:∀c∈(g.nd.getD i av).ch,∀d∈(g.nd.getD i av).ch,c≠d->∀j j',iS g.nd c.toNat j->iS g.nd d.toNat j'->(g.nd.getD j av).p=pl->(g.nd.getD j' av).p=pl->el g pl j' own≠el g pl j own:=by
   intro c hc d hd hcd j j' h1 cC hp ju he;obtain⟨e,_⟩:=LX ju hp hown hown he;subst e;have:=iS.apart aK ho (o_ c hc) (o_ d hd) h1 cC;have:=hch c hc;have:=hch d hd;omega
  by_cases h3:(g.nd.getD i av).p=pl
  ·rw[if_pos h3,if_pos h3];obtain⟨hl,hall⟩:=Gr (F:=fun B (c:Int)=>dp g ot pl own f c.toNat reach p B) (P:=fun c B=>okB g ot pl own f c.toNat reach p B) (fun B=>B.length=(sets g pl).length) (g.nd.getD i av).ch B AS hB
    (fun B c hc hl=>⟨by rw[CN];exact hl,LY aK ho hown f _ _ _ B (by have:=hch c hc;omega) hl⟩)
    (fun B c d hc hd hcd hl hok=>zQ aK f _ _ _ B _ (by have:=hch c hc;omega) (fun j hj hp=>CM _ f _ _ _ B (by have:=hch d hd;omega) aK fun j' hj' ju=>UZ c hc d hd hcd j j' hj hj' hp ju) hok)
   refine⟨?_,fun c hc=>?_⟩
   ·rw[List.getElem?_set_self (by rw[hl];exact Cj hi hown h3)];rfl
   ·refine zQ aK f _ _ _ _ _ (by have:=hch c hc;omega) (fun j hj hp=>?_) (hall c hc);rw[List.getElem?_set_ne];intro he;obtain⟨e,_⟩:=LX h3 hp hown hown he;have:=Cb c hc j hj;omega
  ·rw[if_neg h3,if_neg h3];obtain⟨hl,hall⟩:=Gr (F:=fun B k=>dp g ot pl own f ((g.nd.getD i av).ch.getD k 0).toNat (da g ot pl i reach k) (p-1) B) (P:=fun k B=>okB g ot pl own f ((g.nd.getD i av).ch.getD k 0).toNat (da g ot pl i reach k) (p-1) B) (fun B=>B.length=(sets g pl).length) (List.range (g.nd.getD i av).ch.length) B List.nodup_range hB
    (fun B k hk hl=>⟨by rw[CN];exact hl,LY aK ho hown f _ _ _ B (by have:=hch _ (k9 0 (List.mem_range.1 hk));omega) hl⟩)
    (fun B k k' hk hk' hkk hl hok=>by
     have hk:=List.mem_range.1 hk;have hk':=List.mem_range.1 hk';have hm:=k9 0 hk;have hm':=k9 0 hk';refine zQ aK f _ _ _ B _ (by have:=hch _ hm;omega) (fun j hj hp=>CM _ f _ _ _ B (by have:=hch _ hm';omega) aK fun j' hj' ju=>UZ _ hm _ hm' (fun e=>hkk ?_) j j' hj hj' hp ju) hok;have e1:(g.nd.getD i av).ch.getD k 0=(g.nd.getD i av).ch[k]:=by rw[qA,qB hk];rfl
     have e2:(g.nd.getD i av).ch.getD k' 0=(g.nd.getD i av).ch[k']:=by rw[qA,qB hk'];rfl
     rw[e1,e2]at e;exact(List.getElem_inj AS).1 e)
   exact fun k hk=>hall k (List.mem_range.2 hk)
def LZ{g:Gm}{ot:LL}{pl:Int}{own:Nat}:∀(f i:Nat) (reach:LI) (p:Nat) (B:LL),dep g.nd f i<=p->okB g ot pl own f i reach (p+1) B->okB g ot pl own f i reach p B
 |0,i,reach,p,B,_,_=>trivial
 |f+1,i,reach,p,B,h,hok=>by
  rw[okB]at hok ⊢
  (try simp only[]at hok ⊢)
  intro h2;have hok:=hok h2;obtain⟨d1,d2⟩:=sQ (f:=f) h2;by_cases h3:(g.nd.getD i av).p=pl
  ·rw[if_pos h3]at hok ⊢;have e:(g.nd.getD i av).ch.map (fun c=>bD g ot pl own f c.toNat reach (p+1))=((g.nd.getD i av).ch.map fun c=>bD g ot pl own f c.toNat reach p).map fun x=>60*x:=by
    rw[List.map_map];exact rW fun c hc=>xS f c.toNat reach p (by have:=d2 c hc;omega)
   rw[e,Ch]at hok;exact⟨hok.1,fun c hc=>LZ f _ _ p B (by have:=d2 c hc;omega) (hok.2 c hc)⟩
  ·rw[if_neg h3]at hok ⊢;obtain⟨p',rfl⟩:∃p',p=p'+1:=⟨p-1,om⟩;exact fun k hk=>LZ f _ _ p' B (by have:=d2 _ (k9 0 hk);omega) (hok k hk)
def bg0(hj:j<n):(pa n j).getD k 0=if k=j then 60 else 0:=by
 unfold pa;rw[qA,List.getElem?_set,List.length_replicate];by_cases h:j=k
 ·subst h;rw[if_pos rfl,if_pos hj,if_pos rfl];rfl
 ·rw[if_neg h,if_neg (Ne.symm h),rM];split<;>rfl
def U0(F:Nat->Int)(j:Nat):∀n,az ((List.range n).map fun k=>(if k=j then 60 else 0)*F k)=if j<n then 60*F j else 0
 |0=>by simp[az]
 |n+1=>by
  rw[List.range_succ,qG,FW,U0 F j n];simp only[List.map_cons,List.map_nil,az,Int.add_zero];by_cases h:n=j
  ·subst h;rw[if_neg om,if_pos rfl,if_pos om];omega
  ·rw[if_neg h,Int.zero_mul,Int.add_zero];by_cases h2:j<n
   ·rw[if_pos h2,if_pos om]
   ·rw[if_neg h2,if_neg om]
def U1(F:Nat->Int)(hj:j<n):az ((List.range n).map fun k=>(pa n j).getD k 0*F k)=60*F j:=by
 have:=U0 F j n;rw[if_pos hj]at this;rw[←this];exact iR fun k _=>by rw[bg0 hj]
def L0(n j:Nat):(pa n j).length=n:=by simp[pa]
def U2(hj:j<n):(∀x∈pa n j,0<=x/\x<=60)/\az (pa n j)=60:=by
 constructor
 ·intro x hx;rcases List.mem_or_eq_of_mem_set hx with h|rfl
  ·have:=(List.mem_replicate.1 h).2;omega
  ·omega
 ·have h:=U1 (fun _=>1) hj;simp only[Int.mul_one]at h;have e:=zu (pa n j);rw[L0]at e;rw[←e];exact h
def L1{g:Gm}{s t:LL}{pl:Int}{own:Nat}(aK:fQ g.nd)(aM:pl=0∨pl=1)(bT:dv g (iD pl s t) (1-pl))(hown:own<g.w.length):∀(f i:Nat) (reach:LI) (p:Nat),i<g.nd.length->reach.length=g.w.length->dep g.nd f i<=p->okB g (iD pl s t) pl own f i reach p (CJ pl s t)→
  az ((List.range reach.length).map fun c=>reach.getD c 0*vP g s t pl own c f i p)=bD g (iD pl s t) pl own f i reach p
 |0,i,reach,p,_,_,_,_=>by
  have:az ((List.range reach.length).map fun c=>reach.getD c 0*vP g s t pl own c 0 i p)=az ((List.range reach.length).map fun _=>0):=iR fun c _=>by
   have:vP g s t pl own c 0 i p=0:=by unfold vP val;split<;>rfl
   rw[this,Int.mul_zero]
  rw[this,F0,bD]
 |f+1,i,reach,p,hi,hr,hd,hok=>by
  rw[bD];rw[okB]at hok
  (try simp only[]at hok ⊢)
  have hx:g.nd[i]? =some (g.nd.getD i av):=by rw[qA,qB hi];rfl
  have hch:=k8 (aK i _ hx);obtain⟨⟨q1,q2⟩,_,_,_,L2,_⟩:=eJ (aK i _ hx);by_cases h2:(g.nd.getD i av).p=2
  ·rw[if_pos h2];have e:az ((List.range reach.length).map fun c=>reach.getD c 0*vP g s t pl own c (f+1) i p)=az ((List.range reach.length).map fun c=>pw p*(reach.getD c 0*i8 g pl i own c)):=iR fun c _=>by
    rw[UR h2,←Int.mul_assoc,Int.mul_comm]
   rw[e,k_,Int.mul_comm]
  ·rw[if_neg h2];have hok:=hok h2;obtain⟨d1,d2⟩:=sQ (f:=f) h2;obtain⟨p',rfl⟩:∃p',p=p'+1:=⟨p-1,om⟩;have o_:∀k,k<(g.nd.getD i av).ch.length->((g.nd.getD i av).ch.getD k 0).toNat<g.nd.length/\dep g.nd f ((g.nd.getD i av).ch.getD k 0).toNat<=p':=fun k hk=>by
    have hmem:=k9 0 hk;have h1:=hch _ hmem;have h3:=d2 _ hmem;exact⟨om,om⟩
   by_cases h3:(g.nd.getD i av).p=pl
   ·rw[if_pos h3]at hok ⊢;obtain⟨U3,FU⟩:=hok;have hne:(g.nd.getD i av).ch.map (fun c=>bD g (iD pl s t) pl own f c.toNat reach (p'+1))≠ []:=by
     intro h;have:=congrArg List.length h;simp at this;have:=(L2 h2).2;simp_all
    have hj:=TK hne;rw[qJ]at hj;generalize ww:dO ((g.nd.getD i av).ch.map fun c=>bD g (iD pl s t) pl own f c.toNat reach (p'+1))=j at U3 hj ⊢;have hq:partsOf g (CJ pl s t) pl i own=pa (g.nd.getD i av).ch.length j:=by unfold partsOf;rw[qA,U3];rfl
    have e1:az ((List.range reach.length).map fun c=>reach.getD c 0*vP g s t pl own c (f+1) i (p'+1))=az ((List.range reach.length).map fun c=>60*(reach.getD c 0*vP g s t pl own c f ((g.nd.getD i av).ch.getD j 0).toNat p')):=iR fun c _=>by
     rw[Gp aK aM hi h2 (q:=pa (g.nd.getD i av).ch.length j) (by rw[if_pos h3,hq]) (L0 _ _),U1 _ hj,←Int.mul_assoc,←Int.mul_assoc,Int.mul_comm _ 60];rfl
    obtain⟨k1,k2⟩:=o_ j hj;rw[e1,k_,L1 aK aM bT hown f _ reach p' k1 hr k2 (LZ f _ _ p' _ k2 (FU _ (k9 0 hj))),←xS f _ reach p' k2];exact(UT (fun c=>bD g (iD pl s t) pl own f c.toNat reach (p'+1)) hj).symm
   ·rw[if_neg h3]at hok ⊢;have hp1:(g.nd.getD i av).p=1-pl:=om;have LS:=fun c (hc:c<g.w.length)=>bT i c hi hc hp1;have e1:az ((List.range reach.length).map fun c=>reach.getD c 0*vP g s t pl own c (f+1) i (p'+1))=az ((List.range reach.length).map fun c=>az ((List.range (g.nd.getD i av).ch.length).map fun k=>reach.getD c 0*((partsOf g (iD pl s t) (1-pl) i c).getD k 0*vP g s t pl own c f ((g.nd.getD i av).ch.getD k 0).toNat p'))):=iR fun c hc=>by
     have hc:=List.mem_range.1 hc;rw[Gp aK aM hi h2 (q:=partsOf g (iD pl s t) (1-pl) i c) (by rw[if_neg h3]) (LS c om).1,k_];rfl
    rw[e1,zt];refine iR fun k hk=>?_;have hk:=List.mem_range.1 hk;obtain⟨k1,k2⟩:=o_ k hk;have h4:=L1 aK aM bT hown f ((g.nd.getD i av).ch.getD k 0).toNat (da g (iD pl s t) pl i reach k) p' k1 (by rw[ud,hr]) k2 (hok k hk);rw[ud]at h4;refine Eq.trans (iR fun c hc=>?_) h4;have hc:=List.mem_range.1 hc;have:(da g (iD pl s t) pl i reach k).getD c 0=reach.getD c 0*(partsOf g (iD pl s t) (1-pl) i c).getD k 0:=by
     unfold da;rw[qA,qU,List.getElem?_range hc];rfl
    rw[this,Int.mul_assoc]
def bg1(h:okB g ot pl own (f+1) i reach p B)(hk:ms g.nd i j):∃reach' p',okB g ot pl own f j reach' p' B:=by
 rw[okB]at h
 (try simp only[]at h)
 obtain⟨h1,h2,h3⟩:=hk;have h:=h h2;by_cases hp:(g.nd.getD i av).p=pl
 ·rw[if_pos hp]at h;exact⟨_,_,h.2 _ h3⟩
 ·rw[if_neg hp]at h;obtain⟨k,hk,e⟩:=rE.1 h3;have:=h k hk;rw[qA,qB hk]at this;simp only[Option.getD_some,e,Int.toNat_natCast]at this;exact⟨_,_,this⟩
def bg2(aK:fQ g.nd)(h:okB g ot pl own f i reach p B)(hf:g.nd.length<=i+f)(hr:iS g.nd i j):∃f' reach' p',g.nd.length<=j+f'/\okB g ot pl own f' j reach' p' B:=by
 induction hr with
 |refl=>exact⟨f,reach,p,hf,h⟩
 |step _ hk ih=>
  obtain⟨f',r',p',h1,h2⟩:=ih;have hl:=zP aK hk;obtain⟨vV,rfl⟩:∃vV,f'=vV+1:=⟨f'-1,by have:=hk.1;omega⟩;obtain⟨r2,p2,h3⟩:=bg1 h2 hk;exact⟨vV,r2,p2,om,h3⟩
def bg3(aK:fQ g.nd)(ho:∀i,i<g.nd.length->i=0∨cg i g.nd=1)(aM:pl=0∨pl=1)(h:∀own,own<g.w.length->okB g ot pl own g.nd.length 0 (fj g pl own) (eD g) B):dv g B pl:=by
 intro i c hi hc hp;obtain⟨f',r',p',h1,h2⟩:=bg2 aK (h c hc) om (UX aK ho (i+1) i om hi);obtain⟨vV,rfl⟩:∃vV,f'=vV+1:=⟨f'-1,om⟩;have hx:g.nd[i]? =some (g.nd.getD i av):=by rw[qA,qB hi];rfl
 obtain⟨_,_,_,_,L2,_⟩:=eJ (aK i _ hx);have hp2:(g.nd.getD i av).p≠2:=om;rw[okB]at h2
 (try simp only[]at h2)
 have h2:=h2 hp2;rw[if_pos hp]at h2;have hne:(g.nd.getD i av).ch.map (fun c'=>bD g ot pl c vV c'.toNat r' p')≠ []:=by
  intro h;have:=congrArg List.length h;simp at this;have:=(L2 hp2).2;simp_all
 have hj:=TK hne;rw[qJ]at hj;have hq:partsOf g B pl i c=pa (g.nd.getD i av).ch.length (dO ((g.nd.getD i av).ch.map fun c'=>bD g ot pl c vV c'.toNat r' p')):=by unfold partsOf;rw[qA,h2.1];rfl
 rw[hq];exact⟨L0 _ _,(U2 hj).1,(U2 hj).2⟩
def L3(aK:fQ g.nd)(hn:1<=g.nd.length)(ho:∀i,i<g.nd.length->i=0∨cg i g.nd=1):(ia g ot pl g.w.length).length=(sets g pl).length/\∀own,own<g.w.length->okB g ot pl own g.nd.length 0 (fj g pl own) (eD g) (ia g ot pl g.w.length):=by
 obtain⟨h1,h2⟩:=Gr (F:=fun B own=>dp g ot pl own g.nd.length 0 (fj g pl own) (eD g) B) (P:=fun own B=>okB g ot pl own g.nd.length 0 (fj g pl own) (eD g) B) (fun B=>B.length=(sets g pl).length) (List.range g.w.length) (List.replicate (sets g pl).length []) List.nodup_range sA
  (fun B own hown hl=>⟨by rw[CN];exact hl,LY aK ho (List.mem_range.1 hown) _ _ _ _ B om hl⟩)
  (fun B own bA3 hown hown' hne hl hok=>zQ aK _ _ _ _ B _ om (fun j hj hp=>CM _ _ _ _ _ B om aK fun j' hj' ju he=>hne (LX ju hp (List.mem_range.1 hown') (List.mem_range.1 hown) he).2.symm) hok)
 exact⟨h1,fun own hown=>h2 own (List.mem_range.2 hown)⟩
def bg4(hg:bR g=true)(ot:LL)(aM:pl=0∨pl=1):dv g (ia g ot pl g.w.length) pl:=by
 obtain⟨ht1,_⟩:=vK hg;obtain⟨hn,aK,ho,_⟩:=fX ht1;exact bg3 aK ho aM (L3 aK hn.1 ho).2
def bg5(hg:bR g=true)(ht:dv g t 1):jJ g (ia g t 0 g.w.length) t=fY g t 0 g.w.length:=by
 obtain⟨ht1,hk,hw,_,_,_⟩:=vK hg;obtain⟨hn,aK,ho,_⟩:=fX ht1;have hok:=(L3 (ot:=t) (pl:=0) aK hn.1 ho).2;unfold jJ;rw[fY];refine iR fun a ha=>?_;have ha:=List.mem_range.1 ha;have h:=L1 (s:=ia g t 0 g.w.length) (t:=t) (pl:=0) (own:=a) aK (.inl rfl) ht ha g.nd.length 0 (fj g 0 a) (eD g) om (sR g 0 a) (by rw[zO];exact Int.le_refl _) (hok a ha);rw[sR]at h;refine Eq.trans (iR fun b hb=>?_) h;have hb:=List.mem_range.1 hb;rw[LU hb,if_pos rfl];unfold vP;rw[if_pos rfl]
def L4{l:List Nd}{pl:Int}:∀(n q:Nat) (x:Int),(idxs l pl n)[q]? =some x->∃i:Nat,x=i/\i<n/\(l.getD i av).p=pl/\(idxs l pl i).length=q
 |0,q,x,h=>by simp[idxs]at h
 |n+1,q,x,h=>by
  rw[KX]at h;split at h
  ·rename_i hp;rcases Nat.lt_trichotomy q (idxs l pl n).length with h1|h1|h1
   ·rw[rR h1]at h;obtain⟨i,e,hi,h2⟩:=L4 n q x h;exact⟨i,e,om,h2⟩
   ·rw[rD om,h1,Nat.sub_self]at h;simp at h;exact⟨n,h.symm,om,hp,h1.symm⟩
   ·rw[qP (by simp;omega)]at h;cases h
  ·obtain⟨i,e,hi,h2⟩:=L4 n q x h;exact⟨i,e,om,h2⟩
def bg6{ns:LI}:∀{e:Nat},e<(iQ ns k).length->∃q c x,c<k/\ns[q]? =some x/\e=q*k+c/\(iQ ns k)[e]? =some [x,(c:Int)]:=by
 induction ns with
 |nil=>intro e h;simp[iQ]at h
 |cons n ns ih=>
  intro e h;have e0:iQ (n::ns) k=((List.range k).map fun c:Nat=>[n,(c:Int)])++iQ ns k:=rfl;rw[e0,qD,qJ,List.length_range]at h;by_cases he:e<k
  ·refine⟨0,e,n,he,rfl,om,?_⟩;rw[e0,rR (sU he),qU,List.getElem?_range he];rfl
  ·obtain⟨q,c,x,h1,h2,h3,h4⟩:=ih (e:=e-k) om;refine⟨q+1,c,x,h1,h2,by rw[Nat.add_mul];omega,?_⟩;rw[e0,rD (sU he),qJ,List.length_range];exact h4
def bg7{e:Nat}(h:e<(sets g pl).length):∃i c,i<g.nd.length/\c<g.w.length/\(g.nd.getD i av).p=pl/\e=el g pl i c/\h_ g pl e=(g.nd.getD i av).ch.length:=by
 obtain⟨q,c,x,h1,h2,h3,h4⟩:=bg6 h;obtain⟨i,rfl,hi,hp,hq⟩:=L4 _ _ _ h2;refine⟨i,c,hi,h1,hp,by rw[el,hq];exact h3,?_⟩;have e0:(sets g pl).getD e []=[(i:Int),(c:Int)]:=by rw[qA];rw[show(sets g pl)[e]? =some [(i:Int),(c:Int)] from h4];rfl
 rw[h_,e0];rfl
def bg8{pt:LL}(hl:pt.length=(sets g pl).length)(h:dv g pt pl):i9 g pl pt=true:=by
 simp only[i9,qM,decide_eq_true_eq,rO,List.mem_range];refine⟨hl,fun e he=>?_⟩;obtain⟨i,c,hi,hc,hp,rfl,hs⟩:=bg7 he;obtain⟨h1,h2,h3⟩:=h i c hi hc hp;simp only[qx,qM,decide_eq_true_eq,rO];rw[hs];exact⟨⟨h1,h2⟩,h3⟩
def bg9(hg:bR g=true)(ot:LL)(aM:pl=0∨pl=1):i9 g pl (ia g ot pl g.w.length)=true:=by
 obtain⟨ht1,_⟩:=vK hg;obtain⟨hn,aK,ho,_⟩:=fX ht1;exact bg8 (L3 aK hn.1 ho).1 (bg4 hg ot aM)
def iE(ns:LI)(k n:Nat):Nat->LI
 |0=>List.replicate n 0
 |j+1=>(iE ns k n j).set (ns.getD j 0).toNat ((j*k:Nat):Int)
def CP(ns:LI)(k n:Nat):∀j,(iE ns k n j).length=n
 |0=>by simp[iE]
 |j+1=>by rw[iE,List.length_set,CP ns k n j]
def gV(g:Gm)(pl:Int):LI:=iE (idxs g.nd pl g.nd.length) g.w.length g.nd.length (idxs g.nd pl g.nd.length).length
def CQ(g:Gm)(pl:Int):(gV g pl).length=g.nd.length:=CP _ _ _ _
def bh0(l:List Nd)(pl:Int)(n:Nat):(idxs l pl n).Nodup:=by
 unfold idxs;have h:((List.range n).filter fun i=>decide ((l.getD i av).p=pl)).Nodup:=List.nodup_range.sublist List.filter_sublist;refine List.Pairwise.map _ (fun a b hab=>?_) h;intro he;exact hab (by have he:(a:Int)=b:=he;omega)
def U4{ns:LI}{k n i q0:Nat}(hn:ns.Nodup)(h0:∀x∈ns,0<=x)(hq:ns[q0]? =some (i:Int))(hi:i<n):∀j,j<=ns.length->(iE ns k n j)[i]? =some (if q0<j then((q0*k:Nat):Int)else 0)
 |0,_=>by
  rw[iE,rM,if_pos hi,if_neg om]
 |j+1,hj=>by
  have ih:=U4 (k:=k) hn h0 hq hi j om;obtain⟨hq1,s9⟩:=qK.1 hq;have LP:ns.getD j 0=ns[j]'om:=by rw[qA,qB (by omega:j<ns.length)];rfl
  have hj0:=h0 (ns[j]'om) (rJ _);rw[iE,LP,List.getElem?_set,CP];by_cases he:j=q0
  ·subst he;rw[s9];simp only[Int.toNat_natCast,if_true];rw[if_pos hi,if_pos om]
  ·have hne:ns[j]'om≠(i:Int):=fun h=>by
    rcases Nat.lt_or_gt_of_ne he with h1|h1
    ·exact(List.pairwise_iff_getElem.1 hn j q0 om hq1 h1) (h.trans s9.symm)
    ·exact(List.pairwise_iff_getElem.1 hn q0 j hq1 om h1) (s9.trans h.symm)
   rw[if_neg om,ih];by_cases h2:q0<j
   ·rw[if_pos h2,if_pos om]
   ·rw[if_neg h2,if_neg om]
def Gs(hi:i<g.nd.length)(hp:(g.nd.getD i av).p=pl):(gV g pl)[i]? =some (((idxs g.nd pl i).length*g.w.length:Nat):Int):=by
 obtain⟨rest,e⟩:=zy g.nd pl hp g.nd.length hi;have hq:(idxs g.nd pl g.nd.length)[(idxs g.nd pl i).length]? =some (i:Int):=by
  rw[e,rD (qR _),Nat.sub_self];rfl
 have h0:∀x∈idxs g.nd pl g.nd.length,0<=x:=fun x hx=>by
  obtain⟨j,rfl,_⟩:=F2 hx;omega
 have hlt:=(qK.1 hq).1;have:=U4 (k:=g.w.length) (bh0 g.nd pl g.nd.length) h0 hq hi _ (qR _);rw[if_pos hlt]at this;exact this
def U5(hg:bR g=true)(aM:pl=0∨pl=1)(ho:own<g.w.length)(hb:b<g.w.length):∃(u v:Nat) (r:LI) (y:Int),nY pl own b=u/\nY pl b own=v/\g.w[u]? =some r/\r[v]? =some y/\(fj g pl own)[b]? =some y/\u<g.w.length/\v<r.length:=by
 have e0:(fj g pl own)[b]? =some (if pl=0 then(g.w.getD own []).getD b 0 else(g.w.getD b []).getD own 0):=by
  unfold fj;rw[qU,List.getElem?_range hb];rfl
 rcases aM with rfl|rfl
 ·obtain⟨r,y,h1,h2,_⟩:=Gb hg ho hb;refine⟨own,b,r,y,rfl,rfl,h1,h2,?_,ho,(qK.1 h2).1⟩;rw[e0,if_pos rfl];simp only[qA,h1,Option.getD_some,h2]
 ·obtain⟨r,y,h1,h2,_⟩:=Gb hg hb ho;refine⟨b,own,r,y,rfl,rfl,h1,h2,?_,hb,(qK.1 h2).1⟩;rw[e0,if_neg dc];simp only[qA,h1,Option.getD_some,h2]
def L5(hg:bR g=true)(pl:Int)(own:Nat):kD (fj g pl own) (eD g)/\(∀x∈fj g pl own,0<=x):=by
 obtain⟨_,hk,hw,_,_,_⟩:=vK hg;obtain⟨_,_,_,_,_,h1,h2⟩:=vR hg;have hb:=K0 hw pl own;have hs:=FX (b:=9) fun x hx=>(hb x hx).2;rw[sR]at hs;have hs0:=oZ fun x hx=>(hb x hx).1;refine⟨?_,fun x hx=>(hb x hx).1⟩;unfold kD;have h3:az (fj g pl own)<=54:=om;have:=Int.mul_le_mul h3 h2 om dc;omega
def Le.bc{a a':T}{l l':LA}(h:Le a a')(hl:Le (.box l) (.box l')):Le (.box (a::l)) (.box (a'::l')):=by
 have hb:l.length=l'.length/\∀i (h:i<l.length) (h':i<l'.length),Le l[i] l'[i]:=by
  cases hl with
  |refl=>exact⟨rfl,fun i _ _=>.refl _⟩
  |box h1 h2=>exact⟨h1,h2⟩
 refine .box (by simp[hb.1]) fun i hi hi'=>?_;cases i with
 |zero=>exact h
 |succ i=>exact hb.2 i (sU hi) (by simpa using hi')
def Le.U6(n:Nat):Le (.arr 1 (List.replicate n (.zz))) (a_ (List.replicate n [])):=by
 refine .arr 1 sA fun i h h'=>?_;simp only[List.getElem_replicate,rQ];exact .iH 1
def x8(hg:bR g=true)(aM:pl=0∨pl=1)(bT:dv g ot (1-pl))(n:Nat): -(n*dC)<=fY g ot pl n/\fY g ot pl n<=n*dC:=by
 obtain⟨p1,hk,hw,_,_,_⟩:=vK hg;obtain⟨t1,t2,t3,t4⟩:=fX p1;unfold fY;refine x4 fun own _=>?_;have hc:=L5 hg pl own;exact Gj t2 aM bT om (sR g pl own) hc.2 (by rw[zO];exact Int.le_refl _) hc.1
def runT(g:Gm)(ot:LL)(pl:Int):T:=.aI [.i (fY g ot pl g.w.length),.agg [.i pl,a_ (ia g ot pl g.w.length)]]
section
attribute [-go_sem] bC bF bK bE bH bL gN
def bh1(hg:bR g=true)(aM:pl=0∨pl=1)(bT:dv g ot (1-pl)):FR 74 [.t (cq g),.t (dw (1-pl,ot))] (runT g ot pl):=by
 obtain⟨p1,p2,p3,p4,p5⟩:=fZ hg;obtain⟨t1,t2,t3,t4⟩:=fX p1;obtain⟨u1,u2,u3,u4,u5,u6,u7⟩:=vR hg;have dy:=q8 g pl t1.2 p2.2;have AE:=x8 (n:=g.w.length) hg aM bT;refine aK5 sA (aa (ay @cq.eq_1 @dw.eq_1 @nodes.eq_1) ?_);rw[wrap64 (n:=1-(1-pl)) om om,show 1-(1-pl)=pl by omega];refine Hx (Lh g pl t1.2 p2.2) (bu (ay @a_.eq_1 @fe @qJ.{0,0}) ?_);refine⟨om,om,?_⟩;refine lN (fun k=>St.of [(2,.own 2),(5,.own 5),(6,.own 19),(7,.t (.i (fY g ot pl k))),(8,.t (.i k))] [(2,.box [nodes g.nd,rows g.w,rows g.v]),(5,.box [.i 0,.zz]),(19,d9 g ot pl (ia g ot pl k))]) (fun k=>k<=g.w.length) (fun k=>g.w.length-k) 0 (aq [2,5,19] (bM @nodes.eq_1 @fY.eq_1 @List.range_zero @az.eq_1 @az.eq_2) (hr:=?_)) (fun k hk R hn hr he=>?_)
 ·refine rB (rB (rI ?_ trivial));refine .bc (.refl _) (.bc (.refl _) (.bc (.refl _) (.bc (.refl _) (.bc (.refl _) (.bc (.refl _) (.bc ?_ (.refl _)))))));exact Le.U6 _
 ·rcases qH k g.w.length with h9|h9
  ·refine aa (ay @d9.eq_1 @nodes.eq_1 (dt ((k:Int)<(g.w.length:Int)))) ?_;refine lN (fun b=>St.of [(2,.own 2),(5,.own 5),(6,.own 19),(7,.t (.i (fY g ot pl k))),(8,.t (.i k)),(9,.own 77),(10,.t (.i b))] [(2,.box [nodes g.nd,rows g.w,rows g.v]),(5,.box [.i 0,.zz]),(19,d9 g ot pl (ia g ot pl k)),(77,.arr 1 (((fj g pl k).take b).map T.i))]) (fun b=>b<=g.w.length) (fun b=>g.w.length-b) 0 (aq [2,5,19,38] (ah @nodes.eq_1 @d9.eq_1)) (fun b hb R2 hn2 cP cL=>?_)
   ·have hrl:=sR g pl k;rcases qH b g.w.length with h8|h8
    ·obtain⟨u,v,r,y,d1,d2,d3,d4,d5,d6,d7⟩:=U5 hg aM h9 h8;refine aa (ay @d9.eq_1 @nodes.eq_1 (dt ((b:Int)<(g.w.length:Int)))) ?_;refine Fx (UP g ot (ia g ot pl k) pl k b) [19] (bu (bM d1 d2 d3 d4 @ints.eq_1) ?_);refine⟨om,om,om,om,om,om,by rw[qL];omega,hn2 _ (b+1) (aq [2,5,19,63] (ay @nodes.eq_1 @d9.eq_1 (aw h8 om)) (hr:=?_))⟩
     ·refine rB (rB (rB (rI ?_ trivial)));rw[bG d5,qG];exact .refl _
    ·refine aa (ay @d9.eq_1 @nodes.eq_1 (dF ((b:Int)<(g.w.length:Int)))) ?_;refine cL _ _ (ab ?_);rw[qQ (show(fj g pl k).length<=b by omega)];refine⟨_,wT (wS 77) (aj.o [(2,.own 2),(5,.own 5),(6,.own 19),(7,.t (.i (fY g ot pl k))),(8,.t (.i k)),(9,.t (ints (fj g pl k)))] [(2,.box [nodes g.nd,rows g.w,rows g.v]),(5,.box [.i 0,.zz]),(19,d9 g ot pl (ia g ot pl k))] [some 2,some 5,some 19] ?_ ?_),?_⟩
     ·refine bZ (c5 @zA @d9.eq_1 @nodes.eq_1 @zB @T.pv @List.map_map.{0,0,0}) ?_;exact .inr (.inl rfl)
     ·exact rB (rB (rB trivial))
     ·refine aa (ah @d9.eq_1 @nodes.eq_1) ?_;refine Px (Cr (K5 t2 om g.nd.length 0 om om om)) (ab ?_);rw[u2];have hc:=L5 hg pl k;have b_:=bf2 hg aM bT h9 g.nd.length 0 (fj g pl k) (eD g) (ia g ot pl k) om om hrl hc.2 (by rw[zO];exact Int.le_refl _) u3 hc.1 (K3 t2 ot pl k);rw[←TR]at b_;simp only[d9,nodes,rows,ints]at b_;have Ay:=x8 hg aM bT k;have oh:=x8 hg aM bT (k+1);have CB:dC=4199040000000:=rfl;have U7:((k+1:Nat):Int)*dC<=6*dC:=Int.mul_le_mul_of_nonneg_right om dc;rw[F5]at oh;refine Fx b_ [19] (aP ?_);exact hn _ (k+1) (aq [2,5,19] (bM @d9.eq_1 @nodes.eq_1 (aw h9 om) (wrap64 (n:=fY g ot pl k+bD g ot pl k g.nd.length 0 (fj g pl k) (eD g)) om om) @F5))
  ·refine aa (ay @d9.eq_1 @nodes.eq_1 (dF ((k:Int)<(g.w.length:Int)))) ?_;refine he _ _ (ab ?_);refine⟨_,wO 19 6 500,bP ?_⟩;rw[show k=g.w.length by omega];rfl
end
def eQ(g:Gm)(ot:LL)(pl:Int)(bh2:Int)(B:LL):T:=.box [nodes g.nd,rows g.w,rows g.v,.i pl,.i bh2,ints (gV g pl),ints (gV g (1-pl)),rows ot,.i pl,a_ B]
def uS(g:Gm)(pl:Int)(i own:Nat)(reach:LI)(k:Nat):Int:=az ((List.range k).map fun c=>reach.getD c 0*i8 g pl i own c)
def bh3(g:Gm)(pl:Int)(i own:Nat)(reach:LI)(k:Nat):uS g pl i own reach (k+1)=uS g pl i own reach k+reach.getD k 0*i8 g pl i own k:=by
 unfold uS;rw[List.range_succ,qG,List.map_cons,List.map_nil,vJ]
def bh4(hp:zw g)(h0:∀x∈reach,0<=x)(hc:kD reach p)(k:Nat): -(k*dC)<=uS g pl i own reach k/\uS g pl i own reach k<=k*dC:=by
 unfold uS;refine x4 fun c _=>?_;obtain⟨h1,h2⟩:=Ci hp pl i own c;exact(Gh h0 hc (c:=c) h1 h2).2
def L6(hg:bR g=true)(i a b:Nat)(hi:i<g.nd.length)(ha:a<g.w.length)(hb:b<g.w.length):Pr 141 [.agg [.sh 5 (chunk c_ g.nd),.sh 1 (g.w.map ints),.sh 1 (g.v.map ints)],.i i,.i a,.i b] (.i (gw g i a b)):=bb3 g hg i a b hi ha hb
def bh5(h0:∀x∈reach,0<=x)(hc:kD reach (p+1)):kD reach p:=by
 have h1:=oZ h0;have h2:=Int.mul_le_mul_of_nonneg_left (Gc (show p<=p+1 by omega)) h1;unfold kD at hc ⊢;omega
section
attribute [-go_sem] bC bF bK bE bH bL gN
theorem bh6{g:Gm}{ot:LL}{pl:Int}{own:Nat}(hg:bR g=true)(aM:pl=0∨pl=1)(bT:dv g ot (1-pl))(hown:own<g.w.length):∀(f i:Nat) (reach:LI) (p:Nat) (B:LL),g.nd.length<=i+f->i<g.nd.length->reach.length=g.w.length->(∀x∈reach,0<=x)->dep g.nd f i<=p->p<=5->kD reach p->i_ (sets g pl).length B→
  FA 81 [eQ g ot pl own B] [.own 1000000000,.t (.i i),.t (ints reach),.t (.i p)] fun o r=>o=[eQ g ot pl own (dp g ot pl own f i reach p B)]/\r= .i (bD g ot pl own f i reach p):=by
 obtain⟨p1,p2,p3,p4,p5⟩:=fZ hg;obtain⟨t1,t2,t3,t4⟩:=fX p1;have o5:=Ck t2;have CB:dC=4199040000000:=rfl;intro f;induction f with
 |zero=>intro i reach p B h1 h2;omega
 |succ f ih=>
  intro i reach p B hf hi hrl b9 hdp Gk hcap x5;obtain⟨x,hx⟩:∃x,g.nd[i]? =some x:=⟨_,qB hi⟩;have dM:g.nd.getD i av=x:=by rw[qA,hx];rfl
  have nv:=(eJ (t2 _ _ hx)).2.2.2.2.2;have pW:x.p=2->dp g ot pl own (f+1) i reach p B=B:=fun h=>by rw[dp];simp only[dM];rw[if_pos h]
  have vU:x.p=2->bD g ot pl own (f+1) i reach p=uS g pl i own reach reach.length*pw p:=fun h=>by rw[bD];simp only[dM];rw[if_pos h];rfl
  have kO:x.p≠2->x.p=pl->dp g ot pl own (f+1) i reach p B=(x.ch.foldl (fun B c=>dp g ot pl own f c.toNat reach p B) B).set (el g pl i own) ((List.replicate x.ch.length 0).set (dO (x.ch.map fun c=>bD g ot pl own f c.toNat reach p)) 60):=fun h h'=>by rw[dp];simp only[dM];rw[if_neg h,if_pos h']
  have mr:x.p≠2->x.p=pl->bD g ot pl own (f+1) i reach p=(x.ch.map fun c=>bD g ot pl own f c.toNat reach p).getD (dO (x.ch.map fun c=>bD g ot pl own f c.toNat reach p)) 0:=fun h h'=>by rw[bD];simp only[dM];rw[if_neg h,if_pos h']
  have oA:x.p≠2->x.p≠pl->dp g ot pl own (f+1) i reach p B=(List.range x.ch.length).foldl (fun B k=>dp g ot pl own f (x.ch.getD k 0).toNat (da g ot pl i reach k) (p-1) B) B:=fun h h'=>by rw[dp];simp only[dM];rw[if_neg h,if_neg h']
  have x6:x.p≠2->x.p≠pl->bD g ot pl own (f+1) i reach p=az ((List.range x.ch.length).map fun k=>bD g ot pl own f (x.ch.getD k 0).toNat (da g ot pl i reach k) (p-1)):=fun h h'=>by rw[bD];simp only[dM];rw[if_neg h,if_neg h']
  generalize dp g ot pl own (f+1) i reach p B=B' at pW kO oA ⊢;generalize bD g ot pl own (f+1) i reach p=V' at vU mr x6 ⊢;refine aK6 sA (aB (bf @RG.eq_1 @eQ.eq_1 @nodes.eq_1 (nU hx)) ?_);refine⟨by rw[cN];omega,by rw[cN];omega,?_⟩;refine⟨fun h2=>?_,fun h2=>?_⟩
  ·have h2:x.p=2:=sU h2;rw[pW h2,vU h2];refine lN (fun k=>St.of [(0,.own 1000000000),(1,.t (.i i)),(2,.t (ints reach)),(3,.t (.i p)),(10,.t (.i (uS g pl i own reach k))),(38,.t (ints reach)),(39,.t (.i reach.length)),(40,.t (.i k))] [(1000000000,eQ g ot pl own B)]) (fun k=>k<=reach.length) (fun k=>reach.length-k) 0 (aq [1000000000] (show uS g pl i own reach 0=0 by simp[uS,az])) (fun k hk R hn hr he=>?_)
   ·have m5:=bh4 (pl:=pl) (i:=i) (own:=own) o5 b9 hcap k;have m7:(k:Int)*dC<=6*dC:=Int.mul_le_mul_of_nonneg_right om dc;rcases qH k reach.length with h9|h9
    ·obtain⟨y,hy⟩:∃y,reach[k]? =some y:=⟨_,qB h9⟩;have wh:reach.getD k 0=y:=by rw[qA,hy];rfl
     obtain⟨q1,q2⟩:=Ci o5 pl i own k;obtain⟨_,m3,m4⟩:=Gh b9 hcap (c:=k) q1 q2;have m6:=bh3 g pl i own reach k;rw[wh]at m3 m4 m6;refine aB (bf @eQ.eq_1 @nodes.eq_1 hy (dt ((k:Int)<(reach.length:Int)))) ?_;refine⟨fun h5=>?_,fun h5=>?_⟩
     ·have h5:pl=0:=sU h5;have hP:i8 g pl i own k=gw g i own k:=(by rw[i8,if_pos h5]);rw[hP]at m3 m4 m6 q1 q2;refine V (L6 hg i own k hi hown om) (ab ?_);refine hn _ (k+1) (aj.o _ _ [some 1000000000] ?_ ?_)
      ·simp -implicitDefEqProofs only[fc,Nat.reduceBEq,Nat.reduceEqDiff, ↓reduceIte,eQ,nodes,aw h9 om,wrap64 (n:=y*gw g i own k) om om,←m6,wrap64 (n:=uS g pl i own reach (k+1)) om om]
      ·exact rB trivial
     ·have h5:¬pl=0:=sU h5;have hP:i8 g pl i own k= -gw g i k own:=(by rw[i8,if_neg h5]);rw[hP]at m3 m4 m6 q1 q2;rw[Int.mul_neg]at m3 m4 m6;refine V (L6 hg i k own hi om hown) (ab ?_);refine hn _ (k+1) (aj.o _ _ [some 1000000000] ?_ ?_)
      ·simp -implicitDefEqProofs only[fc,Nat.reduceBEq,Nat.reduceEqDiff, ↓reduceIte,eQ,nodes,aw h9 om,wrap64 (n:=y*gw g i k own) om om,Int.sub_eq_add_neg,←m6,wrap64 (n:=uS g pl i own reach (k+1)) om om]
      ·exact rB trivial
    ·refine aa (ay @eQ.eq_1 @nodes.eq_1 (dF ((k:Int)<(reach.length:Int)))) ?_;refine he _ _ (ab ?_);have qT:k=reach.length:=om;have m8:=LM (pl:=pl) (i:=i) (own:=own) o5 b9 hcap reach.length;have m9:(reach.length:Int)*dC<=6*dC:=Int.mul_le_mul_of_nonneg_right om dc;have m10:tS g pl i own reach p reach.length=uS g pl i own reach reach.length*pw p:=rfl;refine Px (Lj p om) (ab ?_);rw[qT,wrap64 (n:=uS g pl i own reach reach.length*pw p) om om]
  have h2:x.p≠2:=sU h2;have hp2:(g.nd.getD i av).p≠2:=by rw[dM];exact h2
  obtain⟨d1,d2⟩:=sQ (f:=f) hp2;rw[dM]at d2;have hch:=k8 (t2 _ _ hx);have eE:el g pl i own=(idxs g.nd pl i).length*g.w.length+own:=rfl;have hp1:1<=p:=om;obtain⟨p',rfl⟩:∃p',p=p'+1:=⟨p-1,om⟩;have L7:=bh5 b9 hcap;refine⟨fun h3=>?_,fun h3=>?_⟩
  ·have h3:x.p=pl:=sU h3;have dm:(g.nd.getD i av).p=pl:=by rw[dM];exact h3
   have U8:(x.ch.map fun c=>bD g ot pl own f c.toNat reach (p'+1))=(x.ch.map fun c=>bD g ot pl own f c.toNat reach p').map fun x=>60*x:=by
    rw[List.map_map];exact rW fun c hc=>xS f c.toNat reach p' (by have:=d2 c hc;omega)
   have hBm:(x.ch.foldl (fun B c=>dp g ot pl own f c.toNat reach (p'+1) B) B)=x.ch.foldl (fun B c=>dp g ot pl own f c.toNat reach p' B) B:=F4 _ _ fun B c hc=>KZ f c.toNat reach p' B (by have:=d2 c hc;omega);have kO:=kO h2 h3;have mr:=mr h2 h3;rw[U8,Ch,FZ]at mr;rw[U8,Ch,hBm]at kO;generalize hF:(fun(B:LL) (c:Int)=>dp g ot pl own f c.toNat reach p' B)=F at kO;generalize hvs:(x.ch.map fun c=>bD g ot pl own f c.toNat reach p')=vs at kO mr;have hvl:vs.length=x.ch.length:=(by rw[←hvs,qJ]);have hvb:∀y∈vs, -dC<=y/\y<=dC:=fun y hy=>by
    rw[←hvs]at hy;obtain⟨c,gM,rfl⟩:=qN.1 hy;have hcb:=hch c gM;have hcd:=d2 c gM;exact Gj t2 aM bT om hrl b9 om L7
   rw[kO,mr];refine lN (fun k=>St.of [(0,.own 1000000000),(1,.t (.i i)),(2,.t (ints reach)),(3,.t (.i (p'+1:Nat))),(9,.own 9),(13,.t (.i (dO.go k vs))),(14,.t (.i (o9 vs k))),(92,.t (ints x.ch)),(93,.t (.i x.ch.length)),(94,.t (.i k))] [(9,.box [.i x.p,.i x.a,.i x.b,.i x.f,ints x.ch]),(1000000000,eQ g ot pl own ((x.ch.take k).foldl F B))]) (fun k=>k<=x.ch.length) (fun k=>x.ch.length-k) 0 (aq [9,1000000000] (ah (show o9 vs 0=0 from rfl) (show dO.go 0 vs=0 from rfl))) (fun k hk R hn hr he=>?_)
   ·rcases qH k x.ch.length with h9|h9
    ·obtain⟨c,hc⟩:∃c,x.ch[k]? =some c:=⟨_,qB h9⟩;have gM:=qE hc;have hcb:=hch c gM;have hcd:=d2 c gM;have hrow:i_ (sets g pl).length ((x.ch.take k).foldl F B):=by
      refine ni (i_ (sets g pl).length) _ _ x5 fun B' c' _ iY=>?_;rw[←hF];exact ue t2 f _ _ _ _ iY
     have b_:=ih c.toNat reach p' ((x.ch.take k).foldl F B) om om hrl b9 om om L7 hrow;rw[show((c.toNat:Nat):Int)=c by omega,show dp g ot pl own f c.toNat reach p' ((x.ch.take k).foldl F B)=(x.ch.take (k+1)).foldl F B by rw[UM F x.ch B hc,←hF]]at b_;have CD:vs[k]? =some (bD g ot pl own f c.toNat reach p'):=by rw[←hvs,qU,hc];rfl
     obtain⟨g1,g2⟩:=UL CD;generalize bD g ot pl own f c.toNat reach p'=n at b_ CD g1 g2;simp only[eQ,nodes,rows,ints]at b_;refine aB (bf @eQ.eq_1 @nodes.eq_1 hc (dt ((k:Int)<(x.ch.length:Int)))) ?_;rw[wrap64 (n:=((p'+1:Nat):Int)-1) om om,show((p'+1:Nat):Int)-1=(p':Int) by omega];refine Fx b_ [1000000000] (aP ?_);refine⟨fun h0=>⟨fun h1=>?_,fun h1=>?_⟩,fun h0=>?_⟩
     ·rw[if_pos (.inr h1)]at g1 g2;exact hn _ (k+1) (aq [9,1000000000] (ay (aw h9 om) g1 g2))
     ·rw[if_neg (by rintro(h|h);(· rw[h]at h0;simp at h0);(· exact h1 h))]at g1 g2;exact hn _ (k+1) (aq [9,1000000000] (ay (aw h9 om) g1 g2))
     ·rw[if_pos (.inl (sU h0))]at g1 g2;exact hn _ (k+1) (aq [9,1000000000] (ay (aw h9 om) g1 g2))
    ·refine aa (ay @eQ.eq_1 @nodes.eq_1 (dF ((k:Int)<(x.ch.length:Int)))) ?_;refine he _ _ (ab ?_);have qT:k=x.ch.length:=om;have bf3:1<=x.ch.length:=((eJ (t2 _ _ hx)).2.2.2.2.1 h2).2;have kh:=Cg vs k om;have hge:dO.go k vs=dO vs:=(by rw[zr,hvl,qT]);rw[fe,List.length_replicate];refine⟨om,om,om,om,om,?_⟩;rw[show x.ch.take k=x.ch by rw[qT,rT]];have LO:i_ (sets g pl).length (x.ch.foldl F B):=by
      refine ni (i_ (sets g pl).length) _ _ x5 fun B' c' _ iY=>?_;rw[←hF];exact ue t2 f _ _ _ _ iY
     have hslt:=Cj (pl:=pl) hi hown dm;have dy:=q8 g pl t1.2 p2.2;have bf4:=LO.1;have x9:=Gs hi dm;have d_:=CQ g pl;refine⟨_,wO 1000000000 9 500,bQ (bf @a_.eq_1 x9 (wrap64 (n:=((el g pl i own:Nat):Int)) om om) (show(((idxs g.nd pl i).length*g.w.length:Nat):Int)+(own:Int)=((el g pl i own:Nat):Int) by omega)) ?_⟩;refine⟨_,aj.DV Tryz.prog Ew (sl 125) (sl 126) rfl rfl rfl rfl dc sA,ab ?_⟩;have mR:o9 vs k=vs.getD (dO vs) 0:=(by rw[o9,if_neg om,hge]);have hvm: -dC<=vs.getD (dO vs) 0/\vs.getD (dO vs) 0<=dC:=hvb _ (k9 0 om);refine⟨?_,?_⟩
     ·rw[List.map_set,ae,List.map_set,List.map_replicate,hge]
     ·rw[mR,wrap64 (n:=vs.getD (dO vs) 0*60) om om,Int.mul_comm]
  ·have h3:x.p≠pl:=sU h3;have jy:x.p=1-pl:=by
    obtain⟨⟨q1,q2⟩,_⟩:=eJ (t2 _ _ hx);omega
   have dm:(g.nd.getD i av).p=1-pl:=by rw[dM];exact jy
   generalize hF:(fun(B:LL) (k:Nat)=>dp g ot pl own f (x.ch.getD k 0).toNat (da g ot pl i reach k) (p'+1-1) B)=F at oA;generalize hG:(fun k=>bD g ot pl own f (x.ch.getD k 0).toNat (da g ot pl i reach k) (p'+1-1))=G at x6;rw[oA h2 h3,x6 h2 h3];refine lN (fun k=>St.of [(0,.own 1000000000),(1,.t (.i i)),(2,.t (ints reach)),(3,.t (.i (p'+1:Nat))),(19,.t (.i (az ((List.range k).map G)))),(144,.t (ints x.ch)),(145,.t (.i x.ch.length)),(146,.t (.i k))] [(1000000000,eQ g ot pl own ((List.range k).foldl F B))]) (fun k=>k<=x.ch.length) (fun k=>x.ch.length-k) 0 (aq [1000000000] (ah @List.range_zero (show az []=0 from rfl))) (fun k hk R hn hr he=>?_)
   ·rcases qH k x.ch.length with h9|h9
    ·obtain⟨c,hc⟩:∃c,x.ch[k]? =some c:=⟨_,qB h9⟩;refine aa (bM @eQ.eq_1 @nodes.eq_1 hc @fe (dt ((k:Int)<(x.ch.length:Int)))) ?_;have hnl:(da g ot pl i reach k).length=reach.length:=ud _ _ _ _ _ _;refine⟨om,om,om,om,om,?_⟩;refine lN (fun b=>St.of [(0,.own 1000000000),(1,.t (.i i)),(2,.t (ints reach)),(3,.t (.i (p'+1:Nat))),(19,.t (.i (az ((List.range k).map G)))),(20,.t (.i k)),(21,.t (.i c)),(22,.own 77),(144,.t (ints x.ch)),(145,.t (.i x.ch.length)),(146,.t (.i k)),(154,.t (ints reach)),(155,.t (.i reach.length)),(156,.t (.i b))] [(77,.arr 1 (filled (da g ot pl i reach k) T.i (.i 0) b)),(1000000000,eQ g ot pl own ((List.range k).foldl F B))]) (fun b=>b<=reach.length) (fun b=>reach.length-b) 0 (aq [153,1000000000] (ah @eQ.eq_1 @nodes.eq_1) (hr:=?_)) (fun b hb R2 hn2 cP cL=>?_)
     ·refine rI ?_ (rB trivial);rw[Ps,hnl];exact .refl _
     ·have hfl:=Pp (da g ot pl i reach k) T.i (.i 0) b om;rcases qH b reach.length with h8|h8
      ·obtain⟨y,hy⟩:∃y,reach[b]? =some y:=⟨_,qB h8⟩;obtain⟨o1,o2,o3⟩:=bT i b hi om dm;obtain⟨r,fE⟩:∃r,ot[el g (1-pl) i b]? =some r:=by
        cases h:ot[el g (1-pl) i b]? with
        |some r=>exact⟨r,rfl⟩
        |none=>
         rw[partsOf,qA,h,dM]at o1;simp at o1;omega
       have CE:partsOf g ot (1-pl) i b=r:=by rw[partsOf,qA,fE];rfl
       rw[CE]at o1 o2;rw[dM]at o1;obtain⟨y2,hy2⟩:∃y2,r[k]? =some y2:=⟨_,qB om⟩;have x7:=o2 y2 (qE hy2);have hslt:=(qK.1 fE).1;have fC:0<=y/\y<=41990400000:=by
        have h1:=LK b9 b;rw[qA,hy]at h1;have h2:=nV p';have h3:=oZ b9;have h4:=Int.mul_le_mul_of_nonneg_left (show(1:Int)<=pw p' by omega) h3;unfold kD at L7;simp only[Option.getD_some]at h1;omega
       have g_:=Int.mul_nonneg fC.1 x7.1;have hm2:y*y2<=41990400000*60:=Int.mul_le_mul fC.2 x7.2 x7.1 dc;have i7:(da g ot pl i reach k)[b]? =some (y*y2):=by
        rw[da,qU,List.getElem?_range om,Option.map_some,CE,qA,hy,qA,hy2];rfl
       have x9:=Gs hi dm;have d_:=CQ g (1-pl);have eE:el g (1-pl) i b=(idxs g.nd (1-pl) i).length*g.w.length+b:=rfl;have dy:=q8 g (1-pl) t1.2 p2.2;have hsi:=Cj (g:=g) (pl:=1-pl) hi (show b<g.w.length by omega) dm;refine aB (Ex @eQ.eq_1 @nodes.eq_1 hy x9 fE hy2 hfl (dt ((b:Int)<(reach.length:Int))) (wrap64 (n:=((el g (1-pl) i b:Nat):Int)) om om) (show(((idxs g.nd (1-pl) i).length*g.w.length:Nat):Int)+(b:Int)=((el g (1-pl) i b:Nat):Int) by omega)) ?_;refine hn2 _ (b+1) (aj.o _ _ [some 77,some 1000000000] ?_ ?_)
       ·exact bZ (ay @eQ.eq_1 @nodes.eq_1 (aw h8 om)) trivial
       ·refine rI ?_ (rB trivial);rw[wrap64 (n:=y*y2) om om,Pq i7];exact .refl _
      ·refine aa (ay @eQ.eq_1 @nodes.eq_1 (dF ((b:Int)<(reach.length:Int)))) ?_;refine cL _ _ (ab ?_);have l8:b=(da g ot pl i reach k).length:=om;rw[l8,Pt];refine⟨_,wT (wS 77) (aj.o [(0,.own 1000000000),(1,.t (.i i)),(2,.t (ints reach)),(3,.t (.i (p'+1:Nat))),(19,.t (.i (az ((List.range k).map G)))),(20,.t (.i k)),(21,.t (.i c)),(22,.t (ints (da g ot pl i reach k))),(144,.t (ints x.ch)),(145,.t (.i x.ch.length)),(146,.t (.i k))] [(1000000000,eQ g ot pl own ((List.range k).foldl F B))] [some 1000000000] ?_ ?_),?_⟩
       ·refine bZ (c5 @zA @eQ.eq_1 @nodes.eq_1 @zB @T.pv @List.map_map.{0,0,0}) ?_;exact .inr (.inl rfl)
       ·exact rB trivial
       ·refine aa (ah @eQ.eq_1 @nodes.eq_1) ?_;have gM:=qE hc;have hcb:=hch c gM;have hcd:=d2 c gM;have CF:x.ch.getD k 0=c:=by rw[qA,hc];rfl
        have CG:∀j,j<x.ch.length-> -dC<=G j/\G j<=dC:=fun j hj=>by
         have CH:=k9 (0:Int) hj;have hjb:=hch _ CH;have LP:=d2 _ CH;rw[←hG];exact Gj t2 aM bT om (by rw[ud];exact hrl) (xT bT hi hrl dm b9 j) om (Gi bT hi hrl dm b9 hcap (by rw[dM];exact hj))
        have hs1:=x4 (G:=G) (c:=dC) (n:=k) fun j hj=>CG j om;have aW:=CG k h9;have hk4:(k:Int)*dC<=4*dC:=Int.mul_le_mul_of_nonneg_right om dc;have hrow:i_ (sets g pl).length ((List.range k).foldl F B):=by
         refine ni (i_ (sets g pl).length) _ _ x5 fun B' c' _ iY=>?_;rw[←hF];exact ue t2 f _ _ _ _ iY
        have b_:=ih c.toNat (da g ot pl i reach k) p' ((List.range k).foldl F B) om om om (xT bT hi hrl dm b9 k) om om (Gi bT hi hrl dm b9 hcap (by rw[dM];omega)) hrow;rw[show((c.toNat:Nat):Int)=c by omega,show dp g ot pl own f c.toNat (da g ot pl i reach k) p' ((List.range k).foldl F B)=(List.range (k+1)).foldl F B by rw[List.range_succ,List.foldl_append,←hF,List.foldl_cons,List.foldl_nil];simp only[CF,Nat.add_sub_cancel],show bD g ot pl own f c.toNat (da g ot pl i reach k) p'=G k by rw[←hG];simp only[CF,Nat.add_sub_cancel]]at b_;have px:az ((List.range (k+1)).map G)=az ((List.range k).map G)+G k:=(by rw[List.range_succ,qG,List.map_cons,List.map_nil,vJ]);simp only[eQ,nodes,rows,ints]at b_;rw[wrap64 (n:=((p'+1:Nat):Int)-1) om om,show((p'+1:Nat):Int)-1=(p':Int) by omega];refine Fx b_ [1000000000] (aP ?_);refine hn _ (k+1) (aq [1000000000] (bM @eQ.eq_1 @nodes.eq_1 (aw h9 om) px (wrap64 (n:=az ((List.range k).map G)+G k) om om)) (hr:=?_))
        ·refine rI ?_ trivial;rw[List.range_succ];exact .refl _
    ·refine aa (ay @eQ.eq_1 @nodes.eq_1 (dF ((k:Int)<(x.ch.length:Int)))) ?_;refine he _ _ (ab ?_);rw[show k=x.ch.length by omega];exact⟨rfl,rfl⟩
end
def Gt{y:Int}(h:(idxs l pl l.length)[j]? =some y):∃i:Nat,y=i/\i<l.length:=by
 obtain⟨i,h1,h2,_⟩:=F2 (qE h);exact⟨i,h1,h2⟩
def U9(m:LN)(R R':Nat->aE)(r:Nat):kL m R R' r=if m.any (fun d=>decide (r=d)||decide (r/1000=d+1))then R r else R' r:=rfl
def vW(g:Gm)(ot:LL)(pl:Int)(a b:LI):T:=.box [nodes g.nd,rows g.w,rows g.v,.i pl,.i 0,ae a,ae b,rows ot,.i 0,.zz]
def Gu(g:Gm)(ot:LL)(pl:Int)(B:LL):T:=.box [nodes g.nd,rows g.w,rows g.v,.i pl,.any,ints (gV g pl),ints (gV g (1-pl)),rows ot,.i pl,a_ B]
section
attribute [-go_sem] bC bF bK bE bH bL gN
def bh7(hg:bR g=true)(aM:pl=0∨pl=1)(bT:dv g ot (1-pl)):FR 36 [.t (cq g),.t (dw (1-pl,ot))] (runT g ot pl):=by
 obtain⟨p1,p2,p3,p4,p5⟩:=fZ hg;obtain⟨t1,t2,t3,t4⟩:=fX p1;obtain⟨u1,u2,u3,u4,u5,u6,u7⟩:=vR hg;have dy:=q8 g pl t1.2 p2.2;have bh8:=TP g pl;have AE:=x8 (n:=g.w.length) hg aM bT;have bq:=o6 g.nd pl g.nd.length;have bA4:=o6 g.nd (1-pl) g.nd.length;have hmul:∀n:Nat,n<=g.nd.length->n*g.w.length<=60*6:=fun n hn=>Nat.mul_le_mul om p2.2;refine aK4 sA (aa (bf @cq.eq_1 @dw.eq_1 @nodes.eq_1 @fe) ?_);rw[wrap64 (n:=1-(1-pl)) om om,show 1-(1-pl)=pl by omega];refine⟨om,om,om,om,?_⟩;refine⟨?_,(qS).ak _ (.inl sA)⟩;refine aa @U9 ?_;have CR:∀q,gV g q=iE (idxs g.nd q g.nd.length) g.w.length g.nd.length (idxs g.nd q g.nd.length).length:=fun q=>rfl;have hfl:∀q j,(iE (idxs g.nd q g.nd.length) g.w.length g.nd.length j).length=g.nd.length:=fun q j=>CP _ _ _ _;have eK:∀q j (n:Nat),(idxs g.nd q g.nd.length)[j]? =some (n:Int)->iE (idxs g.nd q g.nd.length) g.w.length g.nd.length (j+1)=(iE (idxs g.nd q g.nd.length) g.w.length g.nd.length j).set n ((j*g.w.length:Nat):Int):=fun q j n h=>by
  rw[iE,qA,h];rfl
 refine Rx (zG g.nd pl om) (bu (ah @ae.eq_1 @U9) ?_);refine lN (fun j=>St.of [(2,.own 2),(3,.own 3),(5,.own 5),(6,.own 6),(7,.t (.i g.w.length)),(42,.own 42),(43,.t (.i (idxs g.nd pl g.nd.length).length)),(44,.t (.i j))] [(2,.box [nodes g.nd,rows g.w,rows g.v]),(3,.box [.i (1-pl),rows ot]),(5,.box [.i 0,.zz]),(6,vW g ot pl (iE (idxs g.nd pl g.nd.length) g.w.length g.nd.length j) (List.replicate g.nd.length 0)),(42,ae (idxs g.nd pl g.nd.length))]) (fun j=>j<=(idxs g.nd pl g.nd.length).length) (fun j=>(idxs g.nd pl g.nd.length).length-j) 0 (aq [2,3,5,6,42] @nodes.eq_1 (hr:=?_)) (fun j hj R hn hr he=>?_)
 ·refine rB (rB (rB (rI ?_ (rB trivial))));have e:T.arr 1 (List.replicate g.nd.length (T.v (Value.int IntKind.i64 0)))=ae (List.replicate g.nd.length 0):=by rw[ae,List.map_replicate]
  rw[e];exact .refl _
 ·rcases qH j (idxs g.nd pl g.nd.length).length with h9|h9
  ·obtain⟨y,hy⟩:∃y,(idxs g.nd pl g.nd.length)[j]? =some y:=⟨_,qB h9⟩;obtain⟨n,rfl,nD⟩:=Gt hy;have hjm:=hmul j om;refine aB (c5 @vW.eq_1 @nodes.eq_1 hy @ae.eq_1 (dt ((j:Int)<((idxs g.nd pl g.nd.length).length:Int))) hfl) ?_;refine hn _ (j+1) (wT (aj.DV Tryz.prog Ew (sl 49) (sl 50) rfl rfl rfl rfl dc sA) (aj.o _ _ [some 2,some 3,some 5,some 6,some 42] ?_ ?_))
   ·exact bZ (ah @nodes.eq_1 (aw h9 om)) trivial
   ·refine rB (rB (rB (rI ?_ (rB trivial))));rw[eK _ _ _ hy,vW,ae,List.map_set,wrap64 (n:=(j:Int)*(g.w.length:Int)) om om,←Int.natCast_mul];exact .refl _
  ·refine aa (bf @vW.eq_1 @nodes.eq_1 @ae.eq_1 (dF ((j:Int)<((idxs g.nd pl g.nd.length).length:Int)))) ?_;refine he _ _ (ab ?_);rw[show j=(idxs g.nd pl g.nd.length).length by omega,←CR];clear hn hr he R;refine Rx (zG g.nd (1-pl) om) (bu @ae.eq_1 ?_);refine lN (fun j=>St.of [(2,.own 2),(3,.own 3),(5,.own 5),(6,.own 6),(7,.t (.i g.w.length)),(61,.own 61),(62,.t (.i (idxs g.nd (1-pl) g.nd.length).length)),(63,.t (.i j))] [(2,.box [nodes g.nd,rows g.w,rows g.v]),(3,.box [.i (1-pl),rows ot]),(5,.box [.i 0,.zz]),(6,vW g ot pl (gV g pl) (iE (idxs g.nd (1-pl) g.nd.length) g.w.length g.nd.length j)),(61,ae (idxs g.nd (1-pl) g.nd.length))]) (fun j=>j<=(idxs g.nd (1-pl) g.nd.length).length) (fun j=>(idxs g.nd (1-pl) g.nd.length).length-j) 0 (aq [2,3,5,6,61] @nodes.eq_1 (hr:=?_)) (fun j hj R hn hr he=>?_)
   ·refine rB (rB (rB (rB (rB trivial))))
   ·have d_:=CQ g pl;rcases qH j (idxs g.nd (1-pl) g.nd.length).length with h9|h9
    ·obtain⟨y,hy⟩:∃y,(idxs g.nd (1-pl) g.nd.length)[j]? =some y:=⟨_,qB h9⟩;obtain⟨n,rfl,nD⟩:=Gt hy;have hjm:=hmul j om;refine aB (c5 @vW.eq_1 @nodes.eq_1 hy @ae.eq_1 (decide_eq_true (show(j:Int)<((idxs g.nd (1-pl) g.nd.length).length:Int) by omega)) hfl) ?_;refine hn _ (j+1) (wT (aj.DV Tryz.prog Ew (sl 68) (sl 69) rfl rfl rfl rfl dc sA) (aj.o _ _ [some 2,some 3,some 5,some 6,some 61] ?_ ?_))
     ·exact bZ (ah @nodes.eq_1 (aw h9 om)) trivial
     ·refine rB (rB (rB (rI ?_ (rB trivial))));rw[eK _ _ _ hy,vW,ae,ae,List.map_set,wrap64 (n:=(j:Int)*(g.w.length:Int)) om om,←Int.natCast_mul];exact .refl _
    ·refine aa (bf @vW.eq_1 @nodes.eq_1 @ae.eq_1 (decide_eq_false (show¬(j:Int)<((idxs g.nd (1-pl) g.nd.length).length:Int) by omega))) ?_;refine he _ _ (ab ?_);rw[show j=(idxs g.nd (1-pl) g.nd.length).length by omega,←CR];clear hn hr he R;have g_:=hmul (idxs g.nd pl g.nd.length).length om;have hm2:(g.w.length:Int)*((idxs g.nd pl g.nd.length).length:Int)=((sets g pl).length:Nat):=(by rw[bh8,Int.natCast_mul,Int.mul_comm]);refine Hx (zG g.nd pl om) (bu (bf @ae.eq_1 @fe hm2 (wrap64 (n:=((sets g pl).length:Int)) om om)) ?_);refine⟨om,om,?_⟩;refine lN (fun k=>St.of [(2,.own 2),(5,.own 5),(6,.own 6),(7,.t (.i g.w.length)),(12,.t (.i (fY g ot pl k))),(89,.t (.i g.w.length)),(90,.t (.i k))] [(2,.box [nodes g.nd,rows g.w,rows g.v]),(5,.box [.i 0,.zz]),(6,Gu g ot pl (ia g ot pl k))]) (fun k=>k<=g.w.length) (fun k=>g.w.length-k) 0 (wT (wO 6 5 500) (wT (wJ 6 5 500) (wT (wO 6 6 501) (wT (wJ 6 6 501) (aj.o _ _ [some 2,some 5,some 6] ?_ ?_))))) (fun k hk R hn hr he=>?_)
     ·exact bZ (c5 @nodes.eq_1 @fY.eq_1 @List.range_zero @az.eq_1 @az.eq_2 @zA) trivial
     ·refine rB (rB (rI ?_ trivial));have e1:(T.arr 1 (List.map T.i (gV g pl))).bB=ints (gV g pl):=yJ _;have e2:(T.arr 1 (List.map T.i (gV g (1-pl)))).bB=ints (gV g (1-pl)):=yJ _;rw[e1,e2];exact .bc (.refl _) (.bc (.refl _) (.bc (.refl _) (.bc (.refl _) (.bc (.any _) (.bc (.refl _) (.bc (.refl _) (.bc (.refl _) (.bc (.refl _) (.bc (Le.U6 _) (.refl _))))))))))
     ·rcases qH k g.w.length with h9|h9
      ·refine aB (bf @Gu.eq_1 @nodes.eq_1 @fe (dt ((k:Int)<(g.w.length:Int)))) ?_;have hrl:=sR g pl k;refine lN (fun b=>St.of [(2,.own 2),(5,.own 5),(6,.own 6),(7,.t (.i g.w.length)),(12,.t (.i (fY g ot pl k))),(13,.t (.i k)),(14,.own 77),(89,.t (.i g.w.length)),(90,.t (.i k)),(97,.own 77),(98,.t (.i g.w.length)),(99,.t (.i b))] [(2,.box [nodes g.nd,rows g.w,rows g.v]),(5,.box [.i 0,.zz]),(6,eQ g ot pl k (ia g ot pl k)),(77,.arr 1 (filled (fj g pl k) T.i (.i 0) b))]) (fun b=>b<=g.w.length) (fun b=>g.w.length-b) 0 (aq [2,5,6,96] (ay @nodes.eq_1 @eQ.eq_1 @List.length_replicate.{0}) (hr:=?_)) (fun b hb R2 hn2 cP cL=>?_)
       ·refine rB (rB (rB (rI ?_ trivial)));rw[Ps,hrl];exact .refl _
       ·have hfl:=Pp (fj g pl k) T.i (.i 0) b om;rcases qH b g.w.length with h8|h8
        ·obtain⟨u,v,r,y,d1,d2,d3,d4,d5,d6,d7⟩:=U5 hg aM h9 h8;have fin:∀S,aj 139 S (St.of [(2,.own 2),(5,.own 5),(6,.own 6),(7,.t (.i g.w.length)),(12,.t (.i (fY g ot pl k))),(13,.t (.i k)),(14,.own 77),(89,.t (.i g.w.length)),(90,.t (.i k)),(97,.own 77),(98,.t (.i g.w.length)),(99,.t (.i (b+1:Nat)))] [(2,.box [nodes g.nd,rows g.w,rows g.v]),(5,.box [.i 0,.zz]),(6,eQ g ot pl k (ia g ot pl k)),(77,.arr 1 (filled (fj g pl k) T.i (.i 0) (b+1)))])->R2 .normal S:=fun S h=>hn2 S (b+1) h om om;rw[←Pq d5]at fin;clear hn2;rcases aM with rfl|rfl
         ·have d1:k=u:=by have e:(k:Int)=(u:Int):=d1;omega
          have d2:b=v:=by have e:(b:Int)=(v:Int):=d2;omega
          subst d1 d2;refine aa (c5 @eQ.eq_1 @nodes.eq_1 d3 d4 hfl (dt ((b:Int)<(g.w.length:Int)))) ?_;refine⟨fun _=>⟨om,om,om,om,om,om,om,om,om,?_⟩,fun h=>absurd h dc⟩
          ·exact fin _ (aq [2,5,6,77] (ay @eQ.eq_1 @nodes.eq_1 (aw h8 om)))
         ·have d1:b=u:=by have e:(b:Int)=(u:Int):=d1;omega
          have d2:k=v:=by have e:(k:Int)=(v:Int):=d2;omega
          subst d1 d2;refine aa (c5 @eQ.eq_1 @nodes.eq_1 d3 d4 hfl (dt ((b:Int)<(g.w.length:Int)))) ?_;refine⟨fun h=>absurd h dc,fun _=>⟨om,om,om,om,om,om,om,om,om,?_⟩⟩
          ·exact fin _ (aq [2,5,6,77] (ay @eQ.eq_1 @nodes.eq_1 (aw h8 om)))
        ·refine aa (ay @eQ.eq_1 @nodes.eq_1 (dF ((b:Int)<(g.w.length:Int)))) ?_;refine cL _ _ (ab ?_);rw[show b=(fj g pl k).length by omega,Pt];refine⟨_,wT (wS 77) (aj.o [(2,.own 2),(5,.own 5),(6,.own 6),(7,.t (.i g.w.length)),(12,.t (.i (fY g ot pl k))),(13,.t (.i k)),(14,.t (ints (fj g pl k))),(89,.t (.i g.w.length)),(90,.t (.i k))] [(2,.box [nodes g.nd,rows g.w,rows g.v]),(5,.box [.i 0,.zz]),(6,eQ g ot pl k (ia g ot pl k))] [some 2,some 5,some 6] ?_ ?_),?_⟩
         ·refine bZ (c5 @zA @eQ.eq_1 @nodes.eq_1 @zB @T.pv @List.map_map.{0,0,0}) ?_;exact .inr (.inl rfl)
         ·exact rB (rB (rB trivial))
         ·refine aa (ah @eQ.eq_1 @nodes.eq_1) ?_;refine Px (Cr (F7 t2 om g.nd.length 0 om om om)) (ab ?_);rw[u2];have hc:=L5 hg pl k;have b_:=bh6 hg aM bT h9 g.nd.length 0 (fj g pl k) (eD g) (ia g ot pl k) om om hrl hc.2 (by rw[zO];exact Int.le_refl _) u3 hc.1 (K3 t2 ot pl k);rw[←TR]at b_;simp only[eQ,nodes,rows,ints]at b_;have Ay:=x8 hg aM bT k;have oh:=x8 hg aM bT (k+1);have CB:dC=4199040000000:=rfl;have U7:((k+1:Nat):Int)*dC<=6*dC:=Int.mul_le_mul_of_nonneg_right om dc;rw[F5]at oh;refine Fx b_ [6] (aP ?_);refine hn _ (k+1) (aq [2,5,6] (bM @Gu.eq_1 @nodes.eq_1 (aw h9 om) (wrap64 (n:=fY g ot pl k+bD g ot pl k g.nd.length 0 (fj g pl k) (eD g)) om om) @F5) (hr:=?_))
          ·refine rB (rB (rI ?_ trivial));exact .bc (.refl _) (.bc (.refl _) (.bc (.refl _) (.bc (.refl _) (.bc (.any _) (.refl _)))))
      ·refine aa (ay @Gu.eq_1 @nodes.eq_1 (dF ((k:Int)<(g.w.length:Int)))) ?_;refine he _ _ (ab ?_);refine⟨_,wO 6 9 500,bP ?_⟩;rw[show k=g.w.length by omega];rfl
end
def L8(h:fR g s=true):bR g=true/\(s.1=0∨s.1=1)/\i9 g s.1 s.2=true:=by
 simp only[fR,qM,decide_eq_true_eq]at h;exact⟨h.1.1,om,h.2⟩
def CS(h:fR g s=true):bR g=true/\(1-s.1=0∨1-s.1=1)/\dv g s.2 (1-(1-s.1))/\(1-(1-s.1),s.2)=s:=by
 obtain⟨h1,h2,h3⟩:=L8 h;refine⟨h1,om,?_,?_⟩
 ·rw[show 1-(1-s.1)=s.1 by omega];exact zD h3
 ·rw[show 1-(1-s.1)=s.1 by omega]
def U_(h:fR g s=true):FR 74 [.t (.agg [.sh 5 (chunk c_ g.nd),.sh 1 (g.w.map ints),.sh 1 (g.v.map ints)]),.t (.agg [.i s.1,.sh 1 (s.2.map ints)])] (runT g s.2 (1-s.1)):=by
 obtain⟨h1,h2,h3,h4⟩:=CS h;have:=bh1 h1 h2 h3;rw[h4]at this;exact this
def L9(h:fR g s=true):FR 36 [.t (.agg [.sh 5 (chunk c_ g.nd),.sh 1 (g.w.map ints),.sh 1 (g.v.map ints)]),.t (.agg [.i s.1,.sh 1 (s.2.map ints)])] (runT g s.2 (1-s.1)):=by
 obtain⟨h1,h2,h3,h4⟩:=CS h;have:=bh7 h1 h2 h3;rw[h4]at this;exact this
def gm(g:Gm)(s:Int×LL):Int:=fY g s.2 (1-s.1) g.w.length
def q_(g:Gm)(s:Int×LL):Int×LL:=(1-s.1,ia g s.2 (1-s.1) g.w.length)
def L_(h:fR g s=true): -25194240000000<=gm g s/\gm g s<=25194240000000:=by
 obtain⟨h1,h2,h3,h4⟩:=CS h;obtain⟨_,hk,_⟩:=vK h1;have hv:=x8 h1 h2 h3 g.w.length;have CB:dC=4199040000000:=rfl;have U7:((g.w.length:Nat):Int)*dC<=6*dC:=Int.mul_le_mul_of_nonneg_right om dc;unfold gm;omega
def iF(g:Gm)(s t:Int×LL):Bool:=fR g s&&fR g t&&decide (s.1=0)&&decide (t.1=1)
def Gv{t:Int×LL}(h:iF g s t=true):fR g s=true/\fR g t=true/\s.1=0/\t.1=1:=by
 simp only[iF,qM,decide_eq_true_eq]at h;exact⟨h.1.1.1,h.1.1.2,h.1.2,h.2⟩
def vX{t:Int×LL}:iF g s t=true↔bR g=true/\s.1=0/\t.1=1/\i9 g s.1 s.2=true/\i9 g t.1 t.2=true:=by
 simp only[iF,fR,qM,decide_eq_true_eq];constructor
 ·rintro⟨⟨⟨⟨⟨h1,h2⟩,h3⟩,⟨_,h4⟩,h5⟩,h6⟩,h7⟩;exact⟨h1,h6,h7,h3,h5⟩
 ·rintro⟨h1,h2,h3,h4,h5⟩;exact⟨⟨⟨⟨⟨h1,om⟩,h4⟩,⟨h1,om⟩,h5⟩,h2⟩,h3⟩
def CT{t:Int×LL}(h:¬(bR g=true/\s.1=0/\t.1=1/\i9 g s.1 s.2=true/\i9 g t.1 t.2=true)):iF g s t=false:=by
 cases hp:iF g s t with
 |false=>rfl
 |true=>exact(h (vX.1 hp)).elim
section
attribute [-go_sem] bC bF bK bE bH bL gN
def CU{f:FuncId}{b:Bool}(h:Pr f [cq g,dw s] (.b b)):Pr f [.agg [.sh 5 (chunk c_ g.nd),.sh 1 (g.w.map ints),.sh 1 (g.v.map ints)],.agg [.i s.1,.sh 1 (s.2.map ints)]] (.b b):=h
def Ma{f:FuncId}{n:Int}(h:Pr f [cq g] (.i n)):Pr f [.agg [.sh 5 (chunk c_ g.nd),.sh 1 (g.w.map ints),.sh 1 (g.v.map ints)]] (.i n):=h
def bh9(g:Gm)(s t:Int×LL)(hg:qz g)(hs:kA s.2)(ht:kA t.2):Pr 29 [cq g,dw s,dw t] (.b (iF g s t)):=by
 refine ad4 sA ?_;have h1:=CU (Uq g s hg hs);have h2:=CU (Uq g t hg ht);have Gw:iF g s t=(fR g s&&fR g t&&decide (s.1=0)&&decide (t.1=1)):=rfl;refine aa (ay @cq.eq_1 @dw.eq_1 @nodes.eq_1) ?_;cases fk:fR g s<;>rw[fk]at h1
 ·refine Px h1 (ab ?_);rw[Gw,fk];rfl
 ·refine Px h1 (ab ?_);cases cD:fR g t<;>rw[cD]at h2
  ·refine Px h2 (ab ?_);rw[Gw,fk,cD];rfl
  ·refine Px h2 (ab ?_);refine⟨fun h3=>?_,fun h3=>?_⟩
   ·have h3:s.1=0:=sU h3;rw[Gw,fk,cD,decide_eq_true h3];congr 2
   ·have h3:¬s.1=0:=sU h3;rw[Gw,fk,cD,decide_eq_false h3];rfl
def Va(g:Gm)(s t:Int×LL)(hg:qz g)(hs:kA s.2)(ht:kA t.2):Pr 26 [cq g,dw s,dw t] (.b (iF g s t)):=by
 refine ad1 sA ?_;have h1:=Cq (Ug g hg);refine aa (ay @cq.eq_1 @dw.eq_1 @nodes.eq_1) ?_;cases fk:bR g<;>rw[fk]at h1
 ·refine Px h1 (ab ?_);rw[CT fun h=>by rw[fk]at h;exact absurd h.1 sA]
 ·have h2:=CU (Li g s fk hs);have h3:=CU (Li g t fk ht);refine Px h1 (ab ?_);refine⟨fun h4=>⟨fun h5=>?_,fun h5=>?_⟩,fun h4=>?_⟩
  ·have h4:s.1=0:=sU h4;have h5:t.1=1:=sU h5;cases cD:i9 g s.1 s.2<;>rw[cD]at h2
   ·refine Px h2 (ab ?_);rw[CT fun h=>by rw[cD]at h;exact absurd h.2.2.2.1 sA]
   ·refine Px h2 (ab ?_);cases iq:i9 g t.1 t.2<;>rw[iq]at h3
    ·refine Px h3 (ab ?_);rw[CT fun h=>by rw[iq]at h;exact absurd h.2.2.2.2 sA]
    ·refine Px h3 (ab ?_);rw[vX.2 ⟨fk,h4,h5,cD,iq⟩]
  ·have h5:¬t.1=1:=sU h5;rw[CT fun h=>h5 h.2.2.1]
  ·have h4:¬s.1=0:=sU h4;rw[CT fun h=>h4 h.2.1]
def Mb{f:FuncId}{t:Int×LL}{b:Bool}(h:Pr f [cq g,dw s,dw t] (.b b)):Pr f [.agg [.sh 5 (chunk c_ g.nd),.sh 1 (g.w.map ints),.sh 1 (g.v.map ints)],.agg [.i s.1,.sh 1 (s.2.map ints)],.agg [.i t.1,.sh 1 (t.2.map ints)]] (.b b):=h
def bi0(g:Gm)(s t:Int×LL)(h:iF g s t=true):Pr 30 [cq g,dw s,dw t] (.aI [.i (gm g t),.i (gm g s)]):=by
 obtain⟨h1,h2,_⟩:=Gv h;refine ad5 sA (aa (ay @cq.eq_1 @dw.eq_1 @nodes.eq_1) ?_);refine Rx (U_ h2) (bu (ah @runT.eq_1 @a_.eq_1) ?_);refine Rx (U_ h1) (bu (ah @runT.eq_1 @a_.eq_1) ?_);rfl
def bi1(g:Gm)(s t:Int×LL)(h:iF g s t=true):Pr 69 [cq g,dw s,dw t] (.aI [.i (-gm g s),.i (gm g t)]):=by
 obtain⟨h1,h2,_⟩:=Gv h;have b1:=L_ h1;refine ag5 sA (aa (ay @cq.eq_1 @dw.eq_1 @nodes.eq_1) ?_);refine Rx (L9 h1) (bu (ah @runT.eq_1 @a_.eq_1) ?_);refine Rx (L9 h2) (bu (ah @runT.eq_1 @a_.eq_1) ?_);rw[show 0-fY g s.2 (1-s.1) g.w.length= -gm g s by unfold gm;omega,wrap64 (n:= -gm g s) om om];rfl
def Gx{f:FuncId}{t:Int×LL}{r:T}(h:Pr f [cq g,dw s,dw t] r):Pr f [.agg [.sh 5 (chunk c_ g.nd),.sh 1 (g.w.map ints),.sh 1 (g.v.map ints)],.agg [.i s.1,.sh 1 (s.2.map ints)],.agg [.i t.1,.sh 1 (t.2.map ints)]] r:=h
def mu(g:Gm)(s t:Int×LL):Int:=gm g t+gm g s
def Mc{t:Int×LL}(h:iF g s t=true): -50388480000000<=mu g s t/\mu g s t<=50388480000000:=by
 obtain⟨h1,h2,_⟩:=Gv h;have b1:=L_ h1;have b2:=L_ h2;unfold mu;omega
def pb(g:Gm)(s t:Int×LL):Int×Int×Int:=if iF g s t=true then(mu g s t,unit g,0)else(0,0,1)
def vY(r:Int×Int×Int):T:=.aI [.i r.1,.i r.2.1,.i r.2.2]
def bi2(g:Gm)(s t:Int×LL)(h:iF g s t=true):Pr 27 [cq g,dw s,dw t] (.i (mu g s t)):=by
 have b1:=Mc h;refine ad2 sA (aa (ay @cq.eq_1 @dw.eq_1 @nodes.eq_1) ?_);refine Px (Gx (bi1 g s t h)) (ab ?_);rw[show gm g t - -gm g s=mu g s t by unfold mu;omega,wrap64 (n:=mu g s t) om om]
def bi3(g:Gm)(s t:Int×LL)(hg:qz g)(hs:kA s.2)(ht:kA t.2):Pr 10 [cq g,dw s,dw t] (vY (pb g s t)):=by
 refine ab9 sA ?_;have h1:=Mb (bh9 g s t hg hs ht);refine aa (ay @cq.eq_1 @dw.eq_1 @nodes.eq_1) ?_;cases hb:iF g s t<;>rw[hb]at h1
 ·refine Px h1 (ab ?_);rw[pb,hb];rfl
 ·have hb':=hb;have b1:=Mc hb;refine Px h1 (ab ?_);refine Px (Gx (bi0 g s t hb)) (ab ?_);refine Px (Ma (bb4 g (vX.1 hb).1)) (ab ?_);rw[pb,hb,show gm g t+gm g s=mu g s t from rfl,wrap64 (n:=mu g s t) om om];rfl
def bi4(g:Gm)(s t:Int×LL)(hg:qz g)(hs:kA s.2)(ht:kA t.2):Pr 9 [cq g,dw s,dw t] (vY (pb g s t)):=by
 refine ab8 sA ?_;have h1:=Mb (Va g s t hg hs ht);refine aa (ay @cq.eq_1 @dw.eq_1 @nodes.eq_1) ?_;cases hb:iF g s t<;>rw[hb]at h1
 ·refine Px h1 (ab ?_);rw[pb,hb];rfl
 ·refine Px h1 (ab ?_);refine V (Gx (bi2 g s t hb)) (ab ?_);refine V (Ma (Uw g (vX.1 hb).1)) (ab ?_);rw[pb,hb];rfl
def zS(g:Gm)(s:Int×LL):(Int×LL)×Int:=if fR g s=true then(q_ g s,0)else((0,[]),1)
def Gy(r:(Int×LL)×Int):T:=.aI [.agg [.i r.1.1,a_ r.1.2],.i r.2]
def bi5:Le (.aI [.agg [.i 0,.zz],.i 1]) (Gy ((0,[]),1)):=by
 refine .II (.agg rfl fun i h h'=>?_) (.refl _)
 match i with
 |0=>exact .refl _
 |1=>exact .iH 1
def bi6(g:Gm)(s:Int×LL)(hg:qz g)(hs:kA s.2):FR 15 [.t (cq g),.t (dw s)] (Gy (zS g s)):=by
 refine cF.le (Q:=fun o r=>o=[]/\(r=Gy (zS g s)∨(fR g s=false/\r= .aI [.agg [.i 0,.zz],.i 1]))) ?_ ?_
 case refine_2=>
  rintro o r ⟨rfl,rfl|⟨h,rfl⟩⟩
  ·exact⟨_,.refl _,rfl,rfl⟩
  ·refine⟨_,bi5,rfl,?_⟩;rw[zS,h];rfl
 refine ac3 sA ?_;have h1:=CU (bb2 g s hg hs);refine aa (ay @cq.eq_1 @dw.eq_1 @nodes.eq_1) ?_;cases fk:fR g s<;>rw[fk]at h1
 ·refine Px h1 (ab ?_);exact .inr trivial
 ·refine Px h1 (ab ?_);refine Rx (L9 fk) (dl (ah @runT.eq_1 @a_.eq_1) ?_);exact .inl (by rw[zS,fk];rfl)
end
section
attribute [-go_sem] bC bF bK bE bH bL
def bi7(m:LL):Prop:=m.length<=1000000000000/\∀r∈m,r.length<=1000000000000
end
def Vb(m:LL):Prop:=m.length<=1048576/\tot m<=1048576
def bi8{m:LL}(h:Vb m):bi7 m:=⟨by have:=h.1;omega,fun r hr=>by have:=Ux hr;have:=h.2;omega⟩
def bi9:=cO Tryz.func82 (H:=⟨[],[9]⟩)
def bj0(h:fR g s=true):fR g (q_ g s)=true:=by
 obtain⟨h1,h2,h3,h4⟩:=CS h;have h5:=bg9 h1 s.2 h2;have h6:0<=1-s.1/\1-s.1<=1:=om;show(bR g&&decide (0<=1-s.1/\1-s.1<=1)&&i9 g (1-s.1) _)=true;rw[h1,decide_eq_true h6];exact h5
def bj1(h:fR g s=true):Vb (q_ g s).2:=by
 obtain⟨h1,h2,h3,h4⟩:=CS h;obtain⟨p1,p2,_⟩:=fZ h1;obtain⟨t1,t2,t3,t4⟩:=fX p1;have hr:=K3 t2 s.2 (1-s.1) g.w.length;have hl:=q8 g (1-s.1) t1.2 p2.2;have ht:∀(m:LL),(∀r∈m,r.length<=4)->tot m<=m.length*4:=by
  intro m;induction m with
  |nil=>intro _;simp[tot]
  |cons r m ih=>
   intro h;have h1:=ih fun r hr=>h r (by simp[hr]);have h2:=h r sA;simp only[tot,List.length_cons];omega
 have h5:=ht _ hr.2;have h6:=hr.1;exact⟨by show(ia g s.2 (1-s.1) g.w.length).length<=_;omega,by show tot (ia g s.2 (1-s.1) g.w.length)<=_;omega⟩
section
attribute [-go_sem] bC bF bK bE bH bL gN
end
def nj(l:List Nd):Nat->LI
 |0=>List.replicate l.length 0
 |i+1=>(l.getD i av).ch.foldl (fun P (c:Int)=>P.set c.toNat (i:Int)) (nj l i)
def Md(i:Int):∀(cs:LI) (P:LI),(cs.foldl (fun P (c:Int)=>P.set c.toNat i) P).length=P.length
 |[],P=>rfl
 |c::cs,P=>by rw[List.foldl_cons,Md i cs];simp
def Vc(l:List Nd):∀i,(nj l i).length=l.length
 |0=>by simp[nj]
 |i+1=>by rw[nj,Md,Vc l i]
def pc(g:Gm)(s t:LL)(f a b p:Nat)(q ch:LI)(k:Nat):Int:=az ((List.zipWith (fun x c=>x*val g s t f c.toNat a b p) q ch).take k)
def Vd{s:LL}{q ch:LI}{x c:Int}(hx:q[k]? =some x)(hc:ch[k]? =some c):pc g s t f a b p q ch (k+1)=pc g s t f a b p q ch k+x*val g s t f c.toNat a b p:=by
 unfold pc;have h:(List.zipWith (fun x c=>x*val g s t f c.toNat a b p) q ch)[k]? =some (x*val g s t f c.toNat a b p):=by
  rw[List.getElem?_zipWith,hx,hc]
 rw[List.take_add_one,h,Option.toList_some,vJ]
def Gz{g:Gm}{s t:LL}(aK:fQ g.nd)(hs:dv g s 0)(ht:dv g t 1){a b:Nat}(ha:a<g.w.length)(hb:b<g.w.length):∀(f i p:Nat),i<g.nd.length->dep g.nd f i<=p-> -(100*pw p)<=val g s t f i a b p/\val g s t f i a b p<=100*pw p
 |0,i,p,_,_=>by
  have:=nV p;simp only[val];omega
 |f+1,i,p,hi,hd=>by
  have mN:=nV p;rw[val]
  (try simp only[])
  by_cases h2:(g.nd.getD i av).p=2
  ·rw[if_pos h2];obtain⟨q1,q2⟩:=Ck aK i a b;have e1:=Int.mul_le_mul_of_nonneg_right q1 (Int.le_of_lt mN);have e2:=Int.mul_le_mul_of_nonneg_right q2 (Int.le_of_lt mN);rw[Int.neg_mul]at e1;exact⟨e1,e2⟩
  ·rw[if_neg h2];obtain⟨d1,d2⟩:=sQ (f:=f) h2;have hx:g.nd[i]? =some (g.nd.getD i av):=by rw[qA,qB hi];rfl
   have hch:=k8 (aK i _ hx);obtain⟨p',rfl⟩:∃p',p=p'+1:=⟨p-1,om⟩;obtain⟨q,hq,CV,lL,xI⟩:∃q,(if(g.nd.getD i av).p=0 then partsOf g s 0 i a else partsOf g t 1 i b)=q/\q.length=(g.nd.getD i av).ch.length/\(∀x∈q,0<=x/\x<=60)/\az q=60:=by
    by_cases h0:(g.nd.getD i av).p=0
    ·rw[if_pos h0];obtain⟨m1,m2,m3⟩:=hs i a hi ha h0;exact⟨_,rfl,m1,m2,m3⟩
    ·rw[if_neg h0];obtain⟨⟨r1,r2⟩,_⟩:=eJ (aK i _ hx);obtain⟨m1,m2,m3⟩:=ht i b hi hb om;exact⟨_,rfl,m1,m2,m3⟩
   rw[hq,Gn _ _ _ CV,Nat.add_sub_cancel];have hb:=F1 (l:=List.range (g.nd.getD i av).ch.length) (F:=fun k=>q.getD k 0*val g s t f ((g.nd.getD i av).ch.getD k 0).toNat a b p') (G:=fun k=>(100*pw p')*q.getD k 0) fun k hk=>by
    have hk:=List.mem_range.1 hk;have hmem:=k9 0 hk;have h1:=hch _ hmem;have h3:=d2 _ hmem;have ih:=Gz aK hs ht ha hb f ((g.nd.getD i av).ch.getD k 0).toNat p' om om;have LR:=lL _ (k9 0 (show k<q.length by omega));obtain⟨m1,m2⟩:=zx LR.1 ih.1 ih.2;exact⟨m1,m2⟩
   rw[k_,←CV,zu,xI]at hb;rw[CV]at hb;have e:100*pw (p'+1)=100*pw p'*60:=by rw[xR];omega
   rw[e];exact hb
def ui(g:Gm)(s t:LL):T:=.box [nodes g.nd,rows g.w,rows g.v,ae (gV g 0),ae (gV g 1),rows s,rows t,ae (nj g.nd g.nd.length)]
def pe(g:Gm)(s t:LL):LA:=[nodes g.nd,rows g.w,rows g.v,ints (gV g 0),ints (gV g 1),rows s,rows t,ints (nj g.nd g.nd.length)]
def jm(g:Gm)(s t:LL)(c3 c4:T)(par:LI):T:=.box [nodes g.nd,rows g.w,rows g.v,c3,c4,rows s,rows t,ae par]
def CW(g:Gm)(q:Int)(b:Bool):T:=if b=true then ae (gV g q)else .zz
def bj2{x:Nd}(hx:l[i]? =some x):nj l (i+1)=x.ch.foldl (fun P (c:Int)=>P.set c.toNat (i:Int)) (nj l i):=by
 rw[nj,qA,hx];rfl
def vZ(P ch:LI)(i k:Nat):LI:=(ch.take k).foldl (fun P (c:Int)=>P.set c.toNat (i:Int)) P
def bj3{P ch:LI}{m:Nat}(h:ch[k]? =some (m:Int)):vZ P ch i (k+1)=(vZ P ch i k).set m (i:Int):=by
 simp only[vZ,bG h,List.foldl_append,List.foldl_cons,List.foldl_nil,Int.toNat_natCast]
def bj4(P ch:LI)(i k:Nat):(vZ P ch i k).length=P.length:=by rw[vZ,Md]
section
attribute [-go_sem] bC bF bK bE bH bL gN
theorem bj5(g:Gm)(s t:Int×LL)(hg:bR g=true):FR 82 [.t (cq g),.t (dw s),.t (dw t)] (ui g s.2 t.2):=by
 obtain⟨p1,p2,p3,p4,p5⟩:=fZ hg;obtain⟨t1,t2,t3,t4⟩:=fX p1;have hfl:∀q j,(iE (idxs g.nd q g.nd.length) g.w.length g.nd.length j).length=g.nd.length:=fun q j=>CP _ _ _ _;have eK:∀q j (n:Nat),(idxs g.nd q g.nd.length)[j]? =some (n:Int)->iE (idxs g.nd q g.nd.length) g.w.length g.nd.length (j+1)=(iE (idxs g.nd q g.nd.length) g.w.length g.nd.length j).set n ((j*g.w.length:Nat):Int):=fun q j n h=>by
  rw[iE,qA,h];rfl
 have hmul:∀n:Nat,n<=g.nd.length->n*g.w.length<=60*6:=fun n hn=>Nat.mul_le_mul om p2.2;have CR:∀q,gV g q=iE (idxs g.nd q g.nd.length) g.w.length g.nd.length (idxs g.nd q g.nd.length).length:=fun q=>rfl;have w1:IntKind.i64.wrap 1=1:=rfl;have w2':IntKind.i64.wrap (1+1)=2:=rfl;refine bi9 sA (aB (bf @cq.eq_1 @dw.eq_1 @nodes.eq_1 @fe) ?_);refine lN (fun q=>St.of [(3,.own 3),(7,.own 27),(28,.t (.i q))] [(3,.box [nodes g.nd,rows g.w,rows g.v]),(27,jm g s.2 t.2 (CW g 0 (decide (0<q))) (CW g 1 (decide (1<q))) (List.replicate g.nd.length 0))]) (fun q=>q<=2) (fun q=>2-q) 0 (aq [3,27] @nodes.eq_1 (hr:=?_)) (fun q hq R hn hr he=>?_)
 ·refine rB (rI ?_ trivial);rw[jm,ae,List.map_replicate];exact .refl _
 ·match q,hq with
  |0,_=>
   refine bQ (dZ @jm.eq_1 @CW.eq_1 @nodes.eq_1 @ae.eq_1 (dt ((0:Int)<2)) @Nat.lt_irrefl @Int.cast_ofNat_Int) ?_;refine Rx (zG g.nd 0 om) (bu @ae.eq_1 ?_);have bq:=o6 g.nd 0 g.nd.length;refine lN (fun j=>St.of [(3,.own 3),(7,.own 27),(8,.t (.i 0)),(28,.t (.i 0)),(44,.own 44),(45,.t (.i (idxs g.nd 0 g.nd.length).length)),(46,.t (.i j))] [(3,.box [nodes g.nd,rows g.w,rows g.v]),(27,jm g s.2 t.2 (ae (iE (idxs g.nd 0 g.nd.length) g.w.length g.nd.length j)) (.zz) (List.replicate g.nd.length 0)),(44,ae (idxs g.nd 0 g.nd.length))]) (fun j=>j<=(idxs g.nd 0 g.nd.length).length) (fun j=>(idxs g.nd 0 g.nd.length).length-j) 0 (aq [3,27,44] @nodes.eq_1 (hr:=?_)) (fun j hj R2 hn2 cP cL=>?_)
   ·refine rB (rI ?_ (rB trivial));simp only[jm,iE,fe,ae,List.map_replicate];exact .refl _
   ·rcases qH j (idxs g.nd 0 g.nd.length).length with h9|h9
    ·obtain⟨y,hy⟩:∃y,(idxs g.nd 0 g.nd.length)[j]? =some y:=⟨_,qB h9⟩;obtain⟨n,rfl,nD⟩:=Gt hy;have hjm:=hmul j om;refine aB (bM @jm.eq_1 @nodes.eq_1 hy @ae.eq_1 (dt ((j:Int)<((idxs g.nd 0 g.nd.length).length:Int)))) ?_;refine⟨_,wO 27 3 500,bQ hfl ?_⟩;refine hn2 _ (j+1) (wT (wC 27 3 500) (aj.o _ _ [some 3,some 27,some 44] ?_ ?_))
     ·exact bZ (ah @nodes.eq_1 (aw h9 om)) trivial
     ·refine rB (rI ?_ (rB trivial));rw[eK _ _ _ hy];simp only[jm,ae,List.map_set];rw[wrap64 (n:=(j:Int)*(g.w.length:Int)) om om,←Int.natCast_mul];exact .refl _
    ·have hjl:j=(idxs g.nd 0 g.nd.length).length:=om;subst hjl;refine aa (bf @jm.eq_1 @nodes.eq_1 @ae.eq_1 (dF (((idxs g.nd 0 g.nd.length).length:Int)<((idxs g.nd 0 g.nd.length).length:Int)))) ?_;refine cL _ _ (ab ?_);rw[←CR];exact hn _ 1 (aq [3,27] (ay @nodes.eq_1 @Int.zero_add w1))
  |1,_=>
   refine bQ (jz @jm.eq_1 @CW.eq_1 @nodes.eq_1 @ae.eq_1 (dt ((1:Int)<2)) @Nat.lt_irrefl @Nat.zero_lt_one @Int.cast_ofNat_Int) ?_;refine Rx (zG g.nd 1 om) (bu @ae.eq_1 ?_);have bq:=o6 g.nd 1 g.nd.length;refine lN (fun j=>St.of [(3,.own 3),(7,.own 27),(8,.t (.i 1)),(28,.t (.i 1)),(44,.own 44),(45,.t (.i (idxs g.nd 1 g.nd.length).length)),(46,.t (.i j))] [(3,.box [nodes g.nd,rows g.w,rows g.v]),(27,jm g s.2 t.2 (ae (gV g 0)) (ae (iE (idxs g.nd 1 g.nd.length) g.w.length g.nd.length j)) (List.replicate g.nd.length 0)),(44,ae (idxs g.nd 1 g.nd.length))]) (fun j=>j<=(idxs g.nd 1 g.nd.length).length) (fun j=>(idxs g.nd 1 g.nd.length).length-j) 0 (aq [3,27,44] @nodes.eq_1 (hr:=?_)) (fun j hj R2 hn2 cP cL=>?_)
   ·refine rB (rI ?_ (rB trivial));simp only[jm,iE,fe,ae,List.map_replicate];exact .refl _
   ·rcases qH j (idxs g.nd 1 g.nd.length).length with h9|h9
    ·obtain⟨y,hy⟩:∃y,(idxs g.nd 1 g.nd.length)[j]? =some y:=⟨_,qB h9⟩;obtain⟨n,rfl,nD⟩:=Gt hy;have hjm:=hmul j om;refine aB (bM @jm.eq_1 @nodes.eq_1 hy @ae.eq_1 (dt ((j:Int)<((idxs g.nd 1 g.nd.length).length:Int)))) ?_;refine⟨_,wO 27 4 500,bQ hfl ?_⟩;refine hn2 _ (j+1) (wT (wC 27 4 500) (aj.o _ _ [some 3,some 27,some 44] ?_ ?_))
     ·exact bZ (ah @nodes.eq_1 (aw h9 om)) trivial
     ·refine rB (rI ?_ (rB trivial));rw[eK _ _ _ hy];simp only[jm,ae,List.map_set];rw[wrap64 (n:=(j:Int)*(g.w.length:Int)) om om,←Int.natCast_mul];exact .refl _
    ·have hjl:j=(idxs g.nd 1 g.nd.length).length:=om;subst hjl;refine aa (bf @jm.eq_1 @nodes.eq_1 @ae.eq_1 (dF (((idxs g.nd 1 g.nd.length).length:Int)<((idxs g.nd 1 g.nd.length).length:Int)))) ?_;refine cL _ _ (ab ?_);rw[←CR];exact hn _ 2 (aq [3,27] (ah @nodes.eq_1 w2'))
  |2,_=>
   refine aa (jz @jm.eq_1 @CW.eq_1 @nodes.eq_1 @ae.eq_1 (dF ((2:Int)<2)) @decide_false @Bool.false_eq_true @Int.cast_ofNat_Int) ?_;refine he _ _ (ab ?_);refine lN (fun i=>St.of [(7,.own 27),(68,.t (nodes g.nd)),(69,.t (.i g.nd.length)),(70,.t (.i i))] [(27,jm g s.2 t.2 (ae (gV g 0)) (ae (gV g 1)) (nj g.nd i))]) (fun i=>i<=g.nd.length) (fun i=>g.nd.length-i) 0 (aq [27] @nodes.eq_1) (fun i hi R3 nG tz mj=>?_)
   ·rcases qH i g.nd.length with h9|h9
    ·obtain⟨x,hx⟩:∃x,g.nd[i]? =some x:=⟨_,qB h9⟩;have hch:=k8 (t2 i _ hx);obtain⟨_,_,_,_,_,bA5⟩:=eJ (t2 i _ hx);refine bQ (ay @nodes.eq_1 (nU hx) (dt ((i:Int)<(g.nd.length:Int)))) ?_;refine⟨by rw[cN];omega,by rw[cN];omega,?_⟩;refine lN (fun k=>St.of [(7,.own 27),(11,.t (.i i)),(68,.t (nodes g.nd)),(69,.t (.i g.nd.length)),(70,.t (.i i)),(76,.t (ints x.ch)),(77,.t (.i x.ch.length)),(78,.t (.i k))] [(27,jm g s.2 t.2 (ae (gV g 0)) (ae (gV g 1)) (vZ (nj g.nd i) x.ch i k))]) (fun k=>k<=x.ch.length) (fun k=>x.ch.length-k) 0 (aq [27] @nodes.eq_1) (fun k hk R4 hn4 D5 he4=>?_)
     ·rcases qH k x.ch.length with jH|jH
      ·obtain⟨c,hc⟩:∃c,x.ch[k]? =some c:=⟨_,qB jH⟩;have hcb:=hch c (qE hc);obtain⟨m,rfl⟩:∃m:Nat,c=m:=⟨c.toNat,om⟩;have aM:(vZ (nj g.nd i) x.ch i k).length=g.nd.length:=(by rw[bj4,Vc]);refine bQ (c5 @jm.eq_1 @nodes.eq_1 @ae.eq_1 hc (dt ((k:Int)<(x.ch.length:Int))) aM) ?_;refine hn4 _ (k+1) (wT (wC 27 7 85) (aj.o _ _ [some 27] ?_ ?_))
       ·exact bZ (ah @nodes.eq_1 (aw jH (show x.ch.length<=1000000000000 by omega))) trivial
       ·refine rI ?_ trivial;rw[bj3 hc];simp only[jm,ae,List.map_set];exact .refl _
      ·refine aa (bf @jm.eq_1 @nodes.eq_1 @ae.eq_1 (dF ((k:Int)<(x.ch.length:Int)))) ?_;refine he4 _ _ (ab ?_);refine nG _ (i+1) (aq [27] (ah @nodes.eq_1 (aw h9 om)) (hr:=?_))
       ·refine rI ?_ trivial;rw[bj2 hx,show k=x.ch.length by omega,vZ,qQ (qR _)];exact .refl _
    ·refine aa (ah @nodes.eq_1 (dF ((i:Int)<(g.nd.length:Int)))) ?_;refine mj _ _ (aa @jm.eq_1 ?_);rw[show i=g.nd.length by omega];rfl
end
def pf(g:Gm)(s t:LL)(i a b:Nat):LI:=if(g.nd.getD i av).p=0 then partsOf g s 0 i a else partsOf g t 1 i b
def Ve{pt:LL}(aK:fQ g.nd)(aM:pl≠2)(h:dv g pt pl)(hi:i<g.nd.length)(hc:c<g.w.length)(hp:(g.nd.getD i av).p=pl):pt[el g pl i c]? =some (partsOf g pt pl i c):=by
 obtain⟨m1,m2,m3⟩:=h i c hi hc hp;unfold partsOf at m3 ⊢;rw[qA]at m3 ⊢;cases hx:pt[el g pl i c]? with
 |some x=>rfl
 |none=>rw[hx]at m3;simp[az]at m3
def bj6{s:LL}(aK:fQ g.nd)(hs:dv g s 0)(ht:dv g t 1)(hi:i<g.nd.length)(ha:a<g.w.length)(hb:b<g.w.length)(h2:(g.nd.getD i av).p≠2):
  (pf g s t i a b).length=(g.nd.getD i av).ch.length/\(∀x∈pf g s t i a b,0<=x/\x<=60)/\az (pf g s t i a b)=60:=by
 have hx:g.nd[i]? =some (g.nd.getD i av):=by rw[qA,qB hi];rfl
 obtain⟨⟨r1,r2⟩,_⟩:=eJ (aK i _ hx);unfold pf;by_cases h0:(g.nd.getD i av).p=0
 ·rw[if_pos h0];exact hs i a hi ha h0
 ·rw[if_neg h0];exact ht i b hi hb om
def bj7{s:LL}(h2:(g.nd.getD i av).p≠2)(hn:(g.nd.getD i av).ch.length<=n):pc g s t f a b (p-1) (pf g s t i a b) (g.nd.getD i av).ch n=val g s t (f+1) i a b p:=by
 rw[val]
 (try simp only[])
 rw[if_neg h2,pc,pf,qQ];rw[List.length_zipWith];omega
def Vf{g:Gm}{s t:LL}(aK:fQ g.nd)(hs:dv g s 0)(ht:dv g t 1){a b:Nat}(ha:a<g.w.length)(hb:b<g.w.length){f p:Nat}{q ch:LI}(hq:∀x∈q,0<=x/\x<=60)(hc:∀c∈ch,0<=c/\c.toNat<g.nd.length/\dep g.nd f c.toNat<=p):∀k,k<=q.length->k<=ch.length-> -(k*(6000*pw p))<=pc g s t f a b p q ch k/\pc g s t f a b p q ch k<=k*(6000*pw p)
 |0,_,_=>by simp[pc,az]
 |k+1,h,h'=>by
  have ih:=Vf aK hs ht ha hb hq hc k om om;have hx:=qB (show k<q.length by omega);have hy:=qB (show k<ch.length by omega);rw[Vd hx hy];have h1:=hq _ (rJ (show k<q.length by omega));have h2:=hc _ (rJ (show k<ch.length by omega));have h3:=Gz aK hs ht ha hb f _ p h2.2.1 h2.2.2;obtain⟨m1,m2⟩:=zx h1.1 h3.1 h3.2;have hp:=nV p;have m3:100*pw p*q[k]<=100*pw p*60:=Int.mul_le_mul_of_nonneg_left h1.2 om;have e:((k+1:Nat):Int)*(6000*pw p)=(k:Int)*(6000*pw p)+6000*pw p:=by rw[Int.natCast_succ,Int.add_mul,Int.one_mul]
  rw[e];generalize (k:Int)*(6000*pw p)=Z at ih ⊢;generalize q[k]*val g s t f (ch[k]).toNat a b p=Y at m1 m2 ⊢;generalize 100*pw p*q[k]=U at m1 m2 m3;omega
def Vg(h:p<=5):1<=pw p/\pw p<=777600000:=by
 have:p=0∨p=1∨p=2∨p=3∨p=4∨p=5:=om;rcases this with rfl|rfl|rfl|rfl|rfl|rfl<;>decide
def gF(g:Gm)(s t:LL)(a b:Nat):Int:=(g.w.getD a []).getD b 0*val g s t g.nd.length 0 a b (eD g)
def bj8(g:Gm)(s t:LL):jJ g s t=az ((List.range g.w.length).map fun a=>az ((List.range g.w.length).map (gF g s t a))):=rfl
def Vh{s:LL}(hg:bR g=true)(hs:dv g s 0)(ht:dv g t 1)(ha:a<g.w.length)(hb:b<g.w.length): -700000000000<=gF g s t a b/\gF g s t a b<=700000000000:=by
 obtain⟨p1,p2,p3,p4,p5⟩:=fZ hg;obtain⟨t1,t2,t3,t4⟩:=fX p1;obtain⟨u1,u2,u3,u4,u5,u6,u7⟩:=vR hg;obtain⟨r,y,h1,h2,h3,h4⟩:=Gb hg ha hb;have hv:=Gz t2 hs ht ha hb g.nd.length 0 (eD g) om om;unfold gF;rw[show(g.w.getD a []).getD b 0=y by simp only[qA,h1,Option.getD_some,h2]];obtain⟨m1,m2⟩:=zx h3 hv.1 hv.2;have m3:100*pw (eD g)*y<=77760000000*9:=Int.mul_le_mul om h4 h3 dc;omega
def Vi(F:Nat->Int)(n:Nat):az ((List.range (n+1)).map F)=az ((List.range n).map F)+F n:=by
 rw[List.range_succ,qG,List.map_cons,List.map_nil,vJ]
def Vj{s:LL}(hg:bR g=true)(hs:dv g s 0)(ht:dv g t 1)(ha:a<g.w.length)(hn:n<=g.w.length): -(n*700000000000)<=az ((List.range n).map (gF g s t a))/\az ((List.range n).map (gF g s t a))<=n*700000000000:=
 x4 fun b hb=>Vh hg hs ht ha om
def bj9{s:LL}(hg:bR g=true)(hs:dv g s 0)(ht:dv g t 1)(hn:n<=g.w.length): -(n*4200000000000)<=az ((List.range n).map fun a=>az ((List.range g.w.length).map (gF g s t a)))/\az ((List.range n).map fun a=>az ((List.range g.w.length).map (gF g s t a)))<=n*4200000000000:=by
 obtain⟨p1,p2,p3,p4,p5⟩:=fZ hg;refine x4 fun a ha=>?_;have h:=Vj hg hs ht (a:=a) om (qR g.w.length);omega
section
attribute [-go_sem] bC bF bK bE bH bL gN
def bk0{s:LL}(hg:bR g=true)(hs:dv g s 0)(ht:dv g t 1)(hi:i<g.nd.length)(ha:a<g.w.length)(hb:b<g.w.length)(h2:(g.nd.getD i av).p≠2):
  Pr 142 [.ax (pe g s t) 0,.i i,.i a,.i b] (ints (pf g s t i a b)):=by
 obtain⟨p1,p2,p3,p4,p5⟩:=fZ hg;obtain⟨t1,t2,t3,t4⟩:=fX p1;obtain⟨x,hx⟩:∃x,g.nd[i]? =some x:=⟨_,qB hi⟩;have dM:g.nd.getD i av=x:=by rw[qA,hx];rfl
 obtain⟨⟨r1,r2⟩,_⟩:=eJ (t2 _ _ hx);rw[dM]at h2;refine am4 sA ?_;have Ad:x.p=0∨x.p=1:=om;rcases Ad with h0|h0
 ·have dm:(g.nd.getD i av).p=0:=by rw[dM];exact h0
  have hrow:=Ve t2 dc hs hi ha dm;have x9:=Gs hi dm;have d_:=CQ g 0;have hrl:=(qK.1 hrow).1;have eE:el g 0 i a=(idxs g.nd 0 i).length*g.w.length+a:=rfl;have bq:=o6 g.nd 0 i;have hm:(idxs g.nd 0 i).length*g.w.length<=60*6:=Nat.mul_le_mul om p2.2;rw[pf,if_pos dm];refine aa (tC @pe.eq_1 @nodes.eq_1 (KW hx) h0 x9 hrow d_ (show((0:Int)==1)=false from rfl) (show IntKind.i64.wrap ((((idxs g.nd 0 i).length*g.w.length:Nat):Int)+(a:Int))=((el g 0 i a:Nat):Int) by rw[wrap64 om om];omega)) ?_;rw[cN];omega
 ·have dm:(g.nd.getD i av).p=1:=by rw[dM];exact h0
  have hrow:=Ve t2 dc ht hi hb dm;have x9:=Gs hi dm;have d_:=CQ g 1;have hrl:=(qK.1 hrow).1;have eE:el g 1 i b=(idxs g.nd 1 i).length*g.w.length+b:=rfl;have bq:=o6 g.nd 1 i;have hm:(idxs g.nd 1 i).length*g.w.length<=60*6:=Nat.mul_le_mul om p2.2;rw[pf,if_neg om];refine aa (tC @pe.eq_1 @nodes.eq_1 (KW hx) h0 x9 hrow d_ (show((1:Int)==1)=true from rfl) (show IntKind.i64.wrap ((((idxs g.nd 1 i).length*g.w.length:Nat):Int)+(b:Int))=((el g 1 i b:Nat):Int) by rw[wrap64 om om];omega)) ?_;rw[cN];omega
def bk1{s:LL}(hg:bR g=true)(hs:dv g s 0)(ht:dv g t 1)(hi:i<g.nd.length)(ha:a<g.w.length)(hb:b<g.w.length)(h2:(g.nd.getD i av).p≠2):
  Pr 142 [.ax [.sh 5 (chunk c_ g.nd),.sh 1 (g.w.map ints),.sh 1 (g.v.map ints),.sh 1 ((gV g 0).map T.i),.sh 1 ((gV g 1).map T.i),.sh 1 (s.map ints),.sh 1 (t.map ints),.sh 1 ((nj g.nd g.nd.length).map T.i)] 0,.i i,.i a,.i b] (ints (pf g s t i a b)):=bk0 hg hs ht hi ha hb h2
def Vk{s:LL}{i a b p:Int}{r:Int}(h:Pr 83 [.ax (pe g s t) 0,.i i,.i a,.i b,.i p] (.i r)):
  Pr 83 [.ax [.sh 5 (chunk c_ g.nd),.sh 1 (g.w.map ints),.sh 1 (g.v.map ints),.sh 1 ((gV g 0).map T.i),.sh 1 ((gV g 1).map T.i),.sh 1 (s.map ints),.sh 1 (t.map ints),.sh 1 ((nj g.nd g.nd.length).map T.i)] 0,.i i,.i a,.i b,.i p] (.i r):=h
def bk2{s:LL}(hg:bR g=true)(hs:dv g s 0)(ht:dv g t 1)(ha:a<g.w.length)(hb:b<g.w.length):∀(f i p:Nat),g.nd.length<=i+f->i<g.nd.length->dep g.nd f i<=p->p<=5→
  Pr 83 [.ax (pe g s t) 0,.i i,.i a,.i b,.i p] (.i (val g s t f i a b p)):=by
 obtain⟨p1,p2,p3,p4,p5⟩:=fZ hg;obtain⟨t1,t2,t3,t4⟩:=fX p1;have o5:=Ck t2;intro f;induction f with
 |zero=>intro i p h1 h2;omega
 |succ f ih=>
  intro i p hf hi hdp Gk;obtain⟨x,hx⟩:∃x,g.nd[i]? =some x:=⟨_,qB hi⟩;have dM:g.nd.getD i av=x:=by rw[qA,hx];rfl
  have nv:=(eJ (t2 _ _ hx)).2.2.2.2.2;have hpw:=Vg Gk;have vU:x.p=2->val g s t (f+1) i a b p=gw g i a b*pw p:=fun h=>by rw[val];(try simp only[]);rw[if_pos (by rw[dM];exact h)]
  have mr:x.p≠2->∀n,x.ch.length<=n->pc g s t f a b (p-1) (pf g s t i a b) x.ch n=val g s t (f+1) i a b p:=fun h n hn=>by
   have:=bj7 (g:=g) (s:=s) (t:=t) (f:=f) (i:=i) (a:=a) (b:=b) (p:=p) (n:=n) (by rw[dM];exact h) (by rw[dM];exact hn);rw[dM]at this;exact this
  generalize val g s t (f+1) i a b p=V' at vU mr ⊢;refine ah6 sA (aB (ay @pe.eq_1 @nodes.eq_1 (nU hx)) ?_);refine⟨by rw[cN];omega,by rw[cN];omega,?_⟩;refine⟨fun h2=>?_,fun h2=>?_⟩
  ·have h2:x.p=2:=sU h2;rw[vU h2];refine Px (L6 hg i a b hi ha hb) (ab ?_);refine Px (Lj p om) (ab ?_);have q1:=o5 i a b;have m1:=Int.mul_le_mul_of_nonneg_right q1.2 (show 0<=pw p by omega);have m2:=Int.mul_le_mul_of_nonneg_right q1.1 (show 0<=pw p by omega);rw[wrap64 (n:=gw g i a b*pw p) om om]
  ·have h2:x.p≠2:=sU h2;have hp2:(g.nd.getD i av).p≠2:=by rw[dM];exact h2
   obtain⟨d1,d2⟩:=sQ (f:=f) hp2;rw[dM]at d2;have hch:=k8 (t2 _ _ hx);obtain⟨c1,c2,c3⟩:=bj6 t2 hs ht hi ha hb hp2;rw[dM]at c1;obtain⟨p',rfl⟩:∃p',p=p'+1:=⟨p-1,om⟩;have bA6:=Vg (show p'<=5 by omega);have rj:∀c∈x.ch,0<=c/\c.toNat<g.nd.length/\dep g.nd f c.toNat<=p':=fun c hc=>by
    have h1:=hch c hc;have h3:=d2 c hc;omega
   refine Rx (bk1 hg hs ht hi ha hb hp2) (bu @ints.eq_1 ?_);rw[Nat.add_sub_cancel]at mr;generalize pf g s t i a b=q at mr c1 c2 c3 ⊢;have Vl:=Vf t2 hs ht ha hb (f:=f) c2 rj;refine lN (fun k=>St.of [(0,.t (.ax (pe g s t) 0)),(1,.t (.i i)),(2,.t (.i a)),(3,.t (.i b)),(4,.t (.i (p'+1:Nat))),(11,.own 11),(12,.t (.i (pc g s t f a b p' q x.ch k))),(42,.t (ints q)),(43,.t (.i q.length)),(44,.t (.i k))] [(11,.box [.i x.p,.i x.a,.i x.b,.i x.f,ints x.ch])]) (fun k=>k<=q.length) (fun k=>q.length-k) 0 (aq [11] (ay @pe.eq_1 @nodes.eq_1 (show pc g s t f a b p' q x.ch 0=0 from rfl))) (fun k hk R hn hr he=>?_)
   ·rcases qH k q.length with h9|h9
    ·obtain⟨y,hy⟩:∃y,q[k]? =some y:=⟨_,qB h9⟩;obtain⟨c,hc⟩:∃c,x.ch[k]? =some c:=⟨_,qB om⟩;have fC:=c2 y (qE hy);have hcb:=rj c (qE hc);have bA7:=hch c (qE hc);have hsu:=Vd (g:=g) (s:=s) (t:=t) (f:=f) (a:=a) (b:=b) (p:=p') hy hc;have k1:=Vl k om om;have k2:=Vl (k+1) om om;have k3:(k:Int)*(6000*pw p')<=4*4665600000000:=Int.mul_le_mul om om om dc;have k4:((k+1:Nat):Int)*(6000*pw p')<=4*4665600000000:=Int.mul_le_mul om om om dc;refine aB (dZ @pe.eq_1 @nodes.eq_1 hy hc (dt ((k:Int)<(q.length:Int))) (wrap64 (n:=(p':Int)) om om) (show((p'+1:Nat):Int)-1=(p':Int) by omega)) ?_;refine⟨fun h5=>⟨om,om,om,?_⟩,fun h5=>?_⟩
     ·have b_:=Vk (ih c.toNat p' om hcb.2.1 hcb.2.2 om);rw[show((c.toNat:Nat):Int)=c by omega]at b_;have yD:=Gz t2 hs ht ha hb f c.toNat p' hcb.2.1 hcb.2.2;obtain⟨m1,m2⟩:=zx fC.1 yD.1 yD.2;have m3:100*pw p'*y<=77760000000*60:=Int.mul_le_mul om fC.2 fC.1 dc;refine Px b_ (ab ?_);refine hn _ (k+1) (aj.o _ _ [some 11] ?_ ?_)
      ·simp -implicitDefEqProofs only[fc,Nat.reduceBEq,Nat.reduceEqDiff, ↓reduceIte,pe,nodes,aw h9 om,wrap64 (n:=y*val g s t f c.toNat a b p') om om,←hsu,wrap64 (n:=pc g s t f a b p' q x.ch (k+1)) om om]
      ·exact rB trivial
     ·have hy0:y=0:=by have:¬y>0:=sU h5
                       omega
      rw[hy0,Int.zero_mul,Int.add_zero]at hsu;exact hn _ (k+1) (aq [11] (bf @pe.eq_1 @nodes.eq_1 (aw h9 om) hsu))
    ·refine aa (ay @pe.eq_1 @nodes.eq_1 (dF ((k:Int)<(q.length:Int)))) ?_;refine he _ _ (ab ?_);rw[mr h2 k om]
def bk3(g:Gm)(s t:Int×LL)(hg:bR g=true):FR 82 [.t (.agg [.sh 5 (chunk c_ g.nd),.sh 1 (g.w.map ints),.sh 1 (g.v.map ints)]),.t (.agg [.i s.1,.sh 1 (s.2.map ints)]),.t (.agg [.i t.1,.sh 1 (t.2.map ints)])] (ui g s.2 t.2):=bj5 g s t hg
def gS(g:Gm)(s t:LL)(a:Nat):Int:=az ((List.range a).map fun a=>az ((List.range g.w.length).map (gF g s t a)))
def gT(g:Gm)(s t:LL)(a b:Nat):Int:=gS g s t a+az ((List.range b).map (gF g s t a))
def bk4(g:Gm)(s t:LL)(a:Nat):gT g s t a 0=gS g s t a:=by simp[gT,az]
def bk5(g:Gm)(s t:LL)(a b:Nat):gT g s t a (b+1)=gT g s t a b+gF g s t a b:=by rw[gT,Vi,gT,Int.add_assoc]
def bk6(g:Gm)(s t:LL)(a:Nat):gT g s t a g.w.length=gS g s t (a+1):=by rw[gT,gS,gS,Vi]
def Vm{s:LL}(hg:bR g=true)(hs:dv g s 0)(ht:dv g t 1)(ha:a<g.w.length)(hb:b<=g.w.length): -30000000000000<=gT g s t a b/\gT g s t a b<=30000000000000:=by
 obtain⟨p1,p2,p3,p4,p5⟩:=fZ hg;have h1:=bj9 hg hs ht (n:=a) om;have h2:=Vj hg hs ht ha hb;unfold gT gS;omega
def bk7{t:Int×LL}(hg:bR g=true)(hs:dv g s.2 0)(ht:dv g t.2 1):Pr 37 [cq g,dw s,dw t] (.i (jJ g s.2 t.2)):=by
 obtain⟨p1,p2,p3,p4,p5⟩:=fZ hg;obtain⟨t1,t2,t3,t4⟩:=fX p1;obtain⟨u1,u2,u3,u4,u5,u6,u7⟩:=vR hg;refine ae1 sA (aa (ay @cq.eq_1 @dw.eq_1 @nodes.eq_1) ?_);refine Rx (bk3 g s t hg) (bu (bf @ui.eq_1 @ae.eq_1 @nodes.eq_1 @rows.eq_1) ?_);refine Px (Cr (F7 t2 om g.nd.length 0 om om om)) (ab ?_);rw[u2];refine lN (fun a=>St.of [(7,.own 17),(8,.t (.i (eD g))),(9,.t (.i (gS g s.2 t.2 a))),(22,.t (rows g.w)),(23,.t (.i g.w.length)),(24,.t (.i a))] [(17,ui g s.2 t.2)]) (fun a=>a<=g.w.length) (fun a=>g.w.length-a) 0 (aq [17] (bf @gS.eq_1 @List.range_zero @az.eq_1 @az.eq_2)) (fun a ha R hn hr he=>?_)
 ·rcases qH a g.w.length with h9|h9
  ·obtain⟨r,b9⟩:∃r,g.w[a]? =some r:=⟨_,qB h9⟩;have hrl:=((vO.1 p3).2 r (qE b9)).1;refine aB (bM @ui.eq_1 @nodes.eq_1 @ae.eq_1 b9 (dt ((a:Int)<(g.w.length:Int)))) ?_;refine lN (fun b=>St.of [(7,.own 17),(8,.t (.i (eD g))),(9,.t (.i (gT g s.2 t.2 a b))),(10,.t (.i a)),(22,.t (rows g.w)),(23,.t (.i g.w.length)),(24,.t (.i a)),(29,.t (ints r)),(30,.t (.i r.length)),(31,.t (.i b))] [(17,ui g s.2 t.2)]) (fun b=>b<=g.w.length) (fun b=>g.w.length-b) 0 (aq [17] @bk4) (fun b hb R2 hn2 cP cL=>?_)
   ·rcases qH b g.w.length with h8|h8
    ·obtain⟨r',y,fE,hy,hy0,hy9⟩:=Gb hg h9 h8;rw[b9,Option.some.injEq]at fE;subst fE;have eR:=bk5 g s.2 t.2 a b;have hgf:=Vh hg hs ht h9 h8;have k1:=Vm hg hs ht h9 (b:=b) om;have k2:=Vm hg hs ht h9 (b:=b+1) om;have hF:gF g s.2 t.2 a b=y*val g s.2 t.2 g.nd.length 0 a b (eD g):=by
      unfold gF;simp only[qA,b9,Option.getD_some,hy]
     refine aB (bM @ui.eq_1 @nodes.eq_1 @ae.eq_1 hy (dt ((b:Int)<(r.length:Int)))) ?_;refine⟨fun h5=>?_,fun h5=>?_⟩
     ·have b_:=Vk (bk2 hg hs ht h9 h8 g.nd.length 0 (eD g) om om om u3);refine bz.pure b_ [17] rfl Tryz.call83 ?_ trivial rfl ?_
      ·exact pZ (ay @T.cr.eq_1 @T.cr.eq_2 @zB) trivial
      refine ab ?_;refine hn2 _ (b+1) (aj.o _ _ [some 17] ?_ ?_)
      ·simp -implicitDefEqProofs only[fc,Nat.reduceBEq,Nat.reduceEqDiff, ↓reduceIte,aw h8 om,←hF,wrap64 (n:=gF g s.2 t.2 a b) om om,←eR,wrap64 (n:=gT g s.2 t.2 a (b+1)) om om]
      ·exact rB trivial
     ·have hy0:y=0:=by have:¬y>0:=sU h5
                       omega
      rw[hF,hy0,Int.zero_mul,Int.add_zero]at eR;exact hn2 _ (b+1) (aq [17] (ah (aw h8 om) eR))
    ·refine aa (bf @ui.eq_1 @nodes.eq_1 @ae.eq_1 (dF ((b:Int)<(r.length:Int)))) ?_;refine cL _ _ (ab ?_);refine hn _ (a+1) (aj.o _ _ [some 17] ?_ ?_)
     ·simp -implicitDefEqProofs only[fc,Nat.reduceBEq,Nat.reduceEqDiff, ↓reduceIte,aw h9 om,←bk6,show b=g.w.length by omega]
     ·exact rB trivial
  ·refine aa (bf @ui.eq_1 @nodes.eq_1 @ae.eq_1 (dF ((a:Int)<(g.w.length:Int)))) ?_;refine he _ _ (ab ?_);rw[show a=g.w.length by omega,bj8];rfl
def bk8{t:Int×LL}(h:iF g s t=true):bR g=true/\dv g s.2 0/\dv g t.2 1:=by
 obtain⟨h1,h2,h3,h4,h5⟩:=vX.1 h;rw[h2]at h4;rw[h3]at h5;exact⟨h1,zD h4,zD h5⟩
end
def bk9{t:Int×LL}(h:iF g s t=true):0<=gm g t-jJ g s.2 t.2/\0<=gm g s+jJ g s.2 t.2/\gm g t-jJ g s.2 t.2+(gm g s+jJ g s.2 t.2)=mu g s t/\0<=mu g s t/\ -gm g s<=jJ g s.2 t.2/\jJ g s.2 t.2<=gm g t:=by
 obtain⟨h1,h2,h3⟩:=bk8 h;obtain⟨_,_,h4,h5⟩:=Gv h;have b1:=bf6 (g:=g) (s:=s.2) (t:=t.2) h1 h2 h3;have b2:=bf7 (g:=g) (s:=s.2) (t:=t.2) h1 h2 h3;have e1:gm g t=fY g t.2 0 g.w.length:=by rw[gm,h5];rfl
 have e2:gm g s=fY g s.2 1 g.w.length:=by rw[gm,h4];rfl
 rw[mu,e1,e2];omega
def bl0(cs:LI):Pr 4 [bytes cs] (.b (decide ((cs.length:Int)>4096))):=by
 exact ab5 sA (aa @bytes.eq_1 trivial)
def Me(a b:LI)(ha:a.length<=1000000000000)(hb:b.length<=1000000000000):Pr 32 [ints a,ints b] (.b (decide (a=b))):=by
 refine ad7 sA (xn @ints.eq_1 ?_);refine⟨fun h=>?_,fun h=>?_⟩
 ·have:a≠b:=by rintro rfl;simp at h
  simp[this]
 ·have hab:a.length=b.length:=by simp at h;omega
  refine lN (fun i=>St.of [(0,.t (ints a)),(1,.t (ints b)),(5,.t (.i i))] []) (fun i=>i<=a.length/\∀j,j<i->a[j]? =b[j]?) (fun i=>a.length-i) 0 (aj.o _ [] [] ?_ trivial) (fun i hI R hn hr he=>?_) (hi:=⟨sA,fun j hj=>om⟩)
  ·simp -implicitDefEqProofs only[ints,oD,Nat.reduceEqDiff, ↓reduceIte]
  ·refine xn (ah @ints.eq_1 @Et) ?_;refine⟨fun h=>⟨om,om,om,fun c x hx hc=>⟨om,om,om,fun c' y hy eY=>?_⟩⟩,fun h=>he _ _ ?_⟩
   ·subst hc eY;refine tE ?_;refine⟨fun h1=>hr _ ?_,fun h1=>hn _ (i+1) (aj.o _ [] [] ?_ trivial) ⟨om,fun j hj=>?_⟩⟩
    ·refine tE ?_;have:a≠b:=by rintro rfl;rw[hx]at hy;cases hy;simp at h1
     simp[this]
    ·simp -implicitDefEqProofs only[ints,oD,Nat.reduceEqDiff, ↓reduceIte,aw (by omega:i<a.length) ha]
    ·rcases qH j i with h|h
     ·exact hI.2 j h
     ·have:j=i:=om;subst this;rw[hx,hy];simpa using h1
   ·refine tE ?_;have:a=b:=by
     refine List.ext_getElem? fun j=>?_;rcases qH j i with h|h
     ·exact hI.2 j h
     ·rw[qP om,qP om]
    simp[this]
def Vn(l:LI)(h:nx l):Pr 14 [ints l] (.i l.sum):=by
 have hl:=h.1;refine ac2 sA (ab ?_);refine lN (fun i=>St.of [(0,.t (ints l)),(3,.t (.i (l.take i).sum)),(4,.t (.i i))] []) (fun i=>i<=l.length) (fun i=>l.length-i) 0 (eU (ah @List.take_zero.{0} @List.sum_nil.{0})) (fun i hi R hn hr he=>?_)
 ·refine ab ?_;refine⟨fun h1=>⟨om,om,om,fun x hx=>?_⟩,fun h1=>he _ _ ?_⟩
  ·have e:=IT (l.take i) x;rw[←bG hx]at e;have hb:=A_ h (i+1);refine hn _ (i+1) (aj.o _ [] [] ?_ trivial);simp -implicitDefEqProofs only[fc,Nat.reduceBEq,Nat.reduceEqDiff, ↓reduceIte,aw (by omega:i<l.length) om,←e,wrap64 (n:=(l.take (i+1)).sum) om om]
  ·refine ab ?_;rw[qQ om]
section
attribute [-go_sem] bC bF bK bE bH bL gN
end
def Vo{m:LL}(h:zN m):kA m:=⟨by have:=h.1;omega,fun r hr=>by have:=h.2 r hr;omega⟩
section
attribute [-go_sem] bC bF bK bE bH bL gN
def Vp(g:Gm)(s t:Int×LL)(hg:qz g)(hs:kA s.2)(ht:kA t.2)(h:iF g s t=true):Pr 16 [.agg [.sh 5 (chunk c_ g.nd),.sh 1 (g.w.map ints),.sh 1 (g.v.map ints)],.agg [.i s.1,.sh 1 (s.2.map ints)],.agg [.i t.1,.sh 1 (t.2.map ints)]] (vY (jJ g s.2 t.2,unit g,0)):=by
 obtain⟨q1,q2,q3,q4,q5⟩:=vX.1 h;rw[q2]at q4;rw[q3]at q5;refine ac4 sA (ab ?_);have hq:=Mb (Va g s t hg hs ht);rw[h]at hq;refine Px hq (ab ?_);have hq:=Gx (bk7 (s:=s) (t:=t) q1 (zD q4) (zD q5));refine V hq (ab ?_);exact V (Ma (Uw g q1)) (aa @vY.eq_1 trivial)
end
end Go.Ab
