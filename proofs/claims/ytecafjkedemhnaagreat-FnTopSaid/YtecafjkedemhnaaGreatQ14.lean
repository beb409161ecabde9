import Derived.Test.YtecafjkedemhnaaGreatQ13
set_option maxRecDepth 20000
set_option linter.all false
set_option maxHeartbeats 1000000
namespace Go.Ab
open Go.Proofs
variable{c i k n:Nat}{hi lo pl:Int}{m w:LL}{r reach:LI}
def oW(D:LI)(n k h:Nat):LI:=fh k fun j=>D.getD (j*n+h) 0
def oX(D:LI)(n k:Nat):LL:=fh n (oW D n k)
section
attribute [-go_sem] bC bF bK bE bH bL
def aW4(D:LI)(hD:D.length=52)(hC:ce D)(n k:Nat)(h2:2<=n)(h6:n<=6)(hk:k=2∨k=4):FR 145 [.t (ints D),.t (.i n),.t (.i k)] (.aI [a_ (oX D n k),.i 0]):=by
 have q1:=aW3 D hD hC;have q2:=eN n 1 10;rw[dt ((1:Int)<=n/\(n:Int)<=10)]at q2;have hdv:(52:Int).tdiv n=((52/n:Nat):Int):=by rw[rV om];rfl
 have h52:4<=52/n/\52/n<=52:=⟨(Nat.le_div_iff_mul_le om).2 om,Nat.div_le_self _ _⟩;have hdw:IntKind.i64.wrap ((52:Int).tdiv n)=((52/n:Nat):Int):=by rw[hdv,wrap64 om om]
 have q3:=eN k 0 ((52/n:Nat):Int);rw[dt ((0:Int)<=k/\(k:Int)<=((52/n:Nat):Int))]at q3;refine am7 sA (ab ?_);refine Px q1 (bP ?_);refine Px q2 (bQ hdw ?_);refine Px q3 (bP ?_);refine lN (fun i=>St.of [(0,.t (ints D)),(1,.t (.i n)),(2,.t (.i k)),(8,.own 98),(9,.t (.i i))] [(98,.arr 1 (((oX D n k).take i).map ae))]) (fun i=>i<=n) (fun i=>n-i) 0 (cH [25]) (fun i hi R hn hr he=>?_)
 ·rcases qH i n with h9|h9
  ·refine aa (dt ((i:Int)<(n:Int))) ?_;refine lN (fun j=>St.of [(0,.t (ints D)),(1,.t (.i n)),(2,.t (.i k)),(8,.own 98),(9,.t (.i i)),(10,.own 90),(11,.t (.i j))] [(98,.arr 1 (((oX D n k).take i).map ae)),(90,.arr 1 (((oW D n k i).take j).map T.i))]) (fun j=>j<=k) (fun j=>k-j) 0 (cH [98,31]) (fun j hj R2 hn2 cP cL=>?_)
   ·have pX:(((oW D n k i).take j).length)<=4:=by rw[qL];omega
    rcases qH j k with h8|h8
    ·have hjn:j*n<=18:=by
      have:j<=3:=om;exact rA (Nat.mul_le_mul this h6) dc
     have hx:=dD (l:=D) (i:=j*n+i) om;have hR:(oW D n k i)[j]? =some (D.getD (j*n+i) 0):=(by rw[oW,gj h8]);have hw1:IntKind.i64.wrap ((j:Int)*(n:Int))=((j*n:Nat):Int):=(by rw[←Int.natCast_mul,wrap64 om om]);have dr:IntKind.i64.wrap (((j*n:Nat):Int)+(i:Int))=((j*n+i:Nat):Int):=by rw[wrap64 om om];omega
     refine aB (bf (dt ((j:Int)<(k:Int))) hw1 dr hx) ?_;exact hn2 _ (j+1) (aq [98,47] (aw h8 om) (hr:=rB (rK rfl (by rw[bG hR,qG];exact .refl _) trivial)))
    ·refine aa (dF ((j:Int)<(k:Int))) ?_;refine cL _ _ ?_;have hL:(oX D n k)[i]? =some (oW D n k i):=(by rw[oX,gj h9]);rw[qQ (show(oW D n k i).length<=j by rw[oW,fx];exact h8)];have bA0:(((oX D n k).take i).length)<=6:=by rw[qL];omega
     refine tD ?_;exact hn _ (i+1) (aq [51] (aw h9 om) (hr:=rK rfl (by rw[bG hL,qG];exact .refl _) trivial))
  ·refine aa (dF ((i:Int)<(n:Int))) ?_;refine he _ _ ?_;rw[qQ (show(oX D n k).length<=i by rw[oX,fx];exact h9)];exact aa @a_.eq_1 trivial
end
def aW5:=cO Tryz.func17 (H:=⟨[(12,0,.r false [1000000000,41,44,46,48,50,51]),(12,2,.r false [1000000000,41,44,46,48,50,51]),(12,3,.r false [1000000000,41,44,46,48,50,51]),(12,5,.r false [1000000000,41,44,46,48,50,51]),(12,7,.r false [1000000000,41,44,46,48,50,51]),(12,4,.h (some [41]) []),(12,6,.h (some [1000000000]) []),(12,8,.h (some [1000000000]) []),(12,11,.h (some [41,44]) [])],[10,12,16]⟩)
def aW6:=cO Tryz.func38 (H:=⟨[(2,0,.r false [1000000000,14,16]),(2,1,.r false [1000000000,14,16]),(2,3,.r false [1000000000,14,16]),(2,2,.h (some [1000000000]) []),(2,4,.h (some [1000000000]) []),(11,0,.r false [52,55,57,58]),(11,2,.r false [52,55,57,58]),(11,3,.r false [52,55,57,58]),(11,5,.r false [52,55,57,58]),(11,4,.h (some [52]) []),(11,7,.h (some [52,55]) [])],[2,11]⟩)
def aW7:=cO Tryz.func40 (H:=⟨[(11,0,.r false [34,37,40,41]),(11,2,.r false [34,37,40,41]),(11,3,.r false [34,37,40,41]),(11,5,.r false [34,37,40,41]),(11,6,.r false [34,37,40,41]),(11,4,.h (some [34]) []),(11,8,.h (some [34,37]) [])],[11]⟩)
def aW8:=cO Tryz.func85 (H:=⟨[],[15]⟩)
def aW9:=cO Tryz.func86 (H:=⟨[(3,16,.h (some [1000000000]) []),(3,19,.h (some [1000000000,34]) []),(3,0,.r false [1000000000,32,34,35]),(3,1,.r false [1000000000,32,34,35]),(3,2,.r false [1000000000,32,34,35]),(3,3,.r false [1000000000,32,34,35]),(3,4,.r false [1000000000,32,34,35]),(3,5,.r false [1000000000,32,34,35]),(3,6,.r false [1000000000,32,34,35]),(3,7,.r false [1000000000,32,34,35]),(3,8,.r false [1000000000,32,34,35])],[1000]⟩)
def KT(h:Hd):T:=.agg [ints h.t.st,.i h.t.bn,.i h.t.sm,.i h.t.bg,.i h.t.an,.i h.t.lm,.i h.v,.arr 1 (h.ho.map ints),ae h.bd,.zz]
def aX0{D:LI}(hD:D.length=52)(h:n*k+5<=52):((D.map T.i).drop (n*k)).take (n*k+5-n*k)=(qw D n k).map T.i:=by
 rw[←List.map_drop,←List.map_take];congr 1;refine List.ext_getElem? fun i=>?_;rw[List.getElem?_take,List.getElem?_drop,qw,qU];rcases qH i 5 with h5|h5
 ·rw[if_pos om,dD om,qU,List.getElem?_range h5];rfl
 ·rw[if_neg om,qP (by simp;omega)];rfl
def aX1(D:LI)(n k b:Nat):ub D n k b=fh n fun s=>oW D n k ((s+n-(b+1)%n)%n):=by
 refine rW fun s _=>?_;rw[FM,List.map_map];rfl
def nS(D:LI)(n k b i:Nat):LA:=fh n fun s=>if(s+n-(b+1)%n)%n<i then ints (oW D n k ((s+n-(b+1)%n)%n))else .zz
def aX2(D:LI)(n k b:Nat):nS D n k b 0=List.replicate n (.zz):=by
 refine List.ext_getElem? fun s=>?_;rcases qH s n with h|h
 ·rw[nS,gj h,rM,if_pos h];rfl
 ·rw[qP (by rw[nS,fx];exact h),qP (sU h)]
def aX3(D:LI){b:Nat}(h:0<n):nS D n k b n=(ub D n k b).map ints:=by
 rw[aX1,nS,fh,fh,List.map_map];exact rW fun s _=>if_pos (Nat.mod_lt _ h)
def aX4(D:LI){b:Nat}(h2:2<=n)(h6:n<=6)(hb:b<n)(hi:i<n):(nS D n k b i).set ((b+1+i)%n) (ints (oW D n k i))=nS D n k b (i+1):=by
 obtain⟨h1,h3⟩:=aV6 h2 h6 hb hi;refine List.ext_getElem? fun s=>?_;have hl:(nS D n k b i).length=n:=fx;rw[List.getElem?_set,hl];rcases qH s n with h|h
 ·rw[nS,nS,gj h,gj h];by_cases e:(b+1+i)%n=s
  ·subst e;rw[if_pos rfl,if_pos h,h1,if_pos om]
  ·have:=h3 s h (Ne.symm e);rw[if_neg e];by_cases hlt:(s+n-(b+1)%n)%n<i
   ·rw[if_pos hlt,if_pos om]
   ·rw[if_neg hlt,if_neg om]
 ·rw[qP (by rw[hl];exact h),qP (by rw[nS,fx];exact h),if_neg (by have:=Nat.mod_lt (b+1+i) (show 0<n by omega);omega)]
section
attribute [-go_sem] bC bF bK bE bH bL
def sO(t:Tb)(v s:Int):Hd:=⟨t,v,ub (vG s) t.st.length (gu v) t.bn.toNat,qw (vG s) t.st.length (gu v),[]⟩
def aX5{t:Tb}(ht:cR t){v:Int}(hv:0<=v/\v<=2){s:Int}(hs:1<=s/\s<=2147483646):cU (sO t v s):=by
 have n2:=ht.1;have hb:=ht.2.2.1;have hD:=Tx (s:=s) om;have KU:gu v=2∨gu v=4:=by rw[gu];split<;>simp
 refine⟨ht,hv,by simp[sO,ub],by simp[sO,qw],by simp[sO],fun r hr=>?_,?_⟩
 ·obtain⟨i,_,rfl⟩:=qN.1 hr;simp[FM,sO]
 ·exact decide_eq_true (aV7 hD.1 hD.2 n2.1 n2.2 KU om)
def aX6(t:Tb)(ht:cR t)(v:Int)(hv:0<=v/\v<=2)(s:Int)(hs:1<=s/\s<=2147483646):FR 85 [.t (cY t),.t (.i v),.t (.i s)] (.aI [KT (sO t v s),.i 0]):=by
 have n2:=ht.1;have lx:=ht.2.2.1;have q1:=PT t om;rw[decide_eq_true ht]at q1;simp only[cY]at q1;have q2:=QP v;rw[decide_eq_true hv]at q2;have q3:=aW0 s;rw[decide_eq_true hs]at q3;have hst:∃l,E7= .arr 6 l/\l.length=48/\l.all T.cell=true/\l[v.toNat*6]? =some (.i (gu v)):=by
  rcases(show v=0∨v=1∨v=2 by omega)with e|e|e<;>(rw[e];exact⟨_,rfl,rfl,rfl,rfl⟩)
 obtain⟨sl,dy,QW,aE1,E9⟩:=hst;have qs:=JF;rw[dy]at qs;obtain⟨n,hn⟩:∃n,n=t.st.length:=⟨_,rfl⟩;obtain⟨k,hk⟩:∃k,k=gu v:=⟨_,rfl⟩;have KU:k=2∨k=4:=by rw[hk,gu];split<;>simp
 obtain⟨b,hb⟩:∃b:Nat,t.bn=(b:Int):=⟨t.bn.toNat,om⟩;refine aW8 sA (aa @cY.eq_1 ?_);refine Px q1 (bP ?_);refine Px q2 (bP ?_);refine Px q3 (bP ?_);refine Rx (aW2 s om) (bu @ae.eq_1 ?_);refine Hx qs (dl (ah E9 QW) ?_);refine⟨om,om,om,?_⟩;have hdl:sO t v s=⟨t,v,ub (vG s) n k b,qw (vG s) n k,[]⟩:=by rw[sO,←hn,←hk,hb];rfl
 rw[hdl];have hD:=Tx (s:=s) om;clear hdl;generalize vG s=D at hD ⊢;rw[←hn,←hk,hb];have qd:=aW4 D hD.1 hD.2 n k om om KU;refine Rx qd (dl @a_.eq_1 ?_) (au:=[30]) (be:=.inr ⟨Eu _,trivial,trivial⟩);refine⟨om,om,?_⟩;have hnk:n*k+5<=52:=by
  have:n*k<=6*4:=Nat.mul_le_mul om om;omega
 have jN:(oX D n k).length=n:=fx;have sM:∀i,(nS D n k b i).length=n:=fun i=>fx;refine dX.ig (σ:=Nat) (fun i=>St.of [(1,.t (.i v)),(3,.own 93),(6,.own 96),(8,.t (ints D)),(9,.t (.i n)),(10,.t (.i k)),(11,.t (rows (oX D n k))),(13,.own 91),(14,.t (.i i))] [(93,.box [ints t.st,.i b,.i t.sm,.i t.bg,.i t.an,.i t.lm]),(96,.box [.zz,.i 0,.i 0,.i 0,.i 0,.i 0,.i 0,.zz,.zz,.zz]),(91,.arr 1 (nS D n k b i))]) (fun i=>i<=n) (fun i=>n-i) 0 (wT (wS 30) (wT (wS 43) (aq [3,6,47] (bf @zA @zB @ii @kU) (hr:=rB (rB (rI ?_ trivial)))))) om fun i hi R hn' hr he=>?_
 ·rw[fe,aX2];exact .refl _
 ·rcases qH i n with h9|h9
  ·have hrow:(oX D n k)[i]? =some (oW D n k i):=(by rw[oX,gj h9]);have hw1:IntKind.i64.wrap ((b:Int)+1)=((b+1:Nat):Int):=by rw[wrap64 om om];omega
   have dr:IntKind.i64.wrap (((b+1:Nat):Int)+(i:Int))=((b+1+i:Nat):Int):=by rw[wrap64 om om];omega
   have hm:((b+1+i:Nat):Int).tmod (n:Int)=(((b+1+i)%n:Nat):Int):=by rw[rP om];rfl
   have hml:=Nat.mod_lt (b+1+i) (show 0<n by omega);have eE:=aX4 D (n:=n) (k:=k) (b:=b) om om om h9;refine aB (dZ hw1 dr hm jN hrow sM (dt ((i:Int)<(n:Int)))) ?_;exact hn' _ (i+1) (aq [93,96,91] (aw h9 om) (hr:=rB (rB (rK rfl (by rw[←eE];exact .refl _) trivial)))) om om
  ·obtain rfl:i=n:=om;refine aa (dF ((i:Int)<(i:Int))) ?_;refine he _ _ ?_;rw[aX3 D om];have hw1:IntKind.i64.wrap ((i:Int)*(k:Int))=((i*k:Nat):Int):=(by rw[←Int.natCast_mul,wrap64 om om]);have dr:IntKind.i64.wrap (((i*k:Nat):Int)+5)=((i*k+5:Nat):Int):=by rw[wrap64 om om];omega
   have l8:=aX0 hD.1 (n:=i) (k:=k) hnk;refine ab ?_;refine Rx (nw t.st om) (bu @ae.eq_1 ?_);refine⟨_,wT (wO 15 0 501) (wT (wJ 15 0 501) (aj.of [(1,.t (.i v)),(6,.own 96),(8,.t (ints D)),(9,.t (.i i)),(10,.t (.i k)),(13,.own 91),(15,.own 95)] [(96,.box [.zz,.i 0,.i 0,.i 0,.i 0,.i 0,.i 0,.zz,.zz,.zz]),(91,.arr 1 ((ub D i k b).map ints)),(95,.box [ints t.st,.i b,.i t.sm,.i t.bg,.i t.an,.i t.lm])] [some 96,some 91,some 15] sA sA ?_ (rB (rB (rI ?_ trivial))))),?_⟩
   ·exact bZ @zA trivial
   ·simp only[T.bB,kU,List.set_cons_zero];exact .refl _
   refine aB (bf hw1 dr hD.1 l8) ?_;have oT:(qw D i k).length=5:=(by simp[qw]);refine Hx (nw (qw D i k) om) (bu @ae.eq_1 ?_);simp only[KT,hb,ints,ae]
end
def lH(h:Hd):T:=.agg [ae h.t.st,.i h.t.bn,.i h.t.sm,.i h.t.bg,.i h.t.an,.i h.t.lm,.i h.v,a_ h.ho,ae h.bd,ku h.ac]
section
attribute [-go_sem] bC bF bK bE bH bL
def FO(h:Hd)(hs:mh h)(l:List (Int×Int))(hl:l.length<=1000000):FR 42 [.t (cz h),.t (cG l)] (lH {h with ac:=l}):=by
 obtain⟨s1,s2,s3,s4,s5⟩:=hs;refine at8 sA (aa @cz.eq_1 ?_);refine lN (fun i=>St.of [(1,.t (cG l)),(2,.own 92),(4,.own 94),(5,.own 95),(6,.t (.i i))] [(92,.box [ints h.t.st,.i h.t.bn,.i h.t.sm,.i h.t.bg,.i h.t.an,.i h.t.lm,.i h.v,rows h.ho,ints h.bd,cG h.ac]),(94,.box [.zz,.i 0,.i 0,.i 0,.i 0,.i 0,.i 0,.zz,.zz,.zz]),(95,.arr 1 ((h.ho.take i).map ae))]) (fun i=>i<=h.ho.length) (fun i=>h.ho.length-i) 0 (aq [2,4,8] @cG.eq_1) (fun i hi R hn hr he=>?_)
 ·rcases qH i h.ho.length with h9|h9
  ·obtain⟨r,hx⟩:∃r,h.ho[i]? =some r:=⟨_,qB h9⟩;have hrl:=s5 r (qE hx);have pX:((h.ho.take i).length)<=1000000:=by rw[qL];omega
   refine aa (ah hx (dt ((i:Int)<(h.ho.length:Int)))) ?_
   repeat (first|refine⟨om,?_⟩|refine⟨by rw[cN];omega,?_⟩)
   refine Rx (nw r om) (bu @ae.eq_1 ?_);exact⟨om,hn _ (i+1) (aq [92,94,24] (ah @cG.eq_1 (aw h9 om)) (hr:=rB (rB (rK rfl (by rw[bG hx,qG];exact .refl _) trivial))))⟩
  ·refine aa (dF ((i:Int)<(h.ho.length:Int))) ?_;refine he _ _ ?_;rw[qQ h9];refine ab ?_;refine Rx (nw h.t.st om) (bu @ae.eq_1 ?_);refine⟨_,wT (wO 7 0 501) (aj.jU [(1,.t (cG l)),(2,.own 92),(4,.own 94),(5,.own 95),(7,.own 97)] [(92,.box [ints h.t.st,.i h.t.bn,.i h.t.sm,.i h.t.bg,.i h.t.an,.i h.t.lm,.i h.v,rows h.ho,ints h.bd,cG h.ac]),(94,.box [.zz,.i 0,.i 0,.i 0,.i 0,.i 0,.i 0,.zz,.zz,.zz]),(95,.arr 1 (h.ho.map ae)),(97,.box [.any,.i h.t.bn,.i h.t.sm,.i h.t.bg,.i h.t.an,.i h.t.lm]),(98,.arr 1 (h.t.st.map T.i))] [(97,[(0,98)])] [some 92,some 94,some 95,some 7,some 501] sA sA ?_ ⟨⟨_,_,rfl,.refl _⟩,rfl,⟨_,_,rfl,.refl _⟩,rfl,⟨_,_,rfl,.refl _⟩,rfl,⟨_,_,rfl,.refl _⟩,rfl,⟨_,_,rfl,.refl _⟩,rfl,trivial⟩ ⟨⟨7,_,_,rfl,rfl,?_⟩,trivial⟩),?_⟩
   ·exact bZ @cG.eq_1 trivial
   ·intro p hp;simp only[List.mem_singleton]at hp;subst hp;exact⟨501,rfl,sA⟩
   refine cE (bM @St.jU.eq_1 @w9 @w_ @Option.getD_some.{0} @Option.getD_none.{0}) ?_;refine Hx (nw h.bd (by omega)) (dl (ah @ae.eq_1 @oC) ?_);exact⟨by omega,rfl,(qS).ak _ (.inr rfl)⟩
def aX7{b:Bt}(l:c9 n b): -1000000<=(fT b).2.2.1/\(fT b).2.2.1<=1000000/\ -1000000<=(fT b).2.2.2/\(fT b).2.2.2<=1000000:=by
 by_cases h:mV b
 ·rw[tK h];simp
 ·rw[xz h];have h1:=PN l h;have h2:=l.xs b.tn l.tn;have h3:=l.xb b.tn l.tn;have h4:=mW (l:=b.bt) (i:=b.tn) (by rw[l.bt];exact l.tn);have h5:=l.un;unfold aG at h1 ⊢;simp only[];omega
def aX8(cs:LI)(hc:iO cs)(hl:cs.length<=100000000000)(a:Nat×Int)(ha:cI a)(b:Bt)(l:c9 n b):FA 86 [.box [bytes cs,.i a.1,.i a.2],.arr 1 (b.st.map T.i),.arr 1 (b.bt.map T.i),.arr 1 (b.pd.map T.i),.arr 1 (b.fo.map T.b),.arr 1 (b.ac.map T.b)] [.own 1000000000,.agg [.own 1000000001,.own 1000000002,.own 1000000003,.own 1000000004,.own 1000000005,.t (.i b.tn),.t (.i b.un),.t (.i b.ra),.t (.i b.lm)]] fun o r=>∃x:(Int×Int)×(Nat×Int),o=[.box [bytes cs,.i x.2.1,.i x.2.2],.arr 1 (b.st.map T.i),.arr 1 (b.bt.map T.i),.arr 1 (b.pd.map T.i),.arr 1 (b.fo.map T.b),.arr 1 (b.ac.map T.b)]/\r= .agg [.i x.1.1,.i x.1.2]/\cI x.2:=by
 have q1:=EI b l;have hbd:=aX7 l;generalize fT b=c at q1 hbd;obtain⟨ck,cc,cl,cm⟩:=c
 (try simp only[]at hbd)
 simp only[aR,aC,kT]at q1;refine aW9 sA (bP ?_);refine Px q1 (bP ?_) (au:=[1000000001,1000000002,1000000003,1000000004,1000000005]);refine⟨fun h1=>?_,fun h1=>?_⟩
 ·refine Xx (nQ cs hc hl a ha 3 om om) [1000000000] (fun z hz=>aP ?_);refine⟨fun h2=>?_,fun h2=>?_⟩
  ·rw[wrap64 (n:=cm-cl) om om,wrap64 (n:=cm-cl+1) om om];refine iX.ref (dV cs hc hl z.2 hz.2 (cm-cl+1) om) [1000000000] [] rfl Tryz.call39 sA ?_ sA (fun e R' hR=>?_) (.inl rfl) ?_
   ·exact iL trivial
   ·exact ey trivial
   refine aP ?_;have aW:=dK (cs:=cs) hl hz.2 (cm-cl+1);generalize aJ cs z.2 (cm-cl+1)=y at aW;have hp:=sN cs hc hl y.2 aW [cl,cl,cm,IntKind.i64.wrap (cl+y.1)] sA sA;simp only[ae,List.map_cons,List.map_nil]at hp;refine⟨?_,qS⟩;refine iX.ref hp [1000000000,34] [] rfl Tryz.call41 sA ?_ sA (fun e R' hR=>?_) (.inl rfl) ?_
   ·exact iL trivial
   ·exact ey trivial
   refine aP ?_;exact⟨⟨((3,_),_),rfl,rfl,nP hl aW _⟩,(qS).ak _ (.inl sA)⟩
  ·refine Xx (nQ cs hc hl z.2 hz.2 8 om om) [1000000000] (fun w hw=>aP ?_);exact⟨fun _=>⟨((0,0),w.2),rfl,rfl,hw.2⟩,fun _=>⟨fun _=>⟨((1,0),w.2),rfl,rfl,hw.2⟩,fun _=>⟨((2,0),w.2),rfl,rfl,hw.2⟩⟩⟩
 ·refine Xx (nQ cs hc hl a ha 8 om om) [1000000000] (fun w hw=>aP ?_);exact⟨fun _=>⟨((0,0),w.2),rfl,rfl,hw.2⟩,fun _=>⟨fun _=>⟨((1,0),w.2),rfl,rfl,hw.2⟩,fun _=>⟨((2,0),w.2),rfl,rfl,hw.2⟩⟩⟩
end
def vH(h:Hd):T:=.agg [ints h.t.st,.i h.t.bn,.i h.t.sm,.i h.t.bg,.i h.t.an,.i h.t.lm,.i h.v,rows h.ho,ae h.bd,cG h.ac]
def iC:LA:=[.zz,.i 0,.i 0,.i 0,.i 0,.i 0,.i 0,.zz,.zz,.zz]
def oY(h:Hd):LA:=[ints h.t.st,.i h.t.bn,.i h.t.sm,.i h.t.bg,.i h.t.an,.i h.t.lm,.i h.v,rows h.ho,.arr 1 (h.bd.map T.i),cG h.ac]
def aX9(a b c d e f g h i:T):Le (.box [a,b,c,d,e,f,g,h,i,.zz]) (.box [a,b,c,d,e,f,g,h,i,.sh 2 []]):=.box rfl fun k h1 h2=>match k,h1 with
 |0,_|1,_|2,_|3,_|4,_|5,_|6,_|7,_|8,_=>.refl _
 |9,_=>.Al 2
 |n+10,h=>absurd h sA
def zp:∀m:LL,T.cr (m.map ints)=m.map ints
 |[]=>by simp[T.cr]
 |r::m=>by simp[T.cr,ints,T.bB,zp m]
def Tz(p:gi)(u code:Int):(T.agg (qi p (.i u) code)).bJ:=⟨dY _,dY _,dY _,E_ _,E_ _,trivial,trivial,trivial,trivial,trivial,trivial,trivial,trivial,trivial,trivial⟩
def gI(h:Hd):LA:=[ints h.t.st,.i h.t.bn,.i h.t.sm,.i h.t.bg,.i h.t.an,.i h.t.lm,.i h.v,rows h.ho,ints h.bd,cG h.ac]
def KV(h:Hd):LA:=[.arr 1 (h.t.st.map T.i),.i h.t.bn,.i h.t.sm,.i h.t.bg,.i h.t.an,.i h.t.lm,.i h.v,.arr 1 (h.ho.map ae),.arr 1 (h.bd.map T.i),.arr 2 (gC h.ac)]
def FQ(h:Hd):(lH h).bJ:=⟨dY _,trivial,trivial,trivial,trivial,trivial,trivial,Eu _,dY _,ZQ _,trivial⟩
def TA{h:Hd}(ok:cU h){l:List (Int×Int)}(hl:l.length<=100):cU {h with ac:=l}:=⟨ok.1,ok.2.1,ok.2.2.1,ok.2.2.2.1,hl,ok.2.2.2.2.2.1,ok.2.2.2.2.2.2⟩
def Cd{X:Type}{A:Prop}{G:X->Prop}(p:X->Prop)(t:∀x,p x->G x)(h:(∀x,p x->G x)->A):A:=h t
section
attribute [-go_sem] bC bF bK bE bH bL
def aY0(cs:LI)(hc:iO cs)(hl:cs.length<=100000000000)(a:Nat×Int)(ha:cI a):FA 38 [.box [bytes cs,.i a.1,.i a.2]] [.own 1000000000] fun o r=>∃x:Hd×(Nat×Int),o=[.box [bytes cs,.i x.2.1,.i x.2.2]]/\r=vH x.1/\cU x.1/\cI x.2:=by
 refine aW6 sA (ab ?_);have hp:=aV1 cs hc hl a ha;simp only[Tt,ae]at hp;refine Xx hp [1000000000] (fun x hx=>dA ?_);obtain⟨t,z⟩:=x;obtain⟨ht,hz⟩:=hx
 (try simp only[]at ht hz)
 (try simp only[])
 refine⟨_,wT (wO 3 0 501) (wT (wJ 3 0 501) (aj.of [(0,.own 1000000000),(2,.own 92),(3,.own 93)] [(1000000000,.box [bytes cs,.i z.1,.i z.2]),(92,.box iC),(93,.box [ints t.st,.i t.bn,.i t.sm,.i t.bg,.i t.an,.i t.lm])] [some 1000000000,some 2,some 3] sA sA ?_ (rB (rB (rI ?_ trivial))))),?_⟩
 ·exact bZ @zA trivial
 ·simp only[T.bB,kU,List.set_cons_zero];exact .refl _
 refine ab ?_;refine iX.ref (dV cs hc hl z hz 3 om) [1000000000] [] rfl Tryz.call39 sA ?_ sA (fun e R' hR=>?_) (.inl rfl) ?_
 ·exact iL trivial
 ·exact ey trivial
 refine aP ?_;have hv:=ky (cs:=cs) (a:=z) (show(1:Int)<=3 by omega);have hs1:=dK (cs:=cs) hl hz 3;generalize aJ cs z 3=y at hv hs1;obtain⟨v,b⟩:=y
 (try simp only[]at hv hs1)
 (try simp only[])
 refine⟨?_,qS⟩;refine iX.ref (dV cs hc hl b hs1 2147483646 om) [1000000000] [] rfl Tryz.call39 sA ?_ sA (fun e R' hR=>?_) (.inl rfl) ?_
 ·exact iL trivial
 ·exact ey trivial
 refine aP ?_;have hd:=ky (cs:=cs) (a:=b) (show(1:Int)<=2147483646 by omega);have aW:=dK (cs:=cs) hl hs1 2147483646;generalize aJ cs b 2147483646=y at hd aW;obtain⟨s,c⟩:=y
 (try simp only[]at hd aW)
 (try simp only[])
 refine⟨?_,qS⟩;rw[wrap64 (n:=1+s) om om];have hq:=aX6 t ht v om (1+s) om;have hok:=aX5 ht (v:=v) om (s:=1+s) om;have hac:(sO t v (1+s)).ac=[]:=rfl;generalize sO t v (1+s)=h0 at hq hok hac;simp only[cY,KT,ints,ae]at hq;refine Hx hq (dA ?_);refine Xx (nQ cs hc hl c aW 24 om om) [1000000000] (fun w hw=>aP ?_);obtain⟨m0,d⟩:=w;obtain⟨hm0,bY⟩:=hw
 (try simp only[]at hm0 bY)
 (try simp only[])
 obtain⟨N,hN⟩:∃N:Nat,m0=(N:Int):=⟨m0.toNat,om⟩;rw[hN];refine dX.ig (σ:=Hd×(Nat×Int)×Nat) (fun q=>St.of [(0,.own 1000000000),(2,.own 92),(4,.own 94),(6,.t (.i q.2.2))] [(1000000000,.box [bytes cs,.i q.2.1.1,.i q.2.1.2]),(92,.box iC),(94,.box (oY q.1))]) (fun q=>cU q.1/\q.1.ac.length+q.2.2<=24/\cI q.2.1) (fun q=>q.2.2) (h0,d,N) (wT (wO 4 7 507) (wT (wJ 4 7 507) (aj.of _ _ [some 1000000000,some 92,some 4] sA sA ?_ (rB (rB (rI ?_ trivial)))))) ⟨hok,by simp only[hac,List.length_nil];omega,bY⟩ fun q hq R hn' hr he=>?_
 ·exact bZ @zA trivial
 ·simp only[T.bB,zp,List.set_cons_zero,List.set_cons_succ,oY,hac];exact aX9 _ _ _ _ _ _ _ _ _
 ·obtain⟨h,e,m⟩:=q;obtain⟨ok,hlen,FT⟩:=hq
  (try simp only[]at ok hlen FT)
  (try simp only[])
  rcases Nat.eq_zero_or_pos m with h9|h9
  ·subst h9;refine aa (ay @oY.eq_1 @iC.eq_1 (show decide (((0:Nat):Int)>0)=false from rfl)) ?_;refine he _ _ (bP ?_);exact⟨(h,e),rfl,rfl,ok,FT⟩
  ·refine cE (ay @oY.eq_1 @iC.eq_1 (dt ((m:Int)>0))) ?_;have qr:FA 55 [] [.t (cz h)] fun o r=>∃u:Int,o=[]/\r= .agg (qi (aY h).1 (.i u) (aY h).2)/\True:=cF.le (JK h ok) fun o r ⟨a,x,b⟩=>⟨r,.refl _,x,a,b,trivial⟩;have hk:=(t_ h ok.1).1;generalize aY h=pr at qr hk;obtain⟨p,code⟩:=pr
   (try simp only[]at hk)
   simp only[cz,qi]at qr;refine Xx qr [] (fun u hu=>dA ?_) (au:=[28009]) (be:=.inr (fun u=>⟨Tz _ u _,trivial⟩));refine⟨fun gH=>he _ _ ?_,fun gH=>?_⟩
   ·refine bP ?_;exact⟨(h,e),rfl,rfl,ok,FT⟩
   ·have qa:=aX8 cs hc hl e FT p.b hk.i.l;refine Xx qa [1000000000,34001,34002,34003,34004,34005] (fun y hy=>dA ?_);apply Cd (X:=(Int×Int)×(Nat×Int)) (fun x=>cI x.2)
    case h=>
     intro tail;have nT:∀(a:Int×Int) (b:Nat×Int),cI b->∃X:(Int×Int)×(Nat×Int),X.1=a/\X.2=b/\cI X.2:=fun a b h=>⟨(a,b),rfl,rfl,h⟩;refine⟨fun g1=>?_,fun g1=>?_⟩
     ·refine Xx (nQ cs hc hl y.2 hy 2 om om) [1000000000] (fun z hz=>aP ?_);have qc:=EI p.b hk.i.l;simp only[aR,aC,kT]at qc;refine⟨fun g2=>?_,fun g2=>?_⟩
      ·refine bP ?_;refine bz.E8 qc [34001,34002,34003,34004,34005] rfl Tryz.call87 ?_ (by first|trivial|simp[T.bJ,T.df,rat]) rfl ?_
       ·exact ey trivial
       refine bP ?_;refine⟨fun g3=>?_,fun g3=>?_⟩
       ·obtain⟨X,jj,ew,hX⟩:=nT (2,0) z.2 hz.2;refine⟨_,wT (wC 94 8 28009) (wT (wI 94) (cH [1000000000,92,94,8] (e:=[(0,.own 1000000000),(2,.own 92),(4,.own 94),(6,.t (.i m)),(8,.own 98)]) (r:=[(1000000000,.box [bytes cs,.i X.2.1,.i X.2.2]),(92,.box iC),(94,.box (gI h)),(98,.box [.i X.1.1,.i X.1.2])]) (hr:=rK rfl (by rw[ew];exact .refl _) (rB (rI ?_ (rK rfl (by rw[jj];exact .refl _) trivial)))))),tail X hX⟩
        ·simp only[List.map_cons,List.map_nil,List.set_cons_zero,List.set_cons_succ,T.bB,kU,gI,ints,rows,cG];exact .refl _
       ·obtain⟨X,jj,ew,hX⟩:=nT y.1 z.2 hz.2;refine⟨_,wT (wC 94 8 28009) (wT (wI 94) (cH [1000000000,92,94,8] (e:=[(0,.own 1000000000),(2,.own 92),(4,.own 94),(6,.t (.i m)),(8,.own 98)]) (r:=[(1000000000,.box [bytes cs,.i X.2.1,.i X.2.2]),(92,.box iC),(94,.box (gI h)),(98,.box [.i X.1.1,.i X.1.2])]) (hr:=rK rfl (by rw[ew];exact .refl _) (rB (rI ?_ (rK rfl (by rw[jj];exact .refl _) trivial)))))),tail X hX⟩
        ·simp only[List.map_cons,List.map_nil,List.set_cons_zero,List.set_cons_succ,T.bB,kU,gI,ints,rows,cG];exact .refl _
      ·obtain⟨X,jj,ew,hX⟩:=nT y.1 z.2 hz.2;refine⟨_,wT (wC 94 8 28009) (wT (wI 94) (cH [1000000000,92,94,8] (e:=[(0,.own 1000000000),(2,.own 92),(4,.own 94),(6,.t (.i m)),(8,.own 98)]) (r:=[(1000000000,.box [bytes cs,.i X.2.1,.i X.2.2]),(92,.box iC),(94,.box (gI h)),(98,.box [.i X.1.1,.i X.1.2])]) (hr:=rK rfl (by rw[ew];exact .refl _) (rB (rI ?_ (rK rfl (by rw[jj];exact .refl _) trivial)))))),tail X hX⟩
       ·simp only[List.map_cons,List.map_nil,List.set_cons_zero,List.set_cons_succ,T.bB,kU,gI,ints,rows,cG];exact .refl _
     ·obtain⟨X,jj,ew,hX⟩:=nT y.1 y.2 hy;refine⟨_,wT (wC 94 8 28009) (wT (wI 94) (cH [1000000000,92,94,8] (e:=[(0,.own 1000000000),(2,.own 92),(4,.own 94),(6,.t (.i m)),(8,.own 98)]) (r:=[(1000000000,.box [bytes cs,.i X.2.1,.i X.2.2]),(92,.box iC),(94,.box (gI h)),(98,.box [.i X.1.1,.i X.1.2])]) (hr:=rK rfl (by rw[ew];exact .refl _) (rB (rI ?_ (rK rfl (by rw[jj];exact .refl _) trivial)))))),tail X hX⟩
      ·simp only[List.map_cons,List.map_nil,List.set_cons_zero,List.set_cons_succ,T.bB,kU,gI,ints,rows,cG];exact .refl _
    case t=>
     rintro⟨act,z⟩ hz
     (try simp only[]at hz)
     (try simp only[])
     have bO:(h.ac++[act]).length=h.ac.length+1:=sA;have qo:=FO h (xQ ok) (h.ac++[act]) om;have er:gC h.ac++[T.i act.1,T.i act.2]=gC (h.ac++[act]):=by rw[IF];rfl
     simp only[cz,lH,cG,ku,ae,a_]at qo;refine bQ (ay @gI.eq_1 @iC.eq_1 @oC) ?_;refine⟨⟨om,?_,(qS).ak _ (.inr rfl)⟩,(qS).ak _ (.inr rfl)⟩;have hno:=FQ {h with ac:=h.ac++[act]};simp only[lH,ku,ae,a_]at hno;simp only[er];refine lT.res qo [58] rfl Tryz.call42 (fun e R' hR=>?_) (.inr hno) ?_
     ·have TB:=(hR 58).resolve_left (by simp -implicitDefEqProofs only[c8,go_sem,not_false_eq_true]);simp -implicitDefEqProofs only[c8,go_sem]at TB;exact pZ TB trivial
     refine dA ?_;refine hn' _ ({h with ac:=h.ac++[act]},z,m-1) (wT (wO 94 0 500) (wT (wJ 94 0 500) (wT (wO 94 7 507) (wT (wJ 94 7 507) (wT (wO 94 9 509) (wT (wJ 94 9 509) (aj.of _ _ [some 1000000000,some 92,some 94] sA sA ?_ (rB (rB (rI ?_ trivial)))))))))) ⟨TA ok om,by simp only[bO];omega,hz⟩ (by simp only[];omega)
     ·have e:IntKind.i64.wrap ((m:Int)-1)=((m-1:Nat):Int):=by rw[wrap64 om om];omega
      exact bZ (ah @zA e) trivial
     ·simp only[List.set_cons_zero,List.set_cons_succ,T.bB,sj,ii,si,oY,ints,rows,cG];exact .refl _
def aY1(h:Hd)(ok:cU h):FA 40 [] [.t (cz h)] fun o r=>∃x:Hd×Int,o=[]/\r=(if x.2=0 then .aI [lH x.1,.i 0]else .aI [.agg iC,.i x.2])/\cU x.1:=by
 have q1:=Tg h ok;have qo:=FO h (xQ ok) h.ac (by have:=ok.2.2.2.2.1;omega);rw[show({h with ac:=h.ac}:Hd)=h from rfl]at qo;simp only[cz,fv]at q1;simp only[cz,cG,lH,ae,a_,ku]at qo;refine aW7 sA (aa @cz.eq_1 ?_);refine Xx q1 [] (fun u hu=>dA ?_);refine⟨fun h0=>?_,fun h0=>?_⟩
 ·have h1:(aY h).2≠0:=sU h0;exact⟨(h,(aY h).2),by rw[if_neg h1];rfl,ok⟩
 ·have h1:(aY h).2=0:=sU h0;rw[h1];refine Rx qo (dA ?_);refine lR (σ:=Hd×Int) (fun q=>St.of [(2,.own 92),(4,.own 94),(6,.own 96)] [(92,.box iC),(94,.box (fv (aY q.1).1 (.i q.2) (aY q.1).2)),(96,.box (KV q.1))]) (fun q=>cU q.1) (fun q=>100-q.1.ac.length) (h,u) (cH [2,4,6] (hr:=⟨⟨_,rfl,.refl _⟩,rfl,⟨_,rfl,by rw[fv,h1];exact .refl _⟩,rfl,⟨_,rfl,.refl _⟩,rfl,trivial⟩)) (fun q hq R hn hr he=>?_) (hi:=ok)
  ·obtain⟨g,v⟩:=q
   (try simp only[]at hq)
   (try simp only[])
   have hk:=(t_ g hq.1).1;have n100:=hq.2.2.2.2.1;generalize aY g=pr at hk;obtain⟨p,code⟩:=pr
   (try simp only[]at hk)
   cases gH:p.ov with
   |true=>
    refine cE (bf @fv.eq_1 gH @iC.eq_1 @KV.eq_1) ?_;refine he _ _ (bP ?_);exact⟨(g,0),by rw[if_pos rfl];rfl,hq⟩
   |false=>
    have qc:=EI p.b hk.i.l;simp only[aR,aC,kT]at qc;refine cE (bf @fv.eq_1 gH @iC.eq_1 @KV.eq_1) ?_;refine⟨fun g1=>hr _ ?_,fun g1=>?_⟩
    ·refine ab ?_;exact⟨(g,3),by rw[if_neg (show¬(3:Int)=0 by decide)];rfl,hq⟩
    ·have h99:g.ac.length≠100:=fun e=>by rw[e]at g1;simp at g1
     apply Cd (X:=Int) (fun _=>True)
     case h=>
      intro tail;refine bz.E8 qc [] rfl Tryz.call87 ?_ (by first|trivial|simp[T.bJ,T.df,rat]) rfl ?_
      ·exact ey trivial
      refine bP ?_;refine⟨fun g2=>?_,fun g2=>?_⟩
      ·obtain⟨k,hkk⟩:∃k:Int,k=1:=⟨_,rfl⟩;refine⟨_,wT (wC 96 9 25) (wT (wI 96) (aq [92,94,96] hkk (e:=[(2,.own 92),(4,.own 94),(6,.own 96),(7,.t (.i k))]) (r:=[(92,.box iC),(94,.box (fv p (.i v) code)),(96,.box (gI g))]) (hr:=rB (rK rfl (by simp only[fv,gH];exact .refl _) (rI ?_ trivial))))),tail k trivial⟩
       ·simp only[List.map_cons,List.map_nil,List.set_cons_zero,List.set_cons_succ,T.bB,kU,ii,si,gI,ints,rows,cG];exact .refl _
      ·obtain⟨k,hkk⟩:∃k:Int,k=0:=⟨_,rfl⟩;refine⟨_,wT (wC 96 9 25) (wT (wI 96) (aq [92,94,96] hkk (e:=[(2,.own 92),(4,.own 94),(6,.own 96),(7,.t (.i k))]) (r:=[(92,.box iC),(94,.box (fv p (.i v) code)),(96,.box (gI g))]) (hr:=rB (rK rfl (by simp only[fv,gH];exact .refl _) (rI ?_ trivial))))),tail k trivial⟩
       ·simp only[List.map_cons,List.map_nil,List.set_cons_zero,List.set_cons_succ,T.bB,kU,ii,si,gI,ints,rows,cG];exact .refl _
     case t=>
      intro k _;have bO:(g.ac++[(k,(0:Int))]).length=g.ac.length+1:=sA;have qo:=FO g (xQ hq) (g.ac++[(k,0)]) om;have er:gC g.ac++[T.i k,T.i 0]=gC (g.ac++[(k,0)]):=by rw[IF];rfl
      have hno:=FQ {g with ac:=g.ac++[(k,0)]};simp only[cz,lH,cG,ku,ae,a_]at qo;simp only[lH,ku,ae,a_]at hno;refine bQ (bf @fv.eq_1 @gI.eq_1 @iC.eq_1 @oC) ?_;refine⟨⟨om,?_,(qS).ak _ (.inr rfl)⟩,(qS).ak _ (.inr rfl)⟩;have e0:T.v (Value.int IntKind.i64 0)=T.i 0:=rfl;simp only[e0,er];refine lT.res qo [41] rfl Tryz.call42 (fun e R' hR=>?_) (.inr hno) ?_
      ·have TC:=(hR 41).resolve_left (by simp -implicitDefEqProofs only[c8,go_sem,not_false_eq_true]);simp -implicitDefEqProofs only[c8,go_sem]at TC;exact pZ TC trivial
      refine dA ?_;have FU:=TA hq (l:=g.ac++[(k,0)]) om;have qr:FA 55 [] [.t (cz {g with ac:=g.ac++[(k,0)]})] fun o r=>∃u:Int,o=[]/\r= .agg (qi (aY {g with ac:=g.ac++[(k,0)]}).1 (.i u) (aY {g with ac:=g.ac++[(k,0)]}).2)/\True:=cF.le (JK _ FU) fun o r ⟨a,x,b⟩=>⟨r,.refl _,x,a,b,trivial⟩;simp only[cz,qi,cG]at qr;refine Xx qr [] (fun w hw=>dA ?_) (au:=[44001,44008,44009,44010]) (be:=.inr (fun u=>⟨Tz _ u _,trivial⟩));refine hn _ ({g with ac:=g.ac++[(k,0)]},w) (aj.trans (aj.close 96 0 44001 rfl rfl (by decide) rfl (by simp)) (aj.trans (aj.close 96 7 44008 rfl rfl (by decide) rfl (by simp)) (aj.trans (aj.close 96 8 44009 rfl rfl (by decide) rfl (by simp)) (aj.trans (aj.tA 96 9 44010 rfl rfl (by decide) rfl) (aj.trans (aj.N8 94 rfl (by simp)) (cH [92,94,96] (hr:=⟨⟨_,rfl,.refl _⟩,rfl,⟨_,rfl,?_⟩,rfl,⟨_,rfl,.refl _⟩,rfl,trivial⟩))))))) FU (by simp only[bO];omega)
      ·simp only[List.map_cons,List.map_nil,T.bB,kU,Bn,fv];exact .refl _
end
def uc(h:Hd)(b:Bool):T:=if b=true then lH h else vH h
def hdN(h:Hd):T:=.agg [ints h.t.st,.i h.t.bn,.i h.t.sm,.i h.t.bg,.i h.t.an,.i h.t.lm,.i h.v,rows h.ho,ae h.bd,.zz]
def aY2(a b c d e f g h i:T):Le (.agg [a,b,c,d,e,f,g,h,i,.zz]) (.agg [a,b,c,d,e,f,g,h,i,.sh 2 []]):=.agg rfl fun k h1 h2=>match k,h1 with
 |0,_|1,_|2,_|3,_|4,_|5,_|6,_|7,_|8,_=>.refl _
 |9,_=>.Al 2
 |n+10,h=>absurd h sA
section
attribute [-go_sem] bC bF bK bE bH bL
def aY3(cs:LI)(hc:iO cs)(hl:cs.length<=100000000000)(a:Nat×Int)(ha:cI a):FA 17 [.box [bytes cs,.i a.1,.i a.2]] [.own 1000000000] fun o r=>∃x:(Hd×Bool)×(Nat×Int),o=[.box [bytes cs,.i x.2.1,.i x.2.2]]/\r=uc x.1.1 x.1.2/\mh x.1.1:=by
 refine cF.le (Q:=fun o r=>∃x:(Hd×Bool)×(Nat×Int),o=[.box [bytes cs,.i x.2.1,.i x.2.2]]/\(r=uc x.1.1 x.1.2∨r=hdN x.1.1)/\mh x.1.1) ?_ fun o r ⟨x,h1,h2,h3⟩=>h2.elim (fun e=>⟨r,.refl _,x,h1,e,h3⟩) fun e=>⟨uc {x.1.1 with ac:=[]} false,by rw[e];exact aY2 _ _ _ _ _ _ _ _ _,(({x.1.1 with ac:=[]},false),x.2),h1,rfl,h3.1,h3.2.1,h3.2.2.1,sA,h3.2.2.2.2⟩;refine aW5 sA (ab ?_);have hp:=aY0 cs hc hl a ha;simp only[vH,ae,ints,rows,cG]at hp;refine Xx hp [1000000000] (fun x hx=>dA ?_);obtain⟨h,z⟩:=x;obtain⟨ok,hz⟩:=hx
 (try simp only[]at ok hz)
 (try simp only[])
 refine Xx (nQ cs hc hl z hz 3 om om) [1000000000] (fun w hw=>aP ?_);apply Cd (X:=Hd×(Nat×Int)) (fun x=>cU x.1/\cI x.2)
 case h=>
  intro tail;have nT:∀(a:Hd) (b:Nat×Int),cU a->cI b->∃X:Hd×(Nat×Int),X.1=a/\X.2=b/\(cU X.1/\cI X.2):=fun a b h h2=>⟨(a,b),rfl,rfl,h,h2⟩;refine⟨fun g1=>?_,fun g1=>?_⟩
  ·refine bP ?_;have qf:=aY1 h ok;simp only[cz]at qf;refine bz.xa qf [] [13009] rfl Tryz.call40 sA ?_ sA ?_ (.inr fun x=>⟨?_,trivial⟩) (fun x hx=>?_)
   ·exact iL trivial
   ·exact ey trivial
   ·split
    ·exact⟨FQ _,trivial,trivial⟩
    ·exact⟨by simp[iC,T.bJ,T.df],trivial,trivial⟩
   obtain⟨g,code⟩:=x
   (try simp only[]at hx)
   (try simp only[])
   by_cases h0:code=0
   ·rw[if_pos h0];refine dl (bf @lH.eq_1 @ae.eq_1 @a_.eq_1 @ku.eq_1) ?_;obtain⟨X,jj,ew,hX⟩:=nT g w.2 hx hw.2;refine bz.weak (wT (wO 3 0 500) (wT (wJ 3 0 500) (wT (wO 3 7 507) (wT (wJ 3 7 507) (wT (wO 3 9 509) (wT (wJ 3 9 509) ((aj.of [(0,.own 1000000000),(2,.own 92),(3,.own 93),(19,.own 1000000000)] [(1000000000,.box [bytes cs,.i X.2.1,.i X.2.2]),(92,.box iC),(93,.box (oY X.1))] [some 1000000000,some 2,some 3] sA sA ?_ (rK rfl (by rw[ew];exact .refl _) (rB (rI ?_ trivial))))))))))) (tail X hX)
    ·exact bZ @zA trivial
    ·rw[jj];simp only[oY,List.set_cons_zero,List.set_cons_succ,T.bB,sj,ii,si,ints,rows,cG];exact .refl _
   ·rw[if_neg h0];refine dl (ah @iC.eq_1 (eA h0)) ?_;obtain⟨X,jj,ew,hX⟩:=nT h w.2 ok hw.2;refine bz.weak (wT (wC 3 8 13009) ((cH [1000000000,2,3] (e:=[(0,.own 1000000000),(2,.own 92),(3,.own 93),(19,.own 1000000000)]) (r:=[(1000000000,.box [bytes cs,.i X.2.1,.i X.2.2]),(92,.box iC),(93,.box (oY X.1))]) (hr:=rK rfl (by rw[ew];exact .refl _) (rB (rI ?_ trivial)))))) (tail X hX)
    ·rw[jj];simp only[oY,List.set_cons_zero,List.set_cons_succ,ints,rows,cG];exact .refl _
  ·obtain⟨X,jj,ew,hX⟩:=nT h w.2 ok hw.2;refine bz.weak ((cH [1000000000,2,3] (e:=[(0,.own 1000000000),(2,.own 92),(3,.own 93),(19,.own 1000000000)]) (r:=[(1000000000,.box [bytes cs,.i X.2.1,.i X.2.2]),(92,.box iC),(93,.box (oY X.1))]) (hr:=rK rfl (by rw[ew];exact .refl _) (rB (rI ?_ trivial))))) (tail X hX)
   ·rw[jj];simp only[oY,ints,rows,cG];exact .refl _
 case t=>
  rintro⟨h,z⟩ ⟨ok,hz⟩
  (try simp only[]at ok hz)
  (try simp only[])
  refine aa (ah @iC.eq_1 @oY.eq_1) ?_;refine Xx (nQ cs hc hl z hz 30 om om) [1000000000] (fun w hw=>aP ?_);obtain⟨s1,s2,s3,s4,s5⟩:=xQ ok;refine⟨fun g0=>?_,fun _=>⟨fun g1=>?_,fun _=>⟨fun g2=>?_,fun _=>⟨fun g3=>?_,fun _=>⟨fun g4=>?_,fun _=>?_⟩⟩⟩⟩⟩
  ·have hp:=Cc cs hc hl w.2 hw.2 [-1,0,1,2,3] sA sA;simp only[List.map_cons,List.map_nil]at hp;refine Xx hp [1000000000,24] (fun y hy=>dA ?_);exact⟨(({h with v:=y.1},false),y.2),rfl,.inl rfl,s1,s2,s3,s4,s5⟩
  ·have h5:=ok.2.2.2.1;have hn2:=ok.1.1;have qt:=ok.2.2.1;obtain⟨r,b9⟩:∃r,h.ho[0]? =some r:=⟨_,qB (show 0<h.ho.length by omega)⟩;have hrl:2<=r.length:=by rw[ok.2.2.2.2.2.1 r (qE b9),gu];split<;>omega
   have hx:=dD (l:=r) (i:=0) om;refine⟨_,wO 93 8 508,cE (ay b9 hx h5) ?_⟩;exact⟨om,om,om,om,(({h with bd:=h.bd.set 0 (r.getD 0 0)},false),w.2),rfl,.inl (by simp only[uc,vH,ae,List.map_set];rfl),s1,s2,by rw[List.length_set];exact s3,s4,s5⟩
  ·refine⟨_,wT (wI 93) (cH [1000000000,92,93] (e:=[(0,.own 1000000000),(2,.own 2),(3,.own 93)]) (r:=[(1000000000,.box [bytes cs,.i w.2.1,.i w.2.2]),(2,.box iC),(93,.box (gI h))]) (hr:=rB (rB (rI ?_ trivial)))),?_⟩
   ·simp only[List.map_cons,List.map_nil,T.bB,kU,gI,ints,rows,cG];exact .refl _
   refine bQ (ay @gI.eq_1 @iC.eq_1 @oC) ?_;refine⟨?_,(qS).ak _ (.inr rfl)⟩;refine iX.ref (dV cs hc hl w.2 hw.2 5 om) [1000000000] [] rfl Tryz.call39 sA ?_ sA (fun e R' hR=>?_) (.inl rfl) ?_
   ·exact iL trivial
   ·exact ey trivial
   refine aP ?_;have hs1:=dK (cs:=cs) hl hw.2 5;generalize aJ cs w.2 5=y at hs1;refine⟨?_,qS⟩;refine iX.ref (dV cs hc hl y.2 hs1 9 om) [1000000000] [] rfl Tryz.call39 sA ?_ sA (fun e R' hR=>?_) (.inl rfl) ?_
   ·exact iL trivial
   ·exact ey trivial
   refine dl @oC ?_;generalize aJ cs y.2 9=v;refine⟨?_,qS⟩;have bO:(h.ac++[(y.1,v.1)]).length=h.ac.length+1:=sA;have n100:=ok.2.2.2.2.1;have qo:=FO h (xQ ok) (h.ac++[(y.1,v.1)]) om;have er:gC h.ac++[T.i y.1,T.i v.1]=gC (h.ac++[(y.1,v.1)]):=by rw[IF];rfl
   have hno:=FQ {h with ac:=h.ac++[(y.1,v.1)]};simp only[cz,lH,cG,ku,ae,a_]at qo;simp only[lH,ku,ae,a_]at hno;refine⟨om,?_,(qS).ak _ (.inr rfl)⟩;simp only[er];refine lT.res qo [51] rfl Tryz.call42 (fun e R' hR=>?_) (.inr hno) ?_
   ·have TD:=(hR 51).resolve_left (by simp -implicitDefEqProofs only[c8,go_sem,not_false_eq_true]);simp -implicitDefEqProofs only[c8,go_sem]at TD;exact pZ TD trivial
   refine dA ?_;exact⟨(({h with ac:=h.ac++[(y.1,v.1)]},true),v.2),rfl,.inl rfl,s1,s2,s3,by simp only[bO];omega,s5⟩
  ·have hp:=Cc cs hc hl w.2 hw.2 [-1,0,1,6] sA sA;simp only[List.map_cons,List.map_nil]at hp;refine Xx hp [1000000000,56] (fun y hy=>dA ?_);exact⟨(({h with t:={h.t with bn:=y.1}},false),y.2),rfl,.inl rfl,s1,s2,s3,s4,s5⟩
  ·refine⟨_,wO 93 8 508,bP ?_⟩;have hn2:=ok.1.1;have qt:=ok.2.2.1;have e:List.take (h.ho.length-1) (List.drop 1 (List.map ints h.ho))=(h.ho.drop 1).map ints:=(by rw[qQ sA,List.map_drop]);rw[e];exact⟨om,om,(({h with v:=0,ho:=h.ho.drop 1},false),w.2),rfl,.inr rfl,s1,by rw[List.length_drop];omega,s3,s4,fun r hr=>s5 r (List.mem_of_mem_drop hr)⟩
  ·refine bP ?_;exact⟨((h,false),w.2),rfl,.inl rfl,s1,s2,s3,s4,s5⟩
def aY4(cs:LI)(hc:iO cs)(hl:cs.length<=100000000000):FA 5 [] [.t (bytes cs)] fun o r=>∃x:Hd×Bool,o=[]/\r=uc x.1 x.2/\mh x.1:=by
 refine ab6 sA (ab ?_);refine Rx (Tp cs hc om) (bu @vF.eq_1 ?_);have hs0:=Tr (cs.take 64);generalize ng (cs.take 64)=sd at hs0 ⊢;have hp:=aY3 cs hc hl (0,sd) hs0;refine bz.xa hp [4] [] rfl Tryz.call17 sA ?_ sA ?_ (.inl rfl) (fun x hx=>?_)
 ·exact iL trivial
 ·exact ey trivial
 obtain⟨⟨h,b⟩,z⟩:=x;cases b with
 |true=>
  refine dl (bM (show uc h true=lH h from rfl) @lH.eq_1 @ae.eq_1 @a_.eq_1 @ku.eq_1) ?_;exact⟨(h,true),rfl,hx⟩
 |false=>
  refine dl (c5 (show uc h false=vH h from rfl) @vH.eq_1 @ae.eq_1 @rows.eq_1 @cG.eq_1 @ints.eq_1) ?_;exact⟨(h,false),rfl,hx⟩
end
section
variable {α:Type} {f:α->LA} {s:Nat}
def chunk(f:α->LA)(l:List α):LA:=l.flatMap f
def aY5:chunk f []=[]:=rfl
def iP(x:α)(l:List α):chunk f (x::l)=f x++chunk f l:=by simp[chunk]
def sP(l l':List α):chunk f (l++l')=chunk f l++chunk f l':=by simp[chunk]
def lI(hs:∀x,(f x).length=s):∀l:List α,(chunk f l).length=l.length*s
 |[]=>by simp[chunk]
 |x::l=>by rw[iP,qD,hs,lI hs l,List.length_cons,Nat.add_mul];omega
def vI(hs:∀x,(f x).length=s)(h0:0<s)(l:List α):(chunk f l).length/s=l.length:=by rw[lI hs,Nat.mul_div_cancel _ h0]
def TE(hs:∀x,(f x).length=s):∀(l:List α) (i:Nat),(chunk f l).drop (i*s)=chunk f (l.drop i)
 |l,0=>sA
 |[],i+1=>by simp[chunk]
 |x::l,i+1=>by
  rw[iP,show(i+1)*s=(f x).length+i*s by rw[hs,Nat.add_mul];omega,List.drop_length_add_append,TE hs l i];rfl
def TF(hs:∀x,(f x).length=s):∀(l:List α) (i:Nat),(chunk f l).take (i*s)=chunk f (l.take i)
 |l,0=>by simp[chunk]
 |[],i+1=>by simp[chunk]
 |x::l,i+1=>by
  rw[iP,show(i+1)*s=(f x).length+i*s by rw[hs,Nat.add_mul];omega,List.take_length_add_append,TF hs l i,List.take_succ_cons,iP]
def TG(hs:∀x,(f x).length=s){l:List α}{x:α}(h:l[i]? =some x):((chunk f l).drop (i*s)).take s=f x:=by
 obtain⟨hi,rfl⟩:=qK.1 h;rw[TE hs,List.drop_eq_getElem_cons hi,iP,List.take_append_of_le_length (by rw[hs];exact qR _),qQ (by rw[hs];exact qR _)]
def TH(hs:∀x,(f x).length=s){l:List α}{x:α}(h:l[i]? =some x)(hk:k<s):(chunk f l)[i*s+k]? =(f x)[k]? :=by
 have:=congrArg (·[k]?) (TG hs h);simp only[List.getElem?_take,List.getElem?_drop,if_pos hk]at this;exact this
end
structure Nd where
 p:Int
 a:Int
 b:Int
 f:Int
 ch:LI
deriving DecidableEq
variable{l:List Nd}{x:Nd}
def c_(x:Nd):LA:=[.i x.p,.i x.a,.i x.b,.i x.f,ints x.ch]
def fP(x:Nd):LA:=[.i x.p,.i x.a,.i x.b,.i x.f,ae x.ch]
def zq(x:Nd):(c_ x).length=5:=rfl
def gJ(x:Nd):(fP x).length=5:=rfl
def nodes(l:List Nd):T:=.sh 5 (chunk c_ l)
def bk(l:List Nd):T:=.arr 5 (chunk fP l)
def gk(l:List Nd):T:=.agg [nodes l]
def nU(h:l[i]? =some x):((chunk c_ l).drop (i*5)).take 5=[.i x.p,.i x.a,.i x.b,.i x.f,ints x.ch]:=TG zq h
def cN(l:List Nd):(chunk c_ l).length=l.length*5:=lI zq l
def aY6(l:List Nd):(chunk c_ l).length/5=l.length:=vI zq dc l
def KW(h:l[i]? =some x):(chunk c_ l)[i*5]? =some (.i x.p):=TH (k:=0) zq h dc
def Ce(h:l[i]? =some x):(chunk c_ l)[i*5+4]? =some (ints x.ch):=TH (k:=4) zq h dc
attribute [go_sem] aY6
def incr:LI->Bool
 |[]=>true
 |[_]=>true
 |x::y::l=>decide (x<y)&&incr (y::l)
def hZ(n i:Nat)(x:Nd):Bool:=
 decide (0<=x.p/\x.p<=2)&&decide (0<=x.a/\x.a<=100)&&decide (0<=x.b/\x.b<=100)&&
 (if x.p=2 then decide (x.ch=[])&&decide (-1<=x.f/\x.f<=1)&&(decide (x.f≠ -1)||decide (x.a=x.b))
  else decide (x.f= -1)&&decide (1<=x.ch.length/\x.ch.length<=4)&&(x.ch.all fun c=>decide ((i:Int)+1<=c/\c<=(n:Int)-1))&&incr x.ch)
def cg(c:Nat)(l:List Nd):Nat:=(l.map fun x=>if x.p=2 then 0 else x.ch.count (c:Int)).sum
def dep(l:List Nd):Nat->Nat->Int
 |0,_=>0
 |f+1,i=>if(l.getD i ⟨2,0,0,0,[]⟩).p=2 then 0 else((l.getD i ⟨2,0,0,0,[]⟩).ch.foldl (fun d c=>max d (dep l f c.toNat)) 0)+1
def fQ(l:List Nd):Prop:=∀i x,l[i]? =some x->hZ l.length i x=true
def j9(l:List Nd):Bool:=
 decide (1<=l.length/\l.length<=60)&&((List.range l.length).all fun i=>hZ l.length i (l.getD i ⟨2,0,0,0,[]⟩))&&((List.range l.length).all fun i=>decide (i=0∨cg i l=1))&&decide (dep l l.length 0<=5)
def TI(l:List Nd):((List.range l.length).all fun i=>hZ l.length i (l.getD i ⟨2,0,0,0,[]⟩))=true↔fQ l:=by
 rw[rO];constructor
 ·intro h i x hx;have hi:=(qK.1 hx).1;have:=h i (List.mem_range.2 hi);rwa[qA,hx]at this
 ·intro h i hi;have hi:=List.mem_range.1 hi;rw[qA,qB hi];exact h i _ (qB hi)
def k8(h:hZ n i x=true):∀c∈x.ch,(i:Int)+1<=c/\c<=(n:Int)-1:=by
 intro c hc;simp only[hZ,qM]at h;have h2:=h.2;split at h2
 ·simp only[qM,decide_eq_true_eq]at h2;rw[h2.1.1]at hc;simp at hc
 ·simp only[qM,decide_eq_true_eq,rO]at h2;exact h2.1.2 c hc
def eJ(h:hZ n i x=true):(0<=x.p/\x.p<=2)/\(0<=x.a/\x.a<=100)/\(0<=x.b/\x.b<=100)/\(x.p=2->x.ch=[]/\ -1<=x.f/\x.f<=1/\(x.f= -1->x.a=x.b))/\(x.p≠2->x.f= -1/\1<=x.ch.length)/\x.ch.length<=4:=by
 simp only[hZ,qM,decide_eq_true_eq]at h;obtain⟨⟨⟨h1,h2⟩,h3⟩,h4⟩:=h;refine⟨h1,h2,h3,fun hp=>?_,fun hp=>?_,?_⟩
 ·rw[if_pos hp]at h4;simp only[qM,Bool.or_eq_true,decide_eq_true_eq]at h4;exact⟨h4.1.1,h4.1.2.1,h4.1.2.2,fun hf=>h4.2.resolve_left (fun h=>h hf)⟩
 ·rw[if_neg hp]at h4;simp only[qM,decide_eq_true_eq]at h4;exact⟨h4.1.1.1,h4.1.1.2.1⟩
 ·split at h4
  ·simp only[qM,decide_eq_true_eq]at h4;rw[h4.1.1];simp
  ·simp only[qM,decide_eq_true_eq]at h4;exact h4.1.1.2.2
def FV{l:List Nd}:∀(f i:Nat),0<=dep l f i/\dep l f i<=f
 |0,i=>by simp[dep]
 |f+1,i=>by
  rw[dep];split
  ·omega
  ·have key:∀(cs:LI) (d:Int),0<=d/\d<=f->0<=cs.foldl (fun d c=>max d (dep l f c.toNat)) d/\cs.foldl (fun d c=>max d (dep l f c.toNat)) d<=f:=by
    intro cs;induction cs with
    |nil=>intro d h;exact h
    |cons c cs ih=>
     intro d h;rw[List.foldl_cons];have:=FV (l:=l) f c.toNat
     exact ih _ om
   have:=key (l.getD i ⟨2,0,0,0,[]⟩).ch 0 om;omega
def av:Nd:=⟨2,0,0,0,[]⟩
structure Gm where
 nd:List Nd
 w:LL
 v:LL
deriving DecidableEq
variable{g:Gm}
def az:LI->Int
 |[]=>0
 |x::l=>x+az l
def FW:∀l l':LI,az (l++l')=az l+az l'
 |[],l'=>by simp[az]
 |x::l,l'=>by rw[List.cons_append,az,az,FW l l'];omega
def vJ(l:LI)(x:Int):az (l++[x])=az l+x:=by rw[FW];simp[az]
def oZ:∀{l:LI},(∀x∈l,0<=x)->0<=az l
 |[],_=>by simp[az]
 |x::l,h=>by
  have h1:=h x sA;have h2:=oZ (l:=l) fun y hy=>h y (by simp[hy]);rw[az];omega
def FX{b:Int}:∀{l:LI},(∀x∈l,x<=b)->az l<=l.length*b
 |[],_=>by simp[az]
 |x::l,h=>by
  have h1:=h x sA;have h2:=FX (l:=l) fun y hy=>h y (by simp[hy]);rw[az,List.length_cons];have:((l.length+1:Nat):Int)*b=l.length*b+b:=by rw[Int.natCast_add,Int.add_mul];simp
  omega
def jG(m:LL)(k:Nat)(lo hi:Int):Bool:=decide (m.length=k)&&m.all fun r=>decide (r.length=k)&&r.all fun x=>decide (lo<=x/\x<=hi)
def jk(w:LL):Int:=az (w.map az)
def bR(g:Gm):Bool:=j9 g.nd&&decide (1<=g.w.length/\g.w.length<=6)&&jG g.w g.w.length 0 9&&jG g.v g.w.length (-1) 1&&decide (0<jk g.w)
def idxs(l:List Nd)(pl:Int)(n:Nat):LI:=((List.range n).filter fun i=>decide ((l.getD i av).p=pl)).map Int.ofNat
def KX(l:List Nd)(pl:Int)(n:Nat):idxs l pl (n+1)=if(l.getD n av).p=pl then idxs l pl n++[(n:Int)]else idxs l pl n:=by
 unfold idxs;rw[List.range_succ,List.filter_append];by_cases h:(l.getD n av).p=pl
 ·rw[if_pos h,List.filter_cons_of_pos (sU h)];simp
 ·rw[if_neg h,List.filter_cons_of_neg (sU h)];simp
def iQ(ns:LI)(k:Nat):LL:=ns.flatMap fun n=>(List.range k).map fun c:Nat=>[n,(c:Int)]
def aY7(ns:LI)(n:Int)(k:Nat):iQ (ns++[n]) k=iQ ns k++(List.range k).map fun c:Nat=>[n,(c:Int)]:=by simp[iQ]
def FY(ns:LI)(k:Nat):(iQ ns k).length=ns.length*k:=by
 induction ns with
 |nil=>simp[iQ]
 |cons n ns ih=>
  have:iQ (n::ns) k=((List.range k).map fun c:Nat=>[n,(c:Int)])++iQ ns k:=rfl;rw[this,qD,ih];simp[Nat.add_mul];omega
def sets(g:Gm)(pl:Int):LL:=iQ (idxs g.nd pl g.nd.length) g.w.length
def gw(g:Gm)(i:Nat)(a b:Nat):Int:=
 let x:=g.nd.getD i av
 let r:=if x.f=0 then -1 else if x.f=1 then 1 else(g.v.getD a []).getD b 0
 if r=1 then x.b else if r= -1 then -x.a else 0
def pw(p:Nat):Int:=60^p
def xR(p:Nat):pw (p+1)=60*pw p:=by rw[pw,pw,Int.pow_succ,Int.mul_comm]
def nV(p:Nat):0<pw p:=Int.pow_pos dc
def el(g:Gm)(pl:Int)(i c:Nat):Nat:=(idxs g.nd pl i).length*g.w.length+c
def partsOf(g:Gm)(pt:LL)(pl:Int)(i c:Nat):LI:=pt.getD (el g pl i c) []
def val(g:Gm)(s t:LL):Nat->Nat->Nat->Nat->Nat->Int
 |0,_,_,_,_=>0
 |f+1,i,a,b,p=>
  let x:=g.nd.getD i av
  if x.p=2 then gw g i a b*pw p
  else az (List.zipWith (fun q c=>q*val g s t f c.toNat a b (p-1)) (if x.p=0 then partsOf g s 0 i a else partsOf g t 1 i b) x.ch)
def i8(g:Gm)(pl:Int)(i own c:Nat):Int:=if pl=0 then gw g i own c else -gw g i c own
def da(g:Gm)(ot:LL)(pl:Int)(i:Nat)(reach:LI)(k:Nat):LI:=
 (List.range reach.length).map fun c=>reach.getD c 0*(partsOf g ot (1-pl) i c).getD k 0
def dO:LI->Nat
 |[]=>0
 |l=>go l.length l
where
 go:Nat->LI->Nat
  |0,_=>0
  |n+1,l=>if n=0 then 0 else if l.getD (go n l) 0<l.getD n 0 then n else go n l
def bD(g:Gm)(ot:LL)(pl:Int)(own:Nat):Nat->Nat->LI->Nat->Int
 |0,_,_,_=>0
 |f+1,i,reach,p=>
  let x:=g.nd.getD i av
  if x.p=2 then az ((List.range reach.length).map fun c=>reach.getD c 0*i8 g pl i own c)*pw p
  else if x.p=pl then
   let vs:=x.ch.map fun c=>bD g ot pl own f c.toNat reach p
   vs.getD (dO vs) 0
  else az ((List.range x.ch.length).map fun k=>bD g ot pl own f (x.ch.getD k 0).toNat (da g ot pl i reach k) (p-1))
def TJ{α:Type}(F:α->Int):∀(cs:List α) (d:Int),d<=cs.foldl (fun d c=>max d (F c)) d/\∀c∈cs,F c<=cs.foldl (fun d c=>max d (F c)) d
 |[],d=>⟨Int.le_refl _,sA⟩
 |c::cs,d=>by
  rw[List.foldl_cons];obtain⟨h1,h2⟩:=TJ F cs (max d (F c));refine⟨om,fun c' eY=>?_⟩;rcases qO.1 eY with rfl|eY
  ·omega
  ·exact h2 c' eY
def sQ{f:Nat}(hp:(l.getD i av).p≠2):1<=dep l (f+1) i/\∀c∈(l.getD i av).ch,dep l f c.toNat+1<=dep l (f+1) i:=by
 have e:dep l (f+1) i=((l.getD i av).ch.foldl (fun d c=>max d (dep l f c.toNat)) 0)+1:=by
  rw[dep];exact if_neg hp
 obtain⟨h1,h2⟩:=TJ (fun c:Int=>dep l f c.toNat) (l.getD i av).ch 0;rw[e];exact⟨om,fun c hc=>by have:=h2 c hc;omega⟩
def Cf(n:Nat)(l:LI):dO.go (n+1) l=if n=0 then 0 else if l.getD (dO.go n l) 0<l.getD n 0 then n else dO.go n l:=rfl
def k9{α:Type}{l:List α}(d:α)(h:k<l.length):l.getD k d∈l:=by rw[qA,qB h];exact rJ h
def Cg(l:LI):∀n,0<n->dO.go n l<n
 |0,h=>absurd h om
 |1,_=>by simp[dO.go]
 |n+2,_=>by
  have:=Cg l (n+1) om;rw[Cf,if_neg om];split<;>omega
def zr(l:LI):dO l=dO.go l.length l:=by
 cases l with
 |nil=>rfl
 |cons a l=>rfl
def TK{l:LI}(h:l≠ []):dO l<l.length:=by
 rw[zr];exact Cg l _ (List.length_pos_iff.2 h)
def TL{l l':LI}:∀n,(∀i j,i<n->j<n->(l.getD i 0<l.getD j 0↔l'.getD i 0<l'.getD j 0))->dO.go n l=dO.go n l'
 |0,_=>rfl
 |1,_=>by simp[dO.go]
 |n+2,h=>by
  rw[Cf (n+1) l,Cf (n+1) l',if_neg (c:=n+1=0) om,if_neg (c:=n+1=0) om];have ih:=TL (l:=l) (l':=l') (n+1) fun i j hi hj=>h i j om om;rw[ih];have hlt:=Cg l' (n+1) om;have:=h (dO.go (n+1) l') (n+1) om om;by_cases h1:l.getD (dO.go (n+1) l') 0<l.getD (n+1) 0
  ·rw[if_pos h1,if_pos (this.1 h1)]
  ·rw[if_neg h1,if_neg fun h2=>h1 (this.2 h2)]
def FZ(l:LI)(i:Nat):(l.map fun x=>60*x).getD i 0=60*l.getD i 0:=by
 rw[qA,qA,qU];cases l[i]? <;>simp
def Ch(l:LI):dO (l.map fun x=>60*x)=dO l:=by
 rw[zr,zr,qJ];refine TL _ fun i j _ _=>?_;rw[FZ,FZ];omega
def k_{α:Type}(F:α->Int)(c:Int):∀l:List α,az (l.map fun x=>c*F x)=c*az (l.map F)
 |[]=>by simp[az]
 |x::l=>by rw[List.map_cons,List.map_cons,az,az,k_ F c l,Int.mul_add]
def iR{α:Type}{F G:α->Int}:∀{l:List α},(∀x∈l,F x=G x)->az (l.map F)=az (l.map G)
 |[],_=>rfl
 |x::l,h=>by rw[List.map_cons,List.map_cons,az,az,h x sA,iR fun y hy=>h y (by simp[hy])]
def TM{α:Type}(F G:α->Int):∀l:List α,az (l.map fun x=>F x+G x)=az (l.map F)+az (l.map G)
 |[]=>by simp[az]
 |x::l=>by rw[List.map_cons,List.map_cons,List.map_cons,az,az,az,TM F G l];omega
def F0{α:Type}:∀l:List α,az (l.map fun _=>(0:Int))=0
 |[]=>rfl
 |x::l=>by rw[List.map_cons,az,F0 l];rfl
def zt{α β:Type}(F:α->β->Int)(m:List β):∀l:List α,az (l.map fun x=>az (m.map fun y=>F x y))=az (m.map fun y=>az (l.map fun x=>F x y))
 |[]=>by simp only[List.map_nil,az];exact(F0 m).symm
 |x::l=>by
  rw[List.map_cons,az,zt F m l,←TM];rfl
def F1{α:Type}{F G:α->Int}:∀{l:List α},(∀x∈l, -G x<=F x/\F x<=G x)-> -az (l.map G)<=az (l.map F)/\az (l.map F)<=az (l.map G)
 |[],_=>by simp[az]
 |x::l,h=>by
  have h1:=h x sA;have h2:=F1 (l:=l) fun y hy=>h y (by simp[hy]);rw[List.map_cons,List.map_cons,az,az];omega
def zu:∀l:LI,(List.range l.length).map (fun c=>l.getD c 0)=l:=by
 intro l;refine List.ext_getElem? fun j=>?_;rw[qU];by_cases hj:j<l.length
 ·rw[List.getElem?_range hj,Option.map_some,qA,qB hj];rfl
 ·rw[qP (sU hj),qP om];rfl
def xS{g:Gm}{ot:LL}{pl:Int}{own:Nat}:∀(f i:Nat) (reach:LI) (p:Nat),dep g.nd f i<=p->bD g ot pl own f i reach (p+1)=60*bD g ot pl own f i reach p
 |0,i,reach,p,_=>by simp[bD]
 |f+1,i,reach,p,h=>by
  rw[bD,bD];simp only[];by_cases h2:(g.nd.getD i av).p=2
  ·rw[if_pos h2,if_pos h2,xR,←Int.mul_assoc,←Int.mul_assoc,Int.mul_comm _ 60,Int.mul_assoc]
  ·rw[if_neg h2,if_neg h2];obtain⟨d1,d2⟩:=sQ (f:=f) h2;by_cases h3:(g.nd.getD i av).p=pl
   ·rw[if_pos h3,if_pos h3];have e:(g.nd.getD i av).ch.map (fun c=>bD g ot pl own f c.toNat reach (p+1))=((g.nd.getD i av).ch.map fun c=>bD g ot pl own f c.toNat reach p).map fun x=>60*x:=by
     rw[List.map_map];exact rW fun c hc=>xS f c.toNat reach p (by have:=d2 c hc;omega)
    rw[e,Ch,FZ]
   ·rw[if_neg h3,if_neg h3];obtain⟨p',rfl⟩:∃p',p=p'+1:=⟨p-1,om⟩;rw[←k_];refine iR fun k hk=>?_;have hk:k<(g.nd.getD i av).ch.length:=sU hk;have hmem:=k9 0 hk;exact xS f _ _ p' (by have:=d2 _ hmem;omega)
def dv(g:Gm)(ot:LL)(pl:Int):Prop:=∀i c,i<g.nd.length->c<g.w.length->(g.nd.getD i av).p=pl->(partsOf g ot pl i c).length=(g.nd.getD i av).ch.length/\(∀x∈partsOf g ot pl i c,0<=x/\x<=60)/\az (partsOf g ot pl i c)=60
def zw(g:Gm):Prop:=∀i a b, -100<=gw g i a b/\gw g i a b<=100
def ud(g:Gm)(ot:LL)(pl:Int)(i:Nat)(reach:LI)(k:Nat):(da g ot pl i reach k).length=reach.length:=by simp[da]
def TN{ot:LL}(bT:dv g ot (1-pl))(hi:i<g.nd.length)(hr:reach.length=g.w.length)(hp:(g.nd.getD i av).p=1-pl):
  az ((List.range (g.nd.getD i av).ch.length).map fun k=>az (da g ot pl i reach k))=60*az reach:=by
 unfold da;rw[zt];have e:az ((List.range reach.length).map fun c=>az ((List.range (g.nd.getD i av).ch.length).map fun k=>reach.getD c 0*(partsOf g ot (1-pl) i c).getD k 0))=az ((List.range reach.length).map fun c=>60*reach.getD c 0):=by
  refine iR fun c hc=>?_;obtain⟨h1,_,h3⟩:=bT i c hi (by have:=List.mem_range.1 hc;omega) hp;rw[k_,←h1,zu,h3,Int.mul_comm]
 rw[e,k_,zu]
def xT{ot:LL}(bT:dv g ot (1-pl))(hi:i<g.nd.length)(hr:reach.length=g.w.length)(hp:(g.nd.getD i av).p=1-pl)(h0:∀x∈reach,0<=x)(k:Nat):
  ∀x∈da g ot pl i reach k,0<=x:=by
 intro x hx;obtain⟨c,hc,rfl⟩:=qN.1 hx;have hc:=List.mem_range.1 hc;obtain⟨_,h2,_⟩:=bT i c hi om hp;refine Int.mul_nonneg ?_ ?_
 ·rw[qA,qB hc];exact h0 _ (rJ hc)
 ·rw[qA];cases h:(partsOf g ot (1-pl) i c)[k]? with
  |none=>simp
  |some y=>exact(h2 y (qE h)).1
def Ci(hp:zw g)(pl:Int)(i own c:Nat): -100<=i8 g pl i own c/\i8 g pl i own c<=100:=by
 unfold i8;split
 ·exact hp i own c
 ·have:=hp i c own;omega
def zx{x y b:Int}(hx:0<=x)(h1: -b<=y)(h2:y<=b): -(b*x)<=x*y/\x*y<=b*x:=by
 have e1:=Int.mul_le_mul_of_nonneg_left h2 hx;have e2:=Int.mul_le_mul_of_nonneg_left h1 hx;rw[Int.mul_neg]at e2;rw[Int.mul_comm b x];omega
def aY8(hp:zw g)(pl:Int)(i own:Nat)(h0:∀x∈reach,0<=x):
  -(100*az reach)<=az ((List.range reach.length).map fun c=>reach.getD c 0*i8 g pl i own c)/\az ((List.range reach.length).map fun c=>reach.getD c 0*i8 g pl i own c)<=100*az reach:=by
 have h:=F1 (l:=List.range reach.length) (F:=fun c=>reach.getD c 0*i8 g pl i own c) (G:=fun c=>100*reach.getD c 0) fun c hc=>by
  have hc:=List.mem_range.1 hc;obtain⟨h1,h2⟩:=Ci hp pl i own c;have:0<=reach.getD c 0:=by rw[qA,qB hc];exact h0 _ (rJ hc)
  exact zx this h1 h2
 rw[k_,zu]at h;exact h
def KY{g:Gm}{ot:LL}{pl:Int}{own:Nat}(aK:fQ g.nd)(aM:pl=0∨pl=1)(bT:dv g ot (1-pl))(o5:zw g):∀(f i:Nat) (reach:LI) (p:Nat),i<g.nd.length->reach.length=g.w.length->(∀x∈reach,0<=x)->dep g.nd f i<=p→
  -(100*az reach*pw p)<=bD g ot pl own f i reach p/\bD g ot pl own f i reach p<=100*az reach*pw p
 |0,i,reach,p,_,_,h0,_=>by
  have h1:=oZ h0;have h2:=nV p;have:=Int.mul_nonneg (Int.mul_nonneg (by decide:(0:Int)<=100) h1) (Int.le_of_lt h2);simp only[bD];omega
 |f+1,i,reach,p,hi,hr,h0,h=>by
  have hs:=oZ h0;have mN:=nV p;have hB:=Int.mul_nonneg (Int.mul_nonneg (by decide:(0:Int)<=100) hs) (Int.le_of_lt mN);rw[bD];simp only[];by_cases h2:(g.nd.getD i av).p=2
  ·rw[if_pos h2];obtain⟨e1,e2⟩:=aY8 o5 pl i own h0;have e3:=Int.mul_le_mul_of_nonneg_right e1 (Int.le_of_lt mN);have e4:=Int.mul_le_mul_of_nonneg_right e2 (Int.le_of_lt mN);rw[Int.neg_mul]at e3;exact⟨e3,e4⟩
  ·rw[if_neg h2];obtain⟨d1,d2⟩:=sQ (f:=f) h2;have hx:g.nd[i]? =some (g.nd.getD i av):=by rw[qA,qB hi];rfl
   have hch:=k8 (aK i _ hx);by_cases h3:(g.nd.getD i av).p=pl
   ·rw[if_pos h3];rw[qA,qU];cases hc:(g.nd.getD i av).ch[dO ((g.nd.getD i av).ch.map fun c=>bD g ot pl own f c.toNat reach p)]? with
    |none=>simp only[Option.map_none,Option.getD_none];omega
    |some c=>
     simp only[Option.map_some,Option.getD_some];have hm:=qE hc;exact KY aK aM bT o5 f c.toNat reach p (by have:=hch c hm;omega) hr h0 (by have:=d2 c hm;omega)
   ·rw[if_neg h3];have hp1:(g.nd.getD i av).p=1-pl:=by
     obtain⟨⟨q1,q2⟩,_⟩:=eJ (aK i _ hx);omega
    obtain⟨p',rfl⟩:∃p',p=p'+1:=⟨p-1,om⟩;have hb:=F1 (l:=List.range (g.nd.getD i av).ch.length) (F:=fun k=>bD g ot pl own f ((g.nd.getD i av).ch.getD k 0).toNat (da g ot pl i reach k) (p'+1-1)) (G:=fun k=>(100*pw p')*az (da g ot pl i reach k)) fun k hk=>by
     have hk:=List.mem_range.1 hk;have hmem:=k9 0 hk;have:=KY (own:=own) aK aM bT o5 f ((g.nd.getD i av).ch.getD k 0).toNat (da g ot pl i reach k) p' (by have:=hch _ hmem;omega) (by rw[ud,hr]) (xT bT hi hr hp1 h0 k) (by have:=d2 _ hmem;omega);have e:100*az (da g ot pl i reach k)*pw p'=(100*pw p')*az (da g ot pl i reach k):=(by rw[Int.mul_assoc,Int.mul_comm (az _),←Int.mul_assoc]);rw[e]at this;exact this
    rw[k_,TN bT hi hr hp1]at hb;have e:100*az reach*pw (p'+1)=(100*pw p')*(60*az reach):=by
     rw[xR];generalize az reach=u;generalize pw p'=v;rw[Int.mul_assoc 100 u,←Int.mul_assoc u 60,Int.mul_comm u 60,Int.mul_assoc 60 u,Int.mul_assoc 100 v,Int.mul_comm v (60*u),Int.mul_assoc 60 u]
    rw[e];exact hb
def qx(n:Nat)(l:LI):Bool:=decide (l.length=n)&&(l.all fun x=>decide (0<=x/\x<=60))&&decide (az l=60)
def h_(g:Gm)(pl:Int)(i:Nat):Nat:=(g.nd.getD (((sets g pl).getD i []).getD 0 0).toNat av).ch.length
def i9(g:Gm)(pl:Int)(pt:LL):Bool:=decide (pt.length=(sets g pl).length)&&((List.range (sets g pl).length).all fun i=>qx (h_ g pl i) (pt.getD i []))
def zy(l:List Nd)(pl:Int){i:Nat}(hp:(l.getD i av).p=pl):∀(n:Nat),i<n->∃rest,idxs l pl n=idxs l pl i++(i:Int)::rest
 |0,h=>absurd h om
 |n+1,h=>by
  rw[KX];rcases qH i n with h1|h1
  ·obtain⟨rest,e⟩:=zy l pl hp n h1;split
   ·exact⟨rest++[(n:Int)],by rw[e];simp⟩
   ·exact⟨rest,e⟩
  ·have:n=i:=om;subst this;rw[if_pos hp];exact⟨[],rfl⟩
def F2{x:Int}(h:x∈idxs l pl n):∃i:Nat,x=i/\i<n/\(l.getD i av).p=pl:=by
 obtain⟨i,hi,rfl⟩:=qN.1 h;obtain⟨h1,h2⟩:=qV.1 hi;exact⟨i,rfl,List.mem_range.1 h1,sU h2⟩
def TO(hi:i<g.nd.length)(hc:c<g.w.length)(hp:(g.nd.getD i av).p=pl):(sets g pl)[el g pl i c]? =some [(i:Int),(c:Int)]:=by
 obtain⟨rest,e⟩:=zy g.nd pl hp g.nd.length hi;have e1:iQ (idxs g.nd pl i++(i:Int)::rest) g.w.length=iQ (idxs g.nd pl i) g.w.length++(((List.range g.w.length).map fun c:Nat=>[(i:Int),(c:Int)])++iQ rest g.w.length):=by simp[iQ]
 rw[sets,e,e1,el,rD (by rw[FY];omega),FY,Nat.add_sub_cancel_left,rR (sU hc)];rw[qU,List.getElem?_range hc];rfl
def TP(g:Gm)(pl:Int):(sets g pl).length=(idxs g.nd pl g.nd.length).length*g.w.length:=FY _ _
def Cj(hi:i<g.nd.length)(hc:c<g.w.length)(hp:(g.nd.getD i av).p=pl):el g pl i c<(sets g pl).length:=(qK.1 (TO hi hc hp)).1
def aY9{ns:LI}{x:LI}(h:x∈iQ ns k):∃n∈ns,∃c:Nat,c<k/\x=[n,(c:Int)]:=by
 obtain⟨n,hn,hx⟩:=List.mem_flatMap.1 h;obtain⟨c,hc,rfl⟩:=qN.1 hx;exact⟨n,hn,c,List.mem_range.1 hc,rfl⟩
def zD{pt:LL}(h:i9 g pl pt=true):dv g pt pl:=by
 intro i c hi hc hp;simp only[i9,qM,decide_eq_true_eq,rO,List.mem_range]at h;have h1:=h.2 (el g pl i c) (Cj hi hc hp);have e:h_ g pl (el g pl i c)=(g.nd.getD i av).ch.length:=by
  have e0:(sets g pl).getD (el g pl i c) []=[(i:Int),(c:Int)]:=by rw[qA,TO hi hc hp];rfl
  rw[h_,e0];rfl
 rw[e]at h1;simp only[qx,qM,decide_eq_true_eq,rO]at h1;exact⟨h1.1.1,h1.1.2,h1.2⟩
def fX(h:j9 l=true):(1<=l.length/\l.length<=60)/\fQ l/\(∀i,i<l.length->i=0∨cg i l=1)/\dep l l.length 0<=5:=by
 simp only[j9,qM,decide_eq_true_eq]at h;obtain⟨⟨⟨h1,h2⟩,h3⟩,h4⟩:=h;refine⟨h1,(TI l).1 h2,fun i hi=>?_,h4⟩;rw[rO]at h3;have:=h3 i (List.mem_range.2 hi);simpa using this
def F3(h:jG m k lo hi=true):m.length=k/\∀r∈m,r.length=k/\∀x∈r,lo<=x/\x<=hi:=by
 simp only[jG,qM,decide_eq_true_eq,rO]at h;exact h
def vK(h:bR g=true):j9 g.nd=true/\(1<=g.w.length/\g.w.length<=6)/\(∀r∈g.w,r.length=g.w.length/\∀x∈r,0<=x/\x<=9)/\g.v.length=g.w.length/\(∀r∈g.v,r.length=g.w.length/\∀x∈r, -1<=x/\x<=1)/\0<jk g.w:=by
 simp only[bR,qM,decide_eq_true_eq]at h;obtain⟨⟨⟨⟨h1,h2⟩,h3⟩,h4⟩,h5⟩:=h;exact⟨h1,h2,(F3 h3).2,(F3 h4).1,(F3 h4).2,h5⟩
def Ck(h:fQ g.nd):zw g:=by
 intro i a b;have hx:(0<=(g.nd.getD i av).a/\(g.nd.getD i av).a<=100)/\(0<=(g.nd.getD i av).b/\(g.nd.getD i av).b<=100):=by
  rw[qA];cases hi:g.nd[i]? with
  |none=>decide
  |some x=>
   obtain⟨_,h1,h2,_⟩:=eJ (h i x hi);exact⟨h1,h2⟩
 unfold gw;simp only[];generalize (if(g.nd.getD i av).f=0 then(-1:Int)else if(g.nd.getD i av).f=1 then 1 else(g.v.getD a []).getD b 0)=r;split
 ·omega
 ·split<;>omega
def dp(g:Gm)(ot:LL)(pl:Int)(own:Nat):Nat->Nat->LI->Nat->LL->LL
 |0,_,_,_,B=>B
 |f+1,i,reach,p,B=>
  let x:=g.nd.getD i av
  if x.p=2 then B
  else if x.p=pl then
   (x.ch.foldl (fun B c=>dp g ot pl own f c.toNat reach p B) B).set (el g pl i own) ((List.replicate x.ch.length 0).set (dO (x.ch.map fun c=>bD g ot pl own f c.toNat reach p)) 60)
  else(List.range x.ch.length).foldl (fun B k=>dp g ot pl own f (x.ch.getD k 0).toNat (da g ot pl i reach k) (p-1) B) B
def F4{α β:Type}{F G:β->α->β}:∀(l:List α) (b:β),(∀b,∀x∈l,F b x=G b x)->l.foldl F b=l.foldl G b
 |[],b,_=>rfl
 |x::l,b,h=>by
  rw[List.foldl_cons,List.foldl_cons,h b x sA];exact F4 l _ fun b y hy=>h b y (by simp[hy])
def KZ{g:Gm}{ot:LL}{pl:Int}{own:Nat}:∀(f i:Nat) (reach:LI) (p:Nat) (B:LL),dep g.nd f i<=p->dp g ot pl own f i reach (p+1) B=dp g ot pl own f i reach p B
 |0,i,reach,p,B,_=>rfl
 |f+1,i,reach,p,B,h=>by
  rw[dp,dp]
  (try simp only[])
  by_cases h2:(g.nd.getD i av).p=2
  ·rw[if_pos h2,if_pos h2]
  ·rw[if_neg h2,if_neg h2];obtain⟨d1,d2⟩:=sQ (f:=f) h2;by_cases h3:(g.nd.getD i av).p=pl
   ·rw[if_pos h3,if_pos h3];have e:(g.nd.getD i av).ch.map (fun c=>bD g ot pl own f c.toNat reach (p+1))=((g.nd.getD i av).ch.map fun c=>bD g ot pl own f c.toNat reach p).map fun x=>60*x:=by
     rw[List.map_map];exact rW fun c hc=>xS f c.toNat reach p (by have:=d2 c hc;omega)
    rw[e,Ch];congr 1;exact F4 _ _ fun B c hc=>KZ f c.toNat reach p B (by have:=d2 c hc;omega)
   ·rw[if_neg h3,if_neg h3];obtain⟨p',rfl⟩:∃p',p=p'+1:=⟨p-1,om⟩;refine F4 _ _ fun B k hk=>?_;have hk:=List.mem_range.1 hk;exact KZ f _ _ p' B (by have:=d2 _ (k9 0 hk);omega)
def ni{α β:Type}{F:β->α->β}(I:β->Prop):∀(l:List α) (b:β),I b->(∀b,∀x∈l,I b->I (F b x))->I (l.foldl F b)
 |[],b,h,_=>h
 |x::l,b,h,hs=>by
  rw[List.foldl_cons];exact ni I l _ (hs b x sA h) fun b y hy=>hs b y (by simp[hy])
def i_(n:Nat)(B:LL):Prop:=B.length=n/\∀r∈B,r.length<=4
def aZ0{B:LL}(h:i_ n B)(i:Nat)(hr:r.length<=4):i_ n (B.set i r):=by
 refine⟨by rw[List.length_set,h.1],fun y hy=>?_⟩;rcases List.mem_or_eq_of_mem_set hy with hy|rfl
 ·exact h.2 y hy
 ·exact hr
def aZ1(aK:fQ g.nd)(i:Nat):(g.nd.getD i av).ch.length<=4:=by
 rw[qA];cases hi:g.nd[i]? with
 |none=>simp[av]
 |some x=>exact(eJ (aK i x hi)).2.2.2.2.2
def ue{g:Gm}{ot:LL}{pl:Int}{own n:Nat}(aK:fQ g.nd):∀(f i:Nat) (reach:LI) (p:Nat) (B:LL),i_ n B->i_ n (dp g ot pl own f i reach p B)
 |0,i,reach,p,B,h=>h
 |f+1,i,reach,p,B,h=>by
  rw[dp]
  (try simp only[])
  split
  ·exact h
  ·split
   ·refine aZ0 (ni (i_ n) _ _ h fun B c _ hB=>ue aK f _ _ _ B hB) _ ?_;rw[List.length_set,List.length_replicate];exact aZ1 aK i
   ·exact ni (i_ n) _ _ h fun B k _ hB=>ue aK f _ _ _ B hB
def fj(g:Gm)(pl:Int)(own:Nat):LI:=(List.range g.w.length).map fun c=>if pl=0 then(g.w.getD own []).getD c 0 else(g.w.getD c []).getD own 0
def sR(g:Gm)(pl:Int)(own:Nat):(fj g pl own).length=g.w.length:=by simp[fj]
def TQ(hw:∀r∈g.w,r.length=g.w.length/\∀x∈r,0<=x/\x<=9)(a b:Nat):0<=(g.w.getD a []).getD b 0/\(g.w.getD a []).getD b 0<=9:=by
 rw[qA,qA];cases ha:g.w[a]? with
 |none=>simp
 |some r=>
  simp only[Option.getD_some];cases hb:r[b]? with
  |none=>simp
  |some x=>exact(hw r (qE ha)).2 x (qE hb)
def K0(hw:∀r∈g.w,r.length=g.w.length/\∀x∈r,0<=x/\x<=9)(pl:Int)(own:Nat):∀x∈fj g pl own,0<=x/\x<=9:=by
 intro x hx;obtain⟨c,hc,rfl⟩:=qN.1 hx;split
 ·exact TQ hw _ _
 ·exact TQ hw _ _
def eD(g:Gm):Nat:=(dep g.nd g.nd.length 0).toNat
def fY(g:Gm)(ot:LL)(pl:Int)(n:Nat):Int:=az ((List.range n).map fun own=>bD g ot pl own g.nd.length 0 (fj g pl own) (eD g))
def ia(g:Gm)(ot:LL)(pl:Int)(n:Nat):LL:=(List.range n).foldl (fun B own=>dp g ot pl own g.nd.length 0 (fj g pl own) (eD g) B) (List.replicate (sets g pl).length [])
def F5(g:Gm)(ot:LL)(pl:Int)(n:Nat):fY g ot pl (n+1)=fY g ot pl n+bD g ot pl n g.nd.length 0 (fj g pl n) (eD g):=by
 rw[fY,List.range_succ,qG,FW];simp[az,fY]
def TR(g:Gm)(ot:LL)(pl:Int)(n:Nat):ia g ot pl (n+1)=dp g ot pl n g.nd.length 0 (fj g pl n) (eD g) (ia g ot pl n):=by
 rw[ia,List.range_succ,List.foldl_append];rfl
def K3(aK:fQ g.nd)(ot:LL)(pl:Int)(n:Nat):i_ (sets g pl).length (ia g ot pl n):=by
 refine ni (i_ _) _ _ ⟨sA,fun r hr=>?_⟩ fun B own _ hB=>ue aK _ _ _ _ B hB;rw[(List.mem_replicate.1 hr).2];simp
def kz(l:List Nd)(n i k:Nat):LI:=(List.range n).map fun c=>(cg c (l.take i):Int)+(((l.getD i av).ch.take k).count (c:Int):Nat)
def sS(l:List Nd)(n i k:Nat):(kz l n i k).length=n:=by simp[kz]
def xU(l:List Nd)(h:c<n):(kz l n i k)[c]? =some ((cg c (l.take i):Int)+(((l.getD i av).ch.take k).count (c:Int):Nat)):=by simp[kz,h]
def TS(l:List Nd)(n:Nat):kz l n 0 0=List.replicate n 0:=by
 refine List.ext_getElem? fun j=>?_;rw[rM];by_cases hj:j<n
 ·rw[xU l hj,if_pos hj];simp[cg]
 ·rw[qP (by rw[sS];omega),if_neg hj]
def TT{c:Nat}(hc:c<n)(hk:(l.getD i av).ch[k]? =some (c:Int)):(kz l n i k).set c ((cg c (l.take i):Int)+(((l.getD i av).ch.take k).count (c:Int):Nat)+1)=kz l n i (k+1):=by
 refine List.ext_getElem? fun j=>?_;rw[List.getElem?_set,sS];have ht:(l.getD i av).ch.take (k+1)=(l.getD i av).ch.take k++[(c:Int)]:=by rw[List.take_add_one,hk];rfl
 by_cases hj:c=j
 ·subst hj;rw[if_pos rfl,if_pos hc,xU l hc,ht,List.count_append];simp;omega
 ·rw[if_neg hj];by_cases hjn:j<n
  ·rw[xU l hjn,xU l hjn,ht,List.count_append];have:List.count (j:Int) [(c:Int)]=0:=by
    rw[List.count_eq_zero];simp;omega
   rw[this,Nat.add_zero]
  ·rw[qP (by rw[sS];omega),qP (by rw[sS];omega)]
def aZ2(c:Nat)(l:List Nd)(x:Nd):cg c (l++[x])=cg c l+if x.p=2 then 0 else x.ch.count (c:Int):=by simp[cg]
def aZ3(hx:l[i]? =some x)(h:x.p=2->x.ch=[]):cg c (l.take (i+1))=cg c (l.take i)+x.ch.count (c:Int):=by
 have ht:l.take (i+1)=l.take i++[x]:=by rw[List.take_add_one,hx];rfl
 rw[ht,aZ2];split
 ·rename_i h1;rw[h h1];simp
 ·rfl
def K4(hx:l[i]? =some x)(h:x.p=2->x.ch=[]):kz l n i x.ch.length=kz l n (i+1) 0:=by
 have hd:l.getD i av=x:=by rw[qA,hx];rfl
 refine rW fun c _=>?_;rw[aZ3 hx h,hd,rT,List.take_zero];simp
def TU(hx:l[i]? =some x)(h:x.ch=[]):kz l n i 0=kz l n (i+1) 0:=by
 have:=K4 (n:=n) hx (fun _=>h);rw[h]at this;exact this
def TV(l:List Nd)(n c:Nat)(h:c<n):(kz l n l.length 0)[c]? =some (cg c l:Int):=by
 rw[xU l h,rT];simp
def qy(n:Int)(l:LI):Bool:=(l.all fun c=>decide (0<=c/\c<=n-1))&&incr l
def TW{a:Int}:∀{l:LI},incr (a::l)=true->∀c∈l,a<c
 |[],_=>sA
 |b::l,h=>by
  rw[incr,qM,decide_eq_true_eq]at h;intro c hc;rcases qO.1 hc with rfl|hc
  ·exact h.1
  ·have:=TW h.2 c hc;omega
def aZ4(n i:Nat)(x:Nd):hZ n i x=
  (decide (0<=x.p/\x.p<=2)&&decide (0<=x.a/\x.a<=100)&&decide (0<=x.b/\x.b<=100)&&decide (-1<=x.f/\x.f<=1)&&
  (if x.p=2 then decide (x.ch.length=0)&&(decide (0<=x.f)||decide (x.a=x.b))
   else decide (x.f= -1)&&decide (1<=x.ch.length/\x.ch.length<=4)&&qy n x.ch&&decide ((i:Int)<x.ch.headD 0))):=by
 rw[hZ,Bool.eq_iff_iff];simp only[qM,decide_eq_true_eq];by_cases h2:x.p=2
 ·rw[if_pos h2,if_pos h2];simp only[qM,Bool.or_eq_true,decide_eq_true_eq,List.length_eq_zero_iff];constructor
  ·rintro⟨⟨⟨h1,h3⟩,h4⟩,⟨h5,h6⟩,h7⟩;exact⟨⟨⟨⟨h1,h3⟩,h4⟩,h6⟩,h5,h7.imp (fun h=>om) id⟩
  ·rintro⟨⟨⟨⟨h1,h3⟩,h4⟩,h6⟩,h5,h7⟩;exact⟨⟨⟨h1,h3⟩,h4⟩,⟨h5,h6⟩,h7.imp (fun h=>om) id⟩
 ·rw[if_neg h2,if_neg h2];simp only[qy,qM,decide_eq_true_eq,rO];constructor
  ·rintro⟨⟨⟨h1,h3⟩,h4⟩,⟨⟨h5,h6⟩,h7⟩,h8⟩;refine⟨⟨⟨⟨h1,h3⟩,h4⟩,om⟩,⟨⟨h5,h6⟩,fun c hc=>by have:=h7 c hc;omega,h8⟩,?_⟩;cases hch:x.ch with
   |nil=>rw[hch]at h6;simp at h6
   |cons c cs=>have:=h7 c (by rw[hch];simp);simp only[List.headD_cons];omega
  ·rintro⟨⟨⟨⟨h1,h3⟩,h4⟩,h6⟩,⟨⟨h5,z_⟩,h7,h8⟩,h9⟩;refine⟨⟨⟨h1,h3⟩,h4⟩,⟨⟨h5,z_⟩,fun c hc=>?_⟩,h8⟩;have jH:=h7 c hc;cases hch:x.ch with
   |nil=>rw[hch]at hc;simp at hc
   |cons d cs=>
    rw[hch]at hc h8 h9;simp only[List.headD_cons]at h9;rcases qO.1 hc with rfl|hc
    ·omega
    ·have:=TW h8 c hc;omega
def kA(m:LL):Prop:=m.length<=9223372036854775807/\∀r∈m,r.length<=9223372036854775807
def qz(g:Gm):Prop:=g.nd.length<=9223372036854775807/\(∀x∈g.nd,x.ch.length<=9223372036854775807)/\kA g.w/\kA g.v
def cq(g:Gm):T:=.agg [nodes g.nd,rows g.w,rows g.v]
def dw(s:Int×LL):T:=.agg [.i s.1,rows s.2]
structure Cl where
 f:Int×LL
 s:Int×LL
 lo:Int
 hi:Int
deriving DecidableEq
def F6{l:LI}:incr l=true↔∀i,i+1<l.length->l.getD i 0<l.getD (i+1) 0:=by
 induction l with
 |nil=>simp[incr]
 |cons a l ih=>
  cases l with
  |nil=>simp[incr]
  |cons b l=>
   rw[incr,qM,decide_eq_true_eq,ih];constructor
   ·rintro⟨h1,h2⟩ i hi;cases i with
    |zero=>simpa using h1
    |succ i=>simpa using h2 i (sU hi)
   ·intro h;refine⟨sU (h 0 sA),fun i hi=>?_⟩;simpa using h (i+1) (sU hi)
def vL{l:LI}{x:Int}(h:l[i]? =some x):l.getD i 0=x:=by rw[qA,h];rfl
def aZ5(h:l[i]? =some x):l.getD i av=x:=by rw[qA,h];rfl
def TX(h:1<=i)(hi:i<=1000000000000):IntKind.i64.wrap ((i:Int)-1)=((i-1:Nat):Int):=by rw[wrap64 om om];omega
def aZ6(l:LI)(hl:l.length<=1000000000000):Pr 191 [ints l] (.b (incr l)):=by
 refine aq2 sA (ab ?_);refine lN (fun i=>St.of [(0,.t (ints l)),(3,.t (.i i))] []) (fun i=>1<=i/\∀j,j+1<i->j+1<l.length->l.getD j 0<l.getD (j+1) 0) (fun i=>l.length-i) 1 (aj.o _ [] [] ?_ trivial) (fun i hI R hn hr he=>?_) (hi:=⟨om,fun j hj=>om⟩)
 ·simp -implicitDefEqProofs only[ints,oD,Nat.reduceEqDiff, ↓reduceIte]
 ·refine ab ?_;refine⟨fun h=>?_,fun h=>he _ _ ?_⟩
  ·have bq:i<l.length:=om;rw[TX hI.1 om];obtain⟨x,hx⟩:∃x,l[i-1]? =some x:=⟨_,qB om⟩;obtain⟨y,hy⟩:∃y,l[i]? =some y:=⟨_,qB om⟩;refine aB (ah hx hy) ?_;refine⟨fun h1=>hr _ ?_,fun h1=>hn _ (i+1) (aj.o _ [] [] ?_ trivial) ⟨om,fun j hj hjl=>?_⟩⟩
   ·refine ab ?_;have:incr l=false:=by
     cases hc:incr l with
     |false=>rfl
     |true=>
      have:=F6.1 hc (i-1) om;rw[show i-1+1=i by omega,vL hx,vL hy]at this;omega
    rw[this]
   ·simp -implicitDefEqProofs only[ints,oD,Nat.reduceEqDiff, ↓reduceIte,aw bq hl]
   ·by_cases hji:j+1=i
    ·have e:j=i-1:=om;rw[hji,e,vL hx,vL hy];omega
    ·exact hI.2 j om hjl
  ·refine ab ?_;have:incr l=true:=F6.2 fun j hj=>hI.2 j om hj;rw[this]
def aZ7(l:LI)(n:Nat)(hl:l.length<=1000000000000)(hn0:n<=1000000000000):Pr 224 [ints l,.i n] (.b (qy n l)):=by
 have hw:IntKind.i64.wrap ((n:Int)-1)=(n:Int)-1:=wrap64 om om;refine at2 sA (aa @Pn.eq_1 ?_);refine lN (fun i=>St.of [(0,.t (ints l)),(1,.t (.i n)),(5,.t (.i i))] []) (fun i=>i<=l.length/\(∀c∈l.take i,0<=c/\c<=(n:Int)-1)/\∀j,j+1<i->j+1<l.length->l.getD j 0<l.getD (j+1) 0) (fun i=>l.length-i) 0 (aj.o _ [] [] ?_ trivial) (fun i hI R hn hr he=>?_) (hi:=⟨sA,sA,fun j hj=>om⟩)
 ·simp -implicitDefEqProofs only[ints,oD,Nat.reduceEqDiff, ↓reduceIte]
 ·obtain⟨hi,h2,h3⟩:=hI;refine aa hw ?_;refine⟨fun h=>?_,fun h=>he _ _ ?_⟩
  ·have bq:i<l.length:=om;obtain⟨y,hy⟩:∃y,l[i]? =some y:=⟨_,qB bq⟩;refine⟨om,om,om,fun y' hy'=>?_⟩;rw[hy]at hy';cases hy';refine V (eN y 0 ((n:Int)-1)) (ab ?_);have next:0<=y/\y<=(n:Int)-1->∀c∈l.take (i+1),0<=c/\c<=(n:Int)-1:=fun hy1 c hc=>by
    rw[List.take_add_one,hy]at hc;rcases qI.1 hc with hc|hc
    ·exact h2 c hc
    ·simp at hc;rw[hc];exact hy1
   refine⟨fun h1=>⟨fun h4=>?_,fun h4=>?_⟩,fun h1=>hr _ ?_⟩
   ·have h1:0<=y/\y<=(n:Int)-1:=sU h1;have hi1:1<=i:=om;obtain⟨x,hx⟩:∃x,l[i-1]? =some x:=⟨_,qB om⟩;rw[TX hi1 om];refine aB (ah hx hy) ?_;refine⟨fun h5=>hr _ ?_,fun h5=>hn _ (i+1) (aj.o _ [] [] ?_ trivial) ⟨om,next h1,fun j hj hjl=>?_⟩⟩
    ·refine ab ?_;have:qy n l=false:=by
      cases hc:qy n l with
      |false=>rfl
      |true=>
       rw[qy,qM]at hc;have:=F6.1 hc.2 (i-1) om;rw[show i-1+1=i by omega,vL hx,vL hy]at this;omega
     rw[this]
    ·simp -implicitDefEqProofs only[ints,oD,Nat.reduceEqDiff, ↓reduceIte,aw bq hl]
    ·by_cases hji:j+1=i
     ·have e:j=i-1:=om;rw[hji,e,vL hx,vL hy];omega
     ·exact h3 j om hjl
   ·have h1:0<=y/\y<=(n:Int)-1:=sU h1;refine hn _ (i+1) (aj.o _ [] [] ?_ trivial) ⟨om,next h1,fun j hj hjl=>h3 j om hjl⟩;simp -implicitDefEqProofs only[ints,oD,Nat.reduceEqDiff, ↓reduceIte,aw bq hl]
   ·refine ab ?_;have h1:¬(0<=y/\y<=(n:Int)-1):=by
     have h1:y<0∨(n:Int)-1<y:=sU h1;omega
    have:qy n l=false:=by
     cases hc:qy n l with
     |false=>rfl
     |true=>
      rw[qy,qM,rO]at hc;have:=hc.1 y (qE hy);exact absurd (sU this) h1
    rw[this]
  ·refine ab ?_;have:qy n l=true:=by
    rw[qy,qM,rO];refine⟨fun c hc=>by have:=h2 c (by rw[qQ om];exact hc);simpa using this,F6.2 fun j hj=>h3 j om hj⟩
   rw[this]
def sT(l:List Nd)(f:Nat)(cs:LI):Int:=cs.foldl (fun d c=>max d (dep l f c.toNat)) 0
def TY(l:List Nd)(f:Nat)(cs:LI)(c:Int):sT l f (cs++[c])=max (sT l f cs) (dep l f c.toNat):=by simp[sT,List.foldl_append]
def TZ(l:List Nd)(f:Nat):∀cs:LI,0<=sT l f cs/\sT l f cs<=f:=by
 intro cs;have key:∀(cs:LI) (d:Int),0<=d/\d<=f->0<=cs.foldl (fun d c=>max d (dep l f c.toNat)) d/\cs.foldl (fun d c=>max d (dep l f c.toNat)) d<=f:=by
  intro cs;induction cs with
  |nil=>intro d h;exact h
  |cons c cs ih=>
   intro d h;rw[List.foldl_cons];have:=FV (l:=l) f c.toNat
   exact ih _ om
 exact key cs 0 om
def T0{f:Nat}(hx:l[i]? =some x):dep l (f+1) i=if x.p=2 then 0 else sT l f x.ch+1:=by
 have:=aZ5 hx;unfold av at this;rw[dep,this];rfl
def F7(hl:fQ l)(mK:l.length<=1000000):∀(f i:Nat),l.length<=i+f->i<l.length->f<=1000000->Pr 72 [gk l,.i i] (.i (dep l f i)):=by
 intro f;induction f with
 |zero=>intro i h1 h2;omega
 |succ f ih=>
  intro i h1 h2 hf;obtain⟨x,hx⟩:∃x,l[i]? =some x:=⟨_,qB h2⟩;rw[T0 hx];refine ag8 sA (aB (ay @gk.eq_1 @nodes.eq_1 (nU hx)) ?_);refine⟨by rw[cN];omega,by rw[cN];omega,?_⟩;refine⟨fun h=>?_,fun h=>?_⟩
  ·rw[if_pos (sU h)]
  ·have hp:x.p≠2:=sU h;rw[if_neg hp];have hch:=k8 (hl i x hx);have br:=(eJ (hl i x hx)).2.2.2.2.2;refine lN (fun k=>St.of [(2,.own 2),(6,.t (.i (sT l f (x.ch.take k)))),(18,.t (ints x.ch)),(19,.t (.i x.ch.length)),(20,.t (.i k))] [(2,.box [nodes l])]) (fun k=>k<=x.ch.length) (fun k=>x.ch.length-k) 0 (aq [2] (ay @sT.eq_1 @List.take_zero.{0} @List.foldl_nil.{0,0})) (fun k hk R hn hr he=>?_) (hi:=sA)
   ·refine aa @nodes.eq_1 ?_;refine⟨fun h=>⟨om,om,om,fun c hc=>?_⟩,fun h=>he _ _ ?_⟩
    ·have hcb:=hch c (qE hc);have hpure:=ih c.toNat om om om;rw[show((c.toNat:Nat):Int)=c by omega]at hpure;simp only[gk,nodes]at hpure;refine Px hpure (ab ?_);have e:=TY l f (x.ch.take k) c;rw[←bG hc]at e;exact hn _ (k+1) (aq [2] (ah (aw (by omega:k<x.ch.length) om) e))
    ·refine ab ?_;have hb:=TZ l f x.ch;rw[show k=x.ch.length by omega,rT,wrap64 om om]
def K5(hl:fQ l)(mK:l.length<=1000000):∀(f i:Nat),l.length<=i+f->i<l.length->f<=1000000->Pr 77 [gk l,.i i] (.i (dep l f i)):=by
 intro f;induction f with
 |zero=>intro i h1 h2;omega
 |succ f ih=>
  intro i h1 h2 hf;obtain⟨x,hx⟩:∃x,l[i]? =some x:=⟨_,qB h2⟩;rw[T0 hx];refine ah2 sA (aB (ay @gk.eq_1 @nodes.eq_1 (nU hx)) ?_);refine⟨by rw[cN];omega,by rw[cN];omega,?_⟩;refine⟨fun h=>?_,fun h=>?_⟩
  ·rw[if_pos (sU h)]
  ·have hp:x.p≠2:=sU h;rw[if_neg hp];have hch:=k8 (hl i x hx);have br:=(eJ (hl i x hx)).2.2.2.2.2;refine lN (fun k=>St.of [(2,.own 2),(5,.own 5),(6,.t (.i (sT l f (x.ch.take k)))),(7,.t (.i k))] [(2,.box [nodes l]),(5,.box [.i x.p,.i x.a,.i x.b,.i x.f,ints x.ch])]) (fun k=>k<=x.ch.length) (fun k=>x.ch.length-k) 0 (aq [2,5] (ay @sT.eq_1 @List.take_zero.{0} @List.foldl_nil.{0,0})) (fun k hk R hn hr he=>?_) (hi:=sA)
   ·refine aa @nodes.eq_1 ?_;refine⟨fun h=>⟨om,om,om,fun c hc=>?_⟩,fun h=>he _ _ ?_⟩
    ·have hcb:=hch c (qE hc);have hpure:=ih c.toNat om om om;rw[show((c.toNat:Nat):Int)=c by omega]at hpure;simp only[gk,nodes]at hpure;refine V hpure (ab ?_);have e:=TY l f (x.ch.take k) c;rw[←bG hc]at e;exact hn _ (k+1) (aq [2,5] (ah (aw (by omega:k<x.ch.length) om) e))
    ·refine ab ?_;have hb:=TZ l f x.ch;rw[show k=x.ch.length by omega,rT,wrap64 om om]
def T1(hx:l[i]? =some x)(h:hZ l.length i x=false):j9 l=false:=by
 cases hc:j9 l with
 |false=>rfl
 |true=>
  have:=(fX hc).2.1 i x hx;rw[h]at this;cases this
def T2(hi:i<l.length)(h1:1<=i)(h:cg i l≠1):j9 l=false:=by
 cases hc:j9 l with
 |false=>rfl
 |true=>rcases(fX hc).2.2.1 i hi with h2|h2<;>omega
def T3(h:¬(1<=l.length/\l.length<=60)):j9 l=false:=by
 cases hc:j9 l with
 |false=>rfl
 |true=>exact absurd (fX hc).1 h
def T4(h1:1<=l.length/\l.length<=60)(h2:fQ l)(h3:∀i,i<l.length->i=0∨cg i l=1):j9 l=decide (dep l l.length 0<=5):=by
 rw[j9,decide_eq_true h1,(TI l).2 h2];have:((List.range l.length).all fun i=>decide (i=0∨cg i l=1))=true:=by
  rw[rO];intro i hi;simpa using h3 i (List.mem_range.1 hi)
 rw[this];simp
def aZ8(h:hZ n i x=true)(hp:x.p≠2):incr x.ch=true:=by
 simp only[hZ,qM]at h;have h2:=h.2;rw[if_neg hp]at h2;simp only[qM]at h2;exact h2.2
def aZ9(h:hZ n i x=true->False):hZ n i x=false:=by
 cases hc:hZ n i x with
 |false=>rfl
 |true=>exact(h hc).elim
def T5(h1:0<=x.p/\x.p<=2)(h2:0<=x.a/\x.a<=100)(h3:0<=x.b/\x.b<=100)(hp:x.p=2)(h4:x.ch.length=0)(h5: -1<=x.f/\x.f<=1)(h6:x.f= -1->x.a=x.b):hZ n i x=true:=by
 rw[hZ,decide_eq_true h1,decide_eq_true h2,decide_eq_true h3,if_pos hp,decide_eq_true (List.length_eq_zero_iff.1 h4),decide_eq_true h5];by_cases hf:x.f= -1
 ·simp[h6 hf]
 ·simp[hf]
def ba0{n i:Nat}(h1:0<=x.p/\x.p<=2)(h2:0<=x.a/\x.a<=100)(h3:0<=x.b/\x.b<=100)(hp:x.p≠2)(h4:x.f= -1)(h5:1<=x.ch.length/\x.ch.length<=4)(h6:(x.ch.all fun c=>decide ((i:Int)+1<=c/\c<=(n:Int)-1))=true)(h7:incr x.ch=true):hZ n i x=true:=by
 rw[hZ,decide_eq_true h1,decide_eq_true h2,decide_eq_true h3,if_neg hp,decide_eq_true h4,decide_eq_true h5,h6,h7];rfl
def K6(c:Nat):∀(m:List Nd),(∀x∈m,x.ch.length<=4)->cg c m<=m.length*4
 |[],_=>by simp[cg]
 |x::m,hm=>by
  have h1:=K6 c m fun y hy=>hm y (by simp[hy]);have h2:=hm x sA;have e:cg c (x::m)=(if x.p=2 then 0 else x.ch.count (c:Int))+cg c m:=by simp[cg]
  have h3:(if x.p=2 then 0 else x.ch.count (c:Int))<=4:=by
   split
   ·omega
   ·exact rA (List.count_le_length) h2
  rw[e,List.length_cons];omega
def ba1(l:List Nd)(hl:l.length<=9223372036854775807)(br:∀x∈l,x.ch.length<=9223372036854775807):Pr 136 [gk l] (.b (j9 l)):=by
 refine al9 sA (aa (ah @gk.eq_1 @nodes.eq_1) ?_);refine Px (fq l.length 1 60) (ab ?_);refine⟨fun h=>?_,fun h=>?_⟩
 ·rw[T3 (by simp at h;omega)]
 ·have hn:1<=l.length/\l.length<=60:=by simp at h;omega
  refine⟨om,om,?_⟩;refine dX.ig (σ:=Nat) (fun i=>St.of [(1,.own 1),(3,.t (.i l.length)),(4,.own 18),(20,.t (nodes l)),(21,.t (.i l.length)),(22,.t (.i i))] [(1,.box [nodes l]),(18,.arr 1 ((kz l l.length i 0).map T.i))]) (fun i=>i<=l.length/\∀j x,j<i->l[j]? =some x->hZ l.length j x=true) (fun i=>l.length-i) 0 (aq [1,18] @nodes.eq_1 (hr:=?_)) ⟨sA,fun j x hj=>om⟩ fun i hI R hn' hr he=>?_
  ·exact rB (rK rfl (by rw[fe,TS,List.map_replicate];exact .refl _) trivial)
  ·obtain⟨hi,vM⟩:=hI;refine aa @nodes.eq_1 ?_;refine⟨fun h=>?_,fun h=>he _ _ ?_⟩
   ·have bq:i<l.length:=om;obtain⟨x,hx⟩:∃x,l[i]? =some x:=⟨_,qB bq⟩;have hwi:IntKind.i64.wrap ((i:Int)+1)=(i:Int)+1:=wrap64 om om;have hwn:IntKind.i64.wrap ((l.length:Int)-1)=(l.length:Int)-1:=wrap64 om om;have hno:(hZ l.length i x=true->False)->j9 l=false:=fun h=>T1 hx (aZ9 h);have K7:=br x (qE hx);refine⟨om,by rw[cN];omega,by rw[cN];omega,?_⟩;rw[nU hx];refine ab ?_;refine Px (fq x.p 0 2) (ab ?_);refine⟨fun h1=>?_,fun h1=>hr _ ?_⟩
    rotate_left
    ·refine ab ?_;rw[hno fun hok=>by have:=(eJ hok).1;simp at h1;omega]
    have h1:0<=x.p/\x.p<=2:=sU h1;refine Px (fq x.a 0 100) (ab ?_);refine⟨fun h2=>?_,fun h2=>hr _ ?_⟩
    rotate_left
    ·refine ab ?_;rw[hno fun hok=>by have:=(eJ hok).2.1;simp at h2;omega]
    have h2:0<=x.a/\x.a<=100:=sU h2;refine Px (fq x.b 0 100) (ab ?_);refine⟨fun h3=>hr _ ?_,fun h3=>⟨fun h4=>⟨fun h5=>?_,fun h5=>hr _ ?_⟩,fun h4=>⟨fun h5=>?_,fun h5=>hr _ ?_⟩⟩⟩
    ·refine ab ?_;rw[hno fun hok=>by have:=(eJ hok).2.2.1;simp at h3;omega]
    ·have h3:0<=x.b/\x.b<=100:=sU h3;have h4:x.p=2:=sU h4;refine Px (fq x.f (-1) 1) (ab ?_);have hnext:hZ l.length i x=true->∀j y,j<i+1->l[j]? =some y->hZ l.length j y=true:=fun hok j y hj hy=>by
      by_cases hji:j=i
      ·subst hji;rw[hx]at hy;cases hy;exact hok
      ·exact vM j y om hy
     refine⟨fun h6=>⟨fun h7=>⟨fun h8=>hr _ ?_,fun h8=>?_⟩,fun h7=>?_⟩,fun h6=>hr _ ?_⟩
     ·refine ab ?_;rw[hno fun hok=>by have:=((eJ hok).2.2.2.1 h4).2.2.2 (sU h7);simp[this]at h8]
     ·refine hn' _ (i+1) (aq [1,18] (ah @nodes.eq_1 (aw bq om)) (hr:=?_)) ⟨om,hnext (T5 h1 h2 h3 h4 om (sU h6) fun _=>by simpa using h8)⟩ om
      ·exact rB (rK rfl (by rw[TU hx (List.length_eq_zero_iff.1 om)];exact .refl _) trivial)
     ·refine hn' _ (i+1) (aq [1,18] (ah @nodes.eq_1 (aw bq om)) (hr:=?_)) ⟨om,hnext (T5 h1 h2 h3 h4 om (sU h6) fun hf=>by simp[hf]at h7)⟩ om
      ·exact rB (rK rfl (by rw[TU hx (List.length_eq_zero_iff.1 om)];exact .refl _) trivial)
     ·refine ab ?_;rw[hno fun hok=>by have:=(eJ hok).2.2.2.1 h4;simp at h6;omega]
    ·refine ab ?_;rw[hno fun hok=>by have:=(eJ hok).2.2.2.1 (sU h4);rw[this.1]at h5;simp at h5]
    ·have h3:0<=x.b/\x.b<=100:=sU h3;have h4:¬x.p=2:=sU h4;have h5:x.f= -1:=sU h5;refine Px (fq x.ch.length 1 4) (aa (ah hwi hwn) ?_);refine⟨fun h6=>?_,fun h6=>hr _ ?_⟩
     rotate_left
     ·refine ab ?_;rw[hno fun hok=>by have:=(eJ hok).2.2.2.2.1 h4;have:=(eJ hok).2.2.2.2.2;simp at h6;omega]
     have h6:1<=x.ch.length/\x.ch.length<=4:=by simp at h6;omega
     refine Px (so x.ch ((i:Int)+1) ((l.length:Int)-1) om) (ab ?_);refine⟨fun h7=>?_,fun h7=>hr _ ?_⟩
     rotate_left
     ·refine ab ?_;rw[hno fun hok=>by
       have hc:=k8 hok;have:(x.ch.all fun c=>decide ((i:Int)+1<=c/\c<=(l.length:Int)-1))=true:=by rw[rO];intro c gM;exact decide_eq_true (hc c gM)
       rw[this]at h7;simp at h7]
     have h7:(x.ch.all fun c=>decide ((i:Int)+1<=c/\c<=(l.length:Int)-1))=true:=sU h7;refine Px (aZ6 x.ch om) (ab ?_);refine⟨fun h8=>hr _ ?_,fun h8=>?_⟩
     ·refine ab ?_;rw[hno fun hok=>by rw[aZ8 hok h4]at h8;simp at h8]
     have h8:incr x.ch=true:=sU h8;have hok:=ba0 h1 h2 h3 h4 h5 h6 h7 h8;have hch:=k8 hok;have hd:l.getD i av=x:=by rw[qA,hx];rfl
     refine lN (fun k=>St.of [(1,.own 1),(3,.t (.i l.length)),(4,.own 18),(20,.t (nodes l)),(21,.t (.i l.length)),(22,.t (.i i)),(95,.t (ints x.ch)),(96,.t (.i x.ch.length)),(97,.t (.i k))] [(1,.box [nodes l]),(18,.arr 1 ((kz l l.length i k).map T.i))]) (fun k=>k<=x.ch.length) (fun k=>x.ch.length-k) 0 (aq [1,18] @nodes.eq_1) (fun k hk R2 hn2 cP cL=>?_) (hi:=sA)
     ·have F8:=sS l l.length i k;refine aa @nodes.eq_1 ?_;refine⟨fun h9=>⟨om,om,om,fun c hc=>?_⟩,fun h9=>cL _ _ ?_⟩
      ·have hcb:=hch c (qE hc);obtain⟨cn,rfl⟩:∃cn:Nat,c=(cn:Int):=⟨c.toNat,om⟩;have hg:=xU l (n:=l.length) (i:=i) (k:=k) (c:=cn) om;have eE:=TT (l:=l) (n:=l.length) (i:=i) (k:=k) (c:=cn) om (by rw[hd];exact hc);have xV:=K6 cn (l.take i) fun y hy=>by
        obtain⟨j,hj,rfl⟩:=rE.1 hy;rw[qL]at hj;rw[List.getElem_take];exact(eJ (vM j _ om (qB om))).2.2.2.2.2
       have hlt:(l.take i).length<=60:=by rw[qL];omega
       have js:=List.count_le_length (a:=(cn:Int)) (l:=(l.getD i av).ch.take k);have ba2:((l.getD i av).ch.take k).length<=4:=by rw[qL,hd];omega
       simp only[Et,F8,hg,Option.some.injEq,forall_eq'];rw[wrap64 (n:=(cg cn (l.take i):Int)+(((l.getD i av).ch.take k).count (cn:Int):Nat)+1) om om];refine⟨om,om,om,om,om,om,hn2 _ (k+1) (aq [1,18] (ah @nodes.eq_1 (aw (by omega:k<x.ch.length) om)) (hr:=?_))⟩
       ·refine rB (rI ?_ trivial);rw[←eE,List.map_set];exact .refl _
      ·refine ab ?_;have qT:k=x.ch.length:=om;refine hn' _ (i+1) (aq [1,18] (ah @nodes.eq_1 (aw bq om)) (hr:=?_)) ⟨om,fun j y hj hy=>?_⟩ om
       ·exact rB (rK rfl (by rw[qT,K4 hx (fun hp=>absurd hp h4)];exact .refl _) trivial)
       ·by_cases hji:j=i
        ·subst hji;rw[hx]at hy;cases hy;exact hok
        ·exact vM j y om hy
    ·refine ab ?_;rw[hno fun hok=>by have:=(eJ hok).2.2.2.2.1 (sU h4);simp[this.1]at h5]
   ·refine ab ?_;have uu:i=l.length:=om;have Cm:fQ l:=fun j y hy=>vM j y (by have:=(qK.1 hy).1;omega) hy;have F8:=sS l l.length i 0;refine⟨om,om,?_⟩;refine lN (fun k=>St.of [(1,.own 1),(110,.sub 18 1 (l.length-1)),(111,.t (.i (l.length-1:Nat))),(112,.t (.i k))] [(1,.box [nodes l]),(18,.arr 1 ((kz l l.length l.length 0).map T.i))]) (fun k=>k<=l.length-1/\∀j,j<k->cg (j+1) l=1) (fun k=>l.length-1-k) 0 (aq [1,18] (ay @nodes.eq_1 uu @sS) (hr:=?_)) (fun k hI R2 hn2 cP cL=>?_) (hi:=⟨sA,fun j hj=>om⟩)
    ·exact rB (rK rfl (by rw[uu];exact .refl _) trivial)
    ·obtain⟨hk,xV⟩:=hI;refine aa @nodes.eq_1 ?_;refine⟨fun h9=>⟨om,om,by rw[sS];omega,fun a ha=>?_⟩,fun h9=>cL _ _ ?_⟩
     ·rw[TV l l.length (1+k) om]at ha;cases ha;refine⟨fun jH=>cP _ ?_,fun jH=>hn2 _ (k+1) (aj.o _ _ [some 1,some 18] ?_ ?_) ⟨om,fun j hj=>?_⟩⟩
      ·refine ab ?_;have jH:¬cg (1+k) l=1:=by simp at jH;omega
       rw[T2 (by omega:1+k<l.length) om jH]
      ·exact bZ (ah @nodes.eq_1 (aw (by omega:k<l.length-1) om)) trivial
      ·exact rB (rB trivial)
      ·by_cases hjk:j=k
       ·have jH:cg (1+k) l=1:=by
         have:((cg (1+k) l:Nat):Int)=1:=sU jH;omega
        rw[hjk,Nat.add_comm];exact jH
       ·exact xV j om
     ·refine ab ?_;have hall:∀j,j<l.length->j=0∨cg j l=1:=fun j hj=>by
       by_cases hj0:j=0
       ·exact .inl hj0
       ·right;have:=xV (j-1) om;rwa[show j-1+1=j by omega]at this
      have q7:=F7 Cm om l.length 0 om om om;simp only[gk,nodes]at q7;refine Px q7 (ab ?_);rw[T4 hn Cm hall]
def nW{b:Bool}(h:(!b)=true):b=false:=by cases b<;>simp_all
def mp{b:Bool}(h:(!b)=false):b=true:=by cases b<;>simp_all
def ba3(hx:l[i]? =some x)(hl:l.length<=1000000)(K7:x.ch.length<=9223372036854775807):Pr 190 [gk l,.i i] (.b (hZ l.length i x)):=by
 have bq:=(qK.1 hx).1;rw[aZ4];refine aq1 sA (aB (ay @gk.eq_1 @nodes.eq_1 (nU hx)) ?_);refine⟨by rw[cN];omega,by rw[cN];omega,?_⟩;refine Px (eN x.p 0 2) (ab ?_);refine⟨fun h1=>?_,fun h1=>by rw[show decide (0<=x.p/\x.p<=2)=false from nW h1];rfl⟩;rw[show decide (0<=x.p/\x.p<=2)=true from mp h1];refine Px (eN x.a 0 100) (ab ?_);refine⟨fun h2=>?_,fun h2=>by rw[show decide (0<=x.a/\x.a<=100)=false from nW h2];simp⟩;rw[show decide (0<=x.a/\x.a<=100)=true from mp h2];refine Px (eN x.b 0 100) (ab ?_);refine⟨fun h3=>?_,fun h3=>by rw[show decide (0<=x.b/\x.b<=100)=false from nW h3];simp⟩;rw[show decide (0<=x.b/\x.b<=100)=true from mp h3];refine Px (eN x.f (-1) 1) (ab ?_);refine⟨fun h4=>by rw[show decide (-1<=x.f/\x.f<=1)=false from nW h4];simp,fun h4=>?_⟩;rw[show decide (-1<=x.f/\x.f<=1)=true from mp h4];refine⟨fun h5=>?_,fun h5=>?_⟩
 ·have h5:x.p=2:=sU h5;rw[if_pos h5];refine⟨fun h6=>?_,fun h6=>?_⟩
  ·have h6:x.ch.length=0:=by
    have:(x.ch.length:Int)=0:=sU h6;omega
   rw[decide_eq_true h6];refine⟨fun h7=>?_,fun h7=>by rw[dt (0<=x.f)];rfl⟩;rw[dF (0<=x.f)];by_cases h8:x.a=x.b
   ·rw[decide_eq_true h8,h8];simp
   ·rw[decide_eq_false h8];simp[h8]
  ·have h6:¬x.ch.length=0:=by
    have:¬(x.ch.length:Int)=0:=sU h6;omega
   rw[decide_eq_false h6];rfl
 ·have h5:¬x.p=2:=sU h5;rw[if_neg h5];refine⟨fun h6=>?_,fun h6=>?_⟩
  ·have h6:x.f= -1:=sU h6;rw[decide_eq_true h6];refine Px (eN x.ch.length 1 4) (ab ?_);refine⟨fun h7=>?_,fun h7=>?_⟩
   ·have h7:1<=x.ch.length/\x.ch.length<=4:=by
     have:=mp h7;simp only[decide_eq_true_eq]at this;omega
    rw[decide_eq_true h7];refine Px (aZ7 x.ch l.length om om) (ab ?_);refine⟨fun h8=>by rw[nW h8];rfl,fun h8=>⟨om,om,fun c hc=>?_⟩⟩;rw[mp h8];have Ca:x.ch.headD 0=c:=by
     cases hch:x.ch with
     |nil=>rw[hch]at hc;simp at hc
     |cons a as'=>rw[hch]at hc;simpa using hc
    rw[Ca];rfl
   ·have h7:¬(1<=x.ch.length/\x.ch.length<=4):=by
     have:=nW h7;simp only[decide_eq_false_iff_not]at this;omega
    rw[decide_eq_false h7];rfl
  ·have h6:¬x.f= -1:=sU h6;rw[decide_eq_false h6];rfl
section
attribute [-go_sem] bC
def ba4(l:List Nd)(hl:l.length<=9223372036854775807)(br:∀x∈l,x.ch.length<=9223372036854775807):Pr 132 [gk l] (.b (j9 l)):=by
 refine al6 sA (aa (ah @gk.eq_1 @nodes.eq_1) ?_);refine Px (eN l.length 1 60) (ab ?_);refine⟨fun h=>?_,fun h=>?_⟩
 ·rw[T3 (by have:=nW h;simp at this;omega)]
 ·have hn:1<=l.length/\l.length<=60:=by
   have:=mp h;simp only[decide_eq_true_eq]at this;omega
  refine⟨om,om,?_⟩;refine dX.ig (σ:=Nat) (fun i=>St.of [(1,.own 1),(3,.t (.i l.length)),(4,.own 15),(5,.t (.i i))] [(1,.box [nodes l]),(15,.arr 1 ((kz l l.length i 0).map T.i))]) (fun i=>i<=l.length/\∀j x,j<i->l[j]? =some x->hZ l.length j x=true) (fun i=>l.length-i) 0 (aq [1,15] @nodes.eq_1 (hr:=?_)) ⟨sA,fun j x hj=>om⟩ fun i hI R hn' hr he=>?_
  ·exact rB (rK rfl (by rw[fe,TS,List.map_replicate];exact .refl _) trivial)
  ·obtain⟨hi,vM⟩:=hI;refine aa @nodes.eq_1 ?_;refine⟨fun h=>?_,fun h=>he _ _ ?_⟩
   ·have bq:i<l.length:=om;obtain⟨x,hx⟩:∃x,l[i]? =some x:=⟨_,qB bq⟩;have K7:=br x (qE hx);have vN:=ba3 hx om K7;simp only[gk,nodes]at vN;refine Px vN (ab ?_);refine⟨fun h1=>hr _ ?_,fun h1=>?_⟩
    ·refine ab ?_;rw[T1 hx (nW h1)]
    ·have hok:=mp h1;have hch:=k8 hok;have bA1:=(eJ hok).2.2.2.2.2;have hd:l.getD i av=x:=by rw[qA,hx];rfl
     refine lN (fun k=>St.of [(1,.own 1),(3,.t (.i l.length)),(4,.own 15),(5,.t (.i i)),(6,.t (.i k))] [(1,.box [nodes l]),(15,.arr 1 ((kz l l.length i k).map T.i))]) (fun k=>k<=x.ch.length) (fun k=>x.ch.length-k) 0 (aq [1,15] @nodes.eq_1) (fun k hk R2 hn2 cP cL=>?_) (hi:=sA)
     ·have F8:=sS l l.length i k;rcases qH k x.ch.length with h9|h9
      ·obtain⟨c,hc⟩:∃c,x.ch[k]? =some c:=⟨_,qB h9⟩;have hcb:=hch c (qE hc);obtain⟨cn,rfl⟩:∃cn:Nat,c=(cn:Int):=⟨c.toNat,om⟩;have hg:=xU l (n:=l.length) (i:=i) (k:=k) (c:=cn) om;refine aa (bM @nodes.eq_1 (Ce hx) (dt ((k:Int)<(x.ch.length:Int))) hc hg) ?_;have eE:=TT (l:=l) (n:=l.length) (i:=i) (k:=k) (c:=cn) om (by rw[hd];exact hc);refine⟨om,by rw[cN];omega,by rw[cN];omega,om,by rw[cN];omega,by rw[cN];omega,om,om,om,om,om,om,om,om,om,hn2 _ (k+1) (aq [1,15] (ah @nodes.eq_1 (aw (by omega:k<x.ch.length) om)) (hr:=?_))⟩
       ·refine rB (rI ?_ trivial);have xV:=K6 cn (l.take i) fun y hy=>by
         obtain⟨j,hj,rfl⟩:=rE.1 hy;rw[qL]at hj;rw[List.getElem_take];exact(eJ (vM j _ om (qB om))).2.2.2.2.2
        have hlt:(l.take i).length<=60:=by rw[qL];omega
        have js:=List.count_le_length (a:=(cn:Int)) (l:=(l.getD i av).ch.take k);have ba2:((l.getD i av).ch.take k).length<=4:=by rw[qL,hd];omega
        rw[wrap64 (n:=(cg cn (l.take i):Int)+(((l.getD i av).ch.take k).count (cn:Int):Nat)+1) om om,←eE,List.map_set];exact .refl _
      ·refine aB (ay @nodes.eq_1 (Ce hx) (dF ((k:Int)<(x.ch.length:Int)))) ?_;refine⟨by rw[cN];omega,by rw[cN];omega,cL _ _ (ab ?_)⟩;have qT:k=x.ch.length:=om;refine hn' _ (i+1) (aq [1,15] (ah @nodes.eq_1 (aw bq om)) (hr:=?_)) ⟨om,fun j y hj hy=>?_⟩ om
       ·exact rB (rK rfl (by rw[qT,K4 hx (fun hp=>((eJ hok).2.2.2.1 hp).1)];exact .refl _) trivial)
       ·by_cases hji:j=i
        ·subst hji;rw[hx]at hy;cases hy;exact hok
        ·exact vM j y om hy
   ·refine ab ?_;have uu:i=l.length:=om;have Cm:fQ l:=fun j y hy=>vM j y (by have:=(qK.1 hy).1;omega) hy;refine lN (fun k=>St.of [(1,.own 1),(3,.t (.i l.length)),(4,.own 15),(7,.t (.i k))] [(1,.box [nodes l]),(15,.arr 1 ((kz l l.length l.length 0).map T.i))]) (fun k=>1<=k/\k<=l.length/\∀j,1<=j->j<k->cg j l=1) (fun k=>l.length-k) 1 (aq [1,15] @nodes.eq_1 (hr:=?_)) (fun k hI R2 hn2 cP cL=>?_) (hi:=⟨om,om,fun j h1 h2=>om⟩)
    ·exact rB (rK rfl (by rw[uu];exact .refl _) trivial)
    ·obtain⟨hk1,hk,xV⟩:=hI;rcases qH k l.length with h9|h9
     ·have hg:=TV l l.length k h9;have F8:=sS l l.length l.length 0;refine aB (ay @nodes.eq_1 hg (dt ((k:Int)<(l.length:Int)))) ?_;refine⟨fun jH=>cP _ ?_,fun jH=>hn2 _ (k+1) (aj.o _ _ [some 1,some 15] ?_ ?_) ⟨om,om,fun j h1 h2=>?_⟩⟩
      ·refine ab ?_;have jH:¬cg k l=1:=by simp at jH;omega
       rw[T2 h9 om jH]
      ·exact bZ (ah @nodes.eq_1 (aw h9 om)) trivial
      ·exact rB (rB trivial)
      ·by_cases hjk:j=k
       ·have jH:cg k l=1:=by
         have:((cg k l:Nat):Int)=1:=sU jH;omega
        rw[hjk];exact jH
       ·exact xV j h1 om
     ·refine aa (ah @nodes.eq_1 (dF ((k:Int)<(l.length:Int)))) ?_;refine cL _ _ (ab ?_);have hall:∀j,j<l.length->j=0∨cg j l=1:=fun j hj=>by
       by_cases hj0:j=0
       ·exact .inl hj0
       ·exact .inr (xV j om om)
      have q7:=K5 Cm om l.length 0 om om om;simp only[gk,nodes]at q7;refine Px q7 (ab ?_);rw[T4 hn Cm hall]
end
def K8:∀l:LI,az l=l.sum
 |[]=>rfl
 |x::l=>by rw[az,rZ,K8 l]
def T6(w:LL)(r:LI):jk (w++[r])=jk w+r.sum:=by
 simp only[jk,qG,List.map_cons,List.map_nil];rw[vJ,K8 r]
def T7:jk []=0:=rfl
def zE(w:LL):Prop:=w.length<=6/\∀r∈w,r.length<=6/\∀x∈r,0<=x/\x<=9
def T8(h:zE w)(hr:r∈w):nx r:=⟨by have:=(h.2 r hr).1;omega,fun x hx=>by have:=(h.2 r hr).2 x hx;omega⟩
def K9(h:zE w)(k:Nat):0<=jk (w.take k)/\jk (w.take k)<=324:=by
 have h1:∀x∈(w.take k).map az,0<=x:=fun x hx=>by
  obtain⟨r,hr,rfl⟩:=qN.1 hx;exact oZ fun y hy=>((h.2 r (rU hr)).2 y hy).1
 have h2:∀x∈(w.take k).map az,x<=54:=fun x hx=>by
  obtain⟨r,hr,rfl⟩:=qN.1 hx;have:=FX (b:=9) fun y hy=>((h.2 r (rU hr)).2 y hy).2;have:=(h.2 r (rU hr)).1;omega
 refine⟨oZ h1,?_⟩;have:=FX h2;rw[qJ,qL]at this;have:=h.1;unfold jk;omega
def K_(h:jG w k 0 9=true)(hk:k<=6):zE w:=by
 obtain⟨h1,h2⟩:=F3 h;exact⟨om,fun r hr=>⟨by have:=(h2 r hr).1;omega,fun x hx=>by have:=(h2 r hr).2 x hx;omega⟩⟩
def ba5(h:i<n)(hn:n<=9223372036854775807):IntKind.i64.wrap ((i:Int)+1)=((i+1:Nat):Int):=by
 rw[wrap64 om om];omega
section
attribute [-go_sem] bC
def T9(g:Gm)(h:zE g.w):Pr 70 [cq g] (.i (jk g.w)):=by
 have hl:=h.1;refine ag6 sA (aa (ah @cq.eq_1 @nodes.eq_1) ?_);refine lN (fun i=>St.of [(3,.t (.i (jk (g.w.take i)))),(7,.t (rows g.w)),(8,.t (.i g.w.length)),(9,.t (.i i))] []) (fun i=>i<=g.w.length) (fun i=>g.w.length-i) 0 (eU (ah @List.take_zero.{0} @T7)) (fun i hi R hn hr he=>?_)
 ·rcases qH i g.w.length with h9|h9
  ·obtain⟨r,hx⟩:∃r,g.w[i]? =some r:=⟨_,qB h9⟩;refine aB (ah hx (dt ((i:Int)<(g.w.length:Int)))) ?_;refine Px (tH r (T8 h (qE hx))) (ab ?_);have e:=T6 (g.w.take i) r;rw[←bG hx]at e;have hb:=K9 h (i+1);refine hn _ (i+1) (aj.o _ [] [] ?_ trivial);simp -implicitDefEqProofs only[fc,Nat.reduceBEq,Nat.reduceEqDiff, ↓reduceIte,aw h9 om,←e,wrap64 (n:=jk (g.w.take (i+1))) om om]
  ·refine aa (dF ((i:Int)<(g.w.length:Int))) ?_;refine he _ _ (ab ?_);rw[qQ om]
def T_(g:Gm)(h:zE g.w):Pr 75 [cq g] (.i (jk g.w)):=by
 have hl:=h.1;refine ah0 sA (aa (ah @cq.eq_1 @nodes.eq_1) ?_);refine lN (fun i=>St.of [(1,.own 1),(3,.t (.i (jk (g.w.take i)))),(4,.t (.i i))] [(1,.box [nodes g.nd,rows g.w,rows g.v])]) (fun i=>i<=g.w.length) (fun i=>g.w.length-i) 0 (aq [1] (ay @List.take_zero.{0} @T7 @nodes.eq_1)) (fun i hi R hn hr he=>?_)
 ·rcases qH i g.w.length with h9|h9
  ·obtain⟨r,hx⟩:∃r,g.w[i]? =some r:=⟨_,qB h9⟩;refine aB (ay @nodes.eq_1 hx (dt ((i:Int)<(g.w.length:Int)))) ?_;refine Px (uT r (T8 h (qE hx))) (ab ?_);have e:=T6 (g.w.take i) r;rw[←bG hx]at e;have hb:=K9 h (i+1);refine hn _ (i+1) (aj.o _ _ [some 1] ?_ ?_)
   ·simp -implicitDefEqProofs only[fc,Nat.reduceBEq,Nat.reduceEqDiff, ↓reduceIte,nodes,aw h9 om,←e,wrap64 (n:=jk (g.w.take (i+1))) om om]
   ·exact rB trivial
  ·refine aa (ah @nodes.eq_1 (dF ((i:Int)<(g.w.length:Int)))) ?_;refine he _ _ (ab ?_);rw[qQ om]
def vO:jG m k lo hi=true↔m.length=k/\∀r∈m,r.length=k/\∀x∈r,lo<=x/\x<=hi:=by
 simp only[jG,qM,decide_eq_true_eq,rO]
def La(h:¬(m.length=k/\∀r∈m,r.length=k/\∀x∈r,lo<=x/\x<=hi)):jG m k lo hi=false:=by
 cases hc:jG m k lo hi with
 |false=>rfl
 |true=>exact absurd (vO.1 hc) h
def Ua(m:LL)(k:Nat)(lo hi:Int)(hm:m.length<=9223372036854775807)(hk:k<=6):Pr 133 [rows m,.i k,.i lo,.i hi] (.b (jG m k lo hi)):=by
 refine al7 sA (ab ?_);refine lN (fun i=>St.of [(0,.t (rows m)),(1,.t (.i k)),(2,.t (.i lo)),(3,.t (.i hi)),(9,.t (.i i))] []) (fun i=>i<=m.length/\∀j r,j<i->m[j]? =some r->r.length=k/\∀x∈r,lo<=x/\x<=hi) (fun i=>m.length-i) 0 tF (fun i hI R hn hr he=>?_) (hi:=⟨om,fun j r hj=>om⟩)
 ·obtain⟨hi',Ub⟩:=hI;rcases qH i m.length with h9|h9
  ·obtain⟨r,hx⟩:∃r,m[i]? =some r:=⟨_,qB h9⟩;refine aB (ah hx (dt ((i:Int)<(m.length:Int)))) ?_;refine⟨fun h1=>hr _ ?_,fun h1=>?_⟩
   ·refine ab ?_;rw[La fun h=>by have:=(h.2 r (qE hx)).1;simp at h1;omega]
   ·have h1:r.length=k:=by simp at h1;omega
    refine lN (fun j=>St.of [(0,.t (rows m)),(1,.t (.i k)),(2,.t (.i lo)),(3,.t (.i hi)),(9,.t (.i i)),(10,.t (.i j))] []) (fun j=>j<=k/\∀t x,t<j->r[t]? =some x->lo<=x/\x<=hi) (fun j=>k-j) 0 tF (fun j hJ R2 hn2 cP cL=>?_) (hi:=⟨om,fun j x hj=>om⟩)
    ·obtain⟨hj,Cn⟩:=hJ;rcases qH j k with h8|h8
     ·obtain⟨x,hy⟩:∃x,r[j]? =some x:=⟨_,qB om⟩;refine aB (ay hx hy (dt ((j:Int)<(k:Int)))) ?_;refine Px (eN x lo hi) (ab ?_);refine⟨fun h2=>cP _ ?_,fun h2=>hn2 _ (j+1) (aj.o _ [] [] ?_ trivial) ⟨om,fun t y ht xW=>?_⟩⟩
      ·refine ab ?_;refine hr _ (ab ?_);rw[La fun h=>by have:=(h.2 r (qE hx)).2 x (qE hy);have:=nW h2;simp at this;omega]
      ·exact bZ (aw h8 om) trivial
      ·by_cases Lb:t=j
       ·subst Lb;rw[hy]at xW;cases xW;have:=mp h2;simpa using this
       ·exact Cn t y om xW
     ·refine aa (dF ((j:Int)<(k:Int))) ?_;refine cL _ _ (ab ?_);refine hn _ (i+1) (eU (ba5 h9 hm)) ⟨om,fun t y ht xW=>?_⟩
      ·by_cases Lb:t=i
       ·subst Lb;rw[hx]at xW;cases xW;refine⟨h1,fun z hz=>?_⟩;obtain⟨u,hu,rfl⟩:=rE.1 hz;exact Cn u _ om (qB hu)
       ·exact Ub t y om xW
  ·refine aa (dF ((i:Int)<(m.length:Int))) ?_;refine he _ _ (ab ?_);have hall:∀r∈m,r.length=k/\∀x∈r,lo<=x/\x<=hi:=fun r hr=>by
    obtain⟨u,hu,rfl⟩:=rE.1 hr;exact Ub u _ om (qB hu)
   by_cases hmk:m.length=k
   ·rw[vO.2 ⟨hmk,hall⟩,hmk];simp[T.b]
   ·rw[La fun h=>hmk h.1];have e:((m.length:Int)==(k:Int))=false:=by simp;omega
    rw[e]
def ba6(h:j9 g.nd=false):bR g=false:=by rw[bR,h];rfl
def Lc(g:Gm)(hg:qz g):Pr 64 [cq g] (.b (bR g)):=by
 obtain⟨Ld,hg2,Uc,Ud⟩:=hg;have ht:=ba4 g.nd Ld hg2;simp only[gk,nodes]at ht;refine ag0 sA (aa (ah @cq.eq_1 @nodes.eq_1) ?_);refine Px ht (ab ?_);refine⟨fun h1=>?_,fun h1=>by rw[ba6 (sU h1)]⟩;have h1:j9 g.nd=true:=sU h1;refine Px (eN g.w.length 1 6) (ab ?_);refine⟨fun h2 bi=>?_,fun h2=>?_⟩
 rotate_left
 ·have h2:¬(1<=g.w.length/\g.w.length<=6):=om;rw[bR,h1,decide_eq_false h2];rfl
 have h2:1<=g.w.length/\g.w.length<=6:=om;have g_:=Ua g.w g.w.length 0 9 Uc.1 h2.2;have hm2:=Ua g.v g.w.length (-1) 1 Ud.1 h2.2;simp only[rows]at g_ hm2;refine Px g_ (ab ?_);refine⟨fun h3=>?_,fun h3=>?_⟩
 rotate_left
 ·have h3:jG g.w g.w.length 0 9=false:=sU h3;rw[bR,h3];simp
 have h3:jG g.w g.w.length 0 9=true:=sU h3;refine Px hm2 (ab ?_);refine⟨fun h4=>?_,fun h4=>?_⟩
 rotate_left
 ·have h4:jG g.v g.w.length (-1) 1=false:=sU h4;rw[bR,h4];simp
 have h4:jG g.v g.w.length (-1) 1=true:=sU h4;have hw:=T_ g (K_ h3 h2.2);simp only[cq,nodes,rows]at hw;refine Px hw (ab ?_);rw[bR,h1,decide_eq_true h2,h3,h4];rfl
def zF(k:Nat)(lo hi:Int)(r:LI):Prop:=r.length=k/\(r.all fun x=>decide (lo<=x/\x<=hi))=true
def Ue(hm:m.length=k)(h:∀i r,i<k->m[i]? =some r->zF k lo hi r):jG m k lo hi=true:=by
 refine vO.2 ⟨hm,fun r hr=>?_⟩;obtain⟨u,hu,rfl⟩:=rE.1 hr;obtain⟨h1,h2⟩:=h u _ om (qB hu);refine⟨h1,fun x hx=>?_⟩;rw[rO]at h2;simpa using h2 x hx
def Uf(h:jG m k lo hi=true)(hr:m[i]? =some r):zF k lo hi r:=by
 obtain⟨h1,h2⟩:=vO.1 h;obtain⟨h3,h4⟩:=h2 r (qE hr);exact⟨h3,rO.2 fun x hx=>decide_eq_true (h4 x hx)⟩
def fZ(h:bR g=true):j9 g.nd=true/\(1<=g.w.length/\g.w.length<=6)/\jG g.w g.w.length 0 9=true/\jG g.v g.w.length (-1) 1=true/\0<jk g.w:=by
 simp only[bR,qM,decide_eq_true_eq]at h;exact⟨h.1.1.1.1,h.1.1.1.2,h.1.1.2,h.1.2,h.2⟩
def Co(h:bR g=true->False):bR g=false:=by
 cases hc:bR g with
 |false=>rfl
 |true=>exact(h hc).elim
def Ug(g:Gm)(hg:qz g):Pr 67 [cq g] (.b (bR g)):=by
 obtain⟨Ld,hg2,Uc,Ud⟩:=hg;have ht:=ba1 g.nd Ld hg2;simp only[gk,nodes]at ht;refine ag3 sA (aa (ah @cq.eq_1 @nodes.eq_1) ?_);refine Px ht (ab ?_);refine⟨fun h1=>?_,fun h1=>?_⟩
 rotate_left
 ·rw[Co fun h=>by have:=(fZ h).1;rw[this]at h1;simp at h1]
 have h1:j9 g.nd=true:=sU h1;refine Px (fq g.w.length 1 6) (ab ?_);refine⟨fun h2=>⟨fun h3=>?_,fun h3=>?_⟩,fun h2=>?_⟩
 ·rw[Co fun h=>by have:=(fZ h).2.2.2.1;have:=(vO.1 this).1;simp at h3;omega]
 rotate_left
 ·rw[Co fun h=>by have:=(fZ h).2.1;have:=nW h2;simp at this;omega]
 have h2:1<=g.w.length/\g.w.length<=6:=by have:=mp h2;simp only[decide_eq_true_eq]at this;omega
 have h3:g.v.length=g.w.length:=by simp at h3;omega
 refine lN (fun i=>St.of [(1,.own 1),(3,.t (.i g.w.length)),(24,.t (.i g.w.length)),(25,.t (.i i))] [(1,.box [nodes g.nd,rows g.w,rows g.v])]) (fun i=>i<=g.w.length/\(∀j r,j<i->g.w[j]? =some r->zF g.w.length 0 9 r)/\∀j r,j<i->g.v[j]? =some r->zF g.w.length (-1) 1 r) (fun i=>g.w.length-i) 0 (aq [1] @nodes.eq_1) (fun i hI R hn hr he=>?_) (hi:=⟨om,fun j r hj=>om,fun j r hj=>om⟩)
 ·obtain⟨hi,hw,hv⟩:=hI;rcases qH i g.w.length with h9|h9
  ·obtain⟨r,hx⟩:∃r,g.w[i]? =some r:=⟨_,qB h9⟩;obtain⟨q,hy⟩:∃q,g.v[i]? =some q:=⟨_,qB om⟩;have jd:¬zF g.w.length 0 9 r->bR g=false:=fun hc=>Co fun h=>hc (Uf (fZ h).2.2.1 hx);have wv:¬zF g.w.length (-1) 1 q->bR g=false:=fun hc=>Co fun h=>hc (Uf (fZ h).2.2.2.1 hy);refine aB (bf @nodes.eq_1 hx hy (dt ((i:Int)<(g.w.length:Int)))) ?_;refine⟨fun h4=>⟨om,om,om,?_⟩,fun h4=>hr _ ?_⟩
   rotate_left
   ·refine ab ?_;rw[jd fun h=>by have:=h.1;simp at h4;omega]
   have h4:r.length=g.w.length:=by simp at h4;omega
   refine⟨fun h5=>⟨om,om,om,?_⟩,fun h5=>hr _ ?_⟩
   rotate_left
   ·refine ab ?_;rw[wv fun h=>by have:=h.1;simp at h5;omega]
   have h5:q.length=g.w.length:=by simp at h5;omega
   refine Px (so r 0 9 om) (aa hy ?_);refine⟨fun h6=>⟨om,om,om,?_⟩,fun h6=>hr _ ?_⟩
   rotate_left
   ·refine ab ?_;rw[jd fun h=>by rw[h.2]at h6;simp at h6]
   have h6:(r.all fun x=>decide (0<=x/\x<=9))=true:=sU h6;refine Px (so q (-1) 1 om) (ab ?_);refine⟨fun h7=>hr _ ?_,fun h7=>hn _ (i+1) (aj.o _ _ [some 1] ?_ ?_) ⟨om,fun j r' hj hr'=>?_,fun j r' hj hr'=>?_⟩⟩
   ·refine ab ?_;rw[wv fun h=>by rw[h.2]at h7;simp at h7]
   ·exact bZ (ah @nodes.eq_1 (aw h9 om)) trivial
   ·exact rB trivial
   ·by_cases hji:j=i
    ·subst hji;rw[hx]at hr';cases hr';exact⟨h4,h6⟩
    ·exact hw j r' om hr'
   ·by_cases hji:j=i
    ·subst hji;rw[hy]at hr';cases hr';exact⟨h5,mp h7⟩
    ·exact hv j r' om hr'
  ·refine aa (ah @nodes.eq_1 (dF ((i:Int)<(g.w.length:Int)))) ?_;refine he _ _ (ab ?_);have Uh:jG g.w g.w.length 0 9=true:=Ue rfl fun j r hj hr=>hw j r om hr;have tO:jG g.v g.w.length (-1) 1=true:=Ue h3 fun j r hj hr=>hv j r om hr;have hW:=T9 g (K_ Uh h2.2);simp only[cq,nodes,rows]at hW;refine Px hW (ab ?_);rw[bR,h1,decide_eq_true h2,Uh,tO];rfl
end
end Go.Ab
