import Derived.Test.YtecafjkedemhnaaGreatQ6
import Derived.Test.YtecafjkedemhnaaGreatQ7
import Derived.Test.YtecafjkedemhnaaGreatQ8
set_option maxRecDepth 20000
set_option linter.all false
namespace Go.Ab
open Go.Proofs
variable{d j k n s:Nat}{l new old p w:LI}{a:Int×Int}{α:Type}{v x:Int}{c:Bool×Int×Int×Int}
def at8:=cO Tryz.func42 (H:=⟨[(8,9,.h (some [39]) []),(8,0,.r false [39,41]),(8,1,.r false [39,41]),(8,2,.r false [39,41]),(8,3,.r false [39,41])],[8]⟩)
def at9:=cO Tryz.func44 (H:=⟨[],[8]⟩)
def au0:=cO Tryz.func45 (H:=⟨[(3,13,.r false [1000000000,35]),(3,16,.h (some [1000000000,35]) [])],[]⟩)
def au1:=cO Tryz.func96 (H:=⟨[(15,0,.r false [4]),(15,1,.r false [4]),(15,3,.h (some [4]) []),(15,5,.h (some [4]) [])],[]⟩)
def au2:=cO Tryz.func100 (H:=⟨[],[2,16]⟩)
def au3:=cO Tryz.func115 (H:=⟨[],[11]⟩)
def au4:=cO Tryz.func118 (H:=⟨[],[16]⟩)
def au5:=cO Tryz.func120 (H:=⟨[(6,10,.h (some [37]) [34]),(6,3,.r false [10,32,34,36,37,40,42]),(6,11,.r false [10,32,34,36,37,40,42]),(6,13,.r false [10,32,34,36,37,40,42]),(6,14,.r false [10,32,34,36,37,40,42]),(6,15,.r false [10,32,34,36,37,40,42]),(6,16,.r false [10,32,34,36,37,40,42])],[7]⟩)
def au6:=cO Tryz.func180 (H:=⟨[(1,12,.h (some [12]) []),(1,16,.h (some [16]) []),(1,14,.r false [5,8,11,12,15,16,19]),(1,15,.r false [5,8,11,12,15,16,19]),(1,17,.r false [5,8,11,12,15,16,19]),(1,18,.r false [5,8,11,12,15,16,19]),(1,19,.r false [5,8,11,12,15,16,19]),(1,20,.r false [5,8,11,12,15,16,19]),(1,21,.r false [5,8,11,12,15,16,19]),(1,22,.r false [5,8,11,12,15,16,19]),(1,23,.r false [5,8,11,12,15,16,19]),(1,24,.r false [5,8,11,12,15,16,19])],[]⟩)
def fq(n lo hi:Int):Pr 78 [.i n,.i lo,.i hi] (.b (decide (lo<=n/\n<=hi))):=by
 refine ah3 sA (tE ?_);refine⟨fun h=>?_,fun h=>?_⟩
 ·have:lo<=n:=h;simp[this]
 ·have:¬lo<=n:=h;simp[this]
def so(l:LI)(lo hi:Int)(hl:l.length<=1000000000000):Pr 79 [ints l,.i lo,.i hi] (.b (l.all fun x=>decide (lo<=x/\x<=hi))):=by
 refine ah4 sA (xn @ints.eq_1 ?_);refine lN (fun i=>St.of [(0,.t (ints l)),(1,.t (.i lo)),(2,.t (.i hi)),(6,.t (.b false)),(9,.t (ints l)),(10,.t (.i l.length)),(11,.t (.i i))] []) (fun i=>i<=l.length/\∀x∈l.take i,lo<=x/\x<=hi) (fun i=>l.length-i) 0 (aj.o _ [] [] ?_ trivial) (fun i hI R hn hr he=>?_) (hi:=⟨sA,sA⟩)
 ·simp -implicitDefEqProofs only[ints,oD,Nat.reduceEqDiff, ↓reduceIte]
 ·refine xn @ints.eq_1 ?_;refine⟨fun h=>⟨om,om,om,fun c x hx hc=>?_⟩,fun h=>he _ _ ?_⟩
  ·subst hc;rw[Et]at hx;refine bz.pure (fq x lo hi) [] rfl Tryz.call78 ?_ ?_ rfl ?_
   ·simp -implicitDefEqProofs only[O6,go_sem]
   ·trivial
   ·refine tE ?_;refine⟨fun h1=>hr _ ?_,fun h1=>hn _ (i+1) (aj.o _ [] [] ?_ trivial) ⟨om,ZY hx hI.2 (sU h1)⟩⟩
    ·refine tE ?_;have:l.all (fun x=>decide (lo<=x/\x<=hi))=false:=by
      rw[List.all_eq_false];exact⟨x,qE hx,by simp at h1 ⊢;omega⟩
     rw[this]
    ·simp -implicitDefEqProofs only[ints,oD,Nat.reduceEqDiff, ↓reduceIte,aw (by omega:i<l.length) hl]
  ·refine tE ?_;have:l.all (fun x=>decide (lo<=x/\x<=hi))=true:=by
    rw[rO];intro x hx;have:=hI.2 x (by rw[qQ om];exact hx);simpa using this
   rw[this]
def filled(l:List α)(f:α->T)(z:T)(i:Nat):LA:=(l.take i).map f++List.replicate (l.length-i) z
def Pp(l:List α)(f:α->T)(z:T)(i:Nat)(h:i<=l.length):(filled l f z i).length=l.length:=by
 simp[filled];omega
def Pq{l:List α}{f:α->T}{z:T}{i:Nat}{x:α}(h:l[i]? =some x):(filled l f z i).set i (f x)=filled l f z (i+1):=by
 obtain⟨hi,rfl⟩:=qK.1 h;refine List.ext_getElem? fun j=>?_;simp only[filled,List.getElem?_set,List.getElem?_append,qJ,qL,qD,List.length_replicate,qU,List.getElem?_take,rM,Nat.min_eq_left (Nat.le_of_lt hi),Nat.min_eq_left hi];by_cases hj:i=j
 ·subst hj;simp[hi];omega
 ·by_cases h1:j<i
  ·simp[hj,h1,show j<i+1 by omega]
  ·simp only[hj,h1,show¬j<i+1 by omega,if_false];by_cases h2:j<l.length
   ·rw[if_pos om,if_pos om]
   ·rw[if_neg om,if_neg om]
def Ps(l:List α)(f:α->T)(z:T):filled l f z 0=List.replicate l.length z:=by simp[filled]
def Pt(l:List α)(f:α->T)(z:T):filled l f z l.length=l.map f:=by simp[filled]
def fe(z:T)(n:Nat):made [z] n=List.replicate n z:=rfl
def eN(n lo hi:Int):Pr 121 [.i n,.i lo,.i hi] (.b (decide (lo<=n/\n<=hi))):=by
 refine ak6 sA (tE ?_);refine⟨fun h=>?_,fun h=>?_⟩
 ·have:lo<=n:=h;simp[this]
 ·have:¬lo<=n:=h;simp[this]
def nw(l:LI)(hl:l.length<=1000000000000):FR 88 [.t (ints l)] (ae l):=by
 refine ah9 sA (xn @ints.eq_1 ?_);exact⟨om,rfl⟩
def uQ(l:LI)(hl:l.length<=1000000000000):FR 20 [.t (ints l)] (ae l):=by
 refine cF.le (Q:=fun o r=>o=[]/\(r=ae l∨(l=[]/\r= .zz))) ?_ ?_
 ·refine ac6 sA (xn @ints.eq_1 ?_);intro b hb;exact⟨fun h=>.inr (sU (hb h)),fun _=>⟨om,.inl rfl⟩⟩
 ·rintro o r ⟨rfl,rfl|⟨rfl,rfl⟩⟩
  ·exact⟨_,.refl _,rfl,rfl⟩
  ·exact⟨_,.iH 1,rfl,rfl⟩
def fK(l:LI):Int:=l.tail.foldl max (l.headD 0)
def Pu(h:l≠ [])(x:Int):fK (l++[x])=max (fK l) x:=by
 cases l with
 |nil=>exact absurd rfl h
 |cons a l=>simp[fK,List.foldl_append]
def bG{l:List α}{i:Nat}{x:α}(h:l[i]? =some x):l.take (i+1)=l.take i++[x]:=by
 rw[List.take_add_one,h];rfl
def Ey(l:LI)(h0:l≠ [])(hl:l.length<=1000000000000):Pr 154 [ints l] (.i (fK l)):=by
 have hpos:=List.length_pos_iff.2 h0;refine an6 sA ?_;simp -implicitDefEqProofs only[go_sem,IJ,ints];refine⟨fun h=>absurd h om,fun _=>⟨om,om,fun x hx=>?_⟩⟩;refine lN (fun i=>St.of [(0,.t (ints l)),(3,.t (.i (fK (l.take i)))),(4,.t (.i i))] []) (fun i=>1<=i/\i<=l.length) (fun i=>l.length-i) 1 (aj.o _ [] [] ?_ trivial) (fun i hI R hn hr he=>?_) (hi:=⟨sA,hpos⟩)
 ·simp -implicitDefEqProofs only[ints,oD,Nat.reduceEqDiff, ↓reduceIte];cases l with
  |nil=>simp at hx
  |cons a l=>simp at hx;simp[fK,hx]
 ·refine ab ?_;refine⟨fun h=>⟨om,om,om,fun x hx=>hn _ (i+1) (aj.o _ [] [] ?_ trivial)⟩,fun h=>he _ _ ?_⟩
  ·have hne:l.take i≠ []:=by intro h';have:=congrArg List.length h';rw[qL,List.length_nil]at this;omega
   simp -implicitDefEqProofs only[ints,oD,Nat.reduceEqDiff, ↓reduceIte,aw (by omega:i<l.length) hl,bG hx,Pu hne]
  ·refine tE ?_;rw[qQ om]
def held:LI->Int->Int
 |[],k=>k
 |x::l,k=>if x=k then held l (k+1)else -1
def mx0(l:LI):Int:=l.foldl max 0
def half(l:LI):LI:=l.map fun x=>x/2
def mU:Nat->LI->LI
 |0,l=>l
 |f+1,l=>if mx0 l<=1000000000 then l else mU f (half l)
def W(f:Nat):Int:=((2^(29+f):Nat):Int)
def hw(l:LI):LI×Int:=if 1<=l.length/\l.length<=4/\∀x∈l,0<=x then(mU 34 l,0)else([],2)
def Pv:∀(l:LI) (a:Int),(∀y∈a::l,y<=l.foldl max a)/\l.foldl max a∈a::l
 |[],a=>sA
 |b::l,a=>by
  obtain⟨h1,h2⟩:=Pv l (max a b);refine⟨fun y hy=>?_,?_⟩
  ·have h0:=h1 (max a b) sA;rcases qO.1 hy with rfl|hy
   ·simp only[List.foldl_cons];omega
   ·rcases qO.1 hy with rfl|hy
    ·simp only[List.foldl_cons];omega
    ·exact h1 y (rH _ hy)
  ·simp only[List.foldl_cons];rcases qO.1 h2 with h|h
   ·rw[h];rcases Int.le_total a b with h'|h'
    ·rw[Int.max_eq_right h'];simp
    ·rw[Int.max_eq_left h'];simp
   ·simp[h]
def Pw(h:l≠ []):(∀y∈l,y<=fK l)/\fK l∈l:=by
 cases l with
 |nil=>simp at h
 |cons a l=>exact Pv l a
def cd(r:LI):Nat->Nat
 |0=>0
 |k+1=>if r.getD (cd r k) 0<r.getD k 0 then k else cd r k
def tG(r:LI):∀k,k<=r.length->0<r.length->cd r k<r.length
 |0,_,h=>h
 |k+1,hk,h=>by
  have:=tG r k om h;rw[cd];split<;>omega
def IQ(r:LI):cd r 1=0:=by
 rw[cd,show cd r 0=0 from rfl,if_neg (Int.lt_irrefl _)]
def IR(r:LI):∀k i,i<k->r.getD i 0<=r.getD (cd r k) 0
 |k+1,i,h=>by
  have ih:=IR r k;rw[cd];split
  ·rename_i h1;by_cases hi:i=k
   ·rw[hi];exact Int.le_refl _
   ·have:=ih i om;omega
  ·rename_i h1;by_cases hi:i=k
   ·rw[hi];omega
   ·exact ih i om
def Py(r:LI):∀k i,i<cd r k->r.getD i 0<r.getD (cd r k) 0
 |0,i,h=>by simp[cd]at h
 |k+1,i,h=>by
  have ih:=Py r k;have hm:=IR r k;rw[cd]at h ⊢;split at h
  ·rename_i h1;rw[if_pos h1];have:=hm i h;omega
  ·rename_i h1;rw[if_neg h1];exact ih i h
def p6:Nat->LI->LI->LI
 |0,p,_=>p
 |n+1,p,r=>p6 n (p.set (cd r r.length) (p.getD (cd r r.length) 0+1)) (r.set (cd r r.length) (-1))
def iw(t:Int)(w:LI):LI:=w.map fun x=>60*x/t
def sq(t:Int)(w:LI):LI:=w.map fun x=>60*x%t
def lq(w:LI):LI:=w.map fun _=>1
def uR(w:LI):LI:=p6 (60-(iw w.sum w).sum).toNat (iw w.sum w) (sq w.sum w)
def p7(w:LI):LI:=if w.sum=0 then uR (lq w)else uR w
def A9{b:Nat}(h:b<p.length)(x:Int):(p.set b x).sum=p.sum-p.getD b 0+x:=by
 induction p generalizing b with
 |nil=>simp at h
 |cons a p ih=>
  cases b with
  |zero=>simp;omega
  |succ b=>
   have:=ih (b:=b) (sU h);simp only[List.set_cons_succ,rZ,List.getD_cons_succ];omega
def IS(h:∀x∈w,0<=x):0<=w.sum:=by
 induction w with
 |nil=>simp
 |cons a w ih=>
  have:=ih fun x hx=>h x (rH _ hx);have:=h a sA;simp only[rZ];omega
def Pz{t:Int}:∀(w p:LI),w.length=p.length->(∀i,i<w.length->60*w.getD i 0<=t*p.getD i 0)->60*w.sum<=t*p.sum
 |[],[],_,_=>sA
 |a::w,b::p,hl,h=>by
  have ih:=Pz w p (sU hl) fun i hi=>sU (h (i+1) (by simpa using hi));have h0:=h 0 sA;simp only[List.getD_cons_zero]at h0;simp only[rZ,Int.mul_add];omega
structure sr(w:LI)(t:Int)(m:Nat)(p r:LI):Prop where
 lp:p.length=w.length
 lr:r.length=w.length
 each:∀i,i<w.length->(r.getD i 0=60*w.getD i 0-t*p.getD i 0/\0<=r.getD i 0/\r.getD i 0<t)∨(r.getD i 0= -1/\60*w.getD i 0<t*p.getD i 0/\t*p.getD i 0<60*w.getD i 0+t)
 sum:p.sum+m=60
def sr.best{m:Nat}{r:LI}(h:sr w w.sum (m+1) p r)(ht:0<w.sum):cd r r.length<w.length/\0<r.getD (cd r r.length) 0:=by
 have⟨i,hi,hpos⟩:∃i,i<w.length/\¬60*w.getD i 0<=w.sum*p.getD i 0:=by
  by_cases hc:∃i,i<w.length/\¬60*w.getD i 0<=w.sum*p.getD i 0
  ·exact hc
  ·have:=Pz (t:=w.sum) w p h.lp.symm fun i hi=>by
    by_cases h1:60*w.getD i 0<=w.sum*p.getD i 0
    ·exact h1
    ·exact absurd ⟨i,hi,h1⟩ hc
   have hs:=h.sum;have e:w.sum*p.sum=w.sum*(60-(m+1:Nat)):=(by rw[show p.sum=60-((m+1:Nat):Int) by omega]);rw[e,Int.mul_sub]at this;have h2:0<w.sum*((m+1:Nat):Int):=Int.mul_pos ht (by omega);omega
 have uJ:0<r.getD i 0:=by
  rcases h.each i hi with h1|h1<;>omega
 have hlr:=h.lr;have h1:=tG r r.length (qR _) om;have h2:=IR r r.length i om;exact⟨om,om⟩
def PA{b:Nat}(h:b<l.length)(x:Int):(l.set b x).getD b 0=x:=by
 rw[qA,List.getElem?_set_self h];rfl
def PB{b i:Nat}(h:i≠b)(x:Int):(l.set b x).getD i 0=l.getD i 0:=by
 rw[qA,List.getElem?_set_ne (Ne.symm h),qA]
def sr.step{m:Nat}{r:LI}(h:sr w w.sum (m+1) p r)(ht:0<w.sum):sr w w.sum m (p.set (cd r r.length) (p.getD (cd r r.length) 0+1)) (r.set (cd r r.length) (-1)):=by
 obtain⟨hb,hr⟩:=h.best ht;have hlp:=h.lp;have hlr:=h.lr;generalize cd r r.length=b at hb hr;refine⟨by simp[hlp],by simp[hlr],fun i hi=>?_,?_⟩
 ·by_cases hib:i=b
  ·subst hib;right;rw[PA om,PA om];rcases h.each i hi with h1|h1
   ·rw[Int.mul_add];omega
   ·omega
  ·rw[PB hib,PB hib];exact h.each i hi
 ·have:=h.sum;rw[A9 om];omega
def PC{w:LI}(ht:0<w.sum):∀(m:Nat) (p r:LI),sr w w.sum m p r→
  (p6 m p r).length=w.length/\(p6 m p r).sum=60/\∀i,i<w.length->60*w.getD i 0-w.sum<w.sum*(p6 m p r).getD i 0/\w.sum*(p6 m p r).getD i 0<60*w.getD i 0+w.sum
 |0,p,r,h=>⟨h.lp,by have:=h.sum;simpa[p6]using this,fun i hi=>by
  rw[p6];rcases h.each i hi with h1|h1<;>omega⟩
 |m+1,p,r,h=>PC ht m _ _ (h.step ht)
def PD{f:Int->Int}{i:Nat}(h:i<w.length):(w.map f).getD i 0=f (w.getD i 0):=by
 rw[qA,qA,qU,qB h];rfl
def PE{t:Int}(ht:0<t):∀w:LI,t*(iw t w).sum<=60*w.sum
 |[]=>by simp[iw]
 |a::w=>by
  have ih:=PE ht w;have h1:=Int.mul_ediv_self_le (x:=60*a) (k:=t) om;simp only[iw,List.map_cons,rZ,Int.mul_add]at ih ⊢;omega
def PF(hw:∀x∈w,0<=x)(ht:0<w.sum):sr w w.sum (60-(iw w.sum w).sum).toNat (iw w.sum w) (sq w.sum w):=by
 refine⟨by simp[iw],by simp[sq],fun i hi=>.inl ?_,?_⟩
 ·rw[iw,sq,PD hi,PD hi];have h1:=Int.mul_ediv_add_emod (60*w.getD i 0) w.sum;have h2:=Int.emod_nonneg (60*w.getD i 0) (show w.sum≠0 by omega);have h3:=Int.emod_lt_of_pos (60*w.getD i 0) ht;omega
 ·have h1:=PE ht w;have h2:(iw w.sum w).sum<=60:=by
   rw[Int.mul_comm 60]at h1;exact Int.le_of_mul_le_mul_left h1 ht
  omega
def PG(hw:∀x∈w,0<=x)(ht:0<w.sum):(uR w).length=w.length/\(uR w).sum=60/\∀i,i<w.length->60*w.getD i 0-w.sum<w.sum*(uR w).getD i 0/\w.sum*(uR w).getD i 0<60*w.getD i 0+w.sum:=
 PC ht _ _ _ (PF hw ht)
def PH(w:LI):(lq w).sum=w.length:=by
 induction w with
 |nil=>rfl
 |cons a w ih=>
  simp only[lq,List.map_cons,rZ]at ih ⊢;simp only[List.length_cons];omega
def PI(hw:∀x∈w,0<=x)(hl:1<=w.length):(p7 w).length=w.length/\(p7 w).sum=60/\(0<w.sum->∀i,i<w.length->60*w.getD i 0-w.sum<w.sum*(p7 w).getD i 0/\w.sum*(p7 w).getD i 0<60*w.getD i 0+w.sum):=by
 have h0:=IS hw;unfold p7;split
 ·rename_i h;have h1:=PG (w:=lq w) (fun x hx=>by simp[lq]at hx;omega) (by rw[PH];omega);refine⟨by rw[h1.1];simp[lq],h1.2.1,fun h'=>om⟩
 ·rename_i h;obtain⟨h1,h2,h3⟩:=PG hw om;exact⟨h1,h2,fun _=>h3⟩
def nx(l:LI):Prop:=l.length<=1000/\∀x∈l, -1000000000000<=x/\x<=1000000000000
def A_(h:nx l)(k:Nat): -1000000000000000<=(l.take k).sum/\(l.take k).sum<=1000000000000000:=by
 obtain⟨h1,h2⟩:=h;have key:∀(l:LI),(∀x∈l, -1000000000000<=x/\x<=1000000000000)-> -(1000000000000*(l.length:Int))<=l.sum/\l.sum<=1000000000000*(l.length:Int):=by
  intro l;induction l with
  |nil=>intro _;simp
  |cons a l ih=>
   intro h;have:=ih fun x hx=>h x (rH _ hx);have:=h a sA;simp only[rZ,List.length_cons];omega
 have:=key (l.take k) fun x hx=>h2 x (rU hx);have hl:(l.take k).length<=1000:=by rw[qL];omega
 omega
def IT(l:LI)(x:Int):(l++[x]).sum=l.sum+x:=sA
def tH(l:LI)(h:nx l):Pr 34 [ints l] (.i l.sum):=by
 have hl:=h.1;refine ad9 sA (ab ?_);refine lN (fun i=>St.of [(3,.t (.i (l.take i).sum)),(6,.t (ints l)),(7,.t (.i l.length)),(8,.t (.i i))] []) (fun i=>i<=l.length) (fun i=>l.length-i) 0 (eU (ah @List.take_zero.{0} @List.sum_nil.{0})) (fun i hi R hn hr he=>?_)
 ·refine ab ?_;refine⟨fun h1=>⟨om,om,om,fun x hx=>?_⟩,fun h1=>he _ _ ?_⟩
  ·have e:=IT (l.take i) x;rw[←bG hx]at e;have hb:=A_ h (i+1);refine hn _ (i+1) (aj.o _ [] [] ?_ trivial);simp -implicitDefEqProofs only[fc,Nat.reduceBEq,Nat.reduceEqDiff, ↓reduceIte,aw (by omega:i<l.length) om,←e,wrap64 (n:=(l.take (i+1)).sum) om om]
  ·refine ab ?_;rw[qQ om]
def uT(l:LI)(h:nx l):Pr 58 [ints l] (.i l.sum):=by
 have hl:=h.1;refine af5 sA (ab ?_);refine lN (fun i=>St.of [(0,.t (ints l)),(3,.t (.i (l.take i).sum)),(4,.t (.i i))] []) (fun i=>i<=l.length) (fun i=>l.length-i) 0 (eU (ah @List.take_zero.{0} @List.sum_nil.{0})) (fun i hi R hn hr he=>?_)
 ·refine ab ?_;refine⟨fun h1=>⟨om,om,om,fun x hx=>?_⟩,fun h1=>he _ _ ?_⟩
  ·have e:=IT (l.take i) x;rw[←bG hx]at e;have hb:=A_ h (i+1);refine hn _ (i+1) (aj.o _ [] [] ?_ trivial);simp -implicitDefEqProofs only[fc,Nat.reduceBEq,Nat.reduceEqDiff, ↓reduceIte,aw (by omega:i<l.length) om,←e,wrap64 (n:=(l.take (i+1)).sum) om om]
  ·refine ab ?_;rw[qQ om]
structure Tb where
 st:LI
 bn:Int
 sm:Int
 bg:Int
 an:Int
 lm:Int
variable{t:Tb}
structure Bt where
 st:LI
 bt:LI
 pd:LI
 fo:List Bool
 ac:List Bool
 tn:Nat
 un:Int
 ra:Int
 lm:Int
variable{b:Bt}
def cR(t:Tb):Prop:=(2<=t.st.length/\t.st.length<=6)/\(∀x∈t.st,1<=x/\x<=100000)/\(0<=t.bn/\t.bn<t.st.length)/\(1<=t.bg/\t.bg<=100000)/\(0<=t.sm/\t.sm<=t.bg)/\(0<=t.an/\t.an<=100000)/\(0<=t.lm/\t.lm<=2)
structure c9(n:Nat)(b:Bt):Prop where
 n2:2<=n
 n6:n<=6
 st:b.st.length=n
 bt:b.bt.length=n
 pd:b.pd.length=n
 fo:b.fo.length=n
 ac:b.ac.length=n
 tn:b.tn<n
 xs:∀i,i<n->0<=b.st.getD i 0/\b.st.getD i 0<=100000
 xb:∀i,i<n->0<=b.bt.getD i 0/\b.bt.getD i 0<=100000
 xp:∀i,i<n->0<=b.pd.getD i 0/\b.pd.getD i 0<=100000
 xt:∀i,i<n->b.st.getD i 0+b.bt.getD i 0+b.pd.getD i 0<=100000
 un:1<=b.un/\b.un<=100000
 ra:0<=b.ra/\b.ra<=4
 lm:0<=b.lm/\b.lm<=2
def aG(b:Bt):Int:=fK b.bt
def eO(b:Bt)(i:Nat):Bool:=!(b.fo.getD i true)&&decide (0<b.st.getD i 0)
def fL(b:Bt):Nat:=((List.range b.st.length).filter fun i=>eO b i).length
def kP(b:Bt):LN:=(List.range b.fo.length).filter fun i=>!(b.fo.getD i true)
def hasB(b:Bt)(i:Nat):Bool:=eO b i&&(decide (b.bt.getD i 0<aG b)||(!(b.ac.getD i true)&&decide (1<fL b)))
def oE(b:Bt):Nat->Nat->Option Nat
 |0,_=>none
 |k+1,i=>if hasB b i=true then some i else oE b k ((i+1)%b.st.length)
def iZ(b:Bt)(s d:Nat):Nat:=(oE b b.st.length s).getD d
def jV(b:Bt):Int:=
 let m0:=b.bt.getD b.tn 0+b.st.getD b.tn 0
 if b.lm=1 then min m0 (aG b+b.bt.sum+b.pd.sum+aG b-b.bt.getD b.tn 0)else if b.lm=2 then min m0 (aG b+b.un)else m0
def mV(b:Bt):Prop:=b.ac.getD b.tn true=true∨b.st.getD b.tn 0<=aG b-b.bt.getD b.tn 0∨fL b<2∨(b.lm=2/\4<=b.ra)
instance (b:Bt):Decidable (mV b):=by unfold mV;infer_instance
def fT(b:Bt):Bool×Int×Int×Int:=
 (b.bt.getD b.tn 0==aG b,min (aG b-b.bt.getD b.tn 0) (b.st.getD b.tn 0),if mV b then 0 else min (jV b) (aG b+b.un),if mV b then 0 else jV b)
def gD(c:Bool×Int×Int×Int)(a:Int×Int):Bool:=
 if a.1=0 then decide (a.2=0)else if a.1=1 then c.1&&decide (a.2=0)else if a.1=2 then decide (0<c.2.1)&&decide (a.2=0)else if a.1=3 then decide (0<c.2.2.2)&&decide (c.2.2.1<=a.2/\a.2<=c.2.2.2)else false
def g8(b:Bt)(a:Int×Int):Int:=if a.1=2 then b.bt.getD b.tn 0+min (aG b-b.bt.getD b.tn 0) (b.st.getD b.tn 0)else if a.1=3 then a.2 else b.bt.getD b.tn 0
def lW(b:Bt)(a:Int×Int):Prop:=a.1=3/\aG b+b.un<=a.2
instance (b:Bt) (a:Int×Int):Decidable (lW b a):=by unfold lW;infer_instance
def bI(b:Bt)(a:Int×Int):Bt:=
 {st:=b.st.set b.tn (b.st.getD b.tn 0-(g8 b a-b.bt.getD b.tn 0)),bt:=b.bt.set b.tn (g8 b a),pd:=b.pd,fo:=if a.1=0 then b.fo.set b.tn true else b.fo,
  ac:=(if lW b a then List.replicate b.ac.length false else b.ac).set b.tn true,tn:=b.tn,un:=if lW b a/\b.lm≠2 then a.2-aG b else b.un,ra:=if a.1=3 then min 4 (b.ra+1)else b.ra,lm:=b.lm}
def g9(b:Bt)(a:Int×Int):Bt:={bI b a with tn:=iZ (bI b a) ((b.tn+1)%b.st.length) b.tn}
def ez(t:Tb):Nat:=if t.st.length=2 then t.bn.toNat else(t.bn.toNat+1)%t.st.length
def ec(t:Tb):Nat:=(ez t+1)%t.st.length
def eg(t:Tb):LI:=t.st.map fun x=>min x t.an
def eV(t:Tb):LI:=((List.replicate t.st.length 0).set (ez t) (min t.sm (t.st.getD (ez t) 0-(eg t).getD (ez t) 0))).set (ec t) (min t.bg (t.st.getD (ec t) 0-(eg t).getD (ec t) 0))
def di(t:Tb)(p8:Nat):Nat:=if p8=0 then(ec t+1)%t.st.length else(t.bn.toNat+1)%t.st.length
def dT(t:Tb):Bt:=
 {st:=(List.range t.st.length).map fun i=>t.st.getD i 0-((eV t).getD i 0+(eg t).getD i 0),bt:=eV t,pd:=eg t,fo:=List.replicate t.st.length false,ac:=List.replicate t.st.length false,tn:=di t 0,un:=t.bg,ra:=0,lm:=t.lm}
def oF(t:Tb):Bt:={dT t with tn:=iZ (dT t) (di t 0) (di t 0)}
def p9(t:Tb)(p8:Nat):Int:=if 2<=p8/\t.lm=2 then min 100000 (2*t.bg)else t.bg
def dS(b:Bt):LI:=(List.range b.pd.length).map fun i=>b.pd.getD i 0+b.bt.getD i 0
def gh(t:Tb)(b:Bt)(p8:Nat):Bt:=
 {st:=b.st,bt:=List.replicate b.st.length 0,pd:=dS b,fo:=b.fo,ac:=List.replicate b.st.length false,tn:=di t p8,un:=p9 t p8,ra:=0,lm:=b.lm}
def lX(t:Tb)(b:Bt)(p8:Nat):Bt:={gh t b p8 with tn:=iZ (gh t b p8) (di t p8) (di t p8)}
structure gi where
 b:Bt
 s:Nat
 ov:Bool
 sh:Bool
def iy(t:Tb):Nat->Bt->Nat->gi
 |0,b,s=>⟨b,s,true,true⟩
 |k+1,b,s=>if hasB b b.tn=true then⟨b,s,false,false⟩else if(kP b).length<2 then⟨b,s,true,false⟩else if s=3∨fL b<2 then⟨b,s,true,true⟩else iy t k (lX t b (s+1)) (s+1)
def Ba(t:Tb):gi:=iy t 4 (oF t) 0
def lZ(t:Tb):gi->List (Int×Int)->gi×Int
 |p,[]=>(p,0)
 |p,a::l=>if p.ov=true then(p,5)else if gD (fT p.b) a=true then lZ t (iy t (4-p.s) (g9 p.b a) p.s) l else(p,2)
def kQ(l:List α)(i j:Nat)(v d:α):(l.set i v).getD j d=if i=j/\j<l.length then v else l.getD j d:=by
 simp only[qA,List.getElem?_set];by_cases h:i=j
 ·subst h;by_cases h2:i<l.length
  ·simp[h2]
  ·simp[h2]
 ·simp[h]
def uU(h:x∈l):∃i,i<l.length/\l.getD i 0=x:=by
 obtain⟨i,hi,rfl⟩:=rE.1 h;exact⟨i,hi,by rw[qA,qB hi];rfl⟩
def gO{i:Nat}(h:i<l.length):l.getD i 0∈l:=by
 rw[qA,qB h];exact rJ h
def mW{i:Nat}(h:i<l.length):l.getD i 0<=fK l:=(Pw (List.ne_nil_of_length_pos om)).1 _ (gO h)
def tI(h:0<l.length):∃i,i<l.length/\l.getD i 0=fK l:=uU (Pw (List.ne_nil_of_length_pos h)).2
def IU(h:∀i,i<l.length->l.getD i 0<=v)(he:∃i,i<l.length/\l.getD i 0=v):fK l=v:=by
 obtain⟨i,hi,e⟩:=he;have h1:=mW hi;obtain⟨j,hj,e2⟩:=tI (l:=l) om;have:=h j hj;omega
def au7{x:Nat}(hx:x<l.length)(hv:l.getD x 0<=v):fK (l.set x v)=max (fK l) v:=by
 refine IU (fun i hi=>?_) ?_
 ·rw[kQ];split
  ·omega
  ·have:=mW (l:=l) (i:=i) (sU hi);omega
 ·rcases Int.le_total v (fK l)with h|h
  ·obtain⟨j,hj,e⟩:=tI (l:=l) om;by_cases uV:x=j
   ·subst uV;exact⟨x,sU hx,by rw[kQ,if_pos ⟨rfl,hx⟩];omega⟩
   ·exact⟨j,sU hj,by rw[kQ,if_neg (fun h=>uV h.1)];omega⟩
  ·exact⟨x,sU hx,by rw[kQ,if_pos ⟨rfl,hx⟩];omega⟩
def IV{x:Nat}{p:Nat->Bool}(h:1<((List.range n).filter p).length):∃k,k<n/\k≠x/\p k=true:=by
 have hn:((List.range n).filter p).Nodup:=List.nodup_range.filter p
 match hl:(List.range n).filter p,h with
 |a::b::l,_=>
  rw[hl]at hn;have hab:a≠b:=by simp only[qX,qO,not_or]at hn;exact hn.1.1
  have ha:a∈(List.range n).filter p:=by rw[hl];simp
  have hb:b∈(List.range n).filter p:=by rw[hl];simp
  simp only[qV,List.mem_range]at ha hb;by_cases hx:a=x
  ·exact⟨b,hb.1,fun e=>hab (hx.trans e.symm),hb.2⟩
  ·exact⟨a,ha.1,hx,ha.2⟩
def cT(n a b:Nat):Nat:=(b+n-a)%n
def PJ:Bool:=(List.range 7).all fun n=>(List.range n).all fun x=>(List.range n).all fun j=>(List.range n).all fun i=>(List.range n).all fun k=>!(decide (2<=n/\j≠x/\i≠x/\cT n x j<cT n x i/\k<=cT n ((x+1)%n) j))||decide (cT n (((x+1)%n+k)%n) j<cT n (((x+1)%n+k)%n) i)
def PK:Bool:=(List.range 7).all fun n=>(List.range n).all fun x=>(List.range n).all fun j=>(List.range n).all fun i=>(List.range n).all fun k=>!(decide (2<=n/\cT n x j<cT n x i/\k<=cT n x j))||decide (cT n ((x+k)%n) j<cT n ((x+k)%n) i)
def au8:PJ=true:=by decide+kernel
def au9:PK=true:=by decide+kernel
def av0(n:Nat)(hn:n<7)(x:Nat)(hx:x<n)(j:Nat)(hj:j<n)(i:Nat)(hi:i<n)(k:Nat)(hk:k<n)(h2:2<=n)(h3:j≠x)(h4:i≠x)(h5:cT n x j<cT n x i)(h6:k<=cT n ((x+1)%n) j):cT n (((x+1)%n+k)%n) j<cT n (((x+1)%n+k)%n) i:=by
 have h:=au8;simp only[PJ,rO,List.mem_range,Bool.or_eq_true,Bool.not_eq_true',decide_eq_false_iff_not,decide_eq_true_eq]at h;exact(h n hn x hx j hj i hi k hk).resolve_left fun hc=>hc ⟨h2,h3,h4,h5,h6⟩
def av1(n:Nat)(hn:n<7)(x:Nat)(hx:x<n)(j:Nat)(hj:j<n)(i:Nat)(hi:i<n)(k:Nat)(hk:k<n)(h2:2<=n)(h5:cT n x j<cT n x i)(h6:k<=cT n x j):cT n ((x+k)%n) j<cT n ((x+k)%n) i:=by
 have h:=au9;simp only[PK,rO,List.mem_range,Bool.or_eq_true,Bool.not_eq_true',decide_eq_false_iff_not,decide_eq_true_eq]at h;exact(h n hn x hx j hj i hi k hk).resolve_left fun hc=>hc ⟨h2,h5,h6⟩
def av2:∀n,n<7->∀s,s<n->∀j,j<n->(s+cT n s j)%n=j/\cT n s j<n:=by
 unfold cT;decide+kernel
def PL(h0:0<n):cT n s j<n:=Nat.mod_lt _ h0
def av3{x i:Nat}(h2:2<=n)(h6:n<=6)(hx:x<n)(hj:j<n)(hi:i<n)(uV:j≠x)(kn:i≠x)(h:cT n x j<cT n x i)(hk:k<=cT n ((x+1)%n) j):
  cT n (((x+1)%n+k)%n) j<cT n (((x+1)%n+k)%n) i:=av0 n om x hx j hj i hi k (Nat.lt_of_le_of_lt hk (PL om)) h2 uV kn h hk
def av4{f i:Nat}(h2:2<=n)(h6:n<=6)(hx:f<n)(hj:j<n)(hi:i<n)(h:cT n f j<cT n f i)(hk:k<=cT n f j):cT n ((f+k)%n) j<cT n ((f+k)%n) i:=
 av1 n om f hx j hj i hi k (Nat.lt_of_le_of_lt hk (PL om)) h2 h hk
def IW(h2:2<=n)(h6:n<=6)(hs:s<n)(hj:j<n):(s+cT n s j)%n=j/\cT n s j<n:=av2 n om s hs j hj
def PM(b:Bt){n:Nat}(hn:b.st.length=n)(h0:0<n):∀(k s:Nat),s<n->(∃m,m<k/\oE b k s=some ((s+m)%n)/\hasB b ((s+m)%n)=true/\∀j,j<m->hasB b ((s+j)%n)=false)∨(oE b k s=none/\∀j,j<k->hasB b ((s+j)%n)=false)
 |0,s,hs=>.inr ⟨rfl,fun j h=>om⟩
 |k+1,s,hs=>by
  rw[oE,hn];by_cases h:hasB b s=true
  ·rw[if_pos h];exact .inl ⟨0,om,by rw[Nat.add_zero,Nat.mod_eq_of_lt hs],by rw[Nat.add_zero,Nat.mod_eq_of_lt hs];exact h,fun j hj=>om⟩
  ·rw[if_neg h];have hs':=Nat.mod_lt (s+1) h0;have e:∀m,((s+1)%n+m)%n=(s+(m+1))%n:=fun m=>by rw[Nat.mod_add_mod];congr 1;omega
   have h':hasB b s=false:=sU h;rcases PM b hn h0 k ((s+1)%n) hs' with⟨m,h1,h2,h3,h4⟩|⟨h1,h2⟩
   ·rw[e]at h2 h3;refine .inl ⟨m+1,om,h2,h3,fun j hj=>?_⟩;cases j with
    |zero=>rw[Nat.add_zero,Nat.mod_eq_of_lt hs];exact h'
    |succ j=>rw[←e];exact h4 j om
   ·refine .inr ⟨h1,fun j hj=>?_⟩;cases j with
    |zero=>rw[Nat.add_zero,Nat.mod_eq_of_lt hs];exact h'
    |succ j=>rw[←e];exact h2 j om
def Ez(hn:b.st.length=n)(h2:2<=n)(h6:n<=6)(hs:s<n):(∃k,iZ b s d=(s+k)%n/\hasB b ((s+k)%n)=true/\∀j,j<n->hasB b j=true->k<=cT n s j)∨(iZ b s d=d/\∀j,j<n->hasB b j=false):=by
 have key:∀j,j<n->∃m,m<n/\(s+m)%n=j/\m=cT n s j:=fun j hj=>⟨cT n s j,(IW h2 h6 hs hj).2,(IW h2 h6 hs hj).1,rfl⟩;rcases PM b hn om n s hs with⟨m,h1,bi,h3,h4⟩|⟨h1,bi⟩
 ·refine .inl ⟨m,by rw[iZ,hn,bi];rfl,h3,fun j hj hh=>?_⟩;obtain⟨m',q1,q2,q3⟩:=key j hj;rcases qH m' m with hlt|hge
  ·have:=h4 m' hlt;rw[q2,hh]at this;cases this
  ·omega
 ·refine .inr ⟨by rw[iZ,hn,h1];rfl,fun j hj=>?_⟩;obtain⟨m',q1,q2,q3⟩:=key j hj;have:=bi m' q1;rwa[q2]at this
structure ny(t:Tb)(b:Bt):Prop where
 l:c9 t.st.length b
 tot:∀i,i<t.st.length->b.st.getD i 0+b.bt.getD i 0+b.pd.getD i 0=t.st.getD i 0
 d_:∃i,i<t.st.length/\b.fo.getD i true=false/\b.bt.getD i 0=aG b
 opt:∀i j,i<t.st.length->j<t.st.length->eO b i=true->b.ac.getD i true=false->b.bt.getD i 0=aG b->eO b j=true->b.bt.getD j 0<aG b->cT t.st.length b.tn j<cT t.st.length b.tn i
 Bb:0<aG b∨∀i,i<t.st.length->b.fo.getD i true=false->0<b.pd.getD i 0
 lm:b.lm=t.lm
def yN{i:Nat}:eO b i=true↔b.fo.getD i true=false/\0<b.st.getD i 0:=by
 simp[eO]
def Bd{i:Nat}:hasB b i=true↔eO b i=true/\(b.bt.getD i 0<aG b∨(b.ac.getD i true=false/\1<fL b)):=by
 simp[hasB]
def av5(b:Bt)(k:Nat):hasB {b with tn:=k}=hasB b:=rfl
def yO:∀{l:LI},(∀i,i<l.length->0<=l.getD i 0)->0<=l.sum
 |[],_=>sA
 |x::l,h=>by
  have h1:=h 0 sA;have h2:=yO (l:=l) fun i hi=>by have:=h (i+1) (sU hi);simpa using this
  have h1:0<=x:=h1;rw[rZ];omega
def PN(l:c9 n b)(hno:¬mV b):aG b<=jV b/\jV b<=b.bt.getD b.tn 0+b.st.getD b.tn 0:=by
 have hM:b.bt.getD b.tn 0<=aG b:=mW (by rw[l.bt];exact l.tn);have hst:=l.xs _ l.tn;have kM:0<=b.bt.sum:=yO fun i hi=>(l.xb i (by rw[l.bt]at hi;exact hi)).1;have hps:0<=b.pd.sum:=yO fun i hi=>(l.xp i (by rw[l.pd]at hi;exact hi)).1;have hun:=l.un;unfold mV at hno;unfold jV
 (try simp only[])
 split
 ·omega
 ·split<;>omega
def Be(l:c9 n b)(hl:gD (fT b) a=true):
  (b.bt.getD b.tn 0<=g8 b a/\g8 b a<=b.bt.getD b.tn 0+b.st.getD b.tn 0)/\(a.1=3->aG b<=g8 b a/\g8 b a=a.2)/\(a.1≠3->g8 b a<=aG b)/\(a.1=2->g8 b a=aG b∨g8 b a=b.bt.getD b.tn 0+b.st.getD b.tn 0)/\(a.1=1->b.bt.getD b.tn 0=aG b)/\(a.1=0∨a.1=1->g8 b a=b.bt.getD b.tn 0)/\(0<=a.1/\a.1<=3):=by
 have hM:b.bt.getD b.tn 0<=aG b:=mW (by rw[l.bt];exact l.tn);have hst:=l.xs _ l.tn;unfold gD at hl;unfold g8;by_cases h0:a.1=0
 ·rw[if_neg om,if_neg om];refine⟨⟨by omega,by omega⟩,fun h=>by omega,fun h=>by omega,fun h=>by omega,fun h=>by omega,fun _=>rfl,by omega⟩
 ·rw[if_neg h0]at hl;by_cases h1:a.1=1
  ·rw[if_pos h1]at hl;have hbm:b.bt.getD b.tn 0=aG b:=by
    simp only[fT,qM,beq_iff_eq]at hl;exact hl.1
   rw[if_neg om,if_neg om];refine⟨⟨om,om⟩,fun h=>om,fun h=>om,fun h=>om,fun h=>hbm,fun _=>rfl,om⟩
  ·rw[if_neg h1]at hl;by_cases h2:a.1=2
   ·rw[if_pos h2];refine⟨⟨by omega,by omega⟩,fun h=>by omega,fun h=>by omega,fun h=>by omega,fun h=>by omega,fun h=>by omega,by omega⟩
   ·rw[if_neg h2]at hl;by_cases h3:a.1=3
    ·rw[if_pos h3]at hl;simp only[fT,qM]at hl;have q1:=of_decide_eq_true hl.1;have q2:=of_decide_eq_true hl.2;rw[if_neg h2,if_pos h3];have hun:=l.un;by_cases hno:mV b
     ·simp only[if_pos hno]at q1;omega
     ·simp only[if_neg hno]at q1 q2;have hm:=PN l hno;refine⟨⟨by omega,by omega⟩,fun _=>⟨by omega,rfl⟩,fun h=>absurd h3 h,fun h=>absurd h h2,fun h=>absurd h h1,fun h=>by omega,by omega⟩
    ·rw[if_neg h3]at hl;cases hl
def av6(l:c9 n b)(hl:gD (fT b) a=true):aG (bI b a)=max (aG b) (g8 b a):=by
 obtain⟨⟨h1,h2⟩,_⟩:=Be l hl;exact au7 (by rw[l.bt];exact l.tn) h1
def uW(n:Nat)(b:Bt):Prop:=hasB b b.tn=true∨∀j,j<n->hasB b j=false
def c9.act(l:c9 n b)(hl:gD (fT b) a=true):c9 n (bI b a):=by
 obtain⟨⟨h1,h2⟩,h3,h4,h5,h6,h7,h8,h9⟩:=Be l hl;have hM:b.bt.getD b.tn 0<=aG b:=mW (by rw[l.bt];exact l.tn);have hs0:=l.xs _ l.tn;have hb0:=l.xb _ l.tn;have xq:=l.xp _ l.tn;have EA:=l.xt _ l.tn;refine⟨l.n2,l.n6,by simp[bI,l.st],by simp[bI,l.bt],l.pd,?_,?_,l.tn,fun i hi=>?_,fun i hi=>?_,l.xp,fun i hi=>?_,?_,?_,l.lm⟩
 ·simp only[bI];split<;>simp[l.fo]
 ·simp only[bI];split<;>simp[l.ac]
 ·have:=l.xs i hi;simp only[bI];rw[kQ,l.st];split
  ·rename_i h;obtain⟨rfl,_⟩:=h;omega
  ·omega
 ·have:=l.xb i hi;simp only[bI];rw[kQ,l.bt];split
  ·rename_i h;obtain⟨rfl,_⟩:=h;omega
  ·omega
 ·have:=l.xt i hi;simp only[bI];rw[kQ,l.st,kQ,l.bt];by_cases h:b.tn=i/\i<n
  ·rw[if_pos h,if_pos h];obtain⟨rfl,_⟩:=h;omega
  ·rw[if_neg h,if_neg h];omega
 ·simp only[bI];have:=l.un;split
  ·rename_i h;obtain⟨⟨g1,g2⟩,_⟩:=h;have:=h3 g1;omega
  ·exact l.un
 ·simp only[bI];have:=l.ra;split<;>omega
def c9.xu(l:c9 n b)(hk:k<n):c9 n {b with tn:=k}:=⟨l.n2,l.n6,l.st,l.bt,l.pd,l.fo,l.ac,hk,l.xs,l.xb,l.xp,l.xt,l.un,l.ra,l.lm⟩
def av7{x:Nat}(hx:x<n):cT n x x=0:=by
 unfold cT;rw[show x+n-x=n by omega,Nat.mod_self]
def PO:Bool:=(List.range 7).all fun n=>(List.range n).all fun g=>(List.range n).all fun j=>!(decide (2<=n))||((!(decide (j≠g))||decide (cT n ((g+1)%n) j<cT n ((g+1)%n) g))&&(!(decide (j≠g/\j≠(g+1)%n))||decide (cT n (((g+1)%n+1)%n) j<cT n (((g+1)%n+1)%n) g))&&decide ((g+1)%n≠g))
def av8:PO=true:=by decide+kernel
def IX{g:Nat}(h2:2<=n)(h6:n<=6)(hg:g<n)(hj:j<n):(j≠g->cT n ((g+1)%n) j<cT n ((g+1)%n) g)/\(j≠g->j≠(g+1)%n->cT n (((g+1)%n+1)%n) j<cT n (((g+1)%n+1)%n) g)/\(g+1)%n≠g:=by
 have h:=av8;simp only[PO,rO,List.mem_range,Bool.or_eq_true,qM,Bool.not_eq_true',decide_eq_false_iff_not,decide_eq_true_eq]at h;have q:=(h n om g hg j hj).resolve_left fun hc=>hc h2;exact⟨fun h1=>q.1.1.resolve_left fun hc=>hc h1,fun h1 h3=>q.1.2.resolve_left fun hc=>hc ⟨h1,h3⟩,q.2⟩
def av9(l:c9 n b)(i:Nat)(hi:i<n):(bI b a).st.getD i 0=(if i=b.tn then b.st.getD b.tn 0-(g8 b a-b.bt.getD b.tn 0)else b.st.getD i 0)/\(bI b a).bt.getD i 0=(if i=b.tn then g8 b a else b.bt.getD i 0)∧
  (bI b a).fo.getD i true=(if i=b.tn/\a.1=0 then true else b.fo.getD i true)/\(bI b a).ac.getD i true=(if i=b.tn then true else if lW b a then false else b.ac.getD i true):=by
 have hx:=l.tn;refine⟨?_,?_,?_,?_⟩
 ·simp only[bI];rw[kQ,l.st];by_cases h:i=b.tn
  ·rw[if_pos ⟨h.symm,hi⟩,if_pos h]
  ·rw[if_neg (fun c=>h c.1.symm),if_neg h]
 ·simp only[bI];rw[kQ,l.bt];by_cases h:i=b.tn
  ·rw[if_pos ⟨h.symm,hi⟩,if_pos h]
  ·rw[if_neg (fun c=>h c.1.symm),if_neg h]
 ·simp only[bI];by_cases h0:a.1=0
  ·rw[if_pos h0,kQ,l.fo];by_cases h:i=b.tn
   ·rw[if_pos ⟨h.symm,hi⟩,if_pos ⟨h,h0⟩]
   ·rw[if_neg (fun c=>h c.1.symm),if_neg (fun c=>h c.1)]
  ·rw[if_neg h0,if_neg (fun c=>h0 c.2)]
 ·simp only[bI];by_cases hf:lW b a
  ·rw[if_pos hf,kQ,List.length_replicate,l.ac];by_cases h:i=b.tn
   ·rw[if_pos ⟨h.symm,hi⟩,if_pos h]
   ·rw[if_neg (fun c=>h c.1.symm),if_neg h,if_pos hf,qA,rM,if_pos hi];rfl
  ·rw[if_neg hf,kQ,l.ac];by_cases h:i=b.tn
   ·rw[if_pos ⟨h.symm,hi⟩,if_pos h]
   ·rw[if_neg (fun c=>h c.1.symm),if_neg h,if_neg hf]
def IY(hn:b.st.length=n)(h2:2<=n)(h6:n<=6)(hs:s<n)(hd:d<n):iZ b s d<n:=by
 rcases Ez (b:=b) (d:=d) hn h2 h6 hs with⟨k,h,_⟩|⟨h,_⟩
 ·rw[h];exact Nat.mod_lt _ om
 ·rw[h];exact hd
def IZ(hn:b.st.length=n)(h2:2<=n)(h6:n<=6)(hs:s<n):uW n {b with tn:=iZ b s d}:=by
 rcases Ez (b:=b) (d:=d) hn h2 h6 hs with⟨k,h,h3,_⟩|⟨h,h3⟩
 ·left;show hasB b (iZ b s d)=true;rw[h];exact h3
 ·exact .inr h3
def EB(h:ny t b)(hh:hasB b b.tn=true)(hl:gD (fT b) a=true):ny t (g9 b a)/\uW t.st.length (g9 b a):=by
 obtain⟨l,tot,d_,opt,Bb,i6⟩:=h;obtain⟨⟨t1,t2⟩,t3,t4,t5,t6,t7,t8,t9⟩:=Be l hl;have hx:=l.tn;have L:=l.act hl;have G:=fun i hi=>av9 (a:=a) l i hi;have xv:=av6 l hl;have hM:∀i,i<t.st.length->b.bt.getD i 0<=aG b:=fun i hi=>mW (by rw[l.bt];exact hi);obtain⟨PP,hsx⟩:=Bd.1 hh;obtain⟨hfx,bz5⟩:=yN.1 PP;have hs:(b.tn+1)%b.st.length<t.st.length:=by rw[l.st];exact Nat.mod_lt _ (by have:=l.n2;omega)
 have I0:=L.st;have hcan:∀i,i<t.st.length->i≠b.tn->eO (bI b a) i=eO b i:=fun i hi hne=>by
  obtain⟨g1,g2,g3,g4⟩:=G i hi;unfold eO;rw[g1,g3,if_neg hne,if_neg (fun c=>hne c.1)]
 refine⟨⟨L.xu (IY I0 l.n2 l.n6 hs hx),fun i hi=>?_,?_,fun i j hi hj eZ hai mF nz lu=>?_,?_,i6⟩,IZ I0 l.n2 l.n6 hs⟩
 ·obtain⟨g1,g2,g3,g4⟩:=G i hi;have:=tot i hi;show(bI b a).st.getD i 0+(bI b a).bt.getD i 0+b.pd.getD i 0=_;rw[g1,g2];by_cases e:i=b.tn
  ·subst e;rw[if_pos rfl,if_pos rfl];omega
  ·rw[if_neg e,if_neg e];exact this
 ·show∃i,i<t.st.length/\(bI b a).fo.getD i true=false/\(bI b a).bt.getD i 0=aG (bI b a);rw[xv];by_cases h3:a.1=3
  ·refine⟨b.tn,hx,?_,?_⟩
   ·rw[(G _ hx).2.2.1,if_neg (fun c=>om)];exact hfx
   ·rw[(G _ hx).2.1,if_pos rfl];have:=(t3 h3).1;omega
  ·have t4:=t4 h3;obtain⟨i,hi,ur,mF⟩:=d_;by_cases kn:i=b.tn
   ·by_cases h0:a.1=0
    ·have yI:b.bt.getD b.tn 0=aG b:=by rw[←kn];exact mF
     obtain⟨hac,js⟩:=hsx.resolve_left om;have js:1<((List.range b.st.length).filter fun i=>eO b i).length:=js;rw[l.st]at js;obtain⟨k,hk,PQ,kS⟩:=IV (x:=b.tn) js;have hbk:b.bt.getD k 0=aG b:=by
      rcases Int.lt_or_le (b.bt.getD k 0) (aG b)with hlt|hge
      ·have:=opt b.tn k hx hk PP hac yI kS hlt;rw[av7 hx]at this;omega
      ·have:=hM k hk;omega
     refine⟨k,hk,?_,?_⟩
     ·rw[(G _ hk).2.2.1,if_neg (fun c=>PQ c.1)];exact(yN.1 kS).1
     ·rw[(G _ hk).2.1,if_neg PQ];omega
    ·refine⟨i,hi,?_,?_⟩
     ·rw[(G _ hi).2.2.1,if_neg (fun c=>h0 c.2)];exact ur
     ·rw[(G _ hi).2.1,if_pos kn];rw[kn]at mF;omega
   ·refine⟨i,hi,?_,?_⟩
    ·rw[(G _ hi).2.2.1,if_neg (fun c=>kn c.1)];exact ur
    ·rw[(G _ hi).2.1,if_neg kn];omega
 ·have eZ:eO (bI b a) i=true:=eZ;have hai:(bI b a).ac.getD i true=false:=hai;have mF:(bI b a).bt.getD i 0=aG (bI b a):=mF;have nz:eO (bI b a) j=true:=nz;have lu:(bI b a).bt.getD j 0<aG (bI b a):=lu;have xw:hasB (bI b a) j=true:=Bd.2 ⟨nz,.inl lu⟩;have kn:i≠b.tn:=fun e=>by rw[(G i hi).2.2.2,if_pos e]at hai;cases hai
  rw[(G i hi).2.2.2,if_neg kn]at hai;rw[xv,(G i hi).2.1,if_neg kn]at mF;rw[xv,(G j hj).2.1]at lu;have hMi:=hM i hi;have hnf:¬lW b a:=fun hf=>by
   have:=t3 hf.1;have hun:=l.un;have:=hf.2;omega
  rw[if_neg hnf]at hai;have uV:j≠b.tn:=fun e=>by
   rw[if_pos e]at lu;obtain⟨c1,c2⟩:=yN.1 nz;rw[(G j hj).2.2.1]at c1;rw[(G j hj).1,if_pos e]at c2;by_cases h0:a.1=0
   ·rw[if_pos ⟨e,h0⟩]at c1;cases c1
   ·have:a.1=1∨a.1=2∨a.1=3:=om;rcases this with q|q|q
    ·have:=t6 q;have:=t7 (.inr q);omega
    ·rcases t5 q with u|u<;>omega
    ·have:=t3 q;omega
  rw[if_neg uV]at lu;rw[hcan i hi kn]at eZ;rw[hcan j hj uV]at nz;have hd:=opt i j hi hj eZ hai om nz om;show cT t.st.length (iZ (bI b a) ((b.tn+1)%b.st.length) b.tn) j<cT t.st.length (iZ (bI b a) ((b.tn+1)%b.st.length) b.tn) i;rcases Ez (b:=bI b a) (d:=b.tn) I0 l.n2 l.n6 hs with⟨k,e1,e2,e3⟩|⟨e1,e2⟩
  ·rw[e1];have:=e3 j hj xw;rw[l.st]at this ⊢;exact av3 l.n2 l.n6 hx hj hi uV kn hd this
  ·rw[e2 j hj]at xw;cases xw
 ·show 0<aG (bI b a)∨∀i,i<t.st.length->(bI b a).fo.getD i true=false->0<b.pd.getD i 0;rcases Bb with m|m
  ·left;rw[xv];omega
  ·right;intro i hi hf;rw[(G i hi).2.2.1]at hf;by_cases e:i=b.tn/\a.1=0
   ·rw[if_pos e]at hf;cases hf
   ·rw[if_neg e]at hf;exact m i hi hf
def Bf{i:Nat}(h:i<n):(List.replicate n v).getD i 0=v:=by rw[qA,rM,if_pos h];rfl
def aw0{i:Nat}{v d:Bool}(h:i<n):(List.replicate n v).getD i d=v:=by rw[qA,rM,if_pos h];rfl
def PR{i:Nat}{f:Nat->Int}(h:i<n):((List.range n).map f).getD i 0=f i:=by rw[qA,qU,List.getElem?_range h];rfl
def EC{i:Nat}(l:c9 n b)(h:i<n):(dS b).getD i 0=b.pd.getD i 0+b.bt.getD i 0:=by rw[dS,l.pd,PR h]
def aw1(ht:cR t)(s:Nat):1<=p9 t s/\p9 t s<=100000:=by
 obtain⟨_,_,_,hb,_⟩:=ht;unfold p9;split<;>omega
def uX(ht:cR t)(s:Nat):di t s<t.st.length:=by
 have:=ht.1;unfold di;split<;>exact Nat.mod_lt _ om
def Bg(ht:cR t)(h:ny t b)(hno:∀j,j<t.st.length->hasB b j=false)(s:Nat):ny t (lX t b s)/\uW t.st.length (lX t b s):=by
 obtain⟨l,tot,d_,opt,Bb,i6⟩:=h;have n0:0<t.st.length:=by have:=l.n2;omega
 have eK:=uX ht s;have xv:aG (gh t b s)=0:=IU (fun i hi=>by
   have hi:i<b.st.length:=(by simpa[gh]using hi);show(List.replicate b.st.length 0).getD i 0<=0;rw[Bf hi];omega) ⟨0,by simp[gh,l.st];omega,by show(List.replicate b.st.length 0).getD 0 0=0;exact Bf (by rw[l.st];exact n0)⟩
 have Bh:∀i,i<t.st.length->(gh t b s).bt.getD i 0=0:=fun i hi=>Bf (by rw[l.st];exact hi);have dm:∀i,i<t.st.length->(gh t b s).pd.getD i 0=b.pd.getD i 0+b.bt.getD i 0:=fun i hi=>EC l hi;have L:c9 t.st.length (gh t b s):=by
  refine⟨l.n2,l.n6,l.st,by simp[gh,l.st],by simp[gh,dS,l.pd],l.fo,by simp[gh,l.st],eK,l.xs,fun i hi=>?_,fun i hi=>?_,fun i hi=>?_,aw1 ht s,by show(0:Int)<=0/\(0:Int)<=4;omega,l.lm⟩
  ·rw[Bh i hi];omega
  ·rw[dm i hi];have:=l.xb i hi;have:=l.xp i hi;have:=l.xt i hi;have:=l.xs i hi;omega
  ·rw[Bh i hi,dm i hi];have:=l.xt i hi;show b.st.getD i 0+0+_<=_;omega
 refine⟨⟨L.xu (IY L.st l.n2 l.n6 eK eK),fun i hi=>?_,?_,fun i j hi hj _ _ _ _ lu=>?_,.inr fun i hi hf=>?_,i6⟩,IZ L.st l.n2 l.n6 eK⟩
 ·show b.st.getD i 0+(gh t b s).bt.getD i 0+(gh t b s).pd.getD i 0=_;rw[Bh i hi,dm i hi];have:=tot i hi;omega
 ·obtain⟨i,hi,hf,_⟩:=d_;exact⟨i,hi,hf,by show(gh t b s).bt.getD i 0=aG (gh t b s);rw[Bh i hi,xv]⟩
 ·have lu:(gh t b s).bt.getD j 0<aG (gh t b s):=lu;rw[Bh j hj,xv]at lu;omega
 ·show 0<(gh t b s).pd.getD i 0;have hf:b.fo.getD i true=false:=hf;rw[dm i hi];have h1:=l.xb i hi;have h2:=l.xp i hi;have h3:=tot i hi;rcases Bb with m|m
  ·by_cases hc:eO b i=true
   ·have h4:=hno i hi;have:¬b.bt.getD i 0<aG b:=fun c=>by rw[Bd.2 ⟨hc,.inl c⟩]at h4;cases h4
    omega
   ·have h5:¬0<b.st.getD i 0:=fun c=>hc (yN.2 ⟨hf,c⟩);have h6:=ht.2.1 _ (gO hi);omega
  ·have:=m i hi hf;omega
def aw2{f:Int->Int}{i:Nat}(h:i<l.length):(l.map f).getD i 0=f (l.getD i 0):=by
 rw[qA,qA,qU,qB h];rfl
def tJ(ht:cR t):ny t (oF t)/\uW t.st.length (oF t):=by
 obtain⟨⟨n2,n6⟩,hst,lx,yP,bV,xx,i6⟩:=ht;have eK:=uX ⟨⟨n2,n6⟩,hst,lx,yP,bV,xx,i6⟩ 0;have I3:ez t<t.st.length:=by unfold ez;split<;>first|omega|exact Nat.mod_lt _ (by omega)
 have Bi:ec t<t.st.length:=Nat.mod_lt _ (by omega);have hne:ec t≠ez t:=(IX n2 n6 I3 I3).2.2;have hs1:∀i,i<t.st.length->1<=t.st.getD i 0/\t.st.getD i 0<=100000:=fun i hi=>hst _ (gO hi);have dm:∀i,i<t.st.length->(eg t).getD i 0=min (t.st.getD i 0) t.an:=fun i hi=>aw2 hi;have l8:∀i,i<t.st.length->(eV t).getD i 0=if i=ec t then min t.bg (t.st.getD (ec t) 0-(eg t).getD (ec t) 0)else if i=ez t then min t.sm (t.st.getD (ez t) 0-(eg t).getD (ez t) 0)else 0:=fun i hi=>by
  unfold eV;rw[kQ,kQ,Bf hi];simp only[List.length_set,List.length_replicate];by_cases e:i=ec t
  ·rw[if_pos ⟨e.symm,hi⟩,if_pos e]
  ·rw[if_neg (fun c=>e c.1.symm),if_neg e];by_cases e2:i=ez t
   ·rw[if_pos ⟨e2.symm,hi⟩,if_pos e2]
   ·rw[if_neg (fun c=>e2 c.1.symm),if_neg e2]
 have hb0:∀i,i<t.st.length->0<=(eV t).getD i 0/\(eV t).getD i 0<=t.st.getD i 0-(eg t).getD i 0:=fun i hi=>by
  have:=hs1 i hi;have h1:=dm i hi;rw[l8 i hi];split
  ·rename_i e;subst e;omega
  ·split
   ·rename_i e;subst e;omega
   ·omega
 have Bj:∀i,i<t.st.length->(dT t).st.getD i 0=t.st.getD i 0-((eV t).getD i 0+(eg t).getD i 0):=fun i hi=>PR hi;have L:c9 t.st.length (dT t):=by
  refine⟨n2,n6,by simp[dT],by simp[dT,eV],by simp[dT,eg],by simp[dT],by simp[dT],eK,fun i hi=>?_,fun i hi=>?_,fun i hi=>?_,fun i hi=>?_,yP,by show(0:Int)<=0/\(0:Int)<=4;omega,i6⟩
  ·rw[Bj i hi];have:=hs1 i hi;have:=dm i hi;have:=hb0 i hi;omega
  ·show 0<=(eV t).getD i 0/\(eV t).getD i 0<=100000;have:=hs1 i hi;have:=dm i hi;have:=hb0 i hi;omega
  ·show 0<=(eg t).getD i 0/\(eg t).getD i 0<=100000;have:=hs1 i hi;have:=dm i hi;omega
  ·rw[Bj i hi];show _+(eV t).getD i 0+(eg t).getD i 0<=_;have:=hs1 i hi;omega
 refine⟨⟨L.xu (IY L.st n2 n6 eK eK),fun i hi=>?_,?_,fun i j hi hj eZ hai mF nz lu=>?_,?_,rfl⟩,IZ L.st n2 n6 eK⟩
 ·show(dT t).st.getD i 0+(eV t).getD i 0+(eg t).getD i 0=_;rw[Bj i hi];omega
 ·obtain⟨i,hi,e⟩:=tI (l:=(dT t).bt) (by rw[L.bt];omega);rw[L.bt]at hi;exact⟨i,hi,aw0 hi,e⟩
 ·have eZ:eO (dT t) i=true:=eZ;have mF:(eV t).getD i 0=aG (dT t):=mF;have nz:eO (dT t) j=true:=nz;have lu:(eV t).getD j 0<aG (dT t):=lu;have xw:hasB (dT t) j=true:=Bd.2 ⟨nz,.inl lu⟩;have hj0:=hb0 j hj;have key:cT t.st.length (di t 0) j<cT t.st.length (di t 0) i:=by
   have I4:=l8 i hi;by_cases e:i=ec t
   ·have:j≠ec t:=fun c=>by rw[c,←e]at lu;omega
    have q:=(IX n2 n6 Bi hj).1 this;rw[e];unfold di;rw[if_pos rfl];exact q
   ·rw[if_neg e]at I4;by_cases e2:i=ez t
    ·rw[if_pos e2]at I4;have eT:j≠ez t:=fun c=>by rw[c,←e2]at lu;omega
     have hjb:j≠ec t:=fun c=>by
      subst c;have h1:=l8 _ hj;rw[if_pos rfl]at h1;have h2:=(yN.1 nz).2;rw[Bj _ hj]at h2;omega
     have q:=(IX n2 n6 I3 hj).2.1 eT hjb;rw[e2];unfold di ec;rw[if_pos rfl];exact q
    ·rw[if_neg e2]at I4;omega
  show cT t.st.length (iZ (dT t) (di t 0) (di t 0)) j<_;rcases Ez (b:=dT t) (d:=di t 0) L.st n2 n6 eK with⟨k,e1,e2,e3⟩|⟨e1,e2⟩
  ·rw[show(oF t).tn=(di t 0+k)%t.st.length from e1,e1];exact av4 n2 n6 eK hj hi key (e3 j hj xw)
  ·rw[e2 j hj]at xw;cases xw
 ·show 0<aG (dT t)∨∀i,i<t.st.length->_->0<(eg t).getD i 0;have h1:=l8 _ Bi;rw[if_pos rfl]at h1;have h2:(eV t).getD (ec t) 0<=aG (dT t):=mW (by show _<(eV t).length;simp[eV];exact Bi);have h3:=dm _ Bi;have h4:=hs1 _ Bi;by_cases h5:1<=t.st.getD (ec t) 0-(eg t).getD (ec t) 0
  ·left;omega
  ·right;intro i hi _;rw[dm i hi];have:=hs1 i hi;omega
def cY(t:Tb):T:=.agg [ints t.st,.i t.bn,.i t.sm,.i t.bg,.i t.an,.i t.lm]
instance (t:Tb):Decidable (cR t):=by unfold cR;infer_instance
def PS:(l.all fun x=>decide (1<=x/\x<=100000))=true↔∀x∈l,1<=x/\x<=100000:=sA
section
attribute [-go_sem] bC bF bK bE bH bL
def ED(t:Tb)(hl:t.st.length<=1000000):Pr 33 [cY t] (.b (decide (cR t))):=by
 refine ad8 sA (aa @cY.eq_1 ?_);have hn:IntKind.i64.wrap ((t.st.length:Int)-1)=(t.st.length:Int)-1:=wrap64 (by omega) (by omega);by_cases h1:(2:Int)<=t.st.length/\(t.st.length:Int)<=6
 case neg=>
  refine Px (fq (t.st.length:Int) 2 6) (aa (decide_eq_false h1) ?_);rw[decide_eq_false (fun c:cR t=>h1 (by have:=c.1;omega))]
 refine Px (fq (t.st.length:Int) 2 6) (aa (decide_eq_true h1) ?_);by_cases h2:(t.st.all fun x=>decide (1<=x/\x<=100000))=true
 case neg=>
  refine Px (so t.st 1 100000 om) (aa ((Bool.eq_false_iff.2 h2)) ?_);rw[decide_eq_false (fun c:cR t=>h2 (by exact PS.2 c.2.1))]
 refine Px (so t.st 1 100000 om) (aa (ah hn h2) ?_);by_cases h3:0<=t.bn/\t.bn<=(t.st.length:Int)-1
 case neg=>
  refine Px (fq t.bn 0 ((t.st.length:Int)-1)) (aa (decide_eq_false h3) ?_);rw[decide_eq_false (fun c:cR t=>h3 (by have:=c.2.2.1;omega))]
 refine Px (fq t.bn 0 ((t.st.length:Int)-1)) (aa (decide_eq_true h3) ?_);by_cases h4:1<=t.bg/\t.bg<=100000
 case neg=>
  refine Px (fq t.bg 1 100000) (aa (decide_eq_false h4) ?_);rw[decide_eq_false (fun c:cR t=>h4 (by exact c.2.2.2.1))]
 refine Px (fq t.bg 1 100000) (aa (decide_eq_true h4) ?_);by_cases h5:0<=t.sm/\t.sm<=t.bg
 case neg=>
  refine Px (fq t.sm 0 t.bg) (aa (decide_eq_false h5) ?_);rw[decide_eq_false (fun c:cR t=>h5 (by exact c.2.2.2.2.1))]
 refine Px (fq t.sm 0 t.bg) (aa (decide_eq_true h5) ?_);by_cases h6:0<=t.an/\t.an<=100000
 case neg=>
  refine Px (fq t.an 0 100000) (aa (decide_eq_false h6) ?_);rw[decide_eq_false (fun c:cR t=>h6 (by exact c.2.2.2.2.2.1))]
 refine Px (fq t.an 0 100000) (aa (decide_eq_true h6) ?_);by_cases h7:0<=t.lm/\t.lm<=2
 case neg=>
  refine Px (fq t.lm 0 2) (aa (decide_eq_false h7) ?_);rw[decide_eq_false (fun c:cR t=>h7 (by exact c.2.2.2.2.2.2))]
 refine Px (fq t.lm 0 2) (aa (decide_eq_true h7) ?_);rw[decide_eq_true (show cR t from⟨om,PS.1 h2,om,h4,h5,h6,h7⟩)]
def I5:cR t↔((2:Int)<=t.st.length/\(t.st.length:Int)<=6)/\(∀x∈t.st,1<=x/\x<=100000)/\(0<=t.bn/\t.bn<=(t.st.length:Int)-1)/\(1<=t.bg/\t.bg<=100000)/\(0<=t.sm/\t.sm<=t.bg)/\(0<=t.an/\t.an<=100000)/\(0<=t.lm/\t.lm<=2):=
 ⟨fun c=>⟨by have:=c.1;omega,c.2.1,by have:=c.2.2.1;omega,c.2.2.2⟩,fun c=>⟨by have:=c.1;omega,c.2.1,by have:=c.2.2.1;omega,c.2.2.2⟩⟩
def PT(t:Tb)(hl:t.st.length<=1000000):Pr 111 [cY t] (.b (decide (cR t))):=by
 refine aj9 sA (aa @cY.eq_1 ?_);have hn:IntKind.i64.wrap ((t.st.length:Int)-1)=(t.st.length:Int)-1:=wrap64 (by omega) (by omega);by_cases h1:(2:Int)<=t.st.length/\(t.st.length:Int)<=6
 case neg=>
  refine Px (eN (t.st.length:Int) 2 6) (aa (ah (decide_eq_false h1) @Bool.not_false) ?_);rw[decide_eq_false (fun c:cR t=>h1 (I5.1 c).1)]
 refine Px (eN (t.st.length:Int) 2 6) (aa (ay hn (decide_eq_true h1) @Bool.not_true) ?_);by_cases h3:0<=t.bn/\t.bn<=(t.st.length:Int)-1
 case neg=>
  refine Px (eN t.bn 0 ((t.st.length:Int)-1)) (aa (ah (decide_eq_false h3) @Bool.not_false) ?_);rw[decide_eq_false (fun c:cR t=>h3 (I5.1 c).2.2.1)]
 refine Px (eN t.bn 0 ((t.st.length:Int)-1)) (aa (ah (decide_eq_true h3) @Bool.not_true) ?_);by_cases h4:1<=t.bg/\t.bg<=100000
 case neg=>
  refine Px (eN t.bg 1 100000) (aa (ah (decide_eq_false h4) @Bool.not_false) ?_);rw[decide_eq_false (fun c:cR t=>h4 c.2.2.2.1)]
 refine Px (eN t.bg 1 100000) (aa (ah (decide_eq_true h4) @Bool.not_true) ?_);by_cases h5:0<=t.sm/\t.sm<=t.bg
 case neg=>
  refine Px (eN t.sm 0 t.bg) (aa (ah (decide_eq_false h5) @Bool.not_false) ?_);rw[decide_eq_false (fun c:cR t=>h5 c.2.2.2.2.1)]
 refine Px (eN t.sm 0 t.bg) (aa (ah (decide_eq_true h5) @Bool.not_true) ?_);by_cases h6:0<=t.an/\t.an<=100000
 case neg=>
  refine Px (eN t.an 0 100000) (aa (ah (decide_eq_false h6) @Bool.not_false) ?_);rw[decide_eq_false (fun c:cR t=>h6 c.2.2.2.2.2.1)]
 refine Px (eN t.an 0 100000) (aa (ah (decide_eq_true h6) @Bool.not_true) ?_);by_cases h7:0<=t.lm/\t.lm<=2
 case neg=>
  refine Px (eN t.lm 0 2) (aa (ah (decide_eq_false h7) @Bool.not_false) ?_);rw[decide_eq_false (fun c:cR t=>h7 c.2.2.2.2.2.2)]
 refine Px (eN t.lm 0 2) (aa (ah (decide_eq_true h7) @Bool.not_true) ?_);refine lN (fun i=>St.of [(1,.own 81),(4,.t (.i i))] [(81,.box [ints t.st,.i t.bn,.i t.sm,.i t.bg,.i t.an,.i t.lm])]) (fun i=>i<=t.st.length/\∀x∈t.st.take i,1<=x/\x<=100000) (fun i=>t.st.length-i) 0 (cH [1]) (fun i hi R hn hr he=>?_) (hi:=⟨om,sA⟩)
 ·obtain⟨hi,hall⟩:=hi;rcases qH i t.st.length with h9|h9
  ·obtain⟨x,hx⟩:∃x,t.st[i]? =some x:=⟨_,qB h9⟩;refine aB (ah hx (dt ((i:Int)<(t.st.length:Int)))) ?_;by_cases hb:1<=x/\x<=100000
   ·refine Px (eN x 1 100000) (aa (ah (decide_eq_true hb) @Bool.not_true) ?_);refine hn _ (i+1) (aq [81] (aw h9 om)) ⟨om,fun y hy=>?_⟩
    ·rw[bG hx,qI]at hy;rcases hy with hy|hy
     ·exact hall y hy
     ·simp at hy;subst hy;exact hb
   ·refine Px (eN x 1 100000) (aa (ah (decide_eq_false hb) @Bool.not_false) ?_);refine hr _ (ab ?_);rw[decide_eq_false (fun c:cR t=>hb (c.2.1 x (qE hx)))]
  ·refine aa (dF ((i:Int)<(t.st.length:Int))) ?_;refine he _ _ (ab ?_);rw[qQ h9]at hall;rw[decide_eq_true (show cR t from I5.2 ⟨h1,hall,h3,h4,h5,h6,h7⟩)]
end
def left_eq{i:Nat}(hi:i<n)(hn:n<=1000):(IntKind.i64.wrap ((i:Int)+1)).tmod (n:Int)=(((i+1)%n:Nat):Int):=by
 rw[wrap64 om om,rP om,show(i:Int)+1=((i+1:Nat):Int) by omega,Int.natCast_emod]
section
attribute [-go_sem] bC bF bK bE bH bL
def nA(i n:Nat)(hi:i<n)(hn:n<=1000):Pr 53 [.i i,.i n] (.i (((i+1)%n:Nat):Int)):=by
 refine af0 sA (aa (left_eq hi hn) ?_);omega
def yQ(i n:Nat)(hi:i<n)(hn:n<=1000):Pr 62 [.i i,.i n] (.i (((i+1)%n:Nat):Int)):=by
 refine af9 sA (aa (left_eq hi hn) ?_);omega
def PU(t:Tb)(ht:cR t):Pr 149 [cY t] (.aI [.i (ez t),.i (ec t)]):=by
 obtain⟨⟨n2,n6⟩,hst,lx,_⟩:=ht;obtain⟨k,hk⟩:∃k:Nat,t.bn=k:=⟨t.bn.toNat,om⟩;have hm:=Nat.mod_lt (k+1) (show 0<t.st.length by omega);refine an1 sA (aa (ah @cY.eq_1 hk) ?_);refine Px (nA k t.st.length om om) (ab ?_);refine⟨fun h2=>?_,fun h2=>?_⟩
 ·have h2:t.st.length=2:=by have:(t.st.length:Int)=2:=sU h2
                            omega
  have hs:ez t=k:=by unfold ez;rw[if_pos h2,hk];simp
  exact Px (nA k t.st.length om om) (aa (ah @ec.eq_1 hs) trivial)
 ·have h2:t.st.length≠2:=by have:¬(t.st.length:Int)=2:=sU h2
                            omega
  have hs:ez t=(k+1)%t.st.length:=by unfold ez;rw[if_neg h2,hk];simp
  exact Px (nA ((k+1)%t.st.length) t.st.length hm om) (aa (ah @ec.eq_1 hs) trivial)
def PV(t:Tb)(ht:cR t):Pr 207 [cY t] (.aI [.i (ez t),.i (ec t)]):=by
 obtain⟨⟨n2,n6⟩,hst,lx,_⟩:=ht;obtain⟨k,hk⟩:∃k:Nat,t.bn=k:=⟨t.bn.toNat,om⟩;have hm:=Nat.mod_lt (k+1) (show 0<t.st.length by omega);refine ar6 sA (aa (ah @cY.eq_1 hk) ?_);refine Px (yQ k t.st.length om om) (ab ?_);refine⟨fun h2=>?_,fun h2=>?_⟩
 ·have h2:t.st.length=2:=by have:(t.st.length:Int)=2:=sU h2
                            omega
  have hs:ez t=k:=by unfold ez;rw[if_pos h2,hk];simp
  exact Px (yQ k t.st.length om om) (aa (ah @ec.eq_1 hs) trivial)
 ·have h2:t.st.length≠2:=by have:¬(t.st.length:Int)=2:=sU h2
                            omega
  have hs:ez t=(k+1)%t.st.length:=by unfold ez;rw[if_neg h2,hk];simp
  exact Px (yQ ((k+1)%t.st.length) t.st.length hm om) (aa (ah @ec.eq_1 hs) trivial)
def PW(ht:cR t):ez t<t.st.length:=by
 obtain⟨⟨n2,n6⟩,hst,lx,_⟩:=ht;unfold ez;split<;>first|omega|exact Nat.mod_lt _ om
def EE(ht:cR t):ec t<t.st.length:=Nat.mod_lt _ (by have:=ht.1;omega)
def PX(t:Tb)(ht:cR t)(s:Nat):Pr 92 [cY t,.i s] (.i (di t s)):=by
 have hb:=EE ht;have kM:=PU t ht;obtain⟨⟨n2,n6⟩,hst,lx,_⟩:=ht;obtain⟨k,hk⟩:∃k:Nat,t.bn=k:=⟨t.bn.toNat,om⟩;refine ai3 sA ?_;simp only[cY,hk]at kM;refine aa (ah @cY.eq_1 hk) ?_;refine⟨fun h2=>?_,fun h2=>?_⟩
 ·have h2:s=0:=by have:(s:Int)=0:=sU h2
                  omega
  refine Px kM (ab ?_);exact Px (nA (ec t) t.st.length hb om) (aa (ah @di.eq_1 h2) trivial)
 ·have h2:s≠0:=by have:¬(s:Int)=0:=sU h2
                  omega
  refine Px (nA k t.st.length om om) (ab ?_);unfold di;rw[if_neg h2,hk];simp
def PY(t:Tb)(ht:cR t)(s:Nat):Pr 177 [cY t,.i s] (.i (di t s)):=by
 have hb:=EE ht;have kM:=PV t ht;obtain⟨⟨n2,n6⟩,hst,lx,_⟩:=ht;obtain⟨k,hk⟩:∃k:Nat,t.bn=k:=⟨t.bn.toNat,om⟩;refine ap3 sA ?_;simp only[cY,hk]at kM;refine aa (ah @cY.eq_1 hk) ?_;refine⟨fun h2=>?_,fun h2=>?_⟩
 ·have h2:s=0:=by have:(s:Int)=0:=sU h2
                  omega
  refine Px kM (ab ?_);exact Px (yQ (ec t) t.st.length hb om) (aa (ah @di.eq_1 h2) trivial)
 ·have h2:s≠0:=by have:¬(s:Int)=0:=sU h2
                  omega
  refine Px (yQ k t.st.length om om) (ab ?_);unfold di;rw[if_neg h2,hk];simp
end
def oG(l:LI)(i:Nat):LI:=l.take i++List.replicate (l.length-i) 0
def aw3{i:Nat}(h:i<=l.length):(oG l i).length=l.length:=by simp[oG];omega
def aw4{i:Nat}(h:l[i]? =some x):(oG l i).set i x=oG l (i+1):=by
 have hi:=(qK.1 h).1;have hl:(l.take i).length=i:=by rw[qL];omega
 rw[oG,List.set_append_right _ _ om,hl,Nat.sub_self,show l.length-i=(l.length-(i+1))+1 by omega,List.replicate_succ,List.set_cons_zero,oG,bG h];simp
def aw5(l:LI):oG l l.length=l:=by simp[oG]
def aw6(l:LI):oG l 0=List.replicate l.length 0:=by simp[oG]
def dD{i:Nat}(h:i<l.length):l[i]? =some (l.getD i 0):=by rw[qA,qB h];rfl
def oH(t:Tb):(eg t).length=t.st.length:=by simp[eg]
def I6{i:Nat}(h:t.st[i]? =some x):(eg t)[i]? =some (min x t.an):=by simp[eg,h]
def su(l:LI)(i:Nat)(x:Int):(l.map T.i).set i (T.i x)=(l.set i x).map T.i:=by rw[List.map_set]
section
attribute [-go_sem] bC bF bK bE bH bL
def PZ(t:Tb)(ht:cR t):FR 91 [.t (cY t)] (ae (eg t)):=by
 obtain⟨⟨n2,n6⟩,hst,lx,_⟩:=ht;refine ai2 sA (aB @cY.eq_1 ?_);refine lN (fun i=>St.of [(1,.own 81),(3,.own 83),(11,.t (ints t.st)),(12,.t (.i t.st.length)),(13,.t (.i i))] [(81,.box [ints t.st,.i t.bn,.i t.sm,.i t.bg,.i t.an,.i t.lm]),(83,.arr 1 ((oG (eg t) i).map T.i))]) (fun i=>i<=t.st.length) (fun i=>t.st.length-i) 0 (cH [1,9] (hr:=rB (rI ?_ trivial))) (fun i hi R hn hr he=>?_)
 ·rw[aw6,oH,List.map_replicate];exact .refl _
 ·have hfl:(oG (eg t) i).length=t.st.length:=by rw[aw3 (by rw[oH];exact hi),oH]
  rcases qH i t.st.length with h9|h9
  ·obtain⟨x,hx⟩:∃x,t.st[i]? =some x:=⟨_,qB h9⟩;have eE:=aw4 (I6 hx);refine aB (ay hx hfl (dt ((i:Int)<(t.st.length:Int)))) ?_;exact hn _ (i+1) (aq [81,83] (aw h9 om) (hr:=rB (rK rfl (by rw[←eE,←su];exact .refl _) trivial)))
  ·refine aa (dF ((i:Int)<(t.st.length:Int))) ?_;refine he _ _ ?_;have e:i=(eg t).length:=by rw[oH];omega
   subst e;rw[aw5];refine ab ?_;rfl
def P0(t:Tb)(ht:cR t):FR 175 [.t (cY t)] (ae (eg t)):=by
 obtain⟨⟨n2,n6⟩,hst,lx,_⟩:=ht;refine ap1 sA (aa @cY.eq_1 ?_);refine lN (fun i=>St.of [(1,.own 81),(3,.own 83),(4,.t (.i i))] [(81,.box [ints t.st,.i t.bn,.i t.sm,.i t.bg,.i t.an,.i t.lm]),(83,.arr 1 (((eg t).take i).map T.i))]) (fun i=>i<=t.st.length) (fun i=>t.st.length-i) 0 (cH [1,5]) (fun i hi R hn hr he=>?_)
 ·rcases qH i t.st.length with h9|h9
  ·obtain⟨x,hx⟩:∃x,t.st[i]? =some x:=⟨_,qB h9⟩;refine aa (dt ((i:Int)<(t.st.length:Int))) ?_;refine⟨_,aj.refl _ _,aB (ah hx (Int.min_comm t.an x)) ?_⟩;refine⟨by rw[qL,oH];omega,?_⟩;exact hn _ (i+1) (aq [81,23] (aw h9 om) (hr:=rB (rK rfl (by rw[bG (I6 hx),qG];exact .refl _) trivial)))
  ·refine aa (dF ((i:Int)<(t.st.length:Int))) ?_;refine he _ _ ?_;rw[qQ (by rw[oH];exact h9)];refine ab ?_;rfl
def P1(t:Tb)(x y:Int):T.arr 1 (((List.replicate t.st.length (T.v (Value.int IntKind.i64 0))).set (ez t) (T.v (Value.int IntKind.i64 x))).set (ec t) (T.v (Value.int IntKind.i64 y)))=T.arr 1 ((((List.replicate t.st.length 0).set (ez t) x).set (ec t) y).map T.i):=by
 rw[←su,←su,List.map_replicate]
def EF(ht:cR t){i:Nat}(hi:i<t.st.length):(eg t)[i]? =some (min (t.st.getD i 0) t.an)/\1<=t.st.getD i 0/\t.st.getD i 0<=100000/\(eg t).getD i 0=min (t.st.getD i 0) t.an:=by
 have h:=I6 (dD hi);have h2:=ht.2.1 _ (gO hi);exact⟨h,h2.1,h2.2,by rw[qA,h];rfl⟩
def aw7(t:Tb)(ht:cR t):FR 90 [.t (cY t)] (ae (eV t)):=by
 have kM:=PU t ht;have xx:=PZ t ht;have hs:=PW ht;have hb:=EE ht;obtain⟨a1,a2,a3,a4⟩:=EF ht hs;obtain⟨b1,b2,b3,b4⟩:=EF ht hb;have hxs:=dD hs;have mA:=dD hb;have ht':=ht;obtain⟨⟨n2,n6⟩,hst,lx,yP,bV,aw8,_⟩:=ht;refine ai1 sA ?_;simp only[cY]at kM xx;refine aB @cY.eq_1 ?_;refine Rx xx (bu @ae.eq_1 ?_);have hw1:IntKind.i64.wrap (t.st.getD (ez t) 0-min (t.st.getD (ez t) 0) t.an)=t.st.getD (ez t) 0-min (t.st.getD (ez t) 0) t.an:=wrap64 (by omega) (by omega);have dr:IntKind.i64.wrap (t.st.getD (ec t) 0-min (t.st.getD (ec t) 0) t.an)=t.st.getD (ec t) 0-min (t.st.getD (ec t) 0) t.an:=wrap64 (by omega) (by omega);have hml:(made [T.v (Value.int IntKind.i64 0)] t.st.length).length=t.st.length:=by show(List.replicate _ _).length=_;simp
 refine bz.p kM [] rfl Tryz.call149 ?_ ?_
 ·exact ey trivial
 simp -implicitDefEqProofs only[c8,go_sem,a1,b1,hxs,mA,hw1,dr,hml,oH];refine⟨om,om,om,om,om,om,om,om,om,om,om,om,om,om,om,om,?_⟩;have h:=P1 t (min t.sm (t.st.getD (ez t) 0-min (t.st.getD (ez t) 0) t.an)) (min t.bg (t.st.getD (ec t) 0-min (t.st.getD (ec t) 0) t.an));unfold eV;rw[a4,b4];exact⟨by omega,by omega,h⟩
def aw9(t:Tb)(ht:cR t):FR 176 [.t (cY t)] (ae (eV t)):=by
 have kM:=PV t ht;have xx:=P0 t ht;have hs:=PW ht;have hb:=EE ht;obtain⟨a1,a2,a3,a4⟩:=EF ht hs;obtain⟨b1,b2,b3,b4⟩:=EF ht hb;have hxs:=dD hs;have mA:=dD hb;obtain⟨⟨n2,n6⟩,hst,lx,yP,bV,aw8,_⟩:=ht;refine ap2 sA ?_;simp only[cY]at kM xx;refine aa @cY.eq_1 ?_;refine Rx xx (bu @ae.eq_1 ?_);refine⟨om,om,?_⟩;have hw1:IntKind.i64.wrap (t.st.getD (ez t) 0-min (t.st.getD (ez t) 0) t.an)=t.st.getD (ez t) 0-min (t.st.getD (ez t) 0) t.an:=wrap64 (by omega) (by omega);have dr:IntKind.i64.wrap (t.st.getD (ec t) 0-min (t.st.getD (ec t) 0) t.an)=t.st.getD (ec t) 0-min (t.st.getD (ec t) 0) t.an:=wrap64 (by omega) (by omega);have hml:(made [T.v (Value.int IntKind.i64 0)] t.st.length).length=t.st.length:=by show(List.replicate _ _).length=_;simp
 refine bz.p kM [] rfl Tryz.call207 ?_ ?_
 ·exact ey trivial
 simp -implicitDefEqProofs only[c8,go_sem,a1,b1,hxs,mA,hw1,dr,hml,oH];refine⟨om,om,om,om,om,om,om,om,om,om,om,om,om,om,om,om,?_⟩;have h:=P1 t (min t.sm (t.st.getD (ez t) 0-min (t.st.getD (ez t) 0) t.an)) (min t.bg (t.st.getD (ec t) 0-min (t.st.getD (ec t) 0) t.an));unfold eV;rw[a4,b4];exact⟨by omega,by omega,h⟩
end
def aC(l:List Bool):T:=.sh 1 (l.map T.b)
def aR(b:Bt):T:=.agg [ints b.st,ints b.bt,ints b.pd,aC b.fo,aC b.ac,.i b.tn,.i b.un,.i b.ra,.i b.lm]
def sv{l:List Bool}{i:Nat}(h:i<l.length):l[i]? =some (l.getD i true):=by rw[qA,qB h];rfl
def c9.at(l:c9 n b){i:Nat}(hi:i<n):b.st[i]? =some (b.st.getD i 0)/\b.bt[i]? =some (b.bt.getD i 0)/\b.pd[i]? =some (b.pd.getD i 0)/\b.fo[i]? =some (b.fo.getD i true)/\b.ac[i]? =some (b.ac.getD i true):=
 ⟨dD (by rw[l.st];exact hi),dD (by rw[l.bt];exact hi),dD (by rw[l.pd];exact hi),sv (by rw[l.fo];exact hi),sv (by rw[l.ac];exact hi)⟩
def yS(b:Bt)(i:Nat):Bool:=(List.range b.st.length).any fun k=>!(k==i)&&eO b k
def P2(l:c9 n b){i:Nat}(hi:i<n)(hc:eO b i=true):yS b i=decide (1<fL b):=by
 rw[Bool.eq_iff_iff,decide_eq_true_eq];unfold yS fL;constructor
 ·intro h;obtain⟨k,hk,h2⟩:=List.any_eq_true.1 h;simp only[qM,Bool.not_eq_true',beq_eq_false_iff_ne]at h2;have hik:i∈(List.range b.st.length).filter fun i=>eO b i:=qV.2 ⟨List.mem_range.2 (by rw[l.st];exact hi),hc⟩;have hkk:k∈(List.range b.st.length).filter fun i=>eO b i:=qV.2 ⟨hk,h2.2⟩
  match hL:(List.range b.st.length).filter fun i=>eO b i with
  |[]=>rw[hL]at hik;simp at hik
  |[x]=>rw[hL]at hik hkk;simp at hik hkk;exact absurd (hkk.trans hik.symm) h2.1
  |x::y::r=>simp
 ·intro h;obtain⟨k,hk,hne,h2⟩:=IV (x:=i) h;exact List.any_eq_true.2 ⟨k,List.mem_range.2 hk,by simp[hne,h2]⟩
section
attribute [-go_sem] bC bF bK bE bH bL
def I7(b:Bt)(l:c9 n b)(i:Nat)(hi:i<n):Pr 152 [aR b,.i i] (.b (eO b i)):=by
 obtain⟨h1,h2,h3,h4,h5⟩:=l.at hi;have e1:=l.st;have e2:=l.fo;have n6:=l.n6;refine an4 sA ?_;unfold eO;cases hf:b.fo.getD i true with
 |true=>
  rw[hf]at h4;refine aa (bM @aR.eq_1 @aC.eq_1 h4 @Bool.not_true e2) ?_;omega
 |false=>
  rw[hf]at h4;refine aa (dZ @aR.eq_1 @aC.eq_1 h1 h4 @Bool.not_false e1 e2) ?_;omega
def P3(b:Bt)(l:c9 n b)(i:Nat)(hi:i<n):Pr 179 [aR b,.i i] (.b (eO b i)):=by
 obtain⟨h1,h2,h3,h4,h5⟩:=l.at hi;have e1:=l.st;have e2:=l.fo;have n6:=l.n6;refine ap5 sA ?_;unfold eO;cases hf:b.fo.getD i true with
 |true=>
  rw[hf]at h4;refine aa (bM @aR.eq_1 @aC.eq_1 h4 @Bool.not_true e2) ?_;omega
 |false=>
  rw[hf]at h4;refine aa (dZ @aR.eq_1 @aC.eq_1 h1 h4 @Bool.not_false e1 e2) ?_;omega
def P4(b:Bt)(l:c9 n b)(i:Nat)(hi:i<n):Pr 155 [aR b,.i i] (.b (yS b i)):=by
 have e1:=l.st;have n6:=l.n6;have hca:=fun k hk=>I7 b l k hk;refine an7 sA ?_;simp only[aR,aC]at hca;refine aa (ay @aR.eq_1 @aC.eq_1 e1) ?_;refine lN (fun k=>St.of [(1,.t (.i i)),(2,.own 82),(8,.t (.i n)),(9,.t (.i k))] [(82,.box [ints b.st,ints b.bt,ints b.pd,.sh 1 (b.fo.map T.b),.sh 1 (b.ac.map T.b),.i b.tn,.i b.un,.i b.ra,.i b.lm])]) (fun k=>k<=n/\∀j,j<k->(!(j==i)&&eO b j)=false) (fun k=>n-k) 0 (cH [2]) (fun k hk R hn hr he=>?_) (hi:=⟨om,fun j hj=>om⟩)
 ·obtain⟨hk,hno⟩:=hk;rcases qH k n with h9|h9
  ·by_cases hki:k=i
   ·subst hki;refine aa (ah (dt ((k:Int)<(n:Int))) @bne_self_eq_false.{0}) ?_;refine hn _ (k+1) (aq [82] (aw h9 om)) ⟨om,fun j hj=>?_⟩
    ·rcases qH j k with h|h
     ·exact hno j h
     ·have:j=k:=om;subst this;simp
   ·have hne:((k:Int) !=(i:Int))=true:=by simp;omega
    have kS:=hca k h9;cases hc:eO b k with
    |true=>
     rw[hc]at kS;refine aa (ah (dt ((k:Int)<(n:Int))) hne) ?_;refine Px kS (ab ?_);refine hr _ (ab ?_);have:yS b i=true:=List.any_eq_true.2 ⟨k,List.mem_range.2 (by rw[e1];exact h9),by simp[hki,hc]⟩;rw[this]
    |false=>
     rw[hc]at kS;refine aa (ah (dt ((k:Int)<(n:Int))) hne) ?_;refine Px kS (ab ?_);refine hn _ (k+1) (aq [82] (aw h9 om)) ⟨om,fun j hj=>?_⟩
     ·rcases qH j k with h|h
      ·exact hno j h
      ·have:j=k:=om;subst this;simp[hc]
  ·refine aa (dF ((k:Int)<(n:Int))) ?_;refine he _ _ (ab ?_);have:yS b i=false:=by
    unfold yS;rw[List.any_eq_false];intro j hj;rw[hno j (by rw[List.mem_range,e1]at hj;omega)];simp
   rw[this]
end
def l9(b:Bt)(k:Nat):Nat:=((List.range k).filter fun i=>eO b i).length
def P5(b:Bt)(k:Nat):l9 b (k+1)=l9 b k+(if eO b k=true then 1 else 0):=by
 unfold l9;rw[List.range_succ,List.filter_append,qD];by_cases h:eO b k=true
 ·rw[if_pos h,List.filter_cons_of_pos h];simp
 ·rw[if_neg h,List.filter_cons_of_neg h];simp
def P6(b:Bt)(k:Nat):l9 b k<=k:=by
 unfold l9;have:=List.length_filter_le (fun i=>eO b i) (List.range k);simpa using this
section
attribute [-go_sem] bC bF bK bE bH bL
def I8(b:Bt)(l:c9 n b):Pr 119 [aR b] (.i (fL b)):=by
 have e1:=l.st;have n6:=l.n6;have hca:=fun k hk=>P3 b l k hk;refine ak5 sA ?_;simp only[aR,aC]at hca;refine aa (ah @aR.eq_1 @aC.eq_1) ?_;refine lN (fun k=>St.of [(1,.own 81),(3,.t (.i (l9 b k))),(4,.t (.i k))] [(81,.box [ints b.st,ints b.bt,ints b.pd,.sh 1 (b.fo.map T.b),.sh 1 (b.ac.map T.b),.i b.tn,.i b.un,.i b.ra,.i b.lm])]) (fun k=>k<=n) (fun k=>n-k) 0 (aq [1] (show((l9 b 0:Nat):Int)=0 from rfl)) (fun k hk R hn hr he=>?_)
 ·have kS:=P5 b k;have br:=P6 b k;rcases qH k n with h9|h9
  ·have gA:=hca k h9;cases hc:eO b k with
   |true=>
    rw[hc]at gA;rw[if_pos hc]at kS;have hw:IntKind.i64.wrap ((l9 b k:Int)+1)=((l9 b (k+1):Nat):Int):=by rw[wrap64 om om,kS];omega
    refine aa (ah e1 (dt ((k:Int)<(n:Int)))) ?_;refine Px gA (ab ?_);exact hn _ (k+1) (aq [81] (ah (aw h9 om) hw))
   |false=>
    rw[hc]at gA;rw[if_neg (by rw[hc];simp)]at kS;refine aa (ah e1 (dt ((k:Int)<(n:Int)))) ?_;refine Px gA (ab ?_);exact hn _ (k+1) (aq [81] (ay (aw h9 om) kS @Nat.add_zero))
  ·refine aa (ah e1 (dF ((k:Int)<(n:Int)))) ?_;refine he _ _ ?_;have e:k=n:=om;subst e;refine ab ?_;unfold fL;rw[e1];rfl
def I9(b:Bt)(l:c9 n b):Pr 146 [aR b] (.i (aG b)):=by
 have e1:=l.bt;have n6:=l.n6;have n2:=l.n2;refine am8 sA (aa (ah @aR.eq_1 @aC.eq_1) ?_);refine lR (σ:=Nat×Int) (fun s=>St.of [(1,.own 81),(3,.t (.i s.2)),(4,.t (.i s.1))] [(81,.box [ints b.st,ints b.bt,ints b.pd,.sh 1 (b.fo.map T.b),.sh 1 (b.ac.map T.b),.i b.tn,.i b.un,.i b.ra,.i b.lm])]) (fun s=>s.1<=n/\0<=s.2/\(∀j,j<s.1->b.bt.getD j 0<=s.2)/\(s.2=0∨∃j,j<s.1/\b.bt.getD j 0=s.2)) (fun s=>n-s.1) (0,0) (cH [1]) (fun s hk R hn hr he=>?_) (hi:=⟨sA,sA,fun j hj=>by simp at hj,.inl rfl⟩)
 ·obtain⟨k,m⟩:=s;obtain⟨hk,hm0,g_,hm2⟩:=hk
  (try simp only[]at hk hm0 g_ hm2 hn)
  (try simp only[])
  rcases qH k n with h9|h9
  ·have hx:=(l.at h9).2.1;refine aB (ay e1 hx (dt ((k:Int)<(n:Int)))) ?_;refine hn _ (k+1,max m (b.bt.getD k 0)) (aq [81] (aw h9 om)) ⟨by simp only[];omega,by simp only[];omega,fun j hj=>?_,?_⟩ (by simp only[];omega)
   ·simp only[]at hj ⊢;rcases qH j k with h|h
    ·have:=g_ j h;omega
    ·have:j=k:=om;subst this;omega
   ·simp only[];rcases Int.le_total m (b.bt.getD k 0)with h|h
    ·exact .inr ⟨k,om,om⟩
    ·rcases hm2 with h2|⟨j,h2,h3⟩
     ·have:=l.xb k h9;exact .inl om
     ·exact .inr ⟨j,om,om⟩
  ·refine aa (ah e1 (dF ((k:Int)<(n:Int)))) ?_;refine he _ _ ?_;have e:k=n:=om;subst e;refine ab ?_;have:fK b.bt=m:=by
    refine IU (fun j hj=>g_ j (by rw[e1]at hj;exact hj)) ?_;rcases hm2 with h2|⟨j,h2,h3⟩
    ·have h4:=g_ 0 om;have h5:=l.xb 0 om;exact⟨0,om,om⟩
    ·exact⟨j,om,h3⟩
   rw[aG,this]
def I_(b:Bt)(l:c9 n b)(i:Nat)(hi:i<n):Pr 150 [aR b,.i i] (.b (hasB b i)):=by
 obtain⟨h1,h2,h3,h4,h5⟩:=l.at hi;have e1:=l.st;have e2:=l.bt;have e3:=l.ac;have n6:=l.n6;have n2:=l.n2;have hca:=I7 b l i hi;have bT:=P4 b l i hi;have dz:=Ey b.bt (List.ne_nil_of_length_pos om) om;have hM:fK b.bt=aG b:=rfl;rw[hM]at dz;refine an2 sA ?_;simp only[aR,aC]at hca bT;unfold hasB;cases hc:eO b i with
 |false=>
  rw[hc]at hca;refine aa (ay @A8.eq_1 @aR.eq_1 @aC.eq_1) ?_;exact V hca (ab trivial)
 |true=>
  rw[hc]at hca;rw[P2 l hi hc]at bT;by_cases hlt:b.bt.getD i 0<aG b
  ·refine aa (ay @A8.eq_1 @aR.eq_1 @aC.eq_1) ?_;refine V hca (aB (ah h2 e2) ?_);exact V dz (aa (ah (decide_eq_true hlt) @Bool.true_or) trivial)
  ·cases ha:b.ac.getD i true with
   |true=>
    rw[ha]at h5;refine aa (ay @A8.eq_1 @aR.eq_1 @aC.eq_1) ?_;refine V hca (aB (ah h2 e2) ?_);refine V dz (aa (bM (decide_eq_false hlt) @Bool.false_or h5 e3 @Bool.not_true) ?_);omega
   |false=>
    rw[ha]at h5;refine aa (ay @A8.eq_1 @aR.eq_1 @aC.eq_1) ?_;refine V hca (aB (ah h2 e2) ?_);refine V dz (aB (c5 (decide_eq_false hlt) @Bool.true_and @Bool.false_or h5 e3 @Bool.not_false) ?_);exact V bT (ab trivial)
def P7(b:Bt)(l:c9 n b)(i:Nat)(hi:i<n):Pr 116 [aR b,.i i] (.b (hasB b i)):=by
 obtain⟨h1,h2,h3,h4,h5⟩:=l.at hi;have e1:=l.st;have e2:=l.bt;have e3:=l.ac;have n6:=l.n6;have n2:=l.n2;have hca:=P3 b l i hi;have mR:=I8 b l;have dz:=I9 b l;have hgt:decide ((fL b:Int)>1)=decide (1<fL b):=decide_eq_decide.2 (by omega);refine ak3 (by simp) ?_;simp only[aR,aC]at hca mR dz;unfold hasB;refine aB (bf @aR.eq_1 @aC.eq_1 h2 e2) ?_;refine V dz (ab ?_);cases hc:eO b i with
 |false=>
  rw[hc]at hca;exact Px hca (aa @Bool.false_and trivial)
 |true=>
  rw[hc]at hca;by_cases hlt:b.bt.getD i 0<aG b
  ·exact Px hca (aa (ay (decide_eq_true hlt) @Bool.true_and @Bool.true_or) trivial)
  ·cases ha:b.ac.getD i true with
   |true=>
    rw[ha]at h5;refine Px hca (aa (dZ (decide_eq_false hlt) @Bool.true_and @Bool.false_or h5 e3 @Bool.not_true @Bool.false_and) ?_);omega
   |false=>
    rw[ha]at h5;refine Px hca (aB (c5 (decide_eq_false hlt) @Bool.true_and @Bool.false_or h5 e3 @Bool.not_false) ?_);exact Px mR (aa hgt trivial)
def uY(b:Bt)(l:c9 n b)(s d:Nat)(hs:s<n):Pr 93 [aR b,.i s,.i d] (.i (iZ b s d)):=by
 have e1:=l.st;have n6:=l.n6;have n2:=l.n2;have oJ:=fun k hk=>I_ b l k hk;refine ai4 sA ?_;simp only[aR,aC]at oJ;refine aa (ay @aR.eq_1 @aC.eq_1 e1) ?_;refine lR (σ:=Nat×Nat) (fun s=>St.of [(1,.t (.i s.2)),(2,.t (.i d)),(3,.own 83),(7,.t (.i n)),(11,.t (.i n)),(12,.t (.i s.1))] [(83,.box [ints b.st,ints b.bt,ints b.pd,.sh 1 (b.fo.map T.b),.sh 1 (b.ac.map T.b),.i b.tn,.i b.un,.i b.ra,.i b.lm])]) (fun q=>q.1<=n/\q.2<n/\iZ b s d=(oE b (n-q.1) q.2).getD d) (fun q=>n-q.1) (0,s) (cH [3]) (fun q hk R hn hr he=>?_) (hi:=⟨sA,hs,by simp[iZ,e1]⟩)
 ·obtain⟨k,i⟩:=q;obtain⟨hk,hi,hq⟩:=hk
  (try simp only[]at hk hi hq hn)
  (try simp only[])
  rcases qH k n with h9|h9
  ·have hhi:=oJ i hi;rw[show n-k=(n-(k+1))+1 by omega,oE,e1]at hq;cases hc:hasB b i with
   |true=>
    rw[hc]at hhi;rw[if_pos hc]at hq;refine aa (dt ((k:Int)<(n:Int))) ?_;refine Px hhi (ab ?_);refine hr _ (ab ?_);rw[hq];rfl
   |false=>
    rw[hc]at hhi;rw[if_neg (by rw[hc];simp)]at hq;have hm:=Nat.mod_lt (i+1) (show 0<n by omega);refine aa (dt ((k:Int)<(n:Int))) ?_;refine Px hhi (ab ?_);refine Px (nA i n hi om) (ab ?_);exact hn _ (k+1,(i+1)%n) (aq [83] (aw h9 om)) ⟨by simp only[];omega,hm,hq⟩ (by simp only[];omega)
  ·refine aa (dF ((k:Int)<(n:Int))) ?_;refine he _ _ (ab ?_);rw[hq,show n-k=0 by omega];rfl
def uZ(b:Bt)(l:c9 n b)(s:Nat)(hs:s<n):Pr 178 [aR b,.i s] (.i (iZ b ((s+1)%n) b.tn)):=by
 have e1:=l.st;have n6:=l.n6;have n2:=l.n2;have oJ:=fun k hk=>P7 b l k hk;refine ap4 sA ?_;simp only[aR,aC]at oJ;refine aa (ay @aR.eq_1 @aC.eq_1 e1) ?_;refine lN (fun k=>St.of [(1,.t (.i s)),(2,.own 82),(5,.t (.i n)),(6,.t (.i ((k+1:Nat):Int)))] [(82,.box [ints b.st,ints b.bt,ints b.pd,.sh 1 (b.fo.map T.b),.sh 1 (b.ac.map T.b),.i b.tn,.i b.un,.i b.ra,.i b.lm])]) (fun k=>k<=n/\iZ b ((s+1)%n) b.tn=(oE b (n-k) ((s+(k+1))%n)).getD b.tn) (fun k=>n-k) 0 (aq [2] (show((0+1:Nat):Int)=1 from rfl)) (fun k hk R hn hr he=>?_) (hi:=⟨sA,by simp[iZ,e1]⟩)
 ·obtain⟨hk,hq⟩:=hk;rcases qH k n with h9|h9
  ·have hm:=Nat.mod_lt (s+(k+1)) (show 0<n by omega);have hhi:=oJ _ hm;have hw:(IntKind.i64.wrap ((s:Int)+((k+1:Nat):Int))).tmod (n:Int)=(((s+(k+1))%n:Nat):Int):=by
    rw[wrap64 om om,rP om,show(s:Int)+((k+1:Nat):Int)=((s+(k+1):Nat):Int) by omega,Int.natCast_emod]
   have dr:IntKind.i64.wrap (((k+1:Nat):Int)+1)=((k+1+1:Nat):Int):=by rw[wrap64 om om];omega
   rw[show n-k=(n-(k+1))+1 by omega,oE,e1]at hq;have hle:decide (((k+1:Nat):Int)<=(n:Int))=true:=decide_eq_true om;cases hc:hasB b ((s+(k+1))%n)with
   |true=>
    rw[hc]at hhi;rw[if_pos hc]at hq;refine aB (ah hle hw) ?_;refine V hhi (aB hw ?_);refine hr _ (ab ?_);rw[hq];rfl
   |false=>
    rw[hc]at hhi;rw[if_neg (by rw[hc];simp)]at hq;refine aB (ah hle hw) ?_;refine V hhi (ab ?_);refine hn _ (k+1) (aq [82] dr) ⟨om,?_⟩
    ·rw[hq,Nat.mod_add_mod];rfl
  ·refine aa (dF (((k+1:Nat):Int)<=(n:Int))) ?_;refine he _ _ (ab ?_);rw[hq,show n-k=0 by omega];rfl
end
def P8:∀{l:List Bool},(∃i,i<l.length/\l.getD i true=false)->∃k:Nat,l[k]? =some false/\∀j,j<k->l[j]? =some true
 |[],⟨i,h,_⟩=>by simp at h
 |false::l,_=>⟨0,rfl,fun j hj=>om⟩
 |true::l,⟨i,h,e⟩=>by
  cases i with
  |zero=>simp at e
  |succ i=>
   obtain⟨k,h1,h2⟩:=P8 (l:=l) ⟨i,sU h,by simpa using e⟩;exact⟨k+1,sU h1,fun j hj=>by
    cases j with
    |zero=>rfl
    |succ j=>simpa using h2 j om⟩
def P9:∀{a b d:LI} {c:Int},a.length=b.length->a.length=d.length->(∀i,i<a.length->a.getD i 0+b.getD i 0+d.getD i 0<=c)->a.sum+b.sum+d.sum<=a.length*c
 |[],[],[],c,_,_,_=>sA
 |x::a,y::b,z::d,c,h1,h2,h=>by
  have q1:=h 0 sA;have q2:=P9 (a:=a) (b:=b) (d:=d) (c:=c) (sU h1) (by simpa using h2) fun i hi=>by have:=h (i+1) (sU hi);simpa using this
  have q1:x+y+z<=c:=q1;rw[rZ,rZ,rZ,List.length_cons];have:((a.length+1:Nat):Int)*c=a.length*c+c:=by rw[Int.natCast_add,Int.add_mul];simp
  omega
 |[],_::_,_,_,h,_,_=>by simp at h
 |[],[],_::_,_,_,h,_=>by simp at h
 |_::_,[],_,_,h,_,_=>by simp at h
 |_::_,_::_,[],_,_,h,_=>by simp at h
def xy(hl:l.length=n)(h6:n<=6)(h:∀i,i<n->0<=l.getD i 0/\l.getD i 0<=100000):nx l:=by
 refine⟨om,fun x hx=>?_⟩;obtain⟨i,hi,rfl⟩:=uU hx;have:=h i om;omega
def Ja(hl:l.length=n)(h:∀i,i<n->0<=l.getD i 0/\l.getD i 0<=100000):(l.all fun x=>decide (0<=x/\x<=600000))=true:=by
 rw[rO];intro x hx;obtain⟨i,hi,rfl⟩:=uU hx;have:=h i om;exact decide_eq_true om
def c9.Bk(l:c9 n b):0<=b.st.sum/\0<=b.bt.sum/\0<=b.pd.sum/\b.st.sum+b.bt.sum+b.pd.sum<=600000:=by
 refine⟨yO fun i hi=>(l.xs i (by rw[l.st]at hi;exact hi)).1,yO fun i hi=>(l.xb i (by rw[l.bt]at hi;exact hi)).1,yO fun i hi=>(l.xp i (by rw[l.pd]at hi;exact hi)).1,?_⟩;have h:=P9 (a:=b.st) (b:=b.bt) (d:=b.pd) (c:=100000) (by rw[l.st,l.bt]) (by rw[l.st,l.pd]) fun i hi=>l.xt i (by rw[l.st]at hi;exact hi);have:=l.n6;rw[l.st]at h;omega
section
attribute [-go_sem] bC bF bK bE bH bL
def ax0(l:List Bool)(k:Nat)(hl:l.length<=1000)(hk:l[k]? =some false)(hb:∀j,j<k->l[j]? =some true):Pr 225 [aC l,.b false] (.i k):=by
 have dW:=(qK.1 hk).1;refine at3 sA (aa @aC.eq_1 ?_);refine lN (fun i=>St.of [(0,.t (.sh 1 (l.map T.b))),(1,.t (.b false)),(7,.t (.i l.length)),(8,.t (.i i))] []) (fun i=>i<=k) (fun i=>l.length-i) 0 tF (fun i hi R hn hr he=>?_)
 ·rcases qH i k with h9|h9
  ·refine aB (ay (hb i h9) (dt ((i:Int)<(l.length:Int))) (show(false==true)=false from rfl)) ?_;exact hn _ (i+1) (eU (aw (show i<l.length by omega) om))
  ·have e:i=k:=om;subst e;refine aB (ay hk (dt ((i:Int)<(l.length:Int))) (show(false==false)=true from rfl)) ?_;exact hr _ (ab trivial)
def ax1(l:List Bool)(hl:l.length<=1000)(h:∃i,i<l.length/\l.getD i true=false):Pr 199 [aC l,.b false] (.b true):=by
 obtain⟨k,h1,h2⟩:=P8 h;have hx:=ax0 l k hl h1 h2;refine ar0 sA ?_;simp only[aC]at hx;refine aa @aC.eq_1 ?_;exact Px hx (aa (dt ((k:Int)≥ 0)) trivial)
def ax2(b:Bt)(l:c9 n b):Pr 198 [aR b] (.i (b.st.sum+b.bt.sum+b.pd.sum)):=by
 obtain⟨s1,s2,s3,s4⟩:=l.Bk;have q1:=tH b.st (xy l.st l.n6 l.xs);have q2:=tH b.bt (xy l.bt l.n6 l.xb);have q3:=tH b.pd (xy l.pd l.n6 l.xp);have w1:IntKind.i64.wrap (b.st.sum+b.bt.sum)=b.st.sum+b.bt.sum:=wrap64 om om;have w2:IntKind.i64.wrap (b.st.sum+b.bt.sum+b.pd.sum)=b.st.sum+b.bt.sum+b.pd.sum:=wrap64 om om;refine aq9 sA (aa (ah @aR.eq_1 @aC.eq_1) ?_);refine V q1 (ab ?_);refine V q2 (aa w1 ?_);exact V q3 (aa w2 trivial)
def ax3(b:Bt)(l:c9 n b):Pr 147 [aR b] (.i (b.bt.sum+b.pd.sum)):=by
 obtain⟨s1,s2,s3,s4⟩:=l.Bk;have q2:=uT b.bt (xy l.bt l.n6 l.xb);have q3:=uT b.pd (xy l.pd l.n6 l.xp);have w1:IntKind.i64.wrap (b.bt.sum+b.pd.sum)=b.bt.sum+b.pd.sum:=wrap64 om om;refine am9 sA (aa (ah @aR.eq_1 @aC.eq_1) ?_);refine V q2 (ab ?_);exact V q3 (aa w1 trivial)
def EG(b:Bt)(l:c9 n b)(kl:∃i,i<n/\b.fo.getD i true=false):Pr 151 [aR b] (.b true):=by
 obtain⟨s1,s2,s3,s4⟩:=l.Bk;have e1:=l.st;have e2:=l.bt;have e3:=l.pd;have e4:=l.fo;have e5:=l.ac;have n6:=l.n6;have n2:=l.n2;have tn:=l.tn;have hch:=ax2 b l;have kK:=ax1 b.fo om (by obtain⟨i,h1,h2⟩:=kl;exact⟨i,om,h2⟩);have a1:=so b.st 0 600000 om;have a2:=so b.bt 0 600000 om;have a3:=so b.pd 0 600000 om;rw[Ja l.st l.xs]at a1;rw[Ja l.bt l.xb]at a2;rw[Ja l.pd l.xp]at a3;have hw:IntKind.i64.wrap ((n:Int)-1)=(n:Int)-1:=wrap64 om om;refine an3 sA ?_;simp only[aR,aC]at hch kK;refine aa (ay @aR.eq_1 @aC.eq_1 e1) ?_;refine Px (fq (n:Int) 2 6) (aa (dZ (dt ((2:Int)<=n/\(n:Int)<=6)) @Bool.not_true e2 e3 e4 e5 @bne_self_eq_false.{0}) ?_);refine lN (fun k=>St.of [(1,.own 81),(3,.t (.i n)),(46,.t (.agg [ints b.st,ints b.bt,ints b.pd])),(47,.t (.i k))] [(81,.box [ints b.st,ints b.bt,ints b.pd,.sh 1 (b.fo.map T.b),.sh 1 (b.ac.map T.b),.i b.tn,.i b.un,.i b.ra,.i b.lm])]) (fun k=>k<=3) (fun k=>3-k) 0 (wT (aj.N9 46 (l:=[ints b.st,ints b.bt,ints b.pd]) rfl) (cH [1])) (fun k hk R hn hr he=>?_)
 ·have:k=0∨k=1∨k=2∨k=3:=om;rcases this with rfl|rfl|rfl|rfl
  ·refine aB (decide_eq_true (show((0:Nat):Int)<3 by decide)) ?_;refine Px a1 (ab ?_);refine hn _ 1 (aj.of _ _ [some 81] sA sA ?_ (rB trivial));refine ij ?_;exact .inr (.inl rfl)
  ·refine aB (decide_eq_true (show((1:Nat):Int)<3 by decide)) ?_;refine Px a2 (ab ?_);refine hn _ 2 (aj.of _ _ [some 81] sA sA ?_ (rB trivial));refine ij ?_;exact .inr (.inl rfl)
  ·refine aB (decide_eq_true (show((2:Nat):Int)<3 by decide)) ?_;refine Px a3 (ab ?_);refine hn _ 3 (aj.of _ _ [some 81] sA sA ?_ (rB trivial));refine ij ?_;exact .inr (.inl rfl)
  ·refine aa (decide_eq_false (show¬((3:Nat):Int)<3 by decide)) ?_;refine he _ _ (ab ?_);refine Px hch (aa (dt (b.st.sum+b.bt.sum+b.pd.sum<=600000)) ?_);refine Px kK (aa hw ?_);refine Px (fq (b.tn:Int) 0 ((n:Int)-1)) (aa (dt ((0:Int)<=b.tn/\(b.tn:Int)<=(n:Int)-1)) ?_);refine Px (fq b.un 1 100000) (aa (decide_eq_true l.un) ?_);refine Px (fq b.ra 0 4) (aa (decide_eq_true l.ra) ?_);exact Px (fq b.lm 0 2) (aa (decide_eq_true l.lm) trivial)
end
def sw(fo:List Bool)(i:Nat):LI:=((List.range i).filter fun i=>!(fo.getD i true)).map fun(i:Nat)=>(i:Int)
def fM(fo:List Bool):LI:=sw fo fo.length
def P_(fo:List Bool)(i:Nat):sw fo (i+1)=sw fo i++(if fo.getD i true=false then [(i:Int)]else []):=by
 unfold sw;rw[List.range_succ,List.filter_append,qG];cases h:fo.getD i true with
 |true=>rw[List.filter_cons_of_neg (by show¬(!(fo.getD i true))=true;rw[h];simp)];simp
 |false=>rw[List.filter_cons_of_pos (by show(!(fo.getD i true))=true;rw[h];rfl)];simp
def yT(b:Bt):(fM b.fo).length=(kP b).length:=by simp[fM,sw,kP]
def EH(fo:List Bool)(i:Nat):(sw fo i).length<=i:=by
 unfold sw;have:=List.length_filter_le (fun i=>!(fo.getD i true)) (List.range i);simpa using this
def l_(new old:LI)(i:Nat):LI:=new.take i++old.drop i
def Jb(new old:LI):l_ new old 0=old:=by simp[l_]
def Jc(h:new.length=old.length):l_ new old new.length=new:=by rw[l_,rT,h,List.drop_length,List.append_nil]
def Jd(h:new.length=old.length){i:Nat}(hi:i<=new.length):(l_ new old i).length=new.length:=by simp[l_];omega
def Je(h:new.length=old.length){i:Nat}(hi:i<new.length):(l_ new old i)[i]? =old[i]? :=by
 rw[l_,rD (by rw[qL];omega),qL,List.getElem?_drop];congr 1;omega
def Jf(h:new.length=old.length){i:Nat}(hx:new[i]? =some x):(l_ new old i).set i x=l_ new old (i+1):=by
 have hi:=(qK.1 hx).1;have hl:(new.take i).length=i:=by rw[qL];omega
 unfold l_;rw[List.set_append_right _ _ om,hl,Nat.sub_self,List.drop_eq_getElem_cons (show i<old.length by omega),List.set_cons_zero,bG hx];simp
section
attribute [-go_sem] bC bF bK bE bH bL
def Bl(fo:List Bool)(hl:fo.length<=1000):FR 48 [.t (aC fo)] (ae (fM fo)):=by
 refine ae7 sA (aa @aC.eq_1 ?_);refine lN (fun i=>St.of [(3,.own 83),(6,.t (.sh 1 (fo.map T.b))),(7,.t (.i fo.length)),(8,.t (.i i))] [(83,.arr 1 ((sw fo i).map T.i))]) (fun i=>i<=fo.length) (fun i=>fo.length-i) 0 (aj.of _ _ [none] sA sA ?_ ⟨⟨1,rfl⟩,trivial⟩) (fun i hi R hn hr he=>?_)
 ·exact ij trivial
 ·have hs:=P_ fo i;have jN:=EH fo i;rcases qH i fo.length with h9|h9
  ·have hx:=sv h9;cases hf:fo.getD i true with
   |true=>
    rw[hf]at hx hs;rw[if_neg sA,List.append_nil]at hs;refine aB (ay hx (dt ((i:Int)<(fo.length:Int))) @Bool.not_true) ?_;exact hn _ (i+1) (aq [83] (aw h9 om) (hr:=rK rfl (by rw[hs];exact .refl _) trivial))
   |false=>
    rw[hf]at hx hs;rw[if_pos rfl]at hs;refine aB (ay hx (dt ((i:Int)<(fo.length:Int))) @Bool.not_false) ?_;exact hn _ (i+1) (aq [18] (aw h9 om) (hr:=rK rfl (by rw[hs,qG];exact .refl _) trivial))
  ·refine aa (dF ((i:Int)<(fo.length:Int))) ?_;refine he _ _ ?_;have e:i=fo.length:=om;subst e;refine ab ?_;rfl
def Qa(b:Bt)(l:c9 n b):FR 59 [.t (aR b)] (ae (fM b.fo)):=by
 have e4:=l.fo;have n6:=l.n6;refine af6 sA (aa (ah @aR.eq_1 @aC.eq_1) ?_);refine lN (fun i=>St.of [(1,.own 81),(3,.own 83),(4,.t (.i i))] [(81,.box [ints b.st,ints b.bt,ints b.pd,.sh 1 (b.fo.map T.b),.sh 1 (b.ac.map T.b),.i b.tn,.i b.un,.i b.ra,.i b.lm]),(83,.arr 1 ((sw b.fo i).map T.i))]) (fun i=>i<=n) (fun i=>n-i) 0 (cH [1,5]) (fun i hi R hn hr he=>?_)
 ·have hs:=P_ b.fo i;have jN:=EH b.fo i;rcases qH i n with h9|h9
  ·have hx:=(l.at h9).2.2.2.1;cases hf:b.fo.getD i true with
   |true=>
    rw[hf]at hx hs;rw[if_neg sA,List.append_nil]at hs;refine aB (bf hx e4 (dt ((i:Int)<(n:Int))) @Bool.not_true) ?_;exact hn _ (i+1) (aq [81,83] (aw h9 om) (hr:=rB (rK rfl (by rw[hs];exact .refl _) trivial)))
   |false=>
    rw[hf]at hx hs;rw[if_pos rfl]at hs;refine aB (bf hx e4 (dt ((i:Int)<(n:Int))) @Bool.not_false) ?_;exact hn _ (i+1) (aq [81,22] (aw h9 om) (hr:=rB (rK rfl (by rw[hs,qG];exact .refl _) trivial)))
  ·refine aa (ah e4 (dF ((i:Int)<(n:Int)))) ?_;refine he _ _ ?_;have e:i=b.fo.length:=om;subst e;refine ab ?_;rfl
def Jg(b:Bt)(l:c9 n b)(kl:∃i,i<n/\b.fo.getD i true=false):Pr 94 [aR b] (.b (hasB b b.tn)):=by
 have hib:=EG b l kl;have oJ:=I_ b l b.tn l.tn;refine ai5 sA ?_;simp only[aR,aC]at hib oJ;refine aa (ah @aR.eq_1 @aC.eq_1) ?_;refine Px hib (ab ?_);exact Px oJ (ab trivial)
def ax4(b:Bt)(l:c9 n b)(kl:∃i,i<n/\b.fo.getD i true=false)(hh:hasB b b.tn=true):Pr 97 [aR b] (.i 0):=by
 have hib:=EG b l kl;have oJ:=I_ b l b.tn l.tn;rw[hh]at oJ;refine ai7 sA ?_;simp only[aR,aC]at hib oJ;refine aa (ah @aR.eq_1 @aC.eq_1) ?_;refine Px hib (aa @Bool.not_true ?_);exact Px oJ (aa @Bool.not_true trivial)
def Jh(l:c9 n b){i:Nat}(hi:i<n):(dS b)[i]? =some (b.pd.getD i 0+b.bt.getD i 0):=by
 unfold dS;rw[l.pd,qU,List.getElem?_range hi];rfl
def sx(l:c9 n b):(dS b).length=n:=by simp[dS,l.pd]
def Qb(b:Bt)(l:c9 n b):FR 56 [.t (aR b)] (ae (dS b)):=by
 have e2:=l.bt;have e3:=l.pd;have n6:=l.n6;have aM:=sx l;refine af3 sA (aa (ah @aR.eq_1 @aC.eq_1) ?_);refine lN (fun i=>St.of [(1,.own 81),(3,.own 83),(4,.t (.i i))] [(81,.box [ints b.st,ints b.bt,ints b.pd,.sh 1 (b.fo.map T.b),.sh 1 (b.ac.map T.b),.i b.tn,.i b.un,.i b.ra,.i b.lm]),(83,.arr 1 (((dS b).take i).map T.i))]) (fun i=>i<=n) (fun i=>n-i) 0 (cH [1,5]) (fun i hi R hn hr he=>?_)
 ·rcases qH i n with h9|h9
  ·obtain⟨h1,h2,h3,h4,h5⟩:=l.at h9;have hb:=l.xb i h9;have hp:=l.xp i h9;have hw:IntKind.i64.wrap (b.pd.getD i 0+b.bt.getD i 0)=b.pd.getD i 0+b.bt.getD i 0:=wrap64 om om;refine aB (c5 h2 h3 e2 e3 (dt ((i:Int)<(n:Int))) hw) ?_;refine⟨by rw[qL];omega,?_⟩;exact hn _ (i+1) (aq [81,26] (aw h9 om) (hr:=rB (rK rfl (by rw[bG (Jh l h9),qG];exact .refl _) trivial)))
  ·refine aa (ah e3 (dF ((i:Int)<(n:Int)))) ?_;refine he _ _ ?_;rw[qQ om];refine ab ?_;rfl
def ax5(b:Bt)(l:c9 n b):FR 47 [.t (aR b)] (ae (dS b)):=by
 have e2:=l.bt;have e3:=l.pd;have n6:=l.n6;have aM:=sx l;have br:=uQ b.pd om;refine ae6 sA (aa (ah @aR.eq_1 @aC.eq_1) ?_);refine Rx br (bu (ah @ae.eq_1 e2) ?_);refine lN (fun i=>St.of [(1,.own 81),(3,.own 83),(10,.t (ints b.bt)),(11,.t (.i n)),(12,.t (.i i))] [(81,.box [ints b.st,ints b.bt,ints b.pd,.sh 1 (b.fo.map T.b),.sh 1 (b.ac.map T.b),.i b.tn,.i b.un,.i b.ra,.i b.lm]),(83,.arr 1 ((l_ (dS b) b.pd i).map T.i))]) (fun i=>i<=n) (fun i=>n-i) 0 (cH [1,8] (hr:=rB (rK rfl (by rw[Jb];exact .refl _) trivial))) (fun i hi R hn hr he=>?_)
 ·have hml:=Jd (new:=dS b) (old:=b.pd) om (i:=i) om;rw[aM]at hml;rcases qH i n with h9|h9
  ·obtain⟨h1,h2,h3,h4,h5⟩:=l.at h9;have hb:=l.xb i h9;have hp:=l.xp i h9;have hw:IntKind.i64.wrap (b.pd.getD i 0+b.bt.getD i 0)=b.pd.getD i 0+b.bt.getD i 0:=wrap64 om om;have hma:=Je (new:=dS b) (old:=b.pd) om (i:=i) om;rw[h3]at hma;have eE:=Jf (new:=dS b) (old:=b.pd) om (Jh l h9);refine aB (c5 h2 hma hml e2 (dt ((i:Int)<(n:Int))) hw) ?_;exact hn _ (i+1) (aq [81,83] (aw h9 om) (hr:=rB (rK rfl (by rw[←eE,←su];exact .refl _) trivial)))
  ·refine aa (dF ((i:Int)<(n:Int))) ?_;refine he _ _ ?_;have e:i=(dS b).length:=om;subst e;rw[Jc om];exact ab trivial
def ax6(b:Bt)(l:c9 n b)(kl:∃i,i<n/\b.fo.getD i true=false)(hh:hasB b b.tn=false):Pr 95 [aR b] (.b (decide (fL b<2∨(kP b).length<2))):=by
 have e1:=l.st;have e4:=l.fo;have n6:=l.n6;have hib:=EG b l kl;have hop:=Jg b l kl;rw[hh]at hop;have hca:=fun k hk=>I7 b l k hk;have hls:=Bl b.fo om;have jN:=yT b;refine ai6 sA ?_;simp only[aR,aC]at hib hop hca hls;refine aa (ah @aR.eq_1 @aC.eq_1) ?_;refine Px hib (aa @Bool.not_true ?_);refine Px hop (aa e1 ?_);refine lN (fun k=>St.of [(1,.own 81),(3,.t (.i (l9 b k))),(14,.t (.i n)),(15,.t (.i k))] [(81,.box [ints b.st,ints b.bt,ints b.pd,.sh 1 (b.fo.map T.b),.sh 1 (b.ac.map T.b),.i b.tn,.i b.un,.i b.ra,.i b.lm])]) (fun k=>k<=n) (fun k=>n-k) 0 (aq [1] (show((l9 b 0:Nat):Int)=0 from rfl)) (fun k hk R hn hr he=>?_)
 ·have kS:=P5 b k;have br:=P6 b k;rcases qH k n with h9|h9
  ·have gA:=hca k h9;cases hc:eO b k with
   |true=>
    rw[hc]at gA;rw[if_pos hc]at kS;have hw:IntKind.i64.wrap ((l9 b k:Int)+1)=((l9 b (k+1):Nat):Int):=by rw[wrap64 om om,kS];omega
    refine aa (dt ((k:Int)<(n:Int))) ?_;refine Px gA (ab ?_);exact hn _ (k+1) (aq [81] (ah (aw h9 om) hw))
   |false=>
    rw[hc]at gA;rw[if_neg (by rw[hc];simp)]at kS;refine aa (dt ((k:Int)<(n:Int))) ?_;refine Px gA (ab ?_);exact hn _ (k+1) (aq [81] (ay (aw h9 om) kS @Nat.add_zero))
  ·refine aa (dF ((k:Int)<(n:Int))) ?_;refine he _ _ ?_;have e:k=n:=om;subst e;have mR:l9 b k=fL b:=by unfold fL l9;rw[e1]
   rw[mR];by_cases h2:fL b<2
   ·refine aa (dt ((fL b:Int)<2)) ?_;rw[decide_eq_true (show fL b<2∨(kP b).length<2 from .inl h2)]
   ·refine aa (dF ((fL b:Int)<2)) ?_;refine Rx hls (bu @ae.eq_1 ?_);have:decide (((fM b.fo).length:Int)<2)=decide (fL b<2∨(kP b).length<2):=decide_eq_decide.2 (by rw[jN];omega);rw[this]
end
def kT(c:Bool×Int×Int×Int):T:=.agg [.b c.1,.i c.2.1,.i c.2.2.1,.i c.2.2.2]
def tK(h:mV b):fT b=(b.bt.getD b.tn 0==aG b,min (aG b-b.bt.getD b.tn 0) (b.st.getD b.tn 0),0,0):=by unfold fT;rw[if_pos h,if_pos h]
def xz(h:¬mV b):fT b=(b.bt.getD b.tn 0==aG b,min (aG b-b.bt.getD b.tn 0) (b.st.getD b.tn 0),min (jV b) (aG b+b.un),jV b):=by unfold fT;rw[if_neg h,if_neg h]
section
attribute [-go_sem] bC bF bK bE bH bL
def ax7(b:Bt)(l:c9 n b)(hc:eO b b.tn=true):Pr 99 [aR b] (kT (fT b)):=by
 obtain⟨h1,h2,h3,h4,h5⟩:=l.at l.tn;have tn:=l.tn;obtain⟨s1,s2,s3,s4⟩:=l.Bk;have e1:=l.st;have e2:=l.bt;have e3:=l.pd;have e4:=l.fo;have e5:=l.ac;have n6:=l.n6;have n2:=l.n2;have hM:b.bt.getD b.tn 0<=aG b:=mW (by rw[e2];exact tn);obtain⟨j,hj,hjM⟩:=tI (l:=b.bt) om;have hjb:=l.xb j om;have hM2:aG b<=100000:=by have:fK b.bt=aG b:=rfl;omega
 have xs:=l.xs _ tn;have xb:=l.xb _ tn;have xp:=l.xp _ tn;have xt:=l.xt _ tn;have un:=l.un;have ra:=l.ra;have lm:=l.lm;have bT:=P4 b l b.tn tn;rw[P2 l tn hc]at bT;have dz:=Ey b.bt (List.ne_nil_of_length_pos om) om;rw[show fK b.bt=aG b from rfl]at dz;have q2:=tH b.bt (xy l.bt l.n6 l.xb);have q3:=tH b.pd (xy l.pd l.n6 l.xp);have w1:IntKind.i64.wrap (aG b-b.bt.getD b.tn 0)=aG b-b.bt.getD b.tn 0:=wrap64 om om;have w2:IntKind.i64.wrap (b.bt.getD b.tn 0+b.st.getD b.tn 0)=b.bt.getD b.tn 0+b.st.getD b.tn 0:=wrap64 om om;have w3:IntKind.i64.wrap (aG b+b.un)=aG b+b.un:=wrap64 om om;have w4:IntKind.i64.wrap (aG b+b.bt.sum)=aG b+b.bt.sum:=wrap64 om om;have w5:IntKind.i64.wrap (aG b+b.bt.sum+b.pd.sum)=aG b+b.bt.sum+b.pd.sum:=wrap64 om om;have w6:IntKind.i64.wrap (aG b+b.bt.sum+b.pd.sum+aG b)=aG b+b.bt.sum+b.pd.sum+aG b:=wrap64 om om;have w7:IntKind.i64.wrap (aG b+b.bt.sum+b.pd.sum+aG b-b.bt.getD b.tn 0)=aG b+b.bt.sum+b.pd.sum+aG b-b.bt.getD b.tn 0:=wrap64 om om;refine ai9 sA ?_;simp only[aR,aC]at bT;refine aB (c5 @aR.eq_1 @aC.eq_1 h1 h2 e1 e2) ?_;cases ha:b.ac.getD b.tn true with
 |true=>
  rw[ha]at h5;refine V dz (aB (ay w1 h5 e5) ?_);rw[tK (.inl ha)];rfl
 |false=>
  rw[ha]at h5;by_cases hs:b.st.getD b.tn 0<=aG b-b.bt.getD b.tn 0
  ·refine V dz (aB (bf w1 h5 e5 (decide_eq_true hs)) ?_);rw[tK (.inr (.inl hs))];rfl
  ·refine V dz (aB (bf w1 h5 e5 (decide_eq_false hs)) ?_);by_cases mR:fL b<2
   ·rw[dF (1<fL b)]at bT;refine Px bT (aa @Bool.not_false ?_);rw[tK (.inr (.inr (.inl mR)))];rfl
   ·rw[dt (1<fL b)]at bT;by_cases bi:b.lm=2
    ·have bO:(b.lm==2)=true:=(by simp[bi]);have fJ:(b.lm==1)=false:=(by simp[bi]);by_cases hr:4<=b.ra
     ·refine Px bT (aa (bf @Bool.not_true bO fJ (decide_eq_true (show b.ra ≥ 4 from hr))) ?_);rw[tK (.inr (.inr (.inr ⟨bi,hr⟩)))];rfl
     ·have hno:¬mV b:=fun c=>by rcases c with c|c|c|c<;>first|(rw[ha]at c;cases c)|omega
      refine Px bT (aa (c5 @Bool.not_true bO fJ (decide_eq_false (show¬b.ra ≥ 4 from hr)) w2 w3) ?_);rw[xz hno,show jV b=min (b.bt.getD b.tn 0+b.st.getD b.tn 0) (aG b+b.un) by unfold jV;rw[if_neg om,if_pos bi]];rfl
    ·have hno:¬mV b:=fun c=>by rcases c with c|c|c|c<;>first|(rw[ha]at c;cases c)|omega
     have bO:(b.lm==2)=false:=(by simp[bi]);by_cases cC:b.lm=1
     ·have fJ:(b.lm==1)=true:=(by simp[cC]);refine Px bT (aa (bf @Bool.not_true bO fJ w2) ?_);refine V q2 (aa w4 ?_);refine V q3 (aa (bf w3 w5 w6 w7) ?_);rw[xz hno,show jV b=min (b.bt.getD b.tn 0+b.st.getD b.tn 0) (aG b+b.bt.sum+b.pd.sum+aG b-b.bt.getD b.tn 0) by unfold jV;rw[if_pos cC]];rfl
     ·have fJ:(b.lm==1)=false:=(by simp[cC]);refine Px bT (aa (bM @Bool.not_true bO fJ w2 w3) ?_);rw[xz hno,show jV b=b.bt.getD b.tn 0+b.st.getD b.tn 0 by unfold jV;rw[if_neg cC,if_neg bi]];rfl
def EI(b:Bt)(l:c9 n b):Pr 87 [aR b] (kT (fT b)):=by
 obtain⟨h1,h2,h3,h4,h5⟩:=l.at l.tn;have tn:=l.tn;obtain⟨s1,s2,s3,s4⟩:=l.Bk;have e1:=l.st;have e2:=l.bt;have e3:=l.pd;have e4:=l.fo;have e5:=l.ac;have n6:=l.n6;have n2:=l.n2;have hM:b.bt.getD b.tn 0<=aG b:=mW (by rw[e2];exact tn);obtain⟨j,hj,hjM⟩:=tI (l:=b.bt) om;have hjb:=l.xb j om;have hM2:aG b<=100000:=by have:fK b.bt=aG b:=rfl;omega
 have xs:=l.xs _ tn;have xb:=l.xb _ tn;have xp:=l.xp _ tn;have xt:=l.xt _ tn;have un:=l.un;have ra:=l.ra;have lm:=l.lm;have bT:=I8 b l;have dz:=I9 b l;have jy:=ax3 b l;have w1:IntKind.i64.wrap (aG b-b.bt.getD b.tn 0)=aG b-b.bt.getD b.tn 0:=wrap64 om om;have w2:IntKind.i64.wrap (b.bt.getD b.tn 0+b.st.getD b.tn 0)=b.bt.getD b.tn 0+b.st.getD b.tn 0:=wrap64 om om;have w3:IntKind.i64.wrap (aG b+b.un)=aG b+b.un:=wrap64 om om;have w5:IntKind.i64.wrap (aG b+(b.bt.sum+b.pd.sum))=aG b+b.bt.sum+b.pd.sum:=by rw[←Int.add_assoc];exact wrap64 om om
 have w6:IntKind.i64.wrap (aG b+b.bt.sum+b.pd.sum+aG b)=aG b+b.bt.sum+b.pd.sum+aG b:=wrap64 om om;have w7:IntKind.i64.wrap (aG b+b.bt.sum+b.pd.sum+aG b-b.bt.getD b.tn 0)=aG b+b.bt.sum+b.pd.sum+aG b-b.bt.getD b.tn 0:=wrap64 om om;refine ah8 sA ?_;simp only[aR,aC]at bT dz jy;refine aB (c5 @aR.eq_1 @aC.eq_1 h1 h2 e1 e2) ?_;cases ha:b.ac.getD b.tn true with
 |true=>
  rw[ha]at h5;refine V dz (aB (ay w1 h5 e5) ?_);rw[tK (.inl ha)];rfl
 |false=>
  rw[ha]at h5;by_cases hs:b.st.getD b.tn 0<=aG b-b.bt.getD b.tn 0
  ·refine V dz (aB (bf w1 h5 e5 (decide_eq_true hs)) ?_);rw[tK (.inr (.inl hs))];rfl
  ·refine V dz (aB (bf w1 h5 e5 (decide_eq_false hs)) ?_);by_cases mR:fL b<2
   ·refine Px bT (aa (dt ((fL b:Int)<2)) ?_);rw[tK (.inr (.inr (.inl mR)))];rfl
   ·have hcd:=dF ((fL b:Int)<2);by_cases bi:b.lm=2
    ·have bO:(b.lm==2)=true:=(by simp[bi]);have fJ:(b.lm==1)=false:=(by simp[bi]);by_cases hr:4<=b.ra
     ·refine Px bT (aa (bf hcd bO fJ (decide_eq_true (show b.ra ≥ 4 from hr))) ?_);rw[tK (.inr (.inr (.inr ⟨bi,hr⟩)))];rfl
     ·have hno:¬mV b:=fun c=>by rcases c with c|c|c|c<;>first|(rw[ha]at c;cases c)|omega
      refine Px bT (aa (c5 hcd bO fJ (decide_eq_false (show¬b.ra ≥ 4 from hr)) w2 w3) ?_);rw[xz hno,show jV b=min (b.bt.getD b.tn 0+b.st.getD b.tn 0) (aG b+b.un) by unfold jV;rw[if_neg om,if_pos bi]];rfl
    ·have hno:¬mV b:=fun c=>by rcases c with c|c|c|c<;>first|(rw[ha]at c;cases c)|omega
     have bO:(b.lm==2)=false:=(by simp[bi]);by_cases cC:b.lm=1
     ·have fJ:(b.lm==1)=true:=(by simp[cC]);refine Px bT (aa (bf hcd bO fJ w2) ?_);refine V jy (aa (bf w3 w5 w6 w7) ?_);rw[xz hno,show jV b=min (b.bt.getD b.tn 0+b.st.getD b.tn 0) (aG b+b.bt.sum+b.pd.sum+aG b-b.bt.getD b.tn 0) by unfold jV;rw[if_pos cC]];rfl
     ·have fJ:(b.lm==1)=false:=(by simp[cC]);refine Px bT (aa (bM hcd bO fJ w2 w3) ?_);rw[xz hno,show jV b=b.bt.getD b.tn 0+b.st.getD b.tn 0 by unfold jV;rw[if_neg cC,if_neg bi]];rfl
end
def iM(a:Int×Int):T:=.agg [.i a.1,.i a.2]
def Qc(h:a.1=0):gD c a=(a.2==0):=by unfold gD;rw[if_pos h];rfl
def Qd(h:a.1=1):gD c a=(c.1&&(a.2==0)):=by unfold gD;rw[if_neg om,if_pos h];rfl
def Qe(h:a.1=2):gD c a=(decide (c.2.1>0)&&(a.2==0)):=by unfold gD;rw[if_neg om,if_neg om,if_pos h];rfl
def Qf(h:a.1=3):gD c a=(decide (c.2.2.2>0)&&decide (c.2.2.1<=a.2/\a.2<=c.2.2.2)):=by unfold gD;rw[if_neg om,if_neg om,if_neg om,if_pos h]
def Qg(h0:a.1≠0)(h1:a.1≠1)(h2:a.1≠2)(h3:a.1≠3):gD c a=false:=by unfold gD;rw[if_neg h0,if_neg h1,if_neg h2,if_neg h3]
def jA{y:Int}(h:x=y):(x==y)=true:=by simp[h]
def eA{y:Int}(h:x≠y):(x==y)=false:=by simp[h]
section
attribute [-go_sem] bC bF bK bE bH bL
def ax8(c:Bool×Int×Int×Int)(a:Int×Int):Pr 98 [kT c,iM a] (.b (gD c a)):=by
 refine ai8 sA ?_;by_cases h0:a.1=0
 ·refine aa (ay @kT.eq_1 @iM.eq_1 (jA h0)) ?_;rw[Qc h0]
 ·by_cases h1:a.1=1
  ·rw[Qd h1];cases hc:c.1 with
   |true=>
    exact aa (c5 @kT.eq_1 @iM.eq_1 (eA h0) (jA h1) hc @Bool.true_and) trivial
   |false=>
    exact aa (c5 @kT.eq_1 @iM.eq_1 (eA h0) (jA h1) hc @Bool.false_and) trivial
  ·by_cases h2:a.1=2
   ·rw[Qe h2];by_cases hc:c.2.1>0
    ·exact aa (dZ @kT.eq_1 @iM.eq_1 (eA h0) (eA h1) (jA h2) (decide_eq_true hc) @Bool.true_and) trivial
    ·exact aa (dZ @kT.eq_1 @iM.eq_1 (eA h0) (eA h1) (jA h2) (decide_eq_false hc) @Bool.false_and) trivial
   ·by_cases h3:a.1=3
    ·rw[Qf h3];by_cases hc:c.2.2.2>0
     ·refine aa (jz @kT.eq_1 @iM.eq_1 (eA h0) (eA h1) (eA h2) (jA h3) (decide_eq_true hc) @Bool.true_and) ?_;exact Px (fq a.2 c.2.2.1 c.2.2.2) (ab trivial)
     ·exact aa (jz @kT.eq_1 @iM.eq_1 (eA h0) (eA h1) (eA h2) (jA h3) (decide_eq_false hc) @Bool.false_and) trivial
    ·rw[Qg h0 h1 h2 h3];exact aa (c5 @kT.eq_1 @iM.eq_1 (eA h0) (eA h1) (eA h2) (eA h3)) trivial
def ax9(b:Bt)(l:c9 n b)(a:Int×Int):Pr 117 [aR b,iM a] (.b (gD (fT b) a)):=by
 have hch:=EI b l;refine ak4 sA ?_;generalize fT b=c at hch ⊢;simp only[aR,aC,kT]at hch;refine aa (ay @aR.eq_1 @aC.eq_1 @iM.eq_1) ?_;by_cases h0:a.1=0
 ·refine Px hch (aa (jA h0) ?_);rw[Qc h0]
 ·by_cases h1:a.1=1
  ·rw[Qd h1];by_cases hz:a.2=0
   ·exact Px hch (aa (bf (eA h0) (jA h1) (jA hz) @Bool.and_true) trivial)
   ·exact Px hch (aa (bf (eA h0) (jA h1) (eA hz) @Bool.and_false) trivial)
  ·by_cases h2:a.1=2
   ·rw[Qe h2];by_cases hz:a.2=0
    ·exact Px hch (aa (bM (eA h0) (eA h1) (jA h2) (jA hz) @Bool.and_true) trivial)
    ·exact Px hch (aa (bM (eA h0) (eA h1) (jA h2) (eA hz) @Bool.and_false) trivial)
   ·by_cases h3:a.1=3
    ·rw[Qf h3];by_cases hc:c.2.2.2>0
     ·refine Px hch (aa (c5 (eA h0) (eA h1) (eA h2) (jA h3) (decide_eq_true hc) @Bool.true_and) ?_);exact Px (eN a.2 c.2.2.1 c.2.2.2) (ab trivial)
     ·exact Px hch (aa (c5 (eA h0) (eA h1) (eA h2) (jA h3) (decide_eq_false hc) @Bool.false_and) trivial)
    ·rw[Qg h0 h1 h2 h3];exact Px hch (aa (bf (eA h0) (eA h1) (eA h2) (eA h3)) trivial)
end
def eP(l:List Bool):T:=.arr 1 (l.map T.b)
def eh(b:Bt):T:=.agg [ae b.st,ae b.bt,ae b.pd,eP b.fo,eP b.ac,.i b.tn,.i b.un,.i b.ra,.i b.lm]
def Bm(l:List Bool):(l.map T.b).all T.cell=true:=by
 rw[List.all_map,rO];intro x _;rfl
section
attribute [-go_sem] bC bF bK bE bH bL
def Qh(l:List Bool)(hl:l.length<=1000):FR 200 [.t (aC l)] (eP l):=by
 refine cF.le (Q:=fun o r=>o=[]/\(r=eP l∨(l=[]/\r= .zz))) ?_ ?_
 ·refine ar1 sA (xn (ah @aC.eq_1 @Bm) ?_);intro b hb;exact⟨fun h=>.inr (sU (hb h)),fun _=>⟨om,.inl rfl⟩⟩
 ·rintro o r ⟨rfl,rfl|⟨rfl,rfl⟩⟩
  ·exact⟨_,.refl _,rfl,rfl⟩
  ·exact⟨_,.iH 1,rfl,rfl⟩
def ay0(b:Bt)(l:c9 n b):FR 180 [.t (aR b)] (eh b):=by
 have e1:=l.st;have e2:=l.bt;have e3:=l.pd;have e4:=l.fo;have e5:=l.ac;have n6:=l.n6;refine au6 sA (aa (ah @aR.eq_1 @aC.eq_1) ?_);refine Hx (nw b.st om) (bu @ae.eq_1 ?_);refine Hx (nw b.bt om) (bu @ae.eq_1 ?_);refine Hx (nw b.pd om) (bu (ah @ae.eq_1 @Bm) ?_);exact⟨om,⟨om,rfl,(qS).ak _ (.inr rfl)⟩,(qS).ak _ (.inr rfl)⟩
def Qi(b:Bt)(l:c9 n b):FR 153 [.t (aR b)] (eh b):=by
 have e1:=l.st;have e2:=l.bt;have e3:=l.pd;have e4:=l.fo;have e5:=l.ac;have n6:=l.n6;have q1:=Qh b.fo om;have q2:=Qh b.ac om;simp only[aC]at q1 q2;refine an5 sA (aa (ah @aR.eq_1 @aC.eq_1) ?_);refine Hx (uQ b.st om) (bu @ae.eq_1 ?_);refine Hx (uQ b.bt om) (bu @ae.eq_1 ?_);refine Hx (uQ b.pd om) (bu @ae.eq_1 ?_);refine Hx q1 (bu @eP.eq_1 ?_);refine Hx q2 (dl @eP.eq_1 ?_);rfl
end
end Go.Ab
