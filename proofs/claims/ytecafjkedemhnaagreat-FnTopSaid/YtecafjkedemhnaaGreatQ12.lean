import Derived.Test.YtecafjkedemhnaaGreatQ11
set_option maxRecDepth 20000
set_option linter.all false
set_option maxHeartbeats 1000000
namespace Go.Ab
open Go.Proofs
variable{c:Nat->Nat}{i j k m n r:Nat}{l:LI}{α:Type}{y:Int}
section
attribute [-go_sem] bC bF bK bE bH bL
def vu(l:LI):LI:=l.map fun c=>((rk c:Nat):Int)
def lD(l:LI)(s:Nat):Nat:=kY (vu (l.filter fun c=>st c==s))
def j0(l:LI):Nat:=kY (vu l)
def fh(n:Nat)(F:Nat->α):List α:=(List.range n).map F
def gj{F:Nat->α}(h:k<n):(fh n F)[k]? =some (F k):=by rw[fh,qU,List.getElem?_range h];rfl
def fx{F:Nat->α}:(fh n F).length=n:=by simp[fh]
def xL{F G:Nat->α}{v:α}(hv:G k=v)(h:∀j,j≠k->F j=G j):(fh n F).set k v=fh n G:=by
 refine List.ext_getElem? fun j=>?_;rw[List.getElem?_set,fx];by_cases hj:j<n
 ·rw[gj hj,gj hj];by_cases e:k=j
  ·subst e;rw[if_pos rfl,if_pos hj,hv]
  ·rw[if_neg e,h j fun h=>e h.symm]
 ·rw[qP (by rw[fx];omega),qP (by rw[fx];omega)];split
  ·rw[if_neg om]
  ·rfl
def vv(l:LI):LA:=fh 13 fun r=>T.i (cnt l r)
def vw(l:LI):LA:=fh 4 fun s=>T.i (num l s)
def xM(l:LI):LA:=fh 4 fun s=>T.v (.int .u64 (lD l s))
def Fo(l:LI)(c:Int)(r:Nat):cnt (l++[c]) r=cnt l r+if rk c=r then 1 else 0:=by
 rw[cnt,List.countP_append,cnt,List.countP_singleton];simp
def Fp(l:LI)(c:Int)(s:Nat):num (l++[c]) s=num l s+if st c=s then 1 else 0:=by
 rw[num,List.countP_append,num,List.countP_singleton];simp
def Rs(l:LI)(c:Int)(s:Nat):lD (l++[c]) s=if st c=s then lD l s|||2^rk c else lD l s:=by
 rw[lD,List.filter_append,vu,qG];by_cases h:st c=s
 ·rw[if_pos h];have:List.filter (fun c=>st c==s) [c]=[c]:=by simp[h]
  rw[this,List.map_cons,List.map_nil,Jw];rfl
 ·rw[if_neg h];have:List.filter (fun c=>st c==s) [c]=[]:=by simp[h]
  rw[this];simp[lD,vu]
def aJ4(l:LI)(c:Int):j0 (l++[c])=j0 l|||2^rk c:=by
 rw[j0,vu,qG,List.map_cons,List.map_nil,Jw];rfl
def Rt(h:∀x∈l,0<=x/\x<52):∀x∈vu l,x<13:=by
 intro x hx;obtain⟨c,hc,rfl⟩:=qN.1 hx;have:=tL (h c hc);omega
def Ru(h:∀x∈l,0<=x/\x<52):nH (j0 l) (has l):=by
 refine⟨Jz (Rt h) om,fun r _=>?_⟩;rw[j0,Jy,vu,List.any_map,has];rfl
def Rv(h:∀x∈l,0<=x/\x<52)(s:Nat):nH (lD l s) (fg l s):=by
 refine⟨Jz (Rt fun x hx=>h x (qV.1 hx).1) om,fun r _=>?_⟩;rw[lD,Jy,vu,List.any_map,fg,List.any_filter];rfl
def aJ5(l:LI)(c:Int):(vv l).set (rk c) (T.i (cnt l (rk c)+1:Nat))=vv (l++[c]):=by
 refine xL ?_ fun j hj=>?_
 ·rw[Fo,if_pos rfl]
 ·rw[Fo,if_neg fun h=>hj h.symm,Nat.add_zero]
def aJ6(l:LI)(c:Int):(vw l).set (st c) (T.i (num l (st c)+1:Nat))=vw (l++[c]):=by
 refine xL ?_ fun j hj=>?_
 ·rw[Fp,if_pos rfl]
 ·rw[Fp,if_neg fun h=>hj h.symm,Nat.add_zero]
def aJ7(l:LI)(c:Int):(xM l).set (st c) (T.v (.int .u64 (lD l (st c)|||2^rk c:Nat)))=xM (l++[c]):=by
 refine xL ?_ fun j hj=>?_
 ·rw[Rs,if_pos rfl]
 ·rw[Rs,if_neg fun h=>hj h.symm]
def Rw(l:LI)(r:Nat):cnt l r<=l.length:=List.countP_le_length
def Fq(l:LI)(r:Nat):num l r<=l.length:=List.countP_le_length
def JY(l:LI):(vv l).length=13:=fx
def aJ8(l:LI):(vw l).length=4:=fx
def JZ(l:LI):(xM l).length=4:=fx
def jE(l:LI)(i:Nat):Option Nat:=(List.range i).find? fun s=>decide (5<=num l s)
def Ry(l:LI)(i:Nat):jE l (i+1)=(jE l i).or (if 5<=num l i then some i else none):=by
 rw[jE,List.range_succ,List.find?_append,jE];by_cases h:5<=num l i<;>simp[h]
def Rz{s:Nat}(h:jE l i=some s):s<i/\5<=num l s:=by
 have h1:=List.mem_of_find?_eq_some h;have h2:=List.find?_some h;exact⟨sU h1,by simpa using h2⟩
def RA(M cat:Nat)(m:Nat->Bool)(hM:nH M m)(hc:cat<=8)(hlen:5<=(cA m).length):
  Pr 157 [.i cat,.v (.int .u64 M),.sh 1 []] (.i (aS cat ((cA m).take 5))):=BN M cat m [] hM hc sA sA (sU hlen)
def sH(l:LI):dn l=(jE l 4).map (fg l):=rfl
def jF(l:LI):Option Nat->Int
 |some s=>(aS 5 ((cA (fg l s)).take 5):Nat)
 |none=> -1
def View.eq{s:Sc}{cat:Nat}{ks:LN}(h:View l s cat ks):kW (has l) (dn l) s=aS cat ks:=by
 cases h with
 |v8 g ks h1 h2=>simp[kW,h1,h2]
 |v7 r h1 h2=>simp[kW,h1,h2]
 |v6 t p h1 h2 h3 h4=>simp[kW,h1,h2,h3,h4]
 |v5 g h1 h2 h3 h4=>
  rw[h4]at h1;rcases h3 with h3|h3
  ·simp[kW,h1,h2,h3,h4]
  ·cases ht:s.three<;>simp[kW,h1,h2,h3,h4,ht]
 |v4 ks h1 h2 h3 h4=>rcases h3 with h3|h3
                     ·simp[kW,h1,h2,h3,h4]
                     ·cases ht:s.three<;>simp[kW,h1,h2,h3,h4,ht]
 |v3 t h1 h2 h3 h4 h5=>simp[kW,h1,h2,h3,h4,h5]
 |v2 p q h1 h2 h3 h4 h5 h6=>simp[kW,h1,h2,h3,h4,h5,h6]
 |v1 p h1 h2 h3 h4 h5 h6=>simp[kW,h1,h2,h3,h4,h5,h6]
 |v0 h1 h2 h3 h4 h5=>simp[kW,h1,h2,h3,h4,h5]
def aJ9:(scan c).two=none->(scan c).second=none:=by
 have key:∀(L:LN) (s:Sc),(s.two=none->s.second=none)->(L.foldl (kX c) s).two=none->(L.foldl (kX c) s).second=none:=by
  intro L;induction L with
  |nil=>intro s h;exact h
  |cons r L ih=>
   intro s h;rw[List.foldl_cons];refine ih _ ?_;unfold kX;split
   ·exact h
   ·split
    ·exact h
    ·split
     ·intro h2;cases h2
     ·split
      ·rename_i h1 h2;intro h3;exact absurd ⟨h2.1,h3⟩ h1
      ·exact h
 exact key _ _ fun _=>rfl
def J0{M:Nat}{m:Nat->Bool}(hM:nH M m)(hr:r<13):∃M':Nat,zV .u64 (M:Int) (sX .u64 1 (r:Int))=(M':Int)/\nH M' (fun x=>m x&&x !=r):=by
 have BO:2^r<2^64:=Nat.pow_lt_pow_right om om;refine⟨_,by rw[E2 om,QK hM.vr BO],Nat.lt_of_le_of_lt Nat.and_le_left hM.1,fun k hk=>?_⟩;rw[Nat.testBit_and,hM.2 k hk];have e:2^64-1-2^r=2^64-(2^r+1):=om;rw[e,Nat.testBit_two_pow_sub_succ BO,Nat.testBit_two_pow];by_cases h:r=k
 ·subst h;simp
 ·have h':¬k=r:=fun h1=>h h1.symm;simp[h,h',show k<64 by omega]
def aK0{M p q:Nat}{m:Nat->Bool}(hM:nH M m)(hp:p<13)(hq:q<13):∃M':Nat,zV .u64 (M:Int) (wa .u64 (sX .u64 1 (p:Int)) (sX .u64 1 (q:Int)))=(M':Int)/\nH M' (fun x=>m x&&x !=p&&x !=q):=by
 have BO:2^p<2^64:=Nat.pow_lt_pow_right om om;have RB:2^q<2^64:=Nat.pow_lt_pow_right om om;have RC:=Nat.or_lt_two_pow BO RB;refine⟨_,by rw[E2 om,E2 om,QJ BO RB,QK hM.vr RC],Nat.lt_of_le_of_lt Nat.and_le_left hM.1,fun k hk=>?_⟩;rw[Nat.testBit_and,hM.2 k hk];have e:2^64-1-(2^p|||2^q)=2^64-((2^p|||2^q)+1):=om;rw[e,Nat.testBit_two_pow_sub_succ RC,Nat.testBit_or,Nat.testBit_two_pow,Nat.testBit_two_pow];by_cases h:p=k
 ·subst h;simp
 ·by_cases h2:q=k
  ·subst h2;simp
  ·have h':¬k=p:=fun h1=>h h1.symm;have bi:¬k=q:=fun h1=>h2 h1.symm;have e1:(k !=p)=true:=(by simp[h']);have e2:(k !=q)=true:=(by simp[bi]);show _=(m k&&k !=p&&k !=q);rw[decide_eq_false h,decide_eq_false h2,dt (k<64),e1,e2];simp
def oI:Option Nat->Int
 |some r=>r
 |none=> -1
def nI(c:Nat->Nat)(j:Nat):Sc:=(mY.take j).foldl (kX c) ⟨none,none,none,none⟩
def aK1(h:j<13):nI c (j+1)=kX c (nI c j) (12-j):=by
 rw[nI,bG (Fm h),List.foldl_append];rfl
def aK2{o:Option Nat}:oI o<0↔o=none:=by
 cases o with
 |none=>simp[oI]
 |some r=>simp[oI]
def aK3(c:Nat->Nat)(s:Sc)(r:Nat):
  oI (kX c s r).four=(if c r=4/\oI s.four<0 then(r:Int)else oI s.four)∧
  oI (kX c s r).three=(if¬(c r=4/\oI s.four<0)/\3<=c r/\oI s.three<0 then(r:Int)else oI s.three)∧
  oI (kX c s r).two=(if¬(c r=4/\oI s.four<0)/\¬(3<=c r/\oI s.three<0)/\2<=c r/\oI s.two<0 then(r:Int)else oI s.two)∧
  oI (kX c s r).second=(if¬(c r=4/\oI s.four<0)/\¬(3<=c r/\oI s.three<0)/\¬(2<=c r/\oI s.two<0)/\2<=c r/\oI s.second<0 then(r:Int)else oI s.second):=by
 simp only[aK2];by_cases h:c r=4/\s.four=none
 ·rw[show kX c s r={s with four:=some r} from if_pos h];exact⟨by rw[if_pos h];rfl,by rw[if_neg fun k=>k.1 h],by rw[if_neg fun k=>k.1 h],by rw[if_neg fun k=>k.1 h]⟩
 ·by_cases h2:3<=c r/\s.three=none
  ·rw[show kX c s r={s with three:=some r} from(if_neg h).trans (if_pos h2)];exact⟨by rw[if_neg h],by rw[if_pos ⟨h,h2⟩];rfl,by rw[if_neg fun k=>k.2.1 h2],by rw[if_neg fun k=>k.2.1 h2]⟩
  ·by_cases h3:2<=c r/\s.two=none
   ·rw[show kX c s r={s with two:=some r} from((if_neg h).trans (if_neg h2)).trans (if_pos h3)];exact⟨by rw[if_neg h],by rw[if_neg fun k=>h2 k.2],by rw[if_pos ⟨h,h2,h3⟩];rfl,by rw[if_neg fun k=>k.2.2.1 h3]⟩
   ·by_cases h4:2<=c r/\s.second=none
    ·rw[show kX c s r={s with second:=some r} from(((if_neg h).trans (if_neg h2)).trans (if_neg h3)).trans (if_pos h4)];exact⟨by rw[if_neg h],by rw[if_neg fun k=>h2 k.2],by rw[if_neg fun k=>h3 k.2.2],by rw[if_pos ⟨h,h2,h3,h4⟩];rfl⟩
    ·rw[show kX c s r=s from(((if_neg h).trans (if_neg h2)).trans (if_neg h3)).trans (if_neg h4)];exact⟨by rw[if_neg h],by rw[if_neg fun k=>h2 k.2],by rw[if_neg fun k=>h3 k.2.2],by rw[if_neg fun k=>h4 k.2.2.2]⟩
theorem RD(l:LI)(hl:ce l)(hlen:5<=l.length/\l.length<=9):Pr 101 [ints l,.b true] (.i (gP l)):=by
 refine aj0 sA (ab ?_);refine lN (fun i=>St.of [(1,.t (.b true)),(5,.own 85),(6,.own 86),(7,.own 87),(8,.t (.v (.int .u64 (j0 (l.take i))))),(22,.t (ints l)),(23,.t (.i l.length)),(24,.t (.i i))] [(85,.box (vv (l.take i))),(86,.box (xM (l.take i))),(87,.box (vw (l.take i)))]) (fun i=>i<=l.length) (fun i=>l.length-i) 0 (aj.o _ _ [some 5,some 6,some 7] ?_ ?_) (fun i hi R hn hr he=>?_)
 ·refine ij ?_;exact .inr (.inl rfl)
 ·refine rB (rB (rB trivial))
 ·rcases qH i l.length with h9|h9
  ·obtain⟨c,hx⟩:∃c,l[i]? =some c:=⟨_,qB h9⟩;have gA:=hl.2 c (qE hx);have oR:=tL gA;have hs4:=xB c;have e4:uj .i64 c 2=((rk c:Nat):Int):=by rw[aC8,rk];omega
   have e3:rb .i64 c 3=((st c:Nat):Int):=by rw[aC9 gA.1 om,st];omega
   have hA:(vv (l.take i))[rk c]? =some (T.i (cnt (l.take i) (rk c))):=gj oR;have hB:(xM (l.take i))[st c]? =some (T.v (.int .u64 (lD (l.take i) (st c)))):=gj hs4;have hC:(vw (l.take i))[st c]? =some (T.i (num (l.take i) (st c))):=gj hs4;have hlt:(l.take i).length<=9:=by rw[qL];omega
   have br:=Rw (l.take i) (rk c);have hnl:=Fq (l.take i) (st c);have hw1:IntKind.i64.wrap ((cnt (l.take i) (rk c):Int)+1)=((cnt (l.take i) (rk c)+1:Nat):Int):=by rw[wrap64 om om];omega
   have dr:IntKind.i64.wrap ((num (l.take i) (st c):Int)+1)=((num (l.take i) (st c)+1:Nat):Int):=by rw[wrap64 om om];omega
   have g_:wa .u64 ((lD (l.take i) (st c):Nat):Int) (sX .u64 1 ((rk c:Nat):Int))=((lD (l.take i) (st c)|||2^rk c:Nat):Int):=JA om (Rv (fun x h=>hl.2 x (rU h)) _).vr;have hm2:wa .u64 ((j0 (l.take i):Nat):Int) (sX .u64 1 ((rk c:Nat):Int))=((j0 (l.take i)|||2^rk c:Nat):Int):=JA om (Ru (fun x h=>hl.2 x (rU h))).vr;refine aB (ab3 hx (dt ((i:Int)<(l.length:Int))) e4 e3 hA hB hC hw1 dr @aJ5 @aJ6 g_ hm2 @aJ7 @JY @aJ8 @JZ) ?_;refine hn _ (i+1) (aq [85,86,87] (ay (aw h9 om) (bG hx) @aJ4) (hr:=?_))
   ·rw[bG hx];exact rB (rB (rB trivial))
  ·refine aa (dF ((i:Int)<(l.length:Int))) ?_;refine he _ _ ?_;rw[qQ h9];have RE:vw l=[T.i (num l 0),T.i (num l 1),T.i (num l 2),T.i (num l 3)]:=rfl;refine aa RE ?_;have hM:=Ru hl.2;have J1:=fun s=>Rv hl.2 s;refine lN (fun i=>St.of [(1,.t (.b true)),(5,.own 85),(6,.own 86),(8,.t (.v (.int .u64 (j0 l)))),(11,.t (.i (jF l (jE l i)))),(55,.t (.agg (vw l))),(56,.t (.i i))] [(85,.box (vv l)),(86,.box (xM l))]) (fun i=>i<=4/\∀s,jE l i=some s->dU (fg l s)=none) (fun i=>4-i) 0 (aj.o _ _ [some 85,some 86] ?_ ?_) (fun i hi R hn hr he=>?_) (hi:=⟨om,fun s h=>by cases h⟩)
   ·refine bZ RE ?_;exact .inr (.inl rfl)
   ·exact rB (rB trivial)
   ·obtain⟨hi,hst⟩:=hi;rcases qH i 4 with h8|h8
    ·have hC:(vw l)[i]? =some (T.i (num l i)):=gj h8;have hB:(xM l)[i]? =some (T.v (.int .u64 (lD l i))):=gj h8;have hnl:=Fq l i;rcases qH (num l i) 5 with h5|h5
     ·refine aa (ay (dt ((i:Int)<4)) hC (dt ((num l i:Int)<5))) ?_;have eK:jE l (i+1)=jE l i:=(by rw[Ry,if_neg om,Option.or_none]);refine⟨om,om,fun _=>?_,fun h=>absurd h om⟩;exact hn _ (i+1) (aq [85,86] (ah (aw h8 om) eK)) ⟨om,by rw[eK];exact hst⟩
     ·simp -implicitDefEqProofs only[c8,go_sem,dt ((i:Int)<4),hC,hB,JZ,dF ((num l i:Int)<5)];refine⟨om,om,fun h=>absurd h om,fun _=>⟨om,om,om,?_⟩⟩;have hfn:jE l i=none:=by
       cases hf:jE l i with
       |none=>rfl
       |some s=>
        have:=Rz hf;have:=Qx hlen.2 this.2 h5;omega
      have eK:jE l (i+1)=some i:=(by rw[Ry,hfn,if_pos h5,Option.none_or]);have jg:dn l=some (fg l i):=by
       have:jE l 4=some i:=by
        have:=Rz eK;refine JV (j:=i) (List.getElem?_range h8) (sU h5) fun k y hk hy=>?_;rw[List.getElem?_range om]at hy;cases hy;have:=List.find?_eq_none.1 hfn k (sU hk);simpa using this
       rw[sH,this];rfl
      cases hs:dU (fg l i)with
      |some ks=>
       have j5:iA 8 (fg l i)=((aS 8 ks:Nat):Int):=(by rw[iA,hs]);refine Px (sG (lD l i) 8 (fg l i) (J1 i) om) (aa (ah j5 (dt (((aS 8 ks:Nat):Int)≥ 0))) ?_);refine hr _ ?_;have hv:gP l=aS 8 ks:=View.eq (.v8 _ _ jg hs);exact aa hv trivial
      |none=>
       have j5:iA 8 (fg l i)= -1:=(by rw[iA,hs]);refine Px (sG (lD l i) 8 (fg l i) (J1 i) om) (aB (bf j5 (dF ((-1:Int)≥ 0)) hB @JZ) ?_);have hlt:=Jm hl h5;refine bz.p (RA (lD l i) 5 (fg l i) (J1 i) om om) [] rfl Tryz.call157 ?_ ?_
       ·refine ey ?_;exact⟨1,rfl⟩
       refine ab ?_;exact hn _ (i+1) (aq [85,86] (bf (aw h8 om) eK @jF.eq_1 @jF.eq_2)) ⟨om,by rw[eK];intro s h;cases h;exact hs⟩
    ·refine aa (dF ((i:Int)<4)) ?_;refine he _ _ ?_;have BP:i=4:=om;subst BP;have zd:(dn l).bind dU=none:=by
      rw[sH];cases hf:jE l 4 with
      |none=>rfl
      |some s=>exact hst s hf
     refine ab ?_;refine lN (fun j=>St.of [(1,.t (.b true)),(5,.own 85),(8,.t (.v (.int .u64 (j0 l)))),(11,.t (.i (jF l (jE l 4)))),(15,.t (.i (oI (nI (cnt l) j).four))),(16,.t (.i (oI (nI (cnt l) j).three))),(17,.t (.i (oI (nI (cnt l) j).two))),(18,.t (.i (oI (nI (cnt l) j).second))),(19,.t (.i (12-(j:Int))))] [(85,.box (vv l))]) (fun j=>j<=13) (fun j=>13-j) 0 (aj.o _ _ [some 85] ?_ ?_) (fun j hj R hn hr he=>?_)
     ·refine ij ?_;exact⟨.inr (.inl rfl),.inr (.inl rfl),.inr (.inl rfl),.inr (.inl rfl),.inr (.inl rfl)⟩
     ·exact rB trivial
     ·rcases qH j 13 with h7|h7
      ·have ej:(12-(j:Int))=((12-j:Nat):Int):=om;have hA:(vv l)[12-j]? =some (T.i (cnt l (12-j))):=gj om;have qk:IntKind.i64.wrap (((12-j:Nat):Int)-1)=12-((j+1:Nat):Int):=by rw[wrap64 om om];omega
       obtain⟨J3,oS,ze,tQ⟩:=aK3 (cnt l) (nI (cnt l) j) (12-j);rw[←aK1 h7]at J3 oS ze tQ;have br:=oL hl (12-j);rcases Decidable.em (cnt l (12-j)=4)with h6|h6
       ·have hb4:(((cnt l (12-j):Nat):Int)==4)=true:=by rw[beq_iff_eq];omega
        refine aB (c5 ej (dt (((12-j:Nat):Int)≥ 0)) hA @JY hb4 qk) ?_
        repeat' (first|apply And.intro|intro _)
        all_goals refine hn _ (j+1) (aj.of _ _ [some 85] sA sA ?_ (rB trivial))
        all_goals
         refine ij ?_;refine⟨.inr (.inl ?_),.inr (.inl ?_),.inr (.inl ?_),.inr (.inl ?_)⟩
         ·rw[J3];split<;>first|rfl|(exfalso;omega)
         ·rw[oS];split<;>first|rfl|(exfalso;omega)
         ·rw[ze];split<;>first|rfl|(exfalso;omega)
         ·rw[tQ];split<;>first|rfl|(exfalso;omega)
       ·have hb4:(((cnt l (12-j):Nat):Int)==4)=false:=by rw[beq_eq_false_iff_ne];omega
        refine aB (c5 ej (dt (((12-j:Nat):Int)≥ 0)) hA @JY hb4 qk) ?_
        repeat' (first|apply And.intro|intro _)
        all_goals refine hn _ (j+1) (aj.of _ _ [some 85] sA sA ?_ (rB trivial))
        all_goals
         refine ij ?_;refine⟨.inr (.inl ?_),.inr (.inl ?_),.inr (.inl ?_),.inr (.inl ?_)⟩
         ·rw[J3];split<;>first|rfl|(exfalso;omega)
         ·rw[oS];split<;>first|rfl|(exfalso;omega)
         ·rw[ze];split<;>first|rfl|(exfalso;omega)
         ·rw[tQ];split<;>first|rfl|(exfalso;omega)
      ·refine aa (dF (12-(j:Int)≥ 0)) ?_;refine he _ _ ?_;have JX:j=13:=om;subst JX;have hS:oK (cnt l) (nI (cnt l) 13):=By (oL hl);have J4:=aJ9 (c:=cnt l);have hval:∀{cat ks},View l (nI (cnt l) 13) cat ks->gP l=aS cat ks/\ks.length=5:=fun hv=>⟨View.eq hv,Bu hl hlen.1 hS hv⟩
       change (nI (cnt l) 13).two=none->(nI (cnt l) 13).second=none at J4
       generalize nI (cnt l) 13=s at hS J4 hval;cases h4:s.four with
       |some r=>
        obtain⟨oR,_⟩:=hS.f1 r h4;obtain⟨hv,db⟩:=hval (.v7 r zd h4);obtain⟨M',hM1,hM2⟩:=J0 hM oR;refine aB (bf @oI.eq_1 @oI.eq_2 (dt ((r:Int)≥ 0)) hM1) ?_;have hk:=BN M' 7 _ [r,r,r,r] hM2 om sA (by simp[oR]) (by simp[qL]at db;simp;omega);simp only[eW,List.map_cons,List.map_nil]at hk;refine Px hk (ab ?_) (au:=[125]);rw[hv]
       |none=>
        have g_:decide ((-1:Int)≥ 0)=false:=rfl;cases h3:s.three with
        |some t=>
         obtain⟨J5,_⟩:=hS.t1 h4 t h3;cases h2:s.two with
         |some p=>
          obtain⟨zf,_⟩:=hS.p1 h4 p h2;obtain⟨hv,db⟩:=hval (.v6 t p zd h4 h3 h2);refine aa (bM @oI.eq_1 @oI.eq_2 (dt ((t:Int)≥ 0)) (dt ((p:Int)≥ 0)) g_) ?_;have hk:=Fl 6 [t,t,t,p,p] om sA (by simp[J5,zf]);simp only[eW,List.map_cons,List.map_nil]at hk;refine Px hk (ab ?_) (au:=[139]);rw[hv]
         |none=>
          cases hf:jE l 4 with
          |some s5=>
           have jg:dn l=some (fg l s5):=by rw[sH,hf];rfl
           obtain⟨hv,db⟩:=hval (.v5 _ zd h4 (.inr h2) jg);refine aa (dZ @oI.eq_1 @oI.eq_2 g_ @jF.eq_1 @jF.eq_2 (decide_eq_true (show((aS 5 ((cA (fg l s5)).take 5):Nat):Int)≥ 0 by omega)) (dt ((t:Int)≥ 0))) ?_;rw[hv]
          |none=>
           have jg:dn l=none:=by rw[sH,hf];rfl
           refine aa (c5 @oI.eq_1 @oI.eq_2 g_ @jF.eq_1 @jF.eq_2 (dt ((t:Int)≥ 0))) ?_;cases j6:dU (has l)with
           |some ks=>
            have j5:iA 4 (has l)=((aS 4 ks:Nat):Int):=(by rw[iA,j6]);refine Px (sG (j0 l) 4 (has l) hM om) (aa (ah j5 (dt (((aS 4 ks:Nat):Int)≥ 0))) ?_);obtain⟨hv,db⟩:=hval (.v4 ks jg h4 (.inr h2) j6);rw[hv]
           |none=>
            have j5:iA 4 (has l)= -1:=(by rw[iA,j6]);obtain⟨hv,db⟩:=hval (.v3 t jg h4 h2 j6 h3);obtain⟨M',hM1,hM2⟩:=J0 hM J5;refine Px (sG (j0 l) 4 (has l) hM om) (aB (bf j5 g_ (dt ((t:Int)≥ 0)) hM1) ?_);have hk:=BN M' 3 _ [t,t,t] hM2 om sA (by simp[J5]) (by simp[qL]at db;simp;omega);simp only[eW,List.map_cons,List.map_nil]at hk;refine Px hk (ab ?_) (au:=[161]);rw[hv]
        |none=>
         cases h2:s.two with
         |some p=>
          obtain⟨zf,_⟩:=hS.p1 h4 p h2;cases h1:s.second with
          |some q=>
           obtain⟨RF,_⟩:=hS.q1 h4 h3 p h2 q h1;cases hf:jE l 4 with
           |some s5=>
            have jg:dn l=some (fg l s5):=by rw[sH,hf];rfl
            obtain⟨hv,db⟩:=hval (.v5 _ zd h4 (.inl h3) jg);refine aa (jz @oI.eq_1 @oI.eq_2 g_ @jF.eq_1 @jF.eq_2 (decide_eq_true (show((aS 5 ((cA (fg l s5)).take 5):Nat):Int)≥ 0 by omega)) (dt ((p:Int)≥ 0)) (dt ((q:Int)≥ 0))) ?_;rw[hv]
           |none=>
            have jg:dn l=none:=by rw[sH,hf];rfl
            refine aa (dZ @oI.eq_1 @oI.eq_2 g_ @jF.eq_1 @jF.eq_2 (dt ((p:Int)≥ 0)) (dt ((q:Int)≥ 0))) ?_;cases j6:dU (has l)with
            |some ks=>
             have j5:iA 4 (has l)=((aS 4 ks:Nat):Int):=(by rw[iA,j6]);refine Px (sG (j0 l) 4 (has l) hM om) (aa (ah j5 (dt (((aS 4 ks:Nat):Int)≥ 0))) ?_);obtain⟨hv,db⟩:=hval (.v4 ks jg h4 (.inl h3) j6);rw[hv]
            |none=>
             have j5:iA 4 (has l)= -1:=(by rw[iA,j6]);obtain⟨hv,db⟩:=hval (.v2 p q jg h4 h3 j6 h2 h1);obtain⟨M',hM1,hM2⟩:=aK0 hM zf RF;refine Px (sG (j0 l) 4 (has l) hM om) (aB (bM j5 g_ (dt ((p:Int)≥ 0)) (dt ((q:Int)≥ 0)) hM1) ?_);have hk:=BN M' 2 _ [p,p,q,q] hM2 om sA (by simp[zf,RF]) (by simp[qL]at db;simp;omega);simp only[eW,List.map_cons,List.map_nil]at hk;refine V hk (ab ?_) (au:=[177]);rw[hv]
          |none=>
           cases hf:jE l 4 with
           |some s5=>
            have jg:dn l=some (fg l s5):=by rw[sH,hf];rfl
            obtain⟨hv,db⟩:=hval (.v5 _ zd h4 (.inl h3) jg);refine aa (dZ @oI.eq_1 @oI.eq_2 g_ @jF.eq_1 @jF.eq_2 (decide_eq_true (show((aS 5 ((cA (fg l s5)).take 5):Nat):Int)≥ 0 by omega)) (dt ((p:Int)≥ 0))) ?_;rw[hv]
           |none=>
            have jg:dn l=none:=by rw[sH,hf];rfl
            refine aa (c5 @oI.eq_1 @oI.eq_2 g_ @jF.eq_1 @jF.eq_2 (dt ((p:Int)≥ 0))) ?_;cases j6:dU (has l)with
            |some ks=>
             have j5:iA 4 (has l)=((aS 4 ks:Nat):Int):=(by rw[iA,j6]);refine Px (sG (j0 l) 4 (has l) hM om) (aa (ah j5 (dt (((aS 4 ks:Nat):Int)≥ 0))) ?_);obtain⟨hv,db⟩:=hval (.v4 ks jg h4 (.inl h3) j6);rw[hv]
            |none=>
             have j5:iA 4 (has l)= -1:=(by rw[iA,j6]);obtain⟨hv,db⟩:=hval (.v1 p jg h4 h3 j6 h2 h1);obtain⟨M',hM1,hM2⟩:=J0 hM zf;refine Px (sG (j0 l) 4 (has l) hM om) (aB (bf j5 g_ (dt ((p:Int)≥ 0)) hM1) ?_);have hk:=BN M' 1 _ [p,p] hM2 om sA (by simp[zf]) (by simp[qL]at db;simp;omega);simp only[eW,List.map_cons,List.map_nil]at hk;refine Px hk (ab ?_) (au:=[188]);rw[hv]
         |none=>
          have h1:=J4 h2;cases hf:jE l 4 with
          |some s5=>
           have jg:dn l=some (fg l s5):=by rw[sH,hf];rfl
           obtain⟨hv,db⟩:=hval (.v5 _ zd h4 (.inl h3) jg);refine aa (dZ @oI.eq_1 @oI.eq_2 h1 g_ @jF.eq_1 @jF.eq_2 (decide_eq_true (show((aS 5 ((cA (fg l s5)).take 5):Nat):Int)≥ 0 by omega))) ?_;rw[hv]
          |none=>
           have jg:dn l=none:=by rw[sH,hf];rfl
           refine aa (c5 @oI.eq_1 @oI.eq_2 h1 g_ @jF.eq_1 @jF.eq_2) ?_;cases j6:dU (has l)with
           |some ks=>
            have j5:iA 4 (has l)=((aS 4 ks:Nat):Int):=(by rw[iA,j6]);refine Px (sG (j0 l) 4 (has l) hM om) (aa (ah j5 (dt (((aS 4 ks:Nat):Int)≥ 0))) ?_);obtain⟨hv,db⟩:=hval (.v4 ks jg h4 (.inl h3) j6);rw[hv]
           |none=>
            have j5:iA 4 (has l)= -1:=(by rw[iA,j6]);obtain⟨hv,db⟩:=hval (.v0 jg h4 h3 j6 h2);refine Px (sG (j0 l) 4 (has l) hM om) (aa (ah j5 g_) ?_);refine bz.p (RA (j0 l) 0 (has l) hM om (by rw[qL]at db;omega)) [] rfl Tryz.call157 ?_ ?_
            ·refine ey ?_;exact⟨1,rfl⟩
            refine ab ?_;rw[hv]
end
def aK4:=cO Tryz.func36 (H:=⟨[],[28,30]⟩)
def aK5:=cO Tryz.func74 (H:=⟨[],[13,14]⟩)
def RG:CC:=
 (.seq (.aN [.o (.move 8 (ci 0))])
 ((.seq (.aN [mv 25 0,.o (.ep 26 (sl 25)),fl 27 0 26,fl 28 0 27,fl 29 0 28,l1 30 29,mv 31 1,.o (.idx 32 5 (sl 30) (sl 31)),ln 33 5 32,.o (.alloc 9 [.v (.int .i64 0),.v (.int .i64 0),.v (.int .i64 0),.v (.int .i64 0),.zz]),.o (.store 5 (sl 9) (sl 33))])
 ((.seq (.seq (.aN [fl 34 0 9,l1 35 34])
 ((.block 0 (.seq (.aN [.o (.bin 37 .eql (sl 35) (ci 2)),mv 36 37])
 ((.cond (sl 36) (.seq (.aN [.o (.move 10 (ci 0))])
 ((.seq (.seq (.aN [mv 38 2,.o (.iJ 39 (sl 38)),.o (.move 40 (ci 0))])
 ((.block 1 (.loop (.seq (.aN [.o (.bin 41 .lss (sl 40) (sl 39))])
 ((.seq (.cond (sl 41) .skip
 (.exit 1))
 ((.seq (.block 2 (.seq (.aN [mv 42 40,ix 43 38 40,l1 44 43,mv 11 42,mv 12 44])
 ((.seq (.aN [mv 45 0,.o (.ep 46 (sl 45)),fl 47 3 46,l1 48 47,.o (.bin 49 .eql (sl 48) (ci 0))])
 ((.cond (sl 49) (.draw [] [kr (mv 50 10),kr (mv 51 12),kr (mv 52 0),kr (.o (.ep 53 (sl 52))),kr (fl 54 0 53),kr (ln 55 3 54),kr (mv 56 1),kr (mv 57 0),kr (.o (.ep 58 (sl 57))),kr (fl 59 4 58),kr (l1 60 59),kr (mv 61 11),kr (.o (.call (some 62) (cf 141) [(sl 55),(sl 56),(sl 60),(sl 61)])),kr (.o (.bin 63 .mul (sl 51) (sl 62))),kr (.o (.bin 64 .add (sl 50) (sl 63))),kr (mv 10 64)])
 (.draw [] [kr (mv 65 10),kr (mv 66 12),kr (mv 67 0),kr (.o (.ep 68 (sl 67))),kr (fl 69 0 68),kr (ln 70 3 69),kr (mv 71 1),kr (mv 72 11),kr (mv 73 0),kr (.o (.ep 74 (sl 73))),kr (fl 75 4 74),kr (l1 76 75),kr (.o (.call (some 77) (cf 141) [(sl 70),(sl 71),(sl 72),(sl 76)])),kr (.o (.bin 78 .mul (sl 66) (sl 77))),kr (.o (.bin 79 .sub (sl 65) (sl 78))),kr (mv 10 79)])))))))
 ((.aN [.o (.bin 80 .add (sl 40) (ci 1)),mv 40 80])))))))))))
 ((.seq (.aN [mv 81 10,mv 82 3,.o (.call (some 83) (cf 71) [(ci 60),(sl 82)]),.o (.bin 84 .mul (sl 81) (sl 83)),mv 8 84])
 (.ret))))))
 (.seq (.aN [mv 86 0,.o (.ep 87 (sl 86)),fl 88 3 87,l1 89 88,.o (.bin 90 .eql (sl 35) (sl 89)),mv 85 90])
 ((.cond (sl 85) (.seq (.aN [.o (.move 13 (ci 0)),.o (.move 14 (ci 0))])
 ((.seq (.seq (.aN [fl 91 4 9,l1 92 91,.o (.iJ 93 (sl 92)),.o (.move 94 (ci 0))])
 ((.block 3 (.loop (.seq (.aN [.o (.bin 95 .lss (sl 94) (sl 93))])
 ((.seq (.cond (sl 95) .skip
 (.exit 3))
 ((.seq (.block 4 (.seq (.aN [mv 96 94,ix 97 92 94,l1 98 97,mv 15 96,mv 16 98])
 ((.seq (.aN [mv 99 0,mv 100 16,mv 101 2,mv 102 3,.o (.bin 103 .sub (sl 102) (ci 1)),.o (.call (some 104) (cf 81) [(sl 99),(sl 100),(sl 101),(sl 103)]),mv 17 104])
 ((.seq (.aN [mv 105 15,.o (.bin 106 .eql (sl 105) (ci 0)),mv 107 106,.g 107 false (some 108) (.move 108 (sl 17)),.g 107 false (some 109) (.move 109 (sl 14)),.g 107 false (some 110) (.bin 110 .gtr (sl 108) (sl 109)),.o (.pick 111 (sl 107) (cb true) (sl 110))])
 ((.cond (sl 111) (.aN [mv 112 15,mv 113 17,mv 13 112,mv 14 113])
 .skip))))))))
 ((.aN [.o (.bin 114 .add (sl 94) (ci 1)),mv 94 114])))))))))))
 ((.seq (.aN [fl 115 4 9,l1 116 115,.o (.iJ 117 (sl 116)),.o (.make 118 [.v (.int .i64 0)] 8 (sl 117) (sl 117)),mv 18 118])
 ((.seq (.aN [mv 119 18,mv 120 13,ix 121 119 120,.o (.store 1 (sl 121) (ci 60))])
 ((.seq (.weak (.draw [] [kr (mv 122 0),kr (.o (.ep 123 (sl 122))),kr (fl 124 8 123),kr (fl 125 1 124),kr (l1 126 125),kr (mv 127 0),kr (.o (.ep 128 (sl 127))),kr (fl 129 5 128),kr (l1 130 129),kr (mv 131 1),kr (ix 132 130 131),kr (l1 133 132),kr (mv 134 0),kr (.o (.ep 135 (sl 134))),kr (fl 136 4 135),kr (l1 137 136),kr (.o (.bin 138 .add (sl 133) (sl 137))),kr (mv 139 18),kr (ix 140 126 138),(kH,.o (.store 1 (sl 140) (sl 139)))]))
 ((.seq (.weak (.aN [mv 141 14,.o (.bin 142 .mul (sl 141) (ci 60)),mv 8 142]))
 (.ret))))))))))))
 .skip)))))))))
 ((.seq (.aN [.o (.move 19 (ci 0))])
 ((.seq (.seq (.aN [fl 143 4 9,l1 144 143,.o (.iJ 145 (sl 144)),.o (.move 146 (ci 0))])
 ((.block 5 (.loop (.seq (.aN [.o (.bin 147 .lss (sl 146) (sl 145))])
 ((.seq (.cond (sl 147) .skip
 (.exit 5))
 ((.seq (.block 6 (.seq (.aN [mv 148 146,ix 149 144 146,l1 150 149,mv 20 148,mv 21 150])
 ((.seq (.aN [mv 151 2,.o (.iJ 152 (sl 151)),.o (.make 153 [.v (.int .i64 0)] 8 (sl 152) (sl 152)),mv 22 153])
 ((.seq (.seq (.aN [mv 154 2,.o (.iJ 155 (sl 154)),.o (.move 156 (ci 0))])
 ((.block 7 (.loop (.seq (.aN [.o (.bin 157 .lss (sl 156) (sl 155))])
 ((.seq (.cond (sl 157) .skip
 (.exit 7))
 ((.seq (.block 8 (.seq (.aN [mv 158 156,ix 159 154 156,l1 160 159,mv 23 158,mv 24 160])
 ((.draw [] [kr (mv 161 22),kr (mv 162 23),kr (mv 163 24),kr (mv 164 0),kr (.o (.ep 165 (sl 164))),kr (fl 166 7 165),kr (l1 167 166),kr (mv 168 0),kr (.o (.ep 169 (sl 168))),kr (fl 170 6 169),kr (l1 171 170),kr (mv 172 1),kr (ix 173 171 172),kr (l1 174 173),kr (mv 175 23),kr (.o (.bin 176 .add (sl 174) (sl 175))),kr (ix 177 167 176),kr (l1 178 177),kr (mv 179 20),kr (ix 180 178 179),kr (l1 181 180),kr (.o (.bin 182 .mul (sl 163) (sl 181))),kr (ix 183 161 162),(kH,.o (.store 1 (sl 183) (sl 182)))]))))
 ((.aN [.o (.bin 184 .add (sl 156) (ci 1)),mv 156 184])))))))))))
 ((.weak (.aN [mv 185 19,mv 186 0,mv 187 21,mv 188 22,mv 189 3,.o (.bin 190 .sub (sl 189) (ci 1)),.o (.call (some 191) (cf 81) [(sl 186),(sl 187),(sl 188),(sl 190)]),.o (.bin 192 .add (sl 185) (sl 191)),mv 19 192])))))))))
 ((.aN [.o (.bin 193 .add (sl 146) (ci 1)),mv 146 193])))))))))))
 ((.seq (.aN [mv 194 19,mv 8 194])
 (.ret))))))))))))
def aK6{aH args Q}(ha:args.length<=195)(h:fW 195 RG [.tmp 8] aH args Q):FA 81 aH args Q:=
 cF.of (H:=⟨[],[24,25,36]⟩) Tryz.func81 rfl rfl rfl (by kernel_rfl) ha dc h
def aK7:=cO Tryz.func103 (H:=⟨[],[1]⟩)
def RH:CC:=
 (.seq (.aN [.o (.move 10 (ci 0))])
 ((.seq (.aN [mv 26 0,.o (.ep 27 (sl 26)),fl 28 0 27,fl 29 0 28,fl 30 0 29,l1 31 30,mv 32 1,.o (.idx 33 5 (sl 31) (sl 32)),ln 34 5 33,.o (.alloc 11 [.v (.int .i64 0),.v (.int .i64 0),.v (.int .i64 0),.v (.int .i64 0),.zz]),.o (.store 5 (sl 11) (sl 34))])
 ((.seq (.seq (.aN [fl 35 0 11,l1 36 35])
 ((.block 0 (.seq (.aN [.o (.bin 38 .eql (sl 36) (ci 2)),mv 37 38])
 ((.cond (sl 37) (.seq (.aN [.o (.move 12 (ci 0))])
 ((.seq (.seq (.aN [.o (.move 13 (ci 0))])
 ((.block 1 (.loop (.seq (.seq (.aN [mv 39 13,mv 40 3,.o (.iJ 41 (sl 40)),.o (.bin 42 .lss (sl 39) (sl 41))])
 ((.cond (sl 42) .skip
 (.exit 1))))
 ((.seq (.block 2 (.seq (.aN [mv 46 0,mv 47 2,mv 48 13,.o (.call (some 49) (cf 139) [(sl 46),(sl 47),(sl 48)]),mv 45 49,.o (.extract 50 (sl 45) 0),.o (.extract 51 (sl 45) 1),mv 14 50,mv 15 51])
 ((.seq (.aN [mv 52 0,.o (.ep 53 (sl 52)),fl 54 0 53,ln 55 3 54,mv 56 1,mv 57 14,mv 58 15,.o (.call (some 59) (cf 193) [(sl 55),(sl 56),(sl 57),(sl 58)]),mv 16 59])
 ((.seq (.seq (.aN [mv 60 0,.o (.ep 61 (sl 60)),fl 62 3 61,l1 63 62,.o (.bin 64 .eql (sl 63) (ci 1))])
 ((.cond (sl 64) (.aN [mv 65 16,.o (.un 66 .neg (sl 65)),mv 16 66])
 .skip)))
 ((.draw [] [kr (mv 67 12),kr (mv 68 3),kr (mv 69 13),kr (ix 70 68 69),kr (l1 71 70),kr (mv 72 16),kr (.o (.bin 73 .mul (sl 71) (sl 72))),kr (mv 74 4),kr (.o (.call (some 75) (cf 76) [(sl 74)])),kr (.o (.bin 76 .mul (sl 73) (sl 75))),kr (.o (.bin 77 .add (sl 67) (sl 76))),kr (mv 12 77)]))))))))
 ((.aN [mv 43 13,.o (.bin 44 .add (sl 43) (ci 1)),mv 13 44])))))))))
 ((.seq (.aN [mv 78 12,mv 10 78])
 (.ret))))))
 (.seq (.aN [mv 80 0,.o (.ep 81 (sl 80)),fl 82 3 81,l1 83 82,.o (.bin 84 .eql (sl 36) (sl 83)),mv 79 84])
 ((.cond (sl 79) (.seq (.aN [.o (.move 17 (ci 0)),.o (.move 18 (ci 0))])
 ((.seq (.seq (.aN [.o (.move 19 (ci 0))])
 ((.block 3 (.loop (.seq (.seq (.aN [mv 85 19,fl 86 4 11,l1 87 86,.o (.iJ 88 (sl 87)),.o (.bin 89 .lss (sl 85) (sl 88))])
 ((.cond (sl 89) .skip
 (.exit 3))))
 ((.seq (.block 4 (.seq (.aN [mv 92 0,fl 93 4 11,l1 94 93,mv 95 19,ix 96 94 95,l1 97 96,mv 98 2,mv 99 3,mv 100 4,.o (.call (some 101) (cf 140) [(sl 92),(sl 97),(sl 98),(sl 99),(sl 100)]),mv 20 101])
 ((.seq (.aN [mv 102 19,.o (.bin 103 .eql (sl 102) (ci 0)),mv 104 103,.g 104 false (some 105) (.move 105 (sl 20)),.g 104 false (some 106) (.move 106 (sl 18)),.g 104 false (some 107) (.bin 107 .gtr (sl 105) (sl 106)),.o (.pick 108 (sl 104) (cb true) (sl 107))])
 ((.cond (sl 108) (.aN [mv 109 19,mv 110 20,mv 17 109,mv 18 110])
 .skip))))))
 ((.aN [mv 90 19,.o (.bin 91 .add (sl 90) (ci 1)),mv 19 91])))))))))
 ((.seq (.aN [fl 111 4 11,l1 112 111,.o (.iJ 113 (sl 112)),.o (.make 114 [.v (.int .i64 0)] 8 (sl 113) (sl 113)),mv 21 114])
 ((.seq (.aN [mv 115 21,mv 116 17,ix 117 115 116,.o (.store 1 (sl 117) (ci 60))])
 ((.seq (.weak (.draw [] [kr (mv 118 0),kr (.o (.ep 119 (sl 118))),kr (fl 120 6 119),kr (l1 121 120),kr (mv 122 0),kr (.o (.ep 123 (sl 122))),kr (fl 124 0 123),kr (ln 125 3 124),kr (mv 126 0),kr (.o (.ep 127 (sl 126))),kr (fl 128 3 127),kr (l1 129 128),kr (mv 130 1),kr (mv 131 2),kr (.o (.call (some 132) (cf 194) [(sl 125),(sl 129),(sl 130),(sl 131)])),kr (mv 133 21),kr (ix 134 121 132),(kH,.o (.store 1 (sl 134) (sl 133)))]))
 ((.seq (.weak (.aN [mv 135 18,mv 10 135]))
 (.ret))))))))))))
 .skip)))))))))
 ((.seq (.aN [.o (.move 22 (ci 0))])
 ((.seq (.seq (.aN [.o (.move 23 (ci 0))])
 ((.block 5 (.loop (.seq (.seq (.aN [mv 136 23,fl 137 4 11,l1 138 137,.o (.iJ 139 (sl 138)),.o (.bin 140 .lss (sl 136) (sl 139))])
 ((.cond (sl 140) .skip
 (.exit 5))))
 ((.seq (.block 6 (.seq (.aN [.o (.bslice 143 1 0 []),mv 24 143])
 ((.seq (.seq (.aN [.o (.move 25 (ci 0))])
 ((.block 7 (.loop (.seq (.seq (.aN [mv 144 25,mv 145 3,.o (.iJ 146 (sl 145)),.o (.bin 147 .lss (sl 144) (sl 146))])
 ((.cond (sl 147) .skip
 (.exit 7))))
 ((.seq (.block 8 (.draw [178] [kr (mv 150 24),kr (mv 151 3),kr (mv 152 25),kr (ix 153 151 152),kr (l1 154 153),kr (mv 155 0),kr (.o (.ep 156 (sl 155))),kr (fl 157 4 156),kr (fl 158 1 157),kr (l1 159 158),kr (mv 160 0),kr (.o (.ep 161 (sl 160))),kr (fl 162 0 161),kr (ln 163 3 162),kr (mv 164 0),kr (.o (.ep 165 (sl 164))),kr (fl 166 3 165),kr (l1 167 166),kr (.o (.bin 168 .sub (ci 1) (sl 167))),kr (mv 169 1),kr (mv 170 25),kr (.o (.call (some 171) (cf 194) [(sl 163),(sl 168),(sl 169),(sl 170)])),kr (ix 172 159 171),kr (l1 173 172),kr (mv 174 23),kr (ix 175 173 174),kr (l1 176 175),kr (.o (.bin 177 .mul (sl 154) (sl 176))),(kN,.o (.bslice 178 1 1 [(0,(sl 177))])),(kH,.o (.app 179 1 8 (sl 150) (sl 178))),kr (mv 24 179)]))
 ((.aN [mv 148 25,.o (.bin 149 .add (sl 148) (ci 1)),mv 25 149])))))))))
 ((.weak (.aN [mv 180 22,mv 181 0,fl 182 4 11,l1 183 182,mv 184 23,ix 185 183 184,l1 186 185,mv 187 2,mv 188 24,mv 189 4,.o (.bin 190 .sub (sl 189) (ci 1)),.o (.call (some 191) (cf 140) [(sl 181),(sl 186),(sl 187),(sl 188),(sl 190)]),.o (.bin 192 .add (sl 180) (sl 191)),mv 22 192])))))))
 ((.aN [mv 141 23,.o (.bin 142 .add (sl 141) (ci 1)),mv 23 142])))))))))
 ((.seq (.aN [mv 193 22,mv 10 193])
 (.ret))))))))))))
def aK8{aH args Q}(ha:args.length<=194)(h:fW 194 RH [.tmp 10] aH args Q):FA 140 aH args Q:=
 cF.of (H:=⟨[],[25,35]⟩) Tryz.func140 rfl rfl rfl (by kernel_rfl) ha dc h
def RI:CC:=
 (.seq (.aN [.o (.box 4 (sl 0))])
 ((.seq (.aN [fl 8 1 1,l1 9 8,.o (.alloc 5 [.v (.int .i64 0)]),.o (.store 1 (sl 5) (sl 9))])
 ((.block 0 (.loop (.seq (.seq (.aN [l1 10 5,fl 11 2 1,l1 12 11,.o (.bin 13 .leq (sl 10) (sl 12))])
 ((.cond (sl 13) .skip
 (.exit 0))))
 ((.seq (.block 1 (.seq (.aN [l1 16 2,.o (.iJ 17 (sl 16)),l1 18 5,.o (.call (some 19) (cf 161) [(sl 17),(sl 18)])])
 ((.block 2 (.pL (sl 19) [20] (.aN [.o (.alloc 6 [.zz]),.o (.store 1 (sl 6) (sl 20))])
 (.block 3 (.seq (.aN [l1 21 3,.o (.iJ 22 (sl 21)),l1 23 5,.o (.bin 24 .sub (ci 5) (sl 23)),.o (.call (some 25) (cf 161) [(sl 22),(sl 24)])])
 ((.block 4 (.pL (sl 25) [26] (.aN [mv 7 26])
 (.block 5 (.seq (.draw [30,33] [(.r false [30,33,34],l1 27 4),kr (l1 28 2),kr (l1 29 6),(.c false [],.o (.call (some 30) (cf 162) [(sl 28),(sl 29)])),(.r false [30],l1 31 3),(.r false [30],mv 32 7),(.c false [],.o (.call (some 33) (cf 162) [(sl 31),(sl 32)])),(.h (some [30]) [],.o (.app 34 1 8 (sl 30) (sl 33))),kr (.o (.call (some 35) (sl 27) [(sl 34)])),kr (.o (.un 36 .not (sl 35)))])
 ((.cond (sl 36) .ret
 .skip))))))))))))))
 ((.seq (.seq (.aN [l1 37 5])
 ((.aN [.o (.alloc 5 [.v (.int .i64 0)]),.o (.store 1 (sl 5) (sl 37))])))
 ((.aN [l1 14 5,.o (.bin 15 .add (sl 14) (ci 1)),.o (.store 1 (sl 5) (sl 15))])))))))))))))
def aK9:=cO Tryz.func161 (H:=⟨[],[1]⟩)
def run(x:Int):Nat->LI
 |0=>[]
 |k+1=>x::run (x+1) k
def vx(x:Int)(k:Nat):(run x k).length=k:=by
 induction k generalizing x with
 |zero=>rfl
 |succ k ih=>rw[run,List.length_cons,ih]
def aL0(x:Int)(h:i<k):(run x k)[i]? =some (x+i):=by
 induction k generalizing x i with
 |zero=>omega
 |succ k ih=>
  cases i with
  |zero=>simp[run]
  |succ i=>rw[run,List.getElem?_cons_succ,ih (x+1) om];congr 1;omega
def comb:Nat->Nat->Int->LL
 |_,0,_=>[[]]
 |0,_+1,_=>[]
 |d+1,k+1,lo=>(comb d k (lo+1)).map (lo:: ·)++comb d (k+1) (lo+1)
def lE(n:Int):LI->Option LI
 |[]=>none
 |x::t=>match lE n t with
  |some t'=>some (x::t')
  |none=>if x=n-1-t.length then none else some (run (x+1) (t.length+1))
def m_(f:LI->Option LI):LL->Option LI->Prop
 |[],_=>True
 |[c],e=>f c=e
 |c::c'::l,e=>f c=some c'/\m_ f (c'::l) e
def m_.append{f:LI->Option LI}{c':LI}{l':LL}{e:Option LI}:∀{l:LL},m_ f l (some c')->m_ f (c'::l') e->m_ f (l++c'::l') e
 |[],_,h'=>h'
 |[c],h,h'=>⟨h,h'⟩
 |c::c2::l,h,h'=>⟨h.1,m_.append (l:=c2::l) h.2 h'⟩
def zg:∀(d k:Nat) (lo:Int),∀c∈comb d k lo,c.length=k
 |d,0,lo=>by cases d<;>simp[comb]
 |0,k+1,lo=>by simp[comb]
 |d+1,k+1,lo=>by
  intro c hc;rw[comb,qI,qN]at hc;rcases hc with⟨t,ht,rfl⟩|hc
  ·rw[List.length_cons,zg d k (lo+1) t ht]
  ·exact zg d (k+1) (lo+1) c hc
def BQ:∀{d k:Nat} {lo:Int},d<k->comb d k lo=[]
 |0,k+1,lo,_=>rfl
 |d+1,k+1,lo,h=>by rw[comb,BQ om,BQ om];rfl
def J6:∀{d k:Nat} {lo:Int},k<=d->∃l,comb d k lo=run lo k::l
 |d,0,lo,_=>by cases d<;>exact⟨[],rfl⟩
 |d+1,k+1,lo,h=>by
  obtain⟨l,hl⟩:=J6 (d:=d) (k:=k) (lo:=lo+1) om;exact⟨l.map (lo:: ·)++comb d (k+1) (lo+1),by rw[comb,hl];rfl⟩
def RJ{n x:Int}{k:Nat}:∀{l:LL},(∀t∈l,t.length=k)->m_ (lE n) l none->m_ (lE n) (l.map (x:: ·)) (if x=n-1-k then none else some (run (x+1) (k+1)))
 |[],_,_=>trivial
 |[t],hl,h=>by
  show lE n (x::t)=_;have h:lE n t=none:=h;rw[lE,h,hl t sA]
 |t::t'::l,hl,h=>by
  refine⟨?_,RJ (l:=t'::l) (fun s hs=>hl s (by simp only[qO]at hs ⊢;exact .inr hs)) h.2⟩;rw[lE,h.1]
def J7(n:Int):∀(d k:Nat) (lo:Int),lo+d=n->m_ (lE n) (comb d k lo) none
 |d,0,lo,_=>by cases d<;>exact(rfl:lE n []=none)
 |0,k+1,lo,_=>trivial
 |d+1,k+1,lo,h=>by
  rw[comb];have h1:=J7 n d k (lo+1) om;have h2:=J7 n d (k+1) (lo+1) om;have h3:=RJ (n:=n) (x:=lo) (k:=k) (zg d k (lo+1)) h1;by_cases hk:k+1<=d
  ·obtain⟨l,hl⟩:=J6 (lo:=lo+1) hk;rw[hl]at h2 ⊢;rw[if_neg om]at h3;exact m_.append h3 h2
  ·rw[BQ (d:=d) (k:=k+1) om,List.append_nil];by_cases hk2:k<=d
   ·rw[if_pos om]at h3;exact h3
   ·rw[BQ (d:=d) (k:=k) om];trivial
def m_.get{f:LI->Option LI}{e:Option LI}:∀{l:LL} {i:Nat} {c:LI},m_ f l e->l[i]? =some c->f c=if i+1=l.length then e else l[i+1]?
 |[],i,c,_,h=>by simp at h
 |[c0],0,c,h,hc=>by simp only[List.getElem?_cons_zero,Option.some.injEq]at hc;subst hc;exact h
 |[c0],i+1,c,h,hc=>by simp at hc
 |c0::c1::l,0,c,h,hc=>by
  simp only[List.getElem?_cons_zero,Option.some.injEq]at hc;subst hc;rw[if_neg sA,h.1];rfl
 |c0::c1::l,i+1,c,h,hc=>by
  rw[List.getElem?_cons_succ]at hc;rw[m_.get (l:=c1::l) h.2 hc];simp only[List.length_cons,Nat.add_right_cancel_iff,List.getElem?_cons_succ]
def J8{n:Int}:∀{c:LI},(∀j,j<c.length->c[j]? =some (n-c.length+j))->lE n c=none
 |[],_=>rfl
 |x::t,h=>by
  have h1:lE n t=none:=J8 fun j hj=>by
   have:=h (j+1) (sU hj);rw[List.getElem?_cons_succ]at this;rw[this,List.length_cons];congr 1;omega
  have h0:=h 0 sA;simp only[List.getElem?_cons_zero,Option.some.injEq,List.length_cons]at h0;rw[lE,h1];simp only[];rw[if_pos om]
def RK{n:Int}:∀{c:LI} {i:Nat} {y:Int},c[i]? =some y->y≠n-c.length+i->(∀j,i<j->j<c.length->c[j]? =some (n-c.length+j))->lE n c=some (c.take i++run (y+1) (c.length-i))
 |[],i,y,h,_,_=>by simp at h
 |x::t,0,y,h,h1,h2=>by
  simp only[List.getElem?_cons_zero,Option.some.injEq]at h;subst h;have h3:lE n t=none:=J8 fun j hj=>by
   have:=h2 (j+1) om (sU hj);rw[List.getElem?_cons_succ]at this;rw[this,List.length_cons];congr 1;omega
  rw[lE,h3];simp only[List.length_cons]at h1 ⊢;rw[if_neg om];rfl
 |x::t,i+1,y,h,h1,h2=>by
  rw[List.getElem?_cons_succ]at h;simp only[List.length_cons]at h1 h2;have h3:=RK (n:=n) (c:=t) h om fun j hj hj'=>by
   have:=h2 (j+1) om om;rw[List.getElem?_cons_succ]at this;rw[this];congr 1;omega
  rw[lE,h3];simp only[List.take_succ_cons,List.length_cons,List.cons_append,Nat.add_sub_add_right]
def Fs:∀(d k:Nat) (lo:Int),∀c∈comb d k lo,∀x∈c,lo<=x/\x<lo+d
 |d,0,lo=>by cases d<;>simp[comb]
 |0,k+1,lo=>by simp[comb]
 |d+1,k+1,lo=>by
  intro c hc x hx;rw[comb,qI,qN]at hc;rcases hc with⟨t,ht,rfl⟩|hc
  ·rcases qO.1 hx with rfl|hx
   ·omega
   ·have:=Fs d k (lo+1) t ht x hx;omega
  ·have:=Fs d (k+1) (lo+1) c hc x hx;omega
section
attribute [-go_sem] bC bF bK bE bH bL
def RL(n k:Int):FR 161 [.t (.i n),.t (.i k)] (.fn 201 [.ax [.i k] 0,.ax [.i n] 0]):=by
 refine aK9 sA (ab ?_);refine⟨_,wT (wS 2) (wT (wS 3) (eU (bf @zA @zB @T.cr.eq_1 @T.cr.eq_2) (e:=[(2,.t (.ax [.i n] 0)),(3,.t (.ax [.i k] 0))]))),?_⟩
 ·exact ab trivial
def sI(k j:Nat):LI:=run 0 j++List.replicate (k-j) 0
def aL1(h:j<=k):(sI k j).length=k:=by simp[sI,vx];omega
def RM(x:Int)(j:Nat):run x (j+1)=run x j++[x+j]:=by
 induction j generalizing x with
 |zero=>simp[run]
 |succ j ih=>rw[run,ih (x+1),run];simp;omega
def aL2(h:j<k):(sI k j).set j (j:Int)=sI k (j+1):=by
 obtain⟨d,rfl⟩:∃d,k=j+1+d:=⟨k-j-1,om⟩;rw[sI,sI,show j+1+d-j=d+1 by omega,show j+1+d-(j+1)=d by omega,List.replicate_succ,List.set_append_right _ _ (by rw[vx];exact qR _),vx,Nat.sub_self,List.set_cons_zero,RM];simp
def aL3(k:Nat):sI k k=run 0 k:=by simp[sI]
def nJ(c:LI)(i:Nat)(y:Int)(m:Nat):LI:=c.take i++run (y+1) (m-i)++c.drop m
def aL4{c:LI}(hi:i<=m)(hm:m<=c.length):(nJ c i y m).length=c.length:=by
 simp[nJ,vx];omega
def aL5{c:LI}(hi:i<c.length):c.set i (y+1)=nJ c i y (i+1):=by
 rw[nJ,show i+1-i=1 by omega,List.set_eq_take_append_cons_drop,if_pos hi];simp[run]
def aL6{c:LI}(hi:i<m)(hm:m<=c.length):(nJ c i y m)[m-1]? =some (y+(m-i:Nat)):=by
 rw[nJ,rR (by simp[vx];omega),rD (by simp;omega)];rw[show m-1-(c.take i).length=m-i-1 by simp;omega,aL0 _ om];congr 1;omega
def aL7{c:LI}(hi:i<m)(hm:m<c.length):(nJ c i y m).set m (y+(m-i:Nat)+1)=nJ c i y (m+1):=by
 rw[nJ,List.set_append_right _ _ (by simp[vx];omega),show m-(c.take i++run (y+1) (m-i)).length=0 by simp[vx];omega,nJ,show m+1-i=(m-i)+1 by omega,RM,List.drop_eq_getElem_cons hm,List.set_cons_zero];simp;omega
def aL8{c:LI}:nJ c i y c.length=c.take i++run (y+1) (c.length-i):=by simp[nJ]
def RN(n k:Nat)(hn:n<=1000)(hk:k<=1000)(hk1:1<=k):Iter Tryz.prog 201 [.ax [.i k] 0,.ax [.i n] 0] ((comb n k 0).map ints):=by
 have hlen:=zg n k 0;refine Iter.of (n:=68) (m:=2) (H:=⟨[],[]⟩) (c1:=_) (c2:=_) (c3:=_) (cB:=_) Tryz.func201 rfl rfl rfl (show dg Tryz.prog _ _ _=some ar2 by kernel_rfl) (by kernel_rfl) dc (fun c hc e=>by have:=hlen c hc;rw[e]at this;simp at this;omega) (show 2<4 by decide) (show _/\2<23/\_ by decide) (show _/\2<24/\_ by decide) (show _/\2<25/\_ by decide) rfl (by kernel_rfl) (show 2<68 by decide) ?_ ?_
 ·intro l;generalize (Value.func (.yield l) #[] #[])=yv;show cW _ _ _ _ (St.of [(0,A.v yv),(1,.t (.ax [.i k] 0)),(2,.t (.ax [.i n] 0))] []);refine tD ?_;refine dX.ig (σ:=Nat) (fun j=>St.of [(0,.v yv),(1,.t (.ax [.i k] 0)),(2,.t (.ax [.i n] 0)),(4,.own 9),(11,.t (.i k)),(12,.t (.i j))] [(9,ae (sI k j))]) (fun j=>j<=k) (fun j=>k-j) 0 (aq [9] (ah @fe @List.length_replicate.{0}) (hr:=?_)) om fun j hj R hn' hr he=>?_
  ·refine rI ?_ trivial;rw[fe,ae,sI,run,List.nil_append,List.map_replicate];exact .refl _
  ·have hfl:=aL1 hj;rcases qH j k with h9|h9
   ·refine aB (ay @ae.eq_1 hfl (dt ((j:Int)<(k:Int)))) ?_;refine hn' _ (j+1) (aj.o _ _ [some 9] ?_ ?_) om om
    ·exact bZ (aw h9 om) trivial
    ·refine rI ?_ trivial;rw[←aL2 h9,ae,List.map_set];exact .refl _
   ·refine aa (ah @ae.eq_1 (dF ((j:Int)<(k:Int)))) ?_;refine he _ _ (ab ?_);rw[show j=k by omega,aL3];refine⟨fun h=>?_,fun h=>?_⟩
    ·have h:(n:Int)<k:=sU h;refine⟨BQ om,9,run 0 k,fun e=>by have:=vx 0 k;rw[e]at this;simp at this;omega,aj.o [(0,A.v yv),(1,.t (.ax [.i k] 0)),(2,.t (.ax [.i n] 0)),(4,.own 9)] [(9,.arr 1 ((run 0 k).map T.i))] [some 9] ?_ ?_⟩
     ·exact ij trivial
     ·exact rB trivial
    ·have h:¬(n:Int)<k:=sU h;obtain⟨l',hl'⟩:=J6 (d:=n) (k:=k) (lo:=0) om;refine⟨9,run 0 k,l',hl',aj.o [(0,A.v yv),(1,.t (.ax [.i k] 0)),(2,.t (.ax [.i n] 0)),(4,.own 9)] [(9,.arr 1 ((run 0 k).map T.i))] [some 9] ?_ ?_⟩
     ·exact ij trivial
     ·exact rB trivial
 ·intro l j c hj;generalize (Value.func (.yield l) #[] #[])=yv;have br:=hlen c (qE hj);have hcb:=Fs n k 0 c (qE hj);have hw:=m_.get (J7 n n k 0 om) hj;show cW _ _ _ _ (St.of [(0,A.v yv),(1,.t (.ax [.i k] 0)),(2,.t (.ax [.i n] 0)),(4,.own 1000000000)] [(1000000000,.arr 1 (c.map T.i))]);refine ab ?_;rw[wrap64 (n:=(k:Int)-1) om om];refine dX.ig (σ:=Nat) (fun t=>St.of [(0,.v yv),(1,.t (.ax [.i k] 0)),(2,.t (.ax [.i n] 0)),(4,.own 1000000000),(6,.t (.i ((k:Int)-1-t)))] [(1000000000,ae c)]) (fun t=>t<=k/\∀i,k-t<=i->i<k->c[i]? =some ((n:Int)-k+i)) (fun t=>k-t) 0 (aq [1000000000] @Int.sub_zero) ⟨om,fun i h1 h2=>om⟩ fun t ht R hn' hr he=>?_
  ·obtain⟨ht1,ht2⟩:=ht;rcases qH t k with h9|h9
   ·obtain⟨i,hi⟩:∃i,i+1+t=k:=⟨k-1-t,om⟩;have ei:(k:Int)-1-t=(i:Int):=om;obtain⟨y,hy⟩:∃y,c[i]? =some y:=⟨_,qB om⟩;have fC:=hcb y (qE hy);rw[ei];refine aB (dZ @ae.eq_1 hy br (dt ((i:Int)≥ 0)) (wrap64 (n:=(n:Int)-k) om om) (wrap64 (n:=(n:Int)-k+i) om om) (wrap64 (n:=(i:Int)-1) om om)) ?_;refine⟨fun h=>?_,fun h=>?_⟩
    ·have h:y=(n:Int)-k+i:=sU h;refine hn' _ (t+1) (aq [1000000000] (show(k:Int)-1-((t+1:Nat):Int)=(i:Int)-1 by omega)) ⟨om,fun i' h1 h2=>?_⟩ om
     ·rcases qH i i' with h3|h3
      ·exact ht2 i' om h2
      ·have:i'=i:=om;rw[this,hy,h]
    ·have h:y≠(n:Int)-k+i:=sU h;have i7:=RK (n:=n) hy (by rw[br];exact h) (fun j' h1 h2=>by rw[br];exact ht2 j' om om);rw[hw,br]at i7;refine he _ _ (aB (bf (dF ((i:Int)<0)) hy (wrap64 (n:=y+1) om om) (wrap64 (n:=(i:Int)+1) om om)) ?_);refine lN (fun m=>St.of [(0,.v yv),(1,.t (.ax [.i k] 0)),(2,.t (.ax [.i n] 0)),(4,.own 1000000000),(7,.t (.i m))] [(1000000000,ae (nJ c i y m))]) (fun m=>i+1<=m/\m<=k) (fun m=>k-m) (i+1) (aq [1000000000] (show((i+1:Nat):Int)=(i:Int)+1 by omega) (hr:=?_)) (fun m hm R2 hn2 cP cL=>?_)
     ·refine rI ?_ trivial;rw[←aL5 om,ae,List.map_set];exact .refl _
     ·have hml:=aL4 (c:=c) (i:=i) (y:=y) (m:=m) om om;rcases qH m k with h8|h8
      ·obtain⟨m',rfl⟩:∃m',m=m'+1:=⟨m-1,om⟩;have hg:=aL6 (c:=c) (i:=i) (m:=m'+1) (y:=y) om om;rw[Nat.add_sub_cancel]at hg;refine aB (dZ @ae.eq_1 hg hml (dt (((m'+1:Nat):Int)<(k:Int))) (show((m'+1:Nat):Int)-1=(m':Int) by omega) (wrap64 (n:=(m':Int)) om om) (wrap64 (n:=y+((m'+1-i:Nat):Int)+1) om om)) ?_;refine hn2 _ (m'+1+1) (aj.o _ _ [some 1000000000] ?_ ?_) ⟨om,om⟩
       ·exact bZ (aw h8 om) trivial
       ·refine rI ?_ trivial;have hs:=aL7 (c:=c) (i:=i) (m:=m'+1) (y:=y) om om;rw[←hs,ae,List.map_set];exact .refl _
      ·refine aa (ah @ae.eq_1 (dF ((m:Int)<(k:Int)))) ?_;refine cL _ _ (ab ?_);have hmk:m=c.length:=om;rw[hmk,aL8];split at i7
       ·cases i7
       ·have aL9:(comb n k 0)[j+1]? =some (c.take i++run (y+1) (c.length-i)):=by rw[br];exact i7
        refine⟨_,aL9,aj.o [(0,A.v yv),(1,.t (.ax [.i k] 0)),(2,.t (.ax [.i n] 0)),(4,.own 1000000000)] [(1000000000,.arr 1 ((c.take i++run (y+1) (c.length-i)).map T.i))] [some 1000000000] ?_ ?_⟩
        ·exact ij trivial
        ·exact rB trivial
   ·have uv:t=k:=om;have i7:=J8 (n:=n) (c:=c) fun j' hj'=>by rw[br]at hj' ⊢;exact ht2 j' om hj'
    rw[hw]at i7;refine aa (ah @ae.eq_1 (dF ((k:Int)-1-t ≥ 0))) ?_;refine he _ _ (aa (dt ((k:Int)-1-t<0)) ?_);show j+1=_;split at i7
    ·assumption
    ·rename_i h1;have h2:=(qK.1 hj).1;rw[qB om]at i7;cases i7
def jh(l:LI)(c:LI):LI:=c.map fun i=>l.getD i.toNat 0
def J9:∀(l pre:LI) (k:Nat),(comb l.length k pre.length).map (jh (pre++l))=cZ l k
 |l,pre,0=>by cases l<;>simp[comb,cZ,jh]
 |[],pre,k+1=>by simp[comb,cZ]
 |x::l,pre,k+1=>by
  have h1:=J9 l (pre++[x]) k;have h2:=J9 l (pre++[x]) (k+1);simp only[qD,List.length_cons,List.length_nil,qW,List.cons_append,List.nil_append,Nat.zero_add]at h1 h2;rw[List.length_cons,comb,cZ,qG,←h1,←h2,List.map_map,List.map_map];have e:(pre.length:Int)+1=((pre.length+1:Nat):Int):=om;rw[e];congr 1;refine rW fun c _=>?_;simp only[Function.comp,jh,List.map_cons];congr 1;simp
def RO(l:LI)(k:Nat):(comb l.length k 0).map (jh l)=cZ l k:=J9 l [] k
def RP{d:Nat}{c:LI}(h:c∈comb d k 0):∀x∈c,0<=x/\x<d:=by
 intro x hx;have:=Fs d k 0 c h x hx;omega
def xN{A:LI}(pR:A[i]? =some y)(h:i<n):(A.take i++List.replicate (n-i) 0).set i y=A.take (i+1)++List.replicate (n-(i+1)) 0:=by
 obtain⟨d,rfl⟩:∃d,n=i+1+d:=⟨n-i-1,om⟩;have hi:=(qK.1 pR).1;have hl:(A.take i).length=i:=by rw[qL];omega
 rw[show i+1+d-i=d+1 by omega,show i+1+d-(i+1)=d by omega,List.replicate_succ,List.set_append_right _ _ om,hl,Nat.sub_self,List.set_cons_zero,bG pR];simp
def RQ(l c:LI)(hl:l.length<=1000)(br:c.length<=1000)(hc:∀x∈c,0<=x/\x<l.length):FR 162 [.t (ints l),.t (ints c)] (ae (jh l c)):=by
 refine ao1 sA (tD ?_);have hlen:(jh l c).length=c.length:=by simp[jh]
 refine lN (fun i=>St.of [(0,.t (ints l)),(5,.own 95),(11,.t (ints c)),(12,.t (.i c.length)),(13,.t (.i i))] [(95,.arr 1 (((jh l c).take i++List.replicate (c.length-i) 0).map T.i))]) (fun i=>i<=c.length) (fun i=>c.length-i) 0 (cH [10] (hr:=?_)) (fun i hi R hn hr he=>?_)
 ·refine rI ?_ trivial;simp[fe];exact .refl _
 ·rcases qH i c.length with h9|h9
  ·obtain⟨k,hx⟩:∃k,c[i]? =some k:=⟨_,qB h9⟩;obtain⟨ww,hk1⟩:=hc k (qE hx);obtain⟨n,rfl⟩:∃n:Nat,k=n:=⟨k.toNat,om⟩;obtain⟨y,hy⟩:∃y,l[n]? =some y:=⟨_,qB om⟩;have jN:((jh l c).take i++List.replicate (c.length-i) 0).length=c.length:=by simp[hlen];omega
   have pR:(jh l c)[i]? =some y:=by rw[jh,qU,hx];simp[hy]
   refine aB (bf hx hy jN (dt ((i:Int)<(c.length:Int)))) ?_;refine hn _ (i+1) (aq [95] (aw h9 om) (hr:=?_))
   ·refine rI ?_ trivial;rw[←xN pR h9,List.map_set];exact .refl _
  ·refine aa (dF ((i:Int)<(c.length:Int))) ?_;refine he _ _ (ab ?_);have e:i=c.length:=om;subst e;rw[Nat.sub_self,List.replicate_zero,List.append_nil,←hlen,rT];rfl
def aM0{β:Type}{f:α->List β}:∀{L:List α} {i j:Nat} {x:α},(∀x∈L,(f x).length=m)->L[i]? =some x->j<m->(L.flatMap f)[i*m+j]? =(f x)[j]? :=by
 intro L;induction L with
 |nil=>intro i j x _ h;simp at h
 |cons a L ih=>
  intro i j x hm hx hj;rw[List.flatMap_cons];have ha:=hm a sA;cases i with
  |zero=>
   have:a=x:=sU hx;subst this;rw[Nat.zero_mul,Nat.zero_add,rR om]
  |succ i=>
   rw[rD (by rw[ha,Nat.succ_mul];omega),ha,Nat.succ_mul,show i*m+m+j-m=i*m+j by omega];exact ih (fun y hy=>hm y (by simp[hy])) (sU hx) hj
def RR{β:Type}{f:α->List β}{L:List α}(hm:∀x∈L,(f x).length=m):(L.flatMap f).length=L.length*m:=by
 induction L with
 |nil=>simp
 |cons a L ih=>
  rw[List.flatMap_cons,qD,hm a sA,ih fun y hy=>hm y (by simp[hy]),List.length_cons,Nat.succ_mul];omega
def eH(lo:Int):LA:=[.i 4,.i 2,.i 2,.i 5,.b true,.i lo]
def ml(hole aF:LI):LA:=((cZ hole 2).flatMap fun a=>(cZ aF 3).map (a++ ·)).map ints
def RS(lo:Int)(hole aF:LI)(h4:hole.length<=100)(h5:aF.length<=100):pT Tryz.prog 160 [.ax (eH lo) 0,.ax [ints hole] 0,.ax [ints aF] 0] (ml hole aF):=by
 have RT:=RO hole 2;have RU:=RO aF 3;have aM1:pT Tryz.prog 201 [.ax [.i 2] 0,.ax [.i hole.length] 0] _:=(RN hole.length 2 om om om).AU;have aM2:pT Tryz.prog 201 [.ax [.i 3] 0,.ax [.i aF.length] 0] _:=(RN aF.length 3 om om om).AU;refine pT.of (n:=38) (c:=RI) Tryz.func160 rfl rfl rfl (H:=⟨[(8,0,.r false [30,33,34]),(8,7,.h (some [30]) [])],[]⟩) (by kernel_rfl) (by kernel_rfl) dc sA fun l J hJ=>?_;show cw _ 38 J True _ _ (St.of [(0,A.v (.func (.yield l) #[] #[])),(1,.t (.ax (eH lo) 0)),(2,.t (.ax [ints hole] 0)),(3,.t (.ax [ints aF] 0))] []) _;unfold RI;refine cw.seq (cw.of hJ ?_);refine ab ?_;refine cw.seq (cw.of hJ ?_);simp -implicitDefEqProofs only[c8,go_sem,eH];refine cw.block ?_;obtain⟨mk,hmk⟩:∃mk:Nat->St,mk=(fun(i:Nat)=>St.of [(1,.t (.ax (eH lo) 0)),(2,.t (.ax [ints hole] 0)),(3,.t (.ax [ints aF] 0)),(4,.own 94),(5,.own 95)] [(94,.box [.v (.func (.yield l) #[] #[])]),(95,.box [.i (2+(i:Int))])]):=⟨_,rfl⟩;have e0:mk 0=St.of [(1,.t (.ax (eH lo) 0)),(2,.t (.ax [ints hole] 0)),(3,.t (.ax [ints aF] 0)),(4,.own 94),(5,.own 95)] [(94,.box [.v (.func (.yield l) #[] #[])]),(95,.box [.i 2])]:=by rw[hmk];rfl
 have e1:mk 1=St.of [(1,.t (.ax (eH lo) 0)),(2,.t (.ax [ints hole] 0)),(3,.t (.ax [ints aF] 0)),(4,.own 94),(5,.own 95)] [(94,.box [.v (.func (.yield l) #[] #[])]),(95,.box [.i 3])]:=by rw[hmk];rfl
 refine cw.loop hJ (σ:=Nat) mk (fun i=>if i=0 then some 0 else some (ml hole aF).length) (fun i=>i<=1) (fun i=>1-i) 0 ?_ rfl om fun i hi=>?_
 ·rw[e0];refine aj.o _ _ [some 4,some 5] ?_ ?_
  ·simp -implicitDefEqProofs only[fc,Nat.reduceBEq,Nat.reduceEqDiff, ↓reduceIte,eH]
  ·exact rB (rB trivial)
 ·rcases Nat.eq_zero_or_pos i with h0|h0
  ·subst h0;rw[e0];refine cw.seq (cw.seq (cw.of hJ ?_));simp -implicitDefEqProofs only[c8,go_sem,eH,dt ((2:Int)<=2)];refine cw.cond (b:=true) rfl (fun _=>cw.of hJ ?_) (fun h=>by cases h);refine cw.seq (cw.block (cw.seq (cw.of hJ ?_)));refine ab ?_;refine Rx (RL hole.length 2) (aP ?_);refine cw.block ?_;have fb:(cZ aF 3).length=(comb aF.length 3 0).length:=(by rw[←RU,qJ]);refine cw.range hJ Tryz.call201 aM1 (fun i=>St.of [(1,.t (.ax (eH lo) 0)),(2,.t (.ax [ints hole] 0)),(3,.t (.ax [ints aF] 0)),(4,.own 94),(5,.own 95),(19,.t (.fn 201 [.ax [.i 2] 0,.ax [.i hole.length] 0]))] [(94,.box [.v (.func (.yield l) #[] #[])]),(95,.box [.i 2])]) (fun i=>some (i*(cZ aF 3).length)) [] [94,95] (fun _=>[]) (fun i=>[(2,.t (.ax [ints hole] 0)),(3,.t (.ax [ints aF] 0)),(4,.t (.ax [.v (.func (.yield l) #[] #[])] 0)),(5,.t (.ax [.i 2] 0))]) (aj.o _ _ [some 94,some 95] ?_ ?_) sA rfl sA sA (fun i hi=>trivial) dc (fun i hi s hs=>?_) (fun i hi=>?_) ?_
   ·simp -implicitDefEqProofs only[fc,Nat.reduceBEq,Nat.reduceEqDiff, ↓reduceIte,eH]
    done
   ·exact rB (rB trivial)
   ·simp only[qO,List.not_mem_nil,or_false]at hs;rcases hs with rfl|rfl|rfl|rfl
    all_goals
     refine⟨sA,?_⟩;exact pZ (ah @zB @zC) trivial
   ·rw[qJ]at hi;obtain⟨a,ha⟩:∃a,(comb hole.length 2 0)[i]? =some a:=⟨_,qB hi⟩;have haI:(List.map ints (comb hole.length 2 0))[i]=ints a:=by
     have:(List.map ints (comb hole.length 2 0))[i]? =some (ints a):=by rw[qU,ha];rfl
     exact(qK.1 this).2
    rw[haI];have lh:=zg _ _ _ a (qE ha);have har:=RP (qE ha);have haC:(cZ hole 2)[i]? =some (jh hole a):=by rw[←RT,qU,ha];rfl
    refine ab ?_;refine cw.block (cw.seq (cw.of hJ ?_));refine aa (show IntKind.i64.wrap (5-2)=3 from rfl) ?_;refine Rx (RL aF.length 3) (aP ?_);refine cw.block ?_;refine cw.range hJ Tryz.call201 aM2 (fun j=>St.of [(2,.t (.ax [ints hole] 0)),(3,.t (.ax [ints aF] 0)),(4,.t (.ax [.v (.func (.yield l) #[] #[])] 0)),(6,.own 96),(25,.t (.fn 201 [.ax [.i 3] 0,.ax [.i aF.length] 0]))] [(96,.box [ints a])]) (fun j=>some (i*(cZ aF 3).length+j)) [] [96] (fun _=>[]) (fun j=>[(2,.t (.ax [ints hole] 0)),(3,.t (.ax [ints aF] 0)),(4,.t (.ax [.v (.func (.yield l) #[] #[])] 0)),(6,.t (.ax [ints a] 0))]) (cH [6]) sA rfl sA sA (fun i hi=>trivial) dc (fun j hj s hs=>?_) (fun j hj=>?_) ?_
    ·simp only[qO,List.not_mem_nil,or_false]at hs;rcases hs with rfl|rfl|rfl|rfl
     all_goals
      refine⟨sA,?_⟩;exact pZ (ah @zB @zC) trivial
    ·rw[qJ]at hj;obtain⟨b,hb⟩:∃b,(comb aF.length 3 0)[j]? =some b:=⟨_,qB hj⟩;have hbI:(List.map ints (comb aF.length 3 0))[j]=ints b:=by
      have:(List.map ints (comb aF.length 3 0))[j]? =some (ints b):=by rw[qU,hb];rfl
      exact(qK.1 this).2
     rw[hbI];have l8:=zg _ _ _ b (qE hb);have J_:=RP (qE hb);have RV:(cZ aF 3)[j]? =some (jh aF b):=by rw[←RU,qU,hb];rfl
     refine ab ?_;refine cw.block (cw.seq ?_);refine cw.IA hJ (ds:=[30,33]) (l:=[(.r false [30,33,34],.o (.load1 27 (sl 4))),(kR,.o (.load1 28 (sl 2))),(kR,.o (.load1 29 (sl 6))),(.c false [],.o (.call (some 30) (cf 162) [(sl 28),(sl 29)])),(.r false [30],.o (.load1 31 (sl 3))),(.r false [30],.o (.move 32 (sl 7))),(.c false [],.o (.call (some 33) (cf 162) [(sl 31),(sl 32)])),(.h (some [30]) [],.o (.app 34 1 8 (sl 30) (sl 33)))]) ?_ ?_
     ·exact ab trivial
     ·refine ab ?_;refine Hx (RQ hole a om om har) (aP ?_);refine Hx (RQ aF b om om J_) (bu @ae.eq_1 ?_);have fJ:(jh hole a).length=2:=(by simp[jh,lh]);have bO:(jh aF b).length=3:=(by simp[jh,l8]);have wi:∀x∈cZ hole 2,((cZ aF 3).map (x++ ·)).length=(cZ aF 3).length:=fun x _=>by rw[qJ]
      have hjl:=(qK.1 RV).1;have hys:(ml hole aF)[i*(cZ aF 3).length+j]? =some (ints (jh hole a++jh aF b)):=by
       rw[ml,qU,aM0 wi haC hjl,qU,RV];rfl
      refine⟨om,?_⟩;refine And.intro ?_ ?_;refine⟨34,.arr 1 ((jh hole a).map T.i++(jh aF b).map T.i),_,rfl,rfl,rfl,?_,rfl,?_,dc,fun b=>?_⟩
      ·rw[←qG];exact dY _
      ·rw[hys,←qG];exact congrArg some (yJ _).symm
      ·cases b with
       |true=>
        refine cw.cond (b:=false) rfl (fun h=>by cases h) (fun _=>cw.of hJ ?_);exact⟨trivial,rfl,aj.refl _ _⟩
       |false=>
        refine cw.cond (b:=true) rfl (fun _=>cw.of hJ ?_) (fun h=>by cases h);exact⟨trivial,trivial,.inr rfl⟩
      ·exact(qS).ak _ (.inr rfl)
    ·refine⟨trivial,?_,aj.refl _ _⟩;rw[qJ,fb,Nat.succ_mul]
   ·refine cw.seq (cw.seq (cw.of hJ ?_));refine ab ?_;refine cw.of hJ (ab ?_);refine cw.of hJ (ab ?_);refine⟨1,?_,?_,qR _,Nat.zero_lt_one⟩
    ·rw[e1];refine aj.o _ _ [some 94,some 5] ?_ ?_
     ·simp -implicitDefEqProofs only[fc,Nat.reduceBEq,Nat.reduceEqDiff, ↓reduceIte,eH]
      done
     ·exact rB (rB trivial)
    ·show _=some (ml hole aF).length;rw[ml,qJ,RR (m:=(cZ aF 3).length) (fun x _=>by rw[qJ]),←RT,qJ]
     try rw[qJ]
  ·have h1:i=1:=om;subst h1;rw[e1];refine cw.seq (cw.seq (cw.of hJ ?_));simp -implicitDefEqProofs only[c8,go_sem,eH,dF ((3:Int)<=2)];refine cw.cond (b:=false) rfl (fun h=>by cases h) (fun _=>cw.of hJ ?_);exact Or.inl rfl
def Ft(f:Nat->α)(i:Nat)(x y:α):ak (ak f i x) i y=ak f i y:=by
 funext j;by_cases h:j=i
 ·subst h;rw[aT,aT]
 ·rw[aU _ _ _ _ h,aU _ _ _ _ h,aU _ _ _ _ h]
def mo(lo:Int):T:=.agg (eH lo)
def RW(lo:Int)(hole aF:LI):FR 103 [.t (mo lo),.t (ints hole),.t (ints aF)] (.fn 160 [.ax (eH lo) 0,.ax [ints hole] 0,.ax [ints aF] 0]):=by
 refine aK7 sA (aa (ah @mo.eq_1 @eH.eq_1) ?_);refine⟨_,wT (wS 3) (wT (wS 4) (wT (wS 5) (eU (bM @zA @zB @T.cr.eq_1 @T.cr.eq_2 @eH.eq_1) (e:=[(3,.t (.ax (eH lo) 0)),(4,.t (.ax [ints hole] 0)),(5,.t (.ax [ints aF] 0))])))),?_⟩
 ·exact aa @eH.eq_1 trivial
def Fu(hole aF:LI):ml hole aF=(eB 2 2 hole aF).map ints:=by
 simp[ml,eB]
def RX{hole aF h:LI}(hc:ce (hole++aF))(hh:h∈eB 2 2 hole aF):ce h/\h.length=5:=by
 obtain⟨n,a,b,h1,h2,h3,h4,h5,h6,rfl⟩:=EZ.1 hh;have hs:=h3.append h5;refine⟨⟨hc.1.sublist hs,fun x hx=>hc.2 x (hs.subset hx)⟩,?_⟩;rw[qD];omega
def aM3(hl:ce l)(h5:5<=l.length):gP l<10000000:=by
 obtain⟨f,_,hf,cat,hs,hv⟩:=EW hl h5;rw[hv];obtain⟨a,b,c,d,e,he,RY⟩:=hs;refine vq om (by rw[he];simp) fun x hx=>?_;obtain⟨y,hy,rfl⟩:=qN.1 hx;exact tL (hl.2 y (hf y hy))
def aM4(hole aF:LI)(hc:ce (hole++aF))(h2:hole.length=2)(h5:aF.length=5):Pr 50 [oN 0,ints hole,ints aF] (.i (gP (hole++aF))):=by
 refine Ph sA (aa (c5 @oN.eq_1 @oN.eq_2 @oN.eq_3 (show((0:Int)==0)=true from rfl) (show(min (2:Int) 5)=2 from rfl) (show((2:Int)==2)=true from rfl)) ?_);have gA:=aI3 [hole,aF] sA (by simp;omega) (by intro h;simp at h;rw[h.1]at h2;simp at h2);simp only[qZ,List.flatten_nil,List.append_nil]at gA;refine Rx gA (aP ?_) (au:=[27]) (be:=.inr (dY _));have hvo:=RD (hole++aF) hc (by simp;omega);exact Px hvo (ab trivial) (au:=[28])
def nK(l:LL):Int:=xG (l.map fun h=>(gP h:Int))
def RZ(lo:Int)(hole aF:LI)(hc:ce (hole++aF))(h2:hole.length=4)(h5:aF.length=5):Pr 50 [mo lo,ints hole,ints aF] (.i (nK (eB 2 2 hole aF))):=by
 refine Ph sA (aa (bf @mo.eq_1 @eH.eq_1 (show((2:Int)==0)=false from rfl) (show((5:Int)==0)=false from rfl)) ?_);have hin:=RW lo hole aF;simp only[mo,eH]at hin;refine Rx hin (aP ?_);have hit:=RS lo hole aF om om;have hlen:(ml hole aF).length=(eB 2 2 hole aF).length:=by rw[Fu,qJ]
 refine dX.Ek Tryz.call160 hit (fun i=>St.of [(7,.own 97),(33,.t (.fn 160 [.ax (eH lo) 0,.ax [ints hole] 0,.ax [ints aF] 0]))] [(97,.box [.i (nK ((eB 2 2 hole aF).take i))])]) (fun i=>True) trivial [97] [] (fun i=>[.box [.i (nK ((eB 2 2 hole aF).take i))]]) (fun i=>[(7,.own 1000000000)]) (aj.o _ _ [some 7] ?_ ?_) rfl sA sA (fun i hi=>⟨rfl,trivial⟩) dc (fun i hi s hs=>?_) (fun i hi _=>?_) ?_
 ·simp -implicitDefEqProofs only[fc,Nat.reduceBEq,Nat.reduceEqDiff, ↓reduceIte,eH]
  done
 ·exact rB trivial
 ·simp only[qO,List.not_mem_nil,or_false]at hs;subst hs;refine⟨sA,?_⟩;simp -implicitDefEqProofs only[pY,go_sem]
  done
 ·rw[hlen]at hi;obtain⟨h,hh⟩:∃h,(eB 2 2 hole aF)[i]? =some h:=⟨_,qB hi⟩;have Ka:(ml hole aF)[i]=ints h:=by
   have:(ml hole aF)[i]? =some (ints h):=by rw[Fu,qU,hh];rfl
   exact(qK.1 this).2
  rw[Ka];obtain⟨hcd,BR⟩:=RX hc (qE hh);refine ab ?_;refine V (RD h hcd om) (ab ?_);have hm:nK ((eB 2 2 hole aF).take (i+1))=max (nK ((eB 2 2 hole aF).take i)) (gP h:Int):=by
   rw[bG hh,nK,qG,List.map_cons,List.map_nil,QF];rfl
  refine⟨⟨by simp[T.bJ,T.df],trivial⟩,trivial,?_⟩;simp only[kq,gp,rootOf,Ft,hm]
 ·refine ab ?_;rw[hlen,rT]
def fi(n:Nat)(c:Nat->Nat):LI:=fh n fun r=>((c r:Nat):Int)
def gQ(h:k<n):(fi n c)[k]? =some ((c k:Nat):Int):=gj h
def kv:(fi n c).length=n:=fx
def BS(n:Nat):fi n (fun _=>0)=List.replicate n 0:=by
 refine List.ext_getElem? fun k=>?_;by_cases h:k<n
 ·rw[gQ h,rM,if_pos h];rfl
 ·rw[qP (by rw[kv];omega),qP (by simp;omega)]
def BT{d:Nat->Nat}(hk:d k=c k+1)(h:∀j,j≠k->c j=d j):(fi n c).set k ((c k+1:Nat):Int)=fi n d:=
 xL (by rw[hk]) fun j hj=>by rw[h j hj]
def aM5{c:Int}(h:0<=c)(h2:c<52):IntKind.i64.wrap (c.tdiv 4)=((rk c:Nat):Int):=by
 rw[rV h,wrap64 om om,rk];omega
def R1{c:Int}(h:0<=c)(h2:c<52):c.tmod 4=((st c:Nat):Int):=by
 rw[rP h,st];omega
def zh(n:Nat):(((n:Nat):Int)==1)=(n==1):=by
 rw[Bool.eq_iff_iff];simp;omega
def R5(l:LI)(hc:∀x∈l,0<=x/\x<52)(hl:l.length<=1000):FR 214 [.t (ints l)] (ae (fi 13 (cnt l))):=by
 refine as3 sA (ab ?_);refine⟨dc,?_⟩;refine lN (fun i=>St.of [(0,.t (ints l)),(3,.own 95),(4,.t (.i i))] [(95,.arr 1 ((fi 13 (cnt (l.take i))).map T.i))]) (fun i=>i<=l.length) (fun i=>l.length-i) 0 (cH [5] (hr:=?_)) (fun i hi R hn hr he=>?_)
 ·refine rI ?_ trivial;have:fi 13 (cnt (l.take 0))=List.replicate 13 0:=BS 13;rw[this];exact .refl _
 ·rcases qH i l.length with h9|h9
  ·obtain⟨c,hx⟩:∃c,l[i]? =some c:=⟨_,qB h9⟩;obtain⟨hc0,hc1⟩:=hc c (qE hx);have oR:=tL ⟨hc0,hc1⟩;have hA:=gQ (c:=cnt (l.take i)) oR;have br:=Rw (l.take i) (rk c);have hlt:(l.take i).length<=1000:=by rw[qL];omega
   have hw1:IntKind.i64.wrap ((cnt (l.take i) (rk c):Int)+1)=((cnt (l.take i) (rk c)+1:Nat):Int):=by rw[wrap64 om om];omega
   refine aB (c5 hx (dt ((i:Int)<(l.length:Int))) (aM5 hc0 hc1) hA @kv hw1) ?_;refine hn _ (i+1) (aq [95] (aw h9 om) (hr:=?_))
   ·refine rI ?_ trivial;rw[bG hx,←BT (k:=rk c) (c:=cnt (l.take i)) (d:=cnt (l.take i++[c])) (by rw[Fo,if_pos rfl]) (fun j hj=>by rw[Fo,if_neg fun h=>hj h.symm,Nat.add_zero]),List.map_set];exact .refl _
  ·refine aa (dF ((i:Int)<(l.length:Int))) ?_;refine he _ _ (ab ?_);rw[qQ h9];rfl
def aM6(l:LI)(hc:∀x∈l,0<=x/\x<52)(hl:l.length<=1000):FR 216 [.t (ints l)] (ae (fi 4 (num l))):=by
 refine as5 sA (ab ?_);refine⟨dc,?_⟩;refine lN (fun i=>St.of [(0,.t (ints l)),(3,.own 95),(4,.t (.i i))] [(95,.arr 1 ((fi 4 (num (l.take i))).map T.i))]) (fun i=>i<=l.length) (fun i=>l.length-i) 0 (cH [5] (hr:=?_)) (fun i hi R hn hr he=>?_)
 ·refine rI ?_ trivial;have:fi 4 (num (l.take 0))=List.replicate 4 0:=BS 4;rw[this];exact .refl _
 ·rcases qH i l.length with h9|h9
  ·obtain⟨c,hx⟩:∃c,l[i]? =some c:=⟨_,qB h9⟩;obtain⟨hc0,hc1⟩:=hc c (qE hx);have oR:=xB c;have hA:=gQ (c:=num (l.take i)) oR;have br:=Fq (l.take i) (st c);have hlt:(l.take i).length<=1000:=by rw[qL];omega
   have hw1:IntKind.i64.wrap ((num (l.take i) (st c):Int)+1)=((num (l.take i) (st c)+1:Nat):Int):=by rw[wrap64 om om];omega
   refine aB (c5 hx (dt ((i:Int)<(l.length:Int))) (R1 hc0 hc1) hA @kv hw1) ?_;refine hn _ (i+1) (aq [95] (aw h9 om) (hr:=?_))
   ·refine rI ?_ trivial;rw[bG hx,←BT (k:=st c) (c:=num (l.take i)) (d:=num (l.take i++[c])) (by rw[Fp,if_pos rfl]) (fun j hj=>by rw[Fp,if_neg fun h=>hj h.symm,Nat.add_zero]),List.map_set];exact .refl _
  ·refine aa (dF ((i:Int)<(l.length:Int))) ?_;refine he _ _ (ab ?_);rw[qQ h9];rfl
def R6(ks:LN)(h5:ks.length<=5)(hk:∀x∈ks,x<13):Pr 209 [ints (eW ks)] (.i (aS 0 ks)):=by
 refine ar8 sA (ab ?_);have mK:(eW ks).length=ks.length:=by simp[eW]
 refine lN (fun i=>St.of [(0,.t (ints (eW ks))),(3,.t (.i (aS 0 (ks.take i)))),(4,.t (.i i))] []) (fun i=>i<=ks.length) (fun i=>ks.length-i) 0 (aj.o _ [] [] ?_ trivial) (fun i hi R hn hr he=>?_)
 ·refine ij ?_;exact .inr (.inl rfl)
 ·rcases qH i ks.length with h9|h9
  ·obtain⟨k,hx⟩:∃k,ks[i]? =some k:=⟨_,qB h9⟩;have hx':(eW ks)[i]? =some (k:Int):=by rw[eW,qU,hx];rfl
   have hkk:=hk k (qE hx);have hb:=vq (a:=0) (ks:=ks.take i) om (by rw[qL];omega) fun x h=>hk x (rU h);have hw1:IntKind.i64.wrap (13*(aS 0 (ks.take i):Int))=((aS 0 (ks.take i)*13:Nat):Int):=by rw[wrap64 om om];omega
   have dr:IntKind.i64.wrap (((aS 0 (ks.take i)*13:Nat):Int)+(k:Int))=((aS 0 (ks.take (i+1)):Nat):Int):=by rw[wrap64 om om,bG hx,xK];omega
   refine aB (bM hx' mK (dt ((i:Int)<(ks.length:Int))) hw1 dr) ?_;refine hn _ (i+1) (aj.o _ [] [] ?_ trivial);exact bZ (aw h9 om) trivial
  ·refine aa (ah mK (dF ((i:Int)<(ks.length:Int)))) ?_;refine he _ _ (ab ?_);rw[qQ h9]
def ql(c:Nat->Nat):Int:=match jX c with|some t=>(t:Nat)|none=> -1
def R7(c:Nat->Nat):Pr 215 [ints (fi 13 c)] (.i (ql c)):=by
 refine as4 sA (ab ?_);refine lN (fun j=>St.of [(0,.t (ints (fi 13 c))),(3,.t (.i ((12-j:Nat):Int)))] []) (fun j=>j<=9/\∀i,i<j->fN (fun r=>c r==1) (12-i)=false) (fun j=>9-j) 0 (aj.o _ [] [] ?_ trivial) (fun j hj R hn hr he=>?_) (hi:=⟨om,fun i h=>om⟩)
 ·refine ij ?_;exact .inr (.inl rfl)
 ·obtain⟨hj,hall⟩:=hj;rcases qH j 9 with h9|h9
  ·have e4:IntKind.i64.wrap (((12-j:Nat):Int)-4)=((12-j-4:Nat):Int):=by rw[wrap64 om om];omega
   have e1:IntKind.i64.wrap (((12-j:Nat):Int)-1)=((12-j-1:Nat):Int):=by rw[wrap64 om om];omega
   have e2:IntKind.i64.wrap (((12-j:Nat):Int)-2)=((12-j-2:Nat):Int):=by rw[wrap64 om om];omega
   have e3:IntKind.i64.wrap (((12-j:Nat):Int)-3)=((12-j-3:Nat):Int):=by rw[wrap64 om om];omega
   have a0:=gQ (n:=13) (c:=c) (k:=12-j) om;have a1:=gQ (n:=13) (c:=c) (k:=12-j-1) om;have a2:=gQ (n:=13) (c:=c) (k:=12-j-2) om;have a3:=gQ (n:=13) (c:=c) (k:=12-j-3) om;have a4:=gQ (n:=13) (c:=c) (k:=12-j-4) om;refine aa (xm (dt (((12-j:Nat):Int)≥ 4)) e1 e2 e3 e4 a0 a1 a2 a3 a4 @kv @zh) ?_
   repeat' (first|apply And.intro|intro _)
   all_goals (first|omega|skip)
   all_goals first
    |(refine hr _ ?_
      have hrun:fN (fun r=>c r==1) (12-j)=true:=(by simp_all[fN]);have hf:oQ.find? (fN fun r=>c r==1)=some (12-j):=JV (zc h9) hrun fun i y hi hy=>by
       rw[zc om]at hy;cases hy;exact hall i hi
      have hs:jX c=some (12-j):=by
       unfold jX;rw[show([12,11,10,9,8,7,6,5,4]:LN)=oQ from rfl,hf]
      simp -implicitDefEqProofs only[c8,go_sem,ql,hs])
    |(have hrun:fN (fun r=>c r==1) (12-j)=false:=by simp_all[fN]
      refine hn _ (j+1) (eU (show 12-(j+1)=12-j-1 by omega)) ⟨om,fun i hi=>?_⟩
      ·rcases qH i j with h|h
       ·exact hall i h
       ·rw[show i=j by omega];exact hrun)
  ·have JW:j=9:=om;subst JW;have a0:=gQ (n:=13) (c:=c) (k:=0) om;have a1:=gQ (n:=13) (c:=c) (k:=1) om;have a2:=gQ (n:=13) (c:=c) (k:=2) om;have a3:=gQ (n:=13) (c:=c) (k:=3) om;have a4:=gQ (n:=13) (c:=c) (k:=12) om;refine aa (dF (((12-9:Nat):Int)≥ 4)) ?_;refine he _ _ ?_;have hno:oQ.find? (fN fun r=>c r==1)=none:=Rq fun i y hy=>by
    have hi:i<9:=by have:=(qK.1 hy).1;simpa[oQ]using this
    rw[zc hi]at hy;cases hy;exact hall i hi
   have hs:jX c=if kV (fun r=>c r==1)then some 3 else none:=by
    unfold jX;rw[show([12,11,10,9,8,7,6,5,4]:LN)=oQ from rfl,hno]
   refine aa (dZ a0 a1 a2 a3 a4 @kv @zh) ?_
   repeat' (first|apply And.intro|intro _)
   all_goals first
    |(have hw:kV (fun r=>c r==1)=true:=by simp_all[kV]
      rw[ql,hs,hw];rfl)
    |(have hw:kV (fun r=>c r==1)=false:=by simp_all[kV]
      rw[ql,hs,hw];rfl)
def R8:LN:=[4,3,2,1]
def aM7(h:j<4):R8[j]? =some (4-j):=by
 have:j=0∨j=1∨j=2∨j=3:=om;rcases this with rfl|rfl|rfl|rfl<;>rfl
def dE(c:Nat->Nat)(n k:Nat):LN:=((mY.take k).filter fun r=>c r==n).flatMap (List.replicate n)
def eX(c:Nat->Nat)(j:Nat):LN:=(R8.take j).flatMap fun n=>dE c n 13
def BU(h:k<13):dE c n (k+1)=dE c n k++if c (12-k)=n then List.replicate n (12-k)else []:=by
 rw[dE,bG (Fm h),List.filter_append,List.flatMap_append,dE];by_cases hm:c (12-k)=n<;>simp[hm]
def zi(h:j<4):eX c (j+1)=eX c j++dE c (4-j) 13:=by
 rw[eX,bG (aM7 h),List.flatMap_append,eX];simp
def aM8(l:LN):l.flatMap (List.replicate 1)=l:=by
 induction l with
 |nil=>rfl
 |cons a l ih=>rw[List.flatMap_cons,ih];rfl
def Fv(c:Nat->Nat):eX c 4=tN c:=by
 have e:∀n,dE c n 13=(ba c n).flatMap (List.replicate n):=fun n=>rfl;show dE c 4 13++(dE c 3 13++(dE c 2 13++(dE c 1 13++[])))=_;rw[e,e,e,e,aM8,List.append_nil];rfl
def Kb(h:n<=4):(dE c n k).length<=52:=by
 rw[dE,List.length_flatMap];have:∀L:LN,(L.map fun a=>(List.replicate n a).length).sum=L.length*n:=by
  intro L;induction L with
  |nil=>simp
  |cons a L ih=>rw[List.map_cons,rZ,ih,List.length_replicate,List.length_cons,Nat.succ_mul,Nat.add_comm]
 rw[this];have h1:=List.length_filter_le (fun r=>c r==n) (mY.take k);have h2:(mY.take k).length<=13:=by rw[qL];exact Nat.min_le_right _ _
 have:=Nat.mul_le_mul (rA h1 h2) h;omega
def R9(h:j<=4):(eX c j).length<=52*4:=by
 have:∀j,j<=4->(eX c j).length<=52*j:=by
  intro j;induction j with
  |zero=>intro _;simp[eX]
  |succ j ih=>
   intro hj;have:=ih om;have:=Kb (c:=c) (n:=4-j) (k:=13) om;rw[zi om,qD];omega
 have:=this j h;omega
def zj(r t:Nat):List.replicate (t+1) r=List.replicate t r++[r]:=by rw[List.replicate_succ']
def aM9(l:LI)(hc:∀x∈l,0<=x/\x<52)(hl:l.length<=1000):FR 210 [.t (ints l)] (ae (eW (mZ (cnt l)))):=by
 refine ar9 sA (ab ?_);refine Rx (R5 l hc hl) (aP ?_);have hst:=R7 (cnt l);generalize cnt l=c at hst;refine Px hst (ab ?_) (au:=[9]);refine⟨fun h=>?_,fun h=>?_⟩
 ·have hs:jX c=some 3:=by
   have h:ql c=3:=sU h;unfold ql at h;cases hs:jX c with
   |none=>rw[hs]at h;simp at h
   |some t=>rw[hs]at h;simp at h;have h:t=3:=om
            rw[h]
  rw[mZ,if_pos hs];rfl
 ·have hs:¬jX c=some 3:=fun e=>by rw[ql,e]at h;simp at h
  have hk:mZ c=tN c:=by rw[mZ,if_neg hs];rfl
  refine lN (fun j=>St.of [(3,.own 93),(4,.own 94),(5,.t (.i ((4-j:Nat):Int)))] [(93,ae (fi 13 c)),(94,.arr 1 ((eW (eX c j)).map T.i))]) (fun j=>j<=4) (fun j=>4-j) 0 (aj.o _ _ [some 9,some 14] ?_ ?_) (fun j hj R hn hr he=>?_)
  ·refine ij ?_;exact .inr (.inl rfl)
  ·exact rB (rB trivial)
  ·rcases qH j 4 with h9|h9
   ·refine aa (dt (((4-j:Nat):Int)≥ 1)) ?_;refine lN (fun k=>St.of [(3,.own 93),(4,.own 94),(5,.t (.i ((4-j:Nat):Int))),(6,.t (.i (12-(k:Int))))] [(93,ae (fi 13 c)),(94,.arr 1 ((eW (eX c j++dE c (4-j) k)).map T.i))]) (fun k=>k<=13) (fun k=>13-k) 0 (aj.o _ _ [some 93,some 94] ?_ ?_) (fun k hk2 R2 hn2 cP cL=>?_)
    ·refine ij ?_;exact .inr (.inl rfl)
    ·refine rB (rI ?_ trivial);rw[show dE c (4-j) 0=[] from rfl,List.append_nil];exact .refl _
    ·rcases qH k 13 with h8|h8
     ·have ek:(12-(k:Int))=((12-k:Nat):Int):=om;have hA:=gQ (n:=13) (c:=c) (k:=12-k) om;refine aa (ah ek (dt (((12-k:Nat):Int)≥ 0))) ?_;refine lN (fun t=>St.of [(3,.own 93),(4,.own 94),(5,.t (.i ((4-j:Nat):Int))),(6,.t (.i ((12-k:Nat):Int))),(7,.t (.i t))] [(93,ae (fi 13 c)),(94,.arr 1 ((eW ((eX c j++dE c (4-j) k)++List.replicate t (12-k))).map T.i))]) (fun t=>t<=4-j/\(t=0∨c (12-k)=4-j)) (fun t=>4-j-t) 0 (cH [93,94] (hr:=?_)) (fun t ht R3 nG tz mj=>?_)
      ·refine rB (rI ?_ trivial);rw[List.replicate_zero,List.append_nil];exact .refl _
      ·obtain⟨ht1,ht2⟩:=ht;have kh:=R9 (c:=c) (j:=j) hj;have hgk:=Kb (c:=c) (n:=4-j) (k:=k) om;have nv:(eW ((eX c j++dE c (4-j) k)++List.replicate t (12-k))).length<=1000:=by simp[eW];omega
       have tR:IntKind.i64.wrap (((12-k:Nat):Int)-1)=12-((k+1:Nat):Int):=by rw[wrap64 om om];omega
       have eR:=BU (c:=c) (n:=4-j) h8;rcases qH t (4-j)with h7|h7
       ·by_cases hm:c (12-k)=4-j
        ·have hb:(((c (12-k):Nat):Int)==((4-j:Nat):Int))=true:=by rw[hm];exact beq_self_eq_true _
         refine aB (bM (dt ((t:Int)<((4-j:Nat):Int))) hA @kv hb @ae.eq_1) ?_;refine nG _ (t+1) (aq [93,39] (aw h7 om) (hr:=?_)) ⟨om,.inr hm⟩
         ·refine rB (rI ?_ trivial);rw[zj,←qW];simp only[eW,qG];exact .refl _
        ·have hb:(((c (12-k):Nat):Int)==((4-j:Nat):Int))=false:=by rw[beq_eq_false_iff_ne];omega
         have EA:=ht2.resolve_right hm;subst EA;refine aB (bM (dt (((0:Nat):Int)<((4-j:Nat):Int))) hA @kv hb @ae.eq_1) ?_;refine mj _ _ (aa tR ?_);refine hn2 _ (k+1) (cH [93,94] (hr:=?_))
         ·refine rB (rI ?_ trivial);rw[eR,if_neg hm,List.append_nil];exact .refl _
       ·have hm:c (12-k)=4-j:=ht2.resolve_left om;refine aa (dF ((t:Int)<((4-j:Nat):Int))) ?_;refine mj _ _ (aa tR ?_);refine hn2 _ (k+1) (cH [93,94] (hr:=?_))
        ·refine rB (rI ?_ trivial);rw[eR,if_pos hm,show t=4-j by omega,qW];exact .refl _
     ·refine aa (dF (12-(k:Int)≥ 0)) ?_;refine cL _ _ ?_;have qk:IntKind.i64.wrap (((4-j:Nat):Int)-1)=((4-(j+1):Nat):Int):=by rw[wrap64 om om];omega
      refine aa qk ?_;refine hn _ (j+1) (cH [93,94] (hr:=?_))
      ·refine rB (rI ?_ trivial);rw[zi h9,show k=13 by omega];exact .refl _
   ·refine aa (dF (((4-j:Nat):Int)≥ 1)) ?_;refine he _ _ (ab ?_);rw[show j=4 by omega,hk,Fv];rfl
def hU(c:Nat->Nat)(j n:Nat):Nat:=(List.range j).countP fun r=>c r==n
def Fw(c:Nat->Nat)(j n:Nat):hU c (j+1) n=hU c j n+if c j=n then 1 else 0:=by
 rw[hU,List.range_succ,List.countP_append,hU,List.countP_singleton];simp
def R_(c:Nat->Nat)(j n:Nat):hU c j n<=j:=by
 have:=List.countP_le_length (l:=List.range j) (p:=fun r=>c r==n);simpa[hU]using this
def Sa(c:Nat->Nat)(n:Nat):hU c 13 n=(ba c n).length:=by
 have e:mY=(List.range 13).reverse:=rfl;rw[hU,ba,cA,e,List.filter_reverse,List.length_reverse,List.countP_eq_length_filter]
def aN0(n:Nat):(((n:Nat):Int)==2)=(n==2):=by
 rw[Bool.eq_iff_iff];simp;omega
def aN1(l:LI)(hl:ce l)(h5:l.length=5):Pr 208 [ints l] (.i (qb (cnt l) (dn l).isSome)):=by
 obtain⟨x0,hx0⟩:∃x0,l[0]? =some x0:=⟨_,qB om⟩;have Sb:=qE hx0;obtain⟨aN2,aN3⟩:=hl.2 x0 Sb;have hfl:=aC0 h5 Sb;have hnl:=Fq l (st x0);have As:=gQ (n:=4) (c:=num l) (k:=st x0) (xB x0);refine ar7 sA (ab ?_);refine Rx (R5 l hl.2 om) (aP ?_);refine⟨dc,?_⟩;have Fy:=oL hl;have hst:=R7 (cnt l);generalize cnt l=c at hst Fy;refine lN (fun j=>St.of [(0,.t (ints l)),(3,.own 93),(4,.own 94),(5,.t (.i j))] [(93,ae (fi 13 c)),(94,.arr 1 ((fi 5 (hU c j)).map T.i))]) (fun j=>j<=13) (fun j=>13-j) 0 (cH [9,10] (hr:=?_)) (fun j hj R hn hr he=>?_)
 ·refine rB (rI ?_ trivial);have:fi 5 (hU c 0)=List.replicate 5 0:=BS 5;rw[this];exact .refl _
 ·rcases qH j 13 with h9|h9
  ·have hA:=gQ (n:=13) (c:=c) (k:=j) h9;have nz:=Fy j;have hB:=gQ (n:=5) (c:=hU c j) (k:=c j) om;have hle:=R_ c j (c j);have hw1:IntKind.i64.wrap ((hU c j (c j):Int)+1)=((hU c j (c j)+1:Nat):Int):=by rw[wrap64 om om];omega
   refine aB (c5 (dt ((j:Int)<13)) hA hB @kv hw1 @ae.eq_1) ?_;refine hn _ (j+1) (aq [93,94] (aw h9 om) (hr:=?_))
   ·refine rB (rI ?_ trivial);rw[←BT (k:=c j) (c:=hU c j) (d:=hU c (j+1)) (by rw[Fw,if_pos rfl]) (fun n hn=>by rw[Fw,if_neg fun h=>hn h.symm,Nat.add_zero]),List.map_set];exact .refl _
  ·refine aa (dF ((j:Int)<13)) ?_;refine he _ _ ?_;rw[show j=13 by omega];have hg:fi 5 (hU c 13)=fi 5 (fun n=>(ba c n).length):=(by rw[show hU c 13=fun n=>(ba c n).length from funext fun n=>Sa c n]);rw[hg];refine ab ?_;refine Hx (aM6 l hl.2 om) (bu (bM @ae.eq_1 hx0 (R1 aN2 aN3) As @kv) ?_);have Bj:=xB x0;refine⟨om,om,om,om,om,om,?_⟩;have g4:=gQ (n:=5) (c:=fun n=>(ba c n).length) (k:=4) om;have g3:=gQ (n:=5) (c:=fun n=>(ba c n).length) (k:=3) om;have g2:=gQ (n:=5) (c:=fun n=>(ba c n).length) (k:=2) om;rw[hfl];cases hs:jX c with
   |some t=>
    have hz:ql c=(t:Int):=(by rw[ql,hs]);by_cases h6:num l (st x0)=5
    ·have oT:(((num l (st x0):Nat):Int)==5)=true:=by rw[h6];rfl
     refine Px hst (aa (bf hz oT (dt ((t:Int)≥ 0)) @kv) ?_) (au:=[93]);have RY:qb c (decide (num l (st x0)=5))=8:=by rw[decide_eq_true h6];simp[qb,hs]
     rw[RY];rfl
    ·have oT:(((num l (st x0):Nat):Int)==5)=false:=by rw[beq_eq_false_iff_ne];omega
     refine Px hst (aa (jz hz oT (dt ((t:Int)≥ 0)) @kv g4 g3 g2 @zh) ?_) (au:=[93]);rw[decide_eq_false h6]
     repeat' (first|apply And.intro|intro _)
     all_goals simp_all[qb]
   |none=>
    have hz:ql c= -1:=(by rw[ql,hs]);by_cases h6:num l (st x0)=5
    ·have oT:(((num l (st x0):Nat):Int)==5)=true:=by rw[h6];rfl
     refine Px hst (aa (jz hz oT (dF ((-1:Int)≥ 0)) @kv g4 g3 g2 @zh) ?_) (au:=[93]);rw[decide_eq_true h6]
     repeat' (first|apply And.intro|intro _)
     all_goals simp_all[qb]
    ·have oT:(((num l (st x0):Nat):Int)==5)=false:=by rw[beq_eq_false_iff_ne];omega
     refine Px hst (aa (tC hz oT (dF ((-1:Int)≥ 0)) @kv g4 g3 g2 @zh @aN0) ?_) (au:=[93]);rw[decide_eq_false h6]
     repeat' (first|apply And.intro|intro _)
     all_goals simp_all[qb]
def aN4(c:Nat->Nat):∀x∈mZ c,x<13:=by
 intro x hx;unfold mZ at hx;have hg:∀n y,y∈ba c n->y<13:=fun n y h=>(jB.1 h).1;split at hx
 ·simp at hx;omega
 ·simp only[qI,List.mem_flatMap,List.mem_replicate]at hx;rcases hx with⟨a,h1,h2⟩|⟨a,h1,h2⟩|⟨a,h1,h2⟩|h
  ·rw[h2.2];exact hg _ _ h1
  ·rw[h2.2];exact hg _ _ h1
  ·rw[h2.2];exact hg _ _ h1
  ·exact hg _ _ h
def vy:∀{L:LN},(∀r∈L,c r=n)->(L.map c).sum=L.length*n:=by
 intro L;induction L with
 |nil=>simp
 |cons a L ih=>
  intro h;rw[List.map_cons,rZ,ih fun r hr=>h r (by simp[hr]),h a sA,List.length_cons,Nat.succ_mul,Nat.add_comm]
def Sd:∀{L:LN},(L.flatMap (List.replicate n)).length=L.length*n:=by
 intro L;induction L with
 |nil=>simp
 |cons a L ih=>rw[List.flatMap_cons,qD,ih,List.length_replicate,List.length_cons,Nat.succ_mul,Nat.add_comm]
def oU(h:r∈ba c n):c r=n:=sU ((jB.1 h).2)
def aN5(h5:l.length=5):(mZ (cnt l)).length<=5:=by
 unfold mZ;split
 ·simp
 ·have hn:(ba (cnt l) 4++(ba (cnt l) 3++(ba (cnt l) 2++ba (cnt l) 1))).Nodup:=by
   have hne:∀{n m:Nat},n≠m->∀x∈ba (cnt l) n,x∉ba (cnt l) m:=fun hnm x hx hy=>hnm ((oU hx).symm.trans (oU hy));simp only[rC,qI];refine⟨mg _,⟨mg _,⟨mg _,mg _,?_⟩,?_⟩,?_⟩
   ·intro x hx y hy e;subst e;exact hne om x hx hy
   ·intro x hx y hy e;subst e;rcases hy with hy|hy
    ·exact hne om x hx hy
    ·exact hne om x hx hy
   ·intro x hx y hy e;subst e;rcases hy with hy|hy|hy
    ·exact hne om x hx hy
    ·exact hne om x hx hy
    ·exact hne om x hx hy
  have hs:=vj (l:=l) hn;simp only[qG,List.sum_append]at hs;rw[vy fun r=>oU,vy fun r=>oU,vy fun r=>oU,vy fun r=>oU]at hs;simp only[qD,Sd];omega
def Se(l:LI)(hl:ce l)(h5:l.length=5):Pr 182 [ints l] (.i (gP l)):=by
 have hv:=aB9 hl h5;have bV:=aM3 hl om;have dW:=aN4 (cnt l);have hk:=aN5 h5;refine ap6 sA (ab ?_);refine Px (aN1 l hl h5) (ab ?_);refine Rx (aM9 l hl.2 om) (aP ?_);refine Px (R6 _ hk dW) (ab ?_) (au:=[7]);have h8:qb (cnt l) (dn l).isSome<=8:=by unfold qb;repeat' (first|omega|split)
 rw[y7]at hv;rw[wrap64 (n:=371293*_) om om,wrap64 om om,←hv];show T.i _=T.i _;rw[Int.natCast_add,Int.natCast_mul];rfl
def k5(l:LI)(k:Nat):Nat->LL
 |0=>[]
 |i+1=>k5 l k i++(cZ (l.drop (i+1)) k).map (l.getD i 0:: ·)
def Sf(x:Int)(l:LI)(k:Nat):∀i,k5 (x::l) k (i+1)=(cZ l k).map (x:: ·)++k5 l k i
 |0=>by simp[k5]
 |i+1=>by rw[k5,Sf x l k i,k5,qW];simp
def Kd:∀(l:LI) (k:Nat),k5 l k l.length=cZ l (k+1)
 |[],k=>rfl
 |x::l,k=>by rw[List.length_cons,Sf,Kd l k,cZ]
def Ke(l:LI)(k:Nat):∀n i,i+n=l.length->(k5 l k i).length<=(cZ l (k+1)).length
 |0,i,h=>by rw[←Kd,show i=l.length by omega];exact qR _
 |n+1,i,h=>by
  have:=Ke l k n (i+1) om;rw[k5,qD]at this;omega
def Sg{l:LI}{k:Nat}:∀n i,i+n=l.length->l.length<i+(k+1)->k5 l k i=cZ l (k+1)
 |0,i,h,_=>by rw[←Kd,show i=l.length by omega]
 |n+1,i,h,h2=>by
  rw[←Sg n (i+1) om om,k5,aC2 (by simp;omega)];simp
def Kf:∀(k:Nat) (l:LI),(l.length+1)^k<=60000->l.length<=1000->k<=100->FA 181 [] [.t (ints l),.t (.i k)] fun o r=>o=[]/\r=a_ (cZ l k)
 |0,l,_,hd,_=>by
  refine Pm sA (ab ?_);exact⟨fun _=>by cases l<;>rfl,fun h=>by simp at h⟩
 |k+1,l,hp,hd,hk=>by
  refine Pm sA (ab ?_);refine⟨fun h=>by simp at h;omega,fun _=>?_⟩;have hcp:=Ju l (k+1);refine lN (fun i=>St.of [(0,.t (ints l)),(1,.t (.i (k+1:Nat))),(5,.own 77),(6,.t (.i i))] [(77,a_ (k5 l k i))]) (fun i=>i<=l.length) (fun i=>l.length-i) 0 (cH [13]) (fun i hi R hn hr he=>?_)
  ·have hw1:IntKind.i64.wrap ((i:Int)+((k+1:Nat):Int))=((i+(k+1):Nat):Int):=by rw[wrap64 om om];omega
   have dr:IntKind.i64.wrap ((i:Int)+1)=((i+1:Nat):Int):=by rw[wrap64 om om];omega
   have lP:IntKind.i64.wrap (((k+1:Nat):Int)-1)=(k:Int):=by rw[wrap64 om om];omega
   rcases qH l.length (i+(k+1))with h9|h9
   ·refine aa (ah hw1 (decide_eq_false (show¬((i+(k+1):Nat):Int)<=(l.length:Int) by omega))) ?_;refine he _ _ (ab ?_);rw[←Sg (l.length-i) i om h9]
   ·obtain⟨x,hx⟩:∃x,l[i]? =some x:=⟨_,qB om⟩;have dM:l.getD i 0=x:=by rw[qA,hx];rfl
    have Fz:List.take (l.length-(i+1)) (List.drop (i+1) (List.map T.i l))=List.map T.i (l.drop (i+1)):=by
     rw[←List.map_drop,qQ sA]
    simp -implicitDefEqProofs only[c8,go_sem,hw1,dr,lP,Fz,decide_eq_true (show((i+(k+1):Nat):Int)<=(l.length:Int) by omega),if_pos (show(0:Int)<=((i+1:Nat):Int) by omega)];refine⟨om,om,?_⟩;have kw:=Kf k (l.drop (i+1)) (by
     have h1:((l.drop (i+1)).length+1)^k<=(l.length+1)^k:=Nat.pow_le_pow_left (by rw[List.length_drop];omega) k;have h2:(l.length+1)^k<=(l.length+1)^(k+1):=Nat.pow_le_pow_right om om;omega) (by simp;omega) om
    refine Rx kw (aP ?_);have eZ:=Ke l k (l.length-i) i om;have Kg:k5 l k (i+1)=k5 l k i++(cZ (l.drop (i+1)) k).map (x:: ·):=(by rw[k5,dM]);have mR:=Ke l k (l.length-(i+1)) (i+1) om;have hlen:∀c∈cZ (l.drop (i+1)) k,c.length=k:=fun c hc=>(vk.1 hc).2;generalize hcs:cZ (l.drop (i+1)) k=cs at Kg hlen ⊢;rw[Kg,qD,qJ]at mR;refine lN (fun j=>St.of [(0,.t (ints l)),(1,.t (.i (k+1:Nat))),(5,.own 77),(6,.t (.i i)),(7,.t (rows cs)),(8,.t (.i j))] [(77,a_ (k5 l k i++(cs.take j).map (x:: ·)))]) (fun j=>j<=cs.length) (fun j=>cs.length-j) 0 (wT (wS 28) (aq [77] (ah @zA @IH) (hr:=?_))) (fun j hj R2 hn2 cP cL=>?_)
    ·exact rK rfl (by simp;exact .refl _) trivial
    ·have jN:(k5 l k i++(cs.take j).map (x:: ·)).length<=2^17:=by
      rw[qD,qJ,qL];omega
     rcases qH j cs.length with h8|h8
     ·obtain⟨c,hc⟩:∃c,cs[j]? =some c:=⟨_,qB h8⟩;have yH:=hlen c (qE hc);refine aB (bf hc hx @a_.eq_1 (dt ((j:Int)<(cs.length:Int)))) ?_;refine hn2 _ (j+1) (aj.o _ _ [some 47] ?_ ?_)
      ·exact bZ (aw h8 om) trivial
      ·refine rI ?_ trivial;rw[bG hc];simp only[a_,qG,qW];exact .refl _
     ·refine aa (dF ((j:Int)<(cs.length:Int))) ?_;refine cL _ _ (aa dr ?_);refine hn _ (i+1) (cH [77] (hr:=?_))
      ·refine rI ?_ trivial;rw[show j=cs.length by omega,rT,Kg];exact .refl _
def Kh(h lo hi:Nat)(b:Bool)(lw:Int):T:=.agg [.i h,.i lo,.i hi,.i 5,.b b,.i lw]
def nL(A B:LL):LL:=A.flatMap fun a=>B.map (a++ ·)
def Sh(A B:LL):(nL A B).length=A.length*B.length:=RR fun x _=>by rw[qJ]
def aN6{A B:LL}{p:Nat}{a:LI}(h:A[p]? =some a):nL (A.take (p+1)) B=nL (A.take p) B++B.map (a++ ·):=by
 rw[bG h,nL,List.flatMap_append,nL];simp
def sJ(lo:Nat)(hole aF:LI):Nat->LL
 |0=>[]
 |i+1=>sJ lo hole aF i++nL (cZ hole (lo+i)) (cZ aF (5-(lo+i)))
def Si(lo hi:Nat)(hole aF:LI):sJ lo hole aF (hi+1-lo)=eB lo hi hole aF:=by
 rw[eB];generalize hi+1-lo=n;induction n with
 |zero=>rfl
 |succ n ih=>rw[sJ,ih,List.range_succ,List.flatMap_append];simp[nL]
def Ki{lo:Nat}{hole aF:LI}(h1:hole.length<=5)(h2:aF.length<=5):∀i,(sJ lo hole aF i).length<=i*1024
 |0=>by simp[sJ]
 |i+1=>by
  have:=Ki (lo:=lo) h1 h2 i;have ha:=y9 hole (lo+i);have hb:=y9 aF (5-(lo+i));have Jt:2^hole.length<=32:=rA (Nat.pow_le_pow_right om h1) dc;have h33:2^aF.length<=32:=rA (Nat.pow_le_pow_right om h2) dc;have:=Nat.mul_le_mul (rA ha Jt) (rA hb h33);rw[sJ,qD,Sh];omega
def aN7(h lo hi:Nat)(b:Bool)(lw:Int)(hole aF:LI)(h1:hole.length<=5)(h2:aF.length<=5)(hlo:lo<=hi)(hhi:hi<=5):
  FA 123 [] [.t (Kh h lo hi b lw),.t (ints hole),.t (ints aF)] fun o r=>o=[]/\r=a_ (eB lo hi hole aF):=by
 refine ak8 sA (aa @Kh.eq_1 ?_);refine lN (fun i=>St.of [(1,.t (ints hole)),(2,.t (ints aF)),(3,.own 93),(7,.own 97),(8,.t (.i (lo+i:Nat)))] [(93,.box [.i h,.i lo,.i hi,.i 5,.b b,.i lw]),(97,a_ (sJ lo hole aF i))]) (fun i=>lo+i<=hi+1) (fun i=>hi+1-i) 0 (aq [3,13] @Nat.add_zero) (fun i hin R hn hr he=>?_)
 ·rcases qH hi (lo+i)with h9|h9
  ·refine aa (dF (((lo+i:Nat):Int)<=(hi:Int))) ?_;refine he _ _ (ab ?_);rw[←Si,show i=hi+1-lo by omega]
  ·have hw1:IntKind.i64.wrap (5-((lo+i:Nat):Int))=((5-(lo+i):Nat):Int):=by rw[wrap64 om om];omega
   have dr:IntKind.i64.wrap (((lo+i:Nat):Int)+1)=((lo+(i+1):Nat):Int):=by rw[wrap64 om om];omega
   refine aa (ay (dt (((lo+i:Nat):Int)<=(hi:Int))) hw1 (decide_eq_false (show¬((5-(lo+i):Nat):Int)>5 by omega))) ?_;have Sj:∀{x k:Nat},x<=5->k<=5->(x+1)^k<=60000:=fun{x k} hx hk=>rA (Nat.pow_le_pow_left (show x+1<=6 by omega) k) (rA (Nat.pow_le_pow_right om hk) dc);refine Rx (Kf (lo+i) hole (Sj h1 om) om om) (bu hw1 ?_);refine Rx (Kf (5-(lo+i)) aF (Sj h2 om) om om) (aP ?_);have hTl:=Ki (lo:=lo) h1 h2 i;have Sk:∀a∈cZ hole (lo+i),a.length<=5:=fun a ha=>by rw[(vk.1 ha).2];omega
   have kO:∀a∈cZ aF (5-(lo+i)),a.length<=5:=fun a ha=>by rw[(vk.1 ha).2];omega
   have hA2:(cZ hole (lo+i)).length<=32:=rA (y9 _ _) (rA (Nat.pow_le_pow_right om h1) dc);have pW:(cZ aF (5-(lo+i))).length<=32:=rA (y9 _ _) (rA (Nat.pow_le_pow_right om h2) dc);have FB:sJ lo hole aF (i+1)=sJ lo hole aF i++nL (cZ hole (lo+i)) (cZ aF (5-(lo+i))):=rfl;generalize cZ hole (lo+i)=A at Sk hA2 FB ⊢;generalize cZ aF (5-(lo+i))=B at kO pW FB ⊢;generalize sJ lo hole aF i=L at hTl FB ⊢;refine lN (fun p=>St.of [(1,.t (ints hole)),(2,.t (ints aF)),(3,.own 93),(7,.own 97),(8,.t (.i (lo+i:Nat))),(9,.t (rows A)),(10,.t (rows B)),(11,.t (.i p))] [(93,.box [.i h,.i lo,.i hi,.i 5,.b b,.i lw]),(97,a_ (L++nL (A.take p) B))]) (fun p=>p<=A.length) (fun p=>A.length-p) 0 (wT (wS 29) (wT (wS 33) (aq [93,97] (ah @zA @IH) (hr:=?_)))) (fun p hp R2 hn2 cP cL=>?_)
   ·refine rB (rI ?_ trivial);simp[nL];exact .refl _
   ·rcases qH p A.length with h8|h8
    ·obtain⟨a,ha⟩:∃a,A[p]? =some a:=⟨_,qB h8⟩;have lh:=Sk a (qE ha);refine aa (dt ((p:Int)<(A.length:Int))) ?_;refine lN (fun q=>St.of [(1,.t (ints hole)),(2,.t (ints aF)),(3,.own 93),(7,.own 97),(8,.t (.i (lo+i:Nat))),(9,.t (rows A)),(10,.t (rows B)),(11,.t (.i p)),(12,.t (.i q))] [(93,.box [.i h,.i lo,.i hi,.i 5,.b b,.i lw]),(97,a_ ((L++nL (A.take p) B)++(B.take q).map (a++ ·)))]) (fun q=>q<=B.length) (fun q=>B.length-q) 0 (cH [93,97] (hr:=?_)) (fun q hq R3 nG tz mj=>?_)
     ·refine rB (rI ?_ trivial);simp;exact .refl _
     ·rcases qH q B.length with h7|h7
      ·obtain⟨c,hc⟩:∃c,B[q]? =some c:=⟨_,qB h7⟩;have br:=kO c (qE hc);have jN:((L++nL (A.take p) B)++(B.take q).map (a++ ·)).length<=100000:=by
        have h3:(A.take p).length<=32:=by rw[qL];omega
        have h5:(nL (A.take p) B).length<=32*32:=by rw[Sh];exact Nat.mul_le_mul h3 pW
        have h6:((B.take q).map (a++ ·)).length<=32:=by rw[qJ,qL];omega
        rw[qD,qD];omega
       refine aB (ay (dt ((q:Int)<(B.length:Int))) ha @a_.eq_1) ?_;refine Hx (nw a om) (bu (ay hc @ae.eq_1 @ints.eq_1) ?_);refine⟨om,om,om,om,om,?_⟩;refine nG _ (q+1) (aq [93,58] (aw h7 om) (hr:=?_))
       ·refine rB (rI ?_ trivial);rw[bG hc];simp only[a_,ae,qG,List.map_cons,List.map_nil,qW];exact .refl _
      ·refine aa (dF ((q:Int)<(B.length:Int))) ?_;refine mj _ _ (ab ?_);refine hn2 _ (p+1) (aq [93,97] (aw h8 om) (hr:=?_))
       ·refine rB (rI ?_ trivial);rw[show q=B.length by omega,rT,aN6 ha,qW];exact .refl _
    ·refine aa (dF ((p:Int)<(A.length:Int))) ?_;refine cL _ _ (aa dr ?_);refine hn _ (i+1) (cH [93,97] (hr:=?_))
     ·refine rB (rI ?_ trivial);rw[show p=A.length by omega,rT,FB];exact .refl _
def oV(H:LL):Nat->Int×Int
 |0=>(0, -1)
 |j+1=>if(gP (H.getD j []):Int)>(oV H j).2 then((j:Int),(gP (H.getD j []):Int))else oV H j
def Sl(H:LL):∀j,j<=H.length->(oV H j).2=nK (H.take j)
 |0,_=>rfl
 |j+1,h=>by
  obtain⟨x,hx⟩:∃x,H[j]? =some x:=⟨_,qB om⟩;have hg:H.getD j []=x:=by rw[qA,hx];rfl
  have hm:nK (H.take (j+1))=max (nK (H.take j)) (gP x:Int):=by
   rw[bG hx,nK,qG,List.map_cons,List.map_nil,QF];rfl
  have ih:=Sl H j om;rw[hm,oV,hg,←ih];split<;>(try simp only[])<;>omega
def aN8(H:LL)(hH:∀h∈H,ce h/\h.length=5)(hl:H.length<=100000):Pr 124 [rows H] (.aI [.i (oV H H.length).1,.i (nK H)]):=by
 have dz:=Sl H H.length (qR _);rw[rT]at dz;refine ak9 sA (ab ?_);refine lN (fun i=>St.of [(0,.t (rows H)),(4,.t (.i (oV H i).1)),(5,.t (.i (oV H i).2)),(6,.t (.i i))] []) (fun i=>i<=H.length) (fun i=>H.length-i) 0 (aj.o _ [] [] ?_ trivial) (fun i hi R hn hr he=>?_)
 ·refine ij ?_;exact⟨.inr (.inl rfl),.inr (.inl rfl)⟩
 ·rcases qH i H.length with h9|h9
  ·obtain⟨h,hx⟩:∃h,H[i]? =some h:=⟨_,qB h9⟩;obtain⟨hc,h5⟩:=hH h (qE hx);have hg:H.getD i []=h:=by rw[qA,hx];rfl
   have hs:oV H (i+1)=if(gP h:Int)>(oV H i).2 then((i:Int),(gP h:Int))else oV H i:=(by rw[oV,hg]);by_cases hv:(gP h:Int)>(oV H i).2
   ·rw[if_pos hv]at hs;refine aB (ah hx (dt ((i:Int)<(H.length:Int)))) ?_;refine Px (Se h hc h5) (aa (decide_eq_true hv) ?_);exact hn _ (i+1) (eU (ah (aw h9 om) hs))
   ·rw[if_neg hv]at hs;refine aB (ah hx (dt ((i:Int)<(H.length:Int)))) ?_;refine Px (Se h hc h5) (aa (decide_eq_false hv) ?_);exact hn _ (i+1) (eU (ah (aw h9 om) hs))
  ·refine aa (dF ((i:Int)<(H.length:Int))) ?_;refine he _ _ ?_;have e:i=H.length:=om;subst e;refine ab ?_;rw[←dz]
def Sp(l:LI)(r:Nat):du l r<=l.length:=List.countP_le_length
def FC(l:LI)(c:Int)(r:Nat):du (l++[c]) r=du l r+if lk c=r then 1 else 0:=by
 rw[du,List.countP_append,du,List.countP_singleton];simp
def Sq{c:Int}(h:0<=c)(h2:c<52):(IntKind.i64.wrap (IntKind.i64.wrap (c.tdiv 4)+1)).tmod 13=((lk c:Nat):Int):=by
 rw[rV h,wrap64 (n:=c/4) om om,wrap64 om om,rP om,lk];omega
def aN9(c:Int)(h:0<=c)(h2:c<52):Pr 237 [.i c] (.i (lk c:Nat)):=by
 refine at4 sA (aa (Sq h h2) ?_);exact⟨om,om⟩
def aO0(c:Int)(h:0<=c)(h2:c<52):Pr 202 [.i c] (.i (lk c:Nat)):=by
 refine ar3 sA (aa (Sq h h2) ?_);exact⟨om,om⟩
def aO1(l:LI)(hc:∀x∈l,0<=x/\x<52)(hl:l.length<=1000):FR 211 [.t (ints l)] (ae (fi 13 (du l))):=by
 refine as0 sA (ab ?_);refine⟨dc,?_⟩;refine lN (fun i=>St.of [(0,.t (ints l)),(3,.own 95),(4,.t (.i i))] [(95,.arr 1 ((fi 13 (du (l.take i))).map T.i))]) (fun i=>i<=l.length) (fun i=>l.length-i) 0 (cH [5] (hr:=?_)) (fun i hi R hn hr he=>?_)
 ·refine rI ?_ trivial;have:fi 13 (du (l.take 0))=List.replicate 13 0:=BS 13;rw[this];exact .refl _
 ·rcases qH i l.length with h9|h9
  ·obtain⟨c,hx⟩:∃c,l[i]? =some c:=⟨_,qB h9⟩;obtain⟨hc0,hc1⟩:=hc c (qE hx);have oR:=Jr c;have hA:=gQ (c:=du (l.take i)) oR;have br:=Sp (l.take i) (lk c);have hlt:(l.take i).length<=1000:=by rw[qL];omega
   have hw1:IntKind.i64.wrap ((du (l.take i) (lk c):Int)+1)=((du (l.take i) (lk c)+1:Nat):Int):=by rw[wrap64 om om];omega
   refine aB (ah hx (dt ((i:Int)<(l.length:Int)))) ?_;refine Px (aN9 c hc0 hc1) (aB (ay hA @kv hw1) ?_);refine hn _ (i+1) (aq [95] (aw h9 om) (hr:=?_))
   ·refine rI ?_ trivial;rw[bG hx,←BT (k:=lk c) (c:=du (l.take i)) (d:=du (l.take i++[c])) (by rw[FC,if_pos rfl]) (fun j hj=>by rw[FC,if_neg fun h=>hj h.symm,Nat.add_zero]),List.map_set];exact .refl _
  ·refine aa (dF ((i:Int)<(l.length:Int))) ?_;refine he _ _ (ab ?_);rw[qQ h9];rfl
def aO2(c:Nat->Nat):FR 213 [.t (ints (fi 13 c))] (ae (eW (tN c))):=by
 refine as2 sA (ab ?_);refine lN (fun j=>St.of [(0,.t (ints (fi 13 c))),(3,.own 94),(4,.t (.i ((4-j:Nat):Int)))] [(94,.arr 1 ((eW (eX c j)).map T.i))]) (fun j=>j<=4) (fun j=>4-j) 0 (aj.o _ _ [some 7] ?_ ?_) (fun j hj R hn hr he=>?_)
 ·refine ij ?_;exact .inr (.inl rfl)
 ·exact rB trivial
 ·rcases qH j 4 with h9|h9
  ·refine aa (dt (((4-j:Nat):Int)≥ 1)) ?_;refine lN (fun k=>St.of [(0,.t (ints (fi 13 c))),(3,.own 94),(4,.t (.i ((4-j:Nat):Int))),(5,.t (.i (12-(k:Int))))] [(94,.arr 1 ((eW (eX c j++dE c (4-j) k)).map T.i))]) (fun k=>k<=13) (fun k=>13-k) 0 (aj.o _ _ [some 94] ?_ ?_) (fun k hk2 R2 hn2 cP cL=>?_)
   ·refine ij ?_;exact .inr (.inl rfl)
   ·refine rI ?_ trivial;rw[show dE c (4-j) 0=[] from rfl,List.append_nil];exact .refl _
   ·rcases qH k 13 with h8|h8
    ·have ek:(12-(k:Int))=((12-k:Nat):Int):=om;have hA:=gQ (n:=13) (c:=c) (k:=12-k) om;refine aa (ah ek (dt (((12-k:Nat):Int)≥ 0))) ?_;refine lN (fun t=>St.of [(0,.t (ints (fi 13 c))),(3,.own 94),(4,.t (.i ((4-j:Nat):Int))),(5,.t (.i ((12-k:Nat):Int))),(6,.t (.i t))] [(94,.arr 1 ((eW ((eX c j++dE c (4-j) k)++List.replicate t (12-k))).map T.i))]) (fun t=>t<=4-j/\(t=0∨c (12-k)=4-j)) (fun t=>4-j-t) 0 (cH [94] (hr:=?_)) (fun t ht R3 nG tz mj=>?_)
     ·refine rI ?_ trivial;rw[List.replicate_zero,List.append_nil];exact .refl _
     ·obtain⟨ht1,ht2⟩:=ht;have kh:=R9 (c:=c) (j:=j) hj;have hgk:=Kb (c:=c) (n:=4-j) (k:=k) om;have nv:(eW ((eX c j++dE c (4-j) k)++List.replicate t (12-k))).length<=1000:=by simp[eW];omega
      have tR:IntKind.i64.wrap (((12-k:Nat):Int)-1)=12-((k+1:Nat):Int):=by rw[wrap64 om om];omega
      have eR:=BU (c:=c) (n:=4-j) h8;rcases qH t (4-j)with h7|h7
      ·by_cases hm:c (12-k)=4-j
       ·have hb:(((c (12-k):Nat):Int)==((4-j:Nat):Int))=true:=by rw[hm];exact beq_self_eq_true _
        refine aB (bf (dt ((t:Int)<((4-j:Nat):Int))) hA @kv hb) ?_;refine nG _ (t+1) (aq [32] (aw h7 om) (hr:=?_)) ⟨om,.inr hm⟩
        ·refine rI ?_ trivial;rw[zj,←qW];simp only[eW,qG];exact .refl _
       ·have hb:(((c (12-k):Nat):Int)==((4-j:Nat):Int))=false:=by rw[beq_eq_false_iff_ne];omega
        have EA:=ht2.resolve_right hm;subst EA;refine aB (bf (dt (((0:Nat):Int)<((4-j:Nat):Int))) hA @kv hb) ?_;refine mj _ _ (aa tR ?_);refine hn2 _ (k+1) (cH [94] (hr:=?_))
        ·refine rI ?_ trivial;rw[eR,if_neg hm,List.append_nil];exact .refl _
      ·have hm:c (12-k)=4-j:=ht2.resolve_left om;refine aa (dF ((t:Int)<((4-j:Nat):Int))) ?_;refine mj _ _ (aa tR ?_);refine hn2 _ (k+1) (cH [94] (hr:=?_))
       ·refine rI ?_ trivial;rw[eR,if_pos hm,show t=4-j by omega,qW];exact .refl _
    ·refine aa (dF (12-(k:Int)≥ 0)) ?_;refine cL _ _ ?_;have qk:IntKind.i64.wrap (((4-j:Nat):Int)-1)=((4-(j+1):Nat):Int):=by rw[wrap64 om om];omega
     refine aa qk ?_;refine hn _ (j+1) (cH [94] (hr:=?_))
     ·refine rI ?_ trivial;rw[zi h9,show k=13 by omega];exact .refl _
  ·refine aa (dF (((4-j:Nat):Int)≥ 1)) ?_;refine he _ _ (ab ?_);rw[show j=4 by omega,Fv];rfl
def aO3(c:Nat->Nat)(Fy:∀r,c r<=4):Pr 212 [ints (fi 13 c)] (.i (xF c)):=by
 refine as1 sA (ab ?_);refine⟨dc,?_⟩;refine lN (fun j=>St.of [(0,.t (ints (fi 13 c))),(3,.own 94),(4,.t (.i j))] [(94,.arr 1 ((fi 5 (hU c j)).map T.i))]) (fun j=>j<=13) (fun j=>13-j) 0 (cH [5] (hr:=?_)) (fun j hj R hn hr he=>?_)
 ·refine rI ?_ trivial;have:fi 5 (hU c 0)=List.replicate 5 0:=BS 5;rw[this];exact .refl _
 ·rcases qH j 13 with h9|h9
  ·have hA:=gQ (n:=13) (c:=c) (k:=j) h9;have nz:=Fy j;have hB:=gQ (n:=5) (c:=hU c j) (k:=c j) om;have hle:=R_ c j (c j);have hw1:IntKind.i64.wrap ((hU c j (c j):Int)+1)=((hU c j (c j)+1:Nat):Int):=by rw[wrap64 om om];omega
   refine aB (bM (dt ((j:Int)<13)) hA hB @kv hw1) ?_;refine hn _ (j+1) (aq [94] (aw h9 om) (hr:=?_))
   ·refine rI ?_ trivial;rw[←BT (k:=c j) (c:=hU c j) (d:=hU c (j+1)) (by rw[Fw,if_pos rfl]) (fun n hn=>by rw[Fw,if_neg fun h=>hn h.symm,Nat.add_zero]),List.map_set];exact .refl _
  ·refine aa (dF ((j:Int)<13)) ?_;refine he _ _ ?_;rw[show j=13 by omega];have hg:fi 5 (hU c 13)=fi 5 (fun n=>(ba c n).length):=(by rw[show hU c 13=fun n=>(ba c n).length from funext fun n=>Sa c n]);rw[hg];have g4:=gQ (n:=5) (c:=fun n=>(ba c n).length) (k:=4) om;have g3:=gQ (n:=5) (c:=fun n=>(ba c n).length) (k:=3) om;have g2:=gQ (n:=5) (c:=fun n=>(ba c n).length) (k:=2) om;refine aa (bM @kv g4 g3 g2 @zh) ?_
   repeat' (first|apply And.intro|intro _)
   all_goals simp_all[xF]
def aO4(h:∀x∈l,0<=x/\x<52)(hr:r<13):du l r=cnt l ((r+12)%13):=by
 rw[du,cnt];refine List.countP_congr fun x hx=>?_;have:=h x hx;simp only[beq_iff_eq,lk,rk];omega
def aO5(hl:ce l)(r:Nat):du l r<=4:=by
 rcases qH r 13 with h|h
 ·rw[aO4 hl.2 h];exact oL hl _
 ·have:du l r=0:=by
   rw[du,List.countP_eq_zero];intro x _ e;have:=Jr x;have e:lk x=r:=sU e;omega
  omega
def Sr(hs:∀rs:LN,rs.Nodup->(rs.map c).sum<=m):(tN c).length<=m:=by
 have hn:(ba c 4++(ba c 3++(ba c 2++ba c 1))).Nodup:=by
  have hne:∀{n m:Nat},n≠m->∀x∈ba c n,x∉ba c m:=fun hnm x hx hy=>hnm ((oU hx).symm.trans (oU hy));simp only[rC,qI];refine⟨mg _,⟨mg _,⟨mg _,mg _,?_⟩,?_⟩,?_⟩
  ·intro x hx y hy e;subst e;exact hne om x hx hy
  ·intro x hx y hy e;subst e;rcases hy with hy|hy
   ·exact hne om x hx hy
   ·exact hne om x hx hy
  ·intro x hx y hy e;subst e;rcases hy with hy|hy|hy
   ·exact hne om x hx hy
   ·exact hne om x hx hy
   ·exact hne om x hx hy
 have hs:=hs _ hn;simp only[qG,List.sum_append]at hs;rw[vy fun r=>oU,vy fun r=>oU,vy fun r=>oU,vy fun r=>oU]at hs;unfold tN;simp only[qD,Sd];omega
def Ss(c:Nat->Nat):∀x∈tN c,x<13:=by
 intro x hx;unfold tN at hx;have hg:∀n y,y∈ba c n->y<13:=fun n y h=>(jB.1 h).1;simp only[qI,List.mem_flatMap,List.mem_replicate]at hx;rcases hx with⟨a,h1,h2⟩|⟨a,h1,h2⟩|⟨a,h1,h2⟩|h
 ·rw[h2.2];exact hg _ _ h1
 ·rw[h2.2];exact hg _ _ h1
 ·rw[h2.2];exact hg _ _ h1
 ·exact hg _ _ h
def aO6(h5:l.length=5):xF (du l)<=13:=by
 have:(ba (du l) 2).length<=13:=rA (List.length_filter_le _ _) dc;unfold xF
 repeat' (first|omega|split)
def aO7(l:LI)(hl:ce l)(h5:l.length=5):Pr 183 [ints l] (.i (lz l)):=by
 have d_:=Sr (c:=du l) (m:=5) fun rs hr=>h5▸EY hr;have hlt:=Ss (du l);have hp:=aO6 h5;have hk:=vq (a:=0) om d_ hlt;refine ap7 sA (ab ?_);refine Rx (aO1 l hl.2 om) (aP ?_);refine Px (aO3 _ (aO5 hl)) (ab ?_) (au:=[5]);refine Rx (aO2 (du l)) (aP ?_) (au:=[5]) (be:=.inr (dY _));refine Px (R6 _ d_ hlt) (ab ?_) (au:=[10]);rw[wrap64 (n:=371293*_) om om,wrap64 om om];show T.i _=T.i _;rw[lz,Int.natCast_add,Int.natCast_mul];rfl
def zk(l:LI):LA:=fh 13 fun r=>T.i (du l r)
def aO8(l:LI):(zk l).length=13:=fx
def aO9(l:LI)(c:Int):(zk l).set (lk c) (T.i (du l (lk c)+1:Nat))=zk (l++[c]):=by
 refine xL ?_ fun j hj=>?_
 ·rw[FC,if_pos rfl]
 ·rw[FC,if_neg fun h=>hj h.symm,Nat.add_zero]
def gl(c:Nat->Nat)(n k:Nat):Nat:=((mY.take k).filter fun r=>c r==n).length
def Su(h:k<13):gl c n (k+1)=gl c n k+if c (12-k)=n then 1 else 0:=by
 rw[gl,bG (Fm h),List.filter_append,qD,gl];by_cases hm:c (12-k)=n<;>simp[hm]
def Sv(c:Nat->Nat)(n k:Nat):gl c n k<=13:=rA (List.length_filter_le _ _) (by rw[qL];exact Nat.min_le_right _ _)
def Sw(c:Nat->Nat)(n:Nat):gl c n 13=(ba c n).length:=rfl
def k6(c:Nat->Nat):Nat->Nat
 |0=>0
 |j+1=>k6 c j+if 4-j=2 then gl c (4-j) 13 else 0
def iB(c:Nat->Nat):Nat->Nat
 |0=>0
 |j+1=>if gl c (4-j) 13=0 then iB c j else max (iB c j) (4-j)
def aP0(c:Nat->Nat):k6 c 4=(ba c 2).length:=by simp[k6,Sw]
def aP1(c:Nat->Nat):(iB c 4=4↔(ba c 4).length≠0)/\(iB c 4=3↔(ba c 4).length=0/\(ba c 3).length≠0):=by
 simp only[iB,Sw,Nat.reduceSub,Nat.sub_zero];by_cases h4:(ba c 4).length=0<;>by_cases h3:(ba c 3).length=0<;>by_cases h2:(ba c 2).length=0<;>by_cases h1:(ba c 1).length=0<;>(simp only[if_pos,if_neg,h1,h2,h3,h4,not_false_eq_true];first|omega|decide|(simp;done)|simp_all)
def Sx(c:Nat->Nat):∀j,k6 c j<=13*j
 |0=>by simp[k6]
 |j+1=>by
  have:=Sx c j;have:=Sv c (4-j) 13;rw[k6];split<;>omega
def Sy(c:Nat->Nat):∀j,iB c j<=4
 |0=>by simp[iB]
 |j+1=>by
  have:=Sy c j;rw[iB];split<;>omega
def Sz{c:Nat->Nat}{n:Nat}:∀m k,k+m=13->(dE c n k).length<=(dE c n 13).length
 |0,k,h=>by rw[show k=13 by omega];exact qR _
 |m+1,k,h=>by
  have:=Sz (c:=c) (n:=n) m (k+1) om;rw[BU om,qD]at this;omega
def SA{c:Nat->Nat}:∀m j,j+m=4->(eX c j).length<=(eX c 4).length
 |0,j,h=>by rw[show j=4 by omega];exact qR _
 |m+1,j,h=>by
  have:=SA (c:=c) m (j+1) om;rw[zi om,qD]at this;omega
def aP2(hj:j<4)(hk:k<=13):(eX c j++dE c (4-j) k).length<=(tN c).length:=by
 have h1:=SA (c:=c) (4-(j+1)) (j+1) om;have h2:=Sz (c:=c) (n:=4-j) (13-k) k om;rw[zi hj,qD,Fv]at h1;rw[qD];omega
def SB{x:Nat}(h:x∈eX c j++dE c (4-j) k):x<13:=by
 have hg:∀{n k x},x∈dE c n k->x<13:=fun{n k x} h=>by
  obtain⟨r,h1,h2⟩:=List.mem_flatMap.1 h;rw[(List.mem_replicate.1 h2).2];exact Qu.1 (rU (qV.1 h1).1)
 rcases qI.1 h with h|h
 ·obtain⟨n,_,h2⟩:=List.mem_flatMap.1 h;exact hg h2
 ·exact hg h
def aP3(l:LI)(hl:ce l)(h5:l.length=5):Pr 163 [ints l] (.i (lz l)):=by
 have d_:=Sr (c:=du l) (m:=5) fun rs hr=>h5▸EY hr;have hpe:=aC1 h5;refine ao2 sA (ab ?_);refine lN (fun i=>St.of [(3,.own 93),(12,.t (ints l)),(13,.t (.i l.length)),(14,.t (.i i))] [(93,.box (zk (l.take i)))]) (fun i=>i<=l.length) (fun i=>l.length-i) 0 (cH [3]) (fun i hi R hn hr he=>?_)
 ·rcases qH i l.length with h9|h9
  ·obtain⟨c,hx⟩:∃c,l[i]? =some c:=⟨_,qB h9⟩;obtain⟨hc0,hc1⟩:=hl.2 c (qE hx);have oR:=Jr c;have hA:(zk (l.take i))[lk c]? =some (T.i (du (l.take i) (lk c))):=gj oR;have br:=Sp (l.take i) (lk c);have hlt:(l.take i).length<=5:=by rw[qL];omega
   have hw1:IntKind.i64.wrap ((du (l.take i) (lk c):Int)+1)=((du (l.take i) (lk c)+1:Nat):Int):=by rw[wrap64 om om];omega
   refine aB (ah hx (dt ((i:Int)<(l.length:Int)))) ?_;refine Px (aO0 c hc0 hc1) (aB (bf hA @aO8 hw1 @aO9) ?_);refine hn _ (i+1) (aq [93] (aw h9 om) (hr:=?_))
   ·rw[bG hx];exact rB trivial
  ·refine aa (dF ((i:Int)<(l.length:Int))) ?_;refine he _ _ ?_;rw[qQ h9];have hcT:zk l=fh 13 fun r=>T.i (du l r):=rfl;rw[lz,←hpe];rw[hcT];generalize du l=c at d_ ⊢;refine ab ?_;have nF:∀{n} {F:Nat->T},(fh n F).length=n:=fx;refine lN (fun j=>St.of [(3,.own 93),(6,.t (.i (aS 0 (eX c j)))),(7,.t (.i (k6 c j))),(8,.t (.i (iB c j))),(9,.t (.i ((4-j:Nat):Int)))] [(93,.box (fh 13 fun r=>T.i (c r)))]) (fun j=>j<=4) (fun j=>4-j) 0 (aj.o _ _ [some 93] ?_ ?_) (fun j hj R hn hr he=>?_)
   ·refine ij ?_;exact⟨.inr (.inl rfl),.inr (.inl rfl),.inr (.inl rfl),.inr (.inl rfl)⟩
   ·exact rB trivial
   ·rcases qH j 4 with h9|h9
    ·refine aa (dt (((4-j:Nat):Int)>0)) ?_;have hp:=Sx c j;have hlo:=Sy c j;refine lN (fun k=>St.of [(3,.own 93),(6,.t (.i (aS 0 (eX c j++dE c (4-j) k)))),(7,.t (.i (k6 c j+(if 4-j=2 then gl c (4-j) k else 0):Nat))),(8,.t (.i (if gl c (4-j) k=0 then iB c j else max (iB c j) (4-j):Nat))),(9,.t (.i ((4-j:Nat):Int))),(10,.t (.i (12-(k:Int))))] [(93,.box (fh 13 fun r=>T.i (c r)))]) (fun k=>k<=13) (fun k=>13-k) 0 (aj.o _ _ [some 93] ?_ ?_) (fun k hk2 R2 hn2 cP cL=>?_)
     ·have e1:dE c (4-j) 0=[]:=rfl;have e2:gl c (4-j) 0=0:=rfl;have e3:(if 4-j=2 then 0 else 0)=0:=by split<;>rfl
      refine bZ (bM e1 e2 e3 @List.append_nil.{0} @Nat.add_zero) ?_;exact .inr (.inl rfl)
     ·exact rB trivial
     ·rcases qH k 13 with h8|h8
      ·have ek:(12-(k:Int))=((12-k:Nat):Int):=om;have tR:IntKind.i64.wrap (((12-k:Nat):Int)-1)=12-((k+1:Nat):Int):=by rw[wrap64 om om];omega
       have hA:(fh 13 fun r=>T.i (c r))[12-k]? =some (T.i (c (12-k))):=gj om;have kh:=Sv c (4-j) k;by_cases hm:c (12-k)=4-j
       ·have hb:(((c (12-k):Nat):Int) !=((4-j:Nat):Int))=false:=by rw[hm];exact bne_self_eq_false _
        have eR:gl c (4-j) (k+1)=gl c (4-j) k+1:=(by rw[Su h8,if_pos hm]);have SC:¬gl c (4-j) (k+1)=0:=om;have lO:dE c (4-j) (k+1)=dE c (4-j) k++List.replicate (4-j) (12-k):=(by rw[BU h8,if_pos hm]);have aP4:=aP2 (c:=c) (k:=k+1) h9 om;rw[lO,←qW,qD,List.length_replicate]at aP4;have dz:max ((if gl c (4-j) k=0 then iB c j else max (iB c j) (4-j):Nat):Int) ((4-j:Nat):Int)=((max (iB c j) (4-j):Nat):Int):=by split<;>omega
        by_cases h2:4-j=2
        ·have cD:(((4-j:Nat):Int)==2)=true:=by rw[h2];rfl
         have pK:(k6 c j+(if 4-j=2 then gl c (4-j) (k+1)else 0):Nat)=k6 c j+(if 4-j=2 then gl c (4-j) k else 0)+1:=by rw[eR];rw[if_pos h2,if_pos h2];omega
         have hw5:IntKind.i64.wrap (((k6 c j+(if 4-j=2 then gl c (4-j) k else 0):Nat):Int)+1)=((k6 c j+(if 4-j=2 then gl c (4-j) (k+1)else 0):Nat):Int):=by
          rw[pK,wrap64 om (by rw[if_pos h2];omega)];omega
         simp -implicitDefEqProofs only[c8,go_sem,ek,dt (((12-k:Nat):Int)≥ 0),hA,nF,hb,dz,cD,hw5];refine⟨om,om,om,?_⟩;refine lN (fun t=>St.of [(3,.own 93),(6,.t (.i (aS 0 ((eX c j++dE c (4-j) k)++List.replicate t (12-k))))),(7,.t (.i (k6 c j+(if 4-j=2 then gl c (4-j) (k+1)else 0):Nat))),(8,.t (.i (max (iB c j) (4-j):Nat))),(9,.t (.i ((4-j:Nat):Int))),(10,.t (.i ((12-k:Nat):Int))),(45,.t (.i ((4-j:Nat):Int))),(46,.t (.i t))] [(93,.box (fh 13 fun r=>T.i (c r)))]) (fun t=>t<=4-j) (fun t=>4-j-t) 0 (aq [93] (ah @List.replicate_zero.{0} @List.append_nil.{0})) (fun t ht R3 nG tz mj=>?_)
         ·rcases qH t (4-j)with h7|h7
          ·have nv:((eX c j++dE c (4-j) k)++List.replicate (t+1) (12-k)).length<=5:=by rw[qD,List.length_replicate];omega
           have Kj:∀x∈(eX c j++dE c (4-j) k)++List.replicate (t+1) (12-k),x<13:=fun x hx=>by
            rcases qI.1 hx with h|h
            ·exact SB h
            ·rw[(List.mem_replicate.1 h).2];omega
           have hks:=vq (a:=0) om nv Kj;rw[zj,←qW,xK]at hks;have Kk:IntKind.i64.wrap ((aS 0 ((eX c j++dE c (4-j) k)++List.replicate t (12-k)):Int)*13)=((aS 0 ((eX c j++dE c (4-j) k)++List.replicate t (12-k))*13:Nat):Int):=by rw[wrap64 om om];omega
           have Kl:IntKind.i64.wrap (((aS 0 ((eX c j++dE c (4-j) k)++List.replicate t (12-k))*13:Nat):Int)+((12-k:Nat):Int))=((aS 0 ((eX c j++dE c (4-j) k)++List.replicate (t+1) (12-k)):Nat):Int):=by
            rw[wrap64 om om,zj,←qW,xK];omega
           refine aa (ay (dt ((t:Int)<((4-j:Nat):Int))) Kk Kl) ?_;exact nG _ (t+1) (aq [93] (aw h7 om))
          ·refine aa (dF ((t:Int)<((4-j:Nat):Int))) ?_;refine mj _ _ (aa tR ?_);refine hn2 _ (k+1) (aj.of _ _ [some 93] sA sA ?_ (rB trivial));have et:t=4-j:=om;subst et;simp -implicitDefEqProofs only[fc,Nat.reduceBEq,Nat.reduceEqDiff, ↓reduceIte,lO,if_neg SC,qW]
        ·have cD:(((4-j:Nat):Int)==2)=false:=by rw[beq_eq_false_iff_ne];omega
         have pK:(k6 c j+(if 4-j=2 then gl c (4-j) (k+1)else 0):Nat)=k6 c j+(if 4-j=2 then gl c (4-j) k else 0)+0:=by rw[eR];rw[if_neg h2,if_neg h2]
         rw[Nat.add_zero]at pK;simp -implicitDefEqProofs only[c8,go_sem,ek,dt (((12-k:Nat):Int)≥ 0),hA,nF,hb,dz,cD];refine⟨om,om,om,?_⟩;refine lN (fun t=>St.of [(3,.own 93),(6,.t (.i (aS 0 ((eX c j++dE c (4-j) k)++List.replicate t (12-k))))),(7,.t (.i (k6 c j+(if 4-j=2 then gl c (4-j) (k+1)else 0):Nat))),(8,.t (.i (max (iB c j) (4-j):Nat))),(9,.t (.i ((4-j:Nat):Int))),(10,.t (.i ((12-k:Nat):Int))),(45,.t (.i ((4-j:Nat):Int))),(46,.t (.i t))] [(93,.box (fh 13 fun r=>T.i (c r)))]) (fun t=>t<=4-j) (fun t=>4-j-t) 0 (aj.o _ _ [some 93] ?_ ?_) (fun t ht R3 nG tz mj=>?_)
         ·refine bZ (ah @List.replicate_zero.{0} @List.append_nil.{0}) ?_;exact .inr (.inl (by rw[pK];rfl))
         ·exact rB trivial
         ·rcases qH t (4-j)with h7|h7
          ·have nv:((eX c j++dE c (4-j) k)++List.replicate (t+1) (12-k)).length<=5:=by rw[qD,List.length_replicate];omega
           have Kj:∀x∈(eX c j++dE c (4-j) k)++List.replicate (t+1) (12-k),x<13:=fun x hx=>by
            rcases qI.1 hx with h|h
            ·exact SB h
            ·rw[(List.mem_replicate.1 h).2];omega
           have hks:=vq (a:=0) om nv Kj;rw[zj,←qW,xK]at hks;have Kk:IntKind.i64.wrap ((aS 0 ((eX c j++dE c (4-j) k)++List.replicate t (12-k)):Int)*13)=((aS 0 ((eX c j++dE c (4-j) k)++List.replicate t (12-k))*13:Nat):Int):=by rw[wrap64 om om];omega
           have Kl:IntKind.i64.wrap (((aS 0 ((eX c j++dE c (4-j) k)++List.replicate t (12-k))*13:Nat):Int)+((12-k:Nat):Int))=((aS 0 ((eX c j++dE c (4-j) k)++List.replicate (t+1) (12-k)):Nat):Int):=by
            rw[wrap64 om om,zj,←qW,xK];omega
           refine aa (ay (dt ((t:Int)<((4-j:Nat):Int))) Kk Kl) ?_;exact nG _ (t+1) (aq [93] (aw h7 om))
          ·refine aa (dF ((t:Int)<((4-j:Nat):Int))) ?_;refine mj _ _ (aa tR ?_);refine hn2 _ (k+1) (aj.of _ _ [some 93] sA sA ?_ (rB trivial));have et:t=4-j:=om;subst et;simp -implicitDefEqProofs only[fc,Nat.reduceBEq,Nat.reduceEqDiff, ↓reduceIte,lO,if_neg SC,qW]
       ·have hb:(((c (12-k):Nat):Int) !=((4-j:Nat):Int))=true:=by rw[bne_iff_ne];omega
        have eR:gl c (4-j) (k+1)=gl c (4-j) k:=(by rw[Su h8,if_neg hm,Nat.add_zero]);have lO:dE c (4-j) (k+1)=dE c (4-j) k:=(by rw[BU h8,if_neg hm,List.append_nil]);simp -implicitDefEqProofs only[c8,go_sem,ek,dt (((12-k:Nat):Int)≥ 0),hA,nF,hb,tR];refine⟨om,om,om,?_⟩;exact hn2 _ (k+1) (aq [93] (ah lO eR))
      ·refine aa (dF (12-(k:Int)≥ 0)) ?_;refine cL _ _ ?_;have aP5:k=13:=om;subst aP5;have qk:IntKind.i64.wrap (((4-j:Nat):Int)-1)=((4-(j+1):Nat):Int):=by rw[wrap64 om om];omega
       refine aa qk ?_;refine hn _ (j+1) (aj.of _ _ [some 93] sA sA ?_ (rB trivial));simp -implicitDefEqProofs only[fc,Nat.reduceBEq,Nat.reduceEqDiff, ↓reduceIte,zi h9,k6,iB]
    ·refine aa (dF (((4-j:Nat):Int)>0)) ?_;refine he _ _ ?_;have ej:j=4:=om;subst ej;obtain⟨oz,fb⟩:=aP1 c;have hpa:=aP0 c;have hp2:(ba c 2).length<=13:=rA (List.length_filter_le _ _) dc;have hkb:=vq (a:=0) om d_ (Ss c);refine aa @Fv ?_;rw[Js,hpa];refine⟨fun h=>?_,fun h=>⟨fun h'=>?_,fun h'=>?_⟩⟩
     ·have h:iB c 4=4:=by have:((iB c 4:Nat):Int)=4:=sU h
                          omega
      rw[if_pos (oz.1 h),wrap64 (n:=5*371293) om om,wrap64 om om];show T.i _=T.i _;congr 1;omega
     ·have h:¬iB c 4=4:=fun e=>by rw[e]at h;simp at h
      have h':iB c 4=3:=by have:((iB c 4:Nat):Int)=3:=sU h'
                           omega
      rw[if_neg fun e=>h (oz.2 e),if_pos (fb.1 h').2,wrap64 (n:=3+_) om om,wrap64 (n:=_*371293) om om,wrap64 om om];show T.i _=T.i _;congr 1;omega
     ·have h:¬iB c 4=4:=fun e=>by rw[e]at h;simp at h
      have h':¬iB c 4=3:=fun e=>by rw[e]at h';simp at h'
      have h4:=rG fun e=>h (oz.2 e);rw[if_neg fun e=>h (oz.2 e),if_neg fun e=>h' (fb.2 ⟨h4,e⟩),wrap64 (n:=_*371293) om om,wrap64 om om];show T.i _=T.i _;congr 1;omega
def aP6(v:Int):Pr 105 [.i v] (.b (decide (0<=v/\v<=228487))):=by
 refine aj3 sA (ab ?_);exact Px (fq v 0 228487) (ab trivial)
def aP7(v:Int):Pr 185 [.i v] (.b (decide (0<=v/\v<=228487))):=by
 refine ap8 sA (ab ?_);exact Px (eN v 0 228487) (ab trivial)
def aP8(h:LI)(hl:ce h)(h5:h.length=5):Pr 104 [mo 1,ints h] (.i (lz h)):=by
 refine aj2 sA (aa (ay @mo.eq_1 @eH.eq_1 (show((1:Int)==3)=false from rfl)) ?_);exact Px (aP3 h hl h5) (ab trivial)
def fU(H:LL):Nat->Int
 |0=> -1
 |j+1=>if fU H j<0∨(lz (H.getD j []):Int)<fU H j then(lz (H.getD j []):Int)else fU H j
def zl(H:LL):Int:=if 0<=fU H H.length/\fU H H.length<=228487 then fU H H.length else -1
def aP9(hole aF:LI)(hc:ce (hole++aF))(h2:hole.length=4)(h5:aF.length=5):Pr 51 [mo 1,ints hole,ints aF] (.i (zl (eB 2 2 hole aF))):=by
 refine ae8 sA (aa (ah @mo.eq_1 @eH.eq_1) ?_);have hin:=RW 1 hole aF;simp only[mo,eH]at hin;refine Rx hin (aP ?_);have hit:=RS 1 hole aF om om;have hlen:(ml hole aF).length=(eB 2 2 hole aF).length:=by rw[Fu,qJ]
 refine dX.Ek Tryz.call160 hit (fun i=>St.of [(3,.own 93),(7,.own 97),(13,.t (.fn 160 [.ax (eH 1) 0,.ax [ints hole] 0,.ax [ints aF] 0]))] [(97,.box [.i (fU (eB 2 2 hole aF) i)]),(93,.box (eH 1))]) (fun i=>True) trivial [97] [93] (fun i=>[.box [.i (fU (eB 2 2 hole aF) i)]]) (fun i=>[(3,.t (.ax (eH 1) 0)),(7,.own 1000000000)]) (aq [7,3] @eH.eq_1) rfl sA sA (fun i hi=>⟨rfl,trivial⟩) dc (fun i hi s hs=>?_) (fun i hi _=>?_) ?_
 ·simp only[qO,List.not_mem_nil,or_false]at hs;rcases hs with rfl|rfl
  all_goals
   refine⟨sA,?_⟩;exact pZ (ay @zB @zC @eH.eq_1) trivial
 ·rw[hlen]at hi;obtain⟨h,hh⟩:∃h,(eB 2 2 hole aF)[i]? =some h:=⟨_,qB hi⟩;have hg:(eB 2 2 hole aF).getD i []=h:=by rw[qA,hh];rfl
  have Ka:(ml hole aF)[i]=ints h:=by
   have:(ml hole aF)[i]? =some (ints h):=by rw[Fu,qU,hh];rfl
   exact(qK.1 this).2
  rw[Ka];obtain⟨hcd,BR⟩:=RX hc (qE hh);have hlo:=aP8 h hcd BR;simp only[mo,eH]at hlo;have hT:fU (eB 2 2 hole aF) (i+1)=if fU (eB 2 2 hole aF) i<0∨(lz h:Int)<fU (eB 2 2 hole aF) i then(lz h:Int)else fU (eB 2 2 hole aF) i:=by rw[fU,hg]
  generalize fU (eB 2 2 hole aF) i=m at hT ⊢;refine aa @eH.eq_1 ?_;refine Px hlo (ab ?_);refine⟨fun h0=>⟨fun h1=>?_,fun h1=>?_⟩,fun h0=>?_⟩
  ·refine⟨⟨by simp[T.bJ,T.df],trivial⟩,trivial,?_⟩;simp only[kq,gp,rootOf,Ft,hT,if_pos (Or.inr h1:m<0∨(lz h:Int)<m)]
  ·refine⟨⟨by simp[T.bJ,T.df],trivial⟩,trivial,?_⟩;simp only[kq,gp,rootOf,Ft,hT,if_neg (show¬(m<0∨(lz h:Int)<m) from fun e=>e.elim h0 h1)]
  ·refine⟨⟨by simp[T.bJ,T.df],trivial⟩,trivial,?_⟩;simp only[kq,gp,rootOf,Ft,hT,if_pos (Or.inl h0:m<0∨(lz h:Int)<m)]
 ·refine aa (ah @eH.eq_1 (show((1:Int)==1)=true from rfl)) ?_;refine Px (aP6 (fU (eB 2 2 hole aF) (ml hole aF).length)) (ab ?_);rw[hlen];unfold zl;refine⟨fun h=>?_,fun h=>?_⟩
  ·rw[Bool.not_eq_true',decide_eq_false_iff_not]at h;rw[if_neg h]
  ·rw[Bool.not_eq_false',decide_eq_true_eq]at h;rw[if_pos h]
def vz(H:LL):Nat->Int
 |0=>0
 |j+1=>if fU H j<0∨(lz (H.getD j []):Int)<fU H j then(j:Int)else vz H j
def aQ0(H:LL)(hH:∀h∈H,ce h/\h.length=5)(hl:H.length<=100000):Pr 125 [mo 1,rows H] (.aI [.i (vz H H.length),.i (fU H H.length)]):=by
 refine al0 sA (aa (ah @mo.eq_1 @eH.eq_1) ?_);refine lN (fun i=>St.of [(1,.t (rows H)),(2,.own 92),(6,.t (.i (vz H i))),(7,.t (.i (fU H i))),(8,.t (.i i))] [(92,.box (eH 1))]) (fun i=>i<=H.length) (fun i=>H.length-i) 0 (aj.of _ _ [some 2] sA sA ?_ (rB trivial)) (fun i hi R hn hr he=>?_)
 ·refine bZ @eH.eq_1 ?_;exact⟨.inr (.inl rfl),.inr (.inl rfl)⟩
 ·rcases qH i H.length with h9|h9
  ·obtain⟨h,hx⟩:∃h,H[i]? =some h:=⟨_,qB h9⟩;obtain⟨hc,h5⟩:=hH h (qE hx);have hg:H.getD i []=h:=by rw[qA,hx];rfl
   have hT:fU H (i+1)=if fU H i<0∨(lz h:Int)<fU H i then(lz h:Int)else fU H i:=(by rw[fU,hg]);have hX:vz H (i+1)=if fU H i<0∨(lz h:Int)<fU H i then(i:Int)else vz H i:=(by rw[vz,hg]);refine aB (ah hx (dt ((i:Int)<(H.length:Int)))) ?_;refine Px (aO7 h hc h5) (aa (ah @eH.eq_1 (show((1:Int)==3)=false from rfl)) ?_);refine⟨fun h0=>⟨fun h1=>?_,fun h1=>?_⟩,fun h0=>?_⟩
   ·rw[if_pos (.inr h1)]at hT hX;exact hn _ (i+1) (aq [92] (ay (aw h9 om) hT hX))
   ·rw[if_neg fun e=>e.elim h0 h1]at hT hX;exact hn _ (i+1) (aq [92] (ay (aw h9 om) hT hX))
   ·rw[if_pos (.inl h0)]at hT hX;exact hn _ (i+1) (aq [92] (ay (aw h9 om) hT hX))
  ·refine aa (dF ((i:Int)<(H.length:Int))) ?_;refine he _ _ ?_;have e:i=H.length:=om;subst e;exact ab trivial
def aQ1(v:Int):Pr 126 [mo 1,.i v] (.b (decide (0<=v/\v<=228487))):=by
 refine al1 sA (aa (ay @mo.eq_1 @eH.eq_1 (show((1:Int) !=1)=false from rfl)) ?_);exact Px (aP7 v) (ab trivial)
def j7(hi:Bool)(s:Int×LI)(w v:Int):Int×LI:=
 if v<0 then s else if s.1<0∨(hi=true/\v>s.1)∨(hi=false/\v<s.1)then(v,[w])else if v=s.1 then(s.1,s.2++[w])else s
def fV(hi:Bool)(vals ws:LI):Nat->Int×LI
 |0=>(-1,[])
 |j+1=>j7 hi (fV hi vals ws j) (ws.getD j 0) (vals.getD (ws.getD j 0).toNat 0)
def dN(hi:Bool)(vals ws:LI):LI:=(fV hi vals ws ws.length).2
def BV(hi:Bool)(vals ws:LI):∀j,(fV hi vals ws j).2.length<=j
 |0=>by simp[fV]
 |j+1=>by
  have:=BV hi vals ws j;rw[fV,j7];split
  ·omega
  ·split
   ·simp
   ·split
    ·simp only[qD,List.length_cons,List.length_nil];omega
    ·omega
def SD(hi:Bool)(vals ws:LI):∀j,(fV hi vals ws j).1<0->(fV hi vals ws j).2=[]
 |0,_=>rfl
 |j+1,h=>by
  have ih:=SD hi vals ws j;rw[fV,j7]at h ⊢;split
  ·rename_i h1;rw[if_pos h1]at h;exact ih h
  ·rename_i h1;rw[if_neg h1]at h;split
   ·rename_i h2;rw[if_pos h2]at h;exact absurd h h1
   ·rename_i h2;rw[if_neg h2]at h;split
    ·rename_i h3;rw[if_pos h3]at h;exact absurd (.inl h) h2
    ·rename_i h3;rw[if_neg h3]at h;exact absurd (.inl h) h2
end
end Go.Ab
