import Derived.Test.YtecafjkedemhnaaGreatQ12
set_option maxRecDepth 20000
set_option linter.all false
set_option maxHeartbeats 1000000
namespace Go.Ab
open Go.Proofs
variable{b f i k n:Nat}{fo:List Bool}{B cs hs ls pd r:LI}{a:Nat×Int}
section
attribute [-go_sem] bC bF bK bE bH bL
def SE(hi:Bool)(ws vals:LI)(hw:ws.length<=6)(hv:vals.length<=6)(hb:∀x∈ws,0<=x/\x.toNat<vals.length):FR 217 [.t (ints ws),.t (ints vals),.t (.b hi)] (ae (dN hi vals ws)):=by
 obtain⟨n,bq⟩:∃n,ws.length=n:=⟨_,rfl⟩;have hn:n<=6:=om;refine as6 sA (ab ?_);refine dX.ig (σ:=Nat) (fun i=>St.of [(0,.t (ints ws)),(1,.t (ints vals)),(2,.t (.b hi)),(7,.own 97),(8,.t (.i (fV hi vals ws i).1)),(9,.t (.i i))] [(97,ae (fV hi vals ws i).2)]) (fun i=>i<=n) (fun i=>n-i) 0 (aj.of _ _ [some 11] sA sA ?_ (rB trivial)) om fun i hin R hn' hr he=>?_
 ·refine ij ?_;exact .inr (.inl rfl)
 ·rcases qH i n with h9|h9
  ·obtain⟨x,hx⟩:∃x,ws[i]? =some x:=⟨_,qB om⟩;have mA:=hb x (qE hx);have hg:ws.getD i 0=x:=by rw[qA,hx];rfl
   obtain⟨v,j8⟩:∃v,vals[x.toNat]? =some v:=⟨_,qB om⟩;have BW:vals.getD (ws.getD i 0).toNat 0=v:=by rw[hg,qA,j8];rfl
   have hT:fV hi vals ws (i+1)=j7 hi (fV hi vals ws i) x v:=(by rw[fV,BW,hg]);have hlen:=BV hi vals ws i;generalize fV hi vals ws i=s at hT hlen ⊢;obtain⟨b,L⟩:=s;simp only[]at hT hlen ⊢;rcases Decidable.em (v<0)with h1|h1
   ·rw[j7,if_pos h1]at hT;refine aB (bM bq hx j8 (dt ((i:Int)<(n:Int))) (decide_eq_true h1)) ?_;exact hn' _ (i+1) (aq [97] (ah (aw h9 om) hT) (hr:=rK rfl (by rw[hT];exact .refl _) trivial)) om om
   ·rcases Decidable.em (b<0)with h2|h2
    ·rw[j7,if_neg h1,if_pos (.inl h2)]at hT;refine aB (c5 bq hx j8 (dt ((i:Int)<(n:Int))) (decide_eq_false h1) (decide_eq_true h2)) ?_;exact hn' _ (i+1) (aq [53] (ah (aw h9 om) hT) (hr:=rK rfl (by rw[hT];exact .refl _) trivial)) om om
    ·cases hi with
     |true=>
      rcases Decidable.em (v>b)with h3|h3
      ·rw[j7,if_neg h1,if_pos (.inr (.inl ⟨rfl,h3⟩))]at hT;refine aB (dZ bq hx j8 (dt ((i:Int)<(n:Int))) (decide_eq_false h1) (decide_eq_false h2) (decide_eq_true h3)) ?_;exact hn' _ (i+1) (aq [53] (ah (aw h9 om) hT) (hr:=rK rfl (by rw[hT];exact .refl _) trivial)) om om
      ·rw[j7,if_neg h1,if_neg (by simp[h2];omega)]at hT;refine aB (jz bq hx j8 (dt ((i:Int)<(n:Int))) (decide_eq_false h1) (decide_eq_false h2) (decide_eq_false h3) @ae.eq_1) ?_;refine⟨fun h=>?_,fun h=>?_⟩
       ·have h:v=b:=sU h;rw[if_pos h]at hT;refine⟨om,om,om,om,?_⟩;exact hn' _ (i+1) (aq [64] (ah (aw h9 om) hT) (hr:=rK rfl (by rw[hT,ae,qG];exact .refl _) trivial)) om om
       ·have h:¬v=b:=sU h;rw[if_neg h]at hT;exact hn' _ (i+1) (aq [97] (ah (aw h9 om) hT) (hr:=rK rfl (by rw[hT];exact .refl _) trivial)) om om
     |false=>
      rcases Decidable.em (v<b)with h3|h3
      ·rw[j7,if_neg h1,if_pos (.inr (.inr ⟨rfl,h3⟩))]at hT;refine aB (dZ bq hx j8 (dt ((i:Int)<(n:Int))) (decide_eq_false h1) (decide_eq_false h2) (decide_eq_true h3)) ?_;exact hn' _ (i+1) (aq [53] (ah (aw h9 om) hT) (hr:=rK rfl (by rw[hT];exact .refl _) trivial)) om om
      ·rw[j7,if_neg h1,if_neg (by simp[h2];omega)]at hT;refine aB (jz bq hx j8 (dt ((i:Int)<(n:Int))) (decide_eq_false h1) (decide_eq_false h2) (decide_eq_false h3) @ae.eq_1) ?_;refine⟨fun h=>?_,fun h=>?_⟩
       ·have h:v=b:=sU h;rw[if_pos h]at hT;refine⟨om,om,om,om,?_⟩;exact hn' _ (i+1) (aq [64] (ah (aw h9 om) hT) (hr:=rK rfl (by rw[hT,ae,qG];exact .refl _) trivial)) om om
       ·have h:¬v=b:=sU h;rw[if_neg h]at hT;exact hn' _ (i+1) (aq [97] (ah (aw h9 om) hT) (hr:=rK rfl (by rw[hT];exact .refl _) trivial)) om om
  ·refine aa (ah bq (dF ((i:Int)<(n:Int)))) ?_;refine he _ _ (ab ?_);rw[dN,bq,show i=n by omega]
def aQ2(ws vals:LI)(hw:ws.length<=6)(hv:vals.length<=6)(hb:∀x∈ws,0<=x/\x.toNat<vals.length):FR 168 [.t (ints ws),.t (ints vals)] (ae (dN true vals ws)):=by
 obtain⟨n,bq⟩:∃n,ws.length=n:=⟨_,rfl⟩;have hn:n<=6:=om;refine ao7 sA (ab ?_);refine dX.ig (σ:=Nat) (fun i=>St.of [(1,.t (ints vals)),(5,.own 95),(6,.t (.i (max 0 (fV true vals ws i).1))),(9,.t (ints ws)),(10,.t (.i n)),(11,.t (.i i))] [(95,ae (fV true vals ws i).2)]) (fun i=>i<=n) (fun i=>n-i) 0 (aj.of _ _ [none] sA sA ?_ ⟨⟨1,rfl⟩,trivial⟩) om fun i hin R hn' hr he=>?_
 ·refine bZ bq ?_;exact .inr (.inl rfl)
 ·rcases qH i n with h9|h9
  ·obtain⟨x,hx⟩:∃x,ws[i]? =some x:=⟨_,qB om⟩;have mA:=hb x (qE hx);have hg:ws.getD i 0=x:=by rw[qA,hx];rfl
   obtain⟨v,j8⟩:∃v,vals[x.toNat]? =some v:=⟨_,qB om⟩;have BW:vals.getD (ws.getD i 0).toNat 0=v:=by rw[hg,qA,j8];rfl
   have hT:fV true vals ws (i+1)=j7 true (fV true vals ws i) x v:=(by rw[fV,BW,hg]);have hlen:=BV true vals ws i;have Km:=SD true vals ws i;generalize fV true vals ws i=s at hT hlen Km ⊢;obtain⟨b,L⟩:=s;simp only[]at hT hlen Km ⊢;by_cases hneg:v<0
   case pos=>
    rw[j7,if_pos hneg]at hT;refine aB (c5 bq hx j8 (dt ((i:Int)<(n:Int))) (dF (v>max 0 b)) (show(v==max 0 b)=false from by rw[beq_eq_false_iff_ne];omega)) ?_;exact hn' _ (i+1) (aq [95] (ah (aw h9 om) hT) (hr:=rK rfl (by rw[hT];exact .refl _) trivial)) om om
   rw[j7,if_neg hneg]at hT;rcases Decidable.em (v>max 0 b)with h1|h1
   ·rw[if_pos (.inr (.inl ⟨rfl,by simp only[];omega⟩))]at hT;refine aB (c5 bq hx j8 (dt ((i:Int)<(n:Int))) (decide_eq_true h1) (show(v==v)=true from beq_self_eq_true v)) ?_;have e0:max 0 v=v:=om;exact hn' _ (i+1) (aq [34] (ay (aw h9 om) hT e0) (hr:=rK rfl (by rw[hT];exact .refl _) trivial)) om om
   ·rcases Decidable.em (v=max 0 b)with h2|h2
    ·have BX:fV true vals ws (i+1)=(max 0 b,L++[x]):=by
      rw[hT];rcases Decidable.em (b<0)with h3|h3
      ·rw[if_pos (.inl h3),Km h3,h2];rfl
      ·rw[if_neg (by simp[h3];omega),if_pos (by simp only[];omega)];simp only[Prod.mk.injEq,and_true];omega
     refine aB (dZ bq hx j8 (dt ((i:Int)<(n:Int))) (decide_eq_false h1) (show(v==max 0 b)=true from by rw[beq_iff_eq];exact h2) @ae.eq_1) ?_;have e0:max 0 (max 0 b)=max 0 b:=om;exact hn' _ (i+1) (aq [34] (ay (aw h9 om) BX e0) (hr:=rK rfl (by rw[BX,ae,qG];exact .refl _) trivial)) om om
    ·have BX:fV true vals ws (i+1)=(b,L):=by
      rw[hT,if_neg (by simp;omega),if_neg (by simp only[];omega)]
     refine aB (c5 bq hx j8 (dt ((i:Int)<(n:Int))) (decide_eq_false h1) (show(v==max 0 b)=false from by rw[beq_eq_false_iff_ne];exact h2)) ?_;exact hn' _ (i+1) (aq [95] (ah (aw h9 om) BX) (hr:=rK rfl (by rw[BX];exact .refl _) trivial)) om om
  ·refine aa (dF ((i:Int)<(n:Int))) ?_;refine he _ _ (ab ?_);rw[dN,bq,show i=n by omega]
def aQ3(ws vals:LI)(hw:ws.length<=6)(hv:vals.length<=6)(hb:∀x∈ws,0<=x/\x.toNat<vals.length):FR 169 [.t (ints ws),.t (ints vals)] (ae (dN false vals ws)):=by
 obtain⟨n,bq⟩:∃n,ws.length=n:=⟨_,rfl⟩;have hn:n<=6:=om;refine ao8 sA (ab ?_);refine dX.ig (σ:=Nat) (fun i=>St.of [(1,.t (ints vals)),(5,.own 95),(6,.t (.i (fV false vals ws i).1)),(9,.t (ints ws)),(10,.t (.i n)),(11,.t (.i i))] [(95,ae (fV false vals ws i).2)]) (fun i=>i<=n) (fun i=>n-i) 0 (aj.of _ _ [none] sA sA ?_ ⟨⟨1,rfl⟩,trivial⟩) om fun i hin R hn' hr he=>?_
 ·refine bZ bq ?_;exact .inr (.inl rfl)
 ·rcases qH i n with h9|h9
  ·obtain⟨x,hx⟩:∃x,ws[i]? =some x:=⟨_,qB om⟩;have mA:=hb x (qE hx);have hg:ws.getD i 0=x:=by rw[qA,hx];rfl
   obtain⟨v,j8⟩:∃v,vals[x.toNat]? =some v:=⟨_,qB om⟩;have BW:vals.getD (ws.getD i 0).toNat 0=v:=by rw[hg,qA,j8];rfl
   have hT:fV false vals ws (i+1)=j7 false (fV false vals ws i) x v:=(by rw[fV,BW,hg]);have hlen:=BV false vals ws i;generalize fV false vals ws i=s at hT hlen ⊢;obtain⟨b,L⟩:=s;simp only[]at hT hlen ⊢;rcases Decidable.em (v<0)with h1|h1
   ·rw[j7,if_pos h1]at hT;refine aB (bM bq hx j8 (dt ((i:Int)<(n:Int))) (decide_eq_true h1)) ?_;exact hn' _ (i+1) (aq [95] (ah (aw h9 om) hT) (hr:=rK rfl (by rw[hT];exact .refl _) trivial)) om om
   ·rcases Decidable.em (b<0)with h2|h2
    ·rw[j7,if_neg h1,if_pos (.inl h2)]at hT;refine aB (dZ bq hx j8 (dt ((i:Int)<(n:Int))) (decide_eq_false h1) (decide_eq_true h2) (show(v==v)=true from beq_self_eq_true v)) ?_;exact hn' _ (i+1) (aq [43] (ah (aw h9 om) hT) (hr:=rK rfl (by rw[hT];exact .refl _) trivial)) om om
    ·rcases Decidable.em (v<b)with h3|h3
     ·rw[j7,if_neg h1,if_pos (.inr (.inr ⟨rfl,h3⟩))]at hT;refine aB (jz bq hx j8 (dt ((i:Int)<(n:Int))) (decide_eq_false h1) (decide_eq_false h2) (decide_eq_true h3) (show(v==v)=true from beq_self_eq_true v)) ?_;exact hn' _ (i+1) (aq [43] (ah (aw h9 om) hT) (hr:=rK rfl (by rw[hT];exact .refl _) trivial)) om om
     ·rw[j7,if_neg h1,if_neg (by simp[h2];omega)]at hT;refine aB (jz bq hx j8 (dt ((i:Int)<(n:Int))) (decide_eq_false h1) (decide_eq_false h2) (decide_eq_false h3) @ae.eq_1) ?_;refine⟨fun h=>?_,fun h=>?_⟩
      ·have h:v=b:=sU h;rw[if_pos h]at hT;refine⟨om,?_⟩;exact hn' _ (i+1) (aq [43] (ah (aw h9 om) hT) (hr:=rK rfl (by rw[hT,ae,qG];exact .refl _) trivial)) om om
      ·have h:¬v=b:=sU h;rw[if_neg h]at hT;exact hn' _ (i+1) (aq [95] (ah (aw h9 om) hT) (hr:=rK rfl (by rw[hT];exact .refl _) trivial)) om om
  ·refine aa (dF ((i:Int)<(n:Int))) ?_;refine he _ _ (ab ?_);rw[dN,bq,show i=n by omega]
def sK(x:Int):LI->Nat->Int
 |[],_=> -1
 |y::l,k=>if x=y then(k:Int)else sK x l (k+1)
def SF{x:Int}:∀{l:LI} {k:Nat},sK x l k ≥ 0↔x∈l
 |[],k=>by simp[sK]
 |y::l,k=>by
  rw[sK,qO];split
  ·rename_i h;simp[h]
  ·rename_i h;rw[SF];simp[h]
def SG{x:Int}{l:LI}:∀{i:Nat},i<=l.length->x∉l.take i->sK x l 0=sK x (l.drop i) i
 |0,_,_=>rfl
 |i+1,h,hx=>by
  obtain⟨y,hy⟩:∃y,l[i]? =some y:=⟨_,qB om⟩;rw[bG hy,qI,not_or]at hx;rw[SG (i:=i) om hx.1];have hd:l.drop i=y::l.drop (i+1):=by
   rw[List.drop_eq_getElem_cons om];congr 1;exact(qK.1 hy).2
  rw[hd,sK,if_neg (by have:=hx.2;simpa using this)]
def aQ4(l:LI)(x:Int)(hl:l.length<=1000000):Pr 173 [ints l,.i x] (.i (sK x l 0)):=by
 refine Pk sA (ab ?_);refine lN (fun i=>St.of [(0,.t (ints l)),(1,.t (.i x)),(7,.t (.i l.length)),(8,.t (.i i))] []) (fun i=>i<=l.length/\x∉l.take i) (fun i=>l.length-i) 0 tF (fun i hi R hn hr he=>?_) (hi:=⟨om,sA⟩)
 ·obtain⟨hi,hno⟩:=hi;have hd:=SG hi hno;rcases qH i l.length with h9|h9
  ·obtain⟨y,hx⟩:∃y,l[i]? =some y:=⟨_,qB h9⟩;have aV:l.drop i=y::l.drop (i+1):=by
    rw[List.drop_eq_getElem_cons h9];congr 1;exact(qK.1 hx).2
   rw[aV,sK]at hd;refine aB (ah hx (dt ((i:Int)<(l.length:Int)))) ?_;refine⟨fun h=>?_,fun h=>?_⟩
   ·have h:x=y:=sU h;rw[if_pos h]at hd;exact hr _ (aa hd trivial)
   ·have h:¬x=y:=sU h;exact hn _ (i+1) (eU (aw h9 om)) ⟨om,by rw[bG hx];simp[hno,h]⟩
  ·refine aa (dF ((i:Int)<(l.length:Int))) ?_;refine he _ _ ?_;rw[List.drop_eq_nil_of_le h9,sK]at hd;exact aa hd trivial
def Kn(l:LI)(x:Int)(hl:l.length<=1000000):Pr 204 [ints l,.i x] (.b (decide (x∈l))):=by
 refine ar5 sA (ab ?_);refine Px (aQ4 l x hl) (ab ?_);simp only[SF]
def hY(A B:LI):LI:=fh A.length fun k=>A.getD k 0+B.getD k 0
def kx(A B:LI)(i:Nat):LI:=fh A.length fun k=>if k<i then A.getD k 0+B.getD k 0 else A.getD k 0
def SH(A B:LI):kx A B 0=A:=by
 refine List.ext_getElem? fun k=>?_;by_cases h:k<A.length
 ·rw[kx,gj h,if_neg om,qA,qB h];rfl
 ·rw[qP (by rw[kx,fx];omega),qP om]
def SI(A B:LI):kx A B A.length=hY A B:=by
 refine List.ext_getElem? fun k=>?_;by_cases h:k<A.length
 ·rw[kx,hY,gj h,gj h,if_pos h]
 ·rw[qP (by rw[kx,fx];omega),qP (by rw[hY,fx];omega)]
def SJ(A B:LI)(i:Nat):(kx A B i).set i (A.getD i 0+B.getD i 0)=kx A B (i+1):=by
 refine xL ?_ fun j hj=>?_
 ·rw[if_pos om]
 ·by_cases h1:j<i
  ·rw[if_pos h1,if_pos om]
  ·rw[if_neg h1,if_neg om]
end
def qm(W:LI)(q:Int)(s:LI×Int)(k:Nat):LI×Int:=
 if(k:Int)∈W then(s.1.set k (if 0<s.2 then q+1 else q),if 0<s.2 then s.2-1 else s.2)else s
def fa(W:LI)(a:Int)(n f:Nat):Nat->LI×Int
 |0=>(List.replicate n 0,a%W.length)
 |i+1=>qm W (a/W.length) (fa W a n f i) ((f+i)%n)
def k7(a:Int)(W:LI)(n f:Nat):LI:=(fa W a n f n).1
def zm(W:LI)(a:Int)(n f:Nat):∀i,(fa W a n f i).1.length=n
 |0=>by simp[fa]
 |i+1=>by
  rw[fa,qm];split
  ·rw[List.length_set];exact zm W a n f i
  ·exact zm W a n f i
def Ko(W:LI)(hW:0<W.length)(a:Int)(n f:Nat):∀i,0<=(fa W a n f i).2/\(fa W a n f i).2<W.length
 |0=>by
  simp only[fa];exact⟨Int.emod_nonneg _ om,Int.emod_lt_of_pos _ om⟩
 |i+1=>by
  have h:=Ko W hW a n f i;rw[fa,qm];split
  ·simp only[];split<;>omega
  ·exact h
def Kp(W:LI)(hW:0<W.length){a:Int}(ha:0<=a)(n f:Nat):∀i,∀x∈(fa W a n f i).1,0<=x/\x<=a+1
 |0,x,hx=>by
  simp only[fa]at hx;have:=List.eq_of_mem_replicate hx;omega
 |i+1,x,hx=>by
  have h1:0<=a/(W.length:Int):=Int.ediv_nonneg ha om;have h2:a/(W.length:Int)<=a:=Int.ediv_le_self _ ha;rw[fa,qm]at hx;split at hx
  ·rcases List.mem_or_eq_of_mem_set hx with h|h
   ·exact Kp W hW ha n f i x h
   ·rw[h];split<;>omega
  ·exact Kp W hW ha n f i x hx
def SK{l:LA}(h:k<l.length)(c:T):(l.set k c)[k]? =some c:=by simp[h]
section
attribute [-go_sem] bC bF bK bE bH bL
def aQ5(a:Int)(W:LI)(n f:Nat)(hn:n<=6)(hW:0<W.length)(Kq:W.length<=6)(ha:0<=a/\a<=1000000)(hf:f<n):FR 167 [.t (.i a),.t (ints W),.t (.i n),.t (.i f)] (ae (k7 a W n f)):=by
 have hl:=zm W a n f;have b9:=Ko W hW a n f;have h1:0<=a/(W.length:Int):=Int.ediv_nonneg ha.1 om;have h2:a/(W.length:Int)<=a:=Int.ediv_le_self _ ha.1;have Kr:a.tmod (W.length:Int)=a%(W.length:Int):=rP ha.1;have BY:IntKind.i64.wrap (a.tdiv (W.length:Int))=a/(W.length:Int):=by
  rw[rV ha.1,wrap64 om om]
 have hq1:IntKind.i64.wrap (a/(W.length:Int)+1)=a/(W.length:Int)+1:=wrap64 om om;refine ao6 sA (aB Kr ?_);refine dX.ig (σ:=Nat) (fun i=>St.of [(0,.t (.i a)),(1,.t (ints W)),(2,.t (.i n)),(3,.t (.i f)),(9,.own 99),(10,.t (.i W.length)),(11,.t (.i (fa W a n f i).2)),(21,.t (.i n)),(22,.t (.i i))] [(99,.arr 1 ((fa W a n f i).1.map T.i))]) (fun i=>i<=n) (fun i=>n-i) 0 (aj.of _ _ [some 15] (by simp) (by simp) ?_ ⟨⟨_,rfl,by rw[fe,fa,List.map_replicate];exact .refl _⟩,rfl,trivial⟩) (by omega) fun i hi R hn' hr he=>?_
 ·simp -implicitDefEqProofs only[fc,Nat.reduceBEq,Nat.reduceEqDiff, ↓reduceIte,fa]
 ·rcases qH i n with h9|h9
  ·have hm:IntKind.i64.wrap ((f:Int)+(i:Int))=((f+i:Nat):Int):=by rw[wrap64 om om];omega
   have hm2:((f+i:Nat):Int).tmod (n:Int)=(((f+i)%n:Nat):Int):=(by rw[rP om,Int.natCast_emod]);have hk:(f+i)%n<n:=Nat.mod_lt _ om;have hst:fa W a n f (i+1)=qm W (a/W.length) (fa W a n f i) ((f+i)%n):=rfl;have uJ:=b9 i;have tT:=hl i;generalize fa W a n f i=s at hst uJ tT ⊢;obtain⟨l,rest⟩:=s
   (try simp only[]at hst uJ tT)
   (try simp only[])
   have Ks:∀c,((l.map T.i).set ((f+i)%n) c)[(f+i)%n]? =some c:=fun c=>SK (by rw[qJ];omega) c;by_cases hin:(((f+i)%n:Nat):Int)∈W
   ·rw[qm,if_pos hin]at hst
    (try simp only[]at hst)
    by_cases hp:0<rest
    ·rw[if_pos hp,if_pos hp]at hst;have dm:=eq_true hp;have hrw:IntKind.i64.wrap (rest-1)=rest-1:=wrap64 om om;refine aB (ay (dt ((i:Int)<(n:Int))) hm hm2) ?_;refine Px (Kn W ((((f+i)%n:Nat):Int)) om) (bQ (tC (decide_eq_true hin) BY hq1 tT dm hrw Ks @List.length_set.{0} @qJ.{0,0}) ?_);exact hn' _ (i+1) (aq [99] (ah (aw h9 om) hst) (hr:=rK rfl (by rw[hst,List.map_set];exact .refl _) trivial)) om om
    ·rw[if_neg hp,if_neg hp]at hst;have dm:=eq_false hp;refine aB (ay (dt ((i:Int)<(n:Int))) hm hm2) ?_;refine Px (Kn W ((((f+i)%n:Nat):Int)) om) (bQ (bM (decide_eq_true hin) BY tT dm @qJ.{0,0}) ?_);exact hn' _ (i+1) (aq [99] (ah (aw h9 om) hst) (hr:=rK rfl (by rw[hst,List.map_set];exact .refl _) trivial)) om om
   ·rw[qm,if_neg hin]at hst;refine aB (ay (dt ((i:Int)<(n:Int))) hm hm2) ?_;refine Px (Kn W ((((f+i)%n:Nat):Int)) om) (cE (decide_eq_false hin) ?_);exact hn' _ (i+1) (aq [99] (ah (aw h9 om) hst) (hr:=rK rfl (by rw[hst];exact .refl _) trivial)) om om
  ·obtain rfl:i=n:=om;refine aa (dF ((i:Int)<(i:Int))) ?_;refine he _ _ (ab ?_);rfl
def BZ(a:Int)(W:LI)(n f:Nat)(hn:n<=6)(hW:0<W.length)(Kq:W.length<=6)(ha:0<=a/\a<=1000000)(hf:f<n):FR 218 [.t (.i a),.t (ints W),.t (.i n),.t (.i f)] (ae (k7 a W n f)):=by
 have hl:=zm W a n f;have b9:=Ko W hW a n f;have h1:0<=a/(W.length:Int):=Int.ediv_nonneg ha.1 om;have h2:a/(W.length:Int)<=a:=Int.ediv_le_self _ ha.1;have Kr:a.tmod (W.length:Int)=a%(W.length:Int):=rP ha.1;have BY:IntKind.i64.wrap (a.tdiv (W.length:Int))=a/(W.length:Int):=by
  rw[rV ha.1,wrap64 om om]
 have hq1:IntKind.i64.wrap (a/(W.length:Int)+1)=a/(W.length:Int)+1:=wrap64 om om;refine as7 sA (aB Kr ?_);refine dX.ig (σ:=Nat) (fun i=>St.of [(0,.t (.i a)),(1,.t (ints W)),(2,.t (.i n)),(3,.t (.i f)),(9,.own 99),(10,.t (.i W.length)),(11,.t (.i (fa W a n f i).2)),(12,.t (.i i))] [(99,.arr 1 ((fa W a n f i).1.map T.i))]) (fun i=>i<=n) (fun i=>n-i) 0 (aj.of _ _ [some 15] (by simp) (by simp) ?_ ⟨⟨_,rfl,by rw[fe,fa,List.map_replicate];exact .refl _⟩,rfl,trivial⟩) (by omega) fun i hi R hn' hr he=>?_
 ·simp -implicitDefEqProofs only[fc,Nat.reduceBEq,Nat.reduceEqDiff, ↓reduceIte,fa]
 ·rcases qH i n with h9|h9
  ·have hm:IntKind.i64.wrap ((f:Int)+(i:Int))=((f+i:Nat):Int):=by rw[wrap64 om om];omega
   have hm2:((f+i:Nat):Int).tmod (n:Int)=(((f+i)%n:Nat):Int):=(by rw[rP om,Int.natCast_emod]);have hk:(f+i)%n<n:=Nat.mod_lt _ om;have hst:fa W a n f (i+1)=qm W (a/W.length) (fa W a n f i) ((f+i)%n):=rfl;have uJ:=b9 i;have tT:=hl i;generalize fa W a n f i=s at hst uJ tT ⊢;obtain⟨l,rest⟩:=s
   (try simp only[]at hst uJ tT)
   (try simp only[])
   have Ks:∀c,((l.map T.i).set ((f+i)%n) c)[(f+i)%n]? =some c:=fun c=>SK (by rw[qJ];omega) c;by_cases hin:(((f+i)%n:Nat):Int)∈W
   ·rw[qm,if_pos hin]at hst
    (try simp only[]at hst)
    by_cases hp:0<rest
    ·rw[if_pos hp,if_pos hp]at hst;have dm:=eq_true hp;have hrw:IntKind.i64.wrap (rest-1)=rest-1:=wrap64 om om;refine aB (ay (dt ((i:Int)<(n:Int))) hm hm2) ?_;refine Px (y_ W ((((f+i)%n:Nat):Int)) om) (bQ (tC (decide_eq_true hin) BY hq1 tT dm hrw Ks @List.length_set.{0} @qJ.{0,0}) ?_);exact hn' _ (i+1) (aq [99] (ah (aw h9 om) hst) (hr:=rK rfl (by rw[hst,List.map_set];exact .refl _) trivial)) om om
    ·rw[if_neg hp,if_neg hp]at hst;have dm:=eq_false hp;refine aB (ay (dt ((i:Int)<(n:Int))) hm hm2) ?_;refine Px (y_ W ((((f+i)%n:Nat):Int)) om) (bQ (bM (decide_eq_true hin) BY tT dm @qJ.{0,0}) ?_);exact hn' _ (i+1) (aq [99] (ah (aw h9 om) hst) (hr:=rK rfl (by rw[hst,List.map_set];exact .refl _) trivial)) om om
   ·rw[qm,if_neg hin]at hst;refine aB (ay (dt ((i:Int)<(n:Int))) hm hm2) ?_;refine Px (y_ W ((((f+i)%n:Nat):Int)) om) (cE (decide_eq_false hin) ?_);exact hn' _ (i+1) (aq [99] (ah (aw h9 om) hst) (hr:=rK rfl (by rw[hst];exact .refl _) trivial)) om om
  ·obtain rfl:i=n:=om;refine aa (dF ((i:Int)<(i:Int))) ?_;refine he _ _ (ab ?_);rfl
end
def na(ps:List (Int×LI)):LA:=ps.flatMap fun p=>[.i p.1,ints p.2]
def SL:∀ps:List (Int×LI),T.cr (gv ps)=na ps
 |[]=>by simp[gv,na,T.cr]
 |p::ps=>by
  rw[show gv (p::ps)=T.i p.1::ae p.2::gv ps from rfl,show na (p::ps)=T.i p.1::ints p.2::na ps from rfl];simp[T.cr,SL ps,ae,ints,T.bB,kU]
def Kt:∀ps:List (Int×LI),(na ps).length=ps.length*2
 |[]=>rfl
 |p::ps=>by rw[show na (p::ps)=T.i p.1::ints p.2::na ps from rfl,List.length_cons,List.length_cons,Kt ps,List.length_cons];omega
def Ku:∀(ps:List (Int×LI)) (k:Nat) (p:Int×LI),ps[k]? =some p->List.take 2 (List.drop (k*2) (na ps))=[.i p.1,ints p.2]
 |[],k,p,h=>by simp at h
 |q::ps,0,p,h=>by
  simp only[List.getElem?_cons_zero,Option.some.injEq]at h;subst h;rfl
 |q::ps,k+1,p,h=>by
  rw[show na (q::ps)=T.i q.1::ints q.2::na ps from rfl,show(k+1)*2=k*2+1+1 by omega,List.drop_succ_cons,List.drop_succ_cons,Ku ps k p (sU h)]
def lF(p:Int×LI)(hs ls:LI)(f:Nat):LI:=
 if 0<(dN true hs p.2).length then
  (if 0<(dN false ls p.2).length then hY (k7 (p.1-p.1/2) (dN true hs p.2) hs.length f) (k7 (p.1/2) (dN false ls p.2) hs.length f)else k7 p.1 (dN true hs p.2) hs.length f)
 else if 0<(dN false ls p.2).length then k7 p.1 (dN false ls p.2) hs.length f else k7 p.1 p.2 hs.length f
def fO(ps:List (Int×LI))(hs ls:LI)(f:Nat):Nat->LI
 |0=>List.replicate hs.length 0
 |k+1=>hY (fO ps hs ls f k) (lF (ps.getD k (0,[])) hs ls f)
def tU(A B:LI):(hY A B).length=A.length:=fx
def nb(a:Int)(W:LI)(n f:Nat):(k7 a W n f).length=n:=zm W a n f n
def Kv(p:Int×LI)(hs ls:LI)(f:Nat):(lF p hs ls f).length=hs.length:=by
 unfold lF;split
 ·split
  ·rw[tU,nb]
  ·rw[nb]
 ·split<;>rw[nb]
def tV(ps:List (Int×LI))(hs ls:LI)(f:Nat):∀k,(fO ps hs ls f k).length=hs.length
 |0=>by simp[fO]
 |k+1=>by rw[fO,tU,tV ps hs ls f k]
structure vA(n:Nat)(p:Int×LI):Prop where
 a:0<=p.1/\p.1<=1000000
 l:0<p.2.length/\p.2.length<=6
 m:∀x∈p.2,0<=x/\x.toNat<n
def FD(hi:Bool)(vals ws:LI):(dN hi vals ws).length<=ws.length:=BV hi vals ws ws.length
def Kw{A:LI}{a b:Int}(hl:B.length=A.length)(hA:∀x∈A,0<=x/\x<=a)(hB:∀x∈B,0<=x/\x<=b):∀x∈hY A B,0<=x/\x<=a+b:=by
 intro x hx;obtain⟨k,hk,rfl⟩:=qN.1 hx;have hk:k<A.length:=sU hk;have h1:=hA _ (gO hk);have h2:=hB _ (gO (l:=B) (i:=k) om);omega
def tW{W:LI}(hW:0<W.length){a:Int}(ha:0<=a)(n f:Nat):∀x∈k7 a W n f,0<=x/\x<=a+1:=Kp W hW ha n f n
def SM{p:Int×LI}(h:vA hs.length p):∀x∈lF p hs ls f,0<=x/\x<=3000000:=by
 intro x hx;have ha:=h.a;have hl:=h.l;unfold lF at hx;split at hx
 ·rename_i h1;split at hx
  ·rename_i h2;have:=Kw (by rw[nb,nb]) (tW h1 (a:=p.1-p.1/2) om hs.length f) (tW h2 (a:=p.1/2) om hs.length f) x hx;omega
  ·have:=tW h1 ha.1 hs.length f x hx;omega
 ·split at hx
  ·rename_i h2;have:=tW h2 ha.1 hs.length f x hx;omega
  ·have:=tW hl.1 ha.1 hs.length f x hx;omega
def B4{ps:List (Int×LI)}{hs ls:LI}{f:Nat}(h:∀p∈ps,vA hs.length p):∀k,k<=ps.length->∀x∈fO ps hs ls f k,0<=x/\x<=3000000*(k:Int)
 |0,_,x,hx=>by
  have:=List.eq_of_mem_replicate hx;omega
 |k+1,hk,x,hx=>by
  have hp:ps.getD k (0,[])∈ps:=by rw[qA,qB (show k<ps.length by omega)];exact rJ _
  have:=Kw (by rw[Kv,tV]) (B4 h k om) (SM (h _ hp)) x hx;omega
section
attribute [-go_sem] bC bF bK bE bH bL
def Kx(A B:LI)(hAB:B.length=A.length)(hn:A.length<=1000)(hA:∀x∈A,0<=x/\x<=1000000000)(hB:∀x∈B,0<=x/\x<=1000000000):FR 24 [.t (ints A),.t (ints B)] (ae (hY A B)):=by
 refine ac9 sA (ab ?_);refine dX.ig (σ:=Nat) (fun i=>St.of [(0,.t (ints A)),(1,.t (ints B)),(5,.own 95),(6,.t (.i i))] [(95,.arr 1 (((hY A B).take i).map T.i))]) (fun i=>i<=A.length) (fun i=>A.length-i) 0 (cH [7]) om fun i hi R hn' hr he=>?_
 ·rcases qH i A.length with h9|h9
  ·obtain⟨x,hx⟩:∃x,A[i]? =some x:=⟨_,qB h9⟩;obtain⟨y,hy⟩:∃y,B[i]? =some y:=⟨_,qB om⟩;have hx1:=hA x (qE hx);have hy1:=hB y (qE hy);have hxy:(hY A B)[i]? =some (x+y):=by
    rw[hY,gj h9,qA,qA,hx,hy];rfl
   have hw:IntKind.i64.wrap (x+y)=x+y:=wrap64 om om;have pX:((hY A B).take i).length<=1000:=by rw[qL];omega
   refine aB (bf hx hy hw (dt ((i:Int)<(A.length:Int)))) ?_;refine hn' _ (i+1) (aq [25] (aw h9 om) (hr:=?_)) om om
   ·refine rI ?_ trivial;rw[bG hxy,qG];exact .refl _
  ·refine aa (dF ((i:Int)<(A.length:Int))) ?_;refine he _ _ (ab ?_);rw[qQ (by rw[tU];omega)];rfl
def aQ6(p:Int×LI)(hs ls:LI)(f:Nat)(h:vA hs.length p)(hn:hs.length<=6)(hl:ls.length=hs.length)(hf:f<hs.length):FR 186 [.t (.agg [.i p.1,ints p.2]),.t (ints hs),.t (ints ls),.t (.i f)] (ae (lF p hs ls f)):=by
 have hm:∀x∈p.2,0<=x/\x.toNat<ls.length:=by rw[hl];exact h.m
 have q1:=SE true p.2 hs h.l.2 hn h.m;have q2:=SE false p.2 ls h.l.2 om hm;have b1:=FD true hs p.2;have b2:=FD false ls p.2;have ha:=h.a;have aM:=h.l;have hd:IntKind.i64.wrap (p.1.tdiv 2)=p.1/2:=by rw[rV ha.1,wrap64 om om]
 have dk:IntKind.i64.wrap (p.1-p.1/2)=p.1-p.1/2:=wrap64 om om;unfold lF;refine ap9 sA (ab ?_);refine Hx q1 (aP ?_);by_cases h1:0<(dN true hs p.2).length
 ·rw[if_pos h1];have d1:(((dN true hs p.2).length:Int)>0)=True:=eq_true om;by_cases h2:0<(dN false ls p.2).length
  ·rw[if_pos h2];have d2:(((dN false ls p.2).length:Int)>0)=True:=eq_true om;refine Hx q2 (dl (bM @ae.eq_1 d1 d2 hd dk) ?_);refine⟨om,?_⟩;refine Rx (BZ (p.1-p.1/2) (dN true hs p.2) hs.length f hn h1 om om hf) (bu @ae.eq_1 ?_) (au:=[18]) (be:=.inr (dY _));refine Rx (BZ (p.1/2) (dN false ls p.2) hs.length f hn h2 om om hf) (bu @ae.eq_1 ?_) (au:=[22]) (be:=.inr (dY _));have qa:=Kx (k7 (p.1-p.1/2) (dN true hs p.2) hs.length f) (k7 (p.1/2) (dN false ls p.2) hs.length f) (by rw[nb,nb]) (by rw[nb];omega) (fun x hx=>by have:=tW h1 (a:=p.1-p.1/2) om _ _ x hx;omega) (fun x hx=>by have:=tW h2 (a:=p.1/2) om _ _ x hx;omega);exact Rx qa (bu @ae.eq_1 trivial) (au:=[42,47]) (be:=.inr (dY _))
  ·rw[if_neg h2];have d2:(((dN false ls p.2).length:Int)>0)=False:=eq_false om;refine Hx q2 (dl (ay @ae.eq_1 d1 d2) ?_);exact Rx (BZ p.1 (dN true hs p.2) hs.length f hn h1 om ha hf) (bu @ae.eq_1 trivial) (au:=[18]) (be:=.inr (dY _))
 ·rw[if_neg h1];have d1:(((dN true hs p.2).length:Int)>0)=False:=eq_false om;by_cases h2:0<(dN false ls p.2).length
  ·rw[if_pos h2];have d2:(((dN false ls p.2).length:Int)>0)=True:=eq_true om;refine Hx q2 (dl (ay @ae.eq_1 d1 d2) ?_);exact Rx (BZ p.1 (dN false ls p.2) hs.length f hn h2 om ha hf) (bu @ae.eq_1 trivial) (au:=[22]) (be:=.inr (dY _))
  ·rw[if_neg h2];have d2:(((dN false ls p.2).length:Int)>0)=False:=eq_false om;refine Hx q2 (dl (ay @ae.eq_1 d1 d2) ?_);exact Rx (BZ p.1 p.2 hs.length f hn aM.1 om ha hf) (bu @ae.eq_1 trivial)
def aQ7(ps:List (Int×LI))(hs ls:LI)(f:Nat)(h:∀p∈ps,vA hs.length p)(hp:ps.length<=6)(hn:hs.length<=6)(hl:ls.length=hs.length)(hf:f<hs.length):FR 127 [.t (.sh 2 (na ps)),.t (ints hs),.t (ints ls),.t (.i f)] (ae (fO ps hs ls f ps.length)):=by
 have br:=Kt ps;have hc2:ps.length*2/2=ps.length:=om;refine al2 sA (tD ?_);refine dX.ig (σ:=Nat) (fun k=>St.of [(0,.t (.sh 2 (na ps))),(1,.t (ints hs)),(2,.t (ints ls)),(3,.t (.i f)),(9,.own 89),(10,.t (.i k))] [(89,.arr 1 ((fO ps hs ls f k).map T.i))]) (fun k=>k<=ps.length) (fun k=>ps.length-k) 0 (cH [13] (hr:=rK rfl (by rw[fe,fO,List.map_replicate];exact .refl _) trivial)) om fun k hk R hn' hr he=>?_
 ·rcases qH k ps.length with h9|h9
  ·obtain⟨p,hpk⟩:∃p,ps[k]? =some p:=⟨_,qB h9⟩;have nM:ps.getD k (0,[])=p:=by rw[qA,hpk];rfl
   have jy:=h p (qE hpk);have q1:=aQ6 p hs ls f jy hn hl hf;have hst:fO ps hs ls f (k+1)=hY (fO ps hs ls f k) (lF p hs ls f):=(by rw[fO,nM]);have q2:=Kx (fO ps hs ls f k) (lF p hs ls f) (by rw[Kv,tV]) (by rw[tV];omega) (fun x hx=>by have:=B4 (f:=f) (ls:=ls) h k om x hx;omega) (fun x hx=>by have:=SM jy x hx;omega);simp only[ints]at q1;refine aB (bf br hc2 (Ku ps k p hpk) (dt ((k:Int)<(ps.length:Int)))) ?_;refine Rx q1 (bu @ae.eq_1 ?_);refine Rx q2 (bu @ae.eq_1 ?_) (au:=[89,28]) (be:=.inr (dY _));exact hn' _ (k+1) (aq [29] (aw h9 om) (hr:=rK rfl (by rw[hst];exact .refl _) trivial)) om om
  ·obtain rfl:k=ps.length:=om;refine aa (ay br hc2 (dF ((ps.length:Int)<(ps.length:Int)))) ?_;refine he _ _ (ab ?_);rfl
end
def Ky{A:LI}(h:i<A.length):(hY A B)[i]? =some (A.getD i 0+B.getD i 0):=gj h
def Kz{A:LI}(h:i<A.length):(hY A B).getD i 0=A.getD i 0+B.getD i 0:=by rw[qA,Ky h];rfl
def aQ8{A C:LI}(h1:B.length=A.length)(h2:C.length=A.length):hY (hY A B) C=hY A (hY C B):=by
 refine List.ext_getElem? fun i=>?_;rcases qH i A.length with h|h
 ·rw[Ky (by rw[tU];exact h),Ky h,Kz h,Kz om];congr 1;omega
 ·rw[qP (by rw[tU,tU];exact h),qP (by rw[tU];exact h)]
section
attribute [-go_sem] bC bF bK bE bH bL
def B5(a:Int)(W A:LI)(n f:Nat)(hn:n<=6)(hW:0<W.length)(Kq:W.length<=6)(ha:0<=a/\a<=1000000)(hf:f<n)(hA:A.length=n)(qj:∀x∈A,0<=x/\x<=1000000000):
  FA 166 [.box [.i n],.box [.i f],.box [ae A]] [.t (.i a),.t (ints W),.own 1000000000,.own 1000000001,.own 1000000002] fun o r=>o=[.box [.i n],.box [.i f],.box [ae (hY A (k7 a W n f))]]/\r= .aI []:=by
 have dy:=nb a W n f;have hbd:=tW hW ha.1 n f;refine ao5 sA (ab ?_);refine Rx (aQ5 a W n f hn hW Kq ha hf) (bu @ae.eq_1 ?_);generalize k7 a W n f=B at dy hbd ⊢;have lh:∀i,(kx A B i).length=n:=fun i=>by rw[kx,fx,hA]
 refine dX.ig (σ:=Nat) (fun i=>St.of [(4,.own 1000000002),(13,.own 13),(14,.t (.i n)),(15,.t (.i i))] [(1000000000,.box [.i n]),(1000000001,.box [.i f]),(1000000002,.box [ae (kx A B i)]),(13,ae B)]) (fun i=>i<=n) (fun i=>n-i) 0 (aq [1000000000,1000000001,1000000002,13] dy (hr:=?_)) om fun i hi R hn' hr he=>?_
 ·refine rB (rB (rI ?_ (rB trivial)));rw[SH];exact .refl _
 ·rcases qH i n with h9|h9
  ·have hS:=dD (l:=B) (i:=i) om;have hP:(kx A B i)[i]? =some (A.getD i 0):=(by rw[kx,gj om,if_neg om]);have JR:=qj _ (gO (l:=A) (i:=i) om);have hSi:=hbd _ (gO (l:=B) (i:=i) om);have hw:IntKind.i64.wrap (A.getD i 0+B.getD i 0)=A.getD i 0+B.getD i 0:=wrap64 om om;have eE:=SJ A B i;refine aB (dZ @ae.eq_1 hS hP dy lh hw (dt ((i:Int)<(n:Int)))) ?_;refine hn' _ (i+1) (wT (wC 1000000002 0 20) (aq [1000000000,1000000001,1000000002,13] (aw h9 om) (hr:=?_))) om om
   ·refine rB (rB (rI ?_ (rB trivial)));rw[←eE,ae,List.map_set];exact .refl _
  ·refine aa (dF ((i:Int)<(n:Int))) ?_;refine he _ _ (ab ?_);rw[show i=A.length by omega,SI];rfl
def aQ9(ps:List (Int×LI))(hs ls:LI)(f:Nat)(h:∀p∈ps,vA hs.length p)(hp:ps.length<=6)(hn:hs.length<=6)(hl:ls.length=hs.length)(hf:f<hs.length):
  FA 108 [] [.t (.sh 2 (na ps)),.t (ints hs),.t (ints ls),.t (.i f)] fun o r=>o=[]/\r=ae (fO ps hs ls f ps.length):=by
 have br:=Kt ps;have hc2:ps.length*2/2=ps.length:=om;refine aj6 sA (tD ?_);refine dX.ig (σ:=Nat) (fun i=>St.of [(1,.t (ints hs)),(2,.t (ints ls)),(10,.own 10),(11,.fn 166 [.own 9,.own 7,.own 10]),(21,.t (.sh 2 (na ps))),(22,.t (.i ps.length)),(23,.t (.i i))] [(9,.box [.i hs.length]),(7,.box [.i f]),(10,.box [ae (fO ps hs ls f i)])]) (fun i=>i<=ps.length) (fun i=>ps.length-i) 0 (aj.o _ _ [some 9,some 7,some 10] ?_ ?_) om fun i hi R hn' hr he=>?_
 ·refine bZ (ah br hc2) ?_;exact⟨rfl,rfl,rfl,rfl⟩
 ·refine rB (rB (rI ?_ trivial));rw[fe,fO,ae,List.map_replicate];exact .refl _
 ·rcases qH i ps.length with h9|h9
  ·obtain⟨p,hpk⟩:∃p,ps[i]? =some p:=⟨_,qB h9⟩;have nM:ps.getD i (0,[])=p:=by rw[qA,hpk];rfl
   have jy:=h p (qE hpk);have hst:fO ps hs ls f (i+1)=hY (fO ps hs ls f i) (lF p hs ls f):=(by rw[fO,nM]);have hm:∀x∈p.2,0<=x/\x.toNat<ls.length:=by rw[hl];exact jy.m
   have q1:=aQ2 p.2 hs jy.l.2 hn jy.m;have q2:=aQ3 p.2 ls jy.l.2 om hm;have b1:=FD true hs p.2;have b2:=FD false ls p.2;have ha:=jy.a;have aM:=jy.l;have tX:=tV ps hs ls f i;have qj:=B4 (f:=f) (ls:=ls) h i om;generalize fO ps hs ls f i=A at hst tX qj ⊢;have hd:IntKind.i64.wrap (p.1.tdiv 2)=p.1/2:=(by rw[rV ha.1,wrap64 om om]);have dk:IntKind.i64.wrap (p.1-p.1/2)=p.1-p.1/2:=wrap64 om om;have be:∀X:LI,(T.aI []).bJ/\T.df [T.box [T.i hs.length],T.box [T.i f],T.box [ae X]]:=fun X=>⟨trivial,by simp[T.bJ,T.df],by simp[T.bJ,T.df],⟨dY X,trivial⟩,trivial⟩;refine aB (ay br (Ku ps i p hpk) (dt ((i:Int)<(ps.length:Int)))) ?_;refine Hx q1 (aP ?_);by_cases h1:0<(dN true hs p.2).length
   ·have d1:(((dN true hs p.2).length:Int)>0)=True:=eq_true om;by_cases h2:0<(dN false ls p.2).length
    ·have d2:(((dN false ls p.2).length:Int)>0)=True:=eq_true om;rw[lF,if_pos h1,if_pos h2]at hst;refine Hx q2 (dl (bf @ae.eq_1 d1 d2 hd) ?_);refine⟨om,?_⟩;have hA:=B5 (p.1/2) (dN false ls p.2) A hs.length f hn h2 om om hf tX (fun x hx=>by have:=qj x hx;omega);simp only[ae]at hA;refine Fx hA [9,7,10] (dl (ah hd dk) ?_) (au:=[34]) (be:=.inr (be _));refine⟨om,?_⟩;have hB:=B5 (p.1-p.1/2) (dN true hs p.2) (hY A (k7 (p.1/2) (dN false ls p.2) hs.length f)) hs.length f hn h1 om om hf (by rw[tU,tX]) (fun x hx=>by have:=Kw (by rw[nb,tX]) qj (tW h2 (a:=p.1/2) om hs.length f) x hx;omega);simp only[ae]at hB;refine Fx hB [9,7,10] (dA ?_) (au:=[30]) (be:=.inr (be _));refine hn' _ (i+1) (aj.o _ _ [some 9,some 7,some 10] ?_ ?_) om om
     ·refine bZ (aw h9 om) ?_;exact⟨rfl,rfl,rfl,rfl⟩
     ·refine rB (rB (rI ?_ trivial));rw[hst,←aQ8 (by rw[nb,tX]) (by rw[nb,tX])];exact .refl _
    ·have d2:(((dN false ls p.2).length:Int)>0)=False:=eq_false om;rw[lF,if_pos h1,if_neg h2]at hst;refine Hx q2 (dl (ay @ae.eq_1 d1 d2) ?_);have hA:=B5 p.1 (dN true hs p.2) A hs.length f hn h1 om om hf tX (fun x hx=>by have:=qj x hx;omega);simp only[ae]at hA;refine Fx hA [9,7,10] (dA ?_) (au:=[30]) (be:=.inr (be _));refine hn' _ (i+1) (aj.o _ _ [some 9,some 7,some 10] ?_ ?_) om om
     ·refine bZ (aw h9 om) ?_;exact⟨rfl,rfl,rfl,rfl⟩
     ·refine rB (rB (rI ?_ trivial));rw[hst];exact .refl _
   ·have d1:(((dN true hs p.2).length:Int)>0)=False:=eq_false om;by_cases h2:0<(dN false ls p.2).length
    ·have d2:(((dN false ls p.2).length:Int)>0)=True:=eq_true om;rw[lF,if_neg h1,if_pos h2]at hst;refine Hx q2 (dl (ay @ae.eq_1 d1 d2) ?_);have hA:=B5 p.1 (dN false ls p.2) A hs.length f hn h2 om om hf tX (fun x hx=>by have:=qj x hx;omega);simp only[ae]at hA;refine Fx hA [9,7,10] (dA ?_) (au:=[34]) (be:=.inr (be _));refine hn' _ (i+1) (aj.o _ _ [some 9,some 7,some 10] ?_ ?_) om om
     ·refine bZ (aw h9 om) ?_;exact⟨rfl,rfl,rfl,rfl⟩
     ·refine rB (rB (rI ?_ trivial));rw[hst];exact .refl _
    ·have d2:(((dN false ls p.2).length:Int)>0)=False:=eq_false om;rw[lF,if_neg h1,if_neg h2]at hst;refine Hx q2 (dl (ay @ae.eq_1 d1 d2) ?_);have hA:=B5 p.1 (p.2) A hs.length f hn aM.1 om om hf tX (fun x hx=>by have:=qj x hx;omega);simp only[ae]at hA;refine Fx hA [9,7,10] (dA ?_) (be:=.inr (be _));refine hn' _ (i+1) (aj.o _ _ [some 9,some 7,some 10] ?_ ?_) om om
     ·refine bZ (aw h9 om) ?_;exact⟨rfl,rfl,rfl,rfl⟩
     ·refine rB (rB (rI ?_ trivial));rw[hst];exact .refl _
  ·obtain rfl:i=ps.length:=om;refine aa (dF ((ps.length:Int)<(ps.length:Int))) ?_;exact he _ _ (aa @ae.eq_1 trivial)
end
def eI(f:Nat->Int):Nat->Int
 |0=>0
 |n+1=>eI f n+f n
def FE{f g:Nat->Int}:∀n,(∀i,i<n->f i=g i)->eI f n=eI g n
 |0,_=>rfl
 |n+1,h=>by rw[eI,eI,FE n fun i hi=>h i om,h n om]
def FF(f g:Nat->Int):∀n,eI (fun i=>f i+g i) n=eI f n+eI g n
 |0=>rfl
 |n+1=>by rw[eI,eI,eI,FF f g n];omega
def FG(f:Nat->Int):∀n,((List.range n).map f).sum=eI f n
 |0=>rfl
 |n+1=>by rw[List.range_succ,qG,List.sum_append,FG f n,eI];simp
def tY(l:LI):l.sum=eI (fun i=>l.getD i 0) l.length:=by
 rw[←FG];congr 1;refine List.ext_getElem sA fun i h1 h2=>?_;rw[rQ,List.getElem_range,qA,qB h1];rfl
def KA{A:LI}(h:B.length=A.length):(hY A B).sum=A.sum+B.sum:=by
 rw[hY,fh,FG,FF,tY A,tY B,h]
def aR0:∀n,n<7->∀f,f<n->∀j,j<n->∀i,i<j->(f+i)%n≠(f+j)%n:=by decide+kernel
def SN{j:Nat}(h6:n<=6)(hf:f<n)(hj:j<n)(h:i<j):(f+i)%n≠(f+j)%n:=aR0 n om f hf j hj i h
def qq(W:LI)(n f i:Nat):LI:=((List.range i).map fun k=>(((f+k)%n:Nat):Int)).filter fun x=>decide (x∈W)
def aR1(W:LI)(n f i:Nat):qq W n f (i+1)=qq W n f i++(if(((f+i)%n:Nat):Int)∈W then [(((f+i)%n:Nat):Int)]else []):=by
 rw[qq,List.range_succ,qG,List.filter_append];congr 1;by_cases h:(((f+i)%n:Nat):Int)∈W
 ·rw[if_pos h];simp only[List.map_cons,List.map_nil,List.filter_cons,h,decide_true,if_true,List.filter_nil]
 ·rw[if_neg h];simp only[List.map_cons,List.map_nil,List.filter_cons,h,decide_false,Bool.false_eq_true,if_false,List.filter_nil]
def aR2{W:LI}(h2:2<=n)(h6:n<=6)(hf:f<n)(hn:W.Nodup)(hm:∀x∈W,0<=x/\x.toNat<n):(qq W n f n).length=W.length:=by
 refine List.Perm.length_eq ((List.perm_ext_iff_of_nodup ?_ hn).2 fun x=>?_)
 ·refine List.Pairwise.filter _ (List.pairwise_map.2 (List.Pairwise.imp_of_mem (R:=(· < ·)) ?_ List.pairwise_lt_range));intro a b ha hb hab e;exact SN h6 hf (List.mem_range.1 hb) hab om
 ·rw[qq,qV,qN,decide_eq_true_eq];refine⟨fun h=>h.2,fun h=>⟨?_,h⟩⟩;obtain⟨h0,h1⟩:=hm x h;obtain⟨q1,q2⟩:=IW h2 h6 hf h1;exact⟨_,List.mem_range.2 q2,by rw[q1];omega⟩
def SO(W:LI)(a:Int){n f:Nat}(h6:n<=6)(hf:f<n)(hW:0<W.length):∀i,i<=n->(∀j,i<=j->j<n->(fa W a n f i).1.getD ((f+j)%n) 0=0)/\(fa W a n f i).1.sum+(fa W a n f i).2=a/W.length*(qq W n f i).length+a%W.length/\(fa W a n f i).2=max 0 (a%W.length-(qq W n f i).length)
 |0,_=>by
  have h0:0<=a%(W.length:Int):=Int.emod_nonneg _ om;refine⟨fun j _ hj=>?_,?_,?_⟩
  ·have:(f+j)%n<n:=Nat.mod_lt _ om;rw[fa,qA,rM,if_pos this];rfl
  ·simp[fa,qq]
  ·simp[fa,qq];omega
 |i+1,hi=>by
  obtain⟨h1,h2,h3⟩:=SO W a h6 hf hW i om;have hl:=zm W a n f i;have hk:(f+i)%n<n:=Nat.mod_lt _ om;have hz:=h1 i (qR _) om;rw[aR1,fa,qm];generalize fa W a n f i=s at*;obtain⟨l,r⟩:=s;simp only[]at*;by_cases hm:(((f+i)%n:Nat):Int)∈W
  ·rw[if_pos hm,if_pos hm];simp only[qD,List.length_cons,List.length_nil];refine⟨fun j hj1 hj2=>?_,?_,?_⟩
   ·have hne:=SN h6 hf hj2 (show i<j by omega);have:=h1 j om hj2;rw[qA,List.getElem?_set_ne hne,←qA];exact this
   ·rw[A9 om,hz];have e:a/(W.length:Int)*(((qq W n f i).length+(0+1):Nat):Int)=a/(W.length:Int)*((qq W n f i).length:Int)+a/(W.length:Int):=by
     rw[Int.natCast_add,Int.mul_add];simp
    rw[e];split<;>omega
   ·split<;>omega
  ·rw[if_neg hm,if_neg hm,List.append_nil];exact⟨fun j hj1 hj2=>h1 j om hj2,h2,h3⟩
def aR3{W:LI}{a:Int}(h2:2<=n)(h6:n<=6)(hf:f<n)(hW:0<W.length)(hn:W.Nodup)(hm:∀x∈W,0<=x/\x.toNat<n):(k7 a W n f).sum=a:=by
 obtain⟨_,q1,q2⟩:=SO W a h6 hf hW n (qR _);rw[aR2 h2 h6 hf hn hm]at q1 q2;have h0:a%(W.length:Int)<W.length:=Int.emod_lt_of_pos _ om;have h1:=Int.mul_ediv_add_emod a W.length;rw[Int.mul_comm]at h1;rw[k7];omega
def SQ(hi:Bool)(vals ws:LI):∀j,j<=ws.length->(fV hi vals ws j).2.Sublist (ws.take j)
 |0,_=>by simp[fV]
 |j+1,h=>by
  have q:=SQ hi vals ws j om;have hx:ws[j]? =some (ws.getD j 0):=by rw[qA,qB (show j<ws.length by omega)];rfl
  rw[bG hx,fV,j7];split
  ·exact q.trans (List.sublist_append_left _ _)
  ·split
   ·exact List.sublist_append_right _ _
   ·split
    ·exact q.append (List.Sublist.refl _)
    ·exact q.trans (List.sublist_append_left _ _)
def SR(hi:Bool)(vals ws:LI):(dN hi vals ws).Sublist ws:=by
 have:=SQ hi vals ws ws.length (qR _);rwa[rT]at this
def aR4{p:Int×LI}(h2:2<=hs.length)(h6:hs.length<=6)(hf:f<hs.length)(h:vA hs.length p)(hn:p.2.Nodup):(lF p hs ls f).sum=p.1:=by
 have s1:=SR true hs p.2;have s2:=SR false ls p.2;have k:∀{W:LI} (a:Int),W.Sublist p.2->0<W.length->(k7 a W hs.length f).sum=a:=fun a hs' hW=>aR3 h2 h6 hf hW (hn.sublist hs') fun x hx=>h.m x (hs'.subset hx);unfold lF;split
 ·split
  ·rw[KA (by rw[nb,nb]),k _ s1 (by assumption),k _ s2 (by assumption)];omega
  ·exact k _ s1 (by assumption)
 ·split
  ·exact k _ s2 (by assumption)
  ·exact k _ (List.Sublist.refl _) h.l.1
def SS{ps:List (Int×LI)}{hs ls:LI}{f:Nat}(h2:2<=hs.length)(h6:hs.length<=6)(hf:f<hs.length)(h:∀p∈ps,vA hs.length p/\p.2.Nodup):∀k,k<=ps.length->(fO ps hs ls f k).sum=eI (fun j=>(ps.getD j (0,[])).1) k
 |0,_=>by simp[fO,eI]
 |k+1,hk=>by
  have hp:ps.getD k (0,[])∈ps:=by rw[qA,qB (show k<ps.length by omega)];exact rJ _
  rw[fO,KA (by rw[Kv,tV]),SS h2 h6 hf h k om,aR4 h2 h6 hf (h _ hp).1 (h _ hp).2,eI]
def KB(r L:LI)(k:Nat):∀i,fw r L k i=eI (fun j=>min (r.getD j 0) (L.getD k 0)) i-eI (fun j=>min (r.getD j 0) (d8 L k)) i+(if k+1=L.length then eI (fun j=>r.getD j 0) i-eI (fun j=>min (r.getD j 0) (L.getD k 0)) i else 0)
 |0=>by simp[fw,eI]
 |i+1=>by
  rw[fw,KB r L k i,eI,eI,eI];split<;>omega
def SU{r L:LI}{fo:List Bool}(h:∀i,i<r.length->0<=r.getD i 0)(hL:0<L.length):∀m,m<=L.length->eI (fun j=>((kZ r fo L).getD j (0,[])).1) m=if m=L.length then r.sum else eI (fun j=>min (r.getD j 0) (d8 L m)) r.length
 |0,_=>by
  rw[if_neg om,eI,FE (g:=fun _=>0) r.length fun i hi=>?_]
  ·have:∀n,eI (fun _=>0) n=0:=fun n=>by induction n with|zero=>rfl|succ n ih=>rw[eI,ih];rfl
   rw[this]
  ·have:=h i hi;show min _ (0:Int)=0;omega
 |m+1,hm=>by
  have hg:((kZ r fo L).getD m (0,[])).1=fw r L m r.length:=by rw[qA,Ri om];rfl
  have hb:d8 L (m+1)=L.getD m 0:=rfl;rw[eI,SU h hL m om,if_neg om,hg,KB,hb,tY r];split
  ·omega
  ·omega
def aR5(r:LI)(fo:List Bool)(v:Int)(i:Nat):(oP r fo v i).Nodup:=by
 refine List.pairwise_map.2 ((List.pairwise_lt_range.filter _).imp fun h=>?_);omega
section
attribute [-go_sem] bC bF bK bE bH bL
def lG:Nat->Nat|0=>0|_=>2
def vB:Nat->Nat|0=>2|_=>4
def vC:Nat->Int|2=>1|_=>0
def vD(v:Nat)(aF h:LI):Int:=nK (eB (lG v) 2 h aF)
def vE(v:Nat)(aF h:LI):Int:=if v=2 then zl (eB (lG v) 2 h aF)else -1
def aR6:∀v,v<=2->List.take 6 (List.drop (v*6) [T.i 2,T.i 0,T.i 2,T.i 5,T.b true,T.i 0,T.i 4,T.i 2,T.i 2,T.i 5,T.b true,T.i 0,T.i 4,T.i 2,T.i 2,T.i 5,T.b true,T.i 1,T.i 7,T.i 5,T.i 5,T.i 0,T.b true,T.i 0,T.i 7,T.i 5,T.i 5,T.i 0,T.b true,T.i 1,T.i 7,T.i 5,T.i 5,T.i 0,T.b false,T.i 2,T.i 5,T.i 5,T.i 5,T.i 0,T.b true,T.i 0,T.i 5,T.i 5,T.i 5,T.i 0,T.b false,T.i 3])=[.i (vB v:Nat),.i (lG v:Nat),.i (2:Nat),.i 5,.b true,.i (vC v)]
 |0,_=>rfl|1,_=>rfl|2,_=>rfl|n+3,h=>om
def aR7:∀{v:Nat},v<=2->v≠2->vC v=0
 |0,_,_=>rfl|1,_,_=>rfl|2,_,h=>absurd rfl h|n+3,h,_=>om
def aR8:∀v,lG v<=2
 |0=>by decide|n+1=>qR 2
def SV:∀v,vB v<=4
 |0=>by decide|n+1=>qR 4
def aR9{lo hi:Nat}{hole aF h:LI}(hhi:hi<=5)(hc:ce (hole++aF))(hh:h∈eB lo hi hole aF):ce h/\h.length=5:=by
 obtain⟨n,a,b,h1,h2,h3,h4,h5,h6,rfl⟩:=EZ.1 hh;have hs:=h3.append h5;refine⟨⟨hc.1.sublist hs,fun x hx=>hc.2 x (hs.subset hx)⟩,?_⟩;rw[qD];omega
def aS0{aF h:LI}(hc:ce (h++aF))(h2:h.length=2)(h5:aF.length=5):vD 0 aF h=gP (h++aF):=aC6 hc h2 h5
end
def xO{f g:Nat->Int}:∀n,(∀i,i<n->f i<=g i)->eI f n<=eI g n
 |0,_=>Int.le_refl _
 |n+1,h=>by
  have h1:=xO n fun i hi=>h i om;have h2:=h n om;rw[eI,eI];omega
def KC(c:Int):∀n,eI (fun _=>c) n=c*n
 |0=>by simp[eI]
 |n+1=>by rw[eI,KC c n,Int.natCast_add,Int.mul_add];simp
def fy(pd:LI)(fo:List Bool):List (Int×LI):=kZ (c7 pd) fo (eC (c7 pd) fo)
def FH(pd:LI):(c7 pd).length=pd.length:=by rw[c7,List.length_set]
def FI(h:jZ (c7 pd) fo):(fy pd fo).length<=6:=by
 rw[fy,Fg];exact(Fi h).1
def aS1(h:jZ r fo)(hk:k<(eC r fo).length):d8 (eC r fo) k<=(eC r fo).getD k 0:=by
 have hp:=Fh h k;unfold d8;split
 ·exact hp
 ·have:=List.pairwise_iff_getElem.1 (Rg r fo) (k-1) k om hk om;rw[qA,qA,qB hk,qB (show k-1<(eC r fo).length by omega)];show(eC r fo)[k-1]<=(eC r fo)[k];omega
def aS2(h:jZ r fo)(k:Nat):0<=d8 (eC r fo) k:=by
 unfold d8;split
 ·exact Int.le_refl _
 ·exact Fh h _
def B7(h:jZ (c7 pd) fo):∀p∈fy pd fo,vA pd.length p/\p.2.Nodup:=by
 intro p hp;obtain⟨k,hk,rfl⟩:=qN.1 hp;have hk:=List.mem_range.1 hk;have hl:=FH pd;have hb:=aS1 h hk;have h0:=aS2 h k;have hr:=h.p.2;have n6:=h.p.1.2;have e1:=xO (f:=fun j=>min ((c7 pd).getD j 0) (d8 (eC (c7 pd) fo) k)) (g:=fun j=>min ((c7 pd).getD j 0) ((eC (c7 pd) fo).getD k 0)) (c7 pd).length (fun i _=>om);have e2:=xO (f:=fun j=>min ((c7 pd).getD j 0) ((eC (c7 pd) fo).getD k 0)) (g:=fun j=>(c7 pd).getD j 0) (c7 pd).length (fun i _=>om);have e3:=xO (f:=fun j=>(c7 pd).getD j 0) (g:=fun _=>100000) (c7 pd).length (fun i hi=>(hr i hi).2);have e4:=xO (f:=fun _=>0) (g:=fun j=>min ((c7 pd).getD j 0) (d8 (eC (c7 pd) fo) k)) (c7 pd).length (fun i hi=>by have:=(hr i hi).1;omega);rw[KC]at e3 e4;refine⟨⟨?_,⟨?_,?_⟩,?_⟩,aR5 _ _ _ _⟩
 ·simp only[];rw[KB];split<;>omega
 ·obtain⟨i,h1,h2,h3⟩:=za.1 (gO hk);refine List.length_pos_of_mem (qN.2 ⟨i,qV.2 ⟨List.mem_range.2 (by rw[←h.f];exact h1),?_⟩,rfl⟩);rw[h2,h3];simp
 ·have:=JQ (c7 pd) fo ((eC (c7 pd) fo).getD k 0) (c7 pd).length;simp only[];omega
 ·intro x hx;obtain⟨j,hj,rfl⟩:=qN.1 hx;have:=List.mem_range.1 (qV.1 hj).1;omega
def tZ(pd:LI)(fo:List Bool)(hs ls:LI)(f:Nat):LI:=
 (fO (fy pd fo) hs ls f (fy pd fo).length).set (c6 pd).1 ((fO (fy pd fo) hs ls f (fy pd fo).length).getD (c6 pd).1 0+(c6 pd).2)
def aS3(pd:LI)(fo:List Bool)(hs ls:LI)(f:Nat):(tZ pd fo hs ls f).length=hs.length:=by rw[tZ,List.length_set,tV]
def aS4(hp:jC pd)(h:jZ (c7 pd) fo)(hl:hs.length=pd.length)(hf:f<pd.length):(tZ pd fo hs ls f).sum=pd.sum:=by
 have hu:=BI hp;have n2:=hp.1;have ll:=SS (hs:=hs) (ls:=ls) om om (by omega:f<hs.length) (fun p ju=>by rw[hl];exact B7 h p ju) (fy pd fo).length (qR _);have h2:=SU (fo:=fo) (fun i hi=>(h.p.2 i hi).1) (Fi h).2 (eC (c7 pd) fo).length (qR _);rw[if_pos rfl]at h2;have aM:(fy pd fo).length=(eC (c7 pd) fo).length:=Fg _ _ _;rw[aM]at ll;rw[show kZ (c7 pd) fo (eC (c7 pd) fo)=fy pd fo from rfl]at h2;rw[h2]at ll;have e:(c7 pd).sum=pd.sum-pd.getD (c6 pd).1 0+(pd.getD (c6 pd).1 0-(c6 pd).2):=A9 hu _;rw[tZ,A9 (by rw[tV];omega),aM,ll];omega
def nc(v:Nat)(bd:LI)(ho:LL)(fo:List Bool):LI:=fh ho.length fun i=>if fo.getD i true=true then -1 else vD v bd (ho.getD i [])
def sL(v:Nat)(bd:LI)(ho:LL)(fo:List Bool):LI:=fh ho.length fun i=>if fo.getD i true=true then -1 else vE v bd (ho.getD i [])
def iN(h:Hd)(p:gi):LI:=
 if p.sh=true then tZ (dS p.b) p.b.fo (nc h.v.toNat h.bd h.ho p.b.fo) (sL h.v.toNat h.bd h.ho p.b.fo) ((h.t.bn.toNat+1)%h.t.st.length)
 else(List.replicate h.t.st.length 0).set ((fM p.b.fo).getD 0 0).toNat (dS p.b).sum
def B8{b:Bt}(l:c9 n b):jC (dS b):=by
 have hl:=sx l;refine⟨⟨by rw[hl];exact l.n2,by rw[hl];exact l.n6⟩,fun i hi=>?_⟩;rw[hl]at hi;rw[EC l hi];have:=l.xs i hi;have:=l.xb i hi;have:=l.xp i hi;have:=l.xt i hi;omega
def SW{r:LI}{m j:Nat}(hj:j≠m):∀i,j<i->r.getD j 0<=ik r m i
 |0,h=>om
 |i+1,h=>by
  unfold ik;rcases qH j i with h9|h9
  ·have:=SW hj i h9 (r:=r);split<;>omega
  ·have:j=i:=om;subst this;rw[if_neg hj];omega
def aS5(hp:jC pd)(hf:fo.length=pd.length)(h2:1<((List.range fo.length).filter fun i=>!(fo.getD i true)).length)(hg:∀i,i<pd.length->fo.getD i true=false->0<pd.getD i 0):jZ (c7 pd) fo:=by
 have hl:=FH pd;have hu:=BI hp;have sD:=Fc hp;have live:∀x,∃k,k<fo.length/\k≠x/\fo.getD k true=false:=fun x=>by
  obtain⟨k,a,b,c⟩:=IV (x:=x) h2;exact⟨k,a,b,sU c⟩
 have Eo:∀i,i<pd.length->(c7 pd).getD i 0=if(c6 pd).1=i then pd.getD (c6 pd).1 0-(c6 pd).2 else pd.getD i 0:=fun i hi=>by
  rw[c7,kQ];by_cases e:(c6 pd).1=i
  ·rw[if_pos ⟨e,om⟩,if_pos e]
  ·rw[if_neg (fun c=>e c.1),if_neg e]
 refine⟨⟨⟨by rw[hl];exact hp.1.1,by rw[hl];exact hp.1.2⟩,fun i hi=>?_⟩,by rw[hl,hf],?_,fun i hi bj=>?_⟩
 ·rw[hl]at hi;rw[Eo i hi];have:=hp.2 i hi;split
  ·exact sD
  ·exact this
 ·obtain⟨k,a,_,c⟩:=live 0;exact⟨k,om,c⟩
 ·rw[hl]at hi;rw[Eo i hi];have h0:=hg i hi bj;split
  ·rename_i e;subst e;have hml:=tG pd pd.length (qR _) (by have:=hp.1;omega);have tO:=BH pd pd.length (by have:=hp.1;omega) (qR _);rw[rT]at tO;obtain⟨k,a,b,c⟩:=live (cd pd pd.length);have hk:=hg k om c;have hs:=SW (r:=pd) b pd.length om;unfold c6 at h0 ⊢;split
   ·rename_i e;rw[if_pos e]at h0;simp only[]at h0 ⊢;omega
   ·simp only[];omega
  ·exact h0
def KD{t:Tb}(ht:cR t):∀(l:List (Int×Int)) (p:gi),oO t p->(p.sh=true->∀j,j<t.st.length->hasB p.b j=false)->oO t (lZ t p l).1/\((lZ t p l).1.sh=true->∀j,j<t.st.length->hasB (lZ t p l).1.b j=false)
 |[],p,h,g=>⟨h,g⟩
 |a::l,p,h,g=>by
  rcases Bool.eq_false_or_eq_true p.ov with ho|ho
  ·rw[BG ho];exact⟨h,g⟩
  ·rcases Bool.eq_false_or_eq_true (gD (fT p.b) a)with hl|hl
   ·rw[JH ho hl];have hi:=EB h.i (h.o ho).2 hl;exact KD ht l _ (QY ht h ho hl) (KE ht _ _ _ (by have:=h.s;omega) h.s hi.1 hi.2)
   ·rw[JI ho hl];exact⟨h,g⟩
where
 KE {t:Tb} (ht:cR t):∀(k:Nat) (b:Bt) (s:Nat),k+s=4->s<=3->ny t b->uW t.st.length b->(iy t k b s).sh=true->∀j,j<t.st.length->hasB (iy t k b s).b j=false
 |0,b,s,h,h3,_,_=>om
 |k+1,b,s,h,h3,i,tn=>by
  unfold iy
  by_cases hh:hasB b b.tn=true
  ·rw[if_pos hh];intro e;cases e
  ·rw[if_neg hh]
   have hno:=tn.resolve_left hh
   by_cases hl:(kP b).length<2
   ·rw[if_pos hl];intro e;cases e
   ·rw[if_neg hl]
    by_cases hc:s=3∨fL b<2
    ·rw[if_pos hc];exact fun _=>hno
    ·rw[if_neg hc]
     have hn:=Bg ht i hno (s+1)
     exact KE ht k _ _ om om hn.1 hn.2
def t_(h:Hd)(ht:cR h.t):oO h.t (aY h).1/\((aY h).1.sh=true->jZ (c7 (dS (aY h).1.b)) (aY h).1.b.fo):=by
 have q:=KD ht h.ac (Ba h.t) (QX ht) (KD.KE ht 4 _ 0 rfl om (tJ ht).1 (tJ ht).2);refine⟨q.1,fun hsh=>?_⟩;have hno:=q.2 hsh;have hk:oO h.t (aY h).1:=q.1
 change∀j,j<h.t.st.length->hasB (aY h).1.b j=false at hno
 generalize (aY h).1=p at hk hno hsh ⊢;have l:=hk.i.l;have hl:=sx l;refine aS5 (B8 l) (by rw[l.fo,hl]) ?_ fun i hi bj=>?_
 ·have:=hk.g hsh;exact this
 ·rw[hl]at hi;rw[EC l hi];have h1:=hk.i.tot i hi;have h2:=hno i hi;have h3:=l.xs i hi;have h4:=l.xb i hi;have h5:=l.xp i hi;have h6:1<=h.t.st.getD i 0:=(ht.2.1 _ (gO hi)).1;rcases Int.lt_or_le 0 (p.b.st.getD i 0)with h7|h7
  ·have hcan:eO p.b i=true:=yN.2 ⟨bj,h7⟩;have hge:¬p.b.bt.getD i 0<aG p.b:=fun hlt=>by
    have:hasB p.b i=true:=Bd.2 ⟨hcan,.inl hlt⟩;rw[h2]at this;cases this
   rcases hk.i.Bb with hm|hm
   ·omega
   ·have:=hm i hi bj;omega
  ·omega
def B9(h:Hd)(ok:cU h)(ho:(aY h).1.ov=true):(iN h (aY h).1).sum=(dS (aY h).1.b).sum/\(iN h (aY h).1).length=h.t.st.length:=by
 obtain⟨hk,hp⟩:=t_ h ok.1;have qt:h.ho.length=h.t.st.length:=ok.2.2.1;have n2:=ok.1.1;generalize (aY h).1=p at hk hp ho ⊢;have l:=hk.i.l;have hl:=sx l;have hf:(h.t.bn.toNat+1)%h.t.st.length<h.t.st.length:=Nat.mod_lt _ om;have sM:(nc h.v.toNat h.bd h.ho p.b.fo).length=h.t.st.length:=by rw[nc,fx,qt]
 unfold iN;split
 ·rename_i hsh;exact⟨aS4 (B8 l) (hp hsh) (by rw[sM,hl]) (by rw[hl];exact hf),by rw[aS3,sM]⟩
 ·have db:((fM p.b.fo).getD 0 0).toNat<h.t.st.length:=by
   obtain⟨i,hi,bj,_⟩:=hk.i.d_;have hm:(i:Int)∈fM p.b.fo:=tP.2 ⟨i,by rw[l.fo];exact hi,bj,rfl⟩;have h0:=List.length_pos_of_mem hm;obtain⟨j,hj,_,he⟩:=tP.1 (gO h0);rw[←he,Int.toNat_natCast,←l.fo];exact hj
  refine⟨?_,sA⟩;rw[A9 (sU db),Bf db];simp
def ji(h:Hd):LI:=hY (aY h).1.b.st (iN h (aY h).1)
def SX(h:Hd)(ok:cU h)(ho:(aY h).1.ov=true):(ji h).sum=h.t.st.sum:=by
 obtain⟨hk,_⟩:=t_ h ok.1;obtain⟨h1,h2⟩:=B9 h ok ho;have l:=hk.i.l;have hl:=sx l;have ht:=hk.i.tot;rw[ji,KA (by rw[h2,l.st]),h1,tY,tY (dS _),tY h.t.st,l.st,hl,←FF];refine FE _ fun i hi=>?_;have:=ht i hi;rw[EC l hi];omega
def FJ(h:Hd)(ok:cU h):(ji h).length=h.t.st.length:=by
 rw[ji,tU,(t_ h ok.1).1.i.l.st]
def SY:∀ps:List (Int×LI),T.df (gv ps)
 |[]=>trivial
 |p::ps=>⟨trivial,dY _,SY ps⟩
def aS6(ps:List (Int×LI)):(BL ps).bJ:=SY ps
attribute [go_sem] SL
section
attribute [-go_sem] bC bF bK bE bH bL
def aS7(x:Int)(h: -1<=x):Pr 165 [.i x] (.b false):=by
 exact ao4 sA (aa (dF (x< -1)) trivial)
def aS8(l:LI)(hl:l.length<=1000)(h:∀x∈l, -1<=x):Pr 203 [ints l,.fn 165 []] (.i (-1)):=by
 refine ar4 sA (ab ?_);refine lN (fun i=>St.of [(0,.t (ints l)),(1,.t (.fn 165 [])),(7,.t (.i l.length)),(8,.t (.i i))] []) (fun i=>i<=l.length) (fun i=>l.length-i) 0 tF (fun i hi R hn hr he=>?_);rcases qH i l.length with h9|h9
 ·have hx:=dD h9;refine aB (ah hx (dt ((i:Int)<(l.length:Int)))) ?_;refine Px (aS7 _ (h _ (gO h9))) (ab ?_);exact hn _ (i+1) (eU (aw h9 om))
 ·refine aa (dF ((i:Int)<(l.length:Int))) ?_;exact he _ _ (ab trivial)
def SZ(l:LI)(hl:l.length<=1000)(h:∀x∈l, -1<=x):Pr 107 [ints l] (.b true):=by
 have q:Pr 164 [ints l,.fn 165 []] (.b false):=by
  refine ao3 sA (ab ?_);exact Px (aS8 l hl h) (aa (show decide ((-1:Int)≥ 0)=false from rfl) trivial)
 refine aj5 sA (ab ?_);exact Px q (ab trivial)
def aS9(l:LI)(hl:l.length<=1000)(h:∀i,i<l.length->0<=l.getD i 0/\l.getD i 0<=100000):Pr 122 [ints l,.i l.length] (.b true):=by
 refine ak7 sA (ab ?_);refine lN (fun i=>St.of [(0,.t (ints l)),(1,.t (.i l.length)),(5,.t (.i i))] []) (fun i=>i<=l.length) (fun i=>l.length-i) 0 tF (fun i hi R hn hr he=>?_);rcases qH i l.length with h9|h9
 ·have hx:=dD h9;have hb:=h i h9;have q:=eN (l.getD i 0) 0 600000;rw[dt (0<=l.getD i 0/\l.getD i 0<=600000)]at q;refine aB (ah hx (dt ((i:Int)<(l.length:Int)))) ?_;refine Px q (bP ?_);exact hn _ (i+1) (eU (aw h9 om))
 ·refine aa (dF ((i:Int)<(l.length:Int))) ?_;exact he _ _ (aa (jA (rfl:(l.length:Int)=l.length)) trivial)
def aT0(pd:LI)(fo:List Bool)(hp:jC pd)(hf:fo.length=pd.length)(i0:Nat)(kf:i0<pd.length)(mf:fo.getD i0 true=false)(xq:0<pd.getD i0 0):Pr 106 [ints pd,aC fo] (.b true):=by
 obtain⟨⟨n2,n6⟩,hb⟩:=id hp;have q1:=fq pd.length 2 6;rw[dt ((2:Int)<=pd.length/\(pd.length:Int)<=6)]at q1;have q2:=so pd 0 600000 om;have q2b:(pd.all fun x=>decide (0<=x/\x<=600000))=true:=by
  rw[rO];intro x hx;obtain⟨i,hi,rfl⟩:=uU hx;have:=hb i hi;exact decide_eq_true om
 rw[q2b]at q2;refine aj4 sA (aa @aC.eq_1 ?_);refine Px q1 (cE (ah hf @bne_self_eq_false.{0}) ?_);refine Px q2 (bP ?_);refine lN (fun i=>St.of [(1,.t (aC fo)),(23,.t (ints pd)),(24,.t (.i pd.length)),(25,.t (.i i))] []) (fun i=>i<=i0) (fun i=>pd.length-i) 0 (eU @aC.eq_1) (fun i hi R hn hr he=>?_);have h9:i<pd.length:=om;have hx:=dD h9;have bj:=sv (l:=fo) (i:=i) om;cases hc:fo.getD i true with
 |true=>
  have hne:i≠i0:=fun e=>by subst e;rw[hc]at mf;cases mf
  rw[hc]at bj;refine bQ (bf hx bj @aC.eq_1 (dt ((i:Int)<(pd.length:Int)))) ?_;exact hn _ (i+1) (eU (ah @aC.eq_1 (aw h9 om)))
 |false=>
  rw[hc]at bj;by_cases hpi:pd.getD i 0>0
  ·refine bQ (bM hx bj @aC.eq_1 (dt ((i:Int)<(pd.length:Int))) (eq_true hpi)) ?_;exact hr _ (ab trivial)
  ·have hne:i≠i0:=fun e=>by subst e;omega
   refine bQ (bM hx bj @aC.eq_1 (dt ((i:Int)<(pd.length:Int))) (eq_false hpi)) ?_;exact hn _ (i+1) (eU (ah @aC.eq_1 (aw h9 om)))
def aT1(pd:LI)(fo:List Bool)(hp:jC pd)(hf:fo.length=pd.length)(i0:Nat)(kf:i0<pd.length)(mf:fo.getD i0 true=false)(xq:0<pd.getD i0 0):Pr 57 [ints pd,aC fo] (.b true):=by
 obtain⟨⟨n2,n6⟩,hb⟩:=id hp;have q1:=eN pd.length 2 6;rw[dt ((2:Int)<=pd.length/\(pd.length:Int)<=6)]at q1;have q2:=aS9 pd om hb;refine af4 sA (aa @aC.eq_1 ?_);refine Px q1 (cE hf ?_);refine Px q2 (bP ?_);refine lN (fun i=>St.of [(0,.t (ints pd)),(1,.t (aC fo)),(5,.t (.i i))] []) (fun i=>i<=i0) (fun i=>pd.length-i) 0 (eU @aC.eq_1) (fun i hi R hn hr he=>?_);have h9:i<pd.length:=om;have hx:=dD h9;have bj:=sv (l:=fo) (i:=i) om;cases hc:fo.getD i true with
 |true=>
  have hne:i≠i0:=fun e=>by subst e;rw[hc]at mf;cases mf
  rw[hc]at bj;refine bQ (ay bj @aC.eq_1 (dt ((i:Int)<(pd.length:Int)))) ?_;exact hn _ (i+1) (eU (ah @aC.eq_1 (aw h9 om)))
 |false=>
  rw[hc]at bj;by_cases hpi:pd.getD i 0>0
  ·refine bQ (bM hx bj @aC.eq_1 (dt ((i:Int)<(pd.length:Int))) (eq_true hpi)) ?_;exact hr _ (ab trivial)
  ·have hne:i≠i0:=fun e=>by subst e;omega
   refine bQ (bM hx bj @aC.eq_1 (dt ((i:Int)<(pd.length:Int))) (eq_false hpi)) ?_;exact hn _ (i+1) (eU (ah @aC.eq_1 (aw h9 om)))
def S4{r:LI}(h:jC r)(m:Nat):∀i,i<=r.length->ik r m i<=fK r
 |0,_=>by
  have h0:=mW (l:=r) (i:=0) (by have:=h.1;omega);have:=h.2 0 (by have:=h.1;omega);simp only[ik];omega
 |i+1,hi=>by
  have h1:=S4 h m i om;have h2:=mW (l:=r) (i:=i) om;unfold ik;split<;>omega
def S6(hp:jC pd):0<=(c6 pd).2:=by
 unfold c6;split
 ·exact Int.le_refl _
 ·have hs:=S4 hp (cd pd pd.length) pd.length (qR _);simp only[];omega
def S7(hp:jC pd)(h:jZ (c7 pd) fo):∃k,k<pd.length/\fo.getD k true=false/\0<pd.getD k 0:=by
 obtain⟨k,h1,h2⟩:=h.l;have h3:=h.g k h1 h2;rw[FH]at h1;have:=S6 hp;rw[c7,kQ]at h3;refine⟨k,h1,h2,?_⟩;split at h3
 ·rename_i e;rw[e.1]at h3;omega
 ·exact h3
def KF(hs ls:LI)(f:Nat)(hp:jC pd)(h:jZ (c7 pd) fo)(hl:hs.length=pd.length):
  (c6 pd).1<(fO (fy pd fo) hs ls f (fy pd fo).length).length/\0<=(fO (fy pd fo) hs ls f (fy pd fo).length).getD (c6 pd).1 0/\(fO (fy pd fo) hs ls f (fy pd fo).length).getD (c6 pd).1 0<=18000000/\0<=(c6 pd).2/\(c6 pd).2<=200000:=by
 have hu:=BI hp;have sD:=Fc hp;have hb:=hp.2 _ hu;have n6:=FI h;have lh:=tV (fy pd fo) hs ls f (fy pd fo).length;have hlt:(c6 pd).1<(fO (fy pd fo) hs ls f (fy pd fo).length).length:=om;have:=B4 (ls:=ls) (f:=f) (fun p ju=>by rw[hl];exact(B7 h p ju).1) (fy pd fo).length (qR _) _ (gO hlt);have h2:=S6 hp;exact⟨hlt,this.1,om,h2,om⟩
def aT2(pd:LI)(fo:List Bool)(hs ls:LI)(f:Nat)(hp:jC pd)(h:jZ (c7 pd) fo)(i0:Nat)(kf:i0<pd.length)(mf:fo.getD i0 true=false)(xq:0<pd.getD i0 0)(hl:hs.length=pd.length)(jN:ls.length=pd.length)(hv:∀x∈hs, -1<=x)(db:∀x∈ls, -1<=x)(hf:f<pd.length):
  FA 52 [] [.t (ints pd),.t (aC fo),.t (ints hs),.t (ints ls),.t (.i f)] fun o r=>o=[]/\r= .aI [ae (tZ pd fo hs ls f),.i 0]:=by
 obtain⟨⟨n2,n6⟩,hb⟩:=id hp;have hfl:fo.length=pd.length:=by rw[h.f,FH]
 have q0:=aT0 pd fo hp hfl i0 kf mf xq;have q1:=fq f 0 (pd.length-1);rw[dt ((0:Int)<=f/\(f:Int)<=pd.length-1)]at q1;have q2:=SZ hs om hv;have q3:=SZ ls om db;have q4:=aH4 pd fo hp h;rw[show kZ (c7 pd) fo (eC (c7 pd) fo)=fy pd fo from rfl]at q4;have q5:=aQ9 (fy pd fo) hs ls f (fun p ju=>by rw[hl];exact(B7 h p ju).1) (FI h) om om om;have q6:=Q4 pd hp;obtain⟨h1,h2,h3,h4,h5⟩:=KF hs ls f hp h hl;have hx:=dD h1;have hw:IntKind.i64.wrap ((pd.length:Int)-1)=(pd.length:Int)-1:=wrap64 om om;have dr:IntKind.i64.wrap ((fO (fy pd fo) hs ls f (fy pd fo).length).getD (c6 pd).1 0+(c6 pd).2)=(fO (fy pd fo) hs ls f (fy pd fo).length).getD (c6 pd).1 0+(c6 pd).2:=wrap64 om om;refine ae9 sA (ab ?_);refine Px q0 (cE hw ?_);refine Px q1 (cE (ay hl jN @bne_self_eq_false.{0}) ?_);refine Px q2 (bP ?_);refine Px q3 (bP ?_);refine Rx q4 (bu @BL.eq_1 ?_);refine Rx q5 (bu @ae.eq_1 ?_) (au:=[51]) (be:=.inr (dY _));refine Px q6 (aB (ah hx dr) ?_);simp only[tZ,List.map_set]
def aT3(pd:LI)(fo:List Bool)(hs ls:LI)(f:Nat)(hp:jC pd)(h:jZ (c7 pd) fo)(hl:hs.length=pd.length)(jN:ls.length=pd.length)(hf:f<pd.length):
  FA 61 [] [.t (ints pd),.t (aC fo),.t (ints hs),.t (ints ls),.t (.i f)] fun o r=>o=[]/\r=ae (tZ pd fo hs ls f):=by
 obtain⟨⟨n2,n6⟩,hb⟩:=id hp;have q3:=aF1 pd hp;have q4:=aG7 (c7 pd) fo h;rw[show kZ (c7 pd) fo (eC (c7 pd) fo)=fy pd fo from rfl]at q4;have q5:=aQ7 (fy pd fo) hs ls f (fun p ju=>by rw[hl];exact(B7 h p ju).1) (FI h) om om om;have q6:=Q5 pd hp;obtain⟨h1,h2,h3,h4,h5⟩:=KF hs ls f hp h hl;have hx:=dD h1;have dr:IntKind.i64.wrap ((fO (fy pd fo) hs ls f (fy pd fo).length).getD (c6 pd).1 0+(c6 pd).2)=(fO (fy pd fo) hs ls f (fy pd fo).length).getD (c6 pd).1 0+(c6 pd).2:=wrap64 om om;refine af8 sA (ab ?_);refine Rx q3 (bu @ae.eq_1 ?_);refine Rx q4 (bu @BL.eq_1 ?_) (au:=[15]) (be:=.inr (aS6 _));refine Rx q5 (bu @ae.eq_1 ?_) (au:=[17]) (be:=.inr (dY _));refine Px q6 (aB (ah hx dr) ?_);simp only[tZ,List.map_set]
end
def aT4:∀{v:Nat},v<=2->∀{h bd:LI},ce (h++bd)->h.length=vB v->bd.length=5->Pr 50 [oN v,ints h,ints bd] (.i (vD v bd h))
 |0,_,h,bd,hc,hl,h5=>by rw[aS0 hc hl h5];exact aM4 h bd hc hl h5
 |1,_,h,bd,hc,hl,h5=>RZ 0 h bd hc hl h5
 |2,_,h,bd,hc,hl,h5=>RZ 1 h bd hc hl h5
 |n+3,h,_,_,_,_,_=>om
def aT5{v:Int}(hv:0<=v/\v<=2):∃a b lw:Int,oN v.toNat= .agg [.i a,.i b,.i 2,.i 5,.b true,.i lw]/\(lw=0/\v.toNat≠2∨lw≠0/\v.toNat=2):=by
 rcases(show v=0∨v=1∨v=2 by omega)with rfl|rfl|rfl
 ·exact⟨_,_,_,rfl,.inl ⟨rfl,dc⟩⟩
 ·exact⟨_,_,_,rfl,.inl ⟨rfl,dc⟩⟩
 ·exact⟨_,_,_,rfl,.inr ⟨dc,rfl⟩⟩
def KG{h:Hd}(ok:cU h)(hr:r∈h.ho):ce (r++h.bd)/\r.length=vB h.v.toNat:=by
 obtain⟨_,hv,_,_,_,hl,hc⟩:=ok;refine⟨?_,?_⟩
 ·have hc:=of_decide_eq_true hc;have hs:(h.bd++r).Sublist (h.bd++h.ho.flatten):=(List.Sublist.refl _).append (List.sublist_flatten_of_mem hr);refine⟨(List.perm_append_comm.nodup_iff).1 (hc.1.sublist hs),fun x hx=>hc.2 x (hs.subset ?_)⟩;rw[qI]at hx ⊢;exact hx.symm
 ·rw[hl r hr];rcases(show h.v=0∨h.v=1∨h.v=2 by omega)with e|e|e<;>rw[e]<;>rfl
def aT6(v:Nat)(bd:LI)(ho:LL)(fo:List Bool):∀x∈nc v bd ho fo, -1<=x:=by
 intro x hx;obtain⟨i,_,rfl⟩:=qN.1 hx;split
 ·exact Int.le_refl _
 ·exact(QG (l:=(eB (lG v) 2 (ho.getD i []) bd).map fun h=>(gP h:Int)) (m:= -1)).1
def aT7(v:Nat)(bd:LI)(ho:LL)(fo:List Bool):∀x∈sL v bd ho fo, -1<=x:=by
 intro x hx;obtain⟨i,_,rfl⟩:=qN.1 hx;simp only[vE,zl]
 repeat split
 all_goals omega
section
attribute [-go_sem] bC bF bK bE bH bL
def aT8(h:Hd)(ok:cU h)(p:gi)(hk:oO h.t p)(hp:p.sh=true->jZ (c7 (dS p.b)) p.b.fo)(c:T):
  FA 21 [] [.t (.ax (ft p c) 0),.t (cz h)] fun o r=>o=[]/\r=ae (iN h p):=by
 obtain⟨⟨n2,n6⟩,_,lx,_⟩:=ok.1;have qt:h.ho.length=h.t.st.length:=ok.2.2.1;have l:=hk.i.l;have aM:=sx l;have hps:=B8 l;have q1:=ax5 p.b l;simp only[aR,aC]at q1;refine ac7 sA (aa (ah @cz.eq_1 @ft.eq_1) ?_);refine Rx q1 (bu @ae.eq_1 ?_);obtain⟨i0,kf,KH,_⟩:=hk.i.d_;have bV:nx (dS p.b):=⟨by rw[aM];omega,fun x hx=>by
  obtain⟨i,hi,rfl⟩:=uU hx;have:=hps.2 i hi;omega⟩
 refine⟨fun hs=>?_,fun hs=>?_⟩
 ·have hsh:p.sh=false:=by cases hb:p.sh<;>rw[hb]at hs<;>first|rfl|cases hs
  have i6:(i0:Int)∈fM p.b.fo:=tP.2 ⟨i0,by rw[l.fo];exact kf,KH,rfl⟩;have hl0:=List.length_pos_of_mem i6;obtain⟨j,hj,_,he⟩:=tP.1 (gO hl0);rw[l.fo]at hj;have hx0:=dD hl0;rw[←he]at hx0;have q2:=Bl p.b.fo (by rw[l.fo];omega);simp only[aC,ae]at q2;refine⟨om,om,?_⟩;refine Hx q2 (bu (ah hx0 @fe) ?_);refine⟨om,om,?_⟩;refine V (tH (dS p.b) bV) (tD ?_) (au:=[22]);refine⟨by rw[List.length_replicate];omega,by rw[List.length_replicate];omega,?_⟩;rw[iN,if_neg (by rw[hsh];simp),←he,List.map_set,List.map_replicate,qt];rfl
 ·have hsh:p.sh=true:=by cases hb:p.sh<;>rw[hb]at hs<;>first|rfl|cases hs
  have gw:=hp hsh;obtain⟨a,b,lw,FK,uP⟩:=aT5 ok.2.1;have q2:=QR ok.2.1;rw[FK]at q2;have hhi:∀r∈h.ho,Pr 50 [.agg [.i a,.i b,.i 2,.i 5,.b true,.i lw],ints r,ints h.bd] (.i (vD h.v.toNat h.bd r)):=fun r hr=>by
   have:=KG ok hr;rw[←FK];exact aT4 (by have:=ok.2.1;omega) this.1 this.2 ok.2.2.2.1
  have hlo:lw≠0->∀r∈h.ho,Pr 51 [.agg [.i a,.i b,.i 2,.i 5,.b true,.i lw],ints r,ints h.bd] (.i (vE h.v.toNat h.bd r)):=fun hne r hr=>by
   have h1:=KG ok hr;obtain⟨e,e2⟩:=uP.resolve_left fun e=>hne e.1
   rw[e2]at FK h1;rw[←FK,e2];exact aP9 r h.bd h1.1 h1.2 ok.2.2.2.1
  have KI:lw=0->∀r,vE h.v.toNat h.bd r= -1:=fun e r=>by
   obtain⟨_,e2⟩:=uP.resolve_right fun e'=>e'.1 e
   exact if_neg e2
  refine Px q2 (tD ?_);generalize hH:nc h.v.toNat h.bd h.ho p.b.fo=H;generalize hL:sL h.v.toNat h.bd h.ho p.b.fo=L;have xP:H.length=h.ho.length:=by rw[←hH];exact fx
  have nF:L.length=h.ho.length:=by rw[←hL];exact fx
  refine dX.ig (σ:=Nat) (fun i=>St.of [(0,.t (.ax (ft p c) 0)),(3,.own 83),(6,.own 86),(8,.own 88),(9,.own 89),(10,.own 90),(5,.t (.i h.ho.length)),(51,.t (rows h.ho)),(52,.t (.i h.ho.length)),(53,.t (.i i))] [(83,.box [ints h.t.st,.i h.t.bn,.i h.t.sm,.i h.t.bg,.i h.t.an,.i h.t.lm,.i h.v,rows h.ho,ints h.bd,cG h.ac]),(86,.arr 1 ((dS p.b).map T.i)),(88,.box [.i a,.i b,.i 2,.i 5,.b true,.i lw]),(89,.arr 1 ((H.take i++List.replicate (h.ho.length-i) 0).map T.i)),(90,.arr 1 ((L.take i++List.replicate (h.ho.length-i) 0).map T.i))]) (fun i=>i<=h.ho.length) (fun i=>h.ho.length-i) 0 (aq [3,22,8,47,49] (ah @cG.eq_1 @ft.eq_1) (hr:=?_)) om fun i hi R hn' hr he=>?_
  ·refine rB (rB (rB (rI ?_ (rI ?_ trivial))))
   all_goals
    simp only[List.take_zero,List.nil_append,Nat.sub_zero,fe,List.map_replicate];exact .refl _
  ·have hfl:∀A:LI,A.length=h.ho.length->(A.take i++List.replicate (h.ho.length-i) 0).length=h.ho.length:=fun A hA=>by simp[hA];omega
   rcases qH i h.ho.length with h9|h9
   ·obtain⟨r,hx⟩:∃r,h.ho[i]? =some r:=⟨_,qB h9⟩;have hm:=qE hx;have hg:h.ho.getD i []=r:=by rw[qA,hx];rfl
    have bj:=sv (l:=p.b.fo) (i:=i) (by rw[l.fo];omega);have bz8:i<p.b.fo.length:=by rw[l.fo];omega
    have nN:H[i]? =some (if p.b.fo.getD i true=true then -1 else vD h.v.toNat h.bd r):=(by rw[←hH,nc,gj h9,hg]);have nf:L[i]? =some (if p.b.fo.getD i true=true then -1 else vE h.v.toNat h.bd r):=(by rw[←hL,sL,gj h9,hg]);cases hc:p.b.fo.getD i true with
    |true=>
     rw[hc]at bj;rw[hc,if_pos rfl]at nN nf;refine aa (c5 hx bj @ft.eq_1 (hfl _ xP) (hfl _ nF) (dt ((i:Int)<(h.ho.length:Int)))) ?_
     repeat (first|refine⟨om,?_⟩|refine⟨by rw[cN];omega,?_⟩)
     refine hn' _ (i+1) (aq [83,86,88,89,90] (ay @ft.eq_1 @cG.eq_1 (aw h9 om)) (hr:=?_)) om om
     ·rw[←xN nN h9,←xN nf h9,List.map_set,List.map_set];exact rB (rB (rB (rB (rB trivial))))
    |false=>
     rw[hc]at bj;rw[hc,if_neg sA]at nN nf;have hc0:=hhi r hm;refine aa (c5 hx bj @ft.eq_1 (hfl _ xP) (hfl _ nF) (dt ((i:Int)<(h.ho.length:Int)))) ?_
     repeat (first|refine⟨om,?_⟩|refine⟨by rw[cN];omega,?_⟩)
     by_cases FL:lw=0
     ·rw[KI FL r]at nf;refine Px hc0 (aa (bf (hfl _ xP) @List.length_set.{0} @List.set_set.{0} (show(lw !=0)=false from by rw[FL];rfl)) ?_)
      repeat (first|refine⟨om,?_⟩|refine⟨by rw[cN];omega,?_⟩)
      refine hn' _ (i+1) (aq [83,86,88,89,90] (ay @ft.eq_1 @cG.eq_1 (aw h9 om)) (hr:=?_)) om om
      ·rw[←xN nN h9,←xN nf h9,List.map_set,List.map_set];exact rB (rB (rB (rB (rB trivial))))
     ·refine Px hc0 (aa (bf (hfl _ xP) @List.length_set.{0} @List.set_set.{0} (show(lw !=0)=true from by rw[bne_iff_ne];exact FL)) ?_)
      repeat (first|refine⟨om,?_⟩|refine⟨by rw[cN];omega,?_⟩)
      refine Px (hlo FL r hm) (aa (ay (hfl _ nF) @List.length_set.{0} @List.set_set.{0}) ?_)
      repeat (first|refine⟨om,?_⟩|refine⟨by rw[cN];omega,?_⟩)
      refine hn' _ (i+1) (aq [83,86,88,89,90] (ay @ft.eq_1 @cG.eq_1 (aw h9 om)) (hr:=?_)) om om
      ·rw[←xN nN h9,←xN nf h9,List.map_set,List.map_set];exact rB (rB (rB (rB (rB trivial))))
   ·have e:i=h.ho.length:=om;have ef:∀A:LI,A.length=h.ho.length->A.take i++List.replicate (h.ho.length-i) 0=A:=fun A hA=>by
     rw[e,Nat.sub_self,List.replicate_zero,List.append_nil,←hA,rT]
    rw[ef _ xP,ef _ nF];refine aa (ah @ft.eq_1 (dF ((i:Int)<(h.ho.length:Int)))) ?_;refine he _ _ ?_;have q3:=nA h.t.bn.toNat h.ho.length om om;rw[Int.toNat_of_nonneg lx.1]at q3;have kl:=S7 hps gw;obtain⟨k,hk1,hk2,B_⟩:=kl;have hge:∀x∈H, -1<=x:=by rw[←hH];exact aT6 _ _ _ _
    have kh:∀x∈L, -1<=x:=by rw[←hL];exact aT7 _ _ _ _
    have hf:(h.t.bn.toNat+1)%h.ho.length<h.ho.length:=Nat.mod_lt _ om;have q4:=aT2 (dS p.b) p.b.fo H L ((h.t.bn.toNat+1)%h.ho.length) hps gw k hk1 hk2 B_ om om hge kh om;simp only[aC]at q4;refine ab ?_;refine V q3 (ab ?_);refine lT.res q4 [86,89,90] rfl Tryz.call52 (fun e R' hR=>?_) (.inr ⟨dY _,trivial,trivial⟩) ?_
    ·have S8:=(hR 86).resolve_left (by simp -implicitDefEqProofs only[c8,go_sem,not_false_eq_true]);have S9:=(hR 89).resolve_left (by simp -implicitDefEqProofs only[c8,go_sem,not_false_eq_true]);have S_:=(hR 90).resolve_left (by simp -implicitDefEqProofs only[c8,go_sem,not_false_eq_true]);simp -implicitDefEqProofs only[c8,go_sem]at S8 S9 S_;exact pZ (ay S8 S9 S_) trivial
    refine aP ?_;rw[iN,if_pos hsh,hH,hL,qt];rfl
def aT9(h:Hd)(ok:cU h)(p:gi)(hk:oO h.t p)(hsh:p.sh=true)(u code:Int):
  FA 60 [] [.t (cz h),.t (.agg (fv p (.i u) code))] fun o r=>o=[]/\r= .aI [ae (nc h.v.toNat h.bd h.ho p.b.fo),ae (sL h.v.toNat h.bd h.ho p.b.fo)]:=by
 obtain⟨⟨n2,n6⟩,_,lx,_⟩:=ok.1;have qt:h.ho.length=h.t.st.length:=ok.2.2.1;have h5:=ok.2.2.2.1;have l:=hk.i.l;have KJ:h.v.toNat<=2:=by have:=ok.2.1;omega
 have hvn:((h.v.toNat:Nat):Int)=h.v:=by have:=ok.2.1;omega
 have Fz:=aR6 h.v.toNat KJ;have Ta:=fun r=>KG (r:=r) ok;refine af7 sA (aa (ah @cz.eq_1 @fv.eq_1) ?_);rw[show h.v=((h.v.toNat:Nat):Int) from hvn.symm];simp only[Int.toNat_natCast];generalize h.v.toNat=v at KJ Fz Ta ⊢;refine Hx JF (bu (ah @E7.eq_1 Fz) ?_);refine⟨om,om,om,?_⟩;generalize hH:nc v h.bd h.ho p.b.fo=H;generalize hL:sL v h.bd h.ho p.b.fo=L;have xP:H.length=h.ho.length:=by rw[←hH];exact fx
 have nF:L.length=h.ho.length:=by rw[←hL];exact fx
 have bz9:p.b.fo.length=h.ho.length:=by rw[l.fo,qt]
 refine dX.ig (σ:=Nat) (fun i=>St.of [(2,.own 92),(3,.own 93),(6,.own 96),(7,.own 97),(8,.own 98),(9,.t (.i i))] [(92,.box [ints h.t.st,.i h.t.bn,.i h.t.sm,.i h.t.bg,.i h.t.an,.i h.t.lm,.i v,rows h.ho,ints h.bd,cG h.ac]),(93,.box (fv p (.i u) code)),(96,.box [.i (vB v:Nat),.i (lG v:Nat),.i (2:Nat),.i 5,.b true,.i (vC v)]),(97,.arr 1 ((H.take i).map T.i)),(98,.arr 1 ((L.take i).map T.i))]) (fun i=>i<=h.ho.length) (fun i=>h.ho.length-i) 0 (aq [2,3,6,20,21] @cG.eq_1 (hr:=rB (rB (rI ?_ (rB (rB trivial)))))) om fun i hi R hn' hr he=>?_
 ·exact .refl _
 ·rcases qH i h.ho.length with h9|h9
  ·obtain⟨r,hx⟩:∃r,h.ho[i]? =some r:=⟨_,qB h9⟩;have hm:=qE hx;have hg:h.ho.getD i []=r:=by rw[qA,hx];rfl
   obtain⟨hcd,sM⟩:=Ta r hm;have bj:=sv (l:=p.b.fo) (i:=i) om;have nN:H[i]? =some (if p.b.fo.getD i true=true then -1 else vD v h.bd r):=(by rw[←hH,nc,gj h9,hg]);have nf:L[i]? =some (if p.b.fo.getD i true=true then -1 else vE v h.bd r):=(by rw[←hL,sL,gj h9,hg]);have pX:∀A:LI,(A.take i).length<=6:=fun A=>by rw[qL];omega
   have t1:=pX H;have t2:=pX L;cases hc:p.b.fo.getD i true with
   |true=>
    rw[hc]at bj;rw[hc,if_pos rfl]at nN nf;refine cE (ay bj @fv.eq_1 (dt ((i:Int)<(h.ho.length:Int)))) ?_
    repeat (first|refine⟨om,?_⟩|refine⟨by rw[cN];omega,?_⟩)
    refine hn' _ (i+1) (aq [92,93,96,70,74] (ay @cG.eq_1 @fv.eq_1 (aw h9 om)) (hr:=?_)) om om
    ·rw[bG nN,bG nf,qG,qG];exact rB (rB (rB (rB (rB trivial))))
   |false=>
    rw[hc]at bj;rw[hc,if_neg sA]at nN nf;have hlo:=aR8 v;have Ca:=aN7 (vB v) (lG v) 2 true (vC v) r h.bd (by have:=SV v;omega) om hlo om;simp only[Kh]at Ca;have iV:∀x∈eB (lG v) 2 r h.bd,ce x/\x.length=5:=fun x hx=>aR9 om hcd hx;have KK:(eB (lG v) 2 r h.bd).length<=100000:=by
     rw[←Si];have:=Ki (lo:=lG v) (hole:=r) (aF:=h.bd) (by have:=SV v;omega) om (2+1-lG v);omega
    have KL:vD v h.bd r=nK (eB (lG v) 2 r h.bd):=rfl;have db:vE v h.bd r=if v=2 then zl (eB (lG v) 2 r h.bd)else -1:=rfl;generalize vD v h.bd r=hv at nN KL;generalize vE v h.bd r=lv at nf db;generalize eB (lG v) 2 r h.bd=HH at Ca iV KK KL db;have KM:=aN8 HH iV KK;rw[←KL]at KM;refine cE (bM hx bj @fv.eq_1 hsh (dt ((i:Int)<(h.ho.length:Int)))) ?_
    repeat (first|refine⟨om,?_⟩|refine⟨by rw[cN];omega,?_⟩)
    refine Hx Ca (aP ?_);by_cases oh:v=2
    ·have Cb:Pr 125 [.agg [.i (vB v:Nat),.i (lG v:Nat),.i (2:Nat),.i 5,.b true,.i (vC v)],rows HH] (.aI [.i (vz HH HH.length),.i (fU HH HH.length)]):=by subst oh;exact aQ0 HH iV KK
     have js:Pr 126 [.agg [.i (vB v:Nat),.i (lG v:Nat),.i (2:Nat),.i 5,.b true,.i (vC v)],.i (fU HH HH.length)] (.b (decide (0<=fU HH HH.length/\fU HH HH.length<=228487))):=by subst oh;exact aQ1 _
     rw[if_pos oh,zl]at db;generalize fU HH HH.length=m at Cb js db;generalize vz HH HH.length=mx at Cb;refine Px KM (aa (show(vC v !=0)=true from by rw[oh];rfl) ?_) (au:=[48]);refine Px Cb (ab ?_) (au:=[48]);by_cases hP:0<=m/\m<=228487
     ·rw[if_pos hP]at db;subst db;refine Px js (aa (decide_eq_true hP) ?_)
      repeat (first|refine⟨om,?_⟩|refine⟨by rw[cN];omega,?_⟩)
      refine hn' _ (i+1) (aq [92,93,96,70,74] (ay @cG.eq_1 @fv.eq_1 (aw h9 om)) (hr:=?_)) om om
      ·rw[bG nN,bG nf,qG,qG];simp only[fv,hsh];exact rB (rB (rB (rB (rB trivial))))
     ·rw[if_neg hP]at db;subst db;refine Px js (aa (decide_eq_false hP) ?_)
      repeat (first|refine⟨om,?_⟩|refine⟨by rw[cN];omega,?_⟩)
      refine hn' _ (i+1) (aq [92,93,96,70,74] (ay @cG.eq_1 @fv.eq_1 (aw h9 om)) (hr:=?_)) om om
      ·rw[bG nN,bG nf,qG,qG];simp only[fv,hsh];exact rB (rB (rB (rB (rB trivial))))
    ·have KI:=aR7 KJ oh;rw[if_neg oh]at db;subst db;refine Px KM (aa (show(vC v !=0)=false from by rw[KI];rfl) ?_) (au:=[48])
     repeat (first|refine⟨om,?_⟩|refine⟨by rw[cN];omega,?_⟩)
     refine hn' _ (i+1) (aq [92,93,96,70,74] (ay @cG.eq_1 @fv.eq_1 (aw h9 om)) (hr:=?_)) om om
     ·rw[bG nN,bG nf,qG,qG];simp only[fv,hsh];exact rB (rB (rB (rB (rB trivial))))
  ·refine aa (ah @fv.eq_1 (dF ((i:Int)<(h.ho.length:Int)))) ?_;refine he _ _ ?_;rw[qQ om,qQ om];exact aa @ae.eq_1 trivial
end
def Tc:=cO Tryz.func22 (H:=⟨[(4,1,.r false [2]),(4,2,.r false [2]),(4,3,.h (some [2]) [])],[4]⟩)
section
attribute [-go_sem] bC bF bK bE bH bL
def aU0(h:Hd)(ok:cU h)(p:gi)(hk:oO h.t p)(hp:p.sh=true->jZ (c7 (dS p.b)) p.b.fo)(u code:Int):
  FA 23 [] [.t (cz h),.t (.agg (fv p (.i u) code))] fun o r=>o=[]/\r=ae (iN h p):=by
 obtain⟨⟨n2,n6⟩,_,lx,_⟩:=ok.1;have qt:h.ho.length=h.t.st.length:=ok.2.2.1;have l:=hk.i.l;have aM:=sx l;have hps:=B8 l;have q1:=Qb p.b l;simp only[aR,aC]at q1;obtain⟨i0,kf,KH,_⟩:=hk.i.d_;have bV:nx (dS p.b):=⟨by rw[aM];omega,fun x hx=>by
  obtain⟨i,hi,rfl⟩:=uU hx;have:=hps.2 i hi;omega⟩
 refine ac8 sA (aa (ah @cz.eq_1 @fv.eq_1) ?_);refine Rx q1 (bu @ae.eq_1 ?_);cases hsh:p.sh with
 |false=>
  have i6:(i0:Int)∈fM p.b.fo:=tP.2 ⟨i0,by rw[l.fo];exact kf,KH,rfl⟩;have hl0:=List.length_pos_of_mem i6;obtain⟨j,hj,_,he⟩:=tP.1 (gO hl0);rw[l.fo]at hj;have hx0:=dD hl0;rw[←he]at hx0;have q2:=Qa p.b l;simp only[aR,aC,ae]at q2;refine Pb ?_;refine Hx q2 (bu (ah hx0 @fe) ?_);refine⟨om,om,?_⟩;refine V (uT (dS p.b) bV) (tD ?_) (au:=[11]);refine⟨by rw[List.length_replicate];omega,by rw[List.length_replicate];omega,?_⟩;rw[iN,if_neg (by rw[hsh];simp),←he,List.map_set,List.map_replicate,aM];rfl
 |true=>
  have gw:=hp hsh;obtain⟨k,hk1,hk2,B_⟩:=S7 hps gw;have q2:=aT1 (dS p.b) p.b.fo hps (by rw[l.fo,aM]) k hk1 hk2 B_;simp only[aC]at q2;have q3:=aT9 h ok p hk hsh u code;simp only[cz,fv,hsh]at q3;refine bP ?_;refine Px q2 (bP ?_) (au:=[11]);refine Rx q3 (bu @ae.eq_1 ?_);have q4:=yQ h.t.bn.toNat h.t.st.length om om;rw[Int.toNat_of_nonneg lx.1]at q4;have hf:(h.t.bn.toNat+1)%h.t.st.length<h.t.st.length:=Nat.mod_lt _ om;have xP:(nc h.v.toNat h.bd h.ho p.b.fo).length=h.ho.length:=fx;have nF:(sL h.v.toNat h.bd h.ho p.b.fo).length=h.ho.length:=fx;have q5:=aT3 (dS p.b) p.b.fo (nc h.v.toNat h.bd h.ho p.b.fo) (sL h.v.toNat h.bd h.ho p.b.fo) ((h.t.bn.toNat+1)%h.t.st.length) hps gw om om om;simp only[aC]at q5;simp -implicitDefEqProofs only[aM];refine V q4 (ab ?_);refine lT.res q5 [11,39,40001] rfl Tryz.call61 (fun e R' hR=>?_) (.inr (dY _)) ?_
  ·have Td:=(hR 11).resolve_left (by simp -implicitDefEqProofs only[c8,go_sem,not_false_eq_true]);have Te:=(hR 39).resolve_left (by simp -implicitDefEqProofs only[c8,go_sem,not_false_eq_true]);have Tf:=(hR 40001).resolve_left (by simp -implicitDefEqProofs only[c8,go_sem,not_false_eq_true]);simp -implicitDefEqProofs only[c8,go_sem]at Td Te Tf;exact pZ (ay Td Te Tf) trivial
  refine aP ?_;rw[iN,if_pos hsh];rfl
def xQ{h:Hd}(ok:cU h):mh h:=by
 obtain⟨⟨⟨a,b⟩,_⟩,hv,c,d,e,f,_⟩:=ok;refine⟨om,om,om,om,fun r hr=>?_⟩;rw[f r hr,gu];split<;>omega
def qu:T:=.agg [.zz,.zz,.v (.int .i64 0),.v (.bool false)]
def nO(h:Hd):T:=
 if cU h then
  (if(aY h).2=0 then(if(aY h).1.ov=true then .aI [.agg [ae (ji h),ae (iN h (aY h).1),.i (aY h).1.s,.b (aY h).1.sh],.i 0]else .aI [qu,.i 3])else .aI [qu,.i (aY h).2])
 else .aI [qu,.i 1]
def Tg(h:Hd)(ok:cU h):FA 22 [] [.t (cz h)] fun o r=>∃u:Int,o=[]/\r= .aI [.agg (fv (aY h).1 (.i u) (aY h).2),.i (aY h).2]/\True:=by
 have q1:=QV h (xQ ok);rw[decide_eq_true ok]at q1;have q2:FA 55 [] [.t (cz h)] fun o r=>∃u:Int,o=[]/\r= .agg (qi (aY h).1 (.i u) (aY h).2)/\True:=cF.le (JK h ok) fun o r ⟨a,x,b⟩=>⟨r,.refl _,x,a,b,trivial⟩;simp only[cz,qi]at q1 q2;refine Tc sA (aa @cz.eq_1 ?_);refine Px q1 (bP ?_);refine Xx q2 [] (fun u hu=>dA ?_);refine⟨_,wT (wI 4) (cH [2,4] (e:=[(2,.own 2),(4,.own 4)]) (r:=[(2,.box vn),(4,.box (fv (aY h).1 (.i u) (aY h).2))]) (hr:=rB (rI ?_ trivial))),?_⟩
 ·simp only[List.map_cons,List.map_nil,T.bB,kU,Bn,fv];exact .refl _
 refine aa (ah @fv.eq_1 @vn.eq_1) ?_;exact⟨⟨u,rfl⟩,qS⟩
def aU1(h:Hd)(hs:mh h)(ok:¬cU h):FR 22 [.t (cz h)] (.aI [.agg vn,.i 1]):=by
 have q1:=QV h hs;rw[decide_eq_false ok]at q1;simp only[cz]at q1;refine Tc sA (aa @cz.eq_1 ?_);exact Px q1 (cE @vn.eq_1 trivial)
def KN(h:Hd)(ok:cU h)(ho:(aY h).1.ov=true):∀x∈iN h (aY h).1,0<=x/\x<=1000000000:=by
 obtain⟨hk,hp⟩:=t_ h ok.1;have qt:h.ho.length=h.t.st.length:=ok.2.2.1;generalize (aY h).1=p at hk hp ho ⊢;have l:=hk.i.l;have hl:=sx l;have hps:=B8 l;have n6:=l.n6;intro x hx;unfold iN at hx;split at hx
 ·rename_i hsh;have gw:=hp hsh;have sM:(nc h.v.toNat h.bd h.ho p.b.fo).length=(dS p.b).length:=by rw[nc,fx,qt,hl]
  obtain⟨h1,h2,h3,h4,h5⟩:=KF (nc h.v.toNat h.bd h.ho p.b.fo) (sL h.v.toNat h.bd h.ho p.b.fo) ((h.t.bn.toNat+1)%h.t.st.length) hps gw sM;have h6:=FI gw;rcases List.mem_or_eq_of_mem_set hx with h7|h7
  ·have:=B4 (fun p ju=>by rw[sM];exact(B7 gw p ju).1) _ (qR _) x h7;omega
  ·omega
 ·have e1:=xO (f:=fun _=>0) (g:=fun j=>(dS p.b).getD j 0) (dS p.b).length (fun i hi=>(hps.2 i hi).1);have e2:=xO (f:=fun j=>(dS p.b).getD j 0) (g:=fun _=>100000) (dS p.b).length (fun i hi=>(hps.2 i hi).2);rw[KC,←tY]at e1 e2;rcases List.mem_or_eq_of_mem_set hx with h7|h7
  ·have:=List.eq_of_mem_replicate h7;omega
  ·omega
def aU2(h:Hd)(hs:mh h):FR 7 [.t (cz h)] (nO h):=by
 by_cases ok:cU h
 ·obtain⟨hk,hp⟩:=t_ h ok.1;have l:=hk.i.l;have q1:=Tg h ok;have n2:=ok.1.1;rw[nO,if_pos ok];refine Pd sA (aa @cz.eq_1 ?_);simp only[cz,fv]at q1;by_cases h0:(aY h).2=0
  ·rw[if_pos h0];rw[h0]at q1;cases gH:(aY h).1.ov with
   |false=>
    rw[if_neg sA];exact Xx q1 [] (fun u hu=>dl (ah gH @qu.eq_1) trivial)
   |true=>
    rw[if_pos rfl];refine Xx q1 [] (fun u hu=>dl gH ?_);have q2:=aU0 h ok (aY h).1 hk hp u 0;simp only[cz,fv,gH]at q2;have lh:=(B9 h ok gH).2;have hab:=KN h ok gH;have q3:=Kx (aY h).1.b.st (iN h (aY h).1) (by rw[lh,l.st]) (by rw[l.st];omega) (fun x hx=>by
     obtain⟨i,hi,rfl⟩:=uU hx;have:=l.xs i (by rw[←l.st];exact hi);omega) hab
    refine Rx q2 (bu @ae.eq_1 ?_);refine lT.res q3 [25] rfl Tryz.call24 (fun e R' hR=>?_) (.inr (dY _)) ?_
    ·have Th:=(hR 25).resolve_left (by simp -implicitDefEqProofs only[c8,go_sem,not_false_eq_true]);simp -implicitDefEqProofs only[c8,go_sem]at Th;exact pZ Th trivial
    refine bu @ae.eq_1 ?_;rfl
  ·rw[if_neg h0];have e1:=eA h0;have e2:=bne_iff_ne.2 h0;exact Xx q1 [] (fun u hu=>dl (ay e1 e2 @qu.eq_1) trivial)
 ·have q1:=aU1 h hs ok;simp only[cz]at q1;rw[nO,if_neg ok];refine Pd sA (aa @cz.eq_1 ?_);exact Rx q1 (dl (ah @vn.eq_1 @qu.eq_1) trivial)
def aU3(h:Hd)(hs:mh h)(ok:¬cU h):FR 19 [.t (cz h)] (.aI [.agg qe,.i 1]):=by
 have q1:=QU h hs;rw[decide_eq_false ok]at q1;simp only[cz]at q1;refine Pf sA (aa @cz.eq_1 ?_);exact Px q1 (cE @qe.eq_1 trivial)
def KO:T:=.box [.zz,.zz,.v (.int .i64 0),.v (.bool false)]
def Ti(h:Hd)(hs:mh h):FR 6 [.t (cz h)] (nO h):=by
 by_cases ok:cU h
 ·obtain⟨hk,hp⟩:=t_ h ok.1;have l:=hk.i.l;have n2:=ok.1.1;rw[nO,if_pos ok];refine Pc sA (aa @cz.eq_1 ?_);by_cases h0:(aY h).2=0
  ·have q1:FA 19 [] [.t (cz h)] fun o r=>∃str:LI,o=[]/\r= .aI [.agg (ft (aY h).1 (.arr 1 (str.map T.i))),.i 0]/\True:=cF.le (QZ h hs ok) fun o r ⟨a,x,b⟩=>⟨r,.refl _,x,a,by rw[b,if_pos h0],trivial⟩;simp only[cz,ft]at q1;rw[if_pos h0];cases gH:(aY h).1.ov with
   |false=>
    rw[if_neg sA];exact Xx q1 [] (fun str KP=>dl (ah gH @qu.eq_1) trivial)
   |true=>
    rw[if_pos rfl];have qc:=uQ (aY h).1.b.st (by rw[l.st];omega);have lh:=(B9 h ok gH).2;have hab:=KN h ok gH;refine Xx q1 [] (fun str KP=>dl gH ?_);have q2:=aT8 h ok (aY h).1 hk hp (.sh 1 (str.map T.i));simp only[cz,ft,gH]at q2;refine Hx qc (bu @ae.eq_1 ?_);refine lT.res q2 [4] rfl Tryz.call21 (fun e R' hR=>?_) (.inr (dY _)) ?_
    ·have Tj:=(hR 4).resolve_left (by simp -implicitDefEqProofs only[c8,go_sem,not_false_eq_true]);simp -implicitDefEqProofs only[c8,go_sem]at Tj;exact pZ Tj trivial
    refine bu @ae.eq_1 ?_;have hls:=l.st;have hxs:=l.xs;have hst:ji h=hY (aY h).1.b.st (iN h (aY h).1):=rfl;rw[hst];clear hst qc q2 q1;generalize iN h (aY h).1=B at lh hab ⊢;generalize (aY h).1.b.st=A at hls hxs ⊢;have aU4:∀i,(kx A B i).length=h.t.st.length:=fun i=>by rw[kx,fx,hls]
    refine lN (fun i=>St.jU [(2,.own 92),(6,.own 96),(37,.own 95),(38,.t (.i h.t.st.length)),(39,.t (.i i))] [(92,KO),(96,.box [.any,.any,.i (aY h).1.s,.b (aY h).1.sh]),(94,.arr 1 ((kx A B i).map T.i)),(95,.arr 1 (B.map T.i))] [(96,[(0,94),(1,95)])]) (fun i=>i<=h.t.st.length) (fun i=>h.t.st.length-i) 0 (wT (wO 6 0 504) (aj.jU _ _ _ [some 2,some 6,some 504,some 37] sA sA ?_ ⟨⟨_,_,rfl,.refl _⟩,rfl,⟨_,_,rfl,.refl _⟩,rfl,⟨_,_,rfl,by rw[SH];exact .refl _⟩,rfl,⟨_,_,rfl,.refl _⟩,rfl,trivial⟩ ⟨⟨6,_,_,rfl,rfl,?_⟩,trivial⟩)) (fun i hi R hn hr he=>?_)
    ·exact bZ lh trivial
    ·intro p hp;simp only[qO,List.mem_nil_iff,or_false]at hp;rcases hp with rfl|rfl
     ·exact⟨504,rfl,sA⟩
     ·exact⟨37,rfl,sA⟩
    ·rcases qH i h.t.st.length with h9|h9
     ·have hB:=dD (l:=B) (i:=i) om;have hA:(kx A B i)[i]? =some (A.getD i 0):=(by rw[kx,gj om,if_neg om]);have JR:=hxs i h9;have hBi:=hab _ (gO (l:=B) (i:=i) om);have hw:IntKind.i64.wrap (A.getD i 0+B.getD i 0)=A.getD i 0+B.getD i 0:=wrap64 om om;have eE:=SJ A B i;refine cE (xm @St.jU.eq_1 @w9 @w_ @Option.getD_some.{0} @Option.getD_none.{0} hA hB lh aU4 hw (dt ((i:Int)<(h.t.st.length:Int))) @KO.eq_1) ?_
      repeat (first|refine⟨om,?_⟩|refine⟨by rw[cN];omega,?_⟩)
      refine hn _ (i+1) (aj.jU _ _ _ [some 92,some 96,some 94,some 95] sA sA ?_ ⟨⟨_,_,rfl,.refl _⟩,rfl,⟨_,_,rfl,.refl _⟩,rfl,⟨_,_,rfl,by rw[←eE,←su];exact .refl _⟩,rfl,⟨_,_,rfl,.refl _⟩,rfl,trivial⟩ ⟨⟨96,_,_,rfl,rfl,?_⟩,trivial⟩)
      ·exact bZ (aw h9 om) trivial
      ·intro p hp;simp only[qO,List.mem_nil_iff,or_false]at hp;rcases hp with rfl|rfl
       ·exact⟨94,rfl,sA⟩
       ·exact⟨95,rfl,sA⟩
     ·obtain rfl:i=A.length:=om;rw[SI];refine cE (dZ @St.jU.eq_1 @w9 @w_ @Option.getD_some.{0} @Option.getD_none.{0} (dF ((A.length:Int)<(h.t.st.length:Int))) @KO.eq_1) ?_;exact he _ _ (bP trivial)
  ·have q1:FA 19 [] [.t (cz h)] fun o r=>o=[]/\r= .aI [.agg qe,.i (aY h).2]:=cF.le (QZ h hs ok) fun o r ⟨a,x,b⟩=>⟨r,.refl _,a,by rw[b,if_neg h0]⟩;simp only[cz]at q1;rw[if_neg h0];have e1:=eA h0;have e2:=bne_iff_ne.2 h0;exact Rx q1 (dl (bf e1 e2 @qe.eq_1 @qu.eq_1) trivial)
 ·have q1:=aU3 h hs ok;simp only[cz]at q1;rw[nO,if_neg ok];refine Pc sA (aa @cz.eq_1 ?_);exact Rx q1 (dl (ah @qe.eq_1 @qu.eq_1) trivial)
def zn(h:Hd):LI:=fh h.t.st.length fun k=>(ji h).getD k 0-h.t.st.getD k 0
def aU5(h:Hd)(ok:cU h)(ho:(aY h).1.ov=true):(zn h).sum=0:=by
 have h1:=SX h ok ho;have h2:=FJ h ok;have e:zn h=(List.range h.t.st.length).map fun k=>(ji h).getD k 0+ -h.t.st.getD k 0:=rfl;have e2:=FF (fun k=>(ji h).getD k 0+ -h.t.st.getD k 0) (fun k=>h.t.st.getD k 0) h.t.st.length;rw[FE (g:=fun k=>(ji h).getD k 0) h.t.st.length fun i _=>om]at e2;rw[tY,tY h.t.st,h2]at h1;rw[e,FG];omega
def ua(B S:LI)(i:Nat):LI:=fh S.length fun k=>if k<i then B.getD k 0-S.getD k 0 else B.getD k 0
def Tk{α:Type}{F G:Nat->α}(h:∀k,k<n->F k=G k):fh n F=fh n G:=rW fun k hk=>h k (List.mem_range.1 hk)
def aU6(B:LI):fh B.length (fun k=>B.getD k 0)=B:=by
 refine List.ext_getElem? fun k=>?_;rcases qH k B.length with h|h
 ·rw[gj h,dD h]
 ·rw[qP (by rw[fx];exact h),qP h]
def Tl(h:Hd)(ok:cU h)(ho:(aY h).1.ov=true):∀i,i<h.t.st.length->0<=(ji h).getD i 0/\(ji h).getD i 0<=2000000000:=fun i hi=>by
 obtain⟨hk,_⟩:=t_ h ok.1;have l:=hk.i.l;have h1:=l.xs i hi;have h2:=KN h ok ho _ (gO (l:=iN h (aY h).1) (i:=i) (by rw[(B9 h ok ho).2];exact hi));rw[ji,Kz (by rw[l.st];exact hi)];omega
def aU7(h:Hd)(ok:cU h)(h0:(aY h).2=0)(gH:(aY h).1.ov=true):FR 13 [.t (cz h)] (.aI [ae (zn h),.i 0]):=by
 have q1:=Ti h (xQ ok);rw[nO,if_pos ok,if_pos h0,if_pos gH]at q1;simp only[cz]at q1;have n2:=ok.1.1;have dy:=FJ h ok;have dk:=Tl h ok gH;refine ac1 sA (aa @cz.eq_1 ?_);refine Rx q1 (dl @ae.eq_1 ?_);have Tm:zn h=ua (ji h) h.t.st h.t.st.length:=Tk fun k hk=>(if_pos hk).symm;rw[Tm];clear Tm q1;generalize ji h=B at dy dk ⊢;generalize iN h (aY h).1=W;have hdl:∀i,(ua B h.t.st i).length=h.t.st.length:=fun i=>fx;have AO:ua B h.t.st 0=B:=by
  rw[ua,Tk (G:=fun k=>B.getD k 0) fun k _=>if_neg om,←dy];exact aU6 B
 refine lN (fun i=>St.of [(4,.own 94),(18,.t (ints h.t.st)),(19,.t (.i h.t.st.length)),(20,.t (.i i))] [(94,.box [.arr 1 ((ua B h.t.st i).map T.i),.arr 1 (W.map T.i),.i (aY h).1.s,.b (aY h).1.sh])]) (fun i=>i<=h.t.st.length) (fun i=>h.t.st.length-i) 0 (cH [4] (hr:=rK rfl (by rw[AO];exact .refl _) trivial)) (fun i hi R hn hr he=>?_)
 ·rcases qH i h.t.st.length with h9|h9
  ·have hS:=dD h9;have hx:(ua B h.t.st i)[i]? =some (B.getD i 0):=(by rw[ua,gj h9,if_neg om]);have hb:=dk i h9;have hs:=ok.1.2.1 _ (gO h9);have hw:IntKind.i64.wrap (B.getD i 0-h.t.st.getD i 0)=B.getD i 0-h.t.st.getD i 0:=wrap64 om om;have eE:(ua B h.t.st i).set i (B.getD i 0-h.t.st.getD i 0)=ua B h.t.st (i+1):=xL (if_pos om) fun j hj=>by
    by_cases hji:j<i
    ·rw[if_pos hji,if_pos om]
    ·rw[if_neg hji,if_neg om]
   refine aa (bM hS hx hdl hw (dt ((i:Int)<(h.t.st.length:Int)))) ?_
   repeat (first|refine⟨om,?_⟩|refine⟨by rw[cN];omega,?_⟩)
   exact hn _ (i+1) (wT (wC 94 0 26) (aq [94] (aw h9 om) (hr:=rK rfl (by rw[←eE,←su];exact .refl _) trivial)))
  ·obtain rfl:i=h.t.st.length:=om;refine aa (dF ((h.t.st.length:Int)<(h.t.st.length:Int))) ?_;exact he _ _ (bP trivial)
def aU8(t:Tb)(ht:cR t):Pr 12 [cY t] (.aI [.i t.st.sum,.i 0]):=by
 have n2:=ht.1;have q1:=ED t om;rw[decide_eq_true ht]at q1;have q2:=tH t.st ⟨om,fun x hx=>by have:=ht.2.1 x hx;omega⟩;simp only[cY]at q1;refine ac0 sA (aa @cY.eq_1 ?_);refine Px q1 (bP ?_);exact Px q2 (ab trivial)
end
def bytes(cs:LI):T:=.sh 1 (cs.map fun x=>.v (.int .u8 x))
def iO(cs:LI):Prop:=∀c∈cs,0<=c/\c<=255
def KQ:Ty:=.sl 1 (.int .u8)
def wf8{n:Int}(h:(Lit.int .u8 n).wf=true):0<=n/\n<=255:=by
 simp[Lit.wf,IntKind.min,IntKind.max,IntKind.signed,IntKind.bits]at h;omega
def Tn:∀{xs:List LA},(∀x∈xs,x.length=1/\(Ty.int .u8).wt x)->∃l:LI,xs.flatten=(l.map fun x=>T.v (.int .u8 x))/\l.length=xs.length/\iO l
 |[],_=>⟨[],rfl,rfl,fun x hx=>by simp at hx⟩
 |x::xs,h=>by
  obtain⟨l,hl,hlen,hf⟩:=Tn (xs:=xs) fun y hy=>h y (by simp[hy])
  obtain⟨_,n,rfl,hw⟩:=h x sA;refine⟨n::l,by simp[hl],by simp[hlen],fun y hy=>?_⟩;rcases qO.1 hy with rfl|hy
  ·exact wf8 hw
  ·exact hf y hy
def aU9{x:T}(h:KQ.wt [x]):∃l:LI,x=bytes l/\l.length<=9223372036854775807/\iO l:=by
 obtain⟨xs,hx,hlen,hall⟩:=h;obtain⟨l,hl,jN,hf⟩:=Tn hall;simp only[List.cons.injEq,and_true]at hx;exact⟨l,by rw[hx,hl];rfl,by rw[jN];exact hlen,hf⟩
def vF(cs:LI)(a:Nat×Int):T:=.box [bytes cs,.i a.1,.i a.2]
def cI(a:Nat×Int):Prop:=0<=a.2/\a.2<2147483647/\a.1<=1000000000000
def ng(l:LI):Int:=l.foldl (fun s c=>(s*61+c)%2147483647) 45007
def To(l:LI)(c:Int):ng (l++[c])=(ng l*61+c)%2147483647:=by simp[ng,List.foldl_append]
def KR(l:LI):0<=ng l/\ng l<2147483647:=by
 rcases List.eq_nil_or_concat l with rfl|⟨l,c,rfl⟩
 ·decide
 ·rw[List.concat_eq_append,To];omega
def aJ(cs:LI)(a:Nat×Int)(n:Int):Int×(Nat×Int):=
 if n<=1 then(0,a)else
 let s:=(a.2*48271+29)%2147483647
 if a.1<cs.length then((if n<=256/\(a.1+1)%2=0 then cs.getD a.1 0 else s/31+cs.getD a.1 0)%n,(a.1+1,s))else((s/31)%n,(a.1,s))
def ky{n:Int}(hn:1<=n):0<=(aJ cs a n).1/\(aJ cs a n).1<n:=by
 unfold aJ;split
 ·omega
 ·split
  ·exact⟨Int.emod_nonneg _ om,Int.emod_lt_of_pos _ om⟩
  ·exact⟨Int.emod_nonneg _ om,Int.emod_lt_of_pos _ om⟩
def Tp(cs:LI)(hc:iO cs)(hl:cs.length<=1000000000000):FR 18 [.t (bytes cs)] (vF cs (0,ng (cs.take 64))):=by
 refine ac5 sA (aa @bytes.eq_1 ?_);refine lN (fun i=>St.of [(0,.t (bytes cs)),(3,.own 7),(4,.t (.i i))] [(7,.box [bytes cs,.i 0,.i (ng (cs.take i))])]) (fun i=>i<=64/\i<=cs.length) (fun i=>64-i) 0 (aq [7] @bytes.eq_1) (fun i hi R hn hr he=>?_) (hi:=⟨om,om⟩)
 ·refine aa @bytes.eq_1 ?_;refine⟨fun h1=>⟨fun h2=>⟨om,om,om,fun c gA=>⟨dc,?_⟩⟩,fun h2=>he _ _ ?_⟩,fun h1=>he _ _ ?_⟩
  ·have hb:=hc c (qE gA);have hf:=KR (cs.take i);have e:=To (cs.take i) c;rw[←bG gA]at e;have hw:(IntKind.i64.wrap (IntKind.i64.wrap (ng (cs.take i)*61)+IntKind.i64.wrap c)).tmod 2147483647=ng (cs.take (i+1)):=by
    rw[wrap64 (n:=c) om om,wrap64 (n:=ng (cs.take i)*61) om om,wrap64 (n:=ng (cs.take i)*61+c) om om,rP om,e]
   rw[hw];exact hn _ (i+1) (aq [7] (ah @bytes.eq_1 (aw (by omega:i<cs.length) om))) ⟨om,om⟩
  ·refine aa (ah @vF.eq_1 @bytes.eq_1) ?_;rw[show i=64 by omega];rfl
  ·refine aa (ah @vF.eq_1 @bytes.eq_1) ?_;have e:cs.take i=cs.take 64:=(by rw[qQ om,qQ om]);rw[e];rfl
set_option maxHeartbeats 2000000 in
def aV0(cs:LI)(hc:iO cs)(hl:cs.length<=100000000000)(a:Nat×Int)(ha:cI a)(n:Int)(hn:n<=1000000000000):FA 39 [vF cs a] [.own 1000000000,.t (.i n)] fun o r=>o=[vF cs (aJ cs a n).2]/\r= .i (aJ cs a n).1:=by
 refine ae2 sA ?_;simp -implicitDefEqProofs (maxSteps:=1000000) only[c8,go_sem,Pg,vF,bytes];obtain⟨a1,a2⟩:=a;obtain⟨h1,h2,h3⟩:=ha;simp only[]at h1 h2 h3;have hs:(IntKind.i64.wrap (IntKind.i64.wrap (a2*48271)+29)).tmod 2147483647=(a2*48271+29)%2147483647:=by
  rw[wrap64 (n:=a2*48271) om om,wrap64 (n:=a2*48271+29) om om,rP om]
 have hs1:=Int.emod_nonneg (a2*48271+29) (show(2147483647:Int)≠0 by decide);have aW:=Int.emod_lt_of_pos (a2*48271+29) (show(0:Int)<2147483647 by decide);have hw1:IntKind.i64.wrap ((a1:Int)+1)=((a1+1:Nat):Int):=by rw[wrap64 om om];omega
 have dr:IntKind.i64.wrap (((a1+1:Nat):Int)-1)=(a1:Int):=by rw[wrap64 om om];omega
 simp only[hs,hw1,dr,Int.toNat_natCast];have i7:aJ cs (a1,a2) n=if n<=1 then(0,(a1,a2))else if a1<cs.length then((if n<=256/\(a1+1)%2=0 then cs.getD a1 0 else(a2*48271+29)%2147483647/31+cs.getD a1 0)%n,(a1+1,(a2*48271+29)%2147483647))else(((a2*48271+29)%2147483647/31)%n,(a1,(a2*48271+29)%2147483647)):=rfl;generalize (a2*48271+29)%2147483647=s at hs1 aW i7 ⊢;have hq:IntKind.i64.wrap (s.tdiv 31)=s/31:=by rw[rV hs1,wrap64 om om]
 have s8:s.tdiv 31=s/31:=rV hs1;have xI:IntKind.i64.wrap (s/31)=s/31:=wrap64 om om;rw[i7];by_cases nD:n<=1
 ·simp only[if_pos nD];exact⟨fun _=>sA,fun h=>absurd nD h⟩
 ·simp only[if_neg nD];refine⟨fun h=>absurd h nD,fun _=>⟨dc,dc,fun fJ=>?_,fun fJ=>?_⟩⟩
  ·have bO:a1<cs.length:=om;obtain⟨c,gA⟩:∃c,cs[a1]? =some c:=⟨_,qB bO⟩;have hcb:=hc c (qE gA);have hg:cs.getD a1 0=c:=by rw[qA,gA];rfl
   have hwc:IntKind.i64.wrap c=c:=wrap64 om om;simp only[if_pos bO,gA,hg,Option.some.injEq,forall_eq',hwc];have hws:IntKind.i64.wrap (s/31+c)=s/31+c:=wrap64 om om;simp only[s8,xI,hws];refine⟨om,om,om,fun Tq=>⟨dc,fun he=>⟨om,om,om,om,by first|trivial|rfl,?_⟩,fun he=>⟨om,by first|trivial|rfl,?_⟩⟩,fun Tq=>⟨om,by first|trivial|rfl,?_⟩⟩
   ·rw[beq_iff_eq,rP om]at he;rw[if_pos ⟨Tq,om⟩,rP om]
   ·rw[beq_eq_false_iff_ne,rP om]at he;rw[if_neg om,rP om]
   ·rw[if_neg om,rP om]
  ·have bO:¬a1<cs.length:=om;simp only[if_neg bO,s8,xI];refine⟨om,by first|trivial|rfl,?_⟩;rw[rP om]
def dK(hl:cs.length<=100000000000)(ha:cI a)(n:Int):cI (aJ cs a n).2:=by
 obtain⟨h1,h2,h3⟩:=ha;have hs1:=Int.emod_nonneg (a.2*48271+29) (show(2147483647:Int)≠0 by decide);have aW:=Int.emod_lt_of_pos (a.2*48271+29) (show(0:Int)<2147483647 by decide);unfold aJ;split
 ·exact⟨h1,h2,h3⟩
 ·split
  ·exact⟨hs1,aW,by show a.1+1<=_;omega⟩
  ·exact⟨hs1,aW,h3⟩
def Tr(l:LI):cI (0,ng l):=⟨(KR l).1,(KR l).2,Nat.zero_le _⟩
def il(cs:LI)(a:Nat×Int)(l:LI):Int×(Nat×Int):=(l.getD (aJ cs a l.length).1.toNat 0,(aJ cs a l.length).2)
def Ts{l:LI}(h:1<=l.length):(il cs a l).1∈l:=by
 have hb:=ky (cs:=cs) (a:=a) (show(1:Int)<=l.length by omega);unfold il;rw[qA,qB (show(aJ cs a l.length).1.toNat<l.length by omega)];exact rJ _
def dV(cs:LI)(hc:iO cs)(hl:cs.length<=100000000000)(a:Nat×Int)(ha:cI a)(n:Int)(hn:n<=1000000000000):FA 39 [.box [bytes cs,.i a.1,.i a.2]] [.own 1000000000,.t (.i n)] fun o r=>o=[.box [bytes cs,.i (aJ cs a n).2.1,.i (aJ cs a n).2.2]]/\r= .i (aJ cs a n).1:=aV0 cs hc hl a ha n hn
def nP(hl:cs.length<=100000000000)(ha:cI a)(l:LI):cI (il cs a l).2:=dK hl ha _
def sN(cs:LI)(hc:iO cs)(hl:cs.length<=100000000000)(a:Nat×Int)(ha:cI a)(l:LI)(h1:1<=l.length)(h2:l.length<=1000000):FA 41 [.box [bytes cs,.i a.1,.i a.2],ae l] [.own 1000000000,.own 1000000001] fun o r=>o=[.box [bytes cs,.i (il cs a l).2.1,.i (il cs a l).2.2],ae l]/\r= .i (il cs a l).1:=by
 have hb:=ky (cs:=cs) (a:=a) (show(1:Int)<=l.length by omega);obtain⟨x,hx⟩:∃x,l[(aJ cs a l.length).1.toNat]? =some x:=⟨_,qB (show(aJ cs a l.length).1.toNat<l.length by omega)⟩;have hg:(il cs a l).1=x:=by rw[il,qA,hx];rfl
 refine ae3 sA (aa @ae.eq_1 ?_);refine Fx (dV cs hc hl a ha l.length om) [1000000000] (aP ?_);refine⟨om,om,om,fun y hy=>?_⟩;rw[hx]at hy;cases hy;exact⟨rfl,by rw[hg]⟩
def nQ(cs:LI)(hc:iO cs)(hl:cs.length<=100000000000)(a:Nat×Int)(ha:cI a)(n:Int)(h1:1<=n)(hn:n<=1000000000000):FA 39 [.box [bytes cs,.i a.1,.i a.2]] [.own 1000000000,.t (.i n)] fun o r=>∃z:Int×(Nat×Int),o=[.box [bytes cs,.i z.2.1,.i z.2.2]]/\r= .i z.1/\(0<=z.1/\z.1<n)/\cI z.2:=
 cF.le (dV cs hc hl a ha n hn) fun o r ⟨h2,h3⟩=>⟨r,.refl _,aJ cs a n,h2,h3,ky h1,dK hl ha n⟩
def Cc(cs:LI)(hc:iO cs)(hl:cs.length<=100000000000)(a:Nat×Int)(ha:cI a)(l:LI)(h1:1<=l.length)(h2:l.length<=1000000):FA 41 [.box [bytes cs,.i a.1,.i a.2],.arr 1 (l.map T.i)] [.own 1000000000,.own 1000000001] fun o r=>∃z:Int×(Nat×Int),o=[.box [bytes cs,.i z.2.1,.i z.2.2],.arr 1 (l.map T.i)]/\r= .i z.1/\z.1∈l/\cI z.2:=
 cF.le (sN cs hc hl a ha l h1 h2) fun o r ⟨h2,h3⟩=>⟨r,.refl _,il cs a l,h2,h3,Ts h1,nP hl ha l⟩
def Tt(t:Tb):T:=.agg [ae t.st,.i t.bn,.i t.sm,.i t.bg,.i t.an,.i t.lm]
section
attribute [-go_sem] bC bF bK bE bH bL
def aV1(cs:LI)(hc:iO cs)(hl:cs.length<=100000000000)(a:Nat×Int)(ha:cI a):FA 84 [.box [bytes cs,.i a.1,.i a.2]] [.own 1000000000] fun o r=>∃x:Tb×(Nat×Int),o=[.box [bytes cs,.i x.2.1,.i x.2.2]]/\r=Tt x.1/\cR x.1/\cI x.2:=by
 refine ah7 sA (ab ?_);refine Xx (nQ cs hc hl a ha 5 om om) [1000000000] (fun z hz=>aP ?_);obtain⟨k,b⟩:=z;obtain⟨⟨k0,k1⟩,hb⟩:=hz
 (try simp only[]at k0 k1 hb)
 obtain⟨n,hn⟩:∃n:Nat,2+k=(n:Int):=⟨(2+k).toNat,om⟩
 (try simp only[])
 rw[wrap64 (n:=2+k) om om,hn];refine dX.ig (σ:=LI×(Nat×Int)) (fun s=>St.of [(0,.own 1000000000),(2,.own 92),(3,.t (.i n)),(4,.own 94),(5,.t (.i s.1.length))] [(1000000000,.box [bytes cs,.i s.2.1,.i s.2.2]),(92,.box [.zz,.i 0,.i 0,.i 0,.i 0,.i 0]),(94,.arr 1 (s.1.map T.i))]) (fun s=>s.1.length<=n/\(∀x∈s.1,1<=x/\x<=100000)/\cI s.2) (fun s=>n-s.1.length) ([],b) (aq [1000000000,2,10] @List.length_nil.{0}) ⟨sA,sA,hb⟩ fun s hs R hn' hr he=>?_
 ·obtain⟨l,c⟩:=s;obtain⟨hs1,aW,bY⟩:=hs
  (try simp only[]at hs1 aW bY)
  (try simp only[])
  rcases qH l.length n with h9|h9
  ·refine aa (dt ((l.length:Int)<(n:Int))) ?_;refine Xx (nQ cs hc hl c bY 5 om om) [1000000000] (fun z1 h1=>aP ?_);refine Xx (nQ cs hc hl z1.2 h1.2 30 om om) [1000000000] (fun z2 h2=>aP ?_);refine Xx (nQ cs hc hl z2.2 h2.2 160 om om) [1000000000] (fun z3 h3=>aP ?_);obtain⟨⟨a1,a2⟩,a3⟩:=h1;obtain⟨⟨b1,b2⟩,b3⟩:=h2;obtain⟨⟨c1,c2⟩,c3⟩:=h3;rw[wrap64 (n:=2+z1.1) om om,wrap64 (n:=10+z2.1) om om,wrap64 (n:=40+z3.1) om om];have hp:=Cc cs hc hl z3.2 c3 [1,2+z1.1,10+z2.1,40+z3.1,100] sA sA;simp only[List.map_cons,List.map_nil]at hp;refine Xx hp [1000000000,27] (fun z4 h4=>aP ?_);obtain⟨d1,d2⟩:=h4;have d1:1<=z4.1/\z4.1<=100000:=by
    simp only[qO,List.not_mem_nil,or_false]at d1;omega
   refine⟨om,hn' _ (l++[z4.1],z4.2) (aq [1000000000,92,30] (bM (aw h9 om) @qD.{0} @List.length_cons.{0} @List.length_nil.{0} @Nat.zero_add) (hr:=rB (rB (rK rfl (by rw[qG];exact .refl _) trivial)))) ⟨by simp only[qD,List.length_singleton];omega,fun x hx=>?_,d2⟩ (by simp only[qD,List.length_singleton];omega)⟩
   ·rcases qI.1 hx with hx|hx
    ·exact aW x hx
    ·rw[List.mem_singleton.1 hx];exact d1
  ·have e:l.length=n:=om;refine aa (dF ((l.length:Int)<(n:Int))) ?_;refine he _ _ ?_;have hp:=Cc cs hc hl c bY [1,2,2,4,10] sA sA;simp only[List.map_cons,List.map_nil]at hp;refine ab ?_;refine Xx hp [1000000000,32] (fun z1 h1=>aP ?_);obtain⟨a1,a2⟩:=h1;have a1:1<=z1.1/\z1.1<=10:=by
    simp only[qO,List.not_mem_nil,or_false]at a1;omega
   refine Xx (nQ cs hc hl z1.2 a2 n om om) [1000000000] (fun z2 h2=>aP ?_);obtain⟨b1,b2⟩:=h2;have hd:IntKind.i64.wrap (z1.1.tdiv 2)=z1.1/2:=(by rw[rV om,wrap64 om om]);refine⟨dc,?_⟩;have hp:=Cc cs hc hl z2.2 b2 [0,0,1,3] sA sA;simp only[List.map_cons,List.map_nil]at hp;refine Xx hp [1000000000,42] (fun z3 h3=>aP ?_);obtain⟨c1,c2⟩:=h3;have c1:0<=z3.1/\z3.1<=3:=by
    simp only[qO,List.not_mem_nil,or_false]at c1;omega
   refine Xx (nQ cs hc hl z3.2 c2 3 om om) [1000000000] (fun z4 h4=>bu hd ?_);obtain⟨d1,d2⟩:=h4;exact⟨(⟨l,z2.1,z1.1/2,z1.1,z3.1,z4.1⟩,z4.2),rfl,rfl,⟨⟨by simp only[];omega,by simp only[];omega⟩,aW,⟨b1.1,by simp only[];omega⟩,⟨by simp only[];omega,by simp only[];omega⟩,⟨by simp only[];omega,by simp only[];omega⟩,⟨c1.1,by simp only[];omega⟩,d1.1,by simp only[];omega⟩,d2⟩
end
def aV2{D:LI}(h:D.Nodup){i k:Nat}(hi:i<D.length)(hk:k<D.length):((D.set i (D.getD k 0)).set k (D.getD i 0)).Nodup:=by
 have hg:∀j,(hj:j<D.length)->D.getD j 0=D[j]:=fun j hj=>by rw[qA,qB hj];rfl
 rw[hg i hi,hg k hk];have inj:∀x y (hx:x<D.length) (hy:y<D.length),x≠y->D[x]≠D[y]:=fun x y hx hy hne=>by
  rcases Nat.lt_or_gt_of_ne hne with hlt|hlt
  ·exact List.pairwise_iff_getElem.1 h x y hx hy hlt
  ·exact Ne.symm (List.pairwise_iff_getElem.1 h y x hy hx hlt)
 refine List.pairwise_iff_getElem.2 fun a b ha hb hab=>?_;simp only[List.length_set]at ha hb;simp only[List.getElem_set]
 repeat' split
 all_goals first|omega|exact inj _ _ _ _ om
def FM(n k b s:Nat):LN:=(List.range k).map fun j=>j*n+(s+n-(b+1)%n)%n
def zo(n k b:Nat):LN:=(List.range 5).map (n*k+ ·)++((List.range n).map (FM n k b)).flatten
def Tu:Bool:=(List.range 7).all fun n=>[2,4].all fun k=>(List.range n).all fun b=>decide (n<2)||(decide (zo n k b).Nodup&&(zo n k b).all fun x=>decide (x<52))
def aV3:Tu=true:=by decide+kernel
def Tv:Bool:=(List.range 7).all fun n=>(List.range n).all fun b=>(List.range n).all fun i=>decide (n<2)||(decide (((b+1+i)%n+n-(b+1)%n)%n=i)&&(List.range n).all fun s=>decide (s=(b+1+i)%n)||decide ((s+n-(b+1)%n)%n≠i))
def aV4:Tv=true:=by decide+kernel
def aV5(h2:2<=n)(h6:n<=6)(hk:k=2∨k=4)(hb:b<n):(zo n k b).Nodup/\∀x∈zo n k b,x<52:=by
 have h:=aV3;simp only[Tu,rO,List.mem_range,Bool.or_eq_true,qM,decide_eq_true_eq]at h;have:=(h n om k (sU hk) b hb).resolve_left om;exact this
def aV6(h2:2<=n)(h6:n<=6)(hb:b<n)(hi:i<n):((b+1+i)%n+n-(b+1)%n)%n=i/\∀s,s<n->s≠(b+1+i)%n->(s+n-(b+1)%n)%n≠i:=by
 have h:=aV4;simp only[Tv,rO,List.mem_range,Bool.or_eq_true,qM,decide_eq_true_eq]at h;have:=(h n om b hb i hi).resolve_left om;exact⟨this.1,fun s hs hne=>(this.2 s hs).resolve_left hne⟩
def ub(D:LI)(n k b:Nat):LL:=(List.range n).map fun s=>(FM n k b s).map fun i=>D.getD i 0
def qw(D:LI)(n k:Nat):LI:=((List.range 5).map (n*k+ ·)).map fun i=>D.getD i 0
def aV7{D:LI}(hl:D.length=52)(hc:ce D)(h2:2<=n)(h6:n<=6)(hk:k=2∨k=4)(hb:b<n):ce (qw D n k++(ub D n k b).flatten):=by
 have e:qw D n k++(ub D n k b).flatten=(zo n k b).map fun i=>D.getD i 0:=by
  rw[zo,qG,List.map_flatten,ub,qw,List.map_map (l:=List.range n)];rfl
 obtain⟨h1,h3⟩:=aV5 h2 h6 hk hb;rw[e];refine⟨List.pairwise_map.2 (List.Pairwise.imp_of_mem (fun{x y} hx hy hne=>?_) h1),fun x hx=>?_⟩
 ·have hx:=h3 x hx;have hy:=h3 y hy;rw[qA,qA,qB (show x<D.length by omega),qB (show y<D.length by omega)];exact fun e=>hne ((List.getElem_inj hc.1).1 e)
 ·obtain⟨i,hi,rfl⟩:=qN.1 hx;exact hc.2 _ (gO (by have:=h3 i hi;omega))
def cF.Tw{P:Program}{f:FuncId}{aH:LA}{args args':List A}{Q:LA->T->Prop}(h:cF P f aH args' Q)(hl:args'.length=args.length)(ha:∀i (h:i<args'.length) (h':i<args.length),args'[i]=args[i]∨((∃s,args'[i]= .t (.sh s []))/\args[i]= .t (.zz))):cF P f aH args Q:=fun X w vals hs fp hm hv hi=>h X w vals hs fp hm om fun i h1=>by
 rcases ha i h1 om with e|⟨⟨s,e1⟩,e2⟩
 ·rw[e];exact hi i om
 ·have:=hi i om;rw[e2]at this;rw[e1];cases this with
  |t hr=>exact .t (Hf (.inr ⟨⟨s,rfl⟩,rfl⟩) hr)
def aV8:(BD []).length=52/\ce (BD []):=by decide+kernel
def FN(q:Int×LI)(i:Nat):Int×LI:=(q.1*48271%2147483647,(q.2.set i (q.2.getD (q.1*48271%2147483647%((i:Int)+1)).toNat 0)).set (q.1*48271%2147483647%((i:Int)+1)).toNat (q.2.getD i 0))
def nh(s:Int):Nat->Int×LI
 |0=>(s,BD [])
 |m+1=>FN (nh s m) (51-m)
def vG(s:Int):LI:=(nh s 51).2
def KS{s:Int}(h:0<=s/\s<2147483647):∀m,m<=51->(0<=(nh s m).1/\(nh s m).1<2147483647)/\(nh s m).2.length=52/\ce (nh s m).2
 |0,_=>⟨h,aV8⟩
 |m+1,hm=>by
  obtain⟨h1,hD,hC⟩:=KS h m om;rw[nh,FN];generalize nh s m=q at h1 hD hC ⊢;obtain⟨z,D⟩:=q
  (try simp only[]at h1 hD hC)
  have hk:(z*48271%2147483647%(((51-m:Nat):Int)+1)).toNat<52:=by
   have h2:=Int.emod_lt_of_pos (z*48271%2147483647) (show(0:Int)<((51-m:Nat):Int)+1 by omega);omega
  generalize (z*48271%2147483647%(((51-m:Nat):Int)+1)).toNat=k at hk;refine⟨by simp only[];omega,by simp only[List.length_set];exact hD,aV2 hC.1 om om,fun x hx=>?_⟩;rcases List.mem_or_eq_of_mem_set hx with hx|hx
  ·rcases List.mem_or_eq_of_mem_set hx with hx|hx
   ·exact hC.2 x hx
   ·rw[hx];exact hC.2 _ (gO om)
  ·rw[hx];exact hC.2 _ (gO om)
def Tx{s:Int}(h:0<=s/\s<2147483647):(vG s).length=52/\ce (vG s):=(KS h 51 (qR _)).2
section
attribute [-go_sem] bC bF bK bE bH bL
def aV9:FA 195 [] [.t (.zz)] fun o r=>o=[]/\r=ae (BD []):=
 (aD7 [] sA).Tw rfl fun i h h'=>by
  match i,h with
  |0,_=>exact .inr ⟨⟨1,rfl⟩,rfl⟩
def aW0(s:Int):Pr 143 [.i s] (.b (decide (1<=s/\s<=2147483646))):=by
 refine am5 sA (ab ?_);exact Px (eN s 1 2147483646) (ab trivial)
def aW1(s:Int)(h:0<=s/\s<2147483647):Pr 196 [.i s] (.i (s*48271%2147483647)):=by
 refine aq7 sA (ab ?_);rw[wrap64 (n:=s*48271) om om,rP om];exact⟨dc,rfl⟩
def aW2(s:Int)(h:0<=s/\s<2147483647):FR 144 [.t (.i s)] (ae (vG s)):=by
 refine am6 sA (ab ?_);refine Rx aV9 (bu @ae.eq_1 ?_);refine dX.ig (σ:=Nat) (fun m=>St.of [(0,.t (.i (nh s m).1)),(3,.own 93),(4,.t (.i ((51-m:Nat):Int)))] [(93,.arr 1 ((nh s m).2.map T.i))]) (fun m=>m<=51) (fun m=>51-m) 0 (aj.of _ _ [some 7] sA sA ?_ (rB trivial)) om fun m hm R hn hr he=>?_
 ·simp -implicitDefEqProofs only[fc,Nat.reduceBEq,Nat.reduceEqDiff, ↓reduceIte,nh,show(((51-0:Nat)):Int)=51 from rfl]
 ·rcases Nat.eq_zero_or_pos (51-m)with h9|h9
  ·rw[h9];refine aa (show decide (((0:Nat):Int)≥ 1)=false from rfl) ?_;refine he _ _ (ab ?_);rw[show m=51 by omega];rfl
  ·obtain⟨hz,hD,hC⟩:=KS h m hm;have hst:nh s (m+1)=FN (nh s m) (51-m):=rfl;rw[FN]at hst;generalize hi:51-m=i at h9 hst;generalize nh s m=q at hz hD hst ⊢;obtain⟨z,D⟩:=q
   (try simp only[]at hz hD hst)
   (try simp only[])
   have q1:=aW1 z hz;have ze:0<=z*48271%2147483647/\z*48271%2147483647<2147483647:=om;generalize z*48271%2147483647=z2 at ze q1 hst;have h2:=Int.emod_lt_of_pos z2 (show(0:Int)<(i:Int)+1 by omega);have hm2:z2.tmod ((i:Int)+1)=((z2%((i:Int)+1)).toNat:Int):=by
    have h1:=Int.emod_nonneg z2 (show(i:Int)+1≠0 by omega);rw[rP ze.1];omega
   have hk:(z2%((i:Int)+1)).toNat<52:=om;generalize (z2%((i:Int)+1)).toNat=k at hm2 hk hst;have hx:=dD (l:=D) (i:=i) om;have hy:=dD (l:=D) (i:=k) om;have hw:IntKind.i64.wrap ((i:Int)+1)=(i:Int)+1:=wrap64 om om;refine aa (dt ((i:Int)≥ 1)) ?_;refine Px q1 (aa (bM hw hm2 hx hy hD) ?_)
   repeat (first|refine⟨om,?_⟩|refine⟨by rw[cN];omega,?_⟩)
   refine hn _ (m+1) (aj.of _ _ [some 93] sA sA ?_ (rK rfl (by rw[hst,←su,←su];exact .refl _) trivial)) om om;have e:IntKind.i64.wrap ((i:Int)-1)=((51-(m+1):Nat):Int):=by rw[wrap64 om om];omega
   exact bZ (ah e hst) trivial
def aW3(D:LI)(hl:D.length=52)(hc:ce D):Pr 197 [ints D] (.b true):=by
 have q:=QN D om;rw[oM,decide_eq_true hc]at q;refine aq8 sA (ab ?_);exact Px q (cE (ah hl (show(((52:Nat):Int)==52)=true from rfl)) trivial)
end
end Go.Ab
