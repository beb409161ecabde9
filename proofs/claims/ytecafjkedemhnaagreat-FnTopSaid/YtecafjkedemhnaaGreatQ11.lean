import Derived.Shelf.SortM.Plain
import Derived.Shelf.SlicesE.Compact
import Derived.Test.YtecafjkedemhnaaGreatProg
import Derived.Laws.Append
import Derived.Test.YtecafjkedemhnaaGreatQ10
set_option maxRecDepth 20000
set_option linter.all false
namespace Go.Ab
open Go.Proofs
variable{L l r w:LI}{x:Int}{fo:List Bool}{M d i j k n:Nat}{e:TypeId}{t:Tb}{m:Nat->Bool}{p:gi}{a:Int×Int}{o:Oper}{α:Type}{cs:Array Value}{y:Operand}
section
attribute [-go_sem] bC bF bK bE bH bL
def vm(l:LI):LA:=(List.range 52).map fun(k:Nat)=>T.b (decide ((k:Int)∈l))
def E6(l:LI)(h:n<52):(vm l)[n]? =some (T.b (decide ((n:Int)∈l))):=by
 rw[vm,qU,List.getElem?_range h];rfl
def BC(l:LI):(vm l).length=52:=by simp[vm]
def aD4(l:LI)(h:n<52):(vm l).set n (T.b true)=vm (l++[(n:Int)]):=by
 refine List.ext_getElem? fun k=>?_;rw[List.getElem?_set,BC];by_cases hk:k<52
 ·rw[E6 _ hk,E6 _ hk];by_cases e:n=k
  ·subst e;simp[h]
  ·rw[if_neg e];have:((k:Int)∈l++[(n:Int)])↔(k:Int)∈l:=by simp;omega
   simp only[this]
 ·rw[qP (by rw[BC];omega),qP (by rw[BC];omega)];split
  ·omega
  ·rfl
def aD5:vm []=List.replicate 52 (T.b false):=by
 rfl
def QN(l:LI)(hl:l.length<=10000000):Pr 114 [ints l] (.b (oM l)):=by
 refine ak2 sA (ab ?_);refine⟨dc,?_⟩;refine lN (fun i=>St.of [(0,.t (ints l)),(3,.own 95),(4,.t (.i i))] [(95,.arr 1 (vm (l.take i)))]) (fun i=>i<=l.length/\ce (l.take i)) (fun i=>l.length-i) 0 (cH [5] (hr:=?_)) (fun i hi R hn hr he=>?_) (hi:=⟨om,by simp[ce]⟩)
 ·refine rI ?_ trivial;rw[List.take_zero,aD5];exact .refl _
 ·obtain⟨hi,eZ⟩:=hi;rcases qH i l.length with h9|h9
  ·obtain⟨c,hx⟩:∃c,l[i]? =some c:=⟨_,qB h9⟩;refine aB (ah hx (dt ((i:Int)<(l.length:Int)))) ?_;cases hc:es c with
   |false=>
    refine Px (JE c) (aa hc ?_);exact hr _ (aa (E4 hx (.inl hc)) trivial)
   |true=>
    obtain⟨n,rfl⟩:∃n:Nat,c=n:=⟨c.toNat,by simp[es]at hc;omega⟩;have E5:n<52:=by simp[es]at hc;omega
    by_cases hm:(n:Int)∈l.take i
    ·refine bz.p (JE n) [] rfl Tryz.call174 ?_ ?_
     ·exact ey trivial
     simp -implicitDefEqProofs only[c8,go_sem,hc,hx,BC,E6 _ E5,decide_eq_true hm];refine⟨om,om,om,om,om,om,?_⟩;exact hr _ (aa (E4 hx (.inr hm)) trivial)
    ·refine bz.p (JE n) [] rfl Tryz.call174 ?_ ?_
     ·exact ey trivial
     simp -implicitDefEqProofs only[c8,go_sem,hc,hx,BC,E6 _ E5,decide_eq_false hm,aD4 _ E5];refine⟨om,om,om,om,om,om,om,om,om,om,om,om,?_⟩;refine hn _ (i+1) (aq [95] (aw h9 om) (hr:=?_)) ⟨om,by rw[bG hx,JB];exact⟨eZ,hc,hm⟩⟩
     ·refine rI ?_ trivial;rw[bG hx];exact .refl _
  ·refine aa (dF ((i:Int)<(l.length:Int))) ?_;refine he _ _ (ab ?_);rw[qQ h9]at eZ;rw[oM,decide_eq_true eZ]
def y_(l:LI)(x:Int)(hl:l.length<=10000000):Pr 219 [ints l,.i x] (.b (decide (x∈l))):=by
 refine as8 sA (ab ?_);refine lN (fun i=>St.of [(0,.t (ints l)),(1,.t (.i x)),(5,.t (.i i))] []) (fun i=>i<=l.length/\x∉l.take i) (fun i=>l.length-i) 0 tF (fun i hi R hn hr he=>?_) (hi:=⟨om,sA⟩)
 ·obtain⟨hi,eZ⟩:=hi;rcases qH i l.length with h9|h9
  ·obtain⟨c,hx⟩:∃c,l[i]? =some c:=⟨_,qB h9⟩;refine aB (ah hx (dt ((i:Int)<(l.length:Int)))) ?_;refine⟨fun h=>?_,fun h=>?_⟩
   ·refine hr _ ?_;have h:c=x:=sU h;exact aa (decide_eq_true (show x∈l from h▸qE hx)) trivial
   ·have h:¬c=x:=sU h;refine hn _ (i+1) (eU (aw h9 om)) ⟨om,?_⟩
    ·rw[bG hx];simp[eZ];exact fun e=>h e.symm
  ·refine aa (dF ((i:Int)<(l.length:Int))) ?_;refine he _ _ ?_;rw[qQ h9]at eZ;exact aa (decide_eq_false eZ) trivial
def xH(l:LI)(c:Nat):LI:=((List.range c).map fun(k:Nat)=>(k:Int)).filter fun x=>decide (x∉l)
def BD(l:LI):LI:=xH l 52
def QO(l:LI)(c:Nat):xH l (c+1)=xH l c++if(c:Int)∈l then []else [(c:Int)]:=by
 simp only[xH,List.range_succ,qG,List.filter_append,List.map_cons,List.map_nil];by_cases h:(c:Int)∈l<;>simp[h]
def aD6(l:LI)(c:Nat):(xH l c).length<=c:=by
 have:=List.length_filter_le (fun x=>decide (x∉l)) ((List.range c).map fun(k:Nat)=>(k:Int));simpa[xH]using this
def aD7(l:LI)(hl:l.length<=10000000):FR 195 [.t (ints l)] (ae (BD l)):=by
 refine aq6 sA (ab ?_);refine lN (fun i=>St.of [(0,.t (ints l)),(3,.own 95),(4,.t (.i i))] [(95,.arr 1 ((xH l i).map T.i))]) (fun i=>i<=52) (fun i=>52-i) 0 (cH [5]) (fun i hi R hn hr he=>?_)
 ·rcases qH i 52 with h9|h9
  ·refine aa (dt ((i:Int)<52)) ?_;have jN:=aD6 l i;by_cases hm:(i:Int)∈l
   ·refine Px (y_ l i hl) (aa (decide_eq_true hm) ?_);refine hn _ (i+1) (aq [95] (aw h9 om) (hr:=?_))
    ·refine rI ?_ trivial;rw[QO,if_pos hm,List.append_nil];exact .refl _
   ·refine Px (y_ l i hl) (aB (decide_eq_false hm) ?_);refine hn _ (i+1) (aj.o _ _ [some 17] ?_ ?_)
    ·exact bZ (aw h9 om) trivial
    ·refine rI ?_ trivial;rw[QO,if_neg hm,qG];exact .refl _
  ·refine aa (dF ((i:Int)<52)) ?_;refine he _ _ (ab ?_);rw[show i=52 by omega];rfl
def oN:Nat->T
 |0=>.agg [.i 2,.i 0,.i 2,.i 5,.b true,.i 0]
 |1=>.agg [.i 4,.i 2,.i 2,.i 5,.b true,.i 0]
 |_=>.agg [.i 4,.i 2,.i 2,.i 5,.b true,.i 1]
def aD8:∀v:Nat,v<=2->Pr 49 [.i v] (oN v)
 |0,_=>by
  refine IN sA (ab ?_);simp[oN]
 |1,_=>by
  refine IN sA (ab ?_);simp[oN]
 |2,_=>by
  refine IN sA (ab ?_);simp[oN]
 |n+3,h=>om
def QP(v:Int):Pr 112 [.i v] (.b (decide (0<=v/\v<=2))):=by
 refine ak0 sA (ab ?_);exact Px (eN v 0 2) (ab trivial)
def E7:T:=.arr 6 [.i 2,.i 0,.i 2,.i 5,.b true,.i 0,.i 4,.i 2,.i 2,.i 5,.b true,.i 0,.i 4,.i 2,.i 2,.i 5,.b true,.i 1,.i 7,.i 5,.i 5,.i 0,.b true,.i 0,.i 7,.i 5,.i 5,.i 0,.b true,.i 1,.i 7,.i 5,.i 5,.i 0,.b false,.i 2,.i 5,.i 5,.i 5,.i 0,.b true,.i 0,.i 5,.i 5,.i 5,.i 0,.b false,.i 3]
def JF:FR 113 [] E7:=by
 refine ak1 sA (ab ?_);rfl
end
structure Hd where
 t:Tb
 v:Int
 ho:LL
 bd:LI
 ac:List (Int×Int)
def cz(h:Hd):T:=.agg [ints h.t.st,.i h.t.bn,.i h.t.sm,.i h.t.bg,.i h.t.an,.i h.t.lm,.i h.v,rows h.ho,ints h.bd,cG h.ac]
def gu(v:Int):Nat:=if v=0 then 2 else 4
def cU(h:Hd):Prop:=cR h.t/\(0<=h.v/\h.v<=2)/\h.ho.length=h.t.st.length/\h.bd.length=5/\h.ac.length<=100/\(∀r∈h.ho,r.length=gu h.v)/\oM (h.bd++h.ho.flatten)=true
instance (h:Hd):Decidable (cU h):=by unfold cU;infer_instance
def mh(h:Hd):Prop:=h.t.st.length<=1000000/\h.ho.length<=1000000/\h.bd.length<=1000000/\h.ac.length<=1000000/\∀r∈h.ho,r.length<=1000000
def QR{v:Int}(h:0<=v/\v<=2):Pr 49 [.i v] (oN v.toNat):=by
 have:=aD8 v.toNat om;rwa[show((v.toNat:Nat):Int)=v by omega]at this
def aD9{v:Int}(h:0<=v/\v<=2):∃x y:Int,oN v.toNat= .agg [.i (gu v),.i x,.i 2,.i 5,.b true,.i y]:=by
 rcases(show v=0∨v=1∨v=2 by omega)with rfl|rfl|rfl<;>exact⟨_,_,rfl⟩
section
variable {P:Program} {n:Nat} {S:St}
def aE0(f:Nat->α)(i:Nat)(x y:α):ak (ak f i x) i y=ak f i y:=by
 funext j;by_cases h:j=i
 ·subst h;rw[aT,aT]
 ·rw[aU _ _ _ _ h,aU _ _ _ _ h,aU _ _ _ _ h]
def bz.E8{fo:Operand}{ops:List Operand}{K:SP}{f:FuncId}{cap:List A}{args:LA}{l:LA}(hF:Pure P f args (.agg l))(au:LN)(bj:gY (S.ev fo)=some (f,cap))(b_:∀args w,(callFunc f args).run P w= .ok (.enter f args) w)(hargs:gn S [] au (args.map A.t) (ops.map S.ev++cap))(be:(T.agg l).bJ)(hx:bp d 0 (.agg l)=(.agg (l.map A.t),[],0))(hk:K {S with env:=ak S.env d (.t (.agg l))}):bz P n (some d) fo ops K S:=fun o ts h1 h2 h3 X w0 O0 a w hs fp g Q=>by
 have h:=bz.pure (n:=n) (K:=fun S'=>S'={S with env:=ak S.env d (.agg (l.map A.t))}) hF au bj b_ hargs be hx rfl o ts h1 h2 h3 X w0 O0 a w hs fp g Q;refine Go.Oper.wp_mono (fun a' w' ⟨S',hs',al,g',e⟩=>?_) h;subst e;obtain⟨aW,bl,g2⟩:=aj.N9 d (aT _ _ _) _ _ _ _ _ _ _ g';simp only[aE0]at g2;exact⟨_,aW,bl,g2,hk⟩
end
def QS{L:LL}(h:L[i]? =some l):(L.take (i+1)).flatten=(L.take i).flatten++l:=by rw[bG h];simp
def QT{m:LL}(h:∀r∈m,r.length=k):m.flatten.length=m.length*k:=by
 induction m with
 |nil=>simp
 |cons x m ih=>rw[qZ,qD,ih (fun r hr=>h r (rH _ hr)),h x (List.mem_cons_self ..),List.length_cons,Nat.add_mul,Nat.one_mul,Nat.add_comm]
section
attribute [-go_sem] bC bF bK bE bH bL
def QU(h:Hd)(hs:mh h):Pr 43 [cz h] (.b (decide (cU h))):=by
 obtain⟨s1,s2,s3,s4,s5⟩:=hs;have q1:=ED h.t s1;have q2:=fq h.v 0 2;simp only[cY]at q1;refine ae4 sA (aa @cz.eq_1 ?_);by_cases h1:cR h.t
 case neg=>
  refine Px q1 (cE (decide_eq_false h1) ?_);rw[decide_eq_false (fun c:cU h=>h1 c.1)]
 refine Px q1 (cE (decide_eq_true h1) ?_);by_cases h2:0<=h.v/\h.v<=2
 case neg=>
  refine Px q2 (cE (decide_eq_false h2) ?_);rw[decide_eq_false (fun c:cU h=>h2 c.2.1)]
 by_cases h3:h.ho.length=h.t.st.length
 case neg=>
  have b3:(((h.ho.length:Nat):Int) !=((h.t.st.length:Nat):Int))=true:=by simp;omega
  refine Px q2 (cE (ah (decide_eq_true h2) b3) ?_);rw[decide_eq_false (fun c:cU h=>h3 c.2.2.1)]
 have b3:(((h.ho.length:Nat):Int) !=((h.t.st.length:Nat):Int))=false:=by simp;omega
 by_cases h4:h.bd.length=5
 case neg=>
  have b4:(((h.bd.length:Nat):Int) !=5)=true:=by simp;omega
  refine Px q2 (cE (ay (decide_eq_true h2) b3 b4) ?_);rw[decide_eq_false (fun c:cU h=>h4 c.2.2.2.1)]
 have b4:(((h.bd.length:Nat):Int) !=5)=false:=by simp;omega
 by_cases h5:h.ac.length<=100
 case neg=>
  have b5:(((h.ac.length:Nat):Int)>100)=True:=eq_true om;refine Px q2 (cE (bf (decide_eq_true h2) b3 b4 b5) ?_);rw[decide_eq_false (fun c:cU h=>h5 c.2.2.2.2.1)]
 have b5:(((h.ac.length:Nat):Int)>100)=False:=eq_false om;refine Px q2 (cE (bf (decide_eq_true h2) b3 b4 b5) ?_);have qv:=QR h2;obtain⟨va,vb,hv⟩:=aD9 h2;rw[hv]at qv;refine Rx (uQ h.bd om) (bu @ae.eq_1 ?_);refine lN (fun i=>St.of [(1,.own 81),(3,.own 83),(42,.t (rows h.ho)),(43,.t (.i h.ho.length)),(44,.t (.i i))] [(81,.box [ints h.t.st,.i h.t.bn,.i h.t.sm,.i h.t.bg,.i h.t.an,.i h.t.lm,.i h.v,rows h.ho,ints h.bd,cG h.ac]),(83,.arr 1 ((h.bd++(h.ho.take i).flatten).map T.i))]) (fun i=>i<=h.ho.length/\∀r∈h.ho.take i,r.length=gu h.v) (fun i=>h.ho.length-i) 0 (cH [1,40] (hr:=rB (rK rfl (by rw[List.take_zero,List.flatten_nil,List.append_nil];exact .refl _) trivial))) (fun i hi R hn hr he=>?_) (hi:=⟨om,sA⟩)
 ·obtain⟨hi,hall⟩:=hi;have hfl:=QT (m:=h.ho.take i) hall;rw[qL]at hfl;have hN:gu h.v<=4:=by unfold gu;split<;>omega
  have hfb:min i h.ho.length*gu h.v<=6*4:=Nat.mul_le_mul (by have:=h1.1.2;omega) hN;have n6:=h1.1.2;rcases qH i h.ho.length with h9|h9
  ·obtain⟨row,hrow⟩:∃x,h.ho[i]? =some x:=⟨_,qB h9⟩;have hrb:=s5 row (qE hrow);by_cases hlr:row.length=gu h.v
   ·have b6:(((row.length:Nat):Int) !=((gu h.v:Nat):Int))=false:=by simp;omega
    refine aB (ah hrow (dt ((i:Int)<(h.ho.length:Int)))) ?_;refine bz.E8 qv [] rfl Tryz.call49 ?_ (by first|trivial|simp[T.bJ,T.df,rat]) rfl ?_
    ·exact ey trivial
    refine cE b6 ?_;have hb:(h.bd++(h.ho.take i).flatten).length=5+min i h.ho.length*gu h.v:=(by rw[qD,hfl,h4]);refine⟨om,?_⟩;refine hn _ (i+1) (aq [81,57] (aw h9 om) (hr:=rB (rK rfl (by rw[QS hrow,←qW,qG (l₂:=row)];exact .refl _) trivial))) ⟨om,?_⟩
    ·rw[bG hrow];intro r hr;rcases qI.1 hr with hr|hr
     ·exact hall r hr
     ·rw[List.mem_singleton.1 hr];exact hlr
   ·have b6:(((row.length:Nat):Int) !=((gu h.v:Nat):Int))=true:=by simp;omega
    refine aB (ah hrow (dt ((i:Int)<(h.ho.length:Int)))) ?_;refine bz.E8 qv [] rfl Tryz.call49 ?_ (by first|trivial|simp[T.bJ,T.df,rat]) rfl ?_
    ·exact ey trivial
    refine cE b6 ?_;refine hr _ (ab ?_);rw[decide_eq_false (fun c:cU h=>hlr (c.2.2.2.2.2.1 row (qE hrow)))]
  ·refine aa (dF ((i:Int)<(h.ho.length:Int))) ?_;refine he _ _ ?_;rw[qQ h9]at hall ⊢;have qa:=aD3 (h.bd++h.ho.flatten) (by rw[qD];rw[qQ h9]at hfl;omega);simp only[ints]at qa;refine ab ?_;refine Px qa (ab ?_) (au:=[83]);rw[show decide (cU h)=oM (h.bd++h.ho.flatten) from ?_];have:cU h↔oM (h.bd++h.ho.flatten)=true:=⟨fun c=>c.2.2.2.2.2.2,fun c=>⟨h1,h2,h3,h4,h5,hall,c⟩⟩;simp only[decide_eq_decide.2 this,Bool.decide_eq_true]
def QV(h:Hd)(hs:mh h):Pr 54 [cz h] (.b (decide (cU h))):=by
 obtain⟨s1,s2,s3,s4,s5⟩:=hs;have q1:=PT h.t s1;have q2:=QP h.v;simp only[cY]at q1;refine af1 sA (aa @cz.eq_1 ?_);by_cases h1:cR h.t
 case neg=>
  refine Px q1 (cE (decide_eq_false h1) ?_);rw[decide_eq_false (fun c:cU h=>h1 c.1)]
 refine Px q1 (cE (decide_eq_true h1) ?_);by_cases h2:0<=h.v/\h.v<=2
 case neg=>
  refine Px q2 (cE (decide_eq_false h2) ?_);rw[decide_eq_false (fun c:cU h=>h2 c.2.1)]
 by_cases h3:h.ho.length=h.t.st.length
 case neg=>
  have b3:(((h.ho.length:Nat):Int) !=((h.t.st.length:Nat):Int))=true:=by simp;omega
  refine Px q2 (cE (ah (decide_eq_true h2) b3) ?_);rw[decide_eq_false (fun c:cU h=>h3 c.2.2.1)]
 have b3:(((h.ho.length:Nat):Int) !=((h.t.st.length:Nat):Int))=false:=by simp;omega
 by_cases h4:h.bd.length=5
 case neg=>
  have b4:(((h.bd.length:Nat):Int) !=5)=true:=by simp;omega
  refine Px q2 (cE (ay (decide_eq_true h2) b3 b4) ?_);rw[decide_eq_false (fun c:cU h=>h4 c.2.2.2.1)]
 have b4:(((h.bd.length:Nat):Int) !=5)=false:=by simp;omega
 by_cases h5:h.ac.length<=100
 case neg=>
  have b5:(((h.ac.length:Nat):Int)>100)=True:=eq_true om;refine Px q2 (cE (bf (decide_eq_true h2) b3 b4 b5) ?_);rw[decide_eq_false (fun c:cU h=>h5 c.2.2.2.2.1)]
 have b5:(((h.ac.length:Nat):Int)>100)=False:=eq_false om;refine Px q2 (cE (bf (decide_eq_true h2) b3 b4 b5) ?_);have hst:∃l,E7= .arr 6 l/\l.length=48/\l.all T.cell=true/\l[h.v.toNat*6]? =some (.i (gu h.v)):=by
  rcases(show h.v=0∨h.v=1∨h.v=2 by omega)with e|e|e<;>(rw[e];exact⟨_,rfl,rfl,rfl,rfl⟩)
 obtain⟨sl,dy,QW,aE1,E9⟩:=hst;have qs:=JF;rw[dy]at qs;refine Rx (nw h.bd om) (bu @ae.eq_1 ?_);refine lN (fun i=>St.of [(1,.own 81),(3,.own 83),(4,.t (.i i))] [(81,.box [ints h.t.st,.i h.t.bn,.i h.t.sm,.i h.t.bg,.i h.t.an,.i h.t.lm,.i h.v,rows h.ho,ints h.bd,cG h.ac]),(83,.arr 1 ((h.bd++(h.ho.take i).flatten).map T.i))]) (fun i=>i<=h.ho.length/\∀r∈h.ho.take i,r.length=gu h.v) (fun i=>h.ho.length-i) 0 (cH [1,39] (hr:=rB (rK rfl (by rw[List.take_zero,List.flatten_nil,List.append_nil];exact .refl _) trivial))) (fun i hi R hn hr he=>?_) (hi:=⟨om,sA⟩)
 ·obtain⟨hi,hall⟩:=hi;have hfl:=QT (m:=h.ho.take i) hall;rw[qL]at hfl;have hN:gu h.v<=4:=by unfold gu;split<;>omega
  have hfb:min i h.ho.length*gu h.v<=6*4:=Nat.mul_le_mul (by have:=h1.1.2;omega) hN;have n6:=h1.1.2;rcases qH i h.ho.length with h9|h9
  ·obtain⟨row,hrow⟩:∃x,h.ho[i]? =some x:=⟨_,qB h9⟩;have hrb:=s5 row (qE hrow);by_cases hlr:row.length=gu h.v
   ·have b6:(((row.length:Nat):Int) !=((gu h.v:Nat):Int))=false:=by simp;omega
    refine aB (ah hrow (dt ((i:Int)<(h.ho.length:Int)))) ?_;refine Hx qs (dl (bf E9 hrow b6 @ints.eq_1) ?_);have hb:(h.bd++(h.ho.take i).flatten).length=5+min i h.ho.length*gu h.v:=(by rw[qD,hfl,h4]);refine⟨om,om,om,om,om,om,om,?_⟩;refine hn _ (i+1) (aq [81,66] (aw h9 om) (hr:=rB (rK rfl (by rw[QS hrow,←qW,qG (l₂:=row)];exact .refl _) trivial))) ⟨om,?_⟩
    ·rw[bG hrow];intro r hr;rcases qI.1 hr with hr|hr
     ·exact hall r hr
     ·rw[List.mem_singleton.1 hr];exact hlr
   ·have b6:(((row.length:Nat):Int) !=((gu h.v:Nat):Int))=true:=by simp;omega
    refine aB (ah hrow (dt ((i:Int)<(h.ho.length:Int)))) ?_;refine Hx qs (dl (ah E9 b6) ?_);refine⟨om,om,om,?_⟩;refine hr _ (ab ?_);rw[decide_eq_false (fun c:cU h=>hlr (c.2.2.2.2.2.1 row (qE hrow)))]
  ·refine aa (dF ((i:Int)<(h.ho.length:Int))) ?_;refine he _ _ ?_;rw[qQ h9]at hall ⊢;have qa:=QN (h.bd++h.ho.flatten) (by rw[qD];rw[qQ h9]at hfl;omega);simp only[ints]at qa;refine ab ?_;refine Px qa (ab ?_) (au:=[83]);rw[show decide (cU h)=oM (h.bd++h.ho.flatten) from ?_];have:cU h↔oM (h.bd++h.ho.flatten)=true:=⟨fun c=>c.2.2.2.2.2.2,fun c=>⟨h1,h2,h3,h4,h5,hall,c⟩⟩;simp only[decide_eq_decide.2 this,Bool.decide_eq_true]
end
structure oO(t:Tb)(p:gi):Prop where
 i:ny t p.b
 s:p.s<=3
 o:p.ov=false->p.sh=false/\hasB p.b p.b.tn=true
 f:p.ov=true->p.sh=false->(kP p.b).length<2
 g:p.sh=true->2<=(kP p.b).length
def JG{t:Tb}(ht:cR t):∀(k:Nat) (b:Bt) (s:Nat),k+s=4->s<=3->ny t b->uW t.st.length b->oO t (iy t k b s)
 |0,b,s,h,h3,_,_=>om
 |k+1,b,s,h,h3,i,tn=>by
  unfold iy;by_cases hh:hasB b b.tn=true
  ·rw[if_pos hh];exact⟨i,h3,fun _=>⟨rfl,hh⟩,fun e=>(by cases e),fun e=>(by cases e)⟩
  ·rw[if_neg hh];have hno:=tn.resolve_left hh;by_cases hl:(kP b).length<2
   ·rw[if_pos hl];exact⟨i,h3,fun e=>(by cases e),fun _ _=>hl,fun e=>(by cases e)⟩
   ·rw[if_neg hl];by_cases hc:s=3∨fL b<2
    ·rw[if_pos hc];exact⟨i,h3,fun e=>(by cases e),fun _ e=>(by cases e),fun _=>by show 2<=(kP b).length;omega⟩
    ·rw[if_neg hc];have hn:=Bg ht i hno (s+1);exact JG ht k _ _ om om hn.1 hn.2
def QX(ht:cR t):oO t (Ba t):=JG ht 4 _ 0 rfl om (tJ ht).1 (tJ ht).2
def QY(ht:cR t)(h:oO t p)(ho:p.ov=false)(hl:gD (fT p.b) a=true):oO t (iy t (4-p.s) (g9 p.b a) p.s):=by
 have hi:=EB h.i (h.o ho).2 hl;exact JG ht _ _ _ (by have:=h.s;omega) h.s hi.1 hi.2
def qe:LA:=[.zz,.zz,.zz,.zz,.zz,.v (.int .i64 0),.v (.int .i64 0),.v (.int .i64 0),.v (.int .i64 0),.v (.int .i64 0),.v (.bool false),.v (.bool false),.zz]
def aY(h:Hd):gi×Int:=lZ h.t (Ba h.t) h.ac
def aE2(p:gi){c c':T}(h:Le c c'):∀i (h1:i<(ft p c).length) (h2:i<(ft p c').length),Le (ft p c)[i] (ft p c')[i]
 |0,_,_=>.refl _
 |1,_,_=>.refl _
 |2,_,_=>.refl _
 |3,_,_=>.refl _
 |4,_,_=>.refl _
 |5,_,_=>.refl _
 |6,_,_=>.refl _
 |7,_,_=>.refl _
 |8,_,_=>.refl _
 |9,_,_=>.refl _
 |10,_,_=>.refl _
 |11,_,_=>.refl _
 |12,_,_=>h
 |n+13,h1,_=>absurd h1 (by simp[ft])
def BE{l:List (Int×Int)}{r:Int×Int}(h:l[i]? =some r):List.take 2 (List.drop (i*2) (gC l))=[T.i r.1,T.i r.2]:=by
 have h1:=ZM h;have h2:=ZN h;rw[List.drop_eq_getElem_cons (qK.1 h1).1,List.drop_eq_getElem_cons (qK.1 h2).1,(qK.1 h1).2,(qK.1 h2).2];rfl
def BF(t:Tb)(p:gi):lZ t p []=(p,0):=rfl
def BG{l:List (Int×Int)}(h:p.ov=true):lZ t p (a::l)=(p,5):=by rw[lZ,if_pos h]
def JH{l:List (Int×Int)}(h:p.ov=false)(hl:gD (fT p.b) a=true):lZ t p (a::l)=lZ t (iy t (4-p.s) (g9 p.b a) p.s) l:=by rw[lZ,if_neg (by rw[h];simp),if_pos hl]
def JI{l:List (Int×Int)}(h:p.ov=false)(hl:gD (fT p.b) a=false):lZ t p (a::l)=(p,2):=by rw[lZ,if_neg (by rw[h];simp),if_neg (by rw[hl];simp)]
section
attribute [-go_sem] bC bF bK bE bH bL
set_option maxHeartbeats 4000000 in
def QZ(h:Hd)(hs:mh h)(ok:cU h):FA 19 [] [.t (cz h)] fun o r=>o=[]/\∃str:LI,r=if(aY h).2=0 then .aI [.agg (ft (aY h).1 (.arr 1 (str.map T.i))),.i 0]else .aI [.agg qe,.i (aY h).2]:=by
 have ht:=ok.1;have q1:=QU h hs;rw[decide_eq_true ok]at q1;have q2:=ay7 h.t ht;refine Pf sA ?_;simp only[cz]at q1;simp only[cY]at q2;refine aa @cz.eq_1 ?_;refine Px q1 (bP ?_);refine Rx q2 (dl (ay @eh.eq_1 @ae.eq_1 @eP.eq_1) ?_);have g0:EP h.t ⟨oF h.t,0,false,false⟩:=⟨(tJ ht).1,sA,fun _=>⟨rfl,(tJ ht).2⟩⟩;have qa:=Qt h.t ht ⟨oF h.t,0,false,false⟩ g0 (.zz);rw[show ly h.t ⟨oF h.t,0,false,false⟩=Ba h.t from rfl]at qa;simp only[EO,cY,Int.natCast_zero]at qa;refine Fx qa [4] (aP ?_);refine lR (σ:=Nat×gi×LI) (fun q=>St.of [(1,.own 81),(2,.own 82),(4,.own 84),(24,.t (cG h.ac)),(25,.t (.i h.ac.length)),(26,.t (.i q.1))] [(81,.box [ints h.t.st,.i h.t.bn,.i h.t.sm,.i h.t.bg,.i h.t.an,.i h.t.lm,.i h.v,rows h.ho,ints h.bd,cG h.ac]),(82,.box qe),(84,.box (ft q.2.1 (.arr 1 (q.2.2.map T.i))))]) (fun q=>q.1<=h.ac.length/\oO h.t q.2.1/\q.2.2.length<=q.1/\aY h=lZ h.t q.2.1 (h.ac.drop q.1)) (fun q=>h.ac.length-q.1) (0,Ba h.t,[]) (aq [1,2,4] @cG.eq_1 (hr:=rB (rB (rI ?_ trivial)))) (fun q hq R hn hr he=>?_) (hi:=⟨sA,QX ht,sA,rfl⟩)
 ·exact .box rfl (aE2 _ (.iH 1))
 ·obtain⟨i,p,str⟩:=q;obtain⟨hi,pk,hst,aM⟩:=hq
  (try simp only[]at hi pk hst aM)
  (try simp only[])
  have n100:=ok.2.2.2.2.1;rcases qH i h.ac.length with h9|h9
  ·obtain⟨a,ha⟩:∃x,h.ac[i]? =some x:=⟨_,qB h9⟩;have aV:h.ac.drop i=a::h.ac.drop (i+1):=by
    rw[List.drop_eq_getElem_cons h9];rw[qB h9]at ha;rw[Option.some.inj ha]
   rw[aV]at aM;obtain⟨b,s,ov,sh⟩:=p;cases ov with
   |true=>
    rw[BG (p:=⟨b,s,true,sh⟩) rfl]at aM;refine aB (bM (dt ((i:Int)<(h.ac.length:Int))) @qe.eq_1 @ft.eq_1 @oC (BE ha)) ?_;refine hr _ (ab ?_);rw[aM];exact⟨[],rfl⟩
   |false=>
    have l:=pk.i.l;obtain⟨i0,kf,mf,_⟩:=pk.i.d_;have qp:=az2 b l ⟨i0,kf,mf⟩ a (pk.o rfl).2;simp only[aR,aC,iM]at qp;cases hl:gD (fT b) a with
    |true=>
     rw[hl,if_pos rfl]at qp;refine aB (bM (dt ((i:Int)<(h.ac.length:Int))) @qe.eq_1 @ft.eq_1 @oC (BE ha)) ?_;refine Rx qp (dl (bf @eh.eq_1 @ae.eq_1 @eP.eq_1 @bne_self_eq_false.{0}) ?_);obtain rfl:sh=false:=(pk.o rfl).1;have hi2:=EB pk.i (pk.o rfl).2 hl;have g2:EP h.t ⟨g9 b a,s,false,false⟩:=⟨hi2.1,pk.s,fun _=>⟨rfl,hi2.2⟩⟩;have JJ:=Qt h.t ht ⟨g9 b a,s,false,false⟩ g2 (.arr 1 ((str++[(s:Int)]).map T.i));rw[show ly h.t ⟨g9 b a,s,false,false⟩=iy h.t (4-s) (g9 b a) s from rfl]at JJ;simp only[EO,cY,qG,List.map_cons,List.map_nil]at JJ;refine⟨om,?_⟩;refine Fx JJ [84] (aP ?_);exact hn _ (i+1,iy h.t (4-s) (g9 b a) s,str++[(s:Int)]) (aq [81,82,84] (ah (aw h9 om) @cG.eq_1) (hr:=rB (rB (rK rfl (by simp only[qG,List.map_cons,List.map_nil];exact .refl _) trivial)))) ⟨by simp only[];omega,QY ht pk rfl hl,by simp only[qD,List.length_cons,List.length_nil];omega,aM.trans (JH (p:=⟨b,s,false,false⟩) rfl hl)⟩ (by simp only[];omega)
    |false=>
     rw[hl,if_neg sA]at qp;rw[JI (p:=⟨b,s,false,sh⟩) rfl hl]at aM;refine aB (bM (dt ((i:Int)<(h.ac.length:Int))) @qe.eq_1 @ft.eq_1 @oC (BE ha)) ?_;refine Rx qp (dl (ah @Qp.eq_1 @p_.eq_1) ?_);refine hr _ (ab ?_);rw[aM];exact⟨[],rfl⟩
  ·refine aa (ay (dF ((i:Int)<(h.ac.length:Int))) @qe.eq_1 @ft.eq_1) ?_;refine he _ _ ?_;rw[List.drop_of_length_le h9]at aM;have aM:aY h=(p,0):=aM.trans (BF _ _);refine bP ?_;rw[aM];exact⟨str,rfl⟩
end
def fv(p:gi)(c:T)(code:Int):LA:=[.sh 1 (p.b.st.map T.i),.sh 1 (p.b.bt.map T.i),.sh 1 (p.b.pd.map T.i),.sh 1 (p.b.fo.map T.b),.sh 1 (p.b.ac.map T.b),.i p.b.tn,.i p.b.un,.i p.b.ra,.i p.b.lm,.i p.s,c,.b p.ov,.b p.sh,.i code]
def qi(p:gi)(c:T)(code:Int):LA:=[.arr 1 (p.b.st.map T.i),.arr 1 (p.b.bt.map T.i),.arr 1 (p.b.pd.map T.i),.arr 1 (p.b.fo.map T.b),.arr 1 (p.b.ac.map T.b),.i p.b.tn,.i p.b.un,.i p.b.ra,.i p.b.lm,.i p.s,c,.b p.ov,.b p.sh,.i code]
def E_(l:List Bool):(eP l).bJ:=by
 induction l with
 |nil=>trivial
 |cons x l ih=>exact⟨trivial,ih⟩
def Q0(b:Bt):(eh b).bJ:=⟨dY _,dY _,dY _,E_ _,E_ _,trivial,trivial,trivial,trivial,trivial⟩
def vn:LA:=[.zz,.zz,.zz,.zz,.zz,.v (.int .i64 0),.v (.int .i64 0),.v (.int .i64 0),.v (.int .i64 0),.v (.int .i64 0),.v (.int .i64 0),.v (.bool false),.v (.bool false),.v (.int .i64 0)]
section
attribute [-go_sem] bC bF bK bE bH bL
set_option maxHeartbeats 4000000 in
def JK(h:Hd)(ok:cU h):FA 55 [] [.t (cz h)] fun o r=>o=[]/\∃u:Int,r= .agg (qi (aY h).1 (.i u) (aY h).2):=by
 have ht:=ok.1;have n100:=ok.2.2.2.2.1;have q1:=ay6 h.t ht;refine af2 sA ?_;simp only[cY]at q1;refine aa @cz.eq_1 ?_;refine Rx q1 (dl (ay @eh.eq_1 @ae.eq_1 @eP.eq_1) ?_);refine lR (σ:=Bt×Nat×Nat) (fun q=>St.of [(1,.own 81),(2,.own 82),(3,.own 83)] [(81,.box [ints h.t.st,.i h.t.bn,.i h.t.sm,.i h.t.bg,.i h.t.an,.i h.t.lm,.i h.v,rows h.ho,ints h.bd,cG h.ac]),(82,.box vn),(83,.box (qi ⟨q.1,q.2.1,false,false⟩ (.i q.2.2) 0))]) (fun q=>q.2.1<=3/\q.2.2<=h.ac.length/\ny h.t q.1/\uW h.t.st.length q.1/\aY h=lZ h.t (iy h.t (4-q.2.1) q.1 q.2.1) (h.ac.drop q.2.2)) (fun q=>(h.ac.length-q.2.2)*5+(3-q.2.1)) (oF h.t,0,0) (aq [1,2,3] @cG.eq_1) (fun q hq R hn hr he=>?_) (hi:=⟨sA,sA,(tJ ht).1,(tJ ht).2,rfl⟩)
 ·obtain⟨b,s,u⟩:=q;obtain⟨s3,hu,iv,tk,aM⟩:=hq
  (try simp only[]at s3 hu iv tk aM)
  (try simp only[])
  have l:=iv.l;have qh:=P7 b l b.tn l.tn;simp only[aR,aC]at qh;cases hh:hasB b b.tn with
  |true=>
   rw[hh]at qh;have ha:iy h.t (4-s) b s=⟨b,s,false,false⟩:=Qq (p:=⟨b,s,false,false⟩) rfl s3 rfl hh;rw[ha]at aM;refine cE (ah @qi.eq_1 @vn.eq_1) ?_;refine Px qh (bP ?_) (au:=[12001,12002,12003,12004,12005]);rcases qH u h.ac.length with h9|h9
   ·obtain⟨a,yB⟩:∃x,h.ac[u]? =some x:=⟨_,qB h9⟩;have aV:h.ac.drop u=a::h.ac.drop (u+1):=by
     rw[List.drop_eq_getElem_cons h9];rw[qB h9]at yB;rw[Option.some.inj yB]
    rw[aV]at aM;have qg:=ax9 b l a;simp only[aR,aC,iM]at qg;have hne:(((u:Nat):Int)==((h.ac.length:Nat):Int))=false:=by simp;omega
    cases hl:gD (fT b) a with
    |true=>
     rw[hl]at qg;have qp:=ay4 b l a hl;simp only[aR,aC,iM]at qp;have hi2:=EB iv hh hl;simp -implicitDefEqProofs only[hne,List.lookup_cons,List.lookup_nil,Nat.reduceBEq,List.filter_cons,List.filter_nil,Nat.reduceLT,Nat.reduceLeDiff,Nat.not_lt_zero,decide_true,decide_false,Bool.or_true,Bool.true_or,Bool.or_self,Bool.or_false,Bool.false_or,Bool.false_eq_true,if_true,if_false,reduceIte,Int.reduceBEq,Int.reduceBNe,Bool.true_eq_false,true_implies,false_implies,not_true,not_false_eq_true,and_true,true_and];refine bQ (ah @oC (BE yB)) ?_;refine Px qg (bP ?_) (au:=[12001,12002,12003,12004,12005]);refine Rx qp (dl (ay @eh.eq_1 @ae.eq_1 @eP.eq_1) ?_) (au:=[12001,12002,12003,12004,12005]) (be:=.inr (Q0 _));have hw:=aw h9 om;exact hn _ (g9 b a,s,u+1) (aq [81,82,83] @cG.eq_1 (hr:=rB (rB (rK rfl (by rw[hw];exact .refl _) trivial)))) ⟨s3,by simp only[];omega,hi2.1,hi2.2,aM.trans (JH (p:=⟨b,s,false,false⟩) rfl hl)⟩ (by simp only[];omega)
    |false=>
     rw[hl]at qg;rw[JI (p:=⟨b,s,false,false⟩) rfl hl]at aM;simp -implicitDefEqProofs only[hne,List.lookup_cons,List.lookup_nil,Nat.reduceBEq,List.filter_cons,List.filter_nil,Nat.reduceLT,Nat.reduceLeDiff,Nat.not_lt_zero,decide_true,decide_false,Bool.or_true,Bool.true_or,Bool.or_self,Bool.or_false,Bool.false_or,Bool.false_eq_true,if_true,if_false,reduceIte,Int.reduceBEq,Int.reduceBNe,Bool.true_eq_false,true_implies,false_implies,not_true,not_false_eq_true,and_true,true_and];refine bQ (ah @oC (BE yB)) ?_;refine Px qg (bP ?_) (au:=[12001,12002,12003,12004,12005]);refine hr _ (ab ?_);rw[aM];exact⟨u,rfl⟩
   ·have hne:(((u:Nat):Int)==((h.ac.length:Nat):Int))=true:=by simp;omega
    rw[List.drop_of_length_le h9]at aM;have aM:aY h=(⟨b,s,false,false⟩,0):=aM.trans (BF _ _);simp -implicitDefEqProofs only[hne,List.lookup_cons,List.lookup_nil,Nat.reduceBEq,List.filter_cons,List.filter_nil,Nat.reduceLT,Nat.reduceLeDiff,Nat.not_lt_zero,decide_true,decide_false,Bool.or_true,Bool.true_or,Bool.or_self,Bool.or_false,Bool.false_or,Bool.false_eq_true,if_true,if_false,reduceIte,Int.reduceBEq,Int.reduceBNe,Bool.true_eq_false,true_implies,false_implies,not_true,not_false_eq_true,and_true,true_and];refine hr _ (ab ?_);rw[aM];exact⟨u,rfl⟩
  |false=>
   rw[hh]at qh;have hno:∀j,j<h.t.st.length->hasB b j=false:=by
    rcases tk with g|g
    ·rw[hh]at g;cases g
    ·exact g
   refine cE (ah @qi.eq_1 @vn.eq_1) ?_;refine Px qh (bP ?_) (au:=[12001,12002,12003,12004,12005]);have q2:=Qa b l;have q3:=I8 b l;simp only[aR,aC,ae]at q2;simp only[aR,aC]at q3;by_cases db:(kP b).length<2
   ·have bO:((((fM b.fo).length:Nat):Int)<2)=True:=eq_true (by rw[yT];omega);have ha:iy h.t (4-s) b s=⟨b,s,true,false⟩:=Qr (p:=⟨b,s,false,false⟩) rfl s3 hh db;rw[ha]at aM;refine Rx q2 (dl bO ?_) (au:=[12001,12002,12003,12004,12005]) (be:=.inr (dY _));refine⟨fun g=>hr _ ?_,fun g=>hr _ ?_⟩
    ·refine ab ?_;obtain⟨a,l',aV⟩:∃a l',h.ac.drop u=a::l':=⟨_,_,List.drop_eq_getElem_cons om⟩;rw[aV,BG (p:=⟨b,s,true,false⟩) rfl]at aM;rw[aM];exact⟨u,rfl⟩
    ·refine ab ?_;rw[List.drop_of_length_le om]at aM;have aM:aY h=(⟨b,s,true,false⟩,0):=aM.trans (BF _ _);rw[aM];exact⟨u,rfl⟩
   ·have bO:((((fM b.fo).length:Nat):Int)<2)=False:=eq_false (by rw[yT];omega);refine Rx q2 (dl bO ?_) (au:=[12001,12002,12003,12004,12005]) (be:=.inr (dY _));refine⟨fun hs=>?_,fun hs=>?_⟩
    ·have bY:s≠3:=fun h=>by subst h;simp at hs
     by_cases hc:fL b<2
     ·have hcd:(((fL b:Nat):Int)<2)=True:=eq_true om;have ha:iy h.t (4-s) b s=⟨b,s,true,true⟩:=ER (p:=⟨b,s,false,false⟩) rfl s3 hh db (.inr hc);rw[ha]at aM;refine Px q3 (cE hcd ?_) (au:=[12001,12002,12003,12004,12005]);refine⟨fun g=>hr _ ?_,fun g=>hr _ ?_⟩
      ·refine ab ?_;obtain⟨a,l',aV⟩:∃a l',h.ac.drop u=a::l':=⟨_,_,List.drop_eq_getElem_cons om⟩;rw[aV,BG (p:=⟨b,s,true,true⟩) rfl]at aM;rw[aM];exact⟨u,rfl⟩
      ·refine ab ?_;rw[List.drop_of_length_le om]at aM;have aM:aY h=(⟨b,s,true,true⟩,0):=aM.trans (BF _ _);rw[aM];exact⟨u,rfl⟩
     ·have hcd:(((fL b:Nat):Int)<2)=False:=eq_false om;have ha:iy h.t (4-s) b s=iy h.t (4-(s+1)) (lX h.t b (s+1)) (s+1):=Qs (p:=⟨b,s,false,false⟩) rfl s3 hh db (fun h=>h.elim bY hc);rw[ha]at aM;have qn:=ay9 h.t ht b iv hno (s+1);simp only[cY,aR,aC]at qn;have i7:=Bg ht iv hno (s+1);have hsw:IntKind.i64.wrap ((s:Int)+1)=((s+1:Nat):Int):=by rw[wrap64 om om];rfl
      refine Px q3 (cE (ah hcd hsw) ?_) (au:=[12001,12002,12003,12004,12005]);refine Rx qn (dl (ay @eh.eq_1 @ae.eq_1 @eP.eq_1) ?_) (au:=[12001,12002,12003,12004,12005]) (be:=.inr (Q0 _));exact hn _ (lX h.t b (s+1),s+1,u) (aq [81,82,83] @cG.eq_1) ⟨by simp only[];omega,hu,i7.1,i7.2,aM⟩ (by simp only[];omega)
    ·have bY:s=3:=by
      have h3:(s:Int)=3:=sU hs;omega
     have ha:iy h.t (4-s) b s=⟨b,s,true,true⟩:=ER (p:=⟨b,s,false,false⟩) rfl s3 hh db (.inl bY);rw[ha]at aM;refine⟨fun g=>hr _ ?_,fun g=>hr _ ?_⟩
     ·refine ab ?_;obtain⟨a,l',aV⟩:∃a l',h.ac.drop u=a::l':=⟨_,_,List.drop_eq_getElem_cons om⟩;rw[aV,BG (p:=⟨b,s,true,true⟩) rfl]at aM;rw[aM];exact⟨u,rfl⟩
     ·refine ab ?_;rw[List.drop_of_length_le om]at aM;have aM:aY h=(⟨b,s,true,true⟩,0):=aM.trans (BF _ _);rw[aM];exact⟨u,rfl⟩
end
def aE3{t:Int}(h:w[i]? =some x):iw t (w.take (i+1))=iw t (w.take i)++[60*x/t]:=by rw[bG h];simp[iw]
def aE4{t:Int}(h:w[i]? =some x):sq t (w.take (i+1))=sq t (w.take i)++[60*x%t]:=by rw[bG h];simp[sq]
def vo(w:LI):Prop:=1<=w.length/\w.length<=4/\∀x∈w,0<=x/\x<=1000000000
def Q1(h:vo w):nx w:=⟨by have:=h.2.1;omega,fun x hx=>by have:=h.2.2 x hx;omega⟩
def aE5(h:vo w)(ht:0<w.sum):nx (iw w.sum w):=by
 refine⟨by have:=h.2.1;simp[iw];omega,fun y hy=>?_⟩;obtain⟨x,hx,rfl⟩:=qN.1 hy;have hb:=h.2.2 x hx;have h1:=Int.ediv_nonneg (a:=60*x) (b:=w.sum) om om;have h2:60*x/w.sum<=60*x:=Int.ediv_le_self _ om;omega
def sr.small{t:Int}{m:Nat}{p:LI}(h:sr w t m p r)(ht:0<t)(hi:i<w.length)(hw:0<=w.getD i 0/\w.getD i 0<=1000000000):0<=p.getD i 0/\p.getD i 0<=100000000000:=by
 have key: -t<t*p.getD i 0/\t*p.getD i 0<60*w.getD i 0+t:=by
  rcases h.each i hi with h1|h1<;>omega
 refine⟨?_,?_⟩
 ·have h1:t*(-1)<t*p.getD i 0:=om;have:=Int.lt_of_mul_lt_mul_left h1 om;omega
 ·have h1:=Int.mul_le_mul_of_nonneg_right (show(1:Int)<=t by omega) (show 0<=60*w.getD i 0 by omega);have h2:t*p.getD i 0<t*(60*w.getD i 0+1):=by rw[Int.mul_add,Int.mul_one];omega
  have:=Int.lt_of_mul_lt_mul_left h2 om;omega
def Q2(w:LI)(hw:vo w)(ht:0<w.sum):FR 135 [.t (ints w)] (ae (uR w)):=by
 have hs:=Q1 hw;have ll:w.sum<=1000000000000000:=by have:=A_ hs w.length;rw[rT]at this;omega
 obtain⟨hw1,dr,lP⟩:=hw;refine Pj sA (ab ?_);refine Px (uT w hs) (ab ?_);refine⟨fun h=>absurd h (by simp;omega),fun _=>?_⟩;refine lN (fun i=>St.of [(0,.t (ints w)),(3,.t (.i w.sum)),(6,.own 95),(7,.own 96),(8,.t (.i i))] [(95,.arr 1 ((iw w.sum (w.take i)).map T.i)),(96,.arr 1 ((sq w.sum (w.take i)).map T.i))]) (fun i=>i<=w.length) (fun i=>w.length-i) 0 (cH [28,29]) (fun i hi R hn hr he=>?_)
 ·refine ab ?_;refine⟨fun h=>⟨om,om,om,fun x hx=>?_⟩,fun h=>he _ _ ?_⟩
  ·have mA:=lP x (qE hx);have hq1:=Int.ediv_nonneg (a:=60*x) (b:=w.sum) om om;have s9:60*x/w.sum<=60*x:=Int.ediv_le_self _ om;have fE:=Int.emod_nonneg (60*x) (show w.sum≠0 by omega);have cP:=Int.emod_lt_of_pos (60*x) ht;have e1:IntKind.i64.wrap ((IntKind.i64.wrap (60*x)).tdiv w.sum)=60*x/w.sum:=by
    rw[wrap64 (n:=60*x) om om,rV om,wrap64 om om]
   have e2:(IntKind.i64.wrap (60*x)).tmod w.sum=60*x%w.sum:=by
    rw[wrap64 (n:=60*x) om om,rP om]
   simp only[e1];refine⟨om,by rw[iw,qJ,qL];omega,om,om,om,fun x' hx'=>?_⟩;rw[hx]at hx';cases hx';simp only[e2];refine⟨om,by rw[sq,qJ,qL];omega,?_⟩;refine hn _ (i+1) (aq [45,55] (aw (by omega:i<w.length) om) (hr:=?_))
   ·refine rI ?_ (rI ?_ trivial)
    ·rw[aE3 hx,qG];exact .refl _
    ·rw[aE4 hx,qG];exact .refl _
  ·refine ab ?_;rw[show i=w.length by omega,rT];have hst:=PF (fun x hx=>(lP x hx).1) ht;have xI:=aE5 ⟨hw1,dr,lP⟩ ht;refine Px (uT (iw w.sum w) xI) (ab ?_) (au:=[95]);have bV:=hst.sum;have e60:IntKind.i64.wrap (60-(iw w.sum w).sum)=(((60-(iw w.sum w).sum).toNat:Nat):Int):=by
    have:=A_ xI (iw w.sum w).length;rw[rT]at this;rw[wrap64 om om];omega
   rw[e60];refine dX.ig (σ:=Nat×LI×LI) (fun s=>St.of [(6,.own 95),(7,.own 96),(9,.t (.i s.1))] [(95,.arr 1 (s.2.1.map T.i)),(96,.arr 1 (s.2.2.map T.i))]) (fun s=>sr w w.sum s.1 s.2.1 s.2.2/\p6 s.1 s.2.1 s.2.2=uR w/\s.1<=60) (fun s=>s.1) ((60-(iw w.sum w).sum).toNat,iw w.sum w,sq w.sum w) (aj.o _ _ [some 95,some 96] ?_ ?_) ⟨hst,rfl,by
    have:=IS (w:=iw w.sum w) fun y hy=>by
     obtain⟨x,hx,rfl⟩:=qN.1 hy;exact Int.ediv_nonneg (by have:=lP x hx;omega) om
    simp only[];omega⟩ fun s hI R hn hr he=>?_
   ·exact ij trivial
   ·exact rB (rB trivial)
   ·obtain⟨m,p,r⟩:=s;obtain⟨hH,hgo,aE6⟩:=hI
    (try simp only[]at hH hgo aE6)
    refine ab ?_;have hlp:=hH.lp;have hlr:=hH.lr;refine⟨fun h=>?_,fun h=>he _ _ ?_⟩
    ·obtain⟨m',rfl⟩:∃m',m=m'+1:=⟨m-1,om⟩;obtain⟨fk,cD⟩:=hH.best ht;have hnext:=hH.step ht;refine lN (fun k=>St.of [(6,.own 95),(7,.own 96),(9,.t (.i (m'+1:Nat))),(10,.t (.i (cd r k:Nat))),(11,.t (.i k))] [(95,.arr 1 (p.map T.i)),(96,.arr 1 (r.map T.i))]) (fun k=>1<=k/\k<=r.length) (fun k=>r.length-k) 1 (aq [95,96] @IQ) (fun k hk R2 hn2 cP cL=>?_) (hi:=⟨om,om⟩)
     ·refine ab ?_;refine⟨fun h=>?_,fun h=>cL _ _ ?_⟩
      ·have dW:k<r.length:=om;obtain⟨x,hx⟩:∃x,r[k]? =some x:=⟨_,qB dW⟩;have hml:=tG r k om om;obtain⟨y,hy⟩:∃y,r[cd r k]? =some y:=⟨_,qB hml⟩;have Fa:cd r (k+1)=if y<x then k else cd r k:=by
        rw[cd,qA,qA,hx,hy];rfl
       refine⟨om,om,om,fun x' hx'=>⟨om,om,om,fun y' hy'=>?_⟩⟩;rw[hx]at hx';cases hx';rw[hy]at hy';cases hy';refine⟨fun hc=>?_,fun hc=>?_⟩
       ·rw[if_pos om]at Fa;exact hn2 _ (k+1) (aq [95,96] (ah (aw dW om) Fa)) ⟨om,om⟩
       ·rw[if_neg om]at Fa;exact hn2 _ (k+1) (aq [95,96] (ah (aw dW om) Fa)) ⟨om,om⟩
      ·refine ab ?_;have hk':k=r.length:=om;subst hk';have bV:=hH.small ht fk (lP _ (by rw[qA,qB fk];exact rJ _));refine⟨om,om,om,fun a ha=>?_⟩;have hg:p.getD (cd r r.length) 0=a:=by rw[qA,ha];rfl
       rw[hg]at bV hnext;rw[wrap64 (n:=a+1) om om];refine⟨om,om,om,om,om,om,?_⟩;refine hn _ (m',p.set (cd r r.length) (a+1),r.set (cd r r.length) (-1)) (aj.o _ _ [some 95,some 96] ?_ ?_) ⟨hnext,by rw[←hgo,p6,hg],by simp only[];omega⟩ (by simp only[];omega)
       ·have e:IntKind.i64.wrap (((m'+1:Nat):Int)-1)=(m':Int):=by rw[wrap64 om om];omega
        exact bZ e trivial
       ·refine rI ?_ (rI ?_ trivial)
        ·rw[List.map_set];exact .refl _
        ·rw[List.map_set];exact .refl _
    ·refine ab ?_;have hm0:m=0:=om;subst hm0;rw[←hgo,p6];rfl
def aE7(h:vo w):vo (lq w):=⟨by have:=h.1;simpa[lq]using this,by have:=h.2.1;simpa[lq]using this,fun x hx=>by simp[lq]at hx;omega⟩
def aE8(h:w[i]? =some x):lq (w.take (i+1))=lq (w.take i)++[1]:=by rw[bG h];simp[lq]
def Q3(w:LI)(hw:vo w):FR 135 [.t (ints w)] (ae (p7 w)):=by
 have hs:=Q1 hw;have hs0:=IS (w:=w) fun x hx=>(hw.2.2 x hx).1;by_cases h0:w.sum=0
 ·rw[p7,if_pos h0];have ho:=Q2 (lq w) (aE7 hw) (by rw[PH];have:=hw.1;omega);obtain⟨hw1,dr,lP⟩:=hw;refine Pj sA (ab ?_);refine Px (uT w hs) (ab ?_);refine⟨fun _=>?_,fun h=>absurd h (by simp[h0])⟩;refine lN (fun i=>St.of [(0,.t (ints w)),(4,.own 95),(5,.t (.i i))] [(95,.arr 1 ((lq (w.take i)).map T.i))]) (fun i=>i<=w.length) (fun i=>w.length-i) 0 (cH [16]) (fun i hi R hn hr he=>?_)
  ·refine ab ?_;refine⟨fun h=>?_,fun h=>he _ _ ?_⟩
   ·obtain⟨x,hx⟩:∃x,w[i]? =some x:=⟨_,qB om⟩;refine⟨by rw[lq,qJ,qL];omega,hn _ (i+1) (aq [25] (aw (by omega:i<w.length) om) (hr:=?_))⟩
    ·refine rI ?_ trivial;rw[aE8 hx,qG];exact .refl _
   ·refine ab ?_;rw[show i=w.length by omega,rT];exact Rx ho (aP trivial) (au:=[95]) (be:=.inr (dY _))
 ·rw[p7,if_neg h0];exact Q2 w hw om
def BH(r:LI):∀k,1<=k->k<=r.length->fK (r.take k)=r.getD (cd r k) 0
 |0,h,_=>om
 |1,_,h=>by
  rw[IQ];cases r with
  |nil=>simp at h
  |cons a r=>simp[fK]
 |k+2,_,h=>by
  have ih:=BH r (k+1) om om;obtain⟨x,hx⟩:∃x,r[k+1]? =some x:=⟨_,qB om⟩;have hg:r.getD (k+1) 0=x:=by rw[qA,hx];rfl
  rw[bG hx,Pu (List.ne_nil_of_length_pos (by rw[qL];omega)),ih];show _=r.getD (if r.getD (cd r (k+1)) 0<r.getD (k+1) 0 then k+1 else cd r (k+1)) 0;rw[hg];split
  ·rw[hg];omega
  ·omega
def aE9(r:LI)(hr:r.length<=1000000)(h0:0<r.length):Pr 173 [ints r,.i (fK r)] (.i (cd r r.length:Nat)):=by
 refine Pk sA (ab ?_);refine dX.ig (σ:=Nat) (fun i=>St.of [(0,.t (ints r)),(1,.t (.i (fK r))),(7,.t (.i r.length)),(8,.t (.i i))] []) (fun i=>i<=cd r r.length) (fun i=>r.length-i) 0 tF om fun i hi R hn hr' he=>?_
 ·refine ab ?_;have hv:=BH r r.length om om;rw[rT]at hv;have hml:=tG r r.length (qR _) h0;refine⟨fun h=>⟨om,om,om,fun x hx=>⟨fun hc=>hr' _ ?_,fun hc=>?_⟩⟩,fun h=>om⟩
  ·have hg:r.getD i 0=x:=by rw[qA,hx];rfl
   have e:i=cd r r.length:=by
    by_cases hlt:i<cd r r.length
    ·have:=Py r r.length i hlt;have hc:fK r=x:=sU hc;omega
    ·omega
   refine ab ?_;rw[←e]
  ·have hg:r.getD i 0=x:=by rw[qA,hx];rfl
   have hne:i≠cd r r.length:=by
    intro e;rw[←e,hg]at hv;simp[hv]at hc
   exact hn _ (i+1) (eU (aw (by omega:i<r.length) om)) om om
def ik(r:LI)(m:Nat):Nat->Int
 |0=>0
 |i+1=>if i=m then ik r m i else max (ik r m i) (r.getD i 0)
def c6(r:LI):Nat×Int:=if ik r (cd r r.length) r.length=fK r then(0,0)else(cd r r.length,fK r-ik r (cd r r.length) r.length)
def c7(r:LI):LI:=r.set (c6 r).1 (r.getD (c6 r).1 0-(c6 r).2)
def jC(r:LI):Prop:=(2<=r.length/\r.length<=6)/\∀i,i<r.length->0<=r.getD i 0/\r.getD i 0<=100000
def Fb{r:LI}(h:jC r)(m:Nat):∀i,i<=r.length->0<=ik r m i/\ik r m i<=100000
 |0,_=>by simp[ik]
 |i+1,hi=>by
  have h1:=Fb h m i om;have h2:=h.2 i om;unfold ik;split<;>omega
section
attribute [-go_sem] bC bF bK bE bH bL
def Q4(r:LI)(h:jC r):Pr 110 [ints r] (.aI [.i (c6 r).1,.i (c6 r).2]):=by
 obtain⟨⟨n2,n6⟩,hb⟩:=id h;have q1:=Ey r (List.ne_nil_of_length_pos om) om;have q2:=aE9 r om om;have hM:=tI (l:=r) om;obtain⟨im,him,JL⟩:=hM;have Bo:=hb im him;rw[JL]at Bo;refine aj8 sA (ab ?_);refine Px q1 (ab ?_);refine Px q2 (ab ?_);refine lN (fun i=>St.of [(4,.t (.i (fK r))),(5,.t (.i (cd r r.length:Nat))),(6,.t (.i (ik r (cd r r.length) i))),(14,.t (ints r)),(15,.t (.i r.length)),(16,.t (.i i))] []) (fun i=>i<=r.length) (fun i=>r.length-i) 0 (eU (ah @ik.eq_1 @ik.eq_2)) (fun i hi R hn hr he=>?_)
 ·rcases qH i r.length with h9|h9
  ·have hx:=dD h9;by_cases hm:i=cd r r.length
   ·have hne:(((i:Nat):Int) !=((cd r r.length:Nat):Int))=false:=by simp;omega
    refine aB (ay hx hne (dt ((i:Int)<(r.length:Int)))) ?_;refine hn _ (i+1) (aj.o _ [] [] ?_ trivial);simp -implicitDefEqProofs only[fc,Nat.reduceBEq,Nat.reduceEqDiff, ↓reduceIte,aw h9 (by omega),ik,if_pos hm]
   ·have hne:(((i:Nat):Int) !=((cd r r.length:Nat):Int))=true:=by simp;omega
    refine aB (ay hx hne (dt ((i:Int)<(r.length:Int)))) ?_;refine hn _ (i+1) (aj.o _ [] [] ?_ trivial);simp -implicitDefEqProofs only[fc,Nat.reduceBEq,Nat.reduceEqDiff, ↓reduceIte,aw h9 (by omega),ik,if_neg hm]
  ·obtain rfl:i=r.length:=om;have dk:=Fb h (cd r r.length) r.length om;refine aa (dF ((r.length:Int)<(r.length:Int))) ?_;refine he _ _ ?_;by_cases hs:ik r (cd r r.length) r.length=fK r
   ·refine aa (jA hs) ?_;rw[c6,if_pos hs];rfl
   ·refine aa (eA hs) ?_;rw[c6,if_neg hs,wrap64 om om]
def Q5(r:LI)(h:jC r):Pr 130 [ints r] (.aI [.i (c6 r).1,.i (c6 r).2]):=by
 obtain⟨⟨n2,n6⟩,hb⟩:=id h;have hM:=tI (l:=r) om;obtain⟨im,him,JL⟩:=hM;have Bo:=hb im him;rw[JL]at Bo;have tO:=BH r r.length om om;rw[rT]at tO;have hml:=tG r r.length (qR _) om;have dz:=dD hml;rw[←tO]at dz;refine al5 sA (ab ?_);refine lN (fun i=>St.of [(0,.t (ints r)),(4,.t (.i (cd r (i+1):Nat))),(5,.t (.i ((i+1:Nat):Int)))] []) (fun i=>i+1<=r.length) (fun i=>r.length-i) 0 (eU (ah (show cd r (0+1)=0 from IQ r) (show((0+1:Nat):Int)=1 from rfl))) (fun i hi R hn hr he=>?_)
 ·rcases qH (i+1) r.length with h9|h9
  ·have hx:=dD h9;have bq:=tG r (i+1) om om;have hy:=dD (l:=r) (i:=cd r (i+1)) om;have hw:IntKind.i64.wrap (((i+1:Nat):Int)+1)=((i+1+1:Nat):Int):=by rw[wrap64 om om];omega
   by_cases hm:r.getD (cd r (i+1)) 0<r.getD (i+1) 0
   ·have hd:=eq_true hm;refine bQ (bf hx hy hd (dt (((i+1:Nat):Int)<(r.length:Int)))) ?_;exact hn _ (i+1) (eU (ah hw (show cd r (i+1+1)=i+1 from if_pos hm)))
   ·have hd:=eq_false hm;refine bQ (bf hx hy hd (dt (((i+1:Nat):Int)<(r.length:Int)))) ?_;exact hn _ (i+1) (eU (ah hw (show cd r (i+1+1)=cd r (i+1) from if_neg hm)))
  ·refine aa (dF (((i+1:Nat):Int)<(r.length:Int))) ?_;refine he _ _ ?_;rw[show i+1=r.length by omega];refine ab ?_;refine lN (fun i=>St.of [(0,.t (ints r)),(4,.t (.i (cd r r.length:Nat))),(6,.t (.i (ik r (cd r r.length) i))),(7,.t (.i i))] []) (fun i=>i<=r.length) (fun i=>r.length-i) 0 (eU (ah @ik.eq_1 @ik.eq_2)) (fun i hi R hn hr he=>?_)
   ·rcases qH i r.length with h9|h9
    ·have hx:=dD h9;by_cases hm:i=cd r r.length
     ·have hne:(((i:Nat):Int) !=((cd r r.length:Nat):Int))=false:=by simp;omega
      refine aa (ah hne (dt ((i:Int)<(r.length:Int)))) ?_;refine hn _ (i+1) (aj.o _ [] [] ?_ trivial);simp -implicitDefEqProofs only[fc,Nat.reduceBEq,Nat.reduceEqDiff, ↓reduceIte,aw h9 (by omega),ik,if_pos hm]
     ·have hne:(((i:Nat):Int) !=((cd r r.length:Nat):Int))=true:=by simp;omega
      refine aB (ay hx hne (dt ((i:Int)<(r.length:Int)))) ?_;refine hn _ (i+1) (aj.o _ [] [] ?_ trivial);simp -implicitDefEqProofs only[fc,Nat.reduceBEq,Nat.reduceEqDiff, ↓reduceIte,aw h9 (by omega),ik,if_neg hm]
    ·obtain rfl:i=r.length:=om;have dk:=Fb h (cd r r.length) r.length om;refine aa (dF ((r.length:Int)<(r.length:Int))) ?_;refine he _ _ ?_;by_cases hs:ik r (cd r r.length) r.length=fK r
     ·refine aB (ah dz (jA hs.symm)) ?_;rw[c6,if_pos hs];rfl
     ·refine aB (ah dz (eA (Ne.symm hs))) ?_;rw[c6,if_neg hs,wrap64 om om]
def BI(h:jC r):(c6 r).1<r.length:=by
 unfold c6;have:=tG r r.length (qR _) (by have:=h.1;omega);split
 ·have:=h.1;simp only[];omega
 ·exact this
def Fc(h:jC r):0<=r.getD (c6 r).1 0-(c6 r).2/\r.getD (c6 r).1 0-(c6 r).2<=100000:=by
 obtain⟨⟨n2,n6⟩,hb⟩:=id h;have tO:=BH r r.length om om;rw[rT]at tO;have hml:=tG r r.length (qR _) om;have dk:=Fb h (cd r r.length) r.length om;have h0:=hb 0 om;unfold c6;split
 ·simp only[];omega
 ·simp only[←tO];omega
def aF0(r:LI)(h:jC r):FA 170 [] [.t (ints r)] fun o s=>o=[]/\s=ae (c7 r):=by
 obtain⟨⟨n2,n6⟩,hb⟩:=id h;have JM:=BI h;have sD:=Fc h;have hx:=dD JM;have q:=Q4 r h;have hw:IntKind.i64.wrap (r.getD (c6 r).1 0-(c6 r).2)=r.getD (c6 r).1 0-(c6 r).2:=wrap64 om om;refine ao9 sA (ab ?_);refine Rx (uQ r om) (bu @ae.eq_1 ?_);refine Px q (aB (ah hx hw) ?_);simp only[c7,List.map_set]
def aF1(r:LI)(h:jC r):FA 129 [] [.t (ints r)] fun o s=>o=[]/\s=ae (c7 r):=by
 obtain⟨⟨n2,n6⟩,hb⟩:=id h;have JM:=BI h;have sD:=Fc h;have hx:=dD JM;have q:=Q5 r h;have hw:IntKind.i64.wrap (r.getD (c6 r).1 0-(c6 r).2)=r.getD (c6 r).1 0-(c6 r).2:=wrap64 om om;refine al4 sA (ab ?_);refine Rx (nw r om) (bu @ae.eq_1 ?_);refine Px q (aB (ah hx hw) ?_);simp only[c7,List.map_set]
end
def jD(l:LI):LI:=l.mergeSort fun x y=>decide (x<=y)
def BJ(l:LI):(jD l).Perm l:=List.mergeSort_perm _ _
def BK(l:LI):(jD l).Pairwise (· <= ·):=by
 have h:=List.pairwise_mergeSort (le:=fun x y:Int=>decide (x<=y)) (fun a b c h1 h2=>by simp only[decide_eq_true_eq]at*;omega) (fun a b=>by simp only[Bool.or_eq_true,decide_eq_true_eq];omega) l;exact List.Pairwise.imp (fun h=>sU h) h
def JN(l:LI):(jD l).length=l.length:=(BJ l).length_eq
def nE(l:LI):Nat->LI
 |0=>[]
 |j+1=>nE l j++if j=0∨l.getD j 0≠l.getD (j-1) 0 then [l.getD j 0]else []
def JO(h:l.Pairwise (· <= ·))(hij:i<j)(hj:j<l.length):l.getD i 0<=l.getD j 0:=by
 rw[qA,qA,qB hj,qB (show i<l.length by omega)];exact List.pairwise_iff_getElem.1 h i j om hj hij
def Fe{l:LI}(h:l.Pairwise (· <= ·)):∀m,m<=l.length->(nE l m).Pairwise (· < ·)/\(∀d,d∈nE l m↔d∈l.take m)/\(nE l m).length<=m
 |0,_=>by simp[nE]
 |m+1,hm=>by
  obtain⟨h1,h2,h3⟩:=Fe h m om;obtain⟨x,hx⟩:∃x,l[m]? =some x:=⟨_,qB om⟩;have hg:l.getD m 0=x:=by rw[qA,hx];rfl
  rw[nE,hg,bG hx];split
  ·rename_i hc;refine⟨?_,fun d=>by rw[qI,qI,h2],by rw[qD];simp;omega⟩;rw[List.pairwise_append];refine⟨h1,sA,fun y hy z hz=>?_⟩;have hz:z=x:=sU hz;subst hz;obtain⟨i,hi,rfl⟩:=rE.1 ((h2 y).1 hy);rw[qL]at hi;have hi:i<m:=om;rw[List.getElem_take];have e:l.getD i 0=l[i]:=by rw[qA,qB (show i<l.length by omega)];rfl
   have hne:l.getD m 0≠l.getD (m-1) 0:=by
    rcases hc with hc|hc
    ·omega
    ·rw[hg];exact hc
   have h5:=JO h (show m-1<m by omega) om;have h6:l.getD i 0<=l.getD (m-1) 0:=by
    rcases qH i (m-1)with h7|h7
    ·exact JO h h7 om
    ·rw[show i=m-1 by omega];exact Int.le_refl _
   rw[←e,←hg];omega
  ·rename_i hc;rw[List.append_nil];refine⟨h1,fun d=>?_,om⟩;rw[h2,qI];refine⟨.inl,fun hd=>?_⟩;rcases hd with hd|hd
   ·exact hd
   ·have hd:d=x:=sU hd;have hm0:m≠0:=fun e=>hc (.inl e);have he:x=l.getD (m-1) 0:=by
     apply rG;intro hne;exact hc (.inr hne)
    rw[hd,he,qA,qB (show m-1<l.length by omega)];exact List.mem_take_iff_getElem.2 ⟨m-1,om,rfl⟩
def jY(l:LI):LI:=nE l l.length
def aF2(h:l.Pairwise (· <= ·)){d:Int}:d∈jY l↔d∈l:=by
 have:=(Fe h l.length (qR _)).2.1 d;rwa[rT]at this
def aF3(h:l.Pairwise (· <= ·)):(jY l).Pairwise (· < ·):=(Fe h l.length (qR _)).1
def aF4(h:l.Pairwise (· <= ·)):(jY l).length<=l.length:=(Fe h l.length (qR _)).2.2
def aF5{m:LI}(hl:l.Pairwise (· < ·))(hm:m.Pairwise (· < ·))(h:∀x,x∈l↔x∈m):l=m:=
 List.Perm.eq_of_pairwise (le:=(· < ·)) (fun a b _ _ h1 h2=>om) hl hm ((List.perm_ext_iff_of_nodup (hl.imp fun h=>om) (hm.imp fun h=>om)).2 h)
open Go.Proofs Go.Shelf Go.Sort Go.Lib
def aF6:Go.Shelf.Ren:=⟨fun|5=>171|7=>205|8=>206|10=>226|11=>227|12=>228|13=>229|14=>230|15=>231|16=>232|17=>233|18=>234|19=>235|20=>236|30=>242|31=>243|32=>244|33=>245|34=>246|35=>247|40=>249|n=>n,fun|0=>0|3=>3|4=>4|5=>5|9=>9|22=>24|23=>24|25=>2|32=>190|35=>227|36=>228|41=>233|44=>236|46=>187|53=>242|57=>246|63=>249|64=>250|n=>n,fun n=>n⟩
def aF7:SlLaysM.n5 Tryz.prog aF6:={
 mixed:=by kernel_rfl
 f5:=⟨Tryz.f171.name,dc,Tryz.func171.trans (congrArg some (by kernel_rfl))⟩
 f7:=⟨Tryz.f205.name,dc,Tryz.func205.trans (congrArg some (by kernel_rfl))⟩
 f8:=Tryz.func206.trans (congrArg some (by kernel_rfl))
 f10:=⟨Tryz.f226.name,dc,Tryz.func226.trans (congrArg some (by kernel_rfl))⟩
 f11:=⟨Tryz.f227.name,dc,Tryz.func227.trans (congrArg some (by kernel_rfl))⟩
 f12:=⟨Tryz.f228.name,dc,Tryz.func228.trans (congrArg some (by kernel_rfl))⟩
 f13:=⟨Tryz.f229.name,dc,Tryz.func229.trans (congrArg some (by kernel_rfl))⟩
 f14:=⟨Tryz.f230.name,dc,Tryz.func230.trans (congrArg some (by kernel_rfl))⟩
 f15:=⟨Tryz.f231.name,dc,Tryz.func231.trans (congrArg some (by kernel_rfl))⟩
 f16:=⟨Tryz.f232.name,dc,Tryz.func232.trans (congrArg some (by kernel_rfl))⟩
 f17:=⟨Tryz.f233.name,dc,Tryz.func233.trans (congrArg some (by kernel_rfl))⟩
 f18:=⟨Tryz.f234.name,dc,Tryz.func234.trans (congrArg some (by kernel_rfl))⟩
 f19:=Tryz.func235.trans (congrArg some (by kernel_rfl))
 f20:=Tryz.func236.trans (congrArg some (by kernel_rfl))
 f30:=⟨Tryz.f242.name,dc,Tryz.func242.trans (congrArg some (by kernel_rfl))⟩
 f31:=Tryz.func243.trans (congrArg some (by kernel_rfl))
 f32:=Tryz.func244.trans (congrArg some (by kernel_rfl))
 f33:=⟨Tryz.f245.name,dc,Tryz.func245.trans (congrArg some (by kernel_rfl))⟩
 f34:=⟨Tryz.f246.name,dc,Tryz.func246.trans (congrArg some (by kernel_rfl))⟩
 f35:=⟨Tryz.f247.name,dc,Tryz.func247.trans (congrArg some (by kernel_rfl))⟩
 f40:=⟨Tryz.f249.name,dc,Tryz.func249.trans (congrArg some (by kernel_rfl))⟩
 t0:=Tryz.underlying0
 a0:=Tryz.isAgg0
 z0:=Tryz.sizeOf0
 v0:=Tryz.zeroValue0
 t3:=Tryz.underlying3
 a3:=Tryz.isAgg3
 z3:=Tryz.sizeOf3
 v3:=Tryz.zeroValue3
 t4:=Tryz.underlying4
 a4:=Tryz.isAgg4
 z4:=Tryz.sizeOf4
 v4:=Tryz.zeroValue4
 t5:=Tryz.underlying5
 a5:=Tryz.isAgg5
 z5:=Tryz.sizeOf5
 v5:=Tryz.zeroValue5
 t9:=Tryz.underlying9
 a9:=Tryz.isAgg9
 z9:=Tryz.sizeOf9
 v9:=Tryz.zeroValue9
 t22:=Tryz.underlying24
 a22:=Tryz.isAgg24
 z22:=Tryz.sizeOf24
 v22:=Tryz.zeroValue24
 t23:=Tryz.underlying24
 a23:=Tryz.isAgg24
 z23:=Tryz.sizeOf24
 v23:=Tryz.zeroValue24
 t25:=Tryz.underlying2
 a25:=Tryz.isAgg2
 z25:=Tryz.sizeOf2
 v25:=Tryz.zeroValue2
 t32:=Tryz.underlying190
 a32:=Tryz.isAgg190
 z32:=Tryz.sizeOf190
 v32:=Tryz.zeroValue190
 t35:=Tryz.underlying227
 a35:=Tryz.isAgg227
 z35:=Tryz.sizeOf227
 v35:=Tryz.zeroValue227
 t36:=Tryz.underlying228
 a36:=Tryz.isAgg228
 z36:=Tryz.sizeOf228
 v36:=Tryz.zeroValue228
 t41:=Tryz.underlying233
 a41:=Tryz.isAgg233
 z41:=Tryz.sizeOf233
 v41:=Tryz.zeroValue233
 t44:=Tryz.underlying236
 a44:=Tryz.isAgg236
 z44:=Tryz.sizeOf236
 v44:=Tryz.zeroValue236
 t46:=Tryz.underlying187
 a46:=Tryz.isAgg187
 z46:=Tryz.sizeOf187
 v46:=Tryz.zeroValue187
 t53:=Tryz.underlying242
 a53:=Tryz.isAgg242
 z53:=Tryz.sizeOf242
 v53:=Tryz.zeroValue242
 t57:=Tryz.underlying246
 a57:=Tryz.isAgg246
 z57:=Tryz.sizeOf246
 v57:=Tryz.zeroValue246
 t63:=Tryz.underlying249
 a63:=Tryz.isAgg249
 z63:=Tryz.sizeOf249
 v63:=Tryz.zeroValue249
 t64:=Tryz.underlying250
 a64:=Tryz.isAgg250
 z64:=Tryz.sizeOf250
 v64:=Tryz.zeroValue250}
def aF8:Go.Shelf.Ren:=⟨fun|43=>172|n=>n,fun|0=>0|3=>3|4=>4|22=>24|23=>2|n=>n,fun n=>n⟩
def aF9:SlLaysE.n43 Tryz.prog aF8:={
 mixed:=by kernel_rfl
 f43:=⟨Tryz.f172.name,dc,Tryz.func172.trans (congrArg some (by kernel_rfl))⟩
 t0:=Tryz.underlying0
 a0:=Tryz.isAgg0
 z0:=Tryz.sizeOf0
 v0:=Tryz.zeroValue0
 t3:=Tryz.underlying3
 a3:=Tryz.isAgg3
 z3:=Tryz.sizeOf3
 v3:=Tryz.zeroValue3
 t4:=Tryz.underlying4
 a4:=Tryz.isAgg4
 z4:=Tryz.sizeOf4
 v4:=Tryz.zeroValue4
 t22:=Tryz.underlying24
 a22:=Tryz.isAgg24
 z22:=Tryz.sizeOf24
 v22:=Tryz.zeroValue24
 a23:=Tryz.isAgg2
 z23:=Tryz.sizeOf2}
def aG0{f:Nat->Value->Value}(h:k<cs.size):(cs.mapIdx f).getD k undef=f k (cs.getD k undef):=by
 simp[h]
def aG1(l:LI):(jY l).length<=l.length:=by
 have key:∀m,(nE l m).length<=m:=by
  intro m;induction m with
  |zero=>simp[nE]
  |succ m ih=>rw[nE,qD];split<;>simp<;>omega
 exact key _
def Q6(l:LI):∀m,m<=l.length->compactUpTo l.toArray m=nE l m
 |0,_=>rfl
 |m+1,hm=>by
  have e:∀i,i<l.length->l.toArray[i]! =l.getD i 0:=fun i hi=>by
   rw[getElem!_pos l.toArray i (sU hi),qA,qB hi];simp
  rw[compactUpTo_succ,Q6 l m om,nE,e m om];congr 1;unfold keeps;rcases Nat.eq_zero_or_pos m with h0|h0
  ·subst h0;simp
  ·rw[e m om,e (m-1) om];simp only[decide_eq_true_eq]
structure Ff(w:World)(b len cap:Nat)(cs:Array Value)(e:TypeId)(l:LI)(ar:LB):Prop where
 hb:w.heap[b]? =some (.cells cs e (0,0))
 hl:l.length=len
 hc:len<=cap
 hm:cap<=maxLen
 hs:cs.size=cap
 hz:ar.flatten=[]
 hr:∀k (h:k<l.length),cs.getD k undef= .int .i64 l[k]
def Q7{w:World}{O:NP}{x:Value}{f:LN}(h0:l≠ [])(ho:Ow w O (ae l) x f):∃b len cap cs e ar,x= .slice (some ⟨b,0,none⟩) len cap/\f=[b]/\Ff w b len cap cs e l ar:=by
 unfold ae at ho;generalize hL:l.map T.i=L at ho;have nF:L.length=l.length:=by rw[←hL,qJ]
 have hlp:=List.length_pos_iff.2 h0;cases ho with
 |rd h=>cases h
 |jn=>simp at nF;omega
 |arr _ _ b len cap cs e ar hb hl hc dz hsz hf hr=>
  rw[nF]at hl hf;simp only[Nat.mul_one]at hl hsz;have hcell:∀k (h:k<l.length),cs.getD k undef= .int .i64 l[k]/\ar.getD k []=[]:=fun k h=>by
   have:=hr k om;have e:L[k]'om=T.i l[k]:=by
    have:L[k]'om=(l.map T.i)[k]'(sU h):=by congr 1;exact hL.symm
    rw[this,rQ]
   rw[e]at this;generalize cs.getD k undef=y at this;generalize ar.getD k []=g at this;cases this with
   |rd hh=>cases hh;exact⟨rfl,rfl⟩
  have Q8:ar.flatten=[]:=by
   rw[List.flatten_eq_nil_iff];intro g hg;obtain⟨k,hk,rfl⟩:=rE.1 hg;have:=(hcell k om).2;rwa[qA,qB hk]at this
  exact⟨b,len,cap,cs,e,ar,rfl,by rw[Q8],⟨hb,hl,hc,dz,hsz,Q8,fun k h=>(hcell k h).1⟩⟩
def Ff.holds{w:World}{b len cap:Nat}{ar:LB}(h:Ff w b len cap cs e l ar):Holds (Value.int .i64) w b 0 l.toArray:=fun k hk=>by
 have hk:k<l.length:=sU hk;have h1:=h.hl;have h2:=h.hc;have h3:=h.hs;refine⟨?_,?_⟩
 ·rw[Nat.zero_add,pg h.hb om,h.hr k hk,getElem!_pos _ k (sU hk)];simp
 ·simp[World.frozen?,h.hb]
def Q9{w:World}{b len cap:Nat}{ar:LB}(h:Ff w b len cap cs e l ar)(d:LI)(hd:d.length=len)(k:Nat)(hk:k<=len){w':World}{O:NP}(hw:w'.heap[b]? =some (.cells (putCells (Value.int .i64) 0 d.toArray cs) e (0,0))):Ow w' O (ae (d.take k)) (.slice (some ⟨b,0,none⟩) k cap) [b]:=by
 have h2:=h.hc;have h3:=h.hs;have:=Ow.arr (w:=w') (O:=O) 1 ((d.take k).map T.i) b k cap (putCells (Value.int .i64) 0 d.toArray cs) e (List.replicate k []) hw (by rw[qJ,qL];omega) om h.hm (by simp[putCells,h3]) (by rw[qJ,qL];simp;omega) (fun j hj=>?_)
 ·have e1:b::(List.replicate k ([]:LN)).flatten=[b]:=sA;rw[e1]at this;exact this
 ·rw[qJ,qL]at hj;have e2:(List.replicate k ([]:LN)).getD j []=[]:=by
   rw[qA,rM];split<;>rfl
  rw[e2,rQ,List.getElem_take,putCells,aG0 om,if_pos (by simp;omega)];have e3:d.toArray[j-0]! =d[j]:=by
   rw[Nat.sub_zero,getElem!_pos d.toArray j (by simp;omega)];simp
  rw[e3];exact .rd (.v _)
def Q_(w:World)(q b:Nat)(d cs:Array Value)(dd:Array Int)(hb:w.heap[b]? =some (.cells cs e (0,0)))(b':Nat):(putRow (Value.int .i64) (Go.Sort.ahead w q) b 0 dd).heap[b']? =if b=b' then some (.cells (putCells (Value.int .i64) 0 dd cs) e (0,0))else w.heap[b']? :=by
 show(w.heap.modify b (onCells (putCells (Value.int .i64) 0 dd)))[b']? =_;rw[Array.getElem?_modify];by_cases ip:b=b'
 ·subst ip;simp only[if_true,hb,Option.map_some,onCells]
 ·simp only[ip,if_false]
def aG2(l:LI)(h0:l≠ []):FA 172 [ae l] [.own 1000000000] fun o r=>o=[.any]/\r=ae (jY l):=by
 intro X w vals hs fp hm hlen hi;obtain⟨x,hx,ho,_⟩:=hm.root 0 _ rfl;simp only[Nat.add_zero]at hx ho;have h1:=(hi 0 sA).gK;rw[hx,Option.some.injEq]at h1;have hv:vals.toArray=#[x]:=by
  match vals,hlen with
  |[a],_=>
   simp only[List.getD_cons_zero]at h1;subst h1;rfl
 rw[hv];generalize bw:fp 1000000000=f at ho;obtain⟨b,len,cap,cs,e,ar,rfl,rfl,hR⟩:=Q7 h0 ho;have h2:=hR.hl;have h3:=hR.hc;have h4:=hR.hm;unfold maxLen at h4;have b_:=AnyE.slices_Compact aF9 (Value.int .i64) (fun _=>rfl) (EqlAt.intD _ _ _) (NeqAt.intD _ _ _) 0 Tryz.zeroValue2 b 0 cap l.toArray w hR.holds (by simp;omega);have hsz:l.toArray.size=len:=by simp[h2]
 have br:=aG1 l;have b_:=b_ om;rw[hsz,←h2,Q6 l l.length (qR _),show nE l l.length=jY l from rfl,h2]at b_
 change Calls _ _ _ _ (fun e w'=>e= .returned (.slice (some ⟨b,0,none⟩) (jY l).length cap)/\∃q,w'=putRow (Value.int .i64) (Go.Sort.ahead w q) b 0 (jY l++List.replicate (len-(jY l).length) 0).toArray)at b_
 refine Calls.mono b_ ?_;rintro ee w' ⟨rfl,q,rfl⟩;have hdl:(jY l++List.replicate (len-(jY l).length) (0:Int)).length=len:=by simp;omega
 have hh:=Q_ w q b #[] cs (jY l++List.replicate (len-(jY l).length) (0:Int)).toArray hR.hb;have how:=Q9 hR (jY l++List.replicate (len-(jY l).length) 0) hdl (jY l).length om (O:=uA X (fun _=>[]) [b]) (by rw[hh,if_pos rfl]);rw[List.take_left]at how;refine⟨_,ae (jY l),[.any],[b],fun _=>[],rfl,⟨rfl,rfl⟩,rfl,?_⟩;refine⟨fun k t hk=>?_,fun _ _=>rfl,how,fun r r' b' h=>by simp at h,fun _=>sA,sA,fun r b' h=>by simp at h,fun r b' h=>by simp at h,fun b' h=>.inl ⟨1000000000,?_⟩,rfl,rfl,rfl,?_,fun b' hb' hn=>?_⟩
 ·have:k=0/\t= .any:=by
   cases k with
   |zero=>simpa using hk.symm
   |succ k=>simp at hk
  obtain⟨rfl,rfl⟩:=this;exact⟨_,hx,.rd (.any _),.inr rfl⟩
 ·rw[bw];simp at h;rw[h];simp
 ·show _<=(w.heap.modify b _).size;simp
 ·rw[hh,if_neg];rintro rfl;exact hn 1000000000 (by rw[bw];simp)
def aG3(l:LI)(h0:l≠ [])(hl:l.length<=1000000):FA 171 [ae l] [.own 1000000000] fun o r=>o=[ae (jD l)]/\r= .aI []:=by
 intro X w vals hs fp hm hlen hi;obtain⟨x,hx,ho,_⟩:=hm.root 0 _ rfl;simp only[Nat.add_zero]at hx ho;have h1:=(hi 0 sA).gK;rw[hx,Option.some.injEq]at h1;have hv:vals.toArray=#[x]:=by
  match vals,hlen with
  |[a],_=>
   simp only[List.getD_cons_zero]at h1;subst h1;rfl
 rw[hv];generalize bw:fp 1000000000=f at ho;obtain⟨b,len,cap,cs,e,ar,rfl,rfl,hR⟩:=Q7 h0 ho;have h2:=hR.hl;have h3:=hR.hc;have h4:=hR.hm;unfold maxLen at h4;have kM:=(qF.1 hR.hb).1;have b_:=AnyM.slices_Sort_int aF7 b 0 cap l w hR.holds kM om;rw[h2]at b_
 change Calls _ _ _ _ (fun e w'=>e= .returned (.tuple #[])/\∃q os,w'=grow (putRow (Value.int .i64) (Go.Sort.ahead w q) b 0 (jD l).toArray) os)at b_
 refine Calls.mono b_ ?_;rintro ee w' ⟨rfl,q,os,rfl⟩;have dy:=JN l;have hh:=Q_ w q b #[] cs (jD l).toArray hR.hb;have hps:(putRow (Value.int .i64) (Go.Sort.ahead w q) b 0 (jD l).toArray).heap.size=w.heap.size:=by
  show(w.heap.modify b _).size=_;simp
 have hg:∀b',b'<w.heap.size->(grow (putRow (Value.int .i64) (Go.Sort.ahead w q) b 0 (jD l).toArray) os).heap[b']? =(putRow (Value.int .i64) (Go.Sort.ahead w q) b 0 (jD l).toArray).heap[b']? :=fun b' hb'=>by
  show((putRow (Value.int .i64) (Go.Sort.ahead w q) b 0 (jD l).toArray).heap++os)[b']? =_;rw[Array.getElem?_append_left (by rw[hps];exact hb')]
 have how:=Q9 (w':=grow (putRow (Value.int .i64) (Go.Sort.ahead w q) b 0 (jD l).toArray) os) hR (jD l) (by rw[dy];exact h2) len (qR _) (O:=uA X (fun r=>if r=1000000000 then [b]else []) []) (by rw[hg b kM,hh,if_pos rfl]);rw[qQ om]at how;refine⟨_,.aI [],[ae (jD l)],[],fun r=>if r=1000000000 then [b]else [],rfl,⟨rfl,rfl⟩,rfl,?_⟩;refine⟨fun k t hk=>?_,fun r hr=>?_,.rd (.aI [] [] rfl fun i h=>absurd h sA),fun r r' b' h h'=>?_,fun r=>?_,sA,fun r b' h=>sA,fun r b' h=>?_,fun b' h=>by simp at h,rfl,rfl,rfl,?_,fun b' hb' hn=>?_⟩
 ·have:k=0/\t=ae (jD l):=by
   cases k with
   |zero=>simpa using hk.symm
   |succ k=>simp at hk
  obtain⟨rfl,rfl⟩:=this;exact⟨_,hx,sU how,.inl rfl⟩
 ·rw[if_neg];rintro rfl;simp at hr
 ·split at h
  ·rename_i e1;split at h'
   ·rename_i e2;rw[e1,e2]
   ·simp at h'
  ·simp at h
 ·split<;>simp
 ·split at h
  ·left;exact⟨1000000000,by rw[bw];exact h⟩
  ·simp at h
 ·show _<=((putRow (Value.int .i64) (Go.Sort.ahead w q) b 0 (jD l).toArray).heap++os).size;rw[Array.size_append,hps];omega
 ·rw[hg b' hb',hh,if_neg];rintro rfl;exact hn 1000000000 (by rw[bw];simp)
def Ra{out:LI}(hs:out.Pairwise (· <= ·))(hle:∀k,k<j->out.getD k 0<=x)(h:j=out.length∨x<out.getD j 0):(out.take j++x::out.drop j).Pairwise (· <= ·):=by
 have hdl:∀y∈out.drop j,x<=y:=by
  intro y hy;obtain⟨k,hk,rfl⟩:=rE.1 hy;rw[List.length_drop]at hk;have hj:x<out.getD j 0:=h.resolve_left om;rw[List.getElem_drop];have e:out.getD (j+k) 0=out[j+k]:=by rw[qA,qB (show j+k<out.length by omega)];rfl
  rcases Nat.eq_zero_or_pos k with rfl|hp
  ·rw[←e];simp only[Nat.add_zero];omega
  ·have:=JO hs (show j<j+k by omega) om;omega
 have pX:∀y∈out.take j,y<=x:=by
  intro y hy;obtain⟨k,hk,rfl⟩:=rE.1 hy;rw[qL]at hk;rw[List.getElem_take];have e:out.getD k 0=out[k]:=by rw[qA,qB (show k<out.length by omega)];rfl
  rw[←e];exact hle k om
 rw[List.pairwise_append];refine⟨hs.sublist (List.take_sublist _ _),List.pairwise_cons.2 ⟨hdl,hs.sublist (List.drop_sublist _ _)⟩,fun a ha b hb=>?_⟩;rcases qO.1 hb with rfl|hb
 ·exact pX a ha
 ·exact Int.le_trans (pX a ha) (hdl b hb)
def Rb{out:LI}(hp:out.Perm (l.take i))(hx:l[i]? =some x):(out.take j++x::out.drop j).Perm (l.take (i+1)):=by
 rw[bG hx];refine List.perm_middle.trans ?_;rw[List.take_append_drop];exact(List.Perm.cons x hp).trans (List.perm_append_singleton x _).symm
section
attribute [-go_sem] bC bF bK bE bH bL
def aG4(l:LI)(hl:l.length<=1000):FR 220 [.t (ints l)] (ae (jD l)):=by
 refine as9 sA (ab ?_);refine lR (σ:=Nat×LI) (fun q=>St.of [(0,.t (ints l)),(3,.own 83),(4,.t (.i q.1))] [(83,.arr 1 (q.2.map T.i))]) (fun q=>q.1<=l.length/\q.2.Pairwise (· <= ·)/\q.2.Perm (l.take q.1)) (fun q=>l.length-q.1) (0,[]) (cH [6]) (fun q hq R hn hr he=>?_) (hi:=⟨sA,sA,sA⟩)
 ·obtain⟨i,out⟩:=q;obtain⟨hi,hs,hp⟩:=hq
  (try simp only[]at hi hs hp)
  (try simp only[])
  have hlen:out.length=i:=by rw[hp.length_eq,qL];omega
  rcases qH i l.length with h9|h9
  ·obtain⟨x,hx⟩:∃x,l[i]? =some x:=⟨_,qB h9⟩;refine aa (dt ((i:Int)<(l.length:Int))) ?_;refine lN (fun j=>St.of [(0,.t (ints l)),(3,.t (ints out)),(4,.t (.i i)),(5,.t (.i j))] []) (fun j=>j<=out.length/\∀k,k<j->out.getD k 0<=x) (fun j=>out.length-j) 0 (wT (wS 83) (eU (ay @zA @zB @kU))) (fun j hj R2 hn2 cP cL=>?_) (hi:=⟨om,om⟩)
   ·obtain⟨hj,hle⟩:=hj;have Rc:(List.take (j-0) (List.map T.i out)).all T.cell=true:=by rw[←List.map_take];exact IG _
    have Re:(List.take (out.length-j) (List.drop j (List.map T.i out))).all T.cell=true:=by rw[←List.map_drop,←List.map_take];exact IG _
    have l1:(List.take (j-0) (List.map T.i out)).length=j:=by rw[qL,qJ];omega
    have l2:(List.take (out.length-j) (List.drop j (List.map T.i out))).length=out.length-j:=by rw[qL,List.length_drop,qJ];omega
    have ap:(List.take (j-0) (List.map T.i out)++[T.i x])++List.take (out.length-j) (List.drop j (List.map T.i out))=(out.take j++x::out.drop j).map T.i:=by
     rw[Nat.sub_zero,qQ (l:=List.drop j (List.map T.i out)) (by rw[List.length_drop,qJ];omega),qG,List.map_cons,List.map_take,List.map_drop,qW];rfl
    rcases qH j out.length with h8|h8
    ·have hy:=dD h8;by_cases hc:out.getD j 0<=x
     ·have hcd:(out.getD j 0<=x)=True:=eq_true hc;refine bQ (bf hx hy hcd (dt ((j:Int)<(out.length:Int)))) ?_;refine hn2 _ (j+1) (eU (aw h8 om)) ⟨om,fun k hk=>?_⟩
      ·rcases qH k j with h7|h7
       ·exact hle k h7
       ·rw[show k=j by omega];exact hc
     ·have hcd:(out.getD j 0<=x)=False:=eq_false hc;refine bQ (bf hx hy hcd (dt ((j:Int)<(out.length:Int)))) ?_;refine cL _ _ ?_;simp -implicitDefEqProofs only[c8,go_sem,hx,List.lookup_cons,List.lookup_nil,Nat.reduceBEq,List.filter_cons,List.filter_nil,Nat.reduceLT,Nat.reduceLeDiff,Nat.not_lt_zero,decide_true,decide_false,Bool.or_true,Bool.true_or,Bool.or_self,Bool.or_false,Bool.false_or,Bool.false_eq_true,if_true,if_false,reduceIte,Int.reduceBEq,Int.reduceBNe,Bool.true_eq_false,true_implies,false_implies,not_true,not_false_eq_true,and_true,true_and];refine⟨om,om,Rc,om,om,om,om,om,om,om,Re,by rw[qD,List.length_singleton];omega,?_⟩;refine hn _ (i+1,out.take j++x::out.drop j) (aj.of _ _ [some 44] (by simp) (by simp) ?_ ⟨⟨_,rfl,by rw[ap];exact .refl _⟩,rfl,trivial⟩) ⟨by simp only[];omega,Ra hs hle (.inr (by omega)),(Rb hp hx)⟩ (by simp only[];omega);exact bZ (aw h9 om) trivial
    ·refine cE (dF ((j:Int)<(out.length:Int))) ?_;refine cL _ _ ?_;simp -implicitDefEqProofs only[c8,go_sem,hx,List.lookup_cons,List.lookup_nil,Nat.reduceBEq,List.filter_cons,List.filter_nil,Nat.reduceLT,Nat.reduceLeDiff,Nat.not_lt_zero,decide_true,decide_false,Bool.or_true,Bool.true_or,Bool.or_self,Bool.or_false,Bool.false_or,Bool.false_eq_true,if_true,if_false,reduceIte,Int.reduceBEq,Int.reduceBNe,Bool.true_eq_false,true_implies,false_implies,not_true,not_false_eq_true,and_true,true_and];refine⟨om,om,Rc,om,om,om,om,om,om,om,Re,by rw[qD,List.length_singleton];omega,?_⟩;refine hn _ (i+1,out.take j++x::out.drop j) (aj.of _ _ [some 44] (by simp) (by simp) ?_ ⟨⟨_,rfl,by rw[ap];exact .refl _⟩,rfl,trivial⟩) ⟨by simp only[];omega,Ra hs hle (.inl (by omega)),(Rb hp hx)⟩ (by simp only[];omega);exact bZ (aw h9 om) trivial
  ·refine aa (dF ((i:Int)<(l.length:Int))) ?_;refine he _ _ ?_;rw[qQ h9]at hp;have:=List.Perm.eq_of_pairwise (le:=(· <= ·)) (fun a b _ _ h1 h2=>Int.le_antisymm h1 h2) hs (BK l) (hp.trans (BJ l).symm);subst this;refine ab ?_;rfl
end
structure jZ(r:LI)(fo:List Bool):Prop where
 p:jC r
 f:fo.length=r.length
 l:∃i,i<r.length/\fo.getD i true=false
 g:∀i,i<r.length->fo.getD i true=false->0<r.getD i 0
def lB(r:LI)(fo:List Bool):LI:=(fM fo).map fun x=>r.getD x.toNat 0
def eC(r:LI)(fo:List Bool):LI:=jY (jD (lB r fo))
def tP:x∈fM fo↔∃i,i<fo.length/\fo.getD i true=false/\(i:Int)=x:=by
 unfold fM sw;simp only[qN,qV,List.mem_range,Bool.not_eq_true'];constructor
 ·rintro⟨i,⟨h1,h2⟩,h3⟩;exact⟨i,h1,h2,h3⟩
 ·rintro⟨i,h1,h2,h3⟩;exact⟨i,⟨h1,h2⟩,h3⟩
def Rf:x∈lB r fo↔∃i,i<fo.length/\fo.getD i true=false/\r.getD i 0=x:=by
 unfold lB;rw[qN];constructor
 ·rintro⟨y,hy,rfl⟩;obtain⟨i,h1,h2,rfl⟩:=tP.1 hy;exact⟨i,h1,h2,sA⟩
 ·rintro⟨i,h1,h2,rfl⟩;exact⟨i,tP.2 ⟨i,h1,h2,rfl⟩,sA⟩
def za:x∈eC r fo↔∃i,i<fo.length/\fo.getD i true=false/\r.getD i 0=x:=by
 rw[eC,aF2 (BK _),(BJ _).mem_iff,Rf]
def Rg(r:LI)(fo:List Bool):(eC r fo).Pairwise (· < ·):=aF3 (BK _)
def aG5{D:LI}(hn:D.Nodup)(hm:∀x,x∈D↔∃i,i<fo.length/\fo.getD i true=false/\r.getD i 0=x):jD D=eC r fo:=by
 refine aF5 ?_ (Rg r fo) fun x=>by rw[za,(BJ D).mem_iff,hm]
 have h1:=BK D;have h2:=(BJ D).nodup_iff.2 hn;exact(h1.and h2).imp fun h=>om
section
attribute [-go_sem] bC bF bK bE bH bL
def aG6(r:LI)(fo:List Bool)(h:jZ r fo):FA 187 [] [.t (ints r),.t (aC fo)] fun o s=>o=[]/\s=ae (eC r fo):=by
 obtain⟨⟨n2,n6⟩,hb⟩:=id h.p;have hf:=h.f;refine aq0 sA (aa @aC.eq_1 ?_);refine lR (σ:=Nat×LI) (fun q=>St.of [(0,.t (ints r)),(1,.t (aC fo)),(5,.own 85),(6,.t (.i q.1))] [(85,.arr 1 (q.2.map T.i))]) (fun q=>q.1<=r.length/\q.2.Nodup/\q.2.length<=q.1/\∀x,x∈q.2↔∃i,i<q.1/\fo.getD i true=false/\r.getD i 0=x) (fun q=>r.length-q.1) (0,[]) (aq [7] @aC.eq_1) (fun q hq R hn hr he=>?_) (hi:=⟨sA,sA,sA,sA⟩)
 ·obtain⟨i,D⟩:=q;obtain⟨hi,aK,hlen,hm⟩:=hq
  (try simp only[]at hi aK hlen hm)
  (try simp only[])
  rcases qH i r.length with h9|h9
  ·have hx:=dD h9;have bj:=sv (l:=fo) (i:=i) om;have step:∀D':LI,(∀x,x∈D'↔x∈D∨(fo.getD i true=false/\r.getD i 0=x))->∀x,x∈D'↔∃k,k<i+1/\fo.getD k true=false/\r.getD k 0=x:=by
    intro D' hD x;rw[hD,hm];constructor
    ·rintro(⟨k,h1,h2,h3⟩|⟨h2,h3⟩)
     ·exact⟨k,om,h2,h3⟩
     ·exact⟨i,om,h2,h3⟩
    ·rintro⟨k,h1,h2,h3⟩;rcases qH k i with h4|h4
     ·exact .inl ⟨k,h4,h2,h3⟩
     ·obtain rfl:k=i:=om;exact .inr ⟨h2,h3⟩
   cases hc:fo.getD i true with
   |true=>
    rw[hc]at bj;refine bQ (ay bj @aC.eq_1 (dt ((i:Int)<(r.length:Int)))) ?_;exact hn _ (i+1,D) (aq [85] (ah @aC.eq_1 (aw h9 om))) ⟨by simp only[];omega,aK,by simp only[];omega,step D fun x=>by rw[hc];simp⟩ (by simp only[];omega)
   |false=>
    rw[hc]at bj;have hp:=h.g i h9 hc;have dm:=eq_true hp;have qh:=y_ D (r.getD i 0) om;by_cases hD:r.getD i 0∈D
    ·rw[decide_eq_true hD]at qh;refine bQ (bM hx bj @aC.eq_1 dm (dt ((i:Int)<(r.length:Int)))) ?_;refine Px qh (bP ?_) (au:=[85]);exact hn _ (i+1,D) (aq [85] (ah @aC.eq_1 (aw h9 om))) ⟨by simp only[];omega,aK,by simp only[];omega,step D fun x=>⟨.inl,fun h=>h.elim id fun h=>by rw[←h.2];exact hD⟩⟩ (by simp only[];omega)
    ·rw[decide_eq_false hD]at qh;refine bQ (bM hx bj @aC.eq_1 dm (dt ((i:Int)<(r.length:Int)))) ?_;refine Px qh (bQ hx ?_) (au:=[85]);exact hn _ (i+1,D++[r.getD i 0]) (aq [41] (ah @aC.eq_1 (aw h9 om)) (hr:=rK rfl (by rw[qG (l₂:=[r.getD i 0])];exact .refl _) trivial)) ⟨by simp only[];omega,by rw[rC];exact⟨aK,sA,fun a ha b hb=>by rw[List.mem_singleton.1 hb];exact fun e=>hD (e▸ha)⟩,by simp only[qD,List.length_singleton];omega,step _ fun x=>by rw[qI,List.mem_singleton];exact⟨fun h=>h.imp id fun e=>⟨hc,e.symm⟩,fun h=>h.imp id fun e=>e.2.symm⟩⟩ (by simp only[];omega)
  ·obtain rfl:i=r.length:=om;refine aa (dF ((r.length:Int)<(r.length:Int))) ?_;refine he _ _ ?_;have hq:=aG4 D om;rw[aG5 aK (by rw[hf];exact hm)]at hq;refine ab ?_;exact Rx hq (aP trivial) (au:=[85]) (be:=.inr (dY _))
end
def d8(L:LI)(k:Nat):Int:=if k=0 then 0 else L.getD (k-1) 0
def fw(r L:LI)(k:Nat):Nat->Int
 |0=>0
 |i+1=>fw r L k i+min (r.getD i 0) (L.getD k 0)-min (r.getD i 0) (d8 L k)+(if k+1=L.length then r.getD i 0-min (r.getD i 0) (L.getD k 0)else 0)
def oP(r:LI)(fo:List Bool)(v:Int)(i:Nat):LI:=((List.range i).filter fun j=>!(fo.getD j true)&&decide (v<=r.getD j 0)).map fun(j:Nat)=>(j:Int)
def kZ(r:LI)(fo:List Bool)(L:LI):List (Int×LI):=(List.range L.length).map fun k=>(fw r L k r.length,oP r fo (L.getD k 0) r.length)
def gv(ps:List (Int×LI)):LA:=ps.flatMap fun p=>[.i p.1,ae p.2]
def BL(ps:List (Int×LI)):T:=.arr 2 (gv ps)
def JP(r:LI)(fo:List Bool)(v:Int)(i:Nat):oP r fo v (i+1)=oP r fo v i++(if fo.getD i true=false/\v<=r.getD i 0 then [(i:Int)]else []):=by
 unfold oP;rw[List.range_succ,List.filter_append,qG];congr 1;by_cases h:fo.getD i true=false/\v<=r.getD i 0
 ·rw[if_pos h,List.filter_cons_of_pos (by simp only[h.1,Bool.not_false,Bool.true_and,decide_eq_true_eq];exact h.2)];rfl
 ·rw[if_neg h,List.filter_cons_of_neg (by simp only[qM,Bool.not_eq_true',decide_eq_true_eq];exact h)];rfl
def JQ(r:LI)(fo:List Bool)(v:Int)(i:Nat):(oP r fo v i).length<=i:=by
 unfold oP;rw[qJ];have:=List.length_filter_le (fun j=>!(fo.getD j true)&&decide (v<=r.getD j 0)) (List.range i);rwa[List.length_range]at this
def Rh{r L:LI}(h:∀i,i<r.length->0<=r.getD i 0/\r.getD i 0<=100000)(hL:∀k,0<=L.getD k 0)(k:Nat):∀i,i<=r.length-> -(100000*(i:Int))<=fw r L k i/\fw r L k i<=200000*(i:Int)
 |0,_=>by simp[fw]
 |i+1,hi=>by
  have h1:=Rh h hL k i om;have h2:=h i om;have h3:=hL k;have h4:0<=d8 L k:=by unfold d8;split;exact Int.le_refl _;exact hL _
  unfold fw;split<;>omega
def Ri(h:k<L.length):(kZ r fo L)[k]? =some (fw r L k r.length,oP r fo (L.getD k 0) r.length):=by
 rw[kZ,qU,List.getElem?_range h];rfl
def Fg(r:LI)(fo:List Bool)(L:LI):(kZ r fo L).length=L.length:=by simp[kZ]
def Rj(a b:List (Int×LI)):gv (a++b)=gv a++gv b:=by simp[gv]
def BM:∀ps:List (Int×LI),(gv ps).length=ps.length*2
 |[]=>rfl
 |p::ps=>by rw[show gv (p::ps)=T.i p.1::ae p.2::gv ps from rfl,List.length_cons,List.length_cons,BM ps,List.length_cons];omega
def Fh(h:jZ r fo)(k:Nat):0<=(eC r fo).getD k 0:=by
 rcases qH k (eC r fo).length with h9|h9
 ·obtain⟨i,h1,h2,h3⟩:=za.1 (gO h9);rw[←h3];exact(h.p.2 i (by rw[←h.f];exact h1)).1
 ·rw[qA,qP h9];exact Int.le_refl _
def Fi(h:jZ r fo):(eC r fo).length<=6/\0<(eC r fo).length:=by
 constructor
 ·have h1:=aF4 (BK (lB r fo));have h2:=JN (lB r fo);have h3:(lB r fo).length<=fo.length:=by rw[lB,qJ];exact EH _ _
  have:=h.f;have:=h.p.1;unfold eC;omega
 ·obtain⟨i,h1,h2⟩:=h.l;exact List.length_pos_of_mem (za.2 ⟨i,by rw[h.f];exact h1,h2,rfl⟩)
section
attribute [-go_sem] bC bF bK bE bH bL
def aG7(r:LI)(fo:List Bool)(h:jZ r fo):FA 128 [] [.t (ints r),.t (aC fo)] fun o s=>o=[]/\s=BL (kZ r fo (eC r fo)):=by
 obtain⟨⟨n2,n6⟩,hb⟩:=id h.p;have hf:=h.f;have q1:=aG6 r fo h;obtain⟨Fj,hl0⟩:=Fi h;have sF:=Fh h;have vp:∀k,(eC r fo).getD k 0<=100000:=by
  intro k;rcases qH k (eC r fo).length with h9|h9
  ·obtain⟨i,h1,h2,h3⟩:=za.1 (gO h9);rw[←h3];exact(hb i (by rw[←hf];exact h1)).2
  ·rw[qA,qP h9];simp
 have qj:=Rh (L:=eC r fo) hb sF;generalize eC r fo=L at q1 Fj hl0 sF vp qj ⊢;refine al3 sA ?_;simp only[aC,ae]at q1;refine aa @aC.eq_1 ?_;refine Rx q1 (aP ?_);refine lN (fun k=>St.of [(0,.t (ints r)),(1,.t (aC fo)),(5,.own 85),(6,.own 86),(7,.t (.i (d8 L k))),(8,.t (.i k))] [(85,.arr 1 (L.map T.i)),(86,.arr 2 (gv ((kZ r fo L).take k)))]) (fun k=>k<=L.length) (fun k=>L.length-k) 0 (aq [14,15] (ah @aC.eq_1 (show d8 L 0=0 from rfl))) (fun k hk R hn hr he=>?_)
 ·rcases qH k L.length with h9|h9
  ·have hx:=dD h9;refine aa (dt ((k:Int)<(L.length:Int))) ?_;refine lN (fun i=>St.of [(0,.t (ints r)),(1,.t (aC fo)),(5,.own 85),(6,.own 86),(7,.t (.i (d8 L k))),(8,.t (.i k)),(9,.own 89),(10,.own 90),(11,.t (.i i))] [(85,.arr 1 (L.map T.i)),(86,.arr 2 (gv ((kZ r fo L).take k))),(89,.box [.i (fw r L k i),.zz]),(90,.arr 1 ((oP r fo (L.getD k 0) i).map T.i))]) (fun i=>i<=r.length) (fun i=>r.length-i) 0 (aq [85,86,9,23] @aC.eq_1) (fun i hi R2 hn2 cP cL=>?_)
   ·rcases qH i r.length with h8|h8
    ·have hy:=dD h8;have bj:=sv (l:=fo) (i:=i) om;have mF:=hb i h8;have JR:=qj k i om;have hLk:=sF k;have aG8:=vp k;have gz:0<=d8 L k/\d8 L k<=100000:=by unfold d8;split;exact⟨Int.le_refl _,om⟩;exact⟨sF _,vp _⟩
     have wl:IntKind.i64.wrap ((L.length:Int)-1)=(L.length:Int)-1:=wrap64 om om;have w1:IntKind.i64.wrap (fw r L k i+min (r.getD i 0) (L.getD k 0))=fw r L k i+min (r.getD i 0) (L.getD k 0):=wrap64 om om;have w2:IntKind.i64.wrap (fw r L k i+min (r.getD i 0) (L.getD k 0)-min (r.getD i 0) (d8 L k))=fw r L k i+min (r.getD i 0) (L.getD k 0)-min (r.getD i 0) (d8 L k):=wrap64 om om;have w3:IntKind.i64.wrap (fw r L k i+min (r.getD i 0) (L.getD k 0)-min (r.getD i 0) (d8 L k)+r.getD i 0)=fw r L k i+min (r.getD i 0) (L.getD k 0)-min (r.getD i 0) (d8 L k)+r.getD i 0:=wrap64 om om;have w4:IntKind.i64.wrap (fw r L k i+min (r.getD i 0) (L.getD k 0)-min (r.getD i 0) (d8 L k)+r.getD i 0-min (r.getD i 0) (L.getD k 0))=fw r L k i+min (r.getD i 0) (L.getD k 0)-min (r.getD i 0) (d8 L k)+r.getD i 0-min (r.getD i 0) (L.getD k 0):=wrap64 om om;have hps:=JQ r fo (L.getD k 0) i;by_cases hl:k+1=L.length
     ·have hla:(((k:Nat):Int)==(L.length:Int)-1)=true:=by simp;omega
      have hA:fw r L k (i+1)=fw r L k i+min (r.getD i 0) (L.getD k 0)-min (r.getD i 0) (d8 L k)+r.getD i 0-min (r.getD i 0) (L.getD k 0):=by rw[fw,if_pos hl];omega
      have hS:=JP r fo (L.getD k 0) i;cases hc:fo.getD i true with
      |true=>
       rw[hc,if_neg sA]at hS;rw[hc]at bj;refine bQ (xk hx hy bj @aC.eq_1 wl w1 w2 w3 w4 hla (dt ((i:Int)<(r.length:Int)))) ?_;exact hn2 _ (i+1) (aq [85,86,89,90] (ah @aC.eq_1 (aw h8 om)) (hr:=rB (rB (rK rfl (by rw[hA];exact .refl _) (rK rfl (by rw[hS,List.append_nil];exact .refl _) trivial)))))
      |false=>
       rw[hc]at bj hS;by_cases hv:L.getD k 0<=r.getD i 0
       ·have mU:=eq_true hv;rw[if_pos ⟨rfl,hv⟩]at hS;refine bQ (xm hx hy bj @aC.eq_1 wl w1 w2 w3 w4 hla (dt ((i:Int)<(r.length:Int))) mU) ?_;exact hn2 _ (i+1) (aq [85,86,89,92] (ah @aC.eq_1 (aw h8 om)) (hr:=rB (rB (rK rfl (by rw[hA];exact .refl _) (rK rfl (by rw[hS,qG (l₂:=[(i:Int)])];exact .refl _) trivial)))))
       ·have mU:=eq_false hv;rw[if_neg fun g=>hv g.2]at hS;refine bQ (xm hx hy bj @aC.eq_1 wl w1 w2 w3 w4 hla (dt ((i:Int)<(r.length:Int))) mU) ?_;exact hn2 _ (i+1) (aq [85,86,89,90] (ah @aC.eq_1 (aw h8 om)) (hr:=rB (rB (rK rfl (by rw[hA];exact .refl _) (rK rfl (by rw[hS,List.append_nil];exact .refl _) trivial)))))
     ·have hla:(((k:Nat):Int)==(L.length:Int)-1)=false:=by simp;omega
      have hA:fw r L k (i+1)=fw r L k i+min (r.getD i 0) (L.getD k 0)-min (r.getD i 0) (d8 L k):=by rw[fw,if_neg hl];omega
      have hS:=JP r fo (L.getD k 0) i;cases hc:fo.getD i true with
      |true=>
       rw[hc,if_neg sA]at hS;rw[hc]at bj;refine bQ (tC hx hy bj @aC.eq_1 wl w1 w2 hla (dt ((i:Int)<(r.length:Int)))) ?_;exact hn2 _ (i+1) (aq [85,86,89,90] (ah @aC.eq_1 (aw h8 om)) (hr:=rB (rB (rK rfl (by rw[hA];exact .refl _) (rK rfl (by rw[hS,List.append_nil];exact .refl _) trivial)))))
      |false=>
       rw[hc]at bj hS;by_cases hv:L.getD k 0<=r.getD i 0
       ·have mU:=eq_true hv;rw[if_pos ⟨rfl,hv⟩]at hS;refine bQ (Ex hx hy bj @aC.eq_1 wl w1 w2 hla (dt ((i:Int)<(r.length:Int))) mU) ?_;exact hn2 _ (i+1) (aq [85,86,89,92] (ah @aC.eq_1 (aw h8 om)) (hr:=rB (rB (rK rfl (by rw[hA];exact .refl _) (rK rfl (by rw[hS,qG (l₂:=[(i:Int)])];exact .refl _) trivial)))))
       ·have mU:=eq_false hv;rw[if_neg fun g=>hv g.2]at hS;refine bQ (Ex hx hy bj @aC.eq_1 wl w1 w2 hla (dt ((i:Int)<(r.length:Int))) mU) ?_;exact hn2 _ (i+1) (aq [85,86,89,90] (ah @aC.eq_1 (aw h8 om)) (hr:=rB (rB (rK rfl (by rw[hA];exact .refl _) (rK rfl (by rw[hS,List.append_nil];exact .refl _) trivial)))))
    ·obtain rfl:i=r.length:=om;refine aa (dF ((r.length:Int)<(r.length:Int))) ?_;refine cL _ _ (aa hx ?_);have br:=BM ((kZ r fo L).take k);rw[qL,Fg]at br;refine⟨om,om,om,om,?_⟩;exact hn _ (k+1) (aq [85,99] (ay @aC.eq_1 (show d8 L (k+1)=L.getD k 0 from rfl) (aw h9 om)) (hr:=rB (rK rfl (by rw[bG (Ri h9),Rj];exact .refl _) trivial)))
  ·obtain rfl:k=L.length:=om;refine aa (dF ((L.length:Int)<(L.length:Int))) ?_;refine he _ _ ?_;rw[qQ (by rw[Fg];exact qR _)];refine ab ?_;rfl
end
def iz(r L:LI)(k:Nat):Nat->Int
 |0=>0
 |i+1=>iz r L k i+(min (r.getD i 0) (L.getD k 0)-min (r.getD i 0) (d8 L k))
def lC(r:LI)(v:Int):Nat->Int
 |0=>0
 |i+1=>lC r v i+max 0 (r.getD i 0-v)
def JS(r L:LI)(k:Nat):∀i,fw r L k i=iz r L k i+(if k+1=L.length then lC r (L.getD k 0) i else 0)
 |0=>by simp[fw,iz,lC]
 |i+1=>by
  rw[fw,iz,lC,JS r L k i];split<;>omega
def mi(r:LI)(fo:List Bool)(L:LI)(x:Int):List (Int×LI):=(List.range L.length).map fun k=>(if k+1=L.length then x else fw r L k r.length,oP r fo (L.getD k 0) r.length)
def xJ(r:LI)(fo:List Bool)(L:LI)(x:Int):(mi r fo L x).length=L.length:=by simp[mi]
def zb(h:k<L.length):(mi r fo L x)[k]? =some (if k+1=L.length then x else fw r L k r.length,oP r fo (L.getD k 0) r.length):=by
 rw[mi,qU,List.getElem?_range h];rfl
def aG9:mi r fo L (fw r L (L.length-1) r.length)=kZ r fo L:=by
 unfold mi kZ;refine rW fun k hk=>?_;rw[List.mem_range]at hk;split
 ·rename_i h;rw[show L.length-1=k by omega]
 ·rfl
def Rk:∀(ps:List (Int×LI)) (k:Nat) (p:Int×LI) (y:Int),ps[k]? =some p->(gv ps).set (k*2) (.i y)=gv (ps.set k (y,p.2))
 |[],k,p,y,h=>by simp at h
 |q::ps,0,p,y,h=>by
  simp only[List.getElem?_cons_zero,Option.some.injEq]at h;subst h;rfl
 |q::ps,k+1,p,y,h=>by
  rw[show gv (q::ps)=T.i q.1::ae q.2::gv ps from rfl,show(k+1)*2=k*2+1+1 by omega,List.set_cons_succ,List.set_cons_succ,Rk ps k p y (sU h),List.set_cons_succ];rfl
def Rl:∀(ps:List (Int×LI)) (k:Nat) (p:Int×LI),ps[k]? =some p->(gv ps)[k*2]? =some (.i p.1)
 |[],k,p,h=>by simp at h
 |q::ps,0,p,h=>by
  simp only[List.getElem?_cons_zero,Option.some.injEq]at h;subst h;rfl
 |q::ps,k+1,p,h=>by
  rw[show gv (q::ps)=T.i q.1::ae q.2::gv ps from rfl,show(k+1)*2=k*2+1+1 by omega,List.getElem?_cons_succ,List.getElem?_cons_succ,Rl ps k p (sU h)]
def aH0{y:Int}(h:0<L.length):(gv (mi r fo L x)).set ((L.length-1)*2) (.i y)=gv (mi r fo L y):=by
 rw[Rk _ _ _ y (zb (k:=L.length-1) om)];congr 1;refine List.ext_getElem? fun k=>?_;rw[List.getElem?_set,xJ];by_cases hk:L.length-1=k
 ·subst hk;rw[if_pos rfl,if_pos om,zb om];simp only[if_pos (show L.length-1+1=L.length by omega)]
 ·rw[if_neg hk];rcases qH k L.length with h9|h9
  ·rw[zb h9,zb h9,if_neg om,if_neg om]
  ·rw[qP (by rw[xJ];exact h9),qP (by rw[xJ];exact h9)]
def aH1:(if k+1=L.length then iz r L (L.length-1) r.length else fw r L k r.length)=iz r L k r.length:=by
 rw[JS];split
 ·rename_i h;rw[show L.length-1=k by omega]
 ·omega
def Rm{r L:LI}(h:∀i,i<r.length->0<=r.getD i 0/\r.getD i 0<=100000)(hL:∀k,0<=L.getD k 0)(k:Nat):∀i,i<=r.length-> -(100000*(i:Int))<=iz r L k i/\iz r L k i<=100000*(i:Int)
 |0,_=>by simp[iz]
 |i+1,hi=>by
  have h1:=Rm h hL k i om;have h2:=h i om;have h3:=hL k;have h4:0<=d8 L k:=by unfold d8;split;exact Int.le_refl _;exact hL _
  unfold iz;omega
def Rn{r:LI}(h:∀i,i<r.length->0<=r.getD i 0/\r.getD i 0<=100000){v:Int}(hv:0<=v):∀i,i<=r.length->0<=lC r v i/\lC r v i<=100000*(i:Int)
 |0,_=>by simp[lC]
 |i+1,hi=>by
  have h1:=Rn h hv i om;have h2:=h i om;unfold lC;omega
def aH2(h:jZ r fo)(hx:(fM fo)[i]? =some x):0<=x/\x.toNat<r.length/\fo.getD x.toNat true=false/\0<r.getD x.toNat 0/\(lB r fo)[i]? =some (r.getD x.toNat 0):=by
 obtain⟨k,h1,h2,rfl⟩:=tP.1 (qE hx);rw[h.f]at h1;exact⟨om,sU h1,by simpa using h2,sU (h.g k h1 h2),by rw[lB,qU,hx];rfl⟩
def aH3(x:T):Le (.box [x,.zz]) (.box [x,.arr 1 []]):=.box rfl fun i h1 h2=>match i,h1 with
 |0,_=>.refl _
 |1,_=>.iH 1
section
attribute [-go_sem] bC bF bK bE bH bL
def aH4(pd:LI)(fo:List Bool)(dm:jC pd)(h:jZ (c7 pd) fo):FA 109 [] [.t (ints pd),.t (aC fo)] fun o s=>o=[]/\s=BL (kZ (c7 pd) fo (eC (c7 pd) fo)):=by
 have q0:=aF0 pd dm;generalize c7 pd=r at q0 h ⊢;obtain⟨⟨n2,n6⟩,hb⟩:=id h.p;have hf:=h.f;have q1:=Bl fo om;have hvl:(lB r fo).length=(fM fo).length:=by rw[lB,qJ]
 have bz6:(fM fo).length<=6:=by have:=EH fo fo.length;unfold fM;omega
 have wG:lB r fo≠ []:=by
  obtain⟨i,h1,h2⟩:=h.l;exact List.ne_nil_of_mem (Rf.2 ⟨i,om,h2,rfl⟩)
 obtain⟨Fj,hl0⟩:=Fi h;have sF:=Fh h;have vp:∀k,(eC r fo).getD k 0<=100000:=by
  intro k;rcases qH k (eC r fo).length with h9|h9
  ·obtain⟨i,h1,h2,h3⟩:=za.1 (gO h9);rw[←h3];exact(hb i (by rw[←hf];exact h1)).2
  ·rw[qA,qP h9];simp
 have JU:=Rm (L:=eC r fo) hb sF;refine aj7 sA ?_;simp only[aC,ae]at q1;refine aa @aC.eq_1 ?_;refine Rx q0 (bu @ae.eq_1 ?_);refine Rx q1 (aP ?_);refine lN (fun i=>St.of [(0,.own 480),(1,.t (aC fo)),(5,.own 85),(20,.own 90),(21,.t (.i (fM fo).length)),(22,.t (.i i))] [(480,.arr 1 (r.map T.i)),(85,.arr 1 (((lB r fo).take i).map T.i)),(90,.arr 1 ((fM fo).map T.i))]) (fun i=>i<=(fM fo).length) (fun i=>(fM fo).length-i) 0 (aj.of _ _ [some 18,none,some 20] sA sA ?_ ⟨⟨_,rfl,.refl _⟩,rfl,⟨1,rfl⟩,⟨_,rfl,.refl _⟩,rfl,trivial⟩) (fun i hi R hn hr he=>?_)
 ·exact bZ @aC.eq_1 trivial
 ·rcases qH i (fM fo).length with h9|h9
  ·obtain⟨x,hx⟩:∃x,(fM fo)[i]? =some x:=⟨_,qB h9⟩;obtain⟨g1,g2,g3,g4,g5⟩:=aH2 h hx;have hy:=dD g2;have g4d:=eq_true g4;refine bQ (bf hx hy g4d (dt ((i:Int)<((fM fo).length:Int)))) ?_;refine⟨by rw[qL];omega,?_⟩;exact hn _ (i+1) (aq [480,37,90] (ah @aC.eq_1 (aw h9 om)) (hr:=rB (rK rfl (by rw[bG g5,qG];exact .refl _) (rB trivial))))
  ·obtain rfl:i=(fM fo).length:=om;refine aa (dF (((fM fo).length:Int)<((fM fo).length:Int))) ?_;refine he _ _ ?_;rw[qQ om];have q2:=aG3 (lB r fo) wG om;have q3:=aG2 (jD (lB r fo)) (fun e=>wG (List.length_eq_zero_iff.1 (by rw[←JN,e];rfl)));rw[show jY (jD (lB r fo))=eC r fo from rfl]at q3;simp only[ae]at q2 q3;refine ab ?_;refine Fx q2 [85] (aP ?_);refine Fx q3 [85] (aP ?_);clear q1 q2 q3 hn hr he;generalize eC r fo=L at Fj hl0 sF vp JU ⊢;refine lN (fun k=>St.of [(0,.own 480),(1,.t (aC fo)),(8,.own 88),(9,.t (.i (d8 L k))),(42,.own 92),(43,.t (.i L.length)),(44,.t (.i k))] [(480,.arr 1 (r.map T.i)),(88,.arr 2 (gv ((mi r fo L (iz r L (L.length-1) r.length)).take k))),(92,.arr 1 (L.map T.i))]) (fun k=>k<=L.length) (fun k=>L.length-k) 0 (aj.of _ _ [some 480,none,some 42] sA sA ?_ ⟨⟨_,rfl,.refl _⟩,rfl,⟨2,rfl⟩,⟨_,rfl,.refl _⟩,rfl,trivial⟩) (fun k hk R hn hr he=>?_)
   ·exact bZ (ah @aC.eq_1 (show d8 L 0=0 from rfl)) trivial
   ·have br:=BM ((mi r fo L (iz r L (L.length-1) r.length)).take k);rw[qL,xJ]at br;rcases qH k L.length with h9|h9
    ·have hx:=dD h9;refine aB (ah hx (dt ((k:Int)<(L.length:Int)))) ?_;refine lN (fun i=>St.of [(0,.own 480),(1,.t (aC fo)),(8,.own 88),(9,.t (.i (d8 L k))),(42,.own 92),(43,.t (.i L.length)),(44,.t (.i k)),(11,.t (.i (L.getD k 0))),(12,.own 93),(48,.own 480),(49,.t (.i r.length)),(50,.t (.i i))] [(480,.arr 1 (r.map T.i)),(88,.arr 2 (gv ((mi r fo L (iz r L (L.length-1) r.length)).take k))),(92,.arr 1 (L.map T.i)),(93,.box [.i (iz r L k i),.arr 1 ((oP r fo (L.getD k 0) i).map T.i)])]) (fun i=>i<=r.length) (fun i=>r.length-i) 0 (aq [480,88,92,12] @aC.eq_1 (hr:=rB (rB (rB (rI (aH3 _) trivial))))) (fun i hi R2 hn2 cP cL=>?_)
     ·rcases qH i r.length with h8|h8
      ·have hy:=dD h8;have bj:=sv (l:=fo) (i:=i) om;have mF:=hb i h8;have JR:=JU k i om;have hLk:=sF k;have aG8:=vp k;have gz:0<=d8 L k/\d8 L k<=100000:=by unfold d8;split;exact⟨Int.le_refl _,om⟩;exact⟨sF _,vp _⟩
       have w1:IntKind.i64.wrap (min (r.getD i 0) (L.getD k 0)-min (r.getD i 0) (d8 L k))=min (r.getD i 0) (L.getD k 0)-min (r.getD i 0) (d8 L k):=wrap64 om om;have w2:IntKind.i64.wrap (iz r L k i+(min (r.getD i 0) (L.getD k 0)-min (r.getD i 0) (d8 L k)))=iz r L k (i+1):=wrap64 om om;have hps:=JQ r fo (L.getD k 0) i;have hS:=JP r fo (L.getD k 0) i;cases hc:fo.getD i true with
       |true=>
        rw[hc,if_neg sA]at hS;rw[hc]at bj;refine bQ (c5 hy bj @aC.eq_1 w1 w2 (dt ((i:Int)<(r.length:Int)))) ?_;exact hn2 _ (i+1) (aq [480,88,92,93] (ah @aC.eq_1 (aw h8 om)) (hr:=rB (rB (rB (rK rfl (by rw[hS,List.append_nil];exact .refl _) trivial)))))
       |false=>
        rw[hc]at bj hS;by_cases hv:L.getD k 0<=r.getD i 0
        ·have mU:=eq_true hv;rw[if_pos ⟨rfl,hv⟩]at hS;refine bQ (dZ hy bj @aC.eq_1 w1 w2 (dt ((i:Int)<(r.length:Int))) mU) ?_;exact hn2 _ (i+1) (aq [480,88,92,93] (ah @aC.eq_1 (aw h8 om)) (hr:=rB (rB (rB (rK rfl (by rw[hS,qG (l₂:=[(i:Int)])];exact .refl _) trivial)))))
        ·have mU:=eq_false hv;rw[if_neg fun g=>hv g.2]at hS;refine bQ (dZ hy bj @aC.eq_1 w1 w2 (dt ((i:Int)<(r.length:Int))) mU) ?_;exact hn2 _ (i+1) (aq [480,88,92,93] (ah @aC.eq_1 (aw h8 om)) (hr:=rB (rB (rB (rK rfl (by rw[hS,List.append_nil];exact .refl _) trivial)))))
      ·obtain rfl:i=r.length:=om;refine aa (dF ((r.length:Int)<(r.length:Int))) ?_;refine cL _ _ (Pb ?_);exact hn _ (k+1) (aq [480,86,92] (ay @aC.eq_1 (show d8 L (k+1)=L.getD k 0 from rfl) (aw h9 om)) (hr:=rB (rK rfl (by rw[bG (zb h9),Rj,aH1];exact .refl _) (rB trivial))))
    ·obtain rfl:k=L.length:=om;refine aa (dF ((L.length:Int)<(L.length:Int))) ?_;refine he _ _ ?_;rw[qQ (by rw[xJ];exact qR _)];have yH:=BM (mi r fo L (iz r L (L.length-1) r.length));rw[xJ]at yH;have pu:((gv (mi r fo L (iz r L (L.length-1) r.length))).length/2)=L.length:=om;have hpos:(((L.length:Nat):Int)>0)=True:=eq_true om;refine cE (ah pu hpos) ?_;have hbe:d8 L L.length=L.getD (L.length-1) 0:=if_neg om;rw[hbe];have wG:=sF (L.length-1);have Ay:=vp (L.length-1);have pW:=JU (L.length-1) r.length (qR _);have dR:L.length*2/2=L.length:=om;have hcy:∀x,(gv (mi r fo L x)).length=L.length*2:=fun x=>by rw[BM,xJ]
     refine lN (fun i=>St.of [(8,.own 88),(9,.t (.i (L.getD (L.length-1) 0))),(92,.own 480),(93,.t (.i r.length)),(94,.t (.i i))] [(480,.arr 1 (r.map T.i)),(88,.arr 2 (gv (mi r fo L (iz r L (L.length-1) r.length+lC r (L.getD (L.length-1) 0) i))))]) (fun i=>i<=r.length) (fun i=>r.length-i) 0 (cH [480,88] (hr:=rB (rK rfl (by rw[show lC r (L.getD (L.length-1) 0) 0=0 from rfl,Int.add_zero];exact .refl _) trivial))) (fun i hi R3 nG tz mj=>?_)
     ·rcases qH i r.length with h8|h8
      ·have hy:=dD h8;have mF:=hb i h8;have hXb:=Rn hb wG i om;have Fk:IntKind.i64.wrap ((L.length:Int)-1)=((L.length-1:Nat):Int):=by rw[wrap64 om om];omega
       have hpa:=Rl _ _ _ (zb (r:=r) (fo:=fo) (x:=iz r L (L.length-1) r.length+lC r (L.getD (L.length-1) 0) i) (show L.length-1<L.length by omega));rw[if_pos (show L.length-1+1=L.length by omega)]at hpa;have hps:=aH0 (r:=r) (fo:=fo) (x:=iz r L (L.length-1) r.length+lC r (L.getD (L.length-1) 0) i) (y:=iz r L (L.length-1) r.length+lC r (L.getD (L.length-1) 0) (i+1)) hl0;have w1:IntKind.i64.wrap (r.getD i 0-L.getD (L.length-1) 0)=r.getD i 0-L.getD (L.length-1) 0:=wrap64 om om;have w2:IntKind.i64.wrap (iz r L (L.length-1) r.length+lC r (L.getD (L.length-1) 0) i+max 0 (r.getD i 0-L.getD (L.length-1) 0))=iz r L (L.length-1) r.length+lC r (L.getD (L.length-1) 0) (i+1):=by
        rw[wrap64 om om,lC];omega
       refine aB (jz hy hcy dR Fk hpa w1 w2 (dt ((i:Int)<(r.length:Int)))) ?_;exact nG _ (i+1) (aq [480,88] (aw h8 om) (hr:=rB (rK rfl (by rw[←hps];exact .refl _) trivial)))
      ·obtain rfl:i=r.length:=om;refine aa (dF ((r.length:Int)<(r.length:Int))) ?_;refine mj _ _ ?_;have En:=JS r L (L.length-1) r.length;rw[if_pos (show L.length-1+1=L.length by omega)]at En;rw[←En,aG9];refine ab ?_;rfl
end
section
variable {P:Program} {n:Nat} {S:St} {K:SP}
def Ro{t:TypeId}{x:Operand}(ht:P.underlying t=some (.slice e))(ho:o.op= .call {callee:=.builtin .cap,args:=#[x],argTypes:=#[t]})(aD:o.dst=some d)(hd:d<n)(hx:S.ev x= .t (.zz))(k:K (S.put (some d) (.i 0))):aQ P n o S K:=by
 refine aQ.val (x:=.i 0) aD hd (fun X w0 O0 a w hs fp g=>?_) k;have h1:=g.ev x;rw[hx]at h1;have h1:=h1.dP;exact⟨_,by simp[execOp,ho,resolve,invoke,builtin,h1,Builtin.cap_,run_underlying ht,goInt,Sem.run_bind,Result.andThen],.t (.v _)⟩
def aH5(w:World)(t u ty e:TypeId)(i:TypeInfo)(z:Value)(kk:IntKind)(ht:P.underlying t=some (.slice e))(hu:P.underlying u=some (.int kk))(hi:P.info? e=some i)(hz:i.zero=some z)(hsz:i.size=1)(hby:i.bytes<=8)(m:Nat)(h0:0<m)(h1:m<=10000000):
  (Builtin.append_ #[t,u] ty #[.slice none 0 0,.int .i64 m]).run P w=
   .ok (.slice (some ⟨w.heap.size,0,none⟩) m (grownCap w m 0 e)) (w.drew.alloc (.cells (Builtin.zeroCells z.cells m++Builtin.zeroCells z.cells (grownCap w m 0 e-m)) e)):=by
 have hn:m≠0:=om;have hw:IntKind.i64.wrap (m:Int)=m:=wrap64 om om;have h63':¬(9223372036854775807<(m:Int)):=om;have hle:=Nat.mul_le_mul h1 hby
 have aH6:¬(281474976710656<Builtin.nextslicecap m 0*i.bytes):=by rw[nextslicecap_zero h0];omega
 have aH7:¬(281474976710656<(m:Int)*(i.bytes:Int)):=by
  have:((m*i.bytes:Nat):Int)<=80000000:=om;rw[Int.natCast_mul]at this;omega
 have hneg:¬((m:Int)<0):=om;simp[Builtin.append_,run_underlying ht,run_underlying hu,sizeOf,typeInfo,zeroValue,hi,hz,hsz,Builtin.lenOf,hn,h63',aH6,aH7,hneg,hw,asInt,asIntOf,Question.forced,run_firstCells_none,newRow,grownCap]
def aH8{t u:TypeId}{x:Operand}{i:TypeInfo}{z:Value}{kk:IntKind}(ht:P.underlying t=some (.slice e))(hu:P.underlying u=some (.int kk))(hi:P.info? e=some i)(hz:i.zero=some z)(hzs:z.cells.size=1)(hsz:i.size=1)(hby:i.bytes<=8){m:Nat}(h0:0<m)(h1:m<=10000000)(ho:o.op= .call {callee:=.builtin .append,args:=#[x,y],argTypes:=#[t,u]})(aD:o.dst=some d)(hd:d<n)(hx:S.ev x= .t (.zz))(hy:S.ev y= .i m)(hfree:S.roots d= .free)(k:K {env:=ak S.env d (.own d),roots:=ak S.roots d (.live (.arr 1 (List.replicate m .any)) [])}):aQ P n o S K:=by
 intro X w0 O0 a w hs fp g Q;have hx1:=g.ev x;rw[hx]at hx1;have hx1:=hx1.dP;have hy1:=g.ev y;rw[hy]at hy1;have hy1:=hy1.dP;have hr:=aH5 (P:=P) w t u o.type e i z kk ht hu hi hz hsz hby m h0 h1;have hcap:=grownCap_ge w m 0 e;have gM:grownCap w m 0 e<=maxLen:=grownCap_le_maxLen w m 0 e (by simp[maxLen];omega);have hrun:(execOp a.eval o).run P w= .ok (.value (.slice (some ⟨w.heap.size,0,none⟩) m (grownCap w m 0 e))) (w.drew.alloc (.cells (Builtin.zeroCells z.cells m++Builtin.zeroCells z.cells (grownCap w m 0 e-m)) e)):=by
  simp[execOp,ho,resolve,invoke,builtin,hx1,hy1,hr,Result.andThen]
 have g2:=g.newRow (Inter.refl S fp) (ts:=List.replicate m .any) (vs:=(Builtin.zeroCells z.cells m++Builtin.zeroCells z.cells (grownCap w m 0 e-m)).toList) (gs:=List.replicate m []) sA (fun j hj=>by
   rw[List.getElem_replicate];have hj':j<m:=sU hj;rw[qA (l:=List.replicate m []),rM,if_pos hj'];exact .rd (.any _)) sA sA hfree hd (Builtin.zeroCells z.cells m++Builtin.zeroCells z.cells (grownCap w m 0 e-m)) e (fun j _=>by rw[qC,qA,Array.getElem?_toList]) (.arr 1 (List.replicate m .any)) (.slice (some ⟨w.heap.size,0,none⟩) m (grownCap w m 0 e)) rfl
  (w.drew.alloc (.cells (Builtin.zeroCells z.cells m++Builtin.zeroCells z.cells (grownCap w m 0 e-m)) e)) rfl rfl rfl rfl
  (fun w' O' hb hr=>.arr 1 _ _ m (grownCap w m 0 e) _ e _ hb sA hcap gM (by simp[size_zeroCells,hzs];omega) sA hr)
 unfold Oper.wp;rw[hrun,Oper.upon_value,aD];simp only[List.flatten_replicate_nil]at g2;exact⟨_,_,_,g2,k⟩
def Rp(P:Program)(t u:TypeId):Bool:=
 match P.underlying t,P.underlying u with
 |some (.slice e),some (.int _)=>(match P.info? e with|some i=>(match i.zero with|some z=>z.cells.size==1&&i.size==1&&decide (i.bytes<=8)|none=>false)|none=>false)
 |_,_=>false
def aH9{t u:TypeId}{x:Operand}(hok:Rp P t u=true){m:Nat}(h0:0<m)(h1:m<=10000000)(ho:o.op= .call {callee:=.builtin .append,args:=#[x,y],argTypes:=#[t,u]})(aD:o.dst=some d)(hd:d<n)(hx:S.ev x= .t (.zz))(hy:S.ev y= .i m)(hfree:S.roots d= .free)(k:K {env:=ak S.env d (.own d),roots:=ak S.roots d (.live (.arr 1 (List.replicate m .any)) [])}):aQ P n o S K:=by
 unfold Rp at hok;split at hok
 ·rename_i e kk h2 h3;split at hok
  ·rename_i i h4;split at hok
   ·rename_i z h5;simp only[qM,beq_iff_eq,decide_eq_true_eq]at hok;exact aH8 h2 h3 h4 h5 hok.1.1 hok.1.2 hok.2 h0 h1 ho aD hd hx hy hfree k
   ·cases hok
  ·cases hok
 ·cases hok
def aI0{t:TypeId}{r:Nat}{x:Operand}{l:LA}(ht:P.underlying t=some (.slice e))(hz:dJ P e=some 1)(ho:o.op= .slice t x none (some y) none)(aD:o.dst=some d)(hd:d<n)(hl:l≠ [])(hx:S.ev x= .own r)(hr:S.roots r= .live (.arr 1 l) [])(hy:S.ev y= .i 0)(hfree:S.roots d= .free)(aV:d≠r)(k:K {env:=ak S.env d (.own d),roots:=ak (ak S.roots r .dead) d (.live (.arr 1 []) [])}):aQ P n o S K:=by
 intro X w0 O0 a w hs fp g Q;have hx1:=g.ev x;rw[hx]at hx1;have hx1:=hx1.gK;have hy1:=g.ev y;rw[hy]at hy1;have hy1:=hy1.dP;rcases g.arr hr with⟨_,rfl,_⟩|⟨b,len,cap,cs,e',ar,hh,hb,hlen,hc,hm,hsz,hf,hr',bw,hle,hlk⟩
 ·exact(hl rfl).elim
 rw[hh]at hx1;have hx1:=Option.some.inj hx1;have hrun:(execOp a.eval o).run P w= .ok (.value (.slice (some ⟨b,0,none⟩) 0 cap)) w:=by
  have hs:=Nj (P:=P) ht hz (some ⟨b,0,none⟩) len cap (lo:=none) (hi:=some (.int .i64 ((0:Nat):Int))) (i:=0) (j:=0) (.inl ⟨rfl,rfl⟩) (.inr ⟨_,rfl⟩) (qR _) (Nat.zero_le _) w;have e:sliced (some ⟨b,0,none⟩) 0 0 cap 1= .slice (some ⟨b,0,none⟩) 0 cap:=by simp[sliced,re]
  rw[e]at hs;simp[execOp,ho,hy1,←hx1];exact hs▸rfl
 have hnone:hs d=none:=by
  have:=g.root d;rw[hfree]at this;exact this.1
 have hb':b∈fp r:=by rw[bw];simp
 have g2:=g.lay ((Inter.refl S fp).kill hr).2.2 d (.arr 1 []) [] (.slice (some ⟨b,0,none⟩) 0 cap) [b] w (.inl ⟨hnone,by have:=g.small;omega⟩) rfl rfl rfl rfl (qR _) (fun _ _ _=>rfl) sA
  (fun b' h'=>by
   simp only[List.mem_singleton]at h';subst h';exact .inl ⟨r,hb',.inr (aT _ _ _)⟩)
  (fun O' hO'=>.arr 1 [] b 0 cap cs e' [] hb sA (Nat.zero_le _) hm hsz rfl (fun i h=>absurd h sA))
  sA
 unfold Oper.wp;rw[hrun,Oper.upon_value,aD];have g3:=g2.put hd (x:=.own d) (v:=.slice (some ⟨b,0,none⟩) 0 cap) (.own (aT _ _ _));exact⟨_,_,_,g3,k⟩
end
section
attribute [-go_sem] bC bF bK bE bH bL
def cF.aI1{P:Program}{f:FuncId}{fn:Func}{c:Code}{aH:LA}{args:List A}{Q:LA->T->Prop}(hf:P.funcs[f]? =some fn)(hb:fn.body=some c)(hn:fn.ntmps=n){rv:List ResultVar}(AE:fn.results.toList=rv)(ha:args.length<=n)(bV:n<=100000)(h:Sem P n c (pO P rv aH.length Q) (St.of (enum 0 args) (enum 1000000000 aH))):cF P f aH args Q:=
 cF.intro hf hb hn ha bV (h.mono fun e S' q=>by
  subst AE;have key:pO P fn.results.toList aH.length Q .ret S'->rn P fn.results.toList aH.length Q .ret S':=fun q=>by
   simp only[pO,rn]at q ⊢;exact HZ _ (fun ts nt h1=>DS _ _ (fun aA h2=>⟨_,.refl _,h2⟩) h1) q
  cases e with
  |normal=>exact key q
  |ret=>exact key q
  |_=>exact q.elim)
def cS{P:Program}{code:Code}{Q:Exit->St->Prop}{S:St}(c:CC)(h:dg P n ⟨[],[]⟩ code=some c)(k:cW P n c Q S):Sem P n code Q S:=pN c Q S k _ _ h
set_option maxRecDepth 100000 in
def aI2(m:Nat)(h0:0<m)(hm:m<=10000000):FR 159 [.t (.zz),.t (.i m)] (.arr 1 []):=by
 refine cF.aI1 (n:=27) (rv:=[.tmp 4]) Tryz.func159 rfl rfl rfl sA dc ?_;refine Sem.seq (cS (.aN [.o (.move 4 (cv (.slice none 0 0)))]) (by kernel_rfl) ?_);refine ab ?_;refine Sem.seq (Sem.seq (cS (.aN [.o (.move 5 (sl 1)),.o (.bin 6 .lss (sl 5) (ci 0))]) (by kernel_rfl) ?_));refine aa (dF ((m:Int)<0)) ?_;refine Sem.cond (b:=false) rfl (fun h=>by cases h) (fun _=>Sem.skip ?_);refine Sem.seq (Sem.seq (Sem.region sA ?_));show dx _ 27 _ [0,1,2,3,4,5,6,7] _ _;refine dx.cons rfl rfl (jO (co:=.move 8 (sl 1)) (by kernel_rfl) ?_);refine ab ?_;refine dx.cons rfl rfl (jO (co:=.move 9 (sl 0)) (by kernel_rfl) ?_);refine ab ?_;refine dx.cons rfl rfl (Ro (t:=24) (e:=2) (d:=10) (by kernel_rfl) rfl rfl dc rfl ?_);refine ab ?_;refine dx.cons rfl rfl (jO (co:=.move 11 (sl 0)) (by kernel_rfl) ?_);refine ab ?_;refine dx.cons rfl rfl (jO (co:=.iJ 12 (sl 11)) (by kernel_rfl) ?_);refine ab ?_;refine dx.cons rfl rfl (jO (co:=.bin 13 .sub (sl 10) (sl 12)) (by kernel_rfl) ?_);refine aa (show IntKind.i64.wrap (0-0)=0 from rfl) ?_;refine dx.cons rfl rfl (jO (co:=.bin 14 .sub (sl 8) (sl 13)) (by kernel_rfl) ?_);refine aa (show IntKind.i64.wrap ((m:Int)-0)=m by rw[Int.sub_zero];exact wrap64 om om) ?_;refine dx.cons rfl rfl (jO (co:=.move 1 (sl 14)) (by kernel_rfl) ?_);refine ab ?_;refine dx.nil ?_;show Sem _ 27 _ _ _;refine Sem.seq (cS (.aN [.o (.move 15 (sl 1)),.o (.bin 16 .gtr (sl 15) (ci 0))]) (by kernel_rfl) ?_);refine aa (dt ((m:Int)>0)) ?_;refine Sem.cond (b:=true) rfl (fun _=>?_) (fun h=>by cases h);refine Sem.region sA ?_;show dx _ 27 _ [0,1,2,3,4,5,6,7,8,9] _ _;refine dx.cons rfl rfl (jO (co:=.move 17 (sl 0)) (by kernel_rfl) ?_);refine ab ?_;refine dx.cons rfl rfl (jO (co:=.move 18 (sl 0)) (by kernel_rfl) ?_);refine ab ?_;refine dx.cons rfl rfl (Ro (t:=24) (e:=2) (d:=19) (by kernel_rfl) rfl rfl dc rfl ?_);refine ab ?_;refine dx.cons rfl rfl (jO (co:=.slc 20 1 (sl 17) none (some (sl 19))) (by kernel_rfl) ?_);refine ab ?_;refine dx.cons rfl rfl (jO (co:=.move 21 (sl 1)) (by kernel_rfl) ?_);refine ab ?_;refine dx.cons rfl rfl (aH9 (t:=24) (u:=3) (d:=22) (m:=m) (by kernel_rfl) h0 hm rfl rfl dc rfl rfl rfl ?_);refine ab ?_;refine dx.cons rfl rfl (jO (co:=.move 23 (sl 0)) (by kernel_rfl) ?_);refine ab ?_;refine dx.cons rfl rfl (jO (co:=.iJ 24 (sl 23)) (by kernel_rfl) ?_);refine ab ?_;refine dx.cons rfl rfl (aI0 (t:=24) (e:=2) (d:=25) (r:=22) (l:=List.replicate m .any) (by kernel_rfl) (by kernel_rfl) rfl rfl dc (by simp;omega) rfl rfl rfl rfl dc ?_);refine ab ?_;refine dx.cons rfl rfl (jO (co:=.move 0 (sl 25)) (by kernel_rfl) ?_);refine ab ?_;refine dx.nil ?_;show Sem _ 27 _ _ _;exact cS (.seq (.aN [.o (.move 26 (sl 0)),.o (.move 4 (sl 26))]) .ret) (by kernel_rfl) (ab trivial)
def aI3(L:LL)(hL:L.length<=1000000)(hs:L.flatten.length<=10000000)(h1:L.flatten≠ []):FR 102 [.t (rows L)] (ae L.flatten):=by
 have ll:∀i,(L.take i).flatten.length<=10000000:=fun i=>by
  have h:=congrArg (fun M:LL=>M.flatten.length) (List.take_append_drop i L);simp only[qY,qD]at h;omega
 have hone:∀{i:Nat} {l:LI},L[i]? =some l->l.length<=10000000:=fun{i l} h=>by
  have h2:=ll (i+1);rw[bG h,qY,qD]at h2;simp at h2;omega
 have hst:∀{i l},L[i]? =some l->(L.take (i+1)).flatten=(L.take i).flatten++l:=fun{i l} h=>by rw[bG h];simp
 refine aj1 sA (ab ?_);refine lN (fun i=>St.of [(0,.t (rows L)),(3,.t (.i (L.take i).flatten.length)),(9,.t (rows L)),(10,.t (.i L.length)),(11,.t (.i i))] []) (fun i=>i<=L.length) (fun i=>L.length-i) 0 (aj.o _ [] [] ?_ trivial) (fun i hi R hn hr he=>?_)
 ·refine ij ?_;exact .inr (.inl rfl)
 ·rcases qH i L.length with h9|h9
  ·obtain⟨l,hx⟩:∃l,L[i]? =some l:=⟨_,qB h9⟩;have jN:=hone hx;have hsi:=ll i;have hw:IntKind.i64.wrap (((L.take i).flatten.length:Int)+(l.length:Int))=((L.take (i+1)).flatten.length:Nat):=by rw[wrap64 om om,hst hx,qD];omega
   have bz7:=ll (i+1);refine aB (bf hx (dt ((i:Int)<(L.length:Int))) hw (decide_eq_false (show¬(((L.take (i+1)).flatten.length:Nat):Int)<0 by omega))) ?_;exact hn _ (i+1) (eU (aw h9 om))
  ·refine aa (dF ((i:Int)<(L.length:Int))) ?_;refine he _ _ ?_;have hsi:=ll i;have e:i=L.length:=om;rw[e,rT]at hsi ⊢;have hpos:=List.length_pos_iff.2 h1;refine ab ?_;refine Rx (aI2 L.flatten.length hpos om) (aP ?_);refine lN (fun i=>St.of [(6,.own 95),(25,.t (rows L)),(26,.t (.i L.length)),(27,.t (.i i))] [(95,.arr 1 ((L.take i).flatten.map T.i))]) (fun i=>i<=L.length) (fun i=>L.length-i) 0 (cH [24]) (fun i hi R hn hr he=>?_)
   ·rcases qH i L.length with h9|h9
    ·obtain⟨l,hx⟩:∃l,L[i]? =some l:=⟨_,qB h9⟩;have jN:=hone hx;have hsi:=ll i;refine aB (ah hx (dt ((i:Int)<(L.length:Int)))) ?_;refine hn _ (i+1) (aq [33] (aw h9 om) (hr:=?_))
     ·refine rI ?_ trivial;rw[hst hx,qG];exact .refl _
    ·refine aa (dF ((i:Int)<(L.length:Int))) ?_;refine he _ _ (ab ?_);rw[qQ h9];rfl
def aI4(t:T)(l:LA):T.cr (t::l)=t.bB::T.cr l:=by simp[T.cr]
def aI5:T.cr []=[]:=by simp[T.cr]
def aI6(x:Value):(T.v x).bB=T.v x:=by simp[T.bB]
attribute [go_sem] aI4 aI5 aI6
def eW(ks:LN):LI:=ks.map fun(k:Nat)=>(k:Int)
def aI7:∀(ks:LN) (a b:Nat),a<b->(∀x∈ks,x<13)->aS a ks<b*13^ks.length:=by
 intro ks;induction ks with
 |nil=>intro a b h _;simpa[az3]using h
 |cons k ks ih=>
  intro a b h hk;rw[mX,List.length_cons,Nat.pow_succ,Nat.mul_comm (13^ks.length) 13,←Nat.mul_assoc];have:=hk k sA;exact ih _ _ om fun x hx=>hk x (by simp[hx])
def vq{a:Nat}{ks:LN}(ha:a<=8)(h5:ks.length<=5)(hk:∀x∈ks,x<13):aS a ks<10000000:=by
 have h1:=aI7 ks a 9 om hk;have h2:13^ks.length<=13^5:=Nat.pow_le_pow_right om h5;have h3:9*13^ks.length<=9*13^5:=Nat.mul_le_mul_left _ h2;have:9*13^5=3341637:=dc;omega
def xK(a:Nat)(ks:LN)(k:Nat):aS a (ks++[k])=aS a ks*13+k:=by simp[aS]
def Fl(a:Nat)(ks:LN)(ha:a<=8)(h5:ks.length<=5)(hk:∀x∈ks,x<13):Pr 158 [.i a,ints (eW ks)] (.i (aS a ks)):=by
 refine ao0 sA (ab ?_);have mK:(eW ks).length=ks.length:=by simp[eW]
 refine lN (fun i=>St.of [(0,.t (.i (aS a (ks.take i)))),(7,.t (ints (eW ks))),(8,.t (.i ks.length)),(9,.t (.i i))] []) (fun i=>i<=ks.length) (fun i=>ks.length-i) 0 (aj.o _ [] [] ?_ trivial) (fun i hi R hn hr he=>?_)
 ·refine bZ mK ?_;exact .inr (.inl rfl)
 ·rcases qH i ks.length with h9|h9
  ·obtain⟨k,hx⟩:∃k,ks[i]? =some k:=⟨_,qB h9⟩;have hx':(eW ks)[i]? =some (k:Int):=by rw[eW,qU,hx];rfl
   have hkk:=hk k (qE hx);have hb:=vq (ks:=ks.take i) ha (by rw[qL];omega) fun x h=>hk x (rU h);have hw1:IntKind.i64.wrap ((aS a (ks.take i):Int)*13)=((aS a (ks.take i)*13:Nat):Int):=by rw[wrap64 om om];omega
   have dr:IntKind.i64.wrap (((aS a (ks.take i)*13:Nat):Int)+(k:Int))=((aS a (ks.take (i+1)):Nat):Int):=by rw[wrap64 om om,bG hx,xK];omega
   refine aB (bM hx' (dt ((i:Int)<(ks.length:Int))) hw1 dr mK) ?_;refine hn _ (i+1) (aj.o _ [] [] ?_ trivial);exact bZ (aw h9 om) trivial
  ·refine aa (dF ((i:Int)<(ks.length:Int))) ?_;refine he _ _ (ab ?_);rw[qQ h9]
def nH(M:Nat)(m:Nat->Bool):Prop:=M<2^13/\∀r,r<13->M.testBit r=m r
def nH.vr(h:nH M m):M<2^64:=Nat.lt_of_lt_of_le h.1 (Nat.pow_le_pow_right om om)
def aI8:M&&&31=31↔M.testBit 0=true/\M.testBit 1=true/\M.testBit 2=true/\M.testBit 3=true/\M.testBit 4=true:=by
 constructor
 ·intro h;have key:∀i,i<5->M.testBit i=true:=fun i hi=>by
   have h1:(M&&&31).testBit i=(31:Nat).testBit i:=(by rw[h]);rw[Nat.testBit_and]at h1;have h2:(31:Nat).testBit i=true:=by
    have:i=0∨i=1∨i=2∨i=3∨i=4:=om;rcases this with rfl|rfl|rfl|rfl|rfl<;>decide
   rw[h2,Bool.and_true]at h1;exact h1
  exact⟨key 0 om,key 1 om,key 2 om,key 3 om,key 4 om⟩
 ·rintro⟨h0,h1,h2,h3,h4⟩;refine Nat.eq_of_testBit_eq fun i=>?_;rw[Nat.testBit_and];rcases qH i 5 with hi|hi
  ·have:i=0∨i=1∨i=2∨i=3∨i=4:=om;rcases this with rfl|rfl|rfl|rfl|rfl<;>simp[*]
  ·rw[Nat.testBit_lt_two_pow (x:=31) (i:=i) (Nat.lt_of_lt_of_le (by decide:31<2^5) (Nat.pow_le_pow_right om hi)),Bool.and_false]
def aI9(h:nH M m){t:Nat}(h4:4<=t)(h12:t<=12):rb .u64 (uj .u64 (M:Int) ((t-4:Nat):Int)) 31=31↔fN m t=true:=by
 rw[QL om,show(31:Int)=((31:Nat):Int) from rfl,Jv (Nat.lt_of_le_of_lt (Nat.shiftRight_le _ _) h.vr) dc];rw[Int.ofNat_inj,aI8];simp only[Nat.testBit_shiftRight,fN,qM];rw[h.2 _ om,h.2 _ om,h.2 _ om,h.2 _ om,h.2 _ om];rw[show t-4+0=t-4 by omega,show t-4+1=t-3 by omega,show t-4+2=t-2 by omega,show t-4+3=t-1 by omega,show t-4+4=t by omega];constructor
 ·rintro⟨a,b,c,d,e⟩;exact⟨⟨⟨⟨e,d⟩,c⟩,b⟩,a⟩
 ·rintro⟨⟨⟨⟨e,d⟩,c⟩,b⟩,a⟩;exact⟨a,b,c,d,e⟩
def aJ0(h:nH M m):rb .u64 (M:Int) 4111=4111↔kV m=true:=by
 rw[show(4111:Int)=((4111:Nat):Int) from rfl,Jv h.vr dc,Int.ofNat_inj];have key:M&&&4111=4111↔M.testBit 0=true/\M.testBit 1=true/\M.testBit 2=true/\M.testBit 3=true/\M.testBit 12=true:=by
  constructor
  ·intro h;have key:∀i,(4111:Nat).testBit i=true->M.testBit i=true:=fun i hi=>by
    have h1:(M&&&4111).testBit i=(4111:Nat).testBit i:=(by rw[h]);rw[Nat.testBit_and,hi,Bool.and_true]at h1;exact h1
   exact⟨key 0 dc,key 1 dc,key 2 dc,key 3 dc,key 12 dc⟩
  ·rintro⟨h0,h1,h2,h3,h4⟩;refine Nat.eq_of_testBit_eq fun i=>?_;rw[Nat.testBit_and];rcases qH i 13 with hi|hi
   ·have:i=0∨i=1∨i=2∨i=3∨i=4∨i=5∨i=6∨i=7∨i=8∨i=9∨i=10∨i=11∨i=12:=om;rcases this with rfl|rfl|rfl|rfl|rfl|rfl|rfl|rfl|rfl|rfl|rfl|rfl|rfl<;>simp[*]<;>exact fun h=>absurd h dc
   ·rw[Nat.testBit_lt_two_pow (x:=4111) (i:=i) (Nat.lt_of_lt_of_le (by decide:4111<2^13) (Nat.pow_le_pow_right om hi)),Bool.and_false]
 rw[key,h.2 _ om,h.2 _ om,h.2 _ om,h.2 _ om,h.2 _ om,kV];simp only[qM];constructor
 ·rintro⟨a,b,c,d,e⟩;exact⟨⟨⟨⟨a,b⟩,c⟩,d⟩,e⟩
 ·rintro⟨⟨⟨⟨a,b⟩,c⟩,d⟩,e⟩;exact⟨a,b,c,d,e⟩
def JV{p:α->Bool}{x:α}:∀{L:List α} {j:Nat},L[j]? =some x->p x=true->(∀i y,i<j->L[i]? =some y->p y=false)->L.find? p=some x:=by
 intro L;induction L with
 |nil=>intro j h;simp at h
 |cons a L ih=>
  intro j hj hp hb;cases j with
  |zero=>
   have:a=x:=sU hj;rw[List.find?_cons,this,hp]
  |succ j=>
   rw[List.find?_cons,hb 0 a om sA];exact ih (j:=j) (sU hj) hp fun i y hi hy=>hb (i+1) y om (sU hy)
def Rq{p:α->Bool}{L:List α}(h:∀(i:Nat) (y:α),L[i]? =some y->p y=false):L.find? p=none:=by
 rw[List.find?_eq_none];intro y hy;obtain⟨i,hi⟩:=List.mem_iff_getElem?.1 hy;simp[h i y hi]
def oQ:LN:=[12,11,10,9,8,7,6,5,4]
def zc(h:j<9):oQ[j]? =some (12-j):=by
 have:j=0∨j=1∨j=2∨j=3∨j=4∨j=5∨j=6∨j=7∨j=8:=om;rcases this with rfl|rfl|rfl|rfl|rfl|rfl|rfl|rfl|rfl<;>rfl
def iA(cat:Nat)(m:Nat->Bool):Int:=match dU m with|some ks=>(aS cat ks:Nat)|none=> -1
def sG(M cat:Nat)(m:Nat->Bool)(hM:nH M m)(hc:cat<=8):Pr 156 [.v (.int .u64 M),.i cat,.b true] (.i (iA cat m)):=by
 refine an8 sA (ab ?_);refine lN (fun j=>St.of [(0,.t (.v (.int .u64 M))),(1,.t (.i cat)),(2,.t (.b true)),(7,.t (.i ((12-j:Nat):Int)))] []) (fun j=>j<=9/\∀i,i<j->fN m (12-i)=false) (fun j=>9-j) 0 (aj.o _ [] [] ?_ trivial) (fun j hj R hn hr he=>?_) (hi:=⟨om,fun i h=>om⟩)
 ·refine ij ?_;exact .inr (.inl rfl)
 ·obtain⟨hj,hall⟩:=hj;rcases qH j 9 with h9|h9
  ·have e4:IntKind.i64.wrap (((12-j:Nat):Int)-4)=((12-j-4:Nat):Int):=by rw[wrap64 om om];omega
   have e1:IntKind.i64.wrap (((12-j:Nat):Int)-1)=((12-j-1:Nat):Int):=by rw[wrap64 om om];omega
   have e2:IntKind.i64.wrap (((12-j:Nat):Int)-2)=((12-j-2:Nat):Int):=by rw[wrap64 om om];omega
   have e3:IntKind.i64.wrap (((12-j:Nat):Int)-3)=((12-j-3:Nat):Int):=by rw[wrap64 om om];omega
   have hb:=aI9 hM (show 4<=12-j by omega) (show 12-j<=12 by omega);cases hrun:fN m (12-j)with
   |true=>
    have hb:=hb.2 hrun;refine aB (dZ (dt (((12-j:Nat):Int)≥ 4)) e4 hb (show((31:Int)==31)=true from rfl) e1 e2 e3) ?_;have hk:=Fl cat [12-j,12-j-1,12-j-2,12-j-3,12-j-4] hc sA (by simp;omega);simp only[eW,List.map_cons,List.map_nil]at hk;refine Px hk (ab ?_) (au:=[28]);refine hr _ ?_;have hs:dU m=some [12-j,12-j-1,12-j-2,12-j-3,12-j-4]:=by
     have hf:oQ.find? (fN m)=some (12-j):=JV (zc h9) hrun fun i y hi hy=>by
      rw[zc om]at hy;cases hy;exact hall i hi
     unfold dU;rw[show([12,11,10,9,8,7,6,5,4]:LN)=oQ from rfl,hf]
    exact aa (ah @iA.eq_1 hs) trivial
   |false=>
    have hb:rb .u64 (uj .u64 (M:Int) ((12-j-4:Nat):Int)) 31≠31:=fun e=>by rw[hb.1 e]at hrun;cases hrun
    refine aB (bf (dt (((12-j:Nat):Int)≥ 4)) e4 (beq_eq_false_iff_ne.2 hb) e1) ?_;refine hn _ (j+1) (aj.o _ [] [] ?_ trivial) ⟨om,fun i hi=>?_⟩
    ·exact bZ (show 12-(j+1)=12-j-1 by omega) trivial
    ·rcases qH i j with h|h
     ·exact hall i h
     ·rw[show i=j by omega];exact hrun
  ·have JW:j=9:=om;subst JW;have hno:oQ.find? (fN m)=none:=Rq fun i y hy=>by
    have hi:i<9:=by have:=(qK.1 hy).1;simpa[oQ]using this
    rw[zc hi]at hy;cases hy;exact hall i hi
   refine aa (dF (((12-9:Nat):Int)≥ 4)) ?_;refine he _ _ ?_;have hb:=aJ0 hM;cases hw:kV m with
   |true=>
    have hs:dU m=some [3,2,1,0,12]:=by
     unfold dU;rw[show([12,11,10,9,8,7,6,5,4]:LN)=oQ from rfl,hno];simp[hw]
    refine aa (ah (hb.2 hw) (show((4111:Int)==4111)=true from rfl)) ?_;have hk:=Fl cat [3,2,1,0,12] hc sA sA;simp only[eW,List.map_cons,List.map_nil]at hk;refine Px hk (ab ?_) (au:=[37]);rw[iA,hs]
   |false=>
    have hs:dU m=none:=by
     unfold dU;rw[show([12,11,10,9,8,7,6,5,4]:LN)=oQ from rfl,hno];simp[hw]
    have hb:rb .u64 (M:Int) 4111≠4111:=fun e=>by rw[hb.1 e]at hw;cases hw
    refine aa (beq_eq_false_iff_ne.2 hb) ?_;rw[iA,hs]
def gG(m:Nat->Bool)(j:Nat):LN:=(mY.take j).filter m
def Fm(h:j<13):mY[j]? =some (12-j):=by
 have:j=0∨j=1∨j=2∨j=3∨j=4∨j=5∨j=6∨j=7∨j=8∨j=9∨j=10∨j=11∨j=12:=om;rcases this with rfl|rfl|rfl|rfl|rfl|rfl|rfl|rfl|rfl|rfl|rfl|rfl|rfl<;>rfl
def aJ1(h:j<13):gG m (j+1)=gG m j++if m (12-j)then [12-j]else []:=by
 rw[gG,bG (Fm h),List.filter_append,gG];cases hm:m (12-j)<;>simp[hm]
def Rr(m:Nat->Bool)(j:Nat):gG m j=(cA m).take (gG m j).length:=by
 have h:cA m=gG m j++(mY.drop j).filter m:=by rw[cA,gG,←List.filter_append,List.take_append_drop]
 rw[h,List.take_left'];rfl
def aJ2(m:Nat->Bool):gG m 13=cA m:=rfl
def aJ3{x:Nat}(h:x∈gG m j):x<13:=by
 rw[Rr]at h;exact(jB.1 (rU h)).1
def BN(M cat:Nat)(m:Nat->Bool)(ks:LN)(hM:nH M m)(hc:cat<=8)(h5:ks.length<=5)(hk:∀x∈ks,x<13)(hlen:5<=ks.length+(cA m).length):
  Pr 157 [.i cat,.v (.int .u64 M),ints (eW ks)] (.i (aS cat (ks++(cA m).take (5-ks.length)))):=by
 refine an9 sA (ab ?_);refine Px (Fl cat ks hc h5 hk) (ab ?_);have mK:(eW ks).length=ks.length:=by simp[eW]
 refine lN (fun j=>St.of [(1,.t (.v (.int .u64 M))),(7,.t (.i (aS cat (ks++gG m j):Nat))),(8,.t (.i (ks.length+(gG m j).length:Nat))),(9,.t (.i (12-(j:Int))))] []) (fun j=>j<=13/\ks.length+(gG m j).length<=5) (fun j=>13-j) 0 (aj.o _ [] [] ?_ trivial) (fun j hj R hn hr he=>?_) (hi:=⟨om,by simp[gG];exact h5⟩)
 ·have e0:gG m 0=[]:=rfl;refine bZ (ay mK e0 @List.append_nil.{0}) ?_;exact⟨.inr (.inl rfl),.inr (.inl rfl)⟩
 ·obtain⟨hj,hle⟩:=hj;rcases qH (ks.length+(gG m j).length) 5 with h9|h9
  ·have JX:j<13:=by
    apply rG;intro h;have:j=13:=om;subst this;rw[aJ2]at h9;omega
   have ej:(12-(j:Int))=((12-j:Nat):Int):=om;have qk:IntKind.i64.wrap (((12-j:Nat):Int)-1)=12-((j+1:Nat):Int):=by rw[wrap64 om om];omega
   have pB:=aJ1 (m:=m) JX;have hb:=hM.2 (12-j) om;cases hm:m (12-j)with
   |true=>
    rw[hm,if_pos rfl]at pB;have hkb:=vq (ks:=ks++gG m j) hc (by rw[qD];omega) fun x hx=>by
     rcases qI.1 hx with h|h
     ·exact hk x h
     ·exact aJ3 h
    have hw1:IntKind.i64.wrap ((aS cat (ks++gG m j):Int)*13)=((aS cat (ks++gG m j)*13:Nat):Int):=by rw[wrap64 om om];omega
    have dr:IntKind.i64.wrap (((aS cat (ks++gG m j)*13:Nat):Int)+((12-j:Nat):Int))=((aS cat (ks++gG m (j+1)):Nat):Int):=by
     rw[wrap64 om om,pB,←qW,xK];omega
    have lP:IntKind.i64.wrap (((ks.length+(gG m j).length:Nat):Int)+1)=((ks.length+(gG m (j+1)).length:Nat):Int):=by
     rw[wrap64 om om,pB,qD];simp only[List.length_cons,List.length_nil];omega
    have hle2:ks.length+(gG m (j+1)).length<=5:=by rw[pB,qD];simp only[List.length_cons,List.length_nil];omega
    simp -implicitDefEqProofs only[c8,go_sem,decide_eq_true (show((ks.length+(gG m j).length:Nat):Int)<5 by omega),ej,E3 (a:=M) (n:=12-j) (by omega) hM.vr,hb,hm,show((1:Int)==1)=true from rfl,hw1,dr,lP,qk];exact⟨om,hn _ (j+1) tF ⟨om,hle2⟩⟩
   |false=>
    rw[hm,if_neg sA,List.append_nil]at pB;simp -implicitDefEqProofs only[c8,go_sem,decide_eq_true (show((ks.length+(gG m j).length:Nat):Int)<5 by omega),ej,E3 (a:=M) (n:=12-j) (by omega) hM.vr,hb,hm,show((0:Int)==1)=false from rfl,qk];exact⟨om,hn _ (j+1) (eU pB) ⟨om,by rw[pB];exact hle⟩⟩
  ·refine aa (decide_eq_false (show¬((ks.length+(gG m j).length:Nat):Int)<5 by omega)) ?_;refine he _ _ (ab ?_);have e:=Rr m j;rw[show(gG m j).length=5-ks.length by omega]at e;rw[e]
end
end Go.Ab
