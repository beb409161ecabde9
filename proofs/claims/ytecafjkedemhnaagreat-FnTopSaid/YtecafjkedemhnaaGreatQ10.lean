import Derived.Test.YtecafjkedemhnaaGreatQ9
set_option maxRecDepth 20000
set_option linter.all false
namespace Go.Ab
open Go.Proofs
variable{a b k n v:Nat}{m:Nat->Bool}{c:Nat->Nat}{xs ys:LN}{f:LI}
def ay1(l:LA)(k:Nat)(x:T):T.cr (l.set k x)=(T.cr l).set k x.bB:=by
 induction l generalizing k with
 |nil=>simp[T.cr]
 |cons y l ih=>cases k<;>simp[T.cr,ih]
def kU(l:LI):T.cr (l.map T.i)=l.map T.i:=by
 induction l with
 |nil=>simp[T.cr]
 |cons y l ih=>simp[T.cr,T.bB,ih]
def Bn(l:List Bool):T.cr (l.map T.b)=l.map T.b:=by
 induction l with
 |nil=>simp[T.cr]
 |cons y l ih=>simp[T.cr,T.bB,ih]
def Qj(v:Value):(T.v v).bB= .v v:=by simp[T.bB]
def ay2(n:Nat)(v:Value):T.cr (List.replicate n (T.v v))=List.replicate n (T.v v):=by
 induction n with
 |zero=>simp[T.cr]
 |succ n ih=>simp[List.replicate_succ,T.cr,Qj,ih]
attribute [go_sem] ay1 kU Bn Qj ay2
section
attribute [-go_sem] bC bF bK bE bH bL
def ay3(b:Bt)(l:c9 n b)(a:Int×Int)(hh:hasB b b.tn=true)(hl:gD (fT b) a=true):FR 100 [.t (aR b),.t (iM a)] (eh (g9 b a)):=by
 obtain⟨h1,h2,h3,h4,h5⟩:=l.at l.tn;have tn:=l.tn;have e1:=l.st;have e2:=l.bt;have e3:=l.pd;have e4:=l.fo;have e5:=l.ac;have n6:=l.n6;have n2:=l.n2;obtain⟨⟨t1,t2⟩,t3,t4,t5,t6,t7,t8,t9⟩:=Be l hl;have hs0:=l.xs _ l.tn;have hb0:=l.xb _ l.tn;have br:=Qi b l;have dz:=Ey b.bt (List.ne_nil_of_length_pos om) om;rw[show fK b.bt=aG b from rfl]at dz;refine au2 sA ?_;simp only[aR,aC,eh,eP,ae]at br;refine aa (ay @aR.eq_1 @aC.eq_1 @iM.eq_1) ?_;refine Rx br (dA ?_);refine⟨_,wT (wO 2 0 501) (wT (wO 2 1 502) (wT (wO 2 2 503) (wT (wO 2 3 504) (wO 2 4 505)))),bP ?_⟩;obtain⟨ka,am⟩:=a
 (try simp only[]at*)
 have hk:ka=0∨ka=1∨ka=2∨ka=3:=om;have hM:b.bt.getD b.tn 0<=aG b:=mW (by rw[l.bt];exact l.tn);have Bo:aG b<=100000:=by obtain⟨i,hi,he⟩:=tI (l:=b.bt) om;rw[aG,←he];exact(l.xb i om).2
 have hM0:0<=aG b:=om;rcases hk with rfl|rfl|rfl|rfl
 ·have dB:g8 b (0,am)=b.bt.getD b.tn 0:=rfl;simp only[dB]at t1 t2 t3 t4 t5 t6 t7;have hf:¬lW b (0,am):=fun h=>by have:=h.1;simp at this
  have w1:IntKind.i64.wrap (b.bt.getD b.tn 0-b.bt.getD b.tn 0)=b.bt.getD b.tn 0-b.bt.getD b.tn 0:=wrap64 om om;have w2:IntKind.i64.wrap (b.st.getD b.tn 0-(b.bt.getD b.tn 0-b.bt.getD b.tn 0))=b.st.getD b.tn 0-(b.bt.getD b.tn 0-b.bt.getD b.tn 0):=wrap64 om om;have ht:=uY (bI b (0,am)) (l.act hl) ((b.tn+1)%n) b.tn (Nat.mod_lt _ om);simp only[aR,aC,ints,bI,hf,dB,Int.reduceEq,ne_eq,false_and,true_and,and_true,not_true,not_false_eq_true,if_false,if_true,List.map_set,e5]at ht;refine V dz (bQ (ah h2 @qJ.{0,0}) ?_) (au:=[502]);refine⟨_,aj.refl _ _,bQ (dZ h1 h2 w1 w2 e1 e5 @qJ.{0,0}) ?_⟩;refine V (nA b.tn n tn om) (bP ?_);refine V ht (bP ?_) (au:=[501,502,503,504,505]);simp only[eh,eP,ae,g9,bI,hf,dB,Int.reduceEq,ne_eq,false_and,true_and,and_true,not_true,not_false_eq_true,if_false,if_true,List.map_set,e5,e1]
 ·have dB:g8 b (1,am)=b.bt.getD b.tn 0:=rfl;simp only[dB]at t1 t2 t3 t4 t5 t6 t7;have hf:¬lW b (1,am):=fun h=>by have:=h.1;simp at this
  have w1:IntKind.i64.wrap (b.bt.getD b.tn 0-b.bt.getD b.tn 0)=b.bt.getD b.tn 0-b.bt.getD b.tn 0:=wrap64 om om;have w2:IntKind.i64.wrap (b.st.getD b.tn 0-(b.bt.getD b.tn 0-b.bt.getD b.tn 0))=b.st.getD b.tn 0-(b.bt.getD b.tn 0-b.bt.getD b.tn 0):=wrap64 om om;have ht:=uY (bI b (1,am)) (l.act hl) ((b.tn+1)%n) b.tn (Nat.mod_lt _ om);simp only[aR,aC,ints,bI,hf,dB,Int.reduceEq,ne_eq,false_and,true_and,and_true,not_true,not_false_eq_true,if_false,if_true,List.map_set,e5]at ht;refine V dz (bQ (ah h2 @qJ.{0,0}) ?_) (au:=[502]);refine⟨_,aj.refl _ _,bQ (dZ h1 h2 w1 w2 e1 e5 @qJ.{0,0}) ?_⟩;refine V (nA b.tn n tn om) (bP ?_);refine V ht (bP ?_) (au:=[501,502,503,504,505]);simp only[eh,eP,ae,g9,bI,hf,dB,Int.reduceEq,ne_eq,false_and,true_and,and_true,not_true,not_false_eq_true,if_false,if_true,List.map_set,e5,e1]
 ·have dB:g8 b (2,am)=(b.bt.getD b.tn 0+min (aG b-b.bt.getD b.tn 0) (b.st.getD b.tn 0)):=rfl;simp only[dB]at t1 t2 t3 t4 t5 t6 t7;have hf:¬lW b (2,am):=fun h=>by have:=h.1;simp at this
  have w3:IntKind.i64.wrap (aG b-b.bt.getD b.tn 0)=aG b-b.bt.getD b.tn 0:=wrap64 om om;have w4:IntKind.i64.wrap (b.bt.getD b.tn 0+min (aG b-b.bt.getD b.tn 0) (b.st.getD b.tn 0))=b.bt.getD b.tn 0+min (aG b-b.bt.getD b.tn 0) (b.st.getD b.tn 0):=wrap64 om om;have w1:IntKind.i64.wrap ((b.bt.getD b.tn 0+min (aG b-b.bt.getD b.tn 0) (b.st.getD b.tn 0))-b.bt.getD b.tn 0)=(b.bt.getD b.tn 0+min (aG b-b.bt.getD b.tn 0) (b.st.getD b.tn 0))-b.bt.getD b.tn 0:=wrap64 om om;have w2:IntKind.i64.wrap (b.st.getD b.tn 0-((b.bt.getD b.tn 0+min (aG b-b.bt.getD b.tn 0) (b.st.getD b.tn 0))-b.bt.getD b.tn 0))=b.st.getD b.tn 0-((b.bt.getD b.tn 0+min (aG b-b.bt.getD b.tn 0) (b.st.getD b.tn 0))-b.bt.getD b.tn 0):=wrap64 om om;have ht:=uY (bI b (2,am)) (l.act hl) ((b.tn+1)%n) b.tn (Nat.mod_lt _ om);simp only[aR,aC,ints,bI,hf,dB,Int.reduceEq,ne_eq,false_and,true_and,and_true,not_true,not_false_eq_true,if_false,if_true,List.map_set,e5]at ht;refine V dz (bQ (c5 h1 h2 e1 @qJ.{0,0} w3 w4) ?_) (au:=[502]);refine⟨_,aj.refl _ _,bQ (dZ h1 h2 w1 w2 e1 e5 @qJ.{0,0}) ?_⟩;refine V (nA b.tn n tn om) (bP ?_);refine V ht (bP ?_) (au:=[501,502,503,504,505]);simp only[eh,eP,ae,g9,bI,hf,dB,Int.reduceEq,ne_eq,false_and,true_and,and_true,not_true,not_false_eq_true,if_false,if_true,List.map_set,e5,e1]
 ·by_cases hf:lW b (3,am)
  ·have ja:=decide_eq_true hf.2;by_cases i6:b.lm=2
   ·have dB:g8 b (3,am)=am:=rfl;simp only[dB]at t1 t2 t3 t4 t5 t6 t7;have w5:IntKind.i64.wrap (b.ra+1)=b.ra+1:=by have:=l.ra;exact wrap64 om om
    have w6:IntKind.i64.wrap (aG b+b.un)=aG b+b.un:=by have:=l.un;exact wrap64 om om
    have w7:IntKind.i64.wrap (am-aG b)=am-aG b:=by have:=l.un;exact wrap64 om om
    have bO:(b.lm !=2)=false:=(by simp[i6]);have fb:=eq_true i6;have w1:IntKind.i64.wrap (am-b.bt.getD b.tn 0)=am-b.bt.getD b.tn 0:=wrap64 om om;have w2:IntKind.i64.wrap (b.st.getD b.tn 0-(am-b.bt.getD b.tn 0))=b.st.getD b.tn 0-(am-b.bt.getD b.tn 0):=wrap64 om om;have ht:=uY (bI b (3,am)) (l.act hl) ((b.tn+1)%n) b.tn (Nat.mod_lt _ om);simp only[aR,aC,ints,bI,hf,fb,dB,Int.reduceEq,ne_eq,true_and,and_true,and_false,not_true,not_false_eq_true,if_false,if_true,List.map_set,List.map_replicate,e5]at ht;refine V dz (bQ (dZ h2 e5 @qJ.{0,0} w5 w6 ja bO) ?_) (au:=[502]);refine⟨_,aj.refl _ _,bQ (dZ h1 h2 w1 w2 e1 @qJ.{0,0} @List.length_replicate.{0}) ?_⟩;refine V (nA b.tn n tn om) (bP ?_);refine V ht (bP ?_) (au:=[501,502,503,504,505]);simp only[eh,eP,ae,g9,bI,hf,fb,dB,Int.reduceEq,ne_eq,true_and,and_true,and_false,not_true,not_false_eq_true,if_false,if_true,List.map_set,List.map_replicate,e5,e1]
   ·have dB:g8 b (3,am)=am:=rfl;simp only[dB]at t1 t2 t3 t4 t5 t6 t7;have w5:IntKind.i64.wrap (b.ra+1)=b.ra+1:=by have:=l.ra;exact wrap64 om om
    have w6:IntKind.i64.wrap (aG b+b.un)=aG b+b.un:=by have:=l.un;exact wrap64 om om
    have w7:IntKind.i64.wrap (am-aG b)=am-aG b:=by have:=l.un;exact wrap64 om om
    have bO:(b.lm !=2)=true:=(by simp[i6]);have fb:=eq_false i6;have w1:IntKind.i64.wrap (am-b.bt.getD b.tn 0)=am-b.bt.getD b.tn 0:=wrap64 om om;have w2:IntKind.i64.wrap (b.st.getD b.tn 0-(am-b.bt.getD b.tn 0))=b.st.getD b.tn 0-(am-b.bt.getD b.tn 0):=wrap64 om om;have ht:=uY (bI b (3,am)) (l.act hl) ((b.tn+1)%n) b.tn (Nat.mod_lt _ om);simp only[aR,aC,ints,bI,hf,fb,dB,Int.reduceEq,ne_eq,true_and,and_true,not_true,not_false_eq_true,if_false,if_true,List.map_set,List.map_replicate,e5]at ht;refine V dz (bQ (jz h2 e5 @qJ.{0,0} w5 w6 w7 ja bO) ?_) (au:=[502]);refine⟨_,aj.refl _ _,bQ (dZ h1 h2 w1 w2 e1 @qJ.{0,0} @List.length_replicate.{0}) ?_⟩;refine V (nA b.tn n tn om) (bP ?_);refine V ht (bP ?_) (au:=[501,502,503,504,505]);simp only[eh,eP,ae,g9,bI,hf,fb,dB,Int.reduceEq,ne_eq,true_and,and_true,not_true,not_false_eq_true,if_false,if_true,List.map_set,List.map_replicate,e5,e1]
  ·have ja:decide (am ≥ aG b+b.un)=false:=decide_eq_false fun h=>hf ⟨rfl,h⟩
   skip
   have dB:g8 b (3,am)=am:=rfl;simp only[dB]at t1 t2 t3 t4 t5 t6 t7;have w5:IntKind.i64.wrap (b.ra+1)=b.ra+1:=by have:=l.ra;exact wrap64 om om
   have w6:IntKind.i64.wrap (aG b+b.un)=aG b+b.un:=by have:=l.un;exact wrap64 om om
   have w7:IntKind.i64.wrap (am-aG b)=am-aG b:=by have:=l.un;exact wrap64 om om
   have w1:IntKind.i64.wrap (am-b.bt.getD b.tn 0)=am-b.bt.getD b.tn 0:=wrap64 om om;have w2:IntKind.i64.wrap (b.st.getD b.tn 0-(am-b.bt.getD b.tn 0))=b.st.getD b.tn 0-(am-b.bt.getD b.tn 0):=wrap64 om om;have ht:=uY (bI b (3,am)) (l.act hl) ((b.tn+1)%n) b.tn (Nat.mod_lt _ om);simp only[aR,aC,ints,bI,hf,dB,Int.reduceEq,ne_eq,false_and,true_and,and_true,not_true,not_false_eq_true,if_false,if_true,List.map_set,e5]at ht;refine V dz (bQ (bM h2 @qJ.{0,0} w5 w6 ja) ?_) (au:=[502]);refine⟨_,aj.refl _ _,bQ (dZ h1 h2 w1 w2 e1 e5 @qJ.{0,0}) ?_⟩;refine V (nA b.tn n tn om) (bP ?_);refine V ht (bP ?_) (au:=[501,502,503,504,505]);simp only[eh,eP,ae,g9,bI,hf,dB,Int.reduceEq,ne_eq,false_and,true_and,and_true,not_true,not_false_eq_true,if_false,if_true,List.map_set,e5,e1]
def ay4(b:Bt)(l:c9 n b)(a:Int×Int)(hl:gD (fT b) a=true):FR 118 [.t (aR b),.t (iM a)] (eh (g9 b a)):=by
 obtain⟨h1,h2,h3,h4,h5⟩:=l.at l.tn;have tn:=l.tn;have e1:=l.st;have e2:=l.bt;have e3:=l.pd;have e4:=l.fo;have e5:=l.ac;have n6:=l.n6;have n2:=l.n2;obtain⟨⟨t1,t2⟩,t3,t4,t5,t6,t7,t8,t9⟩:=Be l hl;have hs0:=l.xs _ l.tn;have hb0:=l.xb _ l.tn;have br:=ay0 b l;have dz:=I9 b l;refine au4 sA ?_;simp only[aR,aC,eh,eP,ae]at br dz;refine aa (ay @aR.eq_1 @aC.eq_1 @iM.eq_1) ?_;refine Rx br (dA ?_);obtain⟨ka,am⟩:=a
 (try simp only[]at*)
 have hk:ka=0∨ka=1∨ka=2∨ka=3:=om;have hM:b.bt.getD b.tn 0<=aG b:=mW (by rw[l.bt];exact l.tn);have Bo:aG b<=100000:=by obtain⟨i,hi,he⟩:=tI (l:=b.bt) om;rw[aG,←he];exact(l.xb i om).2
 have hM0:0<=aG b:=om;rcases hk with rfl|rfl|rfl|rfl
 ·have dB:g8 b (0,am)=b.bt.getD b.tn 0:=rfl;simp only[dB]at t1 t2 t3 t4 t5 t6 t7;have hf:¬lW b (0,am):=fun h=>by have:=h.1;simp at this
  have w1:IntKind.i64.wrap (b.bt.getD b.tn 0-b.bt.getD b.tn 0)=b.bt.getD b.tn 0-b.bt.getD b.tn 0:=wrap64 om om;have w2:IntKind.i64.wrap (b.st.getD b.tn 0-(b.bt.getD b.tn 0-b.bt.getD b.tn 0))=b.st.getD b.tn 0-(b.bt.getD b.tn 0-b.bt.getD b.tn 0):=wrap64 om om;have ht:=uZ (bI b (0,am)) (l.act hl) b.tn tn;simp only[aR,aC,ints,bI,hf,dB,Int.reduceEq,ne_eq,false_and,true_and,and_true,not_true,not_false_eq_true,if_false,if_true,List.map_set,e5]at ht;refine V dz (bQ (ah h2 @qJ.{0,0}) ?_);refine⟨_,wT (wO 5 0 501) (wT (wO 5 2 503) (wO 5 4 505)),bQ (dZ h1 h2 w1 w2 e1 e5 @qJ.{0,0}) ?_⟩;refine Px ht (bP ?_) (au:=[501,16,503,25,505]);simp only[eh,eP,ae,g9,bI,hf,dB,Int.reduceEq,ne_eq,false_and,true_and,and_true,not_true,not_false_eq_true,if_false,if_true,List.map_set,e5,e1]
 ·have dB:g8 b (1,am)=b.bt.getD b.tn 0:=rfl;simp only[dB]at t1 t2 t3 t4 t5 t6 t7;have hf:¬lW b (1,am):=fun h=>by have:=h.1;simp at this
  have w1:IntKind.i64.wrap (b.bt.getD b.tn 0-b.bt.getD b.tn 0)=b.bt.getD b.tn 0-b.bt.getD b.tn 0:=wrap64 om om;have w2:IntKind.i64.wrap (b.st.getD b.tn 0-(b.bt.getD b.tn 0-b.bt.getD b.tn 0))=b.st.getD b.tn 0-(b.bt.getD b.tn 0-b.bt.getD b.tn 0):=wrap64 om om;have ht:=uZ (bI b (1,am)) (l.act hl) b.tn tn;simp only[aR,aC,ints,bI,hf,dB,Int.reduceEq,ne_eq,false_and,true_and,and_true,not_true,not_false_eq_true,if_false,if_true,List.map_set,e5]at ht;refine V dz (bQ (ah h2 @qJ.{0,0}) ?_);refine⟨_,wT (wO 5 0 501) (wT (wO 5 2 503) (wT (wO 5 3 504) (wO 5 4 505))),bQ (dZ h1 h2 w1 w2 e1 e5 @qJ.{0,0}) ?_⟩;refine Px ht (bP ?_) (au:=[501,16,503,504,505]);simp only[eh,eP,ae,g9,bI,hf,dB,Int.reduceEq,ne_eq,false_and,true_and,and_true,not_true,not_false_eq_true,if_false,if_true,List.map_set,e5,e1]
 ·have dB:g8 b (2,am)=(b.bt.getD b.tn 0+min (aG b-b.bt.getD b.tn 0) (b.st.getD b.tn 0)):=rfl;simp only[dB]at t1 t2 t3 t4 t5 t6 t7;have hf:¬lW b (2,am):=fun h=>by have:=h.1;simp at this
  have w3:IntKind.i64.wrap (aG b-b.bt.getD b.tn 0)=aG b-b.bt.getD b.tn 0:=wrap64 om om;have w4:IntKind.i64.wrap (b.bt.getD b.tn 0+min (aG b-b.bt.getD b.tn 0) (b.st.getD b.tn 0))=b.bt.getD b.tn 0+min (aG b-b.bt.getD b.tn 0) (b.st.getD b.tn 0):=wrap64 om om;have w1:IntKind.i64.wrap ((b.bt.getD b.tn 0+min (aG b-b.bt.getD b.tn 0) (b.st.getD b.tn 0))-b.bt.getD b.tn 0)=(b.bt.getD b.tn 0+min (aG b-b.bt.getD b.tn 0) (b.st.getD b.tn 0))-b.bt.getD b.tn 0:=wrap64 om om;have w2:IntKind.i64.wrap (b.st.getD b.tn 0-((b.bt.getD b.tn 0+min (aG b-b.bt.getD b.tn 0) (b.st.getD b.tn 0))-b.bt.getD b.tn 0))=b.st.getD b.tn 0-((b.bt.getD b.tn 0+min (aG b-b.bt.getD b.tn 0) (b.st.getD b.tn 0))-b.bt.getD b.tn 0):=wrap64 om om;have ht:=uZ (bI b (2,am)) (l.act hl) b.tn tn;simp only[aR,aC,ints,bI,hf,dB,Int.reduceEq,ne_eq,false_and,true_and,and_true,not_true,not_false_eq_true,if_false,if_true,List.map_set,e5]at ht;refine V dz (bQ (c5 h1 h2 e1 @qJ.{0,0} w3 w4) ?_);refine⟨_,wT (wO 5 2 503) (wT (wO 5 3 504) (wO 5 4 505)),bQ (dZ h1 h2 w1 w2 e1 e5 @qJ.{0,0}) ?_⟩;refine Px ht (bP ?_) (au:=[35,16,503,504,505]);simp only[eh,eP,ae,g9,bI,hf,dB,Int.reduceEq,ne_eq,false_and,true_and,and_true,not_true,not_false_eq_true,if_false,if_true,List.map_set,e5,e1]
 ·by_cases hf:lW b (3,am)
  ·have ja:=eq_true hf.2;by_cases i6:b.lm=2
   ·have dB:g8 b (3,am)=am:=rfl;simp only[dB]at t1 t2 t3 t4 t5 t6 t7;have w5:IntKind.i64.wrap (b.ra+1)=b.ra+1:=by have:=l.ra;exact wrap64 om om
    have w6:IntKind.i64.wrap (aG b+b.un)=aG b+b.un:=by have:=l.un;exact wrap64 om om
    have w7:IntKind.i64.wrap (am-aG b)=am-aG b:=by have:=l.un;exact wrap64 om om
    have bO:(b.lm !=2)=false:=(by simp[i6]);have fb:=eq_true i6;have w1:IntKind.i64.wrap (am-b.bt.getD b.tn 0)=am-b.bt.getD b.tn 0:=wrap64 om om;have w2:IntKind.i64.wrap (b.st.getD b.tn 0-(am-b.bt.getD b.tn 0))=b.st.getD b.tn 0-(am-b.bt.getD b.tn 0):=wrap64 om om;have ht:=uZ (bI b (3,am)) (l.act hl) b.tn tn;simp only[aR,aC,ints,bI,hf,fb,dB,Int.reduceEq,ne_eq,true_and,and_true,and_false,not_true,not_false_eq_true,if_false,if_true,List.map_set,List.map_replicate,e5]at ht;refine V dz (bQ (tC h2 e5 @qJ.{0,0} w5 w6 ja bO @Nat.mul_one @fe) ?_);refine⟨_,wT (wO 5 0 501) (wT (wO 5 2 503) (wT (wO 5 3 504) (wO 5 4 505))),bQ (jz h1 h2 w1 w2 e1 @qJ.{0,0} @List.length_replicate.{0} @Nat.mul_one) ?_⟩;refine Px ht (bP ?_) (au:=[501,16,503,504,505]);simp only[eh,eP,ae,g9,bI,hf,fb,dB,Int.reduceEq,ne_eq,true_and,and_true,and_false,not_true,not_false_eq_true,if_false,if_true,List.map_set,List.map_replicate,e5,e1]
   ·have dB:g8 b (3,am)=am:=rfl;simp only[dB]at t1 t2 t3 t4 t5 t6 t7;have w5:IntKind.i64.wrap (b.ra+1)=b.ra+1:=by have:=l.ra;exact wrap64 om om
    have w6:IntKind.i64.wrap (aG b+b.un)=aG b+b.un:=by have:=l.un;exact wrap64 om om
    have w7:IntKind.i64.wrap (am-aG b)=am-aG b:=by have:=l.un;exact wrap64 om om
    have bO:(b.lm !=2)=true:=(by simp[i6]);have fb:=eq_false i6;have w1:IntKind.i64.wrap (am-b.bt.getD b.tn 0)=am-b.bt.getD b.tn 0:=wrap64 om om;have w2:IntKind.i64.wrap (b.st.getD b.tn 0-(am-b.bt.getD b.tn 0))=b.st.getD b.tn 0-(am-b.bt.getD b.tn 0):=wrap64 om om;have ht:=uZ (bI b (3,am)) (l.act hl) b.tn tn;simp only[aR,aC,ints,bI,hf,fb,dB,Int.reduceEq,ne_eq,true_and,and_true,not_true,not_false_eq_true,if_false,if_true,List.map_set,List.map_replicate,e5]at ht;refine V dz (bQ (Ex h2 e5 @qJ.{0,0} w5 w6 w7 ja bO @Nat.mul_one @fe) ?_);refine⟨_,wT (wO 5 0 501) (wT (wO 5 2 503) (wT (wO 5 3 504) (wO 5 4 505))),bQ (jz h1 h2 w1 w2 e1 @qJ.{0,0} @List.length_replicate.{0} @Nat.mul_one) ?_⟩;refine Px ht (bP ?_) (au:=[501,16,503,504,505]);simp only[eh,eP,ae,g9,bI,hf,fb,dB,Int.reduceEq,ne_eq,true_and,and_true,not_true,not_false_eq_true,if_false,if_true,List.map_set,List.map_replicate,e5,e1]
  ·have ja:(am ≥ aG b+b.un)=False:=eq_false fun h=>hf ⟨rfl,h⟩
   skip
   have dB:g8 b (3,am)=am:=rfl;simp only[dB]at t1 t2 t3 t4 t5 t6 t7;have w5:IntKind.i64.wrap (b.ra+1)=b.ra+1:=by have:=l.ra;exact wrap64 om om
   have w6:IntKind.i64.wrap (aG b+b.un)=aG b+b.un:=by have:=l.un;exact wrap64 om om
   have w7:IntKind.i64.wrap (am-aG b)=am-aG b:=by have:=l.un;exact wrap64 om om
   have w1:IntKind.i64.wrap (am-b.bt.getD b.tn 0)=am-b.bt.getD b.tn 0:=wrap64 om om;have w2:IntKind.i64.wrap (b.st.getD b.tn 0-(am-b.bt.getD b.tn 0))=b.st.getD b.tn 0-(am-b.bt.getD b.tn 0):=wrap64 om om;have ht:=uZ (bI b (3,am)) (l.act hl) b.tn tn;simp only[aR,aC,ints,bI,hf,dB,Int.reduceEq,ne_eq,false_and,true_and,and_true,not_true,not_false_eq_true,if_false,if_true,List.map_set,e5]at ht;refine V dz (bQ (bM h2 @qJ.{0,0} w5 w6 ja) ?_);refine⟨_,wT (wO 5 0 501) (wT (wO 5 2 503) (wT (wO 5 3 504) (wO 5 4 505))),bQ (dZ h1 h2 w1 w2 e1 e5 @qJ.{0,0}) ?_⟩;refine Px ht (bP ?_) (au:=[501,16,503,504,505]);simp only[eh,eP,ae,g9,bI,hf,dB,Int.reduceEq,ne_eq,false_and,true_and,and_true,not_true,not_false_eq_true,if_false,if_true,List.map_set,e5,e1]
end
def Qk{t:Tb}(ht:cR t):c9 t.st.length (dT t):=(tJ ht).1.l.xu (uX ht 0)
def Ql{t:Tb}{i:Nat}(hi:i<t.st.length):(dT t).st[i]? =some (t.st.getD i 0-((eV t).getD i 0+(eg t).getD i 0)):=by
 rw[dT,qU,List.getElem?_range hi];rfl
def Bp(t:Tb):(dT t).bt=eV t:=rfl
def Bq(t:Tb):(dT t).pd=eg t:=rfl
def EJ(t:Tb):(dT t).fo=List.replicate t.st.length false:=rfl
def EK(t:Tb):(dT t).ac=List.replicate t.st.length false:=rfl
def ay5(t:Tb):(dT t).tn=di t 0:=rfl
def EL(t:Tb):(dT t).un=t.bg:=rfl
def EM(t:Tb):(dT t).ra=0:=rfl
def EN(t:Tb):(dT t).lm=t.lm:=rfl
def p_:LA:=[.zz,.zz,.zz,.zz,.zz,.v (.int .i64 0),.v (.int .i64 0),.v (.int .i64 0),.v (.int .i64 0)]
section
attribute [-go_sem] bC bF bK bE bH bL
def ay6(t:Tb)(ht:cR t):FR 115 [.t (cY t)] (eh (oF t)):=by
 have L:=Qk ht;have xA:=uX ht 0;have e1:=L.st;have e2:=L.bt;have e3:=L.pd;have e4:=L.fo;have e5:=L.ac;have n6:=L.n6;have n2:=L.n2;have q1:=P0 t ht;have q2:=aw9 t ht;have hf:=PY t ht 0;refine au3 sA ?_;simp only[cY,ae]at q1 q2 hf;refine aa @cY.eq_1 ?_;refine Hx q1 (aP ?_);refine Hx q2 (aP ?_);refine lN (fun i=>St.of [(1,.own 81),(2,.own 82),(3,.own 83),(4,.own 84),(5,.t (.i t.st.length)),(6,.own 86),(7,.t (.i i))] [(81,.box [ints t.st,.i t.bn,.i t.sm,.i t.bg,.i t.an,.i t.lm]),(82,.box p_),(83,.arr 1 ((eg t).map T.i)),(84,.arr 1 ((eV t).map T.i)),(86,.arr 1 (((dT t).st.take i).map T.i))]) (fun i=>i<=t.st.length) (fun i=>t.st.length-i) 0 (cH [1,2,11,13,17]) (fun i hi R hn hr he=>?_)
 ·rcases qH i t.st.length with h9|h9
  ·have hx:=dD h9;have ha:=dD (l:=eg t) (i:=i) (by rw[oH];exact h9);have hb:=dD (l:=eV t) (i:=i) (by rw[show(eV t).length=t.st.length from e2];exact h9);have hst:=ht.2.1 _ (gO h9);have ip:=L.xb i h9;have mN:=L.xp i h9;simp only[dT]at ip mN;have w1:IntKind.i64.wrap (IntKind.i64.wrap (t.st.getD i 0-(eg t).getD i 0)-(eV t).getD i 0)=t.st.getD i 0-((eV t).getD i 0+(eg t).getD i 0):=by
    rw[wrap64 (n:=t.st.getD i 0-(eg t).getD i 0) om om,wrap64 om om];omega
   refine aa (c5 hx ha hb w1 (dt ((i:Int)<(t.st.length:Int))) @p_.eq_1) ?_;have la:=oH t;have lb:(eV t).length=t.st.length:=e2;have lt:=List.length_take_le i (dT t).st;refine⟨by omega,by omega,by omega,by omega,by omega,by omega,by omega,by omega,by omega,by omega,?_⟩;exact hn _ (i+1) (aq [81,82,83,84,40] (aw h9 om) (hr:=rB (rB (rB (rB (rK rfl (by rw[bG (Ql h9),qG];exact .refl _) trivial))))))
  ·refine aa (ah (dF ((i:Int)<(t.st.length:Int))) @p_.eq_1) ?_;refine he _ _ ?_;rw[qQ om];have hq:=uZ (dT t) L ((di t 0+t.st.length-1)%t.st.length) (Nat.mod_lt _ om);simp only[aR,aC,ints,Bp,Bq,EJ,EK,ay5,EL,EM,EN,List.map_replicate]at hq;have w3:IntKind.i64.wrap ((di t 0:Int)+(t.st.length:Int))=((di t 0+t.st.length:Nat):Int):=by rw[wrap64 om om];omega
   have w4:IntKind.i64.wrap (((di t 0+t.st.length:Nat):Int)-1)=((di t 0+t.st.length-1:Nat):Int):=by rw[wrap64 om om];omega
   have w5:((di t 0+t.st.length-1:Nat):Int).tmod (t.st.length:Int)=(((di t 0+t.st.length-1)%t.st.length:Nat):Int):=by
    rw[rP om,Int.natCast_emod]
   have w6:((di t 0+t.st.length-1)%t.st.length+1)%t.st.length=di t 0:=by
    rw[Nat.mod_add_mod,show di t 0+t.st.length-1+1=di t 0+t.st.length by omega,Nat.add_mod_right,Nat.mod_eq_of_lt xA]
   refine aB @fe ?_;refine Px hf (ab ?_);refine⟨_,wT (wO 8 0 501) (wT (wO 8 1 502) (wT (wO 8 2 503) (wT (wO 8 3 504) (wO 8 4 505)))),bQ (ay w3 w4 w5) ?_⟩;refine V hq (cE w6 ?_) (au:=[501,502,503,504,505]);simp only[eh,eP,ae,oF,Bp,Bq,EJ,EK,EL,EM,EN,List.map_replicate]
end
def Qm(b:Bt)(k:Nat):∀m s,oE {b with tn:=k} m s=oE b m s
 |0,s=>rfl
 |m+1,s=>by simp only[oE,av5,Qm b k m]
def Qn(b:Bt)(k s d:Nat):iZ {b with tn:=k} s d=iZ b s d:=by simp only[iZ,Qm]
section
attribute [-go_sem] bC bF bK bE bH bL
def ay7(t:Tb)(ht:cR t):FR 44 [.t (cY t)] (.aI [eh (oF t),.i 0]):=by
 have L:=Qk ht;have xA:=uX ht 0;have e1:=L.st;have e2:=L.bt;have e3:=L.pd;have e4:=L.fo;have e5:=L.ac;have n6:=L.n6;have n2:=L.n2;have q0:=uQ t.st om;have q1:=aw7 t ht;have q2:=PZ t ht;have hf:=PX t ht 0;have hit:=ED t om;rw[decide_eq_true ht]at hit;refine at9 sA ?_;simp only[cY,ae]at q1 q2 hf hit;refine aa @cY.eq_1 ?_;refine Px hit (ab ?_);refine Hx q0 (bu @ae.eq_1 ?_);refine Hx q1 (aP ?_);refine Hx q2 (bu @fe ?_);have i6:(l_ (dT t).st t.st 0).map T.i=t.st.map T.i:=by rw[Jb]
 refine⟨om,om,om,om,?_⟩;refine lN (fun i=>St.jU [(1,.own 81),(2,.own 82),(4,.t (.i t.st.length)),(5,.own 85),(32,.own 91),(33,.t (.i t.st.length)),(34,.t (.i i))] [(81,.box [ints t.st,.i t.bn,.i t.sm,.i t.bg,.i t.an,.i t.lm]),(82,.box p_),(85,.box [.any,.any,.any,.arr 1 (List.replicate t.st.length (T.v (.bool false))),.arr 1 (List.replicate t.st.length (T.v (.bool false))),.i 0,.i t.bg,.i 0,.i t.lm]),(91,.arr 1 ((l_ (dT t).st t.st i).map T.i)),(92,.arr 1 ((eV t).map T.i)),(93,.arr 1 ((eg t).map T.i))] [(85,[(2,93),(1,92),(0,91)])]) (fun i=>i<=t.st.length) (fun i=>t.st.length-i) 0 (wT (wO 5 1 502) (wT (wO 5 2 503) (aj.jU _ _ _ [some 1,some 2,some 5,some 32,some 502,some 503] sA sA ?_ ⟨⟨_,_,rfl,.refl _⟩,rfl,⟨_,_,rfl,.refl _⟩,rfl,⟨_,_,rfl,.refl _⟩,rfl,⟨_,_,rfl,by rw[i6];exact .refl _⟩,rfl,⟨_,_,rfl,.refl _⟩,rfl,⟨_,_,rfl,.refl _⟩,rfl,trivial⟩ ⟨⟨5,_,_,rfl,rfl,?_⟩,trivial⟩))) (fun i hi R hn hr he=>?_)
 ·exact ij trivial
 ·intro p hp;simp only[qO,List.mem_nil_iff,or_false]at hp;rcases hp with rfl|rfl|rfl
  ·exact⟨503,rfl,sA⟩
  ·exact⟨502,rfl,sA⟩
  ·exact⟨32,rfl,sA⟩
 ·have hml:=Jd (new:=(dT t).st) (old:=t.st) e1 (i:=i) om;rw[e1]at hml;rcases qH i t.st.length with h9|h9
  ·have hx:=dD h9;have ha:=dD (l:=eg t) (i:=i) (by rw[oH];exact h9);have hb:=dD (l:=eV t) (i:=i) (by rw[show(eV t).length=t.st.length from e2];exact h9);have la:=oH t;have lb:(eV t).length=t.st.length:=e2;have hst:=ht.2.1 _ (gO h9);have ip:=L.xb i h9;have mN:=L.xp i h9;rw[Bp]at ip;rw[Bq]at mN;have hma:=Je (new:=(dT t).st) (old:=t.st) e1 (i:=i) om;rw[hx]at hma;have eE:=Jf (new:=(dT t).st) (old:=t.st) e1 (Ql h9);have w1:IntKind.i64.wrap (t.st.getD i 0-IntKind.i64.wrap ((eV t).getD i 0+(eg t).getD i 0))=t.st.getD i 0-((eV t).getD i 0+(eg t).getD i 0):=by
    rw[wrap64 (n:=(eV t).getD i 0+(eg t).getD i 0) om om,wrap64 om om]
   refine cE (dZ @St.jU.eq_1 @w9 @w_ @Option.getD_some.{0} @Option.getD_none.{0} (dt ((i:Int)<(t.st.length:Int))) @p_.eq_1) ?_;refine⟨_,aj.refl _ _,bQ (dZ hma hml ha hb la lb w1) ?_⟩;refine hn _ (i+1) (aj.jU _ _ _ [some 81,some 82,some 85,some 91,some 92,some 93] sA sA ?_ ⟨⟨_,_,rfl,.refl _⟩,rfl,⟨_,_,rfl,.refl _⟩,rfl,⟨_,_,rfl,.refl _⟩,rfl,⟨_,_,rfl,by rw[←eE,←su];exact .refl _⟩,rfl,⟨_,_,rfl,.refl _⟩,rfl,⟨_,_,rfl,.refl _⟩,rfl,trivial⟩ ⟨⟨85,_,_,rfl,rfl,?_⟩,trivial⟩)
   ·exact bZ (aw h9 om) trivial
   ·intro p hp;simp only[qO,List.mem_nil_iff,or_false]at hp;rcases hp with rfl|rfl|rfl
    ·exact⟨93,rfl,sA⟩
    ·exact⟨92,rfl,sA⟩
    ·exact⟨91,rfl,sA⟩
  ·refine cE (dZ @St.jU.eq_1 @w9 @w_ @Option.getD_some.{0} @Option.getD_none.{0} (dF ((i:Int)<(t.st.length:Int))) @p_.eq_1) ?_;refine he _ _ ?_;have e:i=(dT t).st.length:=om;subst e;rw[Jc e1];have hq:=uY {dT t with tn:=0} (L.xu om) (di t 0) (di t 0) xA;rw[Qn]at hq;simp only[aR,aC,ints,Bp,Bq,EJ,EK,EL,EM,EN,List.map_replicate,Int.natCast_zero]at hq;refine bP ?_;refine Px hf (bP ?_);refine Px hq (bP ?_) (au:=[91,92,93,59004,59005]);simp only[eh,eP,ae,oF,Bp,Bq,EJ,EK,EL,EM,EN,List.map_replicate]
end
def Qo{t:Tb}{b:Bt}(ht:cR t)(h:ny t b)(hno:∀j,j<t.st.length->hasB b j=false)(s:Nat):c9 t.st.length (gh t b s):=(Bg ht h hno s).1.l.xu (uX ht s)
def Ji(m:LN)(R R':Nat->aE)(r:Nat):kL m R R' r=if m.any (fun d=>decide (r=d)||decide (r/1000=d+1))then R r else R' r:=rfl
section
variable (t:Tb) (b:Bt) (s:Nat)
def u9:(gh t b s).st=b.st:=rfl
def u_:(gh t b s).bt=List.replicate b.st.length 0:=rfl
def vc:(gh t b s).pd=dS b:=rfl
def vd:(gh t b s).fo=b.fo:=rfl
def ve:(gh t b s).ac=List.replicate b.st.length false:=rfl
def ay8:(gh t b s).tn=di t s:=rfl
def vg:(gh t b s).un=p9 t s:=rfl
def vh:(gh t b s).ra=0:=rfl
def vi:(gh t b s).lm=b.lm:=rfl
end
section
attribute [-go_sem] bC bF bK bE bH bL
def ay9(t:Tb)(ht:cR t)(b:Bt)(h:ny t b)(hno:∀j,j<t.st.length->hasB b j=false)(s:Nat):FR 120 [.t (cY t),.t (aR b),.i s] (eh (lX t b s)):=by
 have L:=Qo ht h hno s;have l:=h.l;have xA:=uX ht s;have e1:=l.st;have e2:=l.bt;have e3:=l.pd;have e4:=l.fo;have e5:=l.ac;have n6:=l.n6;have n2:=l.n2;have q1:=nw b.st om;have q2:=Qb b l;have hf:=PY t ht s;have yP:=ht.2.2.2.1;refine au5 sA ?_;simp only[cY,aR,aC,ae]at q1 q2 hf;have w7:IntKind.i64.wrap (2*t.bg)=2*t.bg:=wrap64 om om;refine aa (bf @cY.eq_1 @aR.eq_1 @aC.eq_1 w7) ?_;have w3:IntKind.i64.wrap ((di t s:Int)+(t.st.length:Int))=((di t s+t.st.length:Nat):Int):=by rw[wrap64 om om];omega
 have w4:IntKind.i64.wrap (((di t s+t.st.length:Nat):Int)-1)=((di t s+t.st.length-1:Nat):Int):=by rw[wrap64 om om];omega
 have w5:((di t s+t.st.length-1:Nat):Int).tmod (t.st.length:Int)=(((di t s+t.st.length-1)%t.st.length:Nat):Int):=by
  rw[rP om,Int.natCast_emod]
 have w6:((di t s+t.st.length-1)%t.st.length+1)%t.st.length=di t s:=by
  rw[Nat.mod_add_mod,show di t s+t.st.length-1+1=di t s+t.st.length by omega,Nat.add_mod_right,Nat.mod_eq_of_lt xA]
 have hq:=uZ (gh t b s) L ((di t s+t.st.length-1)%t.st.length) (Nat.mod_lt _ om);simp only[aR,aC,ints,u9,u_,vc,vd,ve,ay8,vg,vh,vi,List.map_replicate,e1]at hq;have hun:∀v,((t.lm=2/\2<=s/\v=min 100000 (2*t.bg))∨((t.lm≠2∨¬2<=s)/\v=t.bg))->p9 t s=v:=by
  rintro v (⟨h1,h2,rfl⟩|⟨h1,rfl⟩)
  ·rw[p9,if_pos ⟨h2,h1⟩]
  ·rw[p9,if_neg fun h=>h1.elim (fun g=>g h.2) (fun g=>g h.1)]
 refine⟨fun g1=>⟨fun g2=>?_,fun g2=>?_⟩,fun g1=>?_⟩
 ·have hu:=hun (min 100000 (2*t.bg)) (.inl ⟨sU g1,om,rfl⟩);rw[hu]at hq;refine Px hf (ab ?_);refine Hx q1 (bu @fe ?_);refine⟨om,om,?_⟩;refine Hx q2 (dl (ay @fe @Bm @Ji) ?_);refine⟨om,⟨om,om,_,wT (wO 10 0 501) (wT (wO 10 1 502) (wT (wO 10 2 503) (wT (wO 10 3 504) (wO 10 4 505)))),?_⟩,(qS).ak _ (.inr rfl)⟩;refine bQ (bf e1 w3 w4 w5) ?_;refine V hq (cE w6 ?_) (au:=[501,502,503,504,505]);simp only[eh,eP,ae,lX,u9,u_,vc,vd,ve,vg,vh,vi,List.map_replicate,e1,hu]
 ·have hu:=hun t.bg (.inr ⟨.inr om,rfl⟩);rw[hu]at hq;refine Px hf (ab ?_);refine Hx q1 (bu @fe ?_);refine⟨om,om,?_⟩;refine Hx q2 (dl (ay @fe @Bm @Ji) ?_);refine⟨om,⟨om,om,_,wT (wO 10 0 501) (wT (wO 10 1 502) (wT (wO 10 2 503) (wT (wO 10 3 504) (wO 10 4 505)))),?_⟩,(qS).ak _ (.inr rfl)⟩;refine bQ (bf e1 w3 w4 w5) ?_;refine V hq (cE w6 ?_) (au:=[501,502,503,504,505]);simp only[eh,eP,ae,lX,u9,u_,vc,vd,ve,vg,vh,vi,List.map_replicate,e1,hu]
 ·have hu:=hun t.bg (.inr ⟨.inl (sU g1),rfl⟩);rw[hu]at hq;refine Px hf (ab ?_);refine Hx q1 (bu @fe ?_);refine⟨om,om,?_⟩;refine Hx q2 (dl (ay @fe @Bm @Ji) ?_);refine⟨om,⟨om,om,_,wT (wO 10 0 501) (wT (wO 10 1 502) (wT (wO 10 2 503) (wT (wO 10 3 504) (wO 10 4 505)))),?_⟩,(qS).ak _ (.inr rfl)⟩;refine bQ (bf e1 w3 w4 w5) ?_;refine V hq (cE w6 ?_) (au:=[501,502,503,504,505]);simp only[eh,eP,ae,lX,u9,u_,vc,vd,ve,vg,vh,vi,List.map_replicate,e1,hu]
def az0(t:Tb)(ht:cR t)(b:Bt)(h:ny t b)(hno:∀j,j<t.st.length->hasB b j=false)(db:2<=(kP b).length)(s:Nat)(hs1:1<=s)(bY:s<=3):FR 96 [.t (cY t),.t (aR b),.i s] (.aI [eh (lX t b s),.i 0]):=by
 have L:=Qo ht h hno s;have l:=h.l;have xA:=uX ht s;have e1:=l.st;have e2:=l.bt;have e3:=l.pd;have e4:=l.fo;have e5:=l.ac;have n6:=l.n6;have n2:=l.n2;obtain⟨i0,kf,mf,_⟩:=h.d_;have q0:=EG b l ⟨i0,kf,mf⟩;have qo:=Jg b l ⟨i0,kf,mf⟩;have az1:=hno _ l.tn;rw[az1]at qo;have q1:=ED t om;rw[decide_eq_true ht]at q1;have q2:=Bl b.fo om;have q3:=Qi b l;have hw:=fq (s:Int) 1 3;rw[decide_eq_true om]at hw;have hf:=PX t ht s;have yP:=ht.2.2.2.1;refine au1 sA ?_;simp only[cY,aR,aC,ae,eh,eP]at q0 qo q1 q2 q3 hf;have w7:IntKind.i64.wrap (2*t.bg)=2*t.bg:=wrap64 om om;have w8:(((t.st.length:Nat):Int) !=((t.st.length:Nat):Int))=false:=sA;refine aa (ay @cY.eq_1 @aR.eq_1 @aC.eq_1) ?_;refine Px q1 (ab ?_);refine Px q0 (ab ?_);refine Px hw (aa (ah e1 w8) ?_);refine Px qo (ab ?_);have bO:((((fM b.fo).length:Nat):Int)<2)=False:=eq_false (by rw[yT];omega);refine Rx q2 (dl bO ?_);refine Rx q3 (dl e2 ?_);have aM:=sx l;refine lN (fun i=>St.jU [(2,.t (.i s)),(3,.own 81),(4,.own 4),(6,.own 86),(46,.own 92),(47,.t (.i t.st.length)),(48,.t (.i i))] [(81,.box [ints t.st,.i t.bn,.i t.sm,.i t.bg,.i t.an,.i t.lm]),(4,.box [.arr 1 (b.st.map T.i),.any,.any,.arr 1 (b.fo.map T.b),.arr 1 (b.ac.map T.b),.i b.tn,.i b.un,.i b.ra,.i b.lm]),(86,.box p_),(92,.arr 1 (b.bt.map T.i)),(93,.arr 1 ((l_ (dS b) b.pd i).map T.i))] [(4,[(2,93),(1,92)])]) (fun i=>i<=t.st.length) (fun i=>t.st.length-i) 0 (wT (wO 4 2 503) (aj.jU _ _ _ [some 3,some 4,some 6,some 46,some 503] sA sA ?_ ⟨⟨_,_,rfl,.refl _⟩,rfl,⟨_,_,rfl,.refl _⟩,rfl,⟨_,_,rfl,.refl _⟩,rfl,⟨_,_,rfl,.refl _⟩,rfl,⟨_,_,rfl,by rw[Jb];exact .refl _⟩,rfl,trivial⟩ ⟨⟨4,_,_,rfl,rfl,?_⟩,trivial⟩)) (fun i hi R hn hr he=>?_)
 ·exact ij trivial
 ·intro p hp;simp only[qO,List.mem_nil_iff,or_false]at hp;rcases hp with rfl|rfl
  ·exact⟨503,rfl,sA⟩
  ·exact⟨46,rfl,sA⟩
 ·have hml:=Jd (new:=dS b) (old:=b.pd) om (i:=i) om;rw[aM]at hml;rcases qH i t.st.length with h9|h9
  ·obtain⟨h1,h2,h3,h4,h5⟩:=l.at h9;have hb:=l.xb i h9;have hp:=l.xp i h9;have hw:IntKind.i64.wrap (b.pd.getD i 0+b.bt.getD i 0)=b.pd.getD i 0+b.bt.getD i 0:=wrap64 om om;have hma:=Je (new:=dS b) (old:=b.pd) om (i:=i) om;rw[h3]at hma;have eE:=Jf (new:=dS b) (old:=b.pd) om (Jh l h9);refine bQ (xm @St.jU.eq_1 @w9 @w_ @Option.getD_some.{0} @Option.getD_none.{0} h2 hma hml e2 (dt ((i:Int)<(t.st.length:Int))) hw @p_.eq_1) ?_;refine hn _ (i+1) (aj.jU _ _ _ [some 81,some 4,some 86,some 92,some 93] sA sA ?_ ⟨⟨_,_,rfl,.refl _⟩,rfl,⟨_,_,rfl,.refl _⟩,rfl,⟨_,_,rfl,.refl _⟩,rfl,⟨_,_,rfl,.refl _⟩,rfl,⟨_,_,rfl,by rw[←eE,←su];exact .refl _⟩,rfl,trivial⟩ ⟨⟨4,_,_,rfl,rfl,?_⟩,trivial⟩)
   ·exact bZ (aw h9 om) trivial
   ·intro p hp;simp only[qO,List.mem_nil_iff,or_false]at hp;rcases hp with rfl|rfl
    ·exact⟨93,rfl,sA⟩
    ·exact⟨92,rfl,sA⟩
  ·refine cE (dZ @St.jU.eq_1 @w9 @w_ @Option.getD_some.{0} @Option.getD_none.{0} (dF ((i:Int)<(t.st.length:Int))) @p_.eq_1) ?_;refine he _ _ ?_;have e:i=(dS b).length:=om;subst e;rw[Jc om];have hq:=uY {gh t b s with tn:=b.tn} (L.xu l.tn) (di t s) (di t s) xA;rw[Qn]at hq;simp only[aR,aC,ints,u9,u_,vc,vd,ve,vg,vh,vi,List.map_replicate,e1]at hq;simp -implicitDefEqProofs only[c8,go_sem,List.lookup_cons,List.lookup_nil,Nat.reduceBEq,List.filter_cons,List.filter_nil,Nat.reduceLT,Nat.reduceLeDiff,Nat.not_lt_zero,decide_true,decide_false,Bool.or_true,Bool.true_or,Bool.or_self,Bool.or_false,Bool.false_or,Bool.false_eq_true,if_true,if_false,reduceIte,Int.reduceBEq,Int.reduceBNe,Bool.true_eq_false,true_implies,false_implies,not_true,not_false_eq_true,and_true,true_and,w7,e2,e5];have hun:∀v,((t.lm=2/\2<=s/\v=min 100000 (2*t.bg))∨((t.lm≠2∨¬2<=s)/\v=t.bg))->p9 t s=v:=by
    rintro v (⟨h1,h2,rfl⟩|⟨h1,rfl⟩)
    ·rw[p9,if_pos ⟨h2,h1⟩]
    ·rw[p9,if_neg fun h=>h1.elim (fun g=>g h.2) (fun g=>g h.1)]
   refine⟨om,om,⟨⟨fun g2=>⟨fun g1=>?_,fun g1=>?_⟩,fun g2=>?_⟩,qS⟩,qS⟩
   ·have hu:=hun (min 100000 (2*t.bg)) (.inl ⟨sU g1,om,rfl⟩);rw[hu]at hq;refine Px hf (bP ?_);refine Px hq (bP ?_) (au:=[86001,92,93,86004,65]);simp only[eh,eP,ae,lX,u9,u_,vc,vd,ve,vg,vh,vi,List.map_replicate,e1,hu]
   ·have hu:=hun t.bg (.inr ⟨.inl (sU g1),rfl⟩);rw[hu]at hq;refine Px hf (bP ?_);refine Px hq (bP ?_) (au:=[86001,92,93,86004,65]);simp only[eh,eP,ae,lX,u9,u_,vc,vd,ve,vg,vh,vi,List.map_replicate,e1,hu]
   ·have hu:=hun t.bg (.inr ⟨.inr om,rfl⟩);rw[hu]at hq;refine Px hf (bP ?_);refine Px hq (bP ?_) (au:=[86001,92,93,86004,65]);simp only[eh,eP,ae,lX,u9,u_,vc,vd,ve,vg,vh,vi,List.map_replicate,e1,hu]
end
def Qp:T:=.agg p_
section
attribute [-go_sem] bC bF bK bE bH bL
def az2(b:Bt)(l:c9 n b)(kl:∃i,i<n/\b.fo.getD i true=false)(a:Int×Int)(hh:hasB b b.tn=true):FR 46 [.t (aR b),.t (iM a)] (if gD (fT b) a=true then .aI [eh (g9 b a),.i 0]else .aI [Qp,.i 2]):=by
 have q1:=ax4 b l kl hh;have q2:=ax7 b l (by simp only[hasB,qM]at hh;exact hh.1);have q3:=ax8 (fT b) a;refine ae5 (by simp) ?_;simp only[aR,aC,kT]at q1 q2;simp only[kT,iM]at q3;cases hl:gD (fT b) a with
 |true=>
  have q4:=ay3 b l a hh hl;simp only[aR,aC,iM]at q4;rw[hl]at q3;refine aa (ay @aR.eq_1 @aC.eq_1 @iM.eq_1) ?_;refine Px q1 (cE @bne_self_eq_false.{0} ?_);refine tr.pure q2 [] rfl Tryz.call99 (fun e R' hR=>?_) (by first|trivial|simp[T.bJ,T.df,rat]) (fun _=>rfl) ?_
  ·exact ey trivial
  refine bP ?_;refine tr.pure q3 [] rfl Tryz.call98 (fun e R' hR=>?_) (by first|trivial|simp[T.bJ,T.df,rat]) (fun _=>rfl) ?_
  ·exact ey trivial
  simp -implicitDefEqProofs only[c8,go_sem,List.lookup_cons,List.lookup_nil,Nat.reduceBEq,List.filter_cons,List.filter_nil,Nat.reduceLT,Nat.reduceLeDiff,Nat.not_lt_zero,decide_true,decide_false,Bool.or_true,Bool.true_or,Bool.or_self,Bool.or_false,Bool.false_or,Bool.false_eq_true,if_true,if_false,reduceIte,Int.reduceBEq,Int.reduceBNe,Bool.true_eq_false,true_implies,false_implies,not_true,not_false_eq_true,and_true,true_and];refine bz.res q4 [] rfl Tryz.call100 ?_ (.inl rfl) ?_
  ·simp -implicitDefEqProofs only[pY,go_sem]
  simp -implicitDefEqProofs only[yK,go_sem,eh,ae,eP,xj,Nat.reduceBEq]
  trace_state
 |false=>
  rw[hl]at q3;refine aa (ay @aR.eq_1 @aC.eq_1 @iM.eq_1) ?_;refine Px q1 (cE @bne_self_eq_false.{0} ?_);refine V q2 (bP ?_);refine V q3 (bP ?_);rfl
end
def EO(p:gi)(c:T):LA:=[.arr 1 (p.b.st.map T.i),.arr 1 (p.b.bt.map T.i),.arr 1 (p.b.pd.map T.i),.arr 1 (p.b.fo.map T.b),.arr 1 (p.b.ac.map T.b),.i p.b.tn,.i p.b.un,.i p.b.ra,.i p.b.lm,.i p.s,.b p.ov,.b p.sh,c]
def ft(p:gi)(c:T):LA:=[.sh 1 (p.b.st.map T.i),.sh 1 (p.b.bt.map T.i),.sh 1 (p.b.pd.map T.i),.sh 1 (p.b.fo.map T.b),.sh 1 (p.b.ac.map T.b),.i p.b.tn,.i p.b.un,.i p.b.ra,.i p.b.lm,.i p.s,.b p.ov,.b p.sh,c]
def EP(t:Tb)(p:gi):Prop:=ny t p.b/\p.s<=3/\(p.ov=false->p.sh=false/\uW t.st.length p.b)
def ly(t:Tb)(p:gi):gi:=if p.ov=true then p else iy t (4-p.s) p.b p.s
def EQ{t:Tb}{p:gi}(h:p.ov=true):ly t p=p:=if_pos h
def Qq{t:Tb}{p:gi}(h:p.ov=false)(hs:p.s<=3)(hsh:p.sh=false)(hh:hasB p.b p.b.tn=true):ly t p=p:=by
 rw[ly,if_neg (by rw[h];simp),show 4-p.s=(3-p.s)+1 by omega,iy,if_pos hh];obtain⟨b,s,ov,sh⟩:=p;simp only at h hsh;rw[h,hsh]
def Qr{t:Tb}{p:gi}(h:p.ov=false)(hs:p.s<=3)(hh:hasB p.b p.b.tn=false)(hl:(kP p.b).length<2):ly t p=⟨p.b,p.s,true,false⟩:=by
 rw[ly,if_neg (by rw[h];simp),show 4-p.s=(3-p.s)+1 by omega,iy,if_neg (by rw[hh];simp),if_pos hl]
def ER{t:Tb}{p:gi}(h:p.ov=false)(hs:p.s<=3)(hh:hasB p.b p.b.tn=false)(hl:¬(kP p.b).length<2)(hc:p.s=3∨fL p.b<2):ly t p=⟨p.b,p.s,true,true⟩:=by
 rw[ly,if_neg (by rw[h];simp),show 4-p.s=(3-p.s)+1 by omega,iy,if_neg (by rw[hh];simp),if_neg hl,if_pos hc]
def Qs{t:Tb}{p:gi}(h:p.ov=false)(hs:p.s<=3)(hh:hasB p.b p.b.tn=false)(hl:¬(kP p.b).length<2)(hc:¬(p.s=3∨fL p.b<2)):ly t p=ly t ⟨lX t p.b (p.s+1),p.s+1,false,false⟩:=by
 rw[ly,if_neg (by rw[h];simp),show 4-p.s=(3-p.s)+1 by omega,iy,if_neg (by rw[hh];simp),if_neg hl,if_neg hc,ly,if_neg sA];simp only;rw[show 4-(p.s+1)=3-p.s by omega]
def it.yU{W:LN}{d:Option Nat}{R R':Nat->aE}{j:Nat}(x:aE)(h:it W d R R')(hj:∃k∈W,cX k j):it W d R (Go.Ab.ak R' j x):=fun r h1 h2=>by
 obtain⟨k,hk,hj⟩:=hj;rw[aU _ _ _ _ fun e=>h1 k hk (by rw[e];exact hj)];exact h r h1 h2
section
attribute [-go_sem] bC bF bK bE bH bL
def Qt(t:Tb)(ht:cR t)(p0:gi)(g0:EP t p0)(c:T):FA 45 [.box (EO p0 c)] [.own 1000000000,.t (cY t)] fun o r=>o=[.box (ft (ly t p0) c)]/\r= .aI []:=by
 have n2:=ht.1.1;have n6:=ht.1.2;refine au0 sA (aa (ah @cY.eq_1 @EO.eq_1) ?_);refine lR (σ:=gi) (fun p=>St.of [(0,.own 1000000000),(3,.own 83)] [(1000000000,.box (ft p c)),(83,.box [ints t.st,.i t.bn,.i t.sm,.i t.bg,.i t.an,.i t.lm])]) (fun p=>EP t p/\ly t p=ly t p0) (fun p=>(3-p.s)*2+(if p.ov=true then 0 else 1)) p0 (wT (wO 1000000000 0 501) (wT (wJ 1000000000 0 501) (wT (wO 1000000000 1 502) (wT (wJ 1000000000 1 502) (wT (wO 1000000000 2 503) (wT (wJ 1000000000 2 503) (wT (wO 1000000000 3 504) (wT (wJ 1000000000 3 504) (wT (wO 1000000000 4 505) (wT (wJ 1000000000 4 505) (aj.of _ _ [some 1000000000,some 3] sA sA ?_ (rI ?_ (rB trivial))))))))))))) (fun p hp R hn hr he=>?_) (hi:=⟨g0,rfl⟩)
 ·exact bZ @zA trivial
 ·simp only[T.bB,kU,Bn,ft,List.set_cons_zero,List.set_cons_succ];exact .refl _
 ·obtain⟨⟨g1,g2,g3⟩,g4⟩:=hp;obtain⟨b,s,ov,sh⟩:=p
  (try simp only[]at g1 g2 g3)
  (try simp only[])
  have l:=g1.l;have e1:=l.st;have e2:=l.bt;have e3:=l.pd;have e4:=l.fo;have e5:=l.ac;obtain⟨i0,kf,mf,_⟩:=g1.d_;cases ov with
  |true=>
   rw[EQ rfl]at g4;refine aa @ft.eq_1 ?_;refine he _ _ ?_;rw[←g4];exact aa @ft.eq_1 trivial
  |false=>
   obtain⟨rfl,g5⟩:=g3 rfl;have qo:=Jg b l ⟨i0,kf,mf⟩;simp only[aR,aC]at qo;cases hh:hasB b b.tn with
   |true=>
    rw[hh]at qo;rw[Qq rfl g2 rfl hh]at g4;refine aa @ft.eq_1 ?_;refine Px qo (ab ?_);refine he _ _ ?_;rw[←g4];exact aa @ft.eq_1 trivial
   |false=>
    rw[hh]at qo;have hno:∀j,j<t.st.length->hasB b j=false:=by
     rcases g5 with h|h
     ·rw[hh]at h;cases h
     ·exact h
    have q2:=Bl b.fo om;simp only[aC,ae]at q2;refine aa @ft.eq_1 ?_;refine Px qo (ab ?_);by_cases db:(kP b).length<2
    ·have bO:((((fM b.fo).length:Nat):Int)<2)=True:=eq_true (by rw[yT];omega);rw[Qr rfl g2 hh db]at g4;refine Rx q2 (dl bO ?_);exact hn _ ⟨b,s,true,false⟩ (cH [1000000000,83]) ⟨⟨g1,g2,fun h=>by cases h⟩,by rw[EQ rfl];exact g4⟩ sA
    ·have bO:((((fM b.fo).length:Nat):Int)<2)=False:=eq_false (by rw[yT];omega);have qs:=ax6 b l ⟨i0,kf,mf⟩ hh;simp only[aR,aC]at qs;refine Rx q2 (dl bO ?_);refine⟨fun hs=>?_,fun hs=>?_⟩
     ·have bY:s≠3:=fun h=>by subst h;simp at hs
      by_cases hc:fL b<2
      ·rw[ER rfl g2 hh db (.inr hc)]at g4;rw[decide_eq_true (.inl hc)]at qs;refine Px qs (bP ?_);exact hn _ ⟨b,s,true,true⟩ (cH [1000000000,83]) ⟨⟨g1,g2,fun h=>by cases h⟩,by rw[EQ rfl];exact g4⟩ sA
      ·rw[Qs rfl g2 hh db (fun h=>h.elim bY hc)]at g4;rw[decide_eq_false (fun h=>h.elim hc db)]at qs;have qn:=az0 t ht b g1 hno om (s+1) om om;simp only[cY,aR,aC]at qn;have hsw:IntKind.i64.wrap ((s:Int)+1)=((s+1:Nat):Int):=by rw[wrap64 om om];rfl
       refine Px qs (cE hsw ?_);refine Hx qn (dl (ay @eh.eq_1 @ae.eq_1 @eP.eq_1) ?_);have i7:=Bg ht g1 hno (s+1);refine⟨hn _ ⟨lX t b (s+1),s+1,false,false⟩ (wT (wO 1000000000 0 501) (wT (wJ 1000000000 0 501) (wT (wO 1000000000 1 502) (wT (wJ 1000000000 1 502) (wT (wO 1000000000 2 503) (wT (wJ 1000000000 2 503) (wT (wO 1000000000 3 504) (wT (wJ 1000000000 3 504) (wT (wO 1000000000 4 505) (wT (wJ 1000000000 4 505) (aj.of _ _ [some 1000000000,some 83] sA sA ?_ (rI ?_ (rB trivial))))))))))))) ⟨⟨i7.1,by simp only[];omega,fun _=>⟨rfl,i7.2⟩⟩,g4⟩ (by simp only[];omega),?_⟩
       ·exact bZ @zA trivial
       ·simp only[T.bB,kU,Bn,ft,List.set_cons_zero,List.set_cons_succ];exact .refl _
       ·exact(it.yU _ (it.yU _ (it.yU _ (it.yU _ (it.yU _ (it.yU _ (it.refl _ _ _) (by simp[cX])) (by simp[cX])) (by simp[cX])) (by simp[cX])) (by simp[cX])) (by simp[cX]))
     ·have bY:s=3:=by
       have h3:(s:Int)=3:=sU hs;omega
      rw[ER rfl g2 hh db (.inl bY)]at g4;exact hn _ ⟨b,s,true,true⟩ (cH [1000000000,83]) ⟨⟨g1,g2,fun h=>by cases h⟩,by rw[EQ rfl];exact g4⟩ sA
end
def rk(c:Int):Nat:=(c/4).toNat
def st(c:Int):Nat:=(c%4).toNat
def ce(l:LI):Prop:=l.Nodup/\∀x∈l,0<=x/\x<52
def tL{c:Int}(h:0<=c/\c<52):rk c<13:=by unfold rk;omega
def xB(c:Int):st c<4:=by unfold st;omega
def Jj{x y:Int}(hx:0<=x/\x<52)(hy:0<=y/\y<52)(h:rk x=rk y)(h':st x=st y):x=y:=by
 unfold rk at h;unfold st at h';omega
def aS(a:Nat)(ks:LN):Nat:=ks.foldl (fun a k=>a*13+k) a
def az3(a:Nat):aS a []=a:=rfl
def mX(a k:Nat)(ks:LN):aS a (k::ks)=aS (a*13+k) ks:=rfl
def Jk:∀{xs ys:LN},a<b->xs.length=ys.length->(∀x∈xs,x<13)->aS a xs<aS b ys:=by
 intro xs;induction xs generalizing a b with
 |nil=>intro ys h e _;cases ys with
  |nil=>exact h
  |cons y ys=>simp at e
 |cons x xs ih=>
  intro ys h e hx;cases ys with
  |nil=>simp at e
  |cons y ys=>
   rw[mX,mX];have:=hx x sA;exact ih om (sU e) fun z hz=>hx z (by simp[hz])
def sy{α:Type}[DecidableEq α]{xs:List α}:∀{ys:List α},xs.Nodup->(∀x∈xs,x∈ys)->xs.length<=ys.length:=by
 induction xs with
 |nil=>simp
 |cons x xs ih=>
  intro ys hn h;have hx:=h x sA;rw[qX]at hn;have:=ih (ys:=ys.erase x) hn.2 fun y hy=>by
   have hne:y≠x:=fun e=>hn.1 (e▸hy);exact(List.mem_erase_of_ne hne).2 (h y (by simp[hy]))
  rw[List.length_erase_of_mem hx]at this;have:=List.length_pos_of_mem hx;simp only[List.length_cons];omega
def az4:∀{L xs:LN} {a:Nat},L.Pairwise (· > ·)->(∀x∈L,x<13)->xs.Nodup->(∀x∈xs,x∈L)->xs.length<=L.length/\aS a xs<=aS a (L.take xs.length):=by
 intro L;induction L with
 |nil=>
  intro xs a _ _ _ h;cases xs with
  |nil=>simp
  |cons x xs=>have:=h x sA;simp at this
 |cons h t ih=>
  intro xs a hp hl hn hs;have hlen:=sy hn hs;refine⟨hlen,?_⟩;cases xs with
  |nil=>simp[aS]
  |cons x xs=>
   rw[qX]at hn;rw[List.pairwise_cons]at hp;rw[List.length_cons,List.take_succ_cons,mX,mX];by_cases e:x=h
   ·subst e;refine(ih hp.2 (fun y hy=>hl y (by simp[hy])) hn.2 fun y hy=>?_).2;have:=hs y (by simp[hy]);rcases qO.1 this with e|e
    ·exact absurd (e▸hy) hn.1
    ·exact e
   ·have hx:x∈t:=by
     rcases qO.1 (hs x sA)with e'|e'
     ·exact absurd e' e
     ·exact e'
    have:=hp.1 x hx;refine Nat.le_of_lt (Jk om ?_ fun y hy=>hl y (hs y (by simp[hy])));simp only[List.length_cons]at hlen;rw[qL];omega
def mY:LN:=[12,11,10,9,8,7,6,5,4,3,2,1,0]
def az5:mY.Pairwise (· > ·):=dc
def Qu{r:Nat}:r∈mY↔r<13:=by simp[mY];omega
def cA(m:Nat->Bool):LN:=mY.filter m
def xC(m:Nat->Bool):(cA m).Pairwise (· > ·):=az5.filter _
def jB{r:Nat}:r∈cA m↔r<13/\m r=true:=by rw[cA,qV,Qu]
def mg(m:Nat->Bool):(cA m).Nodup:=(xC m).imp fun h=>om
def yV(hn:xs.Nodup)(h:∀x∈xs,x<13/\m x=true):xs.length<=(cA m).length/\aS a xs<=aS a ((cA m).take xs.length):=
 az4 (xC m) (fun _ hx=>(jB.1 hx).1) hn fun x hx=>jB.2 (h x hx)
def fN(m:Nat->Bool)(t:Nat):Bool:=m t&&m (t-1)&&m (t-2)&&m (t-3)&&m (t-4)
def kV(m:Nat->Bool):Bool:=m 0&&m 1&&m 2&&m 3&&m 12
def dU(m:Nat->Bool):Option LN:=
 match [12,11,10,9,8,7,6,5,4].find? (fN m)with
 |some t=>some [t,t-1,t-2,t-3,t-4]
 |none=>if kV m then some [3,2,1,0,12]else none
def xD(a b c d e:Nat):Prop:=(a=b+1/\b=c+1/\c=d+1/\d=e+1)∨(a=3/\b=2/\c=1/\d=0/\e=12)
def Br{ks:LN}(h:dU m=some ks):∃a b c d e,ks=[a,b,c,d,e]/\xD a b c d e/\a<13/\e<13/\m a=true/\m b=true/\m c=true/\m d=true/\m e=true:=by
 unfold dU at h;split at h
 ·rename_i t ht;have hm:=List.mem_of_find?_eq_some ht;have hp:=List.find?_some ht;simp only[Option.some.injEq]at h;simp only[fN,qM]at hp;have:4<=t/\t<13:=by simp only[qO,List.not_mem_nil,or_false]at hm;omega
  exact⟨_,_,_,_,_,h.symm,.inl om,om,om,hp.1.1.1.1,hp.1.1.1.2,hp.1.1.2,hp.1.2,hp.2⟩
 ·split at h
  ·rename_i hw;simp only[Option.some.injEq]at h;simp only[kV,qM]at hw;exact⟨_,_,_,_,_,h.symm,.inr om,om,om,hw.1.2,hw.1.1.2,hw.1.1.1.2,hw.1.1.1.1,hw.2⟩
  ·cases h
def Qv{c d e:Nat}(k:Nat)(hc:xD a b c d e)(ha:a<13)(h:m a=true/\m b=true/\m c=true/\m d=true/\m e=true):∃ks,dU m=some ks/\aS k [a,b,c,d,e]<=aS k ks:=by
 obtain⟨h1,h2,h3,h4,h5⟩:=h;unfold dU;rcases hc with hc|hc
 ·obtain⟨rfl,rfl,rfl,rfl⟩:=hc;have hr:fN m (e+1+1+1+1)=true:=by
   simp only[fN,qM];exact⟨⟨⟨⟨h1,sU h2⟩,by simpa using h3⟩,sU h4⟩,by simpa using h5⟩
  have key:∀L:LN,L.Pairwise (· > ·)->(e+1+1+1+1)∈L->∃t,L.find? (fN m)=some t/\e+1+1+1+1<=t:=by
   intro L;induction L with
   |nil=>simp
   |cons x L ih=>
    intro hw hm;rw[List.pairwise_cons]at hw;rw[List.find?_cons];cases hx:fN m x with
    |true=>
     refine⟨x,rfl,?_⟩;rcases qO.1 hm with e'|e'
     ·omega
     ·have:=hw.1 _ e';omega
    |false=>
     rcases qO.1 hm with e'|e'
     ·rw[e',hx]at hr;cases hr
     ·exact ih hw.2 e'
  obtain⟨t,ht,hle⟩:=key [12,11,10,9,8,7,6,5,4] dc (by simp;omega);rw[ht];refine⟨_,rfl,?_⟩;simp only[aS,List.foldl_cons,List.foldl_nil];omega
 ·obtain⟨rfl,rfl,rfl,rfl,rfl⟩:=hc;cases hf:[12,11,10,9,8,7,6,5,4].find? (fN m)with
  |some t=>
   have hm:=List.mem_of_find?_eq_some hf;have:4<=t/\t<13:=by simp only[qO,List.not_mem_nil,or_false]at hm;omega
   refine⟨_,rfl,?_⟩;simp only[aS,List.foldl_cons,List.foldl_nil];omega
  |none=>
   have hw:kV m=true:=(by simp[kV, *]);exact⟨_,by simp only[hw,if_true],qR _⟩
structure Sc where
 four:Option Nat
 three:Option Nat
 two:Option Nat
 second:Option Nat
variable{s:Sc}
def kW(m:Nat->Bool)(fs:Option (Nat->Bool))(s:Sc):Nat:=
 match fs.bind dU with
 |some ks=>aS 8 ks
 |none=>match s.four with
  |some r=>aS 7 (r::r::r::r::(cA fun x=>m x&&x !=r).take 1)
  |none=>match s.three,s.two with
   |some t,some p=>aS 6 [t,t,t,p,p]
   |_,_=>match fs with
    |some f=>aS 5 ((cA f).take 5)
    |none=>match dU m with
     |some ks=>aS 4 ks
     |none=>match s.three with
      |some t=>aS 3 (t::t::t::(cA fun x=>m x&&x !=t).take 2)
      |none=>match s.two with
       |none=>aS 0 ((cA m).take 5)
       |some p=>match s.second with
        |some q=>aS 2 (p::p::q::q::(cA fun x=>m x&&x !=p&&x !=q).take 1)
        |none=>aS 1 (p::p::(cA fun x=>m x&&x !=p).take 3)
structure oK(c:Nat->Nat)(s:Sc):Prop where
 f1:∀r,s.four=some r->r<13/\c r=4/\∀r',r'<13->c r'=4->r'<=r
 f0:s.four=none->∀r,r<13->c r≠4
 t1:s.four=none->∀t,s.three=some t->t<13/\c t=3/\∀r,r<13->c r=3->r<=t
 t0:s.four=none->s.three=none->∀r,r<13->c r≠3
 p1:s.four=none->∀p,s.two=some p->p<13/\2<=c p/\s.three≠some p/\∀r,r<13->2<=c r->s.three≠some r->r<=p
 p0:s.four=none->s.two=none->∀r,r<13->2<=c r->s.three=some r
 q1:s.four=none->s.three=none->∀p,s.two=some p->∀q,s.second=some q->q<13/\2<=c q/\q≠p/\∀r,r<13->2<=c r->r≠p->r<=q
 q0:s.four=none->s.three=none->∀p,s.two=some p->s.second=none->∀r,r<13->2<=c r->r=p
def Shp(cat:Nat)(l:LN)(same:Prop):Prop:=
 ∃a b c d e,l=[a,b,c,d,e]/\((cat=8/\same/\xD a b c d e)∨(cat=7/\a=b/\b=c/\c=d)∨(cat=6/\a=b/\b=c/\d=e)∨(cat=5/\same)∨(cat=4/\xD a b c d e)∨(cat=3/\a=b/\b=c)∨(cat=2/\a=b/\c=d)∨(cat=1/\a=b)∨cat=0)
def yW(l:LI)(v:Nat):Prop:=
 ∃f:LI,f.Nodup/\(∀x∈f,x∈l)/\∃cat,Shp cat (f.map rk) (∀x∈f,∀y∈f,st x=st y)/\v=aS cat (f.map rk)
def cnt(l:LI)(r:Nat):Nat:=l.countP fun x=>rk x==r
def num(l:LI)(s:Nat):Nat:=l.countP fun x=>st x==s
def has(l:LI)(r:Nat):Bool:=l.any fun x=>rk x==r
def fg(l:LI)(s r:Nat):Bool:=l.any fun x=>st x==s&&rk x==r
def dn(l:LI):Option (Nat->Bool):=([0,1,2,3].find? fun s=>decide (5<=num l s)).map (fg l)
def Qw{l:LI}{r:Nat}(hn:f.Nodup)(hs:∀x∈f,x∈l)(h:∀x∈f,rk x=r):f.length<=cnt l r:=by
 rw[cnt,List.countP_eq_length_filter];exact sy hn fun x hx=>qV.2 ⟨hs x hx,sU (h x hx)⟩
def az6{l:LI}{s:Nat}(hn:f.Nodup)(hs:∀x∈f,x∈l)(h:∀x∈f,st x=s):f.length<=num l s:=by
 rw[num,List.countP_eq_length_filter];exact sy hn fun x hx=>qV.2 ⟨hs x hx,sU (h x hx)⟩
def sz{l:LI}{r:Nat}:has l r=true↔∃x∈l,rk x=r:=by simp[has]
def xE{l:LI}{s r:Nat}:fg l s r=true↔∃x∈l,st x=s/\rk x=r:=by simp[fg]
def oL{l:LI}(hl:ce l)(r:Nat):cnt l r<=4:=by
 rw[cnt,List.countP_eq_length_filter];have hn:((l.filter fun x=>rk x==r).map st).Nodup:=by
  refine List.pairwise_map.2 ?_;refine List.Pairwise.imp_of_mem ?_ (hl.1.filter _);intro x y hx hy hne e;simp only[qV,beq_iff_eq]at hx hy;exact hne (Jj (hl.2 x hx.1) (hl.2 y hy.1) (by rw[hx.2,hy.2]) e)
 have:=sy (ys:=[0,1,2,3]) hn fun s hs=>by
  obtain⟨x,_,rfl⟩:=qN.1 hs;have:=xB x;simp only[qO,List.not_mem_nil,or_false];omega
 simpa using this
def az7{l:LI}{p q:Int->Bool}(h:∀x,p x=true->q x=false):l.countP p+l.countP q<=l.length:=by
 induction l with
 |nil=>simp
 |cons x l ih=>
  rw[List.countP_cons,List.countP_cons,List.length_cons];have:=h x;split<;>split<;>simp_all<;>omega
def Qx{l:LI}{s t:Nat}(hlen:l.length<=9)(h1:5<=num l s)(h2:5<=num l t):s=t:=by
 apply rG;intro hne;have:=az7 (l:=l) (p:=fun x=>st x==s) (q:=fun x=>st x==t) fun x hx=>by
  simp only[beq_iff_eq]at hx ⊢;simp[hx,hne]
 unfold num at h1 h2;omega
def az8{l:LI}(hlen:l.length<=9)(hn:f.Nodup)(hs:∀x∈f,x∈l)(hf:5<=f.length)(h:∀x∈f,∀y∈f,st x=st y):∃g,dn l=some g/\∀x∈f,g (rk x)=true:=by
 obtain⟨x0,hx0⟩:=List.exists_mem_of_length_pos (show 0<f.length by omega);have h5:=rA hf (az6 hn hs fun x hx=>h x hx x0 hx0);have h4:=xB x0;cases ja:[0,1,2,3].find? fun s=>decide (5<=num l s)with
 |none=>
  have:=List.find?_eq_none.1 ja (st x0) (by simp only[qO,List.not_mem_nil,or_false];omega);simp at this;omega
 |some s=>
  have h6:=List.find?_some ja;have e:=Qx hlen (sU h6) h5;refine⟨fg l s,by rw[dn,ja];rfl,fun x hx=>xE.2 ⟨x,hs x hx,?_,rfl⟩⟩;rw[e];exact h x hx x0 hx0
def yX{l:LI}{g:Nat->Bool}(h:dn l=some g):∃s,g=fg l s/\5<=num l s:=by
 unfold dn at h;cases ja:[0,1,2,3].find? fun s=>decide (5<=num l s)with
 |none=>rw[ja]at h;cases h
 |some s=>
  rw[ja]at h;exact⟨s,sU h.symm,by simpa using List.find?_some ja⟩
def Qy(k a b c d e:Nat):aS k [a,b,c,d,e]=((((k*13+a)*13+b)*13+c)*13+d)*13+e:=rfl
def az9{k':Nat}(h:k<k')(hl:xs.length=5)(hl':ys.length=5)(hx:∀x∈xs,x<13):aS k xs<=aS k' ys:=
 Nat.le_of_lt (Jk h (by rw[hl,hl']) hx)
def yY(h:k<=(cA m).length):((cA m).take k).length=k:=by rw[qL];omega
def aA0{l:LI}{p q:Int->Bool}:l.countP (fun x=>p x||q x)<=l.countP p+l.countP q:=by
 induction l with
 |nil=>simp
 |cons x l ih=>
  rw[List.countP_cons,List.countP_cons,List.countP_cons];cases p x<;>cases q x<;>simp<;>omega
def Bs{l:LI}(p:Int->Bool):l.countP p+l.countP (fun x=>!p x)=l.length:=by
 induction l with
 |nil=>simp
 |cons x l ih=>
  rw[List.countP_cons,List.countP_cons,List.length_cons];cases p x<;>simp<;>omega
def Jl{l:LI}(hl:ce l){X:Nat->Bool}(hc:∀r,r<13->X r=false->cnt l r<=1):l.countP (fun x=>!X (rk x))<=(cA fun r=>has l r&& !X r).length:=by
 rw[List.countP_eq_length_filter];have hn:((l.filter fun x=>!X (rk x)).map rk).Nodup:=by
  refine List.pairwise_map.2 ?_;refine List.Pairwise.imp_of_mem ?_ (hl.1.filter _);intro x y hx hy hne e;simp only[qV,Bool.not_eq_true']at hx hy;have:=Qw (l:=l) (f:=[x,y]) (r:=rk x) (by simp[hne]) (by simp[hx.1,hy.1]) (by simp[e]);have:=hc (rk x) (tL (hl.2 x hx.1)) hx.2;simp at*;omega
 have:=sy (ys:=cA fun r=>has l r&& !X r) hn fun r hr=>by
  obtain⟨x,hx,rfl⟩:=qN.1 hr;simp only[qV]at hx;refine jB.2 ⟨tL (hl.2 x hx.1),?_⟩;rw[qM];exact⟨sz.2 ⟨x,hx.1,rfl⟩,hx.2⟩
 simpa using this
def Qz{l:LI}(hl:ce l){X:Nat->Bool}(h:1<=l.countP fun x=>!X (rk x)):1<=(cA fun r=>has l r&& !X r).length:=by
 obtain⟨x,hx,hp⟩:=List.countP_pos_iff.1 h;refine List.length_pos_of_mem (a:=rk x) (jB.2 ⟨tL (hl.2 x hx),?_⟩);rw[qM];exact⟨sz.2 ⟨x,hx,rfl⟩,hp⟩
def Jm{l:LI}(hl:ce l){s:Nat}(h:5<=num l s):5<=(cA (fg l s)).length:=by
 rw[num,List.countP_eq_length_filter]at h;have hn:((l.filter fun x=>st x==s).map rk).Nodup:=by
  refine List.pairwise_map.2 ?_;refine List.Pairwise.imp_of_mem ?_ (hl.1.filter _);intro x y hx hy hne e;simp only[qV,beq_iff_eq]at hx hy;exact hne (Jj (hl.2 x hx.1) (hl.2 y hy.1) e (by rw[hx.2,hy.2]))
 have:=sy (ys:=cA (fg l s)) hn fun r hr=>by
  obtain⟨x,hx,rfl⟩:=qN.1 hr;simp only[qV,beq_iff_eq]at hx;exact jB.2 ⟨tL (hl.2 x hx.1),xE.2 ⟨x,hx.1,hx.2,rfl⟩⟩
 rw[qJ]at this;omega
inductive View (l:LI) (s:Sc):Nat->LN->Prop
 |v8 (g ks):dn l=some g->dU g=some ks->View l s 8 ks
 |v7 (r):(dn l).bind dU=none->s.four=some r->View l s 7 (r::r::r::r::(cA fun x=>has l x&&x !=r).take 1)
 |v6 (t p):(dn l).bind dU=none->s.four=none->s.three=some t->s.two=some p->View l s 6 [t,t,t,p,p]
 |v5 (g):(dn l).bind dU=none->s.four=none->(s.three=none∨s.two=none)->dn l=some g->View l s 5 ((cA g).take 5)
 |v4 (ks):dn l=none->s.four=none->(s.three=none∨s.two=none)->dU (has l)=some ks->View l s 4 ks
 |v3 (t):dn l=none->s.four=none->s.two=none->dU (has l)=none->s.three=some t->View l s 3 (t::t::t::(cA fun x=>has l x&&x !=t).take 2)
 |v2 (p q):dn l=none->s.four=none->s.three=none->dU (has l)=none->s.two=some p->s.second=some q->View l s 2 (p::p::q::q::(cA fun x=>has l x&&x !=p&&x !=q).take 1)
 |v1 (p):dn l=none->s.four=none->s.three=none->dU (has l)=none->s.two=some p->s.second=none->View l s 1 (p::p::(cA fun x=>has l x&&x !=p).take 3)
 |v0:dn l=none->s.four=none->s.three=none->dU (has l)=none->s.two=none->View l s 0 ((cA (has l)).take 5)
def view(l:LI)(s:Sc):∃cat ks,kW (has l) (dn l) s=aS cat ks/\View l s cat ks:=by
 unfold kW;cases h8:(dn l).bind dU with
 |some ks=>
  cases hf:dn l with
  |none=>rw[hf]at h8;cases h8
  |some g=>rw[hf]at h8;exact⟨_,_,rfl,.v8 g ks hf h8⟩
 |none=>
  cases h7:s.four with
  |some r=>exact⟨_,_,rfl,.v7 r h8 h7⟩
  |none=>
   cases ht:s.three with
   |some t=>
    cases hp:s.two with
    |some p=>exact⟨_,_,rfl,.v6 t p h8 h7 ht hp⟩
    |none=>
     cases hf:dn l with
     |some g=>exact⟨_,_,rfl,.v5 g h8 h7 (.inr hp) hf⟩
     |none=>
      cases hst:dU (has l)with
      |some ks=>exact⟨_,_,rfl,.v4 ks hf h7 (.inr hp) hst⟩
      |none=>exact⟨_,_,rfl,.v3 t hf h7 hp hst ht⟩
   |none=>
    cases hf:dn l with
    |some g=>exact⟨_,_,rfl,.v5 g h8 h7 (.inl ht) hf⟩
    |none=>
     cases hst:dU (has l)with
     |some ks=>exact⟨_,_,rfl,.v4 ks hf h7 (.inl ht) hst⟩
     |none=>
      cases hp:s.two with
      |none=>exact⟨_,_,rfl,.v0 hf h7 ht hst hp⟩
      |some p=>
       cases hq:s.second with
       |some q=>exact⟨_,_,rfl,.v2 p q hf h7 ht hst hp hq⟩
       |none=>exact⟨_,_,rfl,.v1 p hf h7 ht hst hp hq⟩
def tM{l:LI}(hl:ce l)(hs:oK (cnt l) s)(h7:s.four=none)(ht:s.three=none){r:Nat}(hr:r<13):cnt l r<=2:=by
 have:=oL hl r;have:=hs.f0 h7 r hr;have:=hs.t0 h7 ht r hr;omega
def Bu{l:LI}(hl:ce l)(hlen:5<=l.length)(hs:oK (cnt l) s){cat:Nat}{ks:LN}(h:View l s cat ks):ks.length=5:=by
 cases h with
 |v8 g ks hf h=>obtain⟨a,b,c,d,e,rfl,_⟩:=Br h;rfl
 |v7 r h8 h7=>
  have:=(hs.f1 r h7).2.1;have hc:=Bs (l:=l) fun x=>rk x==r;have:=Qz hl (X:=fun x=>x==r) (by simp only[cnt]at this;omega);simp only[List.length_cons];rw[show(fun x=>has l x&&x !=r)=fun x=>has l x&& !(x==r) from rfl,yY this]
 |v6=>rfl
 |v5 g h8 h7 h6 hf=>
  obtain⟨s',rfl,h5⟩:=yX hf;exact yY (Jm hl h5)
 |v4 ks hf h7 h6 h=>obtain⟨a,b,c,d,e,rfl,_⟩:=Br h;rfl
 |v3 t hf h7 hp hst ht=>
  have:=(hs.t1 h7 t ht).2.1;have hc:=Bs (l:=l) fun x=>rk x==t;have:=Jl hl (X:=fun x=>x==t) fun r hr hx=>by
   have:=hs.p0 h7 hp r hr;have hne:r≠t:=sU hx;apply rG;intro h2;have:=this om;rw[ht]at this;exact hne (Option.some.inj this).symm
  simp only[List.length_cons];rw[show(fun x=>has l x&&x !=t)=fun x=>has l x&& !(x==t) from rfl,yY (by simp only[cnt]at*;omega)]
 |v2 p q hf h7 ht hst hp hq=>
  have h1:=tM hl hs h7 ht (hs.p1 h7 p hp).1;have h2:=tM hl hs h7 ht (hs.q1 h7 ht p hp q hq).1;have hc:=Bs (l:=l) fun x=>rk x==p||rk x==q;have ho:=aA0 (l:=l) (p:=fun x=>rk x==p) (q:=fun x=>rk x==q);have:=Qz hl (X:=fun x=>x==p||x==q) (by simp only[cnt]at*;omega);simp only[List.length_cons];rw[show(fun x=>has l x&&x !=p&&x !=q)=fun x=>has l x&& !(x==p||x==q) from funext fun x=>by simp[bne,Bool.and_assoc],yY this]
 |v1 p hf h7 ht hst hp hq=>
  have h1:=tM hl hs h7 ht (hs.p1 h7 p hp).1;have hc:=Bs (l:=l) fun x=>rk x==p;have:=Jl hl (X:=fun x=>x==p) fun r hr hx=>by
   have hne:r≠p:=sU hx;apply rG;intro h2;exact hne (hs.q0 h7 ht p hp hq r hr om)
  simp only[List.length_cons];rw[show(fun x=>has l x&&x !=p)=fun x=>has l x&& !(x==p) from rfl,yY (by simp only[cnt]at*;omega)]
 |v0 hf h7 ht hst hp=>
  have hc:=Bs (l:=l) fun x=>false;have:=Jl hl (X:=fun x=>false) fun r hr hx=>by
   apply rG;intro h2;have:=hs.p0 h7 hp r hr om;rw[ht]at this;cases this
  simp only[Bool.not_false,Bool.and_true]at this hc;have h0:l.countP (fun _=>false)=0:=sA;have this:l.countP (fun _=>true)<=(cA (has l)).length:=this;exact yY (by omega)
section
variable {l:LI} {s:Sc} {k:Nat} {ks:LN}
def View.n8(h:View l s k ks)(hk:k<8):(dn l).bind dU=none:=by
 cases h<;>first|assumption|omega|(rename_i hf _ _ _;rw[hf];rfl)|(rename_i hf _ _ _ _;rw[hf];rfl)|(rename_i hf _ _ _ _ _;rw[hf];rfl)
def View.n7(h:View l s k ks)(hk:k<7):s.four=none:=by
 cases h<;>first|assumption|omega
def View.n6(h:View l s k ks)(hk:k<6):s.three=none∨s.two=none:=by
 cases h<;>first|assumption|omega|exact .inl ‹_› |exact .inr ‹_›
def View.n5(h:View l s k ks)(hk:k<5):dn l=none:=by
 cases h<;>first|assumption|omega
def View.n4(h:View l s k ks)(hk:k<4):dU (has l)=none:=by
 cases h<;>first|assumption|omega
def View.n3(h:View l s k ks)(hk:k<3):s.three=none:=by
 cases h<;>first|assumption|omega
def View.n2(h:View l s k ks)(hk:k<2):s.two=none∨s.second=none:=by
 cases h<;>first|omega|exact .inl ‹_› |exact .inr ‹_›
def View.n1(h:View l s k ks)(hk:k<1):s.two=none:=by
 cases h<;>first|assumption|omega
end
structure sB(l:LI)(a b c d e:Nat)(same:Prop):Prop where
 la:a<13
 lb:b<13
 lc:c<13
 ld:d<13
 le:e<13
 ma:has l a=true
 mb:has l b=true
 mc:has l c=true
 md:has l d=true
 me:has l e=true
 ct:∀r,[a,b,c,d,e].count r<=cnt l r
 fl:same->∃g,dn l=some g/\(g a=true/\g b=true/\g c=true/\g d=true/\g e=true)/\ [a,b,c,d,e].Nodup
def aA1(f:LI)(r:Nat):(f.map rk).count r=(f.filter fun x=>rk x==r).length:=by
 induction f with
 |nil=>rfl
 |cons x f ih=>
  rw[List.map_cons,List.count_cons,List.filter_cons,ih];split<;>simp_all
def aA2{l:LI}(hl:ce l)(hlen:l.length<=9)(hn:f.Nodup)(hm:∀x∈f,x∈l){c d e:Nat}(he:f.map rk=[a,b,c,d,e]):sB l a b c d e (∀x∈f,∀y∈f,st x=st y):=by
 have hr:∀r∈[a,b,c,d,e],r<13/\has l r=true:=by
  intro r h;rw[←he]at h;obtain⟨x,hx,rfl⟩:=qN.1 h;exact⟨tL (hl.2 x (hm x hx)),sz.2 ⟨x,hm x hx,rfl⟩⟩
 have Eh:f.length=5:=by have:=congrArg List.length he;simpa using this
 refine⟨(hr a sA).1,(hr b sA).1,(hr c sA).1,(hr d sA).1,(hr e sA).1,(hr a sA).2,(hr b sA).2,(hr c sA).2,(hr d sA).2,(hr e sA).2,fun r=>?_,fun hsame=>?_⟩
 ·rw[←he,aA1];exact Qw (hn.filter _) (fun x hx=>hm x (qV.1 hx).1) fun x hx=>sU ((qV.1 hx).2)
 ·obtain⟨g,hg,hg'⟩:=az8 hlen hn hm om hsame;have lO:∀r∈[a,b,c,d,e],g r=true:=by
   intro r h;rw[←he]at h;obtain⟨x,hx,rfl⟩:=qN.1 h;exact hg' x hx
  refine⟨g,hg,⟨lO a sA,lO b sA,lO c sA,lO d sA,lO e sA⟩,?_⟩;rw[←he];refine List.pairwise_map.2 (List.Pairwise.imp_of_mem ?_ hn);intro x y hx hy hne e';exact hne (Jj (hl.2 x (hm x hx)) (hl.2 y (hm y hy)) e' (hsame x hx y hy))
section
variable {l:LI} {s:Sc} {a b c d e k:Nat} {ks:LN} {p:Prop}
def aA3(h:sB l a b c d e p)(hv:View l s k ks)(hk:k<=8)(hp:p)(hc:xD a b c d e):k=8/\aS 8 [a,b,c,d,e]<=aS k ks:=by
 obtain⟨g,hg,hg',_⟩:=h.fl hp;obtain⟨ks',hk',hle⟩:=Qv (m:=g) 8 hc h.la hg';rcases qH k 8 with h1|h1
 ·have:=hv.n8 h1;rw[hg]at this;have this:dU g=none:=this;rw[hk']at this;cases this
 ·have:k=8:=om;subst this;cases hv with
  |v8 g' _ hf h'=>
   rw[hf]at hg;obtain rfl:=Option.some.inj hg;rw[h']at hk';obtain rfl:=Option.some.inj hk';exact⟨rfl,hle⟩
def ES{x y:Nat}(h:x<y)(hl:xs.length=ys.length)(hx:∀z∈xs,z<13):aS k (x::xs)<=aS k (y::ys):=by
 rw[mX,mX];exact Nat.le_of_lt (Jk om hl hx)
def aA4(hl:ce l)(hs:oK (cnt l) s)(h:sB l a b c d e p)(hv:View l s k ks)(dW:ks.length=5)(hk:k<=7)(e1:a=b)(e2:b=c)(e3:c=d):k=7/\aS 7 [a,b,c,d,e]<=aS k ks:=by
 subst e1 e2 e3;have h4:=h.ct a;have h5:=oL hl a;have hne:e≠a:=fun e'=>by simp[e']at h4;omega
 have h4:4<=cnt l a:=by simpa[List.count_cons,hne]using h4
 rcases qH k 7 with h1|h1
 ·exact absurd om (hs.f0 (hv.n7 h1) a h.la)
 ·have:k=7:=om;subst this;refine⟨rfl,?_⟩;cases hv with
  |v7 r h8 h7=>
   have:=(hs.f1 r h7).2.2 a h.la om;have:=h.la;have:=h.le;rcases qH a r with h2|h2
   ·exact ES h2 (sU dW.symm) (by simp;omega)
   ·obtain rfl:a=r:=om;simp only[mX _ a];exact(yV (m:=fun x=>has l x&&x !=a) (xs:=[e]) sA (by simp[h.le,h.me,hne])).2
def aA5(hl:ce l)(hs:oK (cnt l) s)(h:sB l a b c d e p)(hv:View l s k ks)(dW:ks.length=5)(hk:k<=6)(e1:a=b)(e2:b=c)(e3:d=e):k=6/\aS 6 [a,b,c,d,e]<=aS k ks:=by
 subst e1 e2 e3;have h4:=h.ct a;have mG:=h.ct d;have h5:=oL hl a;have hne:d≠a:=fun e'=>by simp[e']at h4;omega
 have AD:a≠d:=fun e'=>hne e'.symm;have h4:3<=cnt l a:=by simpa[List.count_cons,hne]using h4
 have mG:2<=cnt l d:=by simpa[List.count_cons,AD]using mG
 have h7:=hv.n7 om;have h6:=hs.f0 h7 a h.la;rcases qH k 6 with h1|h1
 ·exfalso;rcases hv.n6 h1 with h8|h8
  ·exact hs.t0 h7 h8 a h.la om
  ·have e1:=hs.p0 h7 h8 a h.la om;have e2:=hs.p0 h7 h8 d h.ld om;rw[e1]at e2;exact AD (Option.some.inj e2)
 ·have:k=6:=om;subst this;refine⟨rfl,?_⟩;cases hv with
  |v6 t q _ _ ht hq=>
   have h8:=(hs.t1 h7 t ht).2.2 a h.la om;have h9:=(hs.p1 h7 q hq).2.2.2 d h.ld mG;have:=h.la;have:=h.ld;rw[ht]at h9;rw[Qy,Qy];rcases qH a t with h2|h2
   ·omega
   ·obtain rfl:a=t:=om;have:=h9 (fun e'=>AD (Option.some.inj e'));omega
def aA6(h:sB l a b c d e p)(hv:View l s k ks)(hk:k<=5)(hp:p):k=5/\aS 5 [a,b,c,d,e]<=aS k ks:=by
 obtain⟨g,hg,hg',aK⟩:=h.fl hp;rcases qH k 5 with h1|h1
 ·rw[hv.n5 h1]at hg;cases hg
 ·have:k=5:=om;subst this;refine⟨rfl,?_⟩;cases hv with
  |v5 g' _ _ _ hf=>
   rw[hf]at hg;obtain rfl:=Option.some.inj hg;exact(yV (m:=g') (xs:=[a,b,c,d,e]) aK (by simp[h.la,h.lb,h.lc,h.ld,h.le,hg'])).2
def aA7(h:sB l a b c d e p)(hv:View l s k ks)(hk:k<=4)(hc:xD a b c d e):k=4/\aS 4 [a,b,c,d,e]<=aS k ks:=by
 obtain⟨ks',hk',hle⟩:=Qv (m:=has l) 4 hc h.la ⟨h.ma,h.mb,h.mc,h.md,h.me⟩;rcases qH k 4 with h1|h1
 ·rw[hv.n4 h1]at hk';cases hk'
 ·have:k=4:=om;subst this;refine⟨rfl,?_⟩;cases hv with
  |v4 _ _ _ _ h'=>
   rw[h']at hk';obtain rfl:=Option.some.inj hk';exact hle
def aA8(hl:ce l)(hs:oK (cnt l) s)(h:sB l a b c d e p)(hv:View l s k ks)(dW:ks.length=5)(hk:k<=3)(e1:a=b)(e2:b=c):k=3/\aS 3 [a,b,c,d,e]<=aS k ks:=by
 subst e1 e2;have h4:=h.ct a;have h7:=hv.n7 om;have h5:=oL hl a;have h6:=hs.f0 h7 a h.la;have hd:d≠a:=fun e'=>by simp[e',List.count_cons]at h4;omega
 have he:e≠a:=fun e'=>by simp[e',List.count_cons]at h4;omega
 have h4:3<=cnt l a:=by simpa[List.count_cons,hd,he]using h4
 rcases qH k 3 with h1|h1
 ·exact absurd om (hs.t0 h7 (hv.n3 h1) a h.la)
 ·have:k=3:=om;subst this;refine⟨rfl,?_⟩;cases hv with
  |v3 t hf _ hp hst ht=>
   have h8:=(hs.t1 h7 t ht).2.2 a h.la om;have hde:d≠e:=fun e'=>by
    have h9:=h.ct d;subst e';have had:a≠d:=fun e'=>hd e'.symm;have h9:2<=cnt l d:=(by simpa[List.count_cons,had]using h9);have e1:=hs.p0 h7 hp a h.la om;have e2:=hs.p0 h7 hp d h.ld om;rw[e1]at e2;exact hd (Option.some.inj e2).symm
   have:=h.la;have:=h.ld;have:=h.le;rcases qH a t with h2|h2
   ·exact ES h2 (sU dW.symm) (by simp;omega)
   ·obtain rfl:a=t:=om;simp only[mX _ a];exact(yV (m:=fun x=>has l x&&x !=a) (xs:=[d,e]) (by simp[hde]) (by simp[h.ld,h.md,hd,h.le,h.me,he])).2
def II(hl:ce l)(hs:oK (cnt l) s)(h:sB l a b c d e p)(hv:View l s k ks)(dW:ks.length=5)(hk:k<=2)(e1:a=b)(e2:c=d):k=2/\aS 2 [a,b,c,d,e]<=aS k ks:=by
 subst e1 e2;have h4:=h.ct a;have mG:=h.ct c;have h7:=hv.n7 om;have ht:=hv.n3 om;have h5:=tM hl hs h7 ht h.la;have Dc:=tM hl hs h7 ht h.lc;have hca:c≠a:=fun e'=>by simp[e',List.count_cons]at h4;omega
 have hac:a≠c:=fun e'=>hca e'.symm;have Bv:e≠a:=fun e'=>by simp[e',hca]at h4;omega
 have QA:e≠c:=fun e'=>by simp[e',hac]at mG;omega
 have h4:2<=cnt l a:=by simpa[List.count_cons,hca,Bv]using h4
 have mG:2<=cnt l c:=by simpa[List.count_cons,hac,QA]using mG
 rcases qH k 2 with h1|h1
 ·exfalso;rcases hv.n2 h1 with h8|h8
  ·have:=hs.p0 h7 h8 a h.la h4;rw[ht]at this;cases this
  ·cases hp:s.two with
   |none=>
    have:=hs.p0 h7 hp a h.la h4;rw[ht]at this;cases this
   |some q=>
    have e1:=hs.q0 h7 ht q hp h8 a h.la h4;have e2:=hs.q0 h7 ht q hp h8 c h.lc mG;omega
 ·have:k=2:=om;subst this;refine⟨rfl,?_⟩;cases hv with
  |v2 q r hf _ _ hst hq hr=>
   obtain⟨-,s9, -,QB⟩:=hs.p1 h7 q hq;obtain⟨-,cP,tz,D5⟩:=hs.q1 h7 ht q hq r hr;have h8:=QB a h.la h4 (by rw[ht];simp);have h8':=QB c h.lc mG (by rw[ht];simp);have:=h.la;have:=h.lc;have:=h.le;rcases qH a q with h2|h2
   ·exact ES h2 (sU dW.symm) (by simp;omega)
   ·obtain rfl:a=q:=om;have h9:=D5 c h.lc mG hca;simp only[mX _ a];rcases qH c r with h3|h3
    ·exact ES h3 (sU dW.symm) (by simp;omega)
    ·obtain rfl:c=r:=om;simp only[mX _ c];exact(yV (m:=fun x=>has l x&&x !=a&&x !=c) (xs:=[e]) sA (by simp[h.le,h.me,Bv,QA])).2
def aA9(hl:ce l)(hs:oK (cnt l) s)(h:sB l a b c d e p)(hv:View l s k ks)(dW:ks.length=5)(hk:k<=1)(e1:a=b):k=1/\aS 1 [a,b,c,d,e]<=aS k ks:=by
 subst e1;have h4:=h.ct a;have h7:=hv.n7 om;have ht:=hv.n3 om;have h5:=tM hl hs h7 ht h.la;have hca:c≠a:=fun e'=>by subst e';simp[List.count_cons]at h4;omega
 have hda:d≠a:=fun e'=>by subst e';simp[List.count_cons]at h4;omega
 have Bv:e≠a:=fun e'=>by subst e';simp[List.count_cons]at h4;omega
 have h4:2<=cnt l a:=by simpa[List.count_cons,hca,hda,Bv]using h4
 cases hp:s.two with
 |none=>
  have:=hs.p0 h7 hp a h.la h4;rw[ht]at this;cases this
 |some q=>
  rcases qH k 1 with h1|h1
  ·rw[hv.n1 h1]at hp;cases hp
  ·have:k=1:=om;subst this;have h8:s.second=none:=(hv.n2 om).resolve_left (by rw[hp];simp);have hq:=hs.q0 h7 ht q hp h8;have haq:=hq a h.la h4;have hcd:c≠d:=fun e'=>by
    have:=h.ct c;subst e';have:=hq c h.lc (by simp[List.count_cons]at this;omega);omega
   have hce:c≠e:=fun e'=>by
    have:=h.ct c;subst e';have:=hq c h.lc (by simp[List.count_cons]at this;omega);omega
   have hde:d≠e:=fun e'=>by
    have:=h.ct d;subst e';have:=hq d h.ld (by simp[List.count_cons]at this;omega);omega
   refine⟨rfl,?_⟩;cases hv with
   |v1 q' hf _ _ hst s8 hr=>
    rw[hp]at s8;obtain rfl:=Option.some.inj s8;subst haq;simp only[mX _ a];exact(yV (m:=fun x=>has l x&&x !=a) (xs:=[c,d,e]) (by simp[hcd,hce,hde]) (by simp[h.lc,h.mc,hca,h.ld,h.md,hda,h.le,h.me,Bv])).2
def aB0(hs:oK (cnt l) s)(h:sB l a b c d e p)(hv:View l s k ks)(hk:k<=0):aS 0 [a,b,c,d,e]<=aS k ks:=by
 have h7:=hv.n7 om;have ht:=hv.n3 om;have hp:=hv.n1 om;have hone:∀r,r<13->cnt l r<=1:=fun r hr=>by
  apply rG;intro h2;have:=hs.p0 h7 hp r hr om;rw[ht]at this;cases this
 have aK:[a,b,c,d,e].Nodup:=by
  refine List.nodup_iff_count.2 fun x=>?_;rcases qH x 13 with hx|hx
  ·exact rA (h.ct x) (hone x hx)
  ·have h1:=h.la;have h2:=h.lb;have h3:=h.lc;have h4:=h.ld;have h5:=h.le;rw[List.count_eq_zero_of_not_mem (by simp;omega)];omega
 have:k=0:=om;subst this;cases hv with
 |v0=>exact(yV (m:=has l) (xs:=[a,b,c,d,e]) aK (by simp[h.la,h.lb,h.lc,h.ld,h.le,h.ma,h.mb,h.mc,h.md,h.me])).2
end
def aB1{l:LI}(hl:ce l)(hlen:5<=l.length/\l.length<=9)(hs:oK (cnt l) s)(hw:yW l v):v<=kW (has l) (dn l) s:=by
 obtain⟨k,ks,hv,jW⟩:=view l s;have dW:=Bu hl hlen.1 hs jW;rw[hv];obtain⟨f,hn,hm,cat,⟨a,b,c,d,e,he,hc⟩,rfl⟩:=hw;have ht:=aA2 hl hlen.2 hn hm he;rw[he];rcases qH cat k with hlt|hge
 ·exact az9 hlt rfl dW (by have:=ht.la;have:=ht.lb;have:=ht.lc;have:=ht.ld;have:=ht.le;simp;omega)
 ·rcases hc with⟨rfl,h1,h2⟩|⟨rfl,h1,h2,h3⟩|⟨rfl,h1,h2,h3⟩|⟨rfl,h1⟩|⟨rfl,h1⟩|⟨rfl,h1,h2⟩|⟨rfl,h1,h2⟩|⟨rfl,h1⟩|rfl
  ·exact(aA3 ht jW hge h1 h2).2
  ·exact(aA4 hl hs ht jW dW hge h1 h2 h3).2
  ·exact(aA5 hl hs ht jW dW hge h1 h2 h3).2
  ·exact(aA6 ht jW hge h1).2
  ·exact(aA7 ht jW hge h1).2
  ·exact(aA8 hl hs ht jW dW hge h1 h2).2
  ·exact(II hl hs ht jW dW hge h1 h2).2
  ·exact(aA9 hl hs ht jW dW hge h1).2
  ·exact aB0 hs ht jW hge
def pick{l:LI}{q:Int->Prop}:∀{ks:LN},(∀k∈ks,∃x∈l,rk x=k/\q x)->∃os:LI,os.map rk=ks/\∀x∈os,x∈l/\q x:=by
 intro ks;induction ks with
 |nil=>intro _;exact⟨[],rfl,sA⟩
 |cons k ks ih=>
  intro h;obtain⟨os,h1,h2⟩:=ih fun k hk=>h k (by simp[hk])
  obtain⟨x,hx,e,hq⟩:=h k sA;exact⟨x::os,by simp[h1,e],by intro y hy;rcases qO.1 hy with hy|hy;exact hy▸⟨hx,hq⟩;exact h2 y hy⟩
def Bw{os:LI}(h:(os.map rk).Nodup):os.Nodup:=
 (List.pairwise_map.1 h).imp fun{a b} hne (e:a=b)=>hne (by rw[e])
def ET{l:LI}(hl:ce l){r:Nat}(h:n<=cnt l r):∃xs:LI,xs.Nodup/\(∀x∈xs,x∈l)/\xs.map rk=List.replicate n r:=by
 rw[cnt,List.countP_eq_length_filter]at h;refine⟨(l.filter fun x=>rk x==r).take n,(hl.1.filter _).sublist (List.take_sublist _ _),fun x hx=>(qV.1 (rU hx)).1,?_⟩;refine List.eq_replicate_iff.2 ⟨by rw[qJ,qL];omega,fun k hk=>?_⟩;obtain⟨x,hx,rfl⟩:=qN.1 hk;simpa using(qV.1 (rU hx)).2
def Jn{xs os:LI}(h1:xs.Nodup)(h2:os.Nodup)(h:∀k∈xs.map rk,k∉os.map rk):(xs++os).Nodup:=by
 refine rC.2 ⟨h1,h2,fun x hx y hy e=>?_⟩;exact h (rk x) (qN.2 ⟨x,hx,rfl⟩) (qN.2 ⟨y,hy,by rw[e]⟩)
def Jo(m:Nat->Bool)(n:Nat):((cA m).take n).Nodup:=(mg m).sublist (List.take_sublist _ _)
def Bx(h:k∈(cA m).take n):k<13/\m k=true:=jB.1 (rU h)
def yZ{ks:LN}(h:ks.length=5):∃a b c d e,ks=[a,b,c,d,e]:=by
 match ks,h with
 |[a,b,c,d,e],_=>exact⟨_,_,_,_,_,rfl⟩
def EU{l:LI}(hl:ce l){r:Nat}(h:n<=cnt l r)(hm:∀x,m x=true->has l x=true/\x≠r):∃f:LI,f.Nodup/\(∀x∈f,x∈l)/\f.map rk=List.replicate n r++(cA m).take k:=by
 obtain⟨xs,h1,h2,h3⟩:=ET hl h;obtain⟨os,h4,h5⟩:=pick (l:=l) (q:=fun _=>True) (ks:=(cA m).take k) fun y hy=>by
  obtain⟨x,hx,e⟩:=sz.1 (hm y (Bx hy).2).1;exact⟨x,hx,e,trivial⟩
 refine⟨xs++os,Jn h1 (Bw (by rw[h4];exact Jo _ _)) ?_,?_,by rw[qG,h3,h4]⟩
 ·rw[h3,h4];intro y hy hy';exact(hm y (Bx hy').2).2 (List.eq_of_mem_replicate hy)
 ·intro x hx;rcases qI.1 hx with hx|hx
  ·exact h2 x hx
  ·exact(h5 x hx).1
def aB2{l:LI}(hl:ce l)(hlen:5<=l.length)(hs:oK (cnt l) s):yW l (kW (has l) (dn l) s):=by
 obtain⟨k,ks,hv,jW⟩:=view l s;have dW:=Bu hl hlen hs jW;rw[hv];cases jW with
 |v8 g _ hf h=>
  obtain⟨s',rfl,_⟩:=yX hf;obtain⟨a,b,c,d,e,rfl,hc,ha,he,h1,h2,h3,h4,h5⟩:=Br h;obtain⟨os,h6,h7⟩:=pick (l:=l) (q:=fun x=>st x=s') (ks:=[a,b,c,d,e]) fun y hy=>by
   have:fg l s' y=true:=by
    simp only[qO,List.not_mem_nil,or_false]at hy;rcases hy with rfl|rfl|rfl|rfl|rfl<;>assumption
   obtain⟨x,hx,e1,e2⟩:=xE.1 this;exact⟨x,hx,e2,e1⟩
  refine⟨os,Bw (by rw[h6];rcases hc with hc|hc<;>simp<;>omega),fun x hx=>(h7 x hx).1,8,⟨a,b,c,d,e,h6,.inl ⟨rfl,fun x hx y hy=>by rw[(h7 x hx).2,(h7 y hy).2],hc⟩⟩,by rw[h6]⟩
 |v7 r h8 h7=>
  obtain⟨f,h1,h2,h3⟩:=EU (l:=l) hl (n:=4) (r:=r) (k:=1) (m:=fun x=>has l x&&x !=r) (by have:=(hs.f1 r h7).2.1;omega) sA;obtain⟨a,b,c,d,e,he⟩:=yZ dW;have h3:f.map rk=r::r::r::r::(cA fun x=>has l x&&x !=r).take 1:=h3;refine⟨f,h1,h2,7,⟨a,b,c,d,e,by rw[h3,he],.inr (.inl ?_)⟩,by rw[h3]⟩;simp only[List.cons.injEq]at he;omega
 |v6 t p h8 h7 ht hp=>
  obtain⟨h1,h2, -⟩:=hs.t1 h7 t ht;obtain⟨h3,h4,h5, -⟩:=hs.p1 h7 p hp;have hne:t≠p:=fun e=>h5 (by rw[ht,e]);obtain⟨xs,a1,a2,a3⟩:=ET (l:=l) hl (n:=3) (r:=t) om;obtain⟨os,b1,b2,b3⟩:=ET (l:=l) hl (n:=2) (r:=p) om;refine⟨xs++os,Jn a1 b1 (by rw[a3,b3];simp[hne]),fun x hx=>?_,6,⟨t,t,t,p,p,by rw[qG,a3,b3];rfl,om⟩,by rw[qG,a3,b3];rfl⟩;rcases qI.1 hx with hx|hx
  ·exact a2 x hx
  ·exact b2 x hx
 |v5 g h8 h7 h6 hf=>
  obtain⟨s',rfl,h5⟩:=yX hf;obtain⟨os,a1,a2⟩:=pick (l:=l) (q:=fun x=>st x=s') (ks:=(cA (fg l s')).take 5) fun y hy=>by
   obtain⟨x,hx,e1,e2⟩:=xE.1 (Bx hy).2;exact⟨x,hx,e2,e1⟩
  obtain⟨a,b,c,d,e,he⟩:=yZ dW;exact⟨os,Bw (by rw[a1];exact Jo _ _),fun x hx=>(a2 x hx).1,5,⟨a,b,c,d,e,by rw[a1,he],by
   right;right;right;left;exact⟨rfl,fun x hx y hy=>by rw[(a2 x hx).2,(a2 y hy).2]⟩⟩,by rw[a1]⟩
 |v4 _ hf h7 h6 h=>
  obtain⟨a,b,c,d,e,rfl,hc,ha,he,h1,h2,h3,h4,h5⟩:=Br h;obtain⟨os,h6,h7⟩:=pick (l:=l) (q:=fun x=>True) (ks:=[a,b,c,d,e]) fun y hy=>by
   have:has l y=true:=by
    simp only[qO,List.not_mem_nil,or_false]at hy;rcases hy with rfl|rfl|rfl|rfl|rfl<;>assumption
   obtain⟨x,hx,e2⟩:=sz.1 this;exact⟨x,hx,e2,trivial⟩
  refine⟨os,Bw (by rw[h6];rcases hc with hc|hc<;>simp<;>omega),fun x hx=>(h7 x hx).1,4,⟨a,b,c,d,e,h6,by right;right;right;right;left;exact⟨rfl,hc⟩⟩,by rw[h6]⟩
 |v3 t hf h7 hp hst ht=>
  obtain⟨f,h1,h2,h3⟩:=EU (l:=l) hl (n:=3) (r:=t) (k:=2) (m:=fun x=>has l x&&x !=t) (by have:=(hs.t1 h7 t ht).2.1;omega) sA;obtain⟨a,b,c,d,e,he⟩:=yZ dW;have h3:f.map rk=t::t::t::(cA fun x=>has l x&&x !=t).take 2:=h3;refine⟨f,h1,h2,3,⟨a,b,c,d,e,by rw[h3,he],?_⟩,by rw[h3]⟩;simp only[List.cons.injEq]at he;omega
 |v2 p q hf h7 ht hst hp hq=>
  obtain⟨h3,h4,h5, -⟩:=hs.p1 h7 p hp;obtain⟨a1,a2,a3, -⟩:=hs.q1 h7 ht p hp q hq;obtain⟨xs,b1,b2,b3⟩:=ET (l:=l) hl (n:=2) (r:=p) om;obtain⟨f,c1,c2,c3⟩:=EU (l:=l) hl (n:=2) (r:=q) (k:=1) (m:=fun x=>has l x&&x !=p&&x !=q) a2 (fun x hx=>by simp at hx;exact⟨hx.1.1,hx.2⟩);obtain⟨a,b,c,d,e,he⟩:=yZ dW;have h3:(xs++f).map rk=p::p::q::q::(cA fun x=>has l x&&x !=p&&x !=q).take 1:=by rw[qG,b3,c3];rfl
  refine⟨xs++f,Jn b1 c1 ?_,fun x hx=>?_,2,⟨a,b,c,d,e,by rw[h3,he],?_⟩,by rw[h3]⟩
  ·rw[b3,c3];intro y hy hy';have e:=List.eq_of_mem_replicate hy;subst e;rcases qI.1 hy' with h|h
   ·exact a3 (List.eq_of_mem_replicate h).symm
   ·have:=(Bx h).2;simp at this
  ·rcases qI.1 hx with hx|hx
   ·exact b2 x hx
   ·exact c2 x hx
  ·simp only[List.cons.injEq]at he;omega
 |v1 p hf h7 ht hst hp hq=>
  obtain⟨f,h1,h2,h3⟩:=EU (l:=l) hl (n:=2) (r:=p) (k:=3) (m:=fun x=>has l x&&x !=p) (hs.p1 h7 p hp).2.1 sA;obtain⟨a,b,c,d,e,he⟩:=yZ dW;have h3:f.map rk=p::p::(cA fun x=>has l x&&x !=p).take 3:=h3;refine⟨f,h1,h2,1,⟨a,b,c,d,e,by rw[h3,he],?_⟩,by rw[h3]⟩;simp only[List.cons.injEq]at he;omega
 |v0 hf h7 ht hst hp=>
  obtain⟨os,a1,a2⟩:=pick (l:=l) (q:=fun x=>True) (ks:=(cA (has l)).take 5) fun y hy=>by
   obtain⟨x,hx,e2⟩:=sz.1 (Bx hy).2;exact⟨x,hx,e2,trivial⟩
  obtain⟨a,b,c,d,e,he⟩:=yZ dW;exact⟨os,Bw (by rw[a1];exact Jo _ _),fun x hx=>(a2 x hx).1,0,⟨a,b,c,d,e,by rw[a1,he],om⟩,by rw[a1]⟩
def kX(c:Nat->Nat)(s:Sc)(r:Nat):Sc:=
 if c r=4/\s.four=none then{s with four:=some r}
 else if 3<=c r/\s.three=none then{s with three:=some r}
 else if 2<=c r/\s.two=none then{s with two:=some r}
 else if 2<=c r/\s.second=none then{s with second:=some r}
 else s
def scan(c:Nat->Nat):Sc:=mY.foldl (kX c) ⟨none,none,none,none⟩
structure EV(c:Nat->Nat)(b:Nat)(s:Sc):Prop where
 f1:∀r,s.four=some r->b<=r/\r<13/\c r=4/\∀r',r<r'->r'<13->c r'≠4
 f0:s.four=none->∀r,b<=r->r<13->c r≠4
 t1:s.four=none->∀t,s.three=some t->b<=t/\t<13/\c t=3/\∀r,t<r->r<13->c r≠3
 t0:s.four=none->s.three=none->∀r,b<=r->r<13->c r≠3
 p1:s.four=none->∀p,s.two=some p->b<=p/\p<13/\2<=c p/\s.three≠some p/\∀r,p<r->r<13->2<=c r->s.three=some r
 p0:s.four=none->s.two=none->∀r,b<=r->r<13->2<=c r->s.three=some r
 q1:s.four=none->s.three=none->∀p,s.two=some p->∀q,s.second=some q->b<=q/\q<13/\2<=c q/\q≠p/\∀r,q<r->r<13->2<=c r->r=p
 q0:s.four=none->s.three=none->∀p,s.two=some p->s.second=none->∀r,b<=r->r<13->2<=c r->r=p
 r0:s.four=none->s.three=none->s.two=none->s.second=none
def nB(hc:∀r,c r<=4)(hb:b<13)(h:EV c (b+1) s):EV c b (kX c s b):=by
 obtain⟨four,three,two,second⟩:=s;obtain⟨f1,f0,t1,t0,p1,p0,q1,q0,r0⟩:=h;have hcb:=hc b;unfold kX;simp only at*;split
 ·constructor<;>simp only<;>grind
 ·split
  ·constructor<;>simp only<;>grind
  ·split
   ·constructor<;>simp only<;>grind
   ·split
    ·constructor<;>simp only<;>grind
    ·constructor<;>simp only<;>grind
def By(hc:∀r,c r<=4):oK c (scan c):=by
 have h0:EV c 13 ⟨none,none,none,none⟩:=by constructor<;>simp<;>omega
 have h:=nB hc (b:=0) dc (nB hc (b:=1) dc (nB hc (b:=2) dc (nB hc (b:=3) dc (nB hc (b:=4) dc (nB hc (b:=5) dc (nB hc (b:=6) dc (nB hc (b:=7) dc (nB hc (b:=8) dc (nB hc (b:=9) dc (nB hc (b:=10) dc (nB hc (b:=11) dc (nB hc (b:=12) dc h0))))))))))))
 change EV c 0 (scan c)at h
 generalize scan c=s at h;obtain⟨f1,f0,t1,t0,p1,p0,q1,q0,r0⟩:=h;refine⟨fun r hr=>?_,fun h r hr=>f0 h r om hr,fun h t ht=>?_,fun h ht r hr=>t0 h ht r om hr,fun h p hp=>?_,fun h hp r hr=>p0 h hp r om hr,fun h ht p hp q hq=>?_,fun h ht p hp hq r hr=>q0 h ht p hp hq r om hr⟩
 ·obtain⟨_,h1,h2,h3⟩:=f1 r hr;exact⟨h1,h2,fun r' h4 h5=>Nat.le_of_not_lt fun h6=>h3 r' h6 h4 h5⟩
 ·obtain⟨_,h1,h2,h3⟩:=t1 h t ht;exact⟨h1,h2,fun r' h4 h5=>Nat.le_of_not_lt fun h6=>h3 r' h6 h4 h5⟩
 ·obtain⟨_,h1,h2,h3,h4⟩:=p1 h p hp;exact⟨h1,h2,h3,fun r' h5 h6 h7=>Nat.le_of_not_lt fun h8=>h7 (h4 r' h8 h5 h6)⟩
 ·obtain⟨_,h1,h2,h3,h4⟩:=q1 h ht p hp q hq;exact⟨h1,h2,h3,fun r' h5 h6 h7=>Nat.le_of_not_lt fun h8=>h7 (h4 r' h8 h5 h6)⟩
def gP(l:LI):Nat:=kW (has l) (dn l) (scan (cnt l))
def EW{l:LI}(hl:ce l)(hlen:5<=l.length):yW l (gP l):=aB2 hl hlen (By (oL hl))
def Jp{l:LI}(hl:ce l)(hlen:5<=l.length/\l.length<=9)(hw:yW l v):v<=gP l:=aB1 hl hlen (By (oL hl)) hw
def jX(c:Nat->Nat):Option Nat:=
 match [12,11,10,9,8,7,6,5,4].find? (fN fun r=>c r==1)with
 |some t=>some t
 |none=>if kV fun r=>c r==1 then some 3 else none
def ba(c:Nat->Nat)(n:Nat):LN:=cA fun r=>c r==n
def mZ(c:Nat->Nat):LN:=
 if jX c=some 3 then [3,2,1,0,12]else(ba c 4).flatMap (List.replicate 4)++((ba c 3).flatMap (List.replicate 3)++((ba c 2).flatMap (List.replicate 2)++ba c 1))
def qb(c:Nat->Nat)(fl:Bool):Nat:=
 if(jX c).isSome&&fl then 8 else if(ba c 4).length=1 then 7 else if(ba c 3).length=1/\(ba c 2).length=1 then 6 else if fl then 5 else if(jX c).isSome then 4
 else if(ba c 3).length=1 then 3 else if(ba c 2).length=2 then 2 else if(ba c 2).length=1 then 1 else 0
def y7(c:Nat->Nat)(fl:Bool):Nat:=371293*qb c fl+aS 0 (mZ c)
def aB3(a b:Nat):∀ks:LN,aS (a+b) ks=13^ks.length*a+aS b ks:=by
 intro ks;induction ks generalizing a b with
 |nil=>simp[aS]
 |cons k ks ih=>
  rw[mX,mX,show(a+b)*13+k=13*a+(b*13+k) by omega,ih,List.length_cons,Nat.pow_succ,Nat.mul_assoc]
def QC{ks:LN}(h:ks.length=5):aS k ks=371293*k+aS 0 ks:=by
 have:=aB3 k 0 ks;rw[h]at this;exact this
def QD:∀{xs ys:LN},xs.Pairwise (· > ·)->ys.Pairwise (· > ·)->(∀x∈xs,x∈ys)->ys.length<=xs.length->xs=ys:=by
 intro xs;induction xs with
 |nil=>intro ys _ _ _ h;exact(rX (sU h)).symm
 |cons x xs ih=>
  intro ys hx hy hs hl;cases ys with
  |nil=>have:=hs x sA;simp at this
  |cons y ys=>
   rw[List.pairwise_cons]at hx hy;have hxn:(x::xs).Nodup:=qX.2 ⟨fun h=>by have:=hx.1 x h;omega,hx.2.imp fun h=>om⟩;by_cases e:x=y
   ·subst e;rw[ih hx.2 hy.2 (fun z hz=>?_) (sU hl)];have:=hx.1 z hz;rcases qO.1 (hs z (by simp[hz]))with h|h
    ·omega
    ·exact h
   ·exfalso;have hxy:x∈ys:=(qO.1 (hs x sA)).resolve_left e;have h1:=hy.1 x hxy;have:=sy (ys:=ys) hxn fun z hz=>by
     refine(qO.1 (hs z hz)).resolve_left ?_;rcases qO.1 hz with h|h
     ·omega
     ·have:=hx.1 z h;omega
    simp only[List.length_cons]at hl this;omega
def Jq(hx:xs.Pairwise (· > ·))(hy:ys.Pairwise (· > ·))(h:∀z,z∈xs↔z∈ys):xs=ys:=
 QD hx hy (fun z hz=>(h z).1 hz) (sy (hy.imp fun h=>om) fun z hz=>(h z).2 hz)
def vj{l:LI}:∀{rs:LN},rs.Nodup->(rs.map (cnt l)).sum<=l.length:=by
 have key:∀rs:LN,rs.Nodup->(rs.map (cnt l)).sum<=l.countP fun x=>decide (rk x∈rs):=by
  intro rs;induction rs with
  |nil=>simp
  |cons r rs ih=>
   intro hn;rw[qX]at hn;rw[List.map_cons,rZ];have h1:=ih hn.2;have h2:∀l:LI,cnt l r+l.countP (fun x=>decide (rk x∈rs))<=l.countP fun x=>decide (rk x∈r::rs):=by
    intro l;induction l with
    |nil=>simp[cnt]
    |cons x l ihl=>
     simp only[cnt,List.countP_cons]at ihl ⊢;by_cases e:rk x=r
     ·have:rk x∉rs:=e▸hn.1;simp[e,hn.1]at*;omega
     ·by_cases e':rk x∈rs
      ·simp[e,e']at*;omega
      ·simp[e,e']at*;omega
   have:=h2 l;omega
 intro rs hn;exact rA (key rs hn) List.countP_le_length
def sC{l:LI}{r:Nat}:has l r=true↔1<=cnt l r:=by
 rw[sz,cnt,show 1<=List.countP (fun x=>rk x==r) l↔0<List.countP (fun x=>rk x==r) l from Iff.rfl,List.countP_pos_iff];simp
def EX:∀{rs:LN},(∀r∈rs,1<=c r)->rs.length<=(rs.map c).sum:=by
 intro rs;induction rs with
 |nil=>simp
 |cons r rs ih=>
  intro h;have:=ih fun x hx=>h x (by simp[hx]);have:=h r sA;simp only[List.length_cons,List.map_cons,rZ];omega
def Bz{l:LI}(hx:xs.Nodup)(hm:∀x,m x=true->has l x=true/\x∉xs):(xs.map (cnt l)).sum+(cA m).length<=l.length:=by
 have:=vj (l:=l) (rs:=xs++cA m) (rC.2 ⟨hx,mg m,fun x h1 y h2 e=>(hm y (jB.1 h2).2).2 (e▸h1)⟩);rw[qG,List.sum_append]at this;have:=EX (c:=cnt l) (rs:=cA m) fun r hr=>sC.1 (hm r (jB.1 hr).2).1;omega
def BA{r:Nat}(hr:r<13)(h:∀x,x<13->(c x=n↔x=r)):ba c n=[r]:=by
 refine Jq (xC _) sA fun z=>?_;rw[ba,jB,List.mem_singleton,beq_iff_eq];exact⟨fun hz=>(h z hz.1).1 hz.2,fun e=>⟨e▸hr,(h z (e▸hr)).2 e⟩⟩
def nC(h:∀x,x<13->c x≠n):ba c n=[]:=by
 refine List.eq_nil_iff_forall_not_mem.2 fun z hz=>?_;rw[ba,jB,beq_iff_eq]at hz;exact h z hz.1 hz.2
def BB(h:∀x,x<13->(c x=1↔m x=true)):ba c 1=cA m:=by
 refine Jq (xC _) (xC _) fun z=>?_;rw[ba,jB,jB,beq_iff_eq];exact⟨fun hz=>⟨hz.1,(h z hz.1).1 hz.2⟩,fun hz=>⟨hz.1,(h z hz.1).2 hz.2⟩⟩
def y8{l:LN}(h:l.length<=n):l.take n=l:=qQ h
def aB4{l:LI}(h5:l.length=5){r:Nat}(hr:2<=cnt l r):jX (cnt l)=none/\dU (has l)=none:=by
 have key:∀{a b c d e:Nat},xD a b c d e->(1<=cnt l a/\1<=cnt l b/\1<=cnt l c/\1<=cnt l d/\1<=cnt l e)->False:=by
  intro a b c d e hc h;have hn:[a,b,c,d,e].Nodup:=by rcases hc with hc|hc<;>simp<;>omega
  by_cases hm:r∈[a,b,c,d,e]
  ·have:=vj (l:=l) hn;simp only[List.map_cons,List.map_nil,rZ,List.sum_nil]at this;simp only[qO,List.not_mem_nil,or_false]at hm;rcases hm with rfl|rfl|rfl|rfl|rfl<;>omega
  ·have:=vj (l:=l) (qX.2 ⟨hm,hn⟩);simp only[List.map_cons,List.map_nil,rZ,List.sum_nil]at this;omega
 constructor
 ·unfold jX;split
  ·rename_i t ht;have hp:=List.find?_some ht;have hm:=List.mem_of_find?_eq_some ht;simp only[fN,qM,beq_iff_eq]at hp;exfalso;refine key (a:=t) (b:=t-1) (c:=t-2) (d:=t-3) (e:=t-4) (.inl ?_) om;simp only[qO,List.not_mem_nil,or_false]at hm;omega
  ·split
   ·rename_i hw;simp only[kV,qM,beq_iff_eq]at hw;exfalso;exact key (a:=3) (b:=2) (c:=1) (d:=0) (e:=12) (.inr om) om
   ·rfl
 ·cases h:dU (has l)with
  |none=>rfl
  |some ks=>
   obtain⟨a,b,c,d,e,rfl,hc,_,_,h1,h2,h3,h4,h5⟩:=Br h;rw[sC]at h1 h2 h3 h4 h5;exact(key hc ⟨h1,h2,h3,h4,h5⟩).elim
def aB5{l:LI}(hl:ce l)(h5:l.length=5){r:Nat}(hr:2<=cnt l r):dn l=none:=by
 cases h:dn l with
 |none=>rfl
 |some g=>
  obtain⟨s,rfl,hs⟩:=yX h;have h6:=Jm hl hs;have h7:=vj (l:=l) (mg (fg l s));have h8:∀x∈cA (fg l s),1<=cnt l x:=fun x hx=>by
   obtain⟨y,hy,_,e⟩:=xE.1 (jB.1 hx).2;exact sC.1 (sz.2 ⟨y,hy,e⟩)
  have h9:=EX h8;have hrn:r∉cA (fg l s):=fun hm=>by
   obtain⟨xs,ys,e⟩:=List.append_of_mem hm;have:=EX (c:=cnt l) (rs:=xs) fun x hx=>h8 x (by rw[e];simp[hx]);have:=EX (c:=cnt l) (rs:=ys) fun x hx=>h8 x (by rw[e];simp[hx]);rw[e]at h6 h7;simp only[qD,List.length_cons,qG,List.map_cons,List.sum_append,rZ]at*;omega
  have:=vj (l:=l) (qX.2 ⟨hrn,mg (fg l s)⟩);simp only[List.map_cons,rZ]at this;omega
def aB6{l:LI}(hl:ce l)(h5:l.length=5){r0:Nat}(hr:2<=cnt l r0)(b9:r0<13):y7 (cnt l) false=gP l/\dn l=none:=by
 obtain⟨s1,s2⟩:=aB4 h5 hr;have hf:=aB5 hl h5 hr;refine⟨?_,hf⟩;have hs:=By (oL hl);obtain⟨k,ks,hv,jW⟩:=view l (scan (cnt l));have dW:=Bu hl om hs jW;rw[gP,hv,QC dW,y7];have two:∀{x y:Nat},x≠y->cnt l x+cnt l y<=5:=fun{x y} h=>by
  have:=vj (l:=l) (rs:=[x,y]) (by simp[h]);simp at this;omega
 have three:∀{x y z:Nat},x≠y->x≠z->y≠z->cnt l x+cnt l y+cnt l z<=5:=fun{x y z} h h' h''=>by
  have:=vj (l:=l) (rs:=[x,y,z]) (by simp[h,h',h'']);simp at this;omega
 have be:jX (cnt l)≠some 3:=by rw[s1];simp
 rw[qb,mZ,if_neg be,s1];simp only[Option.isSome_none,Bool.false_and,Bool.false_eq_true,if_false];cases jW with
 |v8 g _ h=>rw[hf]at h;cases h
 |v5 g _ _ _ h=>rw[hf]at h;cases h
 |v4 _ _ _ _ h=>rw[s2]at h;cases h
 |v7 r h8 h7=>
  obtain⟨h1,h2,_⟩:=hs.f1 r h7;have hx:∀x,x≠r->cnt l x<=1:=fun x hx=>by have:=two hx;omega
  have key:∀x,x=r/\cnt l x=4∨x≠r/\cnt l x<=1:=fun x=>by
   by_cases e:x=r
   ·exact .inl ⟨e,e▸h2⟩
   ·exact .inr ⟨e,hx x e⟩
  have g4:ba (cnt l) 4=[r]:=BA h1 fun x _=>⟨fun e=>rG fun hx'=>by have:=hx x hx';omega,fun e=>e▸h2⟩;have g3:ba (cnt l) 3=[]:=nC fun x _ e=>by have:=key x;omega
  have g2:ba (cnt l) 2=[]:=nC fun x _ e=>by have:=key x;omega
  have g1:ba (cnt l) 1=cA fun x=>has l x&&x !=r:=BB fun x _=>by
   rw[qM,bne_iff_ne,sC];exact⟨fun e=>⟨om,fun e'=>by subst e';omega⟩,fun e=>by have:=hx x e.2;omega⟩
  have hlen:=Bz (l:=l) (xs:=[r]) (m:=fun x=>has l x&&x !=r) sA sA;simp only[List.map_cons,List.map_nil,rZ,List.sum_nil]at hlen;rw[g4,g3,g2,g1,y8 om];rfl
 |v6 t p h8 h7 ht hp=>
  obtain⟨h1,h2, -⟩:=hs.t1 h7 t ht;obtain⟨h3,h4,h6, -⟩:=hs.p1 h7 p hp;have hne:t≠p:=fun e=>h6 (by rw[ht,e]);have h9:=two hne;have hx:∀x,x≠t->x≠p->cnt l x=0:=fun x hx hx'=>by have:=three hne (fun e=>hx e.symm) (fun e=>hx' e.symm);omega
  have key:∀x,cnt l x=3/\x=t∨cnt l x=2/\x=p∨cnt l x=0/\x≠t/\x≠p:=fun x=>by
   by_cases e:x=t
   ·subst e;omega
   ·by_cases e':x=p
    ·subst e';omega
    ·exact .inr (.inr ⟨hx x e e',e,e'⟩)
  have g4:ba (cnt l) 4=[]:=nC fun x _ e=>by have:=key x;omega
  have g3:ba (cnt l) 3=[t]:=BA h1 fun x _=>by have:=key x;omega
  have g2:ba (cnt l) 2=[p]:=BA h3 fun x _=>by have:=key x;omega
  have g1:ba (cnt l) 1=[]:=nC fun x _ e=>by have:=key x;omega
  rw[g4,g3,g2,g1];rfl
 |v3 t hf' h7 hp hst ht=>
  obtain⟨h1,h2, -⟩:=hs.t1 h7 t ht;have hx:∀x,x<13->x≠t->cnt l x<=1:=fun x aB7 hx=>rG fun hc=>by
   have:=hs.p0 h7 hp x aB7 om;rw[ht]at this;exact hx (Option.some.inj this).symm
  have key:∀x,x<13->x=t/\cnt l x=3∨x≠t/\cnt l x<=1:=fun x h=>by
   by_cases e:x=t
   ·exact .inl ⟨e,e▸h2⟩
   ·exact .inr ⟨e,hx x h e⟩
  have g4:ba (cnt l) 4=[]:=nC fun x h e=>by have:=key x h;omega
  have g3:ba (cnt l) 3=[t]:=BA h1 fun x h=>⟨fun e=>rG fun hx'=>by have:=hx x h hx';omega,fun e=>e▸h2⟩;have g2:ba (cnt l) 2=[]:=nC fun x h e=>by have:=key x h;omega
  have g1:ba (cnt l) 1=cA fun x=>has l x&&x !=t:=BB fun x h=>by
   rw[qM,bne_iff_ne,sC];exact⟨fun e=>⟨om,fun e'=>by subst e';omega⟩,fun e=>by have:=hx x h e.2;omega⟩
  have hlen:=Bz (l:=l) (xs:=[t]) (m:=fun x=>has l x&&x !=t) sA sA;simp only[List.map_cons,List.map_nil,rZ,List.sum_nil]at hlen;rw[g4,g3,g2,g1,y8 om];rfl
 |v2 p q hf' h7 ht hst hp hq=>
  obtain⟨h1,h2, -,h3⟩:=hs.p1 h7 p hp;obtain⟨h4,h6,h8, -⟩:=hs.q1 h7 ht p hp q hq;have hqp:=h3 q h4 h6 (by rw[ht];simp);have e1:=tM hl hs h7 ht h1;have e2:=tM hl hs h7 ht h4;have hx:∀x,x≠p->x≠q->cnt l x<=1:=fun x hx hx'=>by have:=three hx hx' (fun e=>h8 e.symm);omega
  have key:∀x,cnt l x=2/\x=p∨cnt l x=2/\x=q∨cnt l x<=1/\x≠p/\x≠q:=fun x=>by
   by_cases e:x=p
   ·subst e;omega
   ·by_cases e':x=q
    ·subst e';omega
    ·exact .inr (.inr ⟨hx x e e',e,e'⟩)
  have g4:ba (cnt l) 4=[]:=nC fun x _ e=>by have:=key x;omega
  have g3:ba (cnt l) 3=[]:=nC fun x _ e=>by have:=key x;omega
  have g2:ba (cnt l) 2=[p,q]:=Jq (xC _) (by simp;omega) fun z=>by
   rw[ba,jB,beq_iff_eq];simp only[qO,List.not_mem_nil,or_false];have:=key z;omega
  have g1:ba (cnt l) 1=cA fun x=>has l x&&x !=p&&x !=q:=BB fun x h=>by
   rw[qM,qM,bne_iff_ne,bne_iff_ne,sC];have:=key x;omega
  have hlen:=Bz (l:=l) (xs:=[p,q]) (m:=fun x=>has l x&&x !=p&&x !=q) (by simp;omega) (by simp;intro x a b c;exact⟨a,b,c⟩);simp only[List.map_cons,List.map_nil,rZ,List.sum_nil]at hlen;rw[g4,g3,g2,g1,y8 om];rfl
 |v1 p hf' h7 ht hst hp hq=>
  obtain⟨h1,h2, -,h3⟩:=hs.p1 h7 p hp;have e1:=tM hl hs h7 ht h1;have hx:∀x,x<13->x≠p->cnt l x<=1:=fun x h hx=>rG fun hc=>hx (hs.q0 h7 ht p hp hq x h om);have key:∀x,x<13->x=p/\cnt l x=2∨x≠p/\cnt l x<=1:=fun x h=>by
   by_cases e:x=p
   ·exact .inl ⟨e,by subst e;omega⟩
   ·exact .inr ⟨e,hx x h e⟩
  have g4:ba (cnt l) 4=[]:=nC fun x h e=>by have:=key x h;omega
  have g3:ba (cnt l) 3=[]:=nC fun x h e=>by have:=key x h;omega
  have g2:ba (cnt l) 2=[p]:=BA h1 fun x h=>⟨fun e=>rG fun hx'=>by have:=hx x h hx';omega,fun e=>by subst e;omega⟩;have g1:ba (cnt l) 1=cA fun x=>has l x&&x !=p:=BB fun x h=>by
   rw[qM,bne_iff_ne,sC];exact⟨fun e=>⟨om,fun e'=>by subst e';omega⟩,fun e=>by have:=hx x h e.2;omega⟩
  have hlen:=Bz (l:=l) (xs:=[p]) (m:=fun x=>has l x&&x !=p) sA sA;simp only[List.map_cons,List.map_nil,rZ,List.sum_nil]at hlen;rw[g4,g3,g2,g1,y8 om];rfl
 |v0 hf' h7 ht hst hp=>
  have:=hs.p0 h7 hp r0 b9 hr;rw[ht]at this;cases this
def aB8{l:LI}(hl:ce l)(h5:l.length=5)(hone:∀r,r<13->cnt l r<=1):y7 (cnt l) (dn l).isSome=gP l:=by
 have hs:=By (oL hl);obtain⟨k,ks,hv,jW⟩:=view l (scan (cnt l));have dW:=Bu hl om hs jW;have g4:ba (cnt l) 4=[]:=nC fun x h e=>by have:=hone x h;omega
 have g3:ba (cnt l) 3=[]:=nC fun x h e=>by have:=hone x h;omega
 have g2:ba (cnt l) 2=[]:=nC fun x h e=>by have:=hone x h;omega
 have g1:ba (cnt l) 1=cA (has l):=BB fun x h=>by rw[sC];have:=hone x h;omega
 have hlen:=Bz (l:=l) (xs:=[]) (m:=has l) sA sA;simp only[List.map_nil,List.sum_nil]at hlen;have heq:∀x,x<13->(cnt l x==1)=has l x:=fun x h=>by
  have:=hone x h;cases hh:has l x with
  |true=>rw[sC]at hh;rw[beq_iff_eq];omega
  |false=>
   rw[beq_eq_false_iff_ne];intro e;have:has l x=true:=sC.2 om;rw[hh]at this;cases this
 have hrun:∀t∈[12,11,10,9,8,7,6,5,4],fN (fun r=>cnt l r==1) t=fN (has l) t:=fun t ht=>by
  have:t<13:=by simp only[qO,List.not_mem_nil,or_false]at ht;omega
  simp only[fN,heq t this,heq (t-1) om,heq (t-2) om,heq (t-3) om,heq (t-4) om]
 have Df:kV (fun r=>cnt l r==1)=kV (has l):=by
  simp only[kV,heq 0 om,heq 1 om,heq 2 om,heq 3 om,heq 12 om]
 have hfind:[12,11,10,9,8,7,6,5,4].find? (fN fun r=>cnt l r==1)=[12,11,10,9,8,7,6,5,4].find? (fN (has l)):=by
  have key:∀L:LN,(∀t∈L,fN (fun r=>cnt l r==1) t=fN (has l) t)->L.find? (fN fun r=>cnt l r==1)=L.find? (fN (has l)):=by
   intro L;induction L with
   |nil=>intro _;rfl
   |cons a L ih=>intro h;rw[List.find?_cons,List.find?_cons,h a sA,ih fun t ht=>h t (by simp[ht])]
  exact key _ hrun
 have QE:∀ks',dU (has l)=some ks'->mZ (cnt l)=ks'/\(jX (cnt l)).isSome=true:=by
  intro ks' h;rw[mZ,jX,hfind,Df];unfold dU at h;split at h
  ·rename_i t ht;have hm:=List.mem_of_find?_eq_some ht;have hp:=List.find?_some ht;have ht4:4<=t/\t<13:=by simp only[qO,List.not_mem_nil,or_false]at hm;omega
   simp only[fN,qM]at hp;rw[if_neg (by simp;omega),g4,g3,g2,g1];simp only[Option.some.injEq]at h;refine⟨?_,rfl⟩;subst h;refine(QD (by simp;omega) (xC _) (fun x hx=>jB.2 ?_) (by simp;omega)).symm;simp only[qO,List.not_mem_nil,or_false]at hx;rcases hx with rfl|rfl|rfl|rfl|rfl<;>exact⟨om,by simp[hp]⟩
  ·split at h
   ·rename_i hw;simp only[Option.some.injEq]at h;simp only[hw,if_true,Option.isSome_some,and_true];exact h
   ·cases h
 have hnone:dU (has l)=none->jX (cnt l)=none:=by
  intro h;rw[jX,hfind,Df];unfold dU at h;split at h
  ·cases h
  ·split at h
   ·cases h
   ·rename_i hw;simp[hw]
 rw[gP,hv,QC dW,y7,qb,g4,g3,g2];have kh:∀g,dn l=some g->∀x,g x=has l x:=fun g hg x=>by
  obtain⟨s,rfl,h6⟩:=yX hg;have hall:∀y∈l,st y=s:=fun y hy=>by
   have:l.countP (fun x=>st x==s)=l.length:=by have:=List.countP_le_length (l:=l) (p:=fun x=>st x==s);unfold num at h6;omega
   have:=List.countP_eq_length.1 this y hy;simpa using this
  cases hh:has l x with
  |true=>obtain⟨y,hy,e⟩:=sz.1 hh;exact xE.2 ⟨y,hy,hall y hy,e⟩
  |false=>
   cases hb:fg l s x with
   |false=>rfl
   |true=>obtain⟨y,hy,_,e⟩:=xE.1 hb;have:=sz.2 ⟨y,hy,e⟩;rw[hh]at this;cases this
 have kh:∀g,dn l=some g->g=has l:=fun g hg=>funext (kh g hg);have nine:∀{r},r<13->cnt l r=4->False:=fun h h'=>by have:=hone _ h;omega
 cases jW with
 |v8 g _ hf h=>
  obtain rfl:=kh g hf;obtain⟨a,b⟩:=QE _ h;rw[a,b,hf];rfl
 |v7 r h8 h7=>exact(nine (hs.f1 r h7).1 (hs.f1 r h7).2.1).elim
 |v6 t p h8 h7 ht hp=>obtain⟨h1,h2, -⟩:=hs.t1 h7 t ht;have:=hone t h1;omega
 |v5 g h8 h7 h6 hf=>
  obtain rfl:=kh g hf;rw[hf]at h8;have h8:dU (has l)=none:=h8;rw[mZ,hnone h8,hf,g4,g3,g2,g1,y8 om];rfl
 |v4 _ hf h7 h6 h=>
  obtain⟨a,b⟩:=QE _ h;rw[a,b,hf];rfl
 |v3 t hf' h7 hp hst ht=>obtain⟨h1,h2, -⟩:=hs.t1 h7 t ht;have:=hone t h1;omega
 |v2 p q hf' h7 ht hst hp hq=>obtain⟨h1,h2, -⟩:=hs.p1 h7 p hp;have:=hone p h1;omega
 |v1 p hf' h7 ht hst hp hq=>obtain⟨h1,h2, -⟩:=hs.p1 h7 p hp;have:=hone p h1;omega
 |v0 hf h7 ht hst hp=>
  rw[mZ,hnone hst,hf,g4,g3,g2,g1,y8 om];rfl
def aB9{l:LI}(hl:ce l)(h5:l.length=5):y7 (cnt l) (dn l).isSome=gP l:=by
 by_cases h:∃r,r<13/\2<=cnt l r
 ·obtain⟨r,h1,h2⟩:=h;obtain⟨a,b⟩:=aB6 hl h5 h2 h1;rw[b];exact a
 ·exact aB8 hl h5 fun r hr=>rG fun hc=>h ⟨r,hr,om⟩
def aC0{l:LI}(h5:l.length=5){x:Int}(hx:x∈l):(dn l).isSome=decide (num l (st x)=5):=by
 have hle:∀s,num l s<=5:=fun s=>by rw[←h5];exact List.countP_le_length
 cases hf:dn l with
 |none=>
  symm;rw[Option.isSome_none,decide_eq_false_iff_not];intro e;unfold dn at hf;rw[Option.map_eq_none_iff,List.find?_eq_none]at hf;have:=hf (st x) (by have:=xB x;simp only[qO,List.not_mem_nil,or_false];omega);simp at this;omega
 |some g=>
  obtain⟨s,_,h6⟩:=yX hf;symm;rw[Option.isSome_some,decide_eq_true_eq];have:l.countP (fun x=>st x==s)=l.length:=by have:=List.countP_le_length (l:=l) (p:=fun x=>st x==s);unfold num at h6;omega
  have h7:=List.countP_eq_length.1 this x hx;have h7:st x=s:=sU h7;rw[h7,num,this,h5]
def lk(c:Int):Nat:=((c/4+1)%13).toNat
def Jr(c:Int):lk c<13:=by unfold lk;omega
def du(l:LI)(r:Nat):Nat:=l.countP fun x=>lk x==r
def EY{l:LI}:∀{rs:LN},rs.Nodup->(rs.map (du l)).sum<=l.length:=by
 have key:∀rs:LN,rs.Nodup->(rs.map (du l)).sum<=l.countP fun x=>decide (lk x∈rs):=by
  intro rs;induction rs with
  |nil=>simp
  |cons r rs ih=>
   intro hn;rw[qX]at hn;rw[List.map_cons,rZ];have h1:=ih hn.2;have h2:∀l:LI,du l r+l.countP (fun x=>decide (lk x∈rs))<=l.countP fun x=>decide (lk x∈r::rs):=by
    intro l;induction l with
    |nil=>simp[du]
    |cons x l ihl=>
     simp only[du,List.countP_cons]at ihl ⊢;by_cases e:lk x=r
     ·have:lk x∉rs:=e▸hn.1;simp[e,hn.1]at*;omega
     ·by_cases e':lk x∈rs
      ·simp[e,e']at*;omega
      ·simp[e,e']at*;omega
   have:=h2 l;omega
 intro rs hn;exact rA (key rs hn) List.countP_le_length
def tN(c:Nat->Nat):LN:=(ba c 4).flatMap (List.replicate 4)++((ba c 3).flatMap (List.replicate 3)++((ba c 2).flatMap (List.replicate 2)++ba c 1))
def xF(c:Nat->Nat):Nat:=if(ba c 4).length=1 then 5 else if(ba c 3).length=1/\(ba c 2).length=1 then 4 else if(ba c 3).length=1 then 3 else(ba c 2).length
def Js(c:Nat->Nat):Nat:=if(ba c 4).length≠0 then 5 else if(ba c 3).length≠0 then 3+(ba c 2).length else(ba c 2).length
def aC1{l:LI}(h5:l.length=5):Js (du l)=xF (du l):=by
 have hs:∀n,∀x∈ba (du l) n,du l x=n:=fun n x hx=>by rw[ba,jB]at hx;simpa using hx.2
 have ll:∀n,∀rs:LN,(∀x∈rs,du l x=n)->(rs.map (du l)).sum=n*rs.length:=by
  intro n rs;induction rs with
  |nil=>simp
  |cons x rs ih=>
   intro h;rw[List.map_cons,rZ,ih fun y hy=>h y (by simp[hy]),h x sA,List.length_cons,Nat.mul_succ];omega
 have h4:=EY (l:=l) (mg fun r=>du l r==4);have h4:4*(ba (du l) 4).length<=5:=by
  rw[←ll 4 _ (hs 4),←h5];exact h4
 have hd:(ba (du l) 3++ba (du l) 2).Nodup:=rC.2 ⟨mg _,mg _,fun x h1 y h2 e=>by
  have:=hs 3 x h1;have:=hs 2 y h2;subst e;omega⟩
 have Jt:=EY (l:=l) hd;rw[qG,List.sum_append,ll 3 _ (hs 3),ll 2 _ (hs 2),h5]at Jt;unfold Js xF
 repeat' split
 all_goals omega
def lz(l:LI):Nat:=371293*xF (du l)+aS 0 (tN (du l))
def cZ:LI->Nat->LL
 |_,0=>[[]]
 |[],_+1=>[]
 |x::l,k+1=>(cZ l k).map (x:: ·)++cZ l (k+1)
def vk:∀{l:LI} {k:Nat} {s:LI},s∈cZ l k↔s.Sublist l/\s.length=k
 |l,0,s=>by
  rw[cZ,List.mem_singleton];exact⟨fun e=>by subst e;exact⟨List.nil_sublist _,rfl⟩,fun h=>rX h.2⟩
 |[],k+1,s=>by
  rw[cZ];refine⟨fun h=>by simp at h,fun h=>?_⟩;have:=List.sublist_nil.1 h.1;rw[this]at h;simp at h
 |x::l,k+1,s=>by
  rw[cZ,qI,qN,vk (l:=l) (k:=k+1)];constructor
  ·rintro(⟨t,ht,rfl⟩|h)
   ·obtain⟨h1,h2⟩:=vk.1 ht;exact⟨h1.cons_cons x,by simp[h2]⟩
   ·exact⟨h.1.cons x,h.2⟩
  ·rintro⟨h1,h2⟩;cases h1 with
   |cons _ h1=>exact .inr ⟨h1,h2⟩
   |cons_cons _ h1=>exact .inl ⟨_,vk.2 ⟨h1,sU h2⟩,rfl⟩
def aC2{l:LI}(h:l.length<k):cZ l k=[]:=by
 refine List.eq_nil_iff_forall_not_mem.2 fun s hs=>?_;obtain⟨h1,h2⟩:=vk.1 hs;have:=h1.length_le;omega
def y9:∀(l:LI) (k:Nat),(cZ l k).length<=2^l.length
 |l,0=>by rw[cZ];exact Nat.one_le_two_pow
 |[],k+1=>by simp[cZ]
 |x::l,k+1=>by
  rw[cZ,qD,qJ,List.length_cons,Nat.pow_succ];have:=y9 l k;have:=y9 l (k+1);omega
def Ju:∀(l:LI) (k:Nat),(cZ l k).length<=(l.length+1)^k
 |l,0=>by simp[cZ]
 |[],k+1=>by simp[cZ]
 |x::l,k+1=>by
  rw[cZ,qD,qJ,List.length_cons,Nat.pow_succ];have h1:=Ju l k;have h2:=Ju l (k+1);rw[Nat.pow_succ]at h2;have h3:(l.length+1)^k<=(l.length+1+1)^k:=Nat.pow_le_pow_left om k;have h4:=Nat.mul_le_mul_right (l.length+1) h3;rw[Nat.mul_add (((l.length+1+1))^k) (l.length+1) 1];omega
def eB(lo hi:Nat)(hole aF:LI):LL:=(List.range (hi+1-lo)).flatMap fun i=>(cZ hole (lo+i)).flatMap fun a=>(cZ aF (5-(lo+i))).map (a++ ·)
def EZ{lo hi:Nat}{hole aF:LI}{h:LI}:h∈eB lo hi hole aF↔∃n a b,lo<=n/\n<=hi/\a.Sublist hole/\a.length=n/\b.Sublist aF/\b.length=5-n/\h=a++b:=by
 unfold eB;simp only[List.mem_flatMap,List.mem_range,qN,vk];constructor
 ·rintro⟨i,hi',a,⟨h1,h2⟩,b,⟨h3,h4⟩,rfl⟩;exact⟨lo+i,a,b,om,om,h1,h2,h3,h4,rfl⟩
 ·rintro⟨n,a,b,h1,h2,h3,h4,h5,h6,rfl⟩;exact⟨n-lo,om,a,⟨h3,om⟩,b,⟨h5,by rw[h6];congr 1;omega⟩,rfl⟩
def xG(l:LI):Int:=l.foldl max (-1)
def QF(l:LI)(x:Int):xG (l++[x])=max (xG l) x:=by simp[xG]
def QG{l:LI}:∀{m:Int},m<=l.foldl max m/\∀x∈l,x<=l.foldl max m:=by
 induction l with
 |nil=>intro m;simp
 |cons y l ih=>
  intro m;have h:=ih (m:=max m y);rw[List.foldl_cons];refine⟨om,fun x hx=>?_⟩;rcases qO.1 hx with rfl|hx
  ·have:=h.1;omega
  ·exact h.2 x hx
def aC3{l:LI}:∀{m:Int},l.foldl max m=m∨l.foldl max m∈l:=by
 induction l with
 |nil=>intro m;simp
 |cons y l ih=>
  intro m;rw[List.foldl_cons];rcases ih (m:=max m y)with h|h
  ·rw[h];by_cases e:m<=y
   ·right;rw[Int.max_eq_right e];simp
   ·left;rw[Int.max_eq_left om]
  ·exact .inr (by simp[h])
def aC4{l:LI}{v:Int}(h:∀x∈l,x<=v)(hv:v∈l)(h0:0<=v):xG l=v:=by
 unfold xG;have h1:=(QG (l:=l) (m:= -1)).2 v hv;rcases aC3 (l:=l) (m:= -1)with h2|h2
 ·omega
 ·have:=h _ h2;omega
def QH{l l':LI}(h:∀x∈l,x∈l')(hw:yW l v):yW l' v:=by
 obtain⟨f,h1,h2,h3⟩:=hw;exact⟨f,h1,fun x hx=>h x (h2 x hx),h3⟩
def aC5{xs ys:LI}(h1:xs.Nodup)(h2:ys.Nodup)(h:∀x,x∈xs↔x∈ys):xs.length=ys.length:=
 Nat.le_antisymm (sy h1 fun x hx=>(h x).1 hx) (sy h2 fun x hx=>(h x).2 hx)
def aC6{hole aF:LI}(hc:ce (hole++aF))(h2:hole.length=2)(h5:aF.length=5):xG ((eB 0 2 hole aF).map fun h=>(gP h:Int))=gP (hole++aF):=by
 have hl:=hc.1;rw[rC]at hl;obtain⟨nD,hn2,hd⟩:=hl;have QI:∀h∈eB 0 2 hole aF,ce h/\h.length=5/\∀x∈h,x∈hole++aF:=by
  intro h hh;obtain⟨n,a,b,_,h3,h4,h6,h7,h8,rfl⟩:=EZ.1 hh;have hsub:∀x∈a++b,x∈hole++aF:=fun x hx=>by
   rcases qI.1 hx with hx|hx
   ·exact qI.2 (.inl (h4.subset hx))
   ·exact qI.2 (.inr (h7.subset hx))
  refine⟨⟨rC.2 ⟨nD.sublist h4,hn2.sublist h7,fun x hx y hy=>hd x (h4.subset hx) y (h7.subset hy)⟩,fun x hx=>hc.2 x (hsub x hx)⟩,by rw[qD];omega,hsub⟩
 have hlen:(hole++aF).length=7:=by rw[qD];omega
 refine aC4 (fun x hx=>?_) ?_ om
 ·obtain⟨h,hh,rfl⟩:=qN.1 hx;obtain⟨h3,h4,h6⟩:=QI h hh;have:=Jp hc om (QH h6 (EW h3 om));omega
 ·obtain⟨f,f1,f2,f3⟩:=EW hc om;have f5:f.length=5:=by
   obtain⟨cat,⟨a,b,c,d,e,he,_⟩,_⟩:=f3;have:=congrArg List.length he;simpa using this
  have e1:(hole.filter (· ∈f)).Sublist hole:=List.filter_sublist;have e2:(aF.filter (· ∈f)).Sublist aF:=List.filter_sublist;have e3:(hole.filter (· ∈f)++aF.filter (· ∈f)).length=5:=by
   rw[←f5];refine aC5 (rC.2 ⟨nD.sublist e1,hn2.sublist e2,fun x hx y hy=>hd x (e1.subset hx) y (e2.subset hy)⟩) f1 fun x=>?_;simp only[qI,qV,decide_eq_true_eq];exact⟨fun h=>h.elim (·.2) (·.2),fun h=>by
    rcases qI.1 (f2 x h)with h'|h'
    ·exact .inl ⟨h',h⟩
    ·exact .inr ⟨h',h⟩⟩
  rw[qD]at e3;have:=e1.length_le;have hm:hole.filter (· ∈f)++aF.filter (· ∈f)∈eB 0 2 hole aF:=EZ.2 ⟨_,_,_,Nat.zero_le _,om,e1,rfl,e2,om,rfl⟩;refine qN.2 ⟨_,hm,?_⟩;obtain⟨h3,h4,h6⟩:=QI _ hm;have a1:=Jp hc om (QH h6 (EW h3 om));have a2:gP (hole++aF)<=gP (hole.filter (· ∈f)++aF.filter (· ∈f)):=Jp h3 om ⟨f,f1,fun x hx=>by
   simp only[qI,qV,decide_eq_true_eq];rcases qI.1 (f2 x hx)with h'|h'
   ·exact .inl ⟨h',hx⟩
   ·exact .inr ⟨h',hx⟩,f3⟩
  omega
def E1(h:n<2^64):IntKind.u64.wrap (n:Int)=n:=by
 have h:n<18446744073709551616:=h;show(if(false&&decide ((n:Int)%18446744073709551616 ≥ 9223372036854775808))=true then(n:Int)%18446744073709551616-18446744073709551616 else(n:Int)%18446744073709551616)=n;rw[if_neg sA];omega
def aC7(h:n<2^63):IntKind.i64.wrap (n:Int)=n:=by
 have h:n<9223372036854775808:=h;exact wrap64 om om
def vl(h:n<2^64):(BitVec.ofInt 64 (n:Int)).toNat=n:=by
 rw[BitVec.toNat_ofInt];omega
def Jv(ha:a<2^64)(hb:b<2^64):rb .u64 (a:Int) (b:Int)=((a&&&b:Nat):Int):=by
 show IntKind.u64.wrap ((BitVec.ofInt 64 (a:Int)&&&BitVec.ofInt 64 (b:Int)).toNat:Int)=_;rw[BitVec.toNat_and,vl ha,vl hb,E1 (Nat.and_lt_two_pow _ hb)]
def QJ(ha:a<2^64)(hb:b<2^64):wa .u64 (a:Int) (b:Int)=((a|||b:Nat):Int):=by
 show IntKind.u64.wrap ((BitVec.ofInt 64 (a:Int)|||BitVec.ofInt 64 (b:Int)).toNat:Int)=_;rw[BitVec.toNat_or,vl ha,vl hb,E1 (Nat.or_lt_two_pow ha hb)]
def QK(ha:a<2^64)(hb:b<2^64):zV .u64 (a:Int) (b:Int)=((a&&&(2^64-1-b):Nat):Int):=by
 show IntKind.u64.wrap ((BitVec.ofInt 64 (a:Int)&&& ~~~ BitVec.ofInt 64 (b:Int)).toNat:Int)=_;rw[BitVec.toNat_and,BitVec.toNat_not,vl ha,vl hb,E1 (Nat.and_lt_two_pow _ om)]
def E2{c:Nat}(h:c<64):sX .u64 1 (c:Int)=((2^c:Nat):Int):=by
 show IntKind.u64.wrap (1*2^min ((c:Int)).toNat 64)=_;have e:min ((c:Int)).toNat 64=c:=by simp;omega
 rw[e,Int.one_mul,show(2:Int)^c=((2^c:Nat):Int) by simp];exact E1 (Nat.pow_lt_pow_right om h)
def QL{c:Nat}(h:c<64):uj .u64 (a:Int) (c:Int)=((a>>>c:Nat):Int):=by
 show(a:Int).fdiv (2^min ((c:Int)).toNat 64)=_;have e:min ((c:Int)).toNat 64=c:=by simp;omega
 rw[e,Int.fdiv_eq_ediv_of_nonneg _ (Int.pow_nonneg om),Nat.shiftRight_eq_div_pow];simp
def aC8{a:Int}:uj .i64 a 2=a/4:=by
 show a.fdiv (2^min ((2:Int)).toNat 64)=_;rw[Int.fdiv_eq_ediv_of_nonneg _ dc];rfl
theorem aC9{a:Int}(h0:0<=a)(h1:a<1000):rb .i64 a 3=a%4:=by
 obtain⟨n,rfl⟩:∃n:Nat,a=n:=⟨a.toNat,om⟩
 have hn:n<2^64:=by have:(2:Nat)^64=18446744073709551616:=dc
                    omega
 show IntKind.i64.wrap ((BitVec.ofInt 64 (n:Int)&&&BitVec.ofInt 64 (((3:Nat):Int))).toNat:Int)=_
 rw[BitVec.toNat_and,vl hn,vl dc]
 have e:=Nat.and_two_pow_sub_one_eq_mod n 2
 rw[e,aC7 (by have:(2:Nat)^63=9223372036854775808:=dc
              omega)]
 omega
def aD0{c:Nat}:(a>>>c)&&&1=if a.testBit c then 1 else 0:=by
 rw[Nat.testBit,Nat.and_comm];have:=Nat.mod_two_eq_zero_or_one (a>>>c);rw[show 1&&&(a>>>c)=(a>>>c)%2 by rw[Nat.and_comm];exact Nat.and_two_pow_sub_one_eq_mod _ 1];rcases this with h|h<;>simp[h]
def kY(l:LI):Nat:=l.foldl (fun a c=>a|||2^c.toNat) 0
def aD1:((kY []:Nat):Int)=0:=rfl
def Jw(l:LI)(c:Int):kY (l++[c])=kY l|||2^c.toNat:=by simp[kY]
def Jy:∀{l:LI} (k:Nat),(kY l).testBit k=l.any fun c=>c.toNat==k:=by
 have key:∀(l:LI) (a k:Nat),(l.foldl (fun a c=>a|||2^c.toNat) a).testBit k=(a.testBit k||l.any fun c=>c.toNat==k):=by
  intro l;induction l with
  |nil=>simp
  |cons c l ih=>
   intro a k;rw[List.foldl_cons,ih,Nat.testBit_or,Nat.testBit_two_pow,List.any_cons,Bool.or_assoc];rfl
 intro l k;rw[kY,key];simp
def Jz{l:LI}(h:∀x∈l,x<n)(hp:0<n):kY l<2^n:=by
 have key:∀(l:LI) (a:Nat),a<2^n->(∀x∈l,x<n)->(l.foldl (fun a c=>a|||2^c.toNat) a)<2^n:=by
  intro l;induction l with
  |nil=>intro a h _;exact h
  |cons c l ih=>
   intro a ha hl;rw[List.foldl_cons];refine ih _ (Nat.or_lt_two_pow ha (Nat.pow_lt_pow_right om ?_)) fun x hx=>hl x (by simp[hx]);have:=hl c sA;omega
 exact key l 0 (Nat.pow_pos om) h
section
attribute [-go_sem] bC bF bK bE bH bL
def E3(h:n<64)(ha:a<2^64):rb .u64 (uj .u64 (a:Int) (n:Int)) 1=if a.testBit n then 1 else 0:=by
 rw[QL h,show(1:Int)=((1:Nat):Int) from rfl,Jv (Nat.lt_of_le_of_lt (Nat.shiftRight_le _ _) ha) dc,aD0];split<;>rfl
def JA(h:n<64)(ha:a<2^64):wa .u64 (a:Int) (sX .u64 1 (n:Int))=((a|||2^n:Nat):Int):=by
 rw[E2 h,QJ ha (Nat.pow_lt_pow_right om h)]
instance (l:LI):Decidable (ce l):=inferInstanceAs (Decidable (_/\_))
def oM(l:LI):Bool:=decide (ce l)
def es(c:Int):Bool:=decide (0<=c/\c<=51)
def JB{l:LI}{c:Int}:ce (l++[c])↔ce l/\es c=true/\c∉l:=by
 unfold ce es;rw[rC];simp only[qI,List.mem_singleton,decide_eq_true_eq];constructor
 ·rintro⟨⟨h1,h2,h3⟩,h4⟩;exact⟨⟨h1,fun x hx=>h4 x (.inl hx)⟩,by have:=h4 c (.inr rfl);omega,fun hc=>h3 c hc c rfl rfl⟩
 ·rintro⟨⟨h1,h2⟩,h3,h4⟩;refine⟨⟨h1,sA,fun x hx y hy e=>h4 (hy▸e▸hx)⟩,fun x hx=>?_⟩;rcases hx with hx|rfl
  ·exact h2 x hx
  ·omega
def aD2{l:LI}(h:ce l)(i:Nat):ce (l.take i):=⟨h.1.sublist (List.take_sublist _ _),fun x hx=>h.2 x (rU hx)⟩
def E4{l:LI}{i:Nat}{c:Int}(hx:l[i]? =some c)(h:es c=false∨c∈l.take i):oM l=false:=by
 rw[oM,decide_eq_false_iff_not];intro hc;have:=aD2 hc (i+1);rw[bG hx,JB]at this;rcases h with h|h
 ·rw[h]at this;cases this.2.1
 ·exact this.2.2 h
theorem QM{l:LI}(h:ce l){n:Nat}:(kY l).testBit n=decide ((n:Int)∈l):=by
 rw[Jy]
 by_cases hm:(n:Int)∈l
 ·rw[decide_eq_true hm,List.any_eq_true];exact⟨_,hm,sA⟩
 ·rw[decide_eq_false hm,List.any_eq_false]
  intro x hx e
  have:=h.2 x hx
  have e:x.toNat=n:=sU e
  exact hm (by rw[←e];have:((x.toNat:Nat):Int)=x:=om
               rw[this];exact hx)
def JC{l:LI}(h:ce l):kY l<2^64:=
 Nat.lt_of_lt_of_le (Jz (n:=52) (fun x hx=>(h.2 x hx).2) om) (Nat.pow_le_pow_right om om)
def JD(c:Int):Pr 148 [.i c] (.b (es c)):=by
 refine an0 sA (ab ?_);refine Px (fq c 0 51) (ab ?_);rfl
def JE(c:Int):Pr 174 [.i c] (.b (es c)):=by
 refine ap0 sA (ab ?_);refine Px (eN c 0 51) (ab ?_);rfl
def aD3(l:LI)(hl:l.length<=10000000):Pr 89 [ints l] (.b (oM l)):=by
 refine ai0 sA (ab ?_);refine lN (fun i=>St.of [(3,.t (.v (.int .u64 (kY (l.take i):Nat)))),(6,.t (ints l)),(7,.t (.i l.length)),(8,.t (.i i))] []) (fun i=>i<=l.length/\ce (l.take i)) (fun i=>l.length-i) 0 (eU (ah @List.take_zero.{0} @aD1)) (fun i hi R hn hr he=>?_) (hi:=⟨om,by simp[ce]⟩)
 ·obtain⟨hi,eZ⟩:=hi;rcases qH i l.length with h9|h9
  ·obtain⟨c,hx⟩:∃c,l[i]? =some c:=⟨_,qB h9⟩;refine aB (ah hx (dt ((i:Int)<(l.length:Int)))) ?_;cases hc:es c with
   |false=>
    refine Px (JD c) (aa hc ?_);exact hr _ (aa (E4 hx (.inl hc)) trivial)
   |true=>
    obtain⟨n,rfl⟩:∃n:Nat,c=n:=⟨c.toNat,by simp[es]at hc;omega⟩;have E5:n<52:=by simp[es]at hc;omega
    by_cases hm:(n:Int)∈l.take i
    ·refine bz.p (JD n) [] rfl Tryz.call148 ?_ ?_
     ·exact ey trivial
     simp -implicitDefEqProofs only[c8,go_sem,hc,E3 (a:=kY (l.take i)) (n:=n) (by omega) (JC eZ),QM eZ,decide_eq_true hm];refine⟨om,fun _=>?_,fun h=>by simp at h⟩;exact hr _ (aa (E4 hx (.inr hm)) trivial)
    ·refine bz.p (JD n) [] rfl Tryz.call148 ?_ ?_
     ·exact ey trivial
     simp -implicitDefEqProofs only[c8,go_sem,hc,E3 (a:=kY (l.take i)) (n:=n) (by omega) (JC eZ),QM eZ,decide_eq_false hm,JA (a:=kY (l.take i)) (n:=n) (by omega) (JC eZ)];refine⟨om,fun h=>by simp at h,fun _=>⟨om,?_⟩⟩;refine hn _ (i+1) (aj.o _ [] [] ?_ trivial) ⟨om,by rw[bG hx,JB];exact⟨eZ,hc,hm⟩⟩;have e1:kY (l.take (i+1))=kY (l.take i)|||2^n:=by rw[bG hx,Jw];rfl
     exact bZ (ah e1 (aw h9 om)) trivial
  ·refine aa (dF ((i:Int)<(l.length:Int))) ?_;refine he _ _ (ab ?_);rw[qQ h9]at eZ;rw[oM,decide_eq_true eZ]
end
end Go.Ab
