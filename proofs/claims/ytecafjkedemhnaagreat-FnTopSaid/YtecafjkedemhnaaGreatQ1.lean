import Derived.ChangeKeysEq
import Derived.Laws.StructEq
import Derived.Laws.Slices
import Derived.WalkSpells
import Derived.Laws.CopyRow
import Derived.Test.YtecafjkedemhnaaGreatQ0
set_option maxRecDepth 20000
set_option linter.all false
namespace Go.Ab
variable{o:Oper}{d off z:Nat}{e t:TypeId}{x y:Operand}{w w' w0:World}{f:FuncId}{args:List A}{v:Value}{hs:NV}{P:Program}{S S1:St}{aO:NL}{O0:Fr}{a:Act}{fn:Func}
abbrev LA:=List T
variable{aH:LA}
abbrev SP:=St->Prop
section
variable {P:Program} {X:NP} {w0:World} {O0:Fr} {n:Nat} {S:St} {a:Act} {w:World} {hs:NV} {fp:NL}
def Good.rl(g:Good X w0 O0 n S a w hs fp)(r:Nat){O':NP}{hs':NV}(hk:jK (fun b=>¬Ob X fp b) w w')(hO:∀b,¬Ob X fp b->b<w.heap.size->¬O' b)(hh:∀r y,hs r=some y->hs' r=some y)(hr':hs' r=hs r)(mH:∀b∈fp r,w'.heap[b]? =w.heap[b]?):iG w' O' hs' (S.roots r) (hs' r) (fp r):=by
 have hr:=g.root r;have kd:=g.b8 r;revert hr;cases hS:S.roots r with
 |free=>rintro⟨h1,h2⟩;exact⟨hr'.trans h1,h2⟩
 |dead=>exact fun h=>h
 |live t' gL=>
  rintro⟨y,hy,ho',GP⟩;refine⟨y,hr'.trans hy,ho'.mono hk hO fun b cs e fz hb hc=>by rw[mH b hb];exact hc,fun p hp=>?_⟩;obtain⟨z,hz,hzd⟩:=GP p hp;refine⟨z,?_,hh _ _ hzd⟩;have dj:=kd _ _ hS;generalize hfr:fp r=fr at ho' mH;cases ho' with
  |rd hh=>cases hh<;>simp[T.b8]at dj
  |jn=>simp[cellOf]at hz
  |arr _ _ b len cap cs e ar hb _ _ _ _ _ _=>
   simp only[cellOf,World.cell?]at hz ⊢;rw[mH b sA];exact hz
  |box _ b cs e ar hb _ _ _=>
   simp only[cellOf,World.cell?]at hz ⊢;rw[mH b sA];exact hz
  |agg=>simp[T.b8]at dj
  |aI=>simp[T.b8]at dj
end
structure Mem(X:NP)(w:World)(aH:LA)(hs:NV)(fp:NL):Prop where
 root:∀i t,aH[i]? =some t->∃x,hs (1000000000+i)=some x/\Ow w (Ob X fp) t x (fp (1000000000+i))/\t.b8=true
 none:∀r,(r<1000000000∨1000000000+aH.length<=r)->hs r=none/\fp r=[]
 cj:∀r r' b,b∈fp r->b∈fp r'->r=r'
 nodup:∀r,(fp r).Nodup
 cV:∀r b,b∈fp r->¬X b
 de:∀b,X b->b<w.heap.size
 aV:∀r h,hs r=some h->h.oneCell'=true
def uA(X:NP)(fp:NL)(fr:LN):NP:=fun b=>Ob X fp b∨b∈fr
def rootOf(t:T):aE:=match t with| .any=>.dead|t=>.live t []
def MZ:rootOf .any= .dead:=rfl
def M0(s:Nat)(l:LA):rootOf (.arr s l)= .live (.arr s l) []:=rfl
def M1(l:LA):rootOf (.box l)= .live (.box l) []:=rfl
def yg{t:T}(h:t.b8=true):rootOf t= .live t []:=by cases t<;>first|rfl|cases h
structure Out(X:NP)(w:World)(hs:NV)(fp:NL)(v:Value)(res:T)(aA:LA)(fr:LN)(al:NL)(w':World):Prop where
 root:∀i t,aA[i]? =some t->∃x,hs (1000000000+i)=some x/\Ow w' (uA X al fr) t x (al (1000000000+i))/\(t.b8=true∨t= .any)
 none:∀r,(r<1000000000∨1000000000+aA.length<=r)->al r=[]
 res:Ow w' (uA X al fr) res v fr
 cj:∀r r' b,b∈al r->b∈al r'->r=r'
 nodup:∀r,(al r).Nodup
 M2:fr.Nodup
 Hj:∀r b,b∈al r->b∉fr
 old:∀r b,b∈al r->(∃j,b∈fp j)∨w.heap.size<=b
 M3:∀b,b∈fr->(∃j,b∈fp j)∨w.heap.size<=b
 os:w'.os=w.os
 tape:w'.tape=w.tape
 output:w'.output=w.output
 size:w.heap.size<=w'.heap.size
 frame:∀b,b<w.heap.size->(∀j,b∉fp j)->w'.heap[b]? =w.heap[b]?
def cF(P:Program)(f:FuncId)(aH:LA)(args:List A)(Q:LA->T->Prop):Prop:=
 ∀(X:NP) (w:World) (vals:LV) (hs:NV) (fp:NL),Mem X w aH hs fp->vals.length=args.length->(∀i (h:i<args.length),Is w (Ob X fp) hs args[i] (vals.getD i undef))→
  Calls P f vals.toArray w fun e w'=>∃v res aA fr al,e= .returned v/\Q aA res/\aA.length=aH.length/\Out X w hs fp v res aA fr al w'
def Am(P:Program)(gg:T)(f:FuncId)(aH:LA)(args:List A)(Q:LA->T->Prop):Prop:=
 ∀(X:NP) (w:World) (vals:LV) (hs:NV) (fp:NL),Mem X w aH hs fp->vals.length=args.length->(∀i (h:i<args.length),Is w (Ob X fp) hs args[i] (vals.getD i undef))->Rd w (Ob X fp) gg undef→
  Calls P f vals.toArray w fun e w'=>∃v res aA fr al,e= .returned v/\Q aA res/\aA.length=aH.length/\Out X w hs fp v res aA fr al w'
def cF.Wo{Q:LA->T->Prop}(h:cF P f aH args Q)(gg:T):Am P gg f aH args Q:=fun X w vals hs fp hm hv hi _=>h X w vals hs fp hm hv hi
def Am.toFun{Q:LA->T->Prop}(h:Am P .any f aH args Q):cF P f aH args Q:=fun X w vals hs fp hm hv hi=>h X w vals hs fp hm hv hi (.any _)
def Pure(P:Program)(f:FuncId)(args:LA)(res:T):Prop:=cF P f [] (args.map A.t) fun o r=>o=[]/\r=res
def enum{α:Type}:Nat->List α->List (Nat×α)
 |_,[]=>[]
 |k,a::l=>(k,a)::enum (k+1) l
def od:List A->Option LA
 |[]=>some []
 | .t x::l=>(match od l with|some ts=>some (x::ts)|none=>none)
 |_=>none
def M4:∀{l:List A} {ts:LA},od l=some ts->l=ts.map A.t
 |[],ts,h=>by simp only[od,Option.some.injEq]at h;subst h;rfl
 | .t x::l,ts,h=>by
   simp only[od]at h;split at h
   ·rename_i ts' hts;cases h;rw[M4 hts];rfl
   ·cases h
 | .own _::_,_,h=>by simp[od]at h
 | .sub _ _ _::_,_,h=>by simp[od]at h
 | .ptr _ _::_,_,h=>by simp[od]at h
 | .agg _::_,_,h=>by simp[od]at h
 | .aI _::_,_,h=>by simp[od]at h
 | .fn _ _::_,_,h=>by simp[od]at h
mutual
def iU(S:St)(a:A)(K:T->St->Prop):Prop:=
 match a with
 | .t c=>K c S
 | .own q=>(match S.roots q with| .live t []=>K t {S with roots:=ak S.roots q .dead}|_=>False)
 | .agg l=>nm S l fun ts S'=>K (.agg ts) S'
 | .aI l=>nm S l fun ts S'=>K (.aI ts) S'
 | .fn f cap=>(match od cap with|some ts=>K (.fn f ts) S|none=>False)
 |_=>False
def nm(S:St)(l:List A)(K:LA->St->Prop):Prop:=
 match l with
 |[]=>K [] S
 |a::l=>iU S a fun t S1=>nm S1 l fun ts S2=>K (t::ts) S2
end
def rm(P:Program)(S:St)(rv:ResultVar)(K:T->St->Prop):Prop:=
 match rv with
 | .tmp t=>iU S (S.env t) K
 | .cell t ty=>(match S.env t with
   | .own q=>(match S.roots q with
     | .live (.box l) []=>(match fB P ty with
       |some true=>dJ P ty=some l.length/\K (.agg l) {S with roots:=ak S.roots q .dead}
       |some false=>(match l with|[c]=>K c {S with roots:=ak S.roots q .dead}|_=>False)
       |none=>False)
     |_=>False)
   |_=>False)
def nn(P:Program)(S:St)(np:List ResultVar)(K:LA->St->Prop):Prop:=
 match np with
 |[]=>K [] S
 |rv::np=>rm P S rv fun t S1=>nn P S1 np fun ts S2=>K (t::ts) S2
def uB(ts:LA):T:=match ts with|[t]=>t|ts=>.aI ts
def iI(S:St):Nat->Nat->(LA->Prop)->Prop
 |0,_,K=>K []
 |k+1,i,K=>(match S.roots i with| .live t []=>iI S k (i+1) fun ts=>K (t::ts)| .dead=>iI S k (i+1) fun ts=>K (.any::ts)|_=>False)
def rn(P:Program)(np:List ResultVar)(k:Nat)(Q:LA->T->Prop):Exit->St->Prop
 | .normal,S| .ret,S=>nn P S np fun ts S'=>iI S' k 1000000000 fun aA=>∃res,Le (uB ts) res/\Q aA res
 |_,_=>False
section
variable {P:Program} {X:NP} {w0:World} {O0:Fr} {n:Nat} {S:St} {a:Act} {w:World} {hs:NV} {fp:NL}
def Inter.kill(I:Inter S fp S1 aO){q:Nat}{t:T}{lk:List (Nat×Nat)}(h:S1.roots q= .live t lk):
  S.roots q= .live t lk/\aO q=fp q/\Inter S fp {S1 with roots:=ak S1.roots q .dead} (ak aO q []):=by
 have hsame:S.roots q= .live t lk/\aO q=fp q:=by
  rcases I.root q with⟨h1,h2⟩|⟨h1,_⟩
  ·exact⟨by rw[←h1,h],h2⟩
  ·rw[h]at h1;cases h1
 refine⟨hsame.1,hsame.2,I.env,fun r=>?_⟩;by_cases hr:r=q
 ·subst hr;exact .inr ⟨aT _ _ _,aT _ _ _,_,_,hsame.1⟩
 ·simp only[aU _ _ _ _ hr];exact I.root r
def Given(X:NP)(S:St)(w:World)(fp:NL)(aO:NL)(v:Value)(K:T->St->Prop):Prop:=
 ∃(t:T) (S2:St) (bl:NL) (f:LN),Inter S fp S2 bl/\K t S2/\Ow w (Ob X fp) t v f/\f.Nodup/\(∀b∈f,∃q,b∈aO q/\bl q=[])/\∀r,bl r=aO r∨bl r=[]
def wy(X:NP)(S:St)(w:World)(fp:NL)(aO:NL)(vs:LV)(K:LA->St->Prop):Prop:=
 ∃(ts:LA) (S2:St) (bl:NL) (gs:LB),Inter S fp S2 bl/\K ts S2/\ts.length=vs.length/\gs.length=vs.length/\(∀i (h:i<ts.length),Ow w (Ob X fp) ts[i] (vs.getD i undef) (gs.getD i []))∧
  gs.flatten.Nodup/\(∀b∈gs.flatten,∃q,b∈aO q/\bl q=[])/\∀r,bl r=aO r∨bl r=[]
def wy.cons(g:Good X w0 O0 n S a w hs fp)(I:Inter S fp S1 aO){vs:LV}{K:LA->St->Prop}{t:T}{bl:NL}{f:LN}(ho:Ow w (Ob X fp) t v f)(hfn:f.Nodup)(eK:∀b∈f,∃q,b∈aO q/\bl q=[])(hmono:∀r,bl r=aO r∨bl r=[])(hg2:wy X S w fp bl vs fun ts S3=>K (t::ts) S3):wy X S w fp aO (v::vs) K:=by
 obtain⟨ts,S3,iT,gs,GO,us,hlt,pj,hos,lM,eR,wi⟩:=hg2;have down:∀q b,b∈bl q->b∈aO q:=fun q b hq=>by
  rcases hmono q with h|h<;>rw[h]at hq
  ·exact hq
  ·simp at hq
 have sub:∀r b,b∈aO r->b∈fp r:=fun r b hr=>by
  rcases I.root r with⟨_,h⟩|⟨_,h,_⟩<;>rw[h]at hr
  ·exact hr
  ·simp at hr
 refine⟨t::ts,S3,iT,f::gs,GO,us,by simp[hlt],by simp[pj],fun i h=>?_,?_,fun b hb=>?_,fun r=>?_⟩
 ·cases i with
  |zero=>simpa only[List.getElem_cons_zero,List.getD_cons_zero]using ho
  |succ i=>have:=hos i (sU h);simpa only[List.getElem_cons_succ,List.getD_cons_succ]using this
 ·rw[qZ,rC];refine⟨hfn,lM,fun b hb b' hb' e=>?_⟩;subst e;obtain⟨q,hq1,s9⟩:=eK b hb;obtain⟨q',s_,_⟩:=eR b hb';have:=g.cj q q' b (sub q b hq1) (sub q' b (down q' b s_));subst this;rw[s9]at s_;simp at s_
 ·rw[qZ,qI]at hb;rcases hb with hb|hb
  ·obtain⟨q,h1,h2⟩:=eK b hb;refine⟨q,h1,?_⟩;rcases wi q with h|h
   ·rw[h,h2]
   ·exact h
  ·obtain⟨q,h1,h2⟩:=eR b hb;exact⟨q,down q b h1,h2⟩
 ·rcases wi r with h|h
  ·rw[h];exact hmono r
  ·exact .inr h
mutual
def M5(g:Good X w0 O0 n S a w hs fp):∀(x:A) (v:Value) (S1:St) (aO:NL) (K:T->St->Prop),Inter S fp S1 aO->Is w (Ob X fp) hs x v->iU S1 x K->Given X S w fp aO v K
 | .t c,v,S1,aO,K,hI,hx,hK=>by
   simp only[iU]at hK;cases hx with|t h=>exact⟨c,S1,aO,[],hI,hK,.rd h,sA,sA,fun _=>.inl rfl⟩
 | .own q,v,S1,aO,K,hI,hx,hK=>by
   simp only[iU]at hK;split at hK
   ·rename_i t hq;obtain⟨h1,h2,ri⟩:=hI.kill hq;have hr:=g.root q;rw[h1]at hr;obtain⟨y,hy,ho,_⟩:=hr;have hv:y=v:=by have:=hx.gK;rw[hy]at this;exact Option.some.inj this
    subst hv;refine⟨t,_,_,fp q,ri,hK,ho,g.nodup q,fun b hb=>⟨q,by rw[h2];exact hb,aT _ _ _⟩,fun r=>?_⟩;by_cases h:r=q
    ·subst h;exact .inr (aT _ _ _)
    ·exact .inl (aU _ _ _ _ h)
   ·exact hK.elim
 | .agg l,v,S1,aO,K,hI,hx,hK=>by
   simp only[iU]at hK;obtain⟨vs,rfl,hl,hr⟩:=hx.CX;obtain⟨ts,S2,bl,gs,h1,h2,h3,h4,h5,h6,h7,h8⟩:=Hk g l vs S1 aO _ hI hl hr hK;exact⟨.agg ts,S2,bl,gs.flatten,h1,h2,.agg ts vs gs om om h5,h6,h7,h8⟩
 | .aI l,v,S1,aO,K,hI,hx,hK=>by
   simp only[iU]at hK;obtain⟨vs,rfl,hl,hr⟩:=hx.Mi;obtain⟨ts,S2,bl,gs,h1,h2,h3,h4,h5,h6,h7,h8⟩:=Hk g l vs S1 aO _ hI hl hr hK;exact⟨.aI ts,S2,bl,gs.flatten,h1,h2,.aI ts vs gs om om h5,h6,h7,h8⟩
 | .sub _ _ _,v,S1,aO,K,hI,hx,hK=>by simp[iU]at hK
 | .ptr _ _,v,S1,aO,K,hI,hx,hK=>by simp[iU]at hK
 | .fn f cap,v,S1,aO,K,hI,hx,hK=>by
   simp only[iU]at hK;split at hK
   ·rename_i ts hts;have hc:=M4 hts;subst hc;cases hx with
    |fn hl hr=>exact⟨.fn f ts,S1,aO,[],hI,hK,.rd (.fn _ _ _ (sU hl) fun i h=>by have:=hr i (sU h);rw[rQ]at this;cases this with|t h=>exact h),sA,sA,fun _=>.inl rfl⟩
   ·exact hK.elim
def Hk(g:Good X w0 O0 n S a w hs fp):∀(as:List A) (vs:LV) (S1:St) (aO:NL) (K:LA->St->Prop),Inter S fp S1 aO->vs.length=as.length→
  (∀i (h:i<as.length),Is w (Ob X fp) hs as[i] (vs.getD i undef))->nm S1 as K->wy X S w fp aO vs K
 |[],[],S1,aO,K,hI,hl,hi,hK=>by
  simp only[nm]at hK;exact⟨[],S1,aO,[],hI,hK,rfl,rfl,fun i h=>absurd h sA,sA,sA,fun _=>.inl rfl⟩
 |[],_::_,S1,aO,K,hI,hl,hi,hK=>by simp at hl
 |_::_,[],S1,aO,K,hI,hl,hi,hK=>by simp at hl
 |x::as,v::vs,S1,aO,K,hI,hl,hi,hK=>by
  simp only[nm]at hK;have hx:Is w (Ob X fp) hs x v:=by have:=hi 0 sA;simpa only[List.getElem_cons_zero,List.getD_cons_zero]using this
  obtain⟨t,S2,bl,f,ri,pi,ho,hfn,eK,hmono⟩:=M5 g x v S1 aO _ hI hx hK;exact wy.cons g hI ho hfn eK hmono (Hk g as vs S2 bl _ ri (sU hl) (fun i h=>by have:=hi (i+1) (sU h);simpa only[List.getElem_cons_succ,List.getD_cons_succ]using this) pi)
end
def Wp(g:Good X w0 O0 n S a w hs fp)(rv:ResultVar){K:T->St->Prop}(I:Inter S fp S1 aO)(h:rm P S1 rv K):
  ∃v,((match rv with| .tmp t=>pure (a.tmps.getD t undef)| .cell c t=>(do loadVar t (←asAddr (a.tmps.getD c undef))):Go.Sem Value)).run P w= .ok v w/\Given X S w fp aO v K:=by
 cases rv with
 |tmp t=>
  simp only[rm]at h;have Hl:=I.env;rw[Hl]at h;exact⟨_,rfl,M5 g _ _ _ _ _ I (g.env t) h⟩
 |cell c ty=>
  simp only[rm]at h;have Hl:=I.env;split at h
  ·rename_i q hq;rw[Hl]at hq;split at h
   ·rename_i l hr;obtain⟨h1,h2,ri⟩:=I.kill hr;obtain⟨b,cs,e,ar,hb,hheap,hl,hf,hro,bw,_⟩:=g.box h1;have hc:=g.env c;rw[hq]at hc;have hc:=hc.gK;rw[hb,Option.some.injEq]at hc;have aK:=g.nodup q;rw[bw]at aK;have hmono:∀r,ak aO q [] r=aO r∨ak aO q [] r=[]:=fun r=>by
     by_cases h:r=q
     ·subst h;exact .inr (aT _ _ _)
     ·exact .inl (aU _ _ _ _ h)
    split at h
    ·rename_i ht;obtain⟨hz,hK⟩:=h;refine⟨.agg cs,?_,.agg l,_,_,ar.flatten,ri,hK,?_,(qX.1 aK).2,fun b' hb'=>⟨q,by rw[h2,bw];exact rH _ hb',aT _ _ _⟩,hmono⟩
     ·have:=Mn (P:=P) ht hz hheap (o:=0) om;simp only[Sem.run_bind,←hc,asAddr,Sem.run_pure,Result.andThen_ok,this];congr 1;congr 1;apply Array.ext';apply List.ext_getElem (by simp[hl]);intro i h1 h2;simp at h1;simp[qC,hl▸h1]
     ·have:=Ow.agg (w:=w) (O:=Ob X fp) l cs.toList ar (sU hl.symm) hf (fun i h=>by simpa[qC,qA]using hro i h);simpa using this
    ·rename_i ht;split at h
     ·rename_i c';have hcs:0<cs.size:=by rw[←hl];simp
      refine⟨cs.getD 0 undef,?_,c',_,_,ar.getD 0 [],ri,h,hro 0 sA,C2 (qX.1 aK).2,fun b' hb'=>⟨q,by rw[h2,bw];exact rH _ (jL hb'),aT _ _ _⟩,hmono⟩;simp only[Sem.run_bind,←hc,asAddr,Sem.run_pure,Result.andThen_ok];exact Mm ht (pg hheap hcs)
     ·exact h.elim
    ·exact h.elim
   ·exact h.elim
  ·exact h.elim
def M6(g:Good X w0 O0 n S a w hs fp):∀(np:List ResultVar) {S1:St} {aO:NL} {K:LA->St->Prop},Inter S fp S1 aO->nn P S1 np K→
  ∃vs:LV,(np.mapM (fun| .tmp t=>pure (a.tmps.getD t undef)| .cell c t=>(do loadVar t (←asAddr (a.tmps.getD c undef))):ResultVar->Go.Sem Value)).run P w= .ok vs w/\wy X S w fp aO vs K
 |[],S1,aO,K,I,h=>⟨[],sA,[],S1,aO,[],I,h,rfl,rfl,fun i h=>absurd h sA,sA,sA,fun _=>.inl rfl⟩
 |rv::np,S1,aO,K,I,h=>by
  simp only[nn]at h;obtain⟨v,hv,hg⟩:=Wp g rv I h;obtain⟨t,S2,bl,f,ri,pi,ho,hfn,eK,hmono⟩:=hg;obtain⟨vs,hvs,hg2⟩:=M6 g np ri pi;refine⟨v::vs,?_,wy.cons g I ho hfn eK hmono hg2⟩;rw[List.mapM_cons,Sem.run_bind];rw[show(Go.Sem.run P _ w)=Result.ok v w from hv,Result.andThen_ok,Sem.run_bind,hvs];rfl
def An:∀{k i:Nat} {K:LA->Prop},iI S k i K->∃aA:LA,K aA/\aA.length=k/\∀j (h:j<aA.length),S.roots (i+j)= .live aA[j] []∨(S.roots (i+j)= .dead/\aA[j]= .any)
 |0,i,K,h=>⟨[],h,rfl,fun j h=>absurd h sA⟩
 |k+1,i,K,h=>by
  simp only[iI]at h;split at h
  ·rename_i t ht;obtain⟨aA,h1,h2,h3⟩:=An h;refine⟨t::aA,h1,by simp[h2],fun j hj=>?_⟩;cases j with
   |zero=>exact .inl (sU ht)
   |succ j=>
    have:=h3 j (sU hj);rw[show i+(j+1)=i+1+j by omega];simpa using this
  ·rename_i ht;obtain⟨aA,h1,h2,h3⟩:=An h;refine⟨.any::aA,h1,by simp[h2],fun j hj=>?_⟩;cases j with
   |zero=>exact .inr ⟨sU ht,rfl⟩
   |succ j=>
    have:=h3 j (sU hj);rw[show i+(j+1)=i+1+j by omega];simpa using this
  ·exact h.elim
def Hm:∀(l:List A) (k i:Nat),je (enum k l) i=if k<=i then(l[i-k]?).getD (.t .any)else .t .any
 |[],k,i=>by simp[enum,je]
 |a::l,k,i=>by
  simp only[enum,je,v_];by_cases h:i=k
  ·subst h;simp
  ·rw[if_neg h,Hm l (k+1) i];by_cases h1:k<=i
   ·rw[if_pos om,if_pos h1,show i-k=(i-(k+1))+1 by omega,List.getElem?_cons_succ]
   ·rw[if_neg om,if_neg h1]
def Ao:∀(l:LA) (k i:Nat),eL (enum k l) i=if k<=i then(match l[i-k]? with|some t=>.live t []|none=>.free)else .free
 |[],k,i=>by simp[enum,eL]
 |a::l,k,i=>by
  simp only[enum,eL,v_];by_cases h:i=k
  ·subst h;simp
  ·rw[if_neg h,Ao l (k+1) i];by_cases h1:k<=i
   ·rw[if_pos om,if_pos h1,show i-k=(i-(k+1))+1 by omega,List.getElem?_cons_succ]
   ·rw[if_neg om,if_neg h1]
def Good.outside(g:Good X w0 O0 n S a w hs fp){E:NP}(hE:∀b,E b->(X b∨∀cs e fz,w.heap[b]? ≠some (.cells cs e fz))/\(w0.heap.size<=b∨O0 b))(hsame:∀b,b<w.heap.size->¬E b->w'.heap[b]? =w.heap[b]?)(hsz:w.heap.size<=w'.heap.size)(hos:w'.os=w.os)(zY:w'.tape=w.tape)(hout:w'.output=w.output)(hm:lf O0.aL O0.own a.defers w0 w'):Good X w0 O0 n S a w' hs fp:=by
 have hk:jK (fun b=>¬Ob X fp b) w w':=fun b cs e fz hn hb=>by
  rw[hsame b (qF.1 hb).1 fun h=>?_]
  ·exact hb
  ·rcases(hE b h).1 with h1|h1
   ·exact hn (.inl h1)
   ·exact h1 _ _ _ hb
 have mH:∀r,∀b∈fp r,w'.heap[b]? =w.heap[b]? :=fun r b hb=>hsame b (g.lt hb) fun h=>by
  rcases(hE b h).1 with h1|h1
  ·exact g.cV r b hb h1
  ·obtain⟨cs,e,fz,hc⟩:=g.cells hb;exact h1 _ _ _ hc
 exact⟨g.size,hm,fun i=>(g.env i).mono hk (fun b h _=>h) (fun _ _ h=>h),fun r=>g.rl r hk (fun b h _=>h) (fun _ _ h=>h) rfl (mH r),g.cj,g.nodup,g.cV,fun b h=>Nat.lt_of_lt_of_le (g.de b h) hsz,g.fA,g.mine,
  ⟨hos.trans g.aZ.os,zY.trans g.aZ.tape,hout.trans g.aZ.output,rA g.aZ.size hsz,fun b hb hn=>by
   rw[hsame b (Nat.lt_of_lt_of_le hb g.aZ.size) fun h=>by
    rcases(hE b h).2 with h2|h2
    ·omega
    ·exact hn h2];exact g.aZ.block b hb hn⟩,g.b8,g.aV,g.small,g.ax⟩
def Good.shut{tm:Array Value}(g:Good X w0 O0 n S {tmps:=tm,defers:=[]} w hs fp)(D:Nat)(hD:w.heap[D]? =some (.deferred (some [])))(h0:w0.heap.size<=D∨O0 D):Good X w0 O0 n S {tmps:=tm,defers:=[]} (w.putObj D (.deferred none)) hs fp:=
 g.outside (E:=fun b=>b=D) (fun b h=>by subst h;exact⟨.inr (fun cs e fz h=>by rw[hD]at h;cases h),h0⟩) (fun b _ h=>World.putObj_heap_other h) sA rfl rfl rfl (lf.nil _ _ _ _)
def Hn{tm:Array Value}{R:Ending->World->Prop}(h:∃v,(results fn tm).run P w= .ok v w/\R (.returned v) w):LeavesInM Fence.wide 0 P fn tm R [] .returning w:=h
def cF.Wq{c:Code}{Q:LA->T->Prop}(gg:T)(hf:P.funcs[f]? =some fn)(hb:fn.body=some c)(hn:fn.ntmps=n)(ha:args.length<=n)(bV:n<=100000)(h:Sem P n c (rn P fn.results.toList aH.length Q) (St.of ((1000000,.t gg)::enum 0 args) (enum 1000000000 aH))):Am P gg f aH args Q:=by
 intro X w vals hs fp hm hv hi Ho;refine callsIn_wide.1 (callsIn_of_wp_marks (F:=Fence.wide) (n:=0) hf hb trivial ?_);have g:Good X w ⟨fun b=>∃j,b∈fp j,hs,True⟩ n (St.of ((1000000,.t gg)::enum 0 args) (enum 1000000000 aH)) {tmps:=vals.toArray++Array.replicate (fn.ntmps-vals.toArray.size) undef,defers:=[]} w hs fp:=by
  refine⟨by simp;omega,lf.nil _ _ _ _,fun i=>?_,fun r=>?_,hm.cj,hm.nodup,hm.cV,hm.de,fun b hX _ ⟨j,hj⟩=>hm.cV j b hj hX,fun r b hb=>.inl ⟨r,hb⟩,⟨rfl,rfl,rfl,qR _,fun _ _ _=>rfl⟩,fun r t lk hr=>?_,hm.aV,bV,fun _ _ _ h=>h⟩
  ·show Is _ _ _ (ak (je (enum 0 args)) 1000000 (.t gg) i) _;by_cases rp:i=1000000
   ·subst rp;rw[aT,show(vals.toArray++Array.replicate (fn.ntmps-vals.toArray.size) undef).getD 1000000 undef=undef from by
     rw[qC,Array.getElem?_eq_none (by simp;omega)];rfl]
    exact .t Ho
   rw[aU _ _ _ _ rp,Hm];simp only[Nat.zero_le,if_true,Nat.sub_zero];by_cases Hp:i<args.length
   ·have:=hi i Hp;have e:(vals.toArray++Array.replicate (fn.ntmps-vals.toArray.size) undef).getD i undef=vals.getD i undef:=by
     simp[qC,qA,Array.getElem?_append,hv,Hp]
    rw[e,qB Hp];exact this
   ·rw[qP om];exact .t (.any _)
  ·show iG _ _ _ (eL (enum 1000000000 aH) r) _ _;rw[Ao];by_cases b9:1000000000<=r
   ·rw[if_pos b9];by_cases hr:r-1000000000<aH.length
    ·rw[qB hr];obtain⟨x,hx,ho,bv⟩:=hm.root (r-1000000000) _ (qB hr);rw[show 1000000000+(r-1000000000)=r by omega]at hx ho;exact⟨x,hx,ho,fun p hp=>by simp at hp⟩
    ·rw[qP om];exact hm.none r (.inr om)
   ·rw[if_neg b9];exact hm.none r (.inl om)
  ·have hr:eL (enum 1000000000 aH) r= .live t lk:=hr;rw[Ao]at hr;split at hr
   ·split at hr
    ·rename_i t' ht;cases hr;obtain⟨_,_,_,bv⟩:=hm.root _ _ ht;exact bv
    ·cases hr
   ·cases hr
 refine wpIn_mono (h X w _ _ w hs fp g none (oa.no _ _) (fun _ _=>trivial)) fun e a' w' ⟨⟨S',hs',al,g',q⟩,_⟩=>?_;have Wr:∀{a':Act} {w':World},Good X w ⟨fun b=>∃j,b∈fp j,hs,True⟩ n S' a' w' hs' al->rn P fn.results.toList aH.length Q .ret S'->∃v,(results fn a'.tmps).run P w'= .ok v w'/\∃v' res aA fr dQ,Ending.returned v= .returned v'/\Q aA res/\aA.length=aH.length/\Out X w hs fp v' res aA fr dQ w':=by
  intro a' w' g' q;simp only[rn]at q;obtain⟨vs,hvs,ts,S2,bl,gs,I,hK,hlt,pj,hos,lM,eR,hmono⟩:=M6 g' fn.results.toList (Inter.refl S' al) q;obtain⟨aA,⟨res,hle,hQ⟩,hrl,kd⟩:=An hK;have Ws:∃v,(results fn a'.tmps).run P w'= .ok v w'/\∃f,Ow w' (Ob X al) (uB ts) v f/\f.Sublist gs.flatten:=by
   have hm:(fn.results.mapM (fun| .tmp t=>pure (a'.tmps.getD t undef)| .cell c t=>(do loadVar t (←asAddr (a'.tmps.getD c undef))):ResultVar->Go.Sem Value)).run P w'= .ok vs.toArray w':=by
    rw[Array.mapM_eq_mapM_toList,Sem.run_map];rw[show(Go.Sem.run P _ w')=Result.ok vs w' from hvs];rfl
   have hrun:(results fn a'.tmps).run P w'= .ok (if h:vs.toArray.size=1 then vs.toArray[0]else .tuple vs.toArray) w':=by
    unfold results;rw[Sem.run_bind];exact congrArg (fun(r:Result (Array Value))=>r.andThen fun a w'=>Go.Sem.run P (pure (if h:a.size=1 then a[0]else Value.tuple a):Go.Sem Value) w') hm
   refine⟨_,hrun,?_⟩
   match vs,ts,gs,hlt,pj,hos with
   |[v],[t],[f],_,_,hos=>
    refine⟨f,?_,sA⟩;have:=hos 0 sA;simpa[uB]using this
   |[],ts,gs,hlt,pj,hos=>
    have h1:=rX hlt;subst h1;exact⟨gs.flatten,by simpa[uB]using Ow.aI (w:=w') (O:=Ob X al) [] [] gs rfl (sU pj) (fun i h=>absurd h sA),List.Sublist.refl _⟩
   |v1::v2::vs,ts,gs,hlt,pj,hos=>
    have h1:¬(v1::v2::vs).toArray.size=1:=sA;rw[dif_neg h1];have h2:uB ts= .aI ts:=by
     match ts,hlt with
     |_::_::_,_=>rfl
    rw[h2];exact⟨gs.flatten,Ow.aI ts _ gs om om hos,List.Sublist.refl _⟩
  obtain⟨v,lK,f,Wt,M7⟩:=Ws;obtain⟨fr,Wu,hfr⟩:=hle.ow Wt;refine⟨v,lK,v,res,aA,fr,fun r=>if 1000000000<=r/\r<1000000000+aH.length then bl r else [],rfl,hQ,hrl,?_⟩;have hin:∀r b,b∈(if 1000000000<=r/\r<1000000000+aH.length then bl r else [])->b∈bl r:=fun r b hb=>by
   split at hb
   ·exact hb
   ·simp at hb
  have Ap:∀r b,b∈bl r->b∈al r:=fun r b hb=>by
   rcases I.root r with⟨_,h⟩|⟨_,h,_⟩<;>rw[h]at hb
   ·exact hb
   ·simp at hb
  have yh:∀b,b∈fr->∃q,b∈al q/\bl q=[]:=fun b hb=>eR b (M7.subset (hfr.subset hb));have hO:∀b,¬Ob X al b->b<w'.heap.size->¬uA X (fun r=>if 1000000000<=r/\r<1000000000+aH.length then bl r else []) fr b:=by
   rintro b h1 _ ((h|⟨r,hr⟩)|h)
   ·exact h1 (.inl h)
   ·exact h1 (.inr ⟨r,Ap r b (hin r b hr)⟩)
   ·obtain⟨q,hq,_⟩:=yh b h;exact h1 (.inr ⟨q,hq⟩)
  refine⟨fun i t hi=>?_,fun r hr=>?_,Wu.mono (fun _ _ _ _ _ h=>h) hO (fun _ _ _ _ _ h=>h),fun r r' b h h'=>g'.cj r r' b (Ap r b (hin r b h)) (Ap r' b (hin r' b h')),fun r=>?_,hfr.nodup (M7.nodup lM),fun r b h h'=>?_,fun r b h=>?_,fun b h=>?_,
   g'.aZ.os,g'.aZ.tape,g'.aZ.output,g'.aZ.size,fun b hb hn=>g'.aZ.block b hb fun⟨j,hj⟩=>hn j hj⟩
  ·obtain⟨bq,rfl⟩:=qK.1 hi;rcases kd i bq with h1|⟨h1,h0⟩
   case inr=>
    obtain⟨x,hx,_⟩:=hm.root i _ (qB om);refine⟨x,hx,?_,.inr h0⟩;rw[h0,if_pos om];have h3:bl (1000000000+i)=[]:=by
     rcases I.root (1000000000+i)with⟨h3,h4⟩|⟨_,h4,_⟩
     ·rw[h1]at h3;have h5:=g'.root (1000000000+i);rw[←h3]at h5;rw[h4];exact h5
     ·exact h4
    rw[h3];exact .rd (.any _)
   have h2:S'.roots (1000000000+i)= .live aA[i] []/\bl (1000000000+i)=al (1000000000+i):=by
    rcases I.root (1000000000+i)with⟨h3,h4⟩|⟨h3,_⟩<;>rw[h1]at h3
    ·exact⟨h3.symm,h4⟩
    ·cases h3
   have h5:=g'.root (1000000000+i);rw[h2.1]at h5;obtain⟨x,hx,ho,_⟩:=h5;refine⟨x,g'.ax _ _ om hx,?_,.inl (g'.b8 _ _ _ h2.1)⟩;rw[if_pos om,h2.2];exact ho.mono (fun _ _ _ _ _ h=>h) hO (fun _ _ _ _ _ h=>h)
  ·rw[if_neg om]
  ·split
   ·rcases I.root r with⟨_,h⟩|⟨_,h,_⟩<;>rw[h]
    ·exact g'.nodup r
    ·simp
   ·simp
  ·obtain⟨q,hq,lL⟩:=yh b h';have h2:=hin r b h;have:=g'.cj q r b hq (Ap r b h2);subst this;rw[lL]at h2;simp at h2
  ·exact g'.mine r b (Ap r b (hin r b h))
  ·obtain⟨q,hq,_⟩:=yh b h;exact g'.mine q b hq
 have Wv:∀(Ds:LN) (tm:Array Value) (w1:World),Ds.Nodup->(∀D∈Ds,(w.heap.size<=D∨∃j,D∈fp j)/\w1.heap[D]? =some (.deferred (some [])))->Good X w ⟨fun b=>∃j,b∈fp j,hs,True⟩ n S' {tmps:=tm,defers:=[]} w1 hs' al->rn P fn.results.toList aH.length Q .ret S'→
   LeavesInM Fence.wide 0 P fn tm (fun e w'=>∃v res aA fr al,e= .returned v/\Q aA res/\aA.length=aH.length/\Out X w hs fp v res aA fr al w') (Ds.map fun D=>{target:=.collected D,args:=#[]}) .returning w1:=by
  intro Ds;induction Ds with
  |nil=>intro tm w1 _ _ g1 q;exact Hn (Wr (a':={tmps:=tm,defers:=[]}) g1 q)
  |cons D Ds ih=>
   intro tm w1 mI wz g1 q;have hD:=wz D sA;refine⟨sA,.inl ⟨D,w1.putObj D (.deferred none),rfl,run_takeDeferred hD.2,ih tm _ (qX.1 mI).2 (fun D' tc=>?_) (g1.shut D hD.2 hD.1) q⟩⟩;have h1:=wz D' (by simp[tc]);refine⟨h1.1,?_⟩;have hne:D'≠D:=fun e=>(qX.1 mI).1 (by rw[←e];exact tc);rw[World.putObj_heap_other hne];exact h1.2
 have key:rn P fn.results.toList aH.length Q .ret S'->LeavesInM Fence.wide 0 P fn a'.tmps (fun e w'=>∃v res aA fr al,e= .returned v/\Q aA res/\aA.length=aH.length/\Out X w hs fp v res aA fr al w') a'.defers .returning w':=fun q=>by
  obtain⟨Ds,mI,pu,wz,_⟩:=g'.defers;rw[pu];exact Wv Ds a'.tmps w' mI wz {g' with defers:=lf.nil _ _ _ _} q
 cases e with
 |normal=>exact key q
 |ret=>exact key q
 |_=>exact q.elim
def cF.intro{c:Code}{Q:LA->T->Prop}(hf:P.funcs[f]? =some fn)(hb:fn.body=some c)(hn:fn.ntmps=n)(ha:args.length<=n)(bV:n<=100000)(h:Sem P n c (rn P fn.results.toList aH.length Q) (St.of (enum 0 args) (enum 1000000000 aH))):cF P f aH args Q:=by
 refine(cF.Wq .any hf hb hn ha bV ?_).toFun;have e:St.of ((1000000,.t .any)::enum 0 args) (enum 1000000000 aH)=St.of (enum 0 args) (enum 1000000000 aH):=by
  simp only[St.of,je];congr 1;funext i;by_cases hi:i=1000000
  ·subst hi;rw[aT,Hm,if_pos om,qP om];rfl
  ·rw[aU _ _ _ _ hi]
 rw[e];exact h
end
mutual
def T.bB:T->T
 | .arr s l=>.sh s (T.cr l)
 | .box l=>.ax (T.cr l) 0
 | .agg l=>.agg (T.cr l)
 | .aI l=>.aI (T.cr l)
 |t=>t
def T.cr:LA->LA
 |[]=>[]
 |t::l=>T.bB t::T.cr l
end
def T.mJ:∀l:LA,(T.cr l).length=l.length
 |[]=>rfl
 |t::l=>by simp[T.cr,T.mJ l]
def T.td:∀(l:LA) (i:Nat) (h:i<(T.cr l).length),(T.cr l)[i]=(l[i]'(by rwa[T.mJ]at h)).bB
 |t::l,0,h=>rfl
 |t::l,i+1,h=>by simpa[T.cr]using T.td l i (by simpa[T.cr]using h)
def T.pv:∀l:LA,T.cr l=l.map T.bB
 |[]=>rfl
 |t::l=>by simp[T.cr,T.pv l]
def Rd.bB{w:World}{O O':NP}(hO:∀b,¬O b->b<w.heap.size->¬O' b){t:T}{x:Value}(h:Rd w O t x):Rd w O' t.bB x:=by
 induction h with
 |any x=>exact .any x
 |v x=>exact .v x
 |nZ s=>exact .nZ s
 |sW s ad cap=>exact .sW s ad cap
 |sh s l b off len cap cs e fz hn hb hsz hl hc hr ih=>exact .sh s l b off len cap cs e fz (hO b hn (qF.1 hb).1) hb hsz hl hc fun i h=>(hr i h).mono (fun _ _ _ _ _ h=>h) hO
 |ax l off b o cs e fz hn hb hsz hr ih=>exact .ax l off b o cs e fz (hO b hn (qF.1 hb).1) hb hsz fun i h=>(hr i h).mono (fun _ _ _ _ _ h=>h) hO
 |fn f cap vs hl hr ih=>exact .fn f cap vs hl fun i h=>(hr i h).mono (fun _ _ _ _ _ h=>h) hO
 |agg l vs hl hr ih=>exact .agg _ vs (by rw[T.mJ];exact hl) fun i h=>by rw[T.td];exact ih i _
 |aI l vs hl hr ih=>exact .aI _ vs (by rw[T.mJ];exact hl) fun i h=>by rw[T.td];exact ih i _
def Ow.bB{w:World}{O O':NP}{t:T}{x:Value}{fp:LN}(h:Ow w O t x fp)(hO:∀b,¬O b->b<w.heap.size->¬O' b)(hf:∀b∈fp,¬O' b):Rd w O' t.bB x:=by
 induction h with
 |rd h=>exact h.bB hO
 |jn s=>exact .nZ s
 |arr s l b len cap cs e ar hb hl hc hm hsz hfl hr ih=>
  refine .sh s _ b 0 len cap cs e (0,0) (hf b sA) hb ?_ (by rw[T.mJ];exact hl) hc fun i h=>?_
  ·rw[T.mJ,hl,hsz,Nat.zero_add];exact Nat.mul_le_mul_right _ hc
  ·rw[T.td,Nat.zero_add];exact ih i _ fun b' hb'=>hf b' (rH _ (jL hb'))
 |box l b cs e ar hb hl hfl hr ih=>
  refine .ax _ 0 b 0 cs e (0,0) (hf b sA) hb (by rw[T.mJ];omega) fun i h=>?_;rw[T.td,Nat.zero_add];exact ih i _ fun b' hb'=>hf b' (rH _ (jL hb'))
 |agg l vs ar hl hfl hr ih=>
  refine .agg _ vs (by rw[T.mJ];exact hl) fun i h=>?_;rw[T.td];exact ih i _ fun b' hb'=>hf b' (jL hb')
 |aI l vs ar hl hfl hr ih=>
  refine .aI _ vs (by rw[T.mJ];exact hl) fun i h=>?_;rw[T.td];exact ih i _ fun b' hb'=>hf b' (jL hb')
def vb(S:St)(au:LN)(x:T)(a:A):Prop:=
 match a with
 | .t y=>yf x y
 | .own q=>q∈au/\∃t,S.roots q= .live t []/\x=t.bB
 | .sub q off m=>q∈au/\∃s l,S.roots q= .live (.arr s l) []/\off+m*s<=l.length/\x= .sh s (((T.cr l).drop off).take (m*s))
 | .ptr q off=>q∈au/\∃l,(S.roots q).cells=some (l,[])/\0<l.length/\x= .ax (T.cr l) off
 |_=>False
mutual
def vt(S:St)(au:LN):T->A->Prop
 | .any,_=>True
 | .agg xs,a=>(match a with| .agg as=>rq S au xs as| .t y=>T.agg xs=y|_=>False)
 | .fn f xs,a=>(match a with| .fn f' as=>f=f'/\rq S au xs as| .t y=>T.fn f xs=y|_=>False)
 |x,a=>vb S au x a
def rq(S:St)(au:LN):LA->List A->Prop
 |[],as=>as=[]
 |x::xs,as=>(match as with|a::as=>vt S au x a/\rq S au xs as|[]=>False)
end
mutual
def va(S:St)(ai au:LN):A->A->Prop
 | .t x,a=>vt S au x a
 | .own j,a=>(match a with| .own q=>1000000000<=j/\ai[j-1000000000]? =some q|_=>False)
 | .sub j o m,a=>(match a with| .sub q o' m'=>1000000000<=j/\ai[j-1000000000]? =some q/\o=o'/\m=m'|_=>False)
 | .ptr j o,a=>(match a with| .ptr q o'=>1000000000<=j/\ai[j-1000000000]? =some q/\o=o'|_=>False)
 | .agg l,a=>(match a with| .agg l'=>gn S ai au l l'|_=>False)
 | .aI l,a=>(match a with| .aI l'=>gn S ai au l l'|_=>False)
 | .fn f l,a=>(match a with| .fn f' l'=>f=f'/\gn S ai au l l'|_=>False)
def gn(S:St)(ai au:LN):List A->List A->Prop
 |[],l=>l=[]
 |a::l,l'=>(match l' with|b::l'=>va S ai au a b/\gn S ai au l l'|[]=>False)
end
section
variable {X:NP} {w0:World} {O0:Fr} {n:Nat} {S:St} {a:Act} {w:World} {hs:NV} {fp:NL} {ai au:LN} {O':NP} {hs':NV}
def Dm(vs:LV)(i:Nat):vs.getD (i+1) undef=vs.tail.getD i undef:=by cases vs<;>simp[qA]
def yi(g:Good X w0 O0 n S a w hs fp)(hO:∀b,¬Ob X fp b->b<w.heap.size->¬O' b)(hb:∀q∈au,∀b∈fp q,¬O' b){x:T}{y:A}(hx:Is w (Ob X fp) hs y v)(h:vb S au x y):Rd w O' x v:=by
 cases y with
 |t y=>cases hx with|t hx=>exact(Hf h hx).mono (fun _ _ _ _ _ h=>h) hO
 |own q=>
  obtain⟨hq,t,ht,rfl⟩:=h;have hr:=g.root q;rw[ht]at hr;obtain⟨z,hz,ho,_⟩:=hr;have rg:=hx.gK;rw[hz,Option.some.injEq]at rg;subst rg;exact ho.bB hO (hb q hq)
 |sub q off m=>
  obtain⟨hq,s,l,hr,hle,rfl⟩:=h;rcases g.arr hr with⟨hv,rfl,bw,_⟩|⟨b,len,cap,cs,e,ar,hv,hheap,hl,hcap,hm,hsz,hf,hro,bw,bp6,_⟩
  ·cases hx with
   |sub hr _=>rw[hv]at hr;cases hr
   |my hr=>rw[hv]at hr;cases hr
   |mz _=>simpa[T.cr]using Rd.nZ s
  ·cases hx with
   |sub hr hc=>
    rw[hv]at hr;cases hr;refine .sh s _ b off m _ cs e (0,0) (hb q hq b (by rw[bw];simp)) hheap (by simp[T.mJ];omega) (by simp[T.mJ];omega) hc fun i hi=>?_;have hi':off+i<l.length:=by simp[T.mJ]at hi;omega
    have e1:(((T.cr l).drop off).take (m*s))[i]=(l[off+i]).bB:=(by simp[T.td]);rw[e1];exact(hro (off+i) hi').bB hO fun b' hb'=>hb q hq b' (by rw[bw];exact rH _ (jL hb'))
   |my hr=>
    simp only[Nat.zero_mul,List.take_zero];rw[hv]at hr;cases hr;exact .sh s [] b 0 0 _ cs e (0,0) (hb q hq b (by rw[bw];simp)) hheap sA sA (Nat.zero_le _) fun i hi=>absurd hi sA
   |mz hr=>rw[hv]at hr;cases hr
 |ptr q off=>
  obtain⟨hq,l,hr,hl0,rfl⟩:=h;obtain⟨b,y,cs,e,ar,hy,fC,hheap,hle,hf,hro,bw,_⟩:=g.block hr hl0;have hv:=g.wg hy fC hx;subst hv;have:=Rd.ax (w:=w) (O:=O') (T.cr l) off b 0 cs e (0,0) (hb q hq b (by rw[bw];simp)) hheap (by rw[T.mJ];omega) (fun i hi=>by
   rw[T.td,Nat.zero_add];exact(hro i (by rwa[T.mJ]at hi)).bB hO fun b' hb'=>hb q hq b' (by rw[bw];exact rH _ (jL hb')))
  rwa[Nat.zero_add]at this
 |agg _=>exact h.elim
 |aI _=>exact h.elim
 |fn _ _=>exact h.elim
mutual
def M8(g:Good X w0 O0 n S a w hs fp)(hO:∀b,¬Ob X fp b->b<w.heap.size->¬O' b)(hb:∀q∈au,∀b∈fp q,¬O' b):
  ∀(x:T) (y:A) {v:Value},vt S au x y->Is w (Ob X fp) hs y v->Rd w O' x v
 | .any,y,v,h,hx=>.any _
 | .v _,y,v,h,hx=>yi g hO hb hx (by simpa only[vt]using h)
 | .sh _ _,y,v,h,hx=>yi g hO hb hx (by simpa only[vt]using h)
 | .arr _ _,y,v,h,hx=>yi g hO hb hx (by simpa only[vt]using h)
 | .box _,y,v,h,hx=>yi g hO hb hx (by simpa only[vt]using h)
 | .ax _ _,y,v,h,hx=>yi g hO hb hx (by simpa only[vt]using h)
 | .aI _,y,v,h,hx=>yi g hO hb hx (by simpa only[vt]using h)
 | .agg xs,y,v,h,hx=>by
   cases y with
   |agg as=>
    simp only[vt]at h;obtain⟨vs,rfl,hl,hr⟩:=hx.CX;obtain⟨h1,h2⟩:=Hq g hO hb xs as h hr;exact .agg xs vs om h2
   |t y=>
    simp only[vt]at h;subst h;cases hx with|t hx=>exact hx.mono (fun _ _ _ _ _ h=>h) hO
   |_=>simp[vt]at h
 | .fn f xs,y,v,h,hx=>by
   cases y with
   |fn f' as=>
    simp only[vt]at h;obtain⟨rfl,h⟩:=h;cases hx with|fn hl hr=>
    obtain⟨h1,h2⟩:=Hq g hO hb xs as h hr;exact .fn f xs _ om h2
   |t y=>
    simp only[vt]at h;subst h;cases hx with|t hx=>exact hx.mono (fun _ _ _ _ _ h=>h) hO
   |_=>simp[vt]at h
def Hq(g:Good X w0 O0 n S a w hs fp)(hO:∀b,¬Ob X fp b->b<w.heap.size->¬O' b)(hb:∀q∈au,∀b∈fp q,¬O' b):
  ∀(xs:LA) (as:List A) {vs:LV},rq S au xs as->(∀i (h:i<as.length),Is w (Ob X fp) hs as[i] (vs.getD i undef))->xs.length=as.length/\∀i (h:i<xs.length),Rd w O' xs[i] (vs.getD i undef)
 |[],as,vs,h,hx=>by simp only[rq]at h;subst h;exact⟨rfl,fun i h=>absurd h sA⟩
 |x::xs,[],vs,h,hx=>by simp only[rq]at h
 |x::xs,b::as,vs,h,hx=>by
  simp only[rq]at h;have h0:=M8 g hO hb x b h.1 (by have:=hx 0 sA;simpa only[List.getElem_cons_zero]using this);obtain⟨h1,h2⟩:=Hq g hO hb xs as (vs:=vs.tail) h.2 (fun i hi=>by
   have:=hx (i+1) (sU hi);rw[Dm]at this;simpa only[List.getElem_cons_succ]using this)
  refine⟨by simp[h1],fun i hi=>?_⟩;cases i with
  |zero=>simpa only[List.getElem_cons_zero]using h0
  |succ i=>rw[Dm];simpa only[List.getElem_cons_succ]using h2 i (sU hi)
end
mutual
def M9(g:Good X w0 O0 n S a w hs fp)(hO:∀b,¬Ob X fp b->b<w.heap.size->¬O' b)(hb:∀q∈au,∀b∈fp q,¬O' b)(hh:∀i q,ai[i]? =some q->hs' (1000000000+i)=hs q):
  ∀(a' y:A) {v:Value},va S ai au a' y->Is w (Ob X fp) hs y v->Is w O' hs' a' v
 | .t x,y,v,h,hx=>by simp only[va]at h;exact .t (M8 g hO hb x y h hx)
 | .own j,y,v,h,hx=>by
   cases y with
   |own q=>
    simp only[va]at h;have:=hh _ _ h.2;rw[show 1000000000+(j-1000000000)=j by omega]at this;cases hx with|own hr=>exact .own (this.trans hr)
   |_=>simp[va]at h
 | .sub j o m,y,v,h,hx=>by
   cases y with
   |sub q o' m'=>
    simp only[va]at h;obtain⟨h0,h1,rfl,rfl⟩:=h;have:=hh _ _ h1;rw[show 1000000000+(j-1000000000)=j by omega]at this;cases hx with
    |sub hr hc=>exact .sub (this.trans hr) hc
    |my hr=>exact .my (this.trans hr)
    |mz hr=>exact .mz (this.trans hr)
   |_=>simp[va]at h
 | .ptr j o,y,v,h,hx=>by
   cases y with
   |ptr q o'=>
    simp only[va]at h;obtain⟨h0,h1,rfl⟩:=h;have:=hh _ _ h1;rw[show 1000000000+(j-1000000000)=j by omega]at this;cases hx with
    |lJ hr=>exact .lJ (this.trans hr)
    |kc hr=>exact .kc (this.trans hr)
   |_=>simp[va]at h
 | .agg l,y,v,h,hx=>by
   cases y with
   |agg l'=>
    simp only[va]at h;cases hx with|agg hl hr=>obtain⟨h1,h2⟩:=Aq g hO hb hh l l' h hr;exact .agg om h2
   |_=>simp[va]at h
 | .aI l,y,v,h,hx=>by
   cases y with
   |aI l'=>
    simp only[va]at h;cases hx with|aI hl hr=>obtain⟨h1,h2⟩:=Aq g hO hb hh l l' h hr;exact .aI om h2
   |_=>simp[va]at h
 | .fn f l,y,v,h,hx=>by
   cases y with
   |fn f' l'=>
    simp only[va]at h;obtain⟨rfl,h⟩:=h;cases hx with|fn hl hr=>obtain⟨h1,h2⟩:=Aq g hO hb hh l l' h hr;exact .fn om h2
   |_=>simp[va]at h
def Aq(g:Good X w0 O0 n S a w hs fp)(hO:∀b,¬Ob X fp b->b<w.heap.size->¬O' b)(hb:∀q∈au,∀b∈fp q,¬O' b)(hh:∀i q,ai[i]? =some q->hs' (1000000000+i)=hs q):
  ∀(l l':List A) {vs:LV},gn S ai au l l'->(∀i (h:i<l'.length),Is w (Ob X fp) hs l'[i] (vs.getD i undef))->l.length=l'.length/\∀i (h:i<l.length),Is w O' hs' l[i] (vs.getD i undef)
 |[],l',vs,h,hx=>by simp only[gn]at h;subst h;exact⟨rfl,fun i h=>absurd h sA⟩
 |a'::l,[],vs,h,hx=>by simp only[gn]at h
 |a'::l,b::l',vs,h,hx=>by
  simp only[gn]at h;have h0:=M9 g hO hb hh a' b h.1 (by have:=hx 0 sA;simpa only[List.getElem_cons_zero]using this);obtain⟨h1,h2⟩:=Aq g hO hb hh l l' (vs:=vs.tail) h.2 (fun i hi=>by
   have:=hx (i+1) (sU hi);rw[Dm]at this;simpa only[List.getElem_cons_succ]using this)
  refine⟨by simp[h1],fun i hi=>?_⟩;cases i with
  |zero=>simpa only[List.getElem_cons_zero]using h0
  |succ i=>rw[Dm];simpa only[List.getElem_cons_succ]using h2 i (sU hi)
end
end
def eM(d k:Nat):Nat:=if k=0 then d else 1000*(d+1)+k
mutual
def bp(d:Nat):Nat->T->A×List (Nat×T)×Nat
 |k,.arr s l=>(.own (eM d k),[(eM d k,.arr s l)],k+1)
 |k,.box l=>(.own (eM d k),[(eM d k,.box l)],k+1)
 |k,.agg l=>((.agg (f_ d k l).1),(f_ d k l).2.1,(f_ d k l).2.2)
 |k,.aI l=>((.aI (f_ d k l).1),(f_ d k l).2.1,(f_ d k l).2.2)
 |k,t=>(.t t,[],k)
def f_(d:Nat):Nat->LA->List A×List (Nat×T)×Nat
 |k,[]=>([],[],k)
 |k,t::l=>((bp d k t).1::(f_ d (bp d k t).2.2 l).1,(bp d k t).2.1++(f_ d (bp d k t).2.2 l).2.1,(f_ d (bp d k t).2.2 l).2.2)
end
def lQ(f:Nat->aE):List (Nat×T)->Nat->aE
 |[]=>f
 |(j,t)::l=>ak (lQ f l) j (.live t [])
def gp(f:Nat->aE):LN->LA->Nat->aE
 |q::qs,t::ts=>ak (gp f qs ts) q (rootOf t)
 |_,_=>f
def te(S:St):List (Nat×T)->Prop
 |[]=>True
 |(j,_)::l=>S.roots j= .free/\te S l
def kI(S:St)(d:Option Nat)(ai:LN)(aA:LA)(res:T)(K:SP):Prop:=
 match d with
 |some d=>te S (bp d 0 res).2.1/\(bp d 0 res).2.2<=1000/\K {env:=ak S.env d (bp d 0 res).1,roots:=lQ (gp S.roots ai aA) (bp d 0 res).2.1}
 |none=>K {env:=S.env,roots:=gp S.roots ai aA}
mutual
def T.bJ:T->Prop
 | .sh _ _=>False
 | .ax _ _=>False
 | .arr _ l=>T.df l
 | .box l=>T.df l
 | .fn _ l=>T.df l
 | .agg l=>T.df l
 | .aI l=>T.df l
 |_=>True
def T.df:LA->Prop
 |[]=>True
 |t::l=>T.bJ t/\T.df l
end
def T.kJ:∀l:LA,T.df l↔∀t∈l,t.bJ
 |[]=>by simp[T.df]
 |t::l=>by simp[T.df,T.kJ l]
def Rd.bJ{w:World}{O O':NP}{t:T}{x:Value}(h:Rd w O t x)(hn:t.bJ):Rd w O' t x:=by
 induction h with
 |any x=>exact .any x
 |v x=>exact .v x
 |nZ s=>exact hn.elim
 |sW s ad cap=>exact hn.elim
 |sh=>exact hn.elim
 |ax=>exact hn.elim
 |fn f cap vs hl hr ih=>exact .fn f cap vs hl fun i h=>ih i h ((T.kJ cap).1 hn _ (rJ _))
 |agg l vs hl hr ih=>exact .agg l vs hl fun i h=>ih i h ((T.kJ l).1 hn _ (rJ _))
 |aI l vs hl hr ih=>exact .aI l vs hl fun i h=>ih i h ((T.kJ l).1 hn _ (rJ _))
def Ow.bJ{w:World}{O O':NP}{t:T}{x:Value}{fp:LN}(h:Ow w O t x fp)(hn:t.bJ):Ow w O' t x fp:=by
 induction h with
 |rd h=>exact .rd (h.bJ hn)
 |jn s=>exact .jn s
 |arr s l b len cap cs e ar hb hl hc hm hsz hfl hr ih=>exact .arr s l b len cap cs e ar hb hl hc hm hsz hfl fun i h=>ih i h ((T.kJ l).1 hn _ (rJ _))
 |box l b cs e ar hb hl hfl hr ih=>exact .box l b cs e ar hb hl hfl fun i h=>ih i h ((T.kJ l).1 hn _ (rJ _))
 |agg l vs ar hl hfl hr ih=>exact .agg l vs ar hl hfl fun i h=>ih i h ((T.kJ l).1 hn _ (rJ _))
 |aI l vs ar hl hfl hr ih=>exact .aI l vs ar hl hfl fun i h=>ih i h ((T.kJ l).1 hn _ (rJ _))
def Ww{j k:Nat}(h:eM d j=eM d k):j=k:=by
 unfold eM at h;split at h<;>split at h<;>omega
structure nq(w:World)(O:NP)(d k k':Nat)(rs:List (Nat×T))(xs:LV)(fs:LB)(f:LN):Prop where
 xl:xs.length=rs.length
 fl:fs.length=rs.length
 ow:∀i (h:i<rs.length),Ow w O rs[i].2 (xs.getD i undef) (fs.getD i [])/\rs[i].2.b8=true
 sub:fs.flatten.Sublist f
 le:k'=k+rs.length
 ids:∀i (h:i<rs.length),rs[i].1=eM d (k+i)
section
variable {w:World} {O:NP}
def nq.append{d k k1 k2:Nat}{wA Dn:List (Nat×T)}{Do Dp:LV}{Dq Dr:LB}{f1 f2:LN}(h1:nq w O d k k1 wA Do Dq f1)(h2:nq w O d k1 k2 Dn Dp Dr f2):
  nq w O d k k2 (wA++Dn) (Do++Dp) (Dq++Dr) (f1++f2):=by
 refine⟨by simp[h1.xl,h2.xl],by simp[h1.fl,h2.fl],fun i h=>?_,?_,by rw[h2.le,h1.le];simp;omega,fun i h=>?_⟩
 ·by_cases hi:i<wA.length
  ·rw[List.getElem_append_left hi,qA,rR (by rw[h1.xl];exact hi),qA,rR (by rw[h1.fl];exact hi)];have:=h1.ow i hi;rwa[qA,qA]at this
  ·have hlt:i-wA.length<Dn.length:=by simp at h;omega
   rw[List.getElem_append_right om,qA,rD (by rw[h1.xl];omega),qA,rD (by rw[h1.fl];omega),h1.xl,h1.fl];have:=h2.ow (i-wA.length) hlt;rwa[qA,qA]at this
 ·rw[qY];exact List.Sublist.append h1.sub h2.sub
 ·by_cases hi:i<wA.length
  ·rw[List.getElem_append_left hi];exact h1.ids i hi
  ·have hlt:i-wA.length<Dn.length:=by simp at h;omega
   rw[List.getElem_append_right om,h2.ids _ hlt,h1.le];congr 1;omega
def nq.single{k:Nat}{t:T}{x:Value}{f:LN}(h:Ow w O t x f)(bv:t.b8=true):nq w O d k (k+1) [(eM d k,t)] [x] [f] f:=by
 refine⟨rfl,rfl,fun i hi=>?_,sA,rfl,fun i hi=>?_⟩
 ·have:i=0:=sU hi;subst this;exact⟨h,bv⟩
 ·have:i=0:=sU hi;subst this;rfl
mutual
def M_(d:Nat):∀(t:T) (k:Nat) {x:Value} {f:LN},Ow w O t x f->∃(xs:LV) (fs:LB),nq w O d k (bp d k t).2.2 (bp d k t).2.1 xs fs f∧
  ∀hs':NV,(∀i (h:i<(bp d k t).2.1.length),hs' (bp d k t).2.1[i].1=some (xs.getD i undef))->Is w O hs' (bp d k t).1 x
 | .arr s l,k,x,f,h=>⟨[x],[f],nq.single h rfl,fun hs' hh=>.own (hh 0 (by simp[bp]))⟩
 | .box l,k,x,f,h=>⟨[x],[f],nq.single h rfl,fun hs' hh=>.own (hh 0 (by simp[bp]))⟩
 | .any,k,x,f,h=>⟨[],[],⟨rfl,rfl,fun i hi=>absurd hi (by simp[bp]),List.nil_sublist _,rfl,fun i hi=>absurd hi (by simp[bp])⟩,fun hs' hh=>.t (.any _)⟩
 | .v y,k,x,f,h=>⟨[],[],⟨rfl,rfl,fun i hi=>absurd hi (by simp[bp]),List.nil_sublist _,rfl,fun i hi=>absurd hi (by simp[bp])⟩,fun hs' hh=>.t (h.sZ rfl).1⟩
 | .sh s l,k,x,f,h=>⟨[],[],⟨rfl,rfl,fun i hi=>absurd hi (by simp[bp]),List.nil_sublist _,rfl,fun i hi=>absurd hi (by simp[bp])⟩,fun hs' hh=>.t (h.sZ rfl).1⟩
 | .ax l o,k,x,f,h=>⟨[],[],⟨rfl,rfl,fun i hi=>absurd hi (by simp[bp]),List.nil_sublist _,rfl,fun i hi=>absurd hi (by simp[bp])⟩,fun hs' hh=>.t (h.sZ rfl).1⟩
 | .fn g l,k,x,f,h=>⟨[],[],⟨rfl,rfl,fun i hi=>absurd hi (by simp[bp]),List.nil_sublist _,rfl,fun i hi=>absurd hi (by simp[bp])⟩,fun hs' hh=>.t (h.sZ rfl).1⟩
 | .agg l,k,x,f,h=>by
   have key:∀(vs:LV) (ar:LB),vs.length=l.length->ar.length=l.length->(∀i (h:i<l.length),Ow w O l[i] (vs.getD i undef) (ar.getD i []))->ar.flatten.Sublist f->x= .agg vs.toArray→
     ∃(xs:LV) (fs:LB),nq w O d k (bp d k (.agg l)).2.2 (bp d k (.agg l)).2.1 xs fs f∧
      ∀hs':NV,(∀i (h:i<(bp d k (.agg l)).2.1.length),hs' (bp d k (.agg l)).2.1[i].1=some (xs.getD i undef))->Is w O hs' (bp d k (.agg l)).1 x:=by
    intro vs ar hl hf hr hsub hx;obtain⟨xs,fs,hp,hi⟩:=Hr d l k hl hf hr;refine⟨xs,fs,⟨hp.xl,hp.fl,hp.ow,hp.sub.trans hsub,hp.le,hp.ids⟩,fun hs' hh=>?_⟩;obtain⟨h1,h2⟩:=hi hs' hh;rw[hx];exact .agg om h2
   cases h with
   |rd h=>cases h with|agg _ vs hl hr=>exact key vs (List.replicate l.length []) hl sA (Di hr) sA rfl
   |agg _ vs ar hl hf hr=>exact key vs ar hl hf hr (List.Sublist.refl _) rfl
 | .aI l,k,x,f,h=>by
   have key:∀(vs:LV) (ar:LB),vs.length=l.length->ar.length=l.length->(∀i (h:i<l.length),Ow w O l[i] (vs.getD i undef) (ar.getD i []))->ar.flatten.Sublist f->x= .tuple vs.toArray→
     ∃(xs:LV) (fs:LB),nq w O d k (bp d k (.aI l)).2.2 (bp d k (.aI l)).2.1 xs fs f∧
      ∀hs':NV,(∀i (h:i<(bp d k (.aI l)).2.1.length),hs' (bp d k (.aI l)).2.1[i].1=some (xs.getD i undef))->Is w O hs' (bp d k (.aI l)).1 x:=by
    intro vs ar hl hf hr hsub hx;obtain⟨xs,fs,hp,hi⟩:=Hr d l k hl hf hr;refine⟨xs,fs,⟨hp.xl,hp.fl,hp.ow,hp.sub.trans hsub,hp.le,hp.ids⟩,fun hs' hh=>?_⟩;obtain⟨h1,h2⟩:=hi hs' hh;rw[hx];exact .aI om h2
   cases h with
   |rd h=>cases h with|aI _ vs hl hr=>exact key vs (List.replicate l.length []) hl sA (Di hr) sA rfl
   |aI _ vs ar hl hf hr=>exact key vs ar hl hf hr (List.Sublist.refl _) rfl
def Hr(d:Nat):∀(l:LA) (k:Nat) {vs:LV} {ar:LB},vs.length=l.length->ar.length=l.length->(∀i (h:i<l.length),Ow w O l[i] (vs.getD i undef) (ar.getD i []))→
  ∃(xs:LV) (fs:LB),nq w O d k (f_ d k l).2.2 (f_ d k l).2.1 xs fs ar.flatten∧
   ∀hs':NV,(∀i (h:i<(f_ d k l).2.1.length),hs' (f_ d k l).2.1[i].1=some (xs.getD i undef))->(f_ d k l).1.length=l.length/\∀i (h:i<(f_ d k l).1.length),Is w O hs' (f_ d k l).1[i] (vs.getD i undef)
 |[],k,vs,ar,hv,hf,hr=>⟨[],[],⟨rfl,rfl,fun i hi=>absurd hi (by simp[f_]),List.nil_sublist _,rfl,fun i hi=>absurd hi (by simp[f_])⟩,fun hs' hh=>⟨rfl,fun i h=>absurd h (by simp[f_])⟩⟩
 |t::l,k,[],ar,hv,hf,hr=>by simp at hv
 |t::l,k,v::vs,[],hv,hf,hr=>by simp at hf
 |t::l,k,v::vs,f::ar,hv,hf,hr=>by
  obtain⟨Do,Dq,hp1,hi1⟩:=M_ d t k (by have:=hr 0 sA;simpa only[List.getElem_cons_zero,List.getD_cons_zero]using this);obtain⟨Dp,Dr,hp2,hi2⟩:=Hr d l (bp d k t).2.2 (vs:=vs) (ar:=ar) (sU hv) (by simpa using hf)
   (fun i h=>by have:=hr (i+1) (sU h);simpa only[List.getElem_cons_succ,List.getD_cons_succ]using this)
  refine⟨Do++Dp,Dq++Dr,by simpa only[f_,qZ]using hp1.append hp2,fun hs' hh=>?_⟩;simp only[f_]at hh ⊢;have g1:=hi1 hs' fun i h=>by
   have:=hh i (by simp;omega);rw[List.getElem_append_left h,qA,rR (by rw[hp1.xl];exact h)]at this;rw[this,qA]
  obtain⟨g2,g3⟩:=hi2 hs' fun i h=>by
   have:=hh ((bp d k t).2.1.length+i) (by simp;omega);rw[List.getElem_append_right om,qA,rD (by rw[hp1.xl];omega),hp1.xl]at this;simp only[Nat.add_sub_cancel_left]at this;rw[this,qA]
  refine⟨by simp[g2],fun i h=>?_⟩;cases i with
  |zero=>simpa only[List.getElem_cons_zero,List.getD_cons_zero]using g1
  |succ i=>have:=g3 i (sU h);simpa only[List.getElem_cons_succ,List.getD_cons_succ]using this
end
def Hs{f:Nat->aE}:∀{rs:List (Nat×T)} {r:Nat},(∃i,∃h:i<rs.length,rs[i].1=r/\lQ f rs r= .live rs[i].2 [])∨((∀i (h:i<rs.length),rs[i].1≠r)/\lQ f rs r=f r)
 |[],r=>.inr ⟨fun i h=>absurd h sA,rfl⟩
 |(j,t)::rs,r=>by
  by_cases h:r=j
  ·subst h;exact .inl ⟨0,sA,rfl,by simp[lQ,aT]⟩
  ·rcases Hs (f:=f) (rs:=rs) (r:=r)with⟨i,hi,h1,h2⟩|⟨h1,h2⟩
   ·exact .inl ⟨i+1,sU hi,by simpa using h1,by simp only[lQ,aU _ _ _ _ h,List.getElem_cons_succ];exact h2⟩
   ·refine .inr ⟨fun i hi=>?_,by simp only[lQ,aU _ _ _ _ h];exact h2⟩;cases i with
    |zero=>simpa using Ne.symm h
    |succ i=>simpa using h1 i (sU hi)
def wB{f:Nat->aE}:∀{ai:LN} {ts:LA} {r:Nat},ai.length=ts.length->(∃i,∃h:i<ai.length,∃h':i<ts.length,ai[i]=r/\gp f ai ts r=rootOf ts[i])∨((∀i (h:i<ai.length),ai[i]≠r)/\gp f ai ts r=f r)
 |[],[],r,_=>.inr ⟨fun i h=>absurd h sA,rfl⟩
 |[],_::_,r,h=>by simp at h
 |_::_,[],r,h=>by simp at h
 |q::ai,t::ts,r,hl=>by
  by_cases h:r=q
  ·subst h;exact .inl ⟨0,sA,sA,rfl,by simp[gp,aT]⟩
  ·rcases wB (f:=f) (ai:=ai) (ts:=ts) (r:=r) (sU hl)with⟨i,hi,hi',h1,h2⟩|⟨h1,h2⟩
   ·exact .inl ⟨i+1,sU hi,by simpa using hi',sU h1,by simp only[gp,aU _ _ _ _ h,List.getElem_cons_succ];exact h2⟩
   ·refine .inr ⟨fun i hi=>?_,by simp only[gp,aU _ _ _ _ h];exact h2⟩;cases i with
    |zero=>simpa using Ne.symm h
    |succ i=>simpa using h1 i (sU hi)
def Na{S:St}:∀{rs:List (Nat×T)},te S rs->∀i (h:i<rs.length),S.roots rs[i].1= .free
 |[],_,i,h=>absurd h sA
 |(j,t)::rs,hf,0,h=>hf.1
 |(j,t)::rs,hf,i+1,h=>Na (rs:=rs) hf.2 i (sU h)
end
section
variable {P:Program} {X:NP} {w0:World} {O0:Fr} {n:Nat} {S:St} {a:Act} {w:World} {hs:NV} {fp:NL}
def gB(S:St):LN->LA->Prop
 |[],[]=>True
 |q::qs,t::ts=>S.roots q= .live t []/\gB S qs ts
 |_,_=>False
def uC:∀{qs:LN} {ts:LA},gB S qs ts->qs.length=ts.length/\∀i (h:i<qs.length) (h':i<ts.length),S.roots qs[i]= .live ts[i] []
 |[],[],_=>⟨rfl,fun i h=>absurd h sA⟩
 |[],_::_,h=>by simp[gB]at h
 |_::_,[],h=>by simp[gB]at h
 |q::qs,t::ts,h=>by
  obtain⟨h1,h2⟩:=uC h.2;refine⟨by simp[h1],fun i hi hi'=>?_⟩;cases i with
  |zero=>exact h.1
  |succ i=>exact h2 i (sU hi) (by simpa using hi')
def yj{α:Type}:∀{ks:LN} {vs:List α},ks.length=vs.length->ks.Nodup->∀i (h:i<ks.length) (h':i<vs.length),(ks.zip vs).lookup ks[i]=some vs[i]
 |[],_,_,_,i,h,_=>absurd h sA
 |_::_,[],h,_,_,_,_=>by simp at h
 |k::ks,v::vs,hl,hn,i,h,h'=>by
  cases i with
  |zero=>simp
  |succ i=>
   have hne:(ks[i]'(sU h)==k)=false:=by
    have:=(qX.1 hn).1;simp only[beq_eq_false_iff_ne];rintro e;exact this (e▸rJ _)
   simp only[List.getElem_cons_succ,List.zip_cons_cons,List.lookup_cons,hne];exact yj (sU hl) (qX.1 hn).2 i _ _
def wD{α:Type}:∀{ks:LN} {vs:List α} {r:Nat},r∉ks->(ks.zip vs).lookup r=none
 |[],_,_,_=>sA
 |_::_,[],_,_=>sA
 |k::ks,v::vs,r,h=>by
  have h1:(r==k)=false:=by simpa using fun e=>h (by simp[e])
  simp only[List.zip_cons_cons,List.lookup_cons,h1];exact wD fun hm=>h (rH _ hm)
def Good.Nb(g:Good X w0 O0 n S a w hs fp){ai:LN}(dL:ai.Nodup){aA:LA}(hsrc:gB S ai aH)(hrl:aA.length=aH.length){res:T}{fr:LN}{al:NL}{Xc:NP}{hsc:NV}{bS:NL}(iV:∀i q,ai[i]? =some q->hsc (1000000000+i)=hs q)(ir:∀j b,b∈bS j->∃q,q∈ai/\b∈fp q)(out:Out Xc w hsc bS v res aA fr al w'){ON:NP}(Dt:∀b,ON b↔X b∨(∃q,q∉ai/\b∈fp q)∨(∃j,b∈al j)∨b∈fr)(dj:∀i t,aA[i]? =some t->∃x,hsc (1000000000+i)=some x/\Ow w' ON t x (al (1000000000+i))/\(t.b8=true∨t= .any)){dd:Nat}{rs:List (Nat×T)}{xs:LV}{fs:LB}(hp:nq w' ON dd 0 rs.length rs xs fs fr)(hfree:te S rs)(hsmall:∀i (h:i<rs.length),rs[i].1<1000000000):
  ∃hs' dQ,Good X w0 O0 n {env:=S.env,roots:=lQ (gp S.roots ai aA) rs} a w' hs' dQ/\(∀i (h:i<rs.length),hs' rs[i].1=some (xs.getD i Go.undef))/\(∀b,¬ON b->¬Ob X dQ b):=by
 obtain⟨dy,px⟩:=uC hsrc;have Du:ai.length=aA.length:=om;have hframe:∀b,b<w.heap.size->(∀q∈ai,b∉fp q)->w'.heap[b]? =w.heap[b]? :=fun b hb h=>out.frame b hb fun j hj=>by
  obtain⟨q,hq,py⟩:=ir j b hj;exact h q hq py
 have hk:jK (fun b=>¬Ob X fp b) w w':=fun b cs e fz hn hb=>by
  rw[hframe b (qF.1 hb).1 fun q _ hq=>hn (.inr ⟨q,hq⟩)];exact hb
 have mH:∀r,r∉ai->∀b∈fp r,w'.heap[b]? =w.heap[b]? :=fun r hr b hb=>hframe b (g.lt hb) fun q hq py=>hr (by have:=g.cj r q b hb py;rw[this];exact hq);have hold:∀j b,b∈al j->(∃q,q∈ai/\b∈fp q)∨w.heap.size<=b:=fun j b hb=>(out.old j b hb).imp (fun⟨j,hj⟩=>ir j b hj) id;have Dv:∀b,b∈fr->(∃q,q∈ai/\b∈fp q)∨w.heap.size<=b:=fun b hb=>(out.M3 b hb).imp (fun⟨j,hj⟩=>ir j b hj) id;have wE:(rs.map (·.1)).Nodup:=by
  refine List.pairwise_iff_getElem.2 fun i j hi hj hij=>?_;rw[rQ,rQ,hp.ids i (sU hi),hp.ids j (sU hj)];intro e;have:=Ww e;omega
 have bp7:∀i (h:i<rs.length),rs[i].1∈rs.map (·.1):=fun i h=>qN.2 ⟨rs[i],rJ _,rfl⟩;have Nc:∀r∈rs.map (·.1),S.roots r= .free:=fun r hr=>by
  obtain⟨p,Ar,rfl⟩:=qN.1 hr;obtain⟨i,hi,rfl⟩:=rE.1 Ar;exact Na hfree i hi
 have Wx:∀q∈ai,∃t,S.roots q= .live t []:=fun q hq=>by
  obtain⟨i,hi,rfl⟩:=rE.1 hq;exact⟨_,px i hi om⟩
 have Ht:∀q∈ai,q∉rs.map (·.1):=fun q hq hm=>by
  obtain⟨t,ht⟩:=Wx q hq;rw[Nc q hm]at ht;cases ht
 let hs':NV:=fun r=>match((rs.map (·.1)).zip xs).lookup r with|some x=>some x|none=>hs r
 let dQ:NL:=fun r=>match((rs.map (·.1)).zip fs).lookup r with|some f=>f|none=>match(ai.zip (List.range ai.length)).lookup r with|some i=>al (1000000000+i)|none=>fp r
 have As:∀i (h:i<rs.length),hs' rs[i].1=some (xs.getD i Go.undef):=fun i h=>by
  have:=yj (ks:=rs.map (·.1)) (vs:=xs) (by simp[hp.xl]) wE i (sU h) (by rw[hp.xl];exact h);simp only[rQ]at this;simp only[hs',this];rw[qA,qB (by rw[hp.xl];exact h)];rfl
 have At:∀r,r∉rs.map (·.1)->hs' r=hs r:=fun r h=>by simp only[hs',wD h]
 have Hu:∀i (h:i<rs.length),dQ rs[i].1=fs.getD i []:=fun i h=>by
  have:=yj (ks:=rs.map (·.1)) (vs:=fs) (by simp[hp.fl]) wE i (sU h) (by rw[hp.fl];exact h);simp only[rQ]at this;simp only[dQ,this];rw[qA,qB (by rw[hp.fl];exact h)];rfl
 have pz:∀i (h:i<ai.length),dQ ai[i]=al (1000000000+i):=fun i h=>by
  have h1:=wD (vs:=fs) (Ht _ (rJ h));have h2:=yj (ks:=ai) (vs:=List.range ai.length) sA dL i h (sU h);simp only[List.getElem_range]at h2;simp only[dQ,h1,h2]
 have pA:∀r,r∉rs.map (·.1)->r∉ai->dQ r=fp r:=fun r h1 h2=>by simp only[dQ,wD h1,wD h2]
 have hh:∀r y,hs r=some y->hs' r=some y:=fun r y h=>by
  by_cases hm:r∈rs.map (·.1)
  ·have:=g.root r;rw[Nc r hm]at this;rw[this.1]at h;cases h
  ·rw[At r hm];exact h
 have kinds:∀r,(∃i,∃h:i<rs.length,r=rs[i].1)∨(∃i,∃h:i<ai.length,r=ai[i])∨(r∉rs.map (·.1)/\r∉ai):=fun r=>by
  by_cases h1:r∈rs.map (·.1)
  ·obtain⟨p,Ar,rfl⟩:=qN.1 h1;obtain⟨i,hi,rfl⟩:=rE.1 Ar;exact .inl ⟨i,hi,rfl⟩
  ·by_cases h2:r∈ai
   ·obtain⟨i,hi,rfl⟩:=rE.1 h2;exact .inr (.inl ⟨i,hi,rfl⟩)
   ·exact .inr (.inr ⟨h1,h2⟩)
 have jr:∀r b,b∈dQ r->(∃i,∃h:i<rs.length,r=rs[i].1/\b∈fs.getD i []/\b∈fr)∨(∃i,∃h:i<ai.length,r=ai[i]/\b∈al (1000000000+i))∨(r∉rs.map (·.1)/\r∉ai/\b∈fp r):=fun r b hb=>by
  rcases kinds r with⟨i,h,rfl⟩|⟨i,h,rfl⟩|⟨h1,h2⟩
  ·rw[Hu i h]at hb;exact .inl ⟨i,h,rfl,hb,hp.sub.subset (jL hb)⟩
  ·rw[pz i h]at hb;exact .inr (.inl ⟨i,h,rfl,hb⟩)
  ·rw[pA r h1 h2]at hb;exact .inr (.inr ⟨h1,h2,hb⟩)
 have Au:∀b,¬ON b->¬Ob X dQ b:=by
  rintro b h1 (h|⟨r,hr⟩)
  ·exact h1 ((Dt b).2 (.inl h))
  ·rcases jr r b hr with⟨i,h,rfl,_,h2⟩|⟨i,h,rfl,h2⟩|⟨h2,h3,h4⟩
   ·exact h1 ((Dt b).2 (.inr (.inr (.inr h2))))
   ·exact h1 ((Dt b).2 (.inr (.inr (.inl ⟨_,h2⟩))))
   ·exact h1 ((Dt b).2 (.inr (.inl ⟨r,h3,h4⟩)))
 have hO:∀b,¬Ob X fp b->b<w.heap.size->¬Ob X dQ b:=by
  rintro b h1 hlt (h|⟨r,hr⟩)
  ·exact h1 (.inl h)
  ·rcases jr r b hr with⟨i,h,rfl,_,h2⟩|⟨i,h,rfl,h2⟩|⟨h2,h3,h4⟩
   ·rcases Dv b h2 with⟨q,_,hq⟩|h2
    ·exact h1 (.inr ⟨q,hq⟩)
    ·omega
   ·rcases hold _ b h2 with⟨q,_,hq⟩|h2
    ·exact h1 (.inr ⟨q,hq⟩)
    ·omega
   ·exact h1 (.inr ⟨r,h4⟩)
 have apart:∀r b,r∉ai->b∈fp r->(∀j,b∉al j)/\b∉fr:=fun r b hr hb=>by
  refine⟨fun j hj=>?_,fun hf=>?_⟩
  ·rcases hold j b hj with⟨q,hq,py⟩|h
   ·have:=g.cj r q b hb py;exact hr (this▸hq)
   ·have:=g.lt hb;omega
  ·rcases Dv b hf with⟨q,hq,py⟩|h
   ·have:=g.cj r q b hb py;exact hr (this▸hq)
   ·have:=g.lt hb;omega
 have Nf:=hp.sub.nodup out.M2;refine⟨hs',dQ,⟨g.size,g.defers.keep fun D _ hD=>by rw[hframe D (qF.1 hD).1 fun q _ hq=>(g.zT hD q hq).elim];exact hD,fun i=>(g.env i).mono hk hO hh,fun r=>?_,fun r r' b hr hr'=>?_,fun r=>?_,fun r b hb=>?_,fun b hX=>Nat.lt_of_lt_of_le (g.de b hX) out.size,g.fA,fun r b hb=>?_,?_,fun r t lk hr=>?_,fun r y hr=>?_,g.small,fun r y b9 hr=>?_⟩,As,Au⟩
 ·show iG _ _ _ (lQ (gp S.roots ai aA) rs r) _ _;rcases Hs (f:=gp S.roots ai aA) (rs:=rs) (r:=r)with⟨i,hi,rfl,h2⟩|⟨h1,h2⟩
  ·rw[h2,As i hi,Hu i hi];exact⟨_,rfl,(hp.ow i hi).1.mono (fun _ _ _ _ _ h=>h) (fun b h _=>Au b h) (fun _ _ _ _ _ h=>h),fun p hp=>by simp at hp⟩
  ·have fE:r∉rs.map (·.1):=fun hm=>by
    obtain⟨p,Ar,rfl⟩:=qN.1 hm;obtain⟨i,hi,rfl⟩:=rE.1 Ar;exact h1 i hi rfl
   rw[h2];rcases wB (f:=S.roots) (r:=r) Du with⟨i,hi,hi',rfl,h4⟩|⟨h3,h4⟩
   ·rw[h4,At _ fE,pz i hi];obtain⟨x,hx,ho,bv⟩:=dj i _ (qB hi');rw[iV i _ (qB hi)]at hx;rcases bv with bv|bv
    case inr=>
     rw[bv]at ho ⊢;show al (1000000000+i)=[];generalize al (1000000000+i)=f at ho;cases ho;rfl
    rw[yg bv];exact⟨x,hx,ho.mono (fun _ _ _ _ _ h=>h) (fun b h _=>Au b h) (fun _ _ _ _ _ h=>h),fun p hp=>by simp at hp⟩
   ·have cP:r∉ai:=fun hm=>by
     obtain⟨i,hi,rfl⟩:=rE.1 hm;exact h3 i hi rfl
    rw[h4,pA r fE cP];exact g.rl r hk hO hh (At r fE) (mH r cP)
 ·rcases jr r b hr with⟨i,h,rfl,h1,h2⟩|⟨i,h,rfl,h2⟩|⟨h1,h2,h3⟩<;>rcases jr r' b hr' with⟨j,h',rfl,cC,bi⟩|⟨j,h',rfl,bi⟩|⟨cC,bi,kG⟩
  ·by_cases hij:i=j
   ·subst hij;rfl
   ·exfalso;have hi':i<fs.length:=by rw[hp.fl];exact h
    have hj':j<fs.length:=by rw[hp.fl];exact h'
    have:=C1 Nf h1;refine this (rY.2 ⟨fs[j],?_,?_⟩)
    ·have:(fs.set i [])[j]? =some fs[j]:=by rw[List.getElem?_set_ne hij];exact qB hj'
     exact qE this
    ·rwa[qA,qB hj']at cC
  ·exact(out.Hj _ b bi h2).elim
  ·exact((apart r' b bi kG).2 h2).elim
  ·exact(out.Hj _ b h2 bi).elim
  ·have:=out.cj _ _ b h2 bi;have:i=j:=om;subst this;rfl
  ·exact((apart r' b bi kG).1 _ h2).elim
  ·exact((apart r b h2 h3).2 bi).elim
  ·exact((apart r b h2 h3).1 _ bi).elim
  ·exact g.cj r r' b h3 kG
 ·rcases kinds r with⟨i,h,rfl⟩|⟨i,h,rfl⟩|⟨h1,h2⟩
  ·rw[Hu i h];exact C2 Nf
  ·rw[pz i h];exact out.nodup _
  ·rw[pA r h1 h2];exact g.nodup r
 ·have key:(∃q,q∈ai/\b∈fp q)∨w.heap.size<=b->¬X b:=by
   rintro(⟨q,_,hq⟩|h)
   ·exact g.cV q b hq
   ·intro hX;have:=g.de b hX;omega
  rcases jr r b hb with⟨i,h,rfl,_,h2⟩|⟨i,h,rfl,h2⟩|⟨h2,h3,h4⟩
  ·exact key (Dv b h2)
  ·exact key (hold _ b h2)
  ·exact g.cV r b h4
 ·have key:(∃q,q∈ai/\b∈fp q)∨w.heap.size<=b->O0 b∨w0.heap.size<=b:=by
   rintro(⟨q,_,hq⟩|h)
   ·exact g.mine q b hq
   ·right;have:=g.aZ.size;omega
  rcases jr r b hb with⟨i,h,rfl,_,h2⟩|⟨i,h,rfl,h2⟩|⟨h2,h3,h4⟩
  ·exact key (Dv b h2)
  ·exact key (hold _ b h2)
  ·exact g.mine r b h4
 ·refine⟨out.os.trans g.aZ.os,out.tape.trans g.aZ.tape,out.output.trans g.aZ.output,rA g.aZ.size out.size,fun b hb hn=>?_⟩;rw[hframe b (Nat.lt_of_lt_of_le hb g.aZ.size) fun q _ hq=>?_]
  ·exact g.aZ.block b hb hn
  ·rcases g.mine q b hq with h|h
   ·exact hn h
   ·omega
 ·have hr:lQ (gp S.roots ai aA) rs r= .live t lk:=hr;rcases Hs (f:=gp S.roots ai aA) (rs:=rs) (r:=r)with⟨i,hi,rfl,h2⟩|⟨h1,h2⟩<;>rw[h2]at hr
  ·cases hr;exact(hp.ow i hi).2
  ·rcases wB (f:=S.roots) (r:=r) Du with⟨i,hi,hi',rfl,h4⟩|⟨h3,h4⟩<;>rw[h4]at hr
   ·obtain⟨_,_,_,bv⟩:=dj i _ (qB hi');rcases bv with bv|bv
    ·rw[yg bv]at hr;cases hr;exact bv
    ·rw[bv]at hr;cases hr
   ·exact g.b8 r t lk hr
 ·rcases kinds r with⟨i,h,rfl⟩|h
  ·rw[As i h,Option.some.injEq]at hr;rw[←hr];have h1:=hp.ow i h;refine h1.1.yb ?_;have:=h1.2;cases pB:rs[i].2<;>rw[pB]at this<;>simp[T.b8,T.cell]at this ⊢
  ·have fE:r∉rs.map (·.1):=by
    rcases h with⟨i,h,rfl⟩|⟨h,_⟩
    ·exact Ht _ (rJ _)
    ·exact h
   rw[At r fE]at hr;exact g.aV r y hr
 ·rcases kinds r with⟨i,h,rfl⟩|h
  ·have:=hsmall i h;omega
  ·have fE:r∉rs.map (·.1):=by
    rcases h with⟨i,h,rfl⟩|⟨h,_⟩
    ·exact Ht _ (rJ _)
    ·exact h
   rw[At r fE]at hr;exact g.ax r y b9 hr
def gY:A->Option (Nat×List A)
 | .fn f cap=>some (f,cap)
 | .t (.fn f cap)=>some (f,cap.map A.t)
 |_=>none
def Ng{O:NP}{x:A}{f:Nat}{cap:List A}(hx:gY x=some (f,cap))(h:Is w O hs x v):Is w O hs (.fn f cap) v:=by
 unfold gY at hx;split at hx
 ·cases hx;exact h
 ·cases hx;cases h with
  |t h=>
   cases h with
   |fn _ _ _ hl hr=>exact .fn (sU hl) fun i hi=>by rw[rQ];exact .t (hr i (sU hi))
 ·cases hx
def aQ.Wy{gg:T}(Ho:gg= .any∨S.env 1000000= .t gg){fo:Operand}{as:Array Operand}{ats:Array TypeId}{K:SP}(ho:o.op= .call {callee:=.value fo,args:=as,argTypes:=ats})(hd:∀k,o.dst=some k->k<n){cap:List A}(bj:gY (S.ev fo)=some (f,cap))(b_:∀args w,(callFunc f args).run P w= .ok (.enter f args) w){Q:LA->T->Prop}(hF:Am P gg f aH args Q)(ai au:LN)(dL:ai.Nodup)(hsrc:gB S ai aH)(dk:∀q∈au,q∉ai)(hargs:gn S ai au args (as.toList.map S.ev++cap))(hk:∀aA res,Q aA res->(au=[]∨(res.bJ/\T.df aA))/\kI S o.dst ai aA res K):aQ P n o S K:=by
 intro X w0 O0 a w hs fp g QQ;obtain⟨dy,px⟩:=uC hsrc;have hf:=Ng bj (g.ev fo);obtain⟨caps,Wz,br,eZ⟩:∃caps:LV,a.eval fo= .func (.func f) #[] caps.toArray/\caps.length=cap.length/\∀i (h:i<cap.length),Is w (Ob X fp) hs cap[i] (caps.getD i Go.undef):=by
  generalize a.eval fo=vf at hf;cases hf with|fn hl hr=>exact⟨_,rfl,hl,hr⟩
 let vals:LV:=as.toList.map a.eval++caps
 have WA:∀i (h:i<(as.toList.map S.ev++cap).length),Is w (Ob X fp) hs (as.toList.map S.ev++cap)[i] (vals.getD i Go.undef):=by
  intro i h;by_cases hi:i<as.toList.length
  ·rw[List.getElem_append_left (sU hi),qA,rR (sU hi),qU,qB hi];simp only[rQ,Option.map_some,Option.getD_some];exact g.ev _
  ·have hi2:i-as.toList.length<cap.length:=by simp at h hi ⊢;omega
   rw[List.getElem_append_right (sU hi),qA,rD (sU hi)];have:=eZ (i-as.toList.length) hi2;simpa[qA]using this
 have hrun:(execOp a.eval o).run P w= .ok (.enter f vals.toArray) w:=by
  have e:(as.map a.eval++caps.toArray)=vals.toArray:=by
   apply Array.ext';simp[vals]
  simp only[execOp,ho,resolve,Wz,Deferred.ofValue,Sem.run_bind,Sem.run_pure,Result.andThen_ok,invoke];rw[show(#[]++as.map a.eval:Array Value)=as.map a.eval by simp,e];exact b_ _ w
 let Xc:NP:=fun b=>X b∨∃q,q∉ai/\q∉au/\b∈fp q
 let hsc:NV:=fun r=>if 1000000000<=r then(ai[r-1000000000]?).bind hs else none
 let bS:NL:=fun r=>if 1000000000<=r then((ai[r-1000000000]?).map fp).getD []else []
 have iV:∀i q,ai[i]? =some q->hsc (1000000000+i)=hs q:=fun i q h=>by
  simp only[hsc];rw[if_pos om,Nat.add_sub_cancel_left,h];rfl
 have Hv:∀i q,ai[i]? =some q->bS (1000000000+i)=fp q:=fun i q h=>by
  simp only[bS];rw[if_pos om,Nat.add_sub_cancel_left,h];rfl
 have wF:∀j b,b∈bS j->∃i q,ai[i]? =some q/\j=1000000000+i/\b∈fp q:=fun j b hb=>by
  simp only[bS]at hb;split at hb
  ·cases hq:ai[j-1000000000]? with
   |none=>rw[hq]at hb;simp at hb
   |some q=>rw[hq]at hb;exact⟨j-1000000000,q,hq,om,sU hb⟩
  ·simp at hb
 have ir:∀j b,b∈bS j->∃q,q∈ai/\b∈fp q:=fun j b hb=>by
  obtain⟨i,q,h1,_,h2⟩:=wF j b hb;exact⟨q,qE h1,h2⟩
 have Hw:∀b,Ob Xc bS b->Ob X fp b:=by
  rintro b ((h|⟨q,_,_,h⟩)|⟨j,hj⟩)
  ·exact .inl h
  ·exact .inr ⟨q,h⟩
  ·obtain⟨q,_,h⟩:=ir j b hj;exact .inr ⟨q,h⟩
 have yl:∀b,¬Ob X fp b->b<w.heap.size->¬Ob Xc bS b:=fun b h _ h2=>h (Hw b h2);have Hy:∀q∈au,∀b∈fp q,¬Ob Xc bS b:=by
  rintro q hq b hb ((h|⟨q',h1,h2,h3⟩)|⟨j,hj⟩)
  ·exact g.cV q b hb h
  ·have:=g.cj q q' b hb h3;exact h2 (this▸hq)
  ·obtain⟨q',h1,h2⟩:=ir j b hj;have:=g.cj q q' b hb h2;exact dk q hq (this▸h1)
 have hm:Mem Xc w aH hsc bS:=by
  refine⟨fun i t hi=>?_,fun r hr=>?_,fun r r' b h h'=>?_,fun r=>?_,fun r b h=>?_,fun b h=>?_,fun r y h=>?_⟩
  ·obtain⟨bq,rfl⟩:=qK.1 hi;have hq:=qB (l:=ai) (i:=i) om;have dj:=g.root ai[i];have kl:=px i om bq;rw[kl]at dj;obtain⟨x,hx,ho',_⟩:=dj;refine⟨x,by rw[iV i _ hq];exact hx,?_,g.b8 _ _ _ kl⟩;rw[Hv i _ hq];exact ho'.mono (fun _ _ _ _ _ h=>h) yl (fun _ _ _ _ _ h=>h)
  ·simp only[hsc,bS];by_cases h1:1000000000<=r
   ·rw[if_pos h1,if_pos h1,qP om];exact⟨rfl,rfl⟩
   ·rw[if_neg h1,if_neg h1];exact⟨rfl,rfl⟩
  ·obtain⟨i,q,h1,rfl,h2⟩:=wF r b h;obtain⟨i',q',cC,rfl,bi⟩:=wF r' b h';have:=g.cj q q' b h2 bi;subst this;obtain⟨hi1,e1⟩:=qK.1 h1;obtain⟨hi2,e2⟩:=qK.1 cC;rcases Nat.lt_trichotomy i i' with h|h|h
   ·exact(List.pairwise_iff_getElem.1 dL i i' hi1 hi2 h (e1.trans e2.symm)).elim
   ·rw[h]
   ·exact(List.pairwise_iff_getElem.1 dL i' i hi2 hi1 h (e2.trans e1.symm)).elim
  ·simp only[bS];split
   ·cases ai[r-1000000000]? with
    |none=>simp
    |some q=>simpa using g.nodup q
   ·simp
  ·rintro(hX|⟨q',h1,_,h3⟩)
   ·obtain⟨q,_,h2⟩:=ir r b h;exact g.cV q b h2 hX
   ·obtain⟨q,hq,h2⟩:=ir r b h;have:=g.cj q q' b h2 h3;exact h1 (this▸hq)
  ·rcases h with h|⟨q,_,_,h⟩
   ·exact g.de b h
   ·exact g.lt h
  ·simp only[hsc]at h;split at h
   ·cases hq:ai[r-1000000000]? with
    |none=>rw[hq]at h;cases h
    |some q=>rw[hq]at h;exact g.aV q y h
   ·cases h
 obtain⟨lh,hai⟩:=Aq (hs':=hsc) g yl Hy iV args _ hargs WA;have WB:Rd w (Ob Xc bS) gg Go.undef:=by
  rcases Ho with rfl|h
  ·exact .any _
  ·have h1:=g.env 1000000;rw[h,show a.tmps.getD 1000000 Go.undef=Go.undef from by
    rw[qC,Array.getElem?_eq_none (by rw[g.size];have:=g.small;omega)];rfl]at h1
   cases h1 with|t h2=>exact h2.mono (fun _ _ _ _ _ h=>h) yl
 have WC:=hF Xc w vals hsc bS hm (by simp only[vals,qD,qJ]at lh ⊢;rw[br];exact lh.symm) hai WB;unfold Oper.wp;rw[hrun,Oper.upon_enter];refine WC.mono ?_;rintro e w' ⟨v,res,aA,fr,al,rfl,hQ,hrl,out⟩;obtain⟨be,hK⟩:=hk aA res hQ;let ON:NP:=fun b=>X b∨(∃q,q∉ai/\b∈fp q)∨(∃j,b∈al j)∨b∈fr
 have conv:∀(t:T) (x:Value) (ff:LN),(au=[]∨t.bJ)->Ow w' (uA Xc al fr) t x ff->Ow w' ON t x ff:=by
  intro t x ff h ho';rcases h with h|h
  ·refine ho'.mono (fun _ _ _ _ _ h=>h) (fun b h1 _ h2=>h1 ?_) (fun _ _ _ _ _ h=>h);rcases h2 with h2|⟨q,h2,h3⟩|⟨j,h2⟩|h2
   ·exact .inl (.inl (.inl h2))
   ·exact .inl (.inl (.inr ⟨q,h2,by rw[h];simp,h3⟩))
   ·exact .inl (.inr ⟨j,h2⟩)
   ·exact .inr h2
  ·exact ho'.bJ h
 have dj:∀i t,aA[i]? =some t->∃x,hsc (1000000000+i)=some x/\Ow w' ON t x (al (1000000000+i))/\(t.b8=true∨t= .any):=fun i t hi=>by
  obtain⟨x,hx,ho',bv⟩:=out.root i t hi;exact⟨x,hx,conv t x _ (be.imp id fun h=>(T.kJ aA).1 h.2 _ (qE hi)) ho',bv⟩
 have hres:=conv res v fr (be.imp id fun h=>h.1) out.res
 cases aD:o.dst with
 |none=>
  rw[aD]at hK;obtain⟨hs',dQ,g',_,_⟩:=g.Nb dL hsrc hrl iV ir out (ON:=ON) (fun b=>Iff.rfl) dj (dd:=0) (rs:=[]) (xs:=[]) (fs:=[]) ⟨rfl,rfl,fun i h=>absurd h sA,List.nil_sublist _,rfl,fun i h=>absurd h sA⟩ trivial (fun i h=>absurd h sA);exact⟨_,hs',dQ,g',hK⟩
 |some d=>
  rw[aD]at hK;obtain⟨hfree,bp8,hK⟩:=hK;have hdn: @LT.lt Nat instLTNat d n:=hd d aD;have hn5:n<=100000:=g.small;obtain⟨xs,fs,hp,hi⟩:=M_ d res 0 hres;have js:(bp d 0 res).2.2=(bp d 0 res).2.1.length:=by rw[hp.le];omega
  obtain⟨hs',dQ,g',hA,Au⟩:=g.Nb dL hsrc hrl iV ir out (ON:=ON) (fun b=>Iff.rfl) dj (dd:=d) (rs:=(bp d 0 res).2.1) (xs:=xs) (fs:=fs) ⟨hp.xl,hp.fl,hp.ow,hp.sub,by omega,hp.ids⟩ hfree (fun i h=>by
   rw[hp.ids i h];unfold eM;split
   ·omega
   ·have:i<1000:=(by omega);have:1000*(d+1)<=1000*100000:=Nat.mul_le_mul_left _ (by omega);omega)
  have WD:=(hi hs' hA).mono (O':=Ob X dQ) (fun _ _ _ _ _ h=>h) (fun b h _=>Au b h) (fun _ _ h=>h);exact⟨_,hs',dQ,g'.put hdn WD,hK⟩
def aQ.call{o:Oper}{fo:Operand}{as:Array Operand}{ats:Array TypeId}{K:SP}(ho:o.op= .call {callee:=.value fo,args:=as,argTypes:=ats})(hd:∀k,o.dst=some k->k<n)
  {f:FuncId} {cap:List A} (bj:gY (S.ev fo)=some (f,cap)) (b_:∀args w,(callFunc f args).run P w= .ok (.enter f args) w) {aH:LA} {args:List A} {Q:LA->T->Prop} (hF:cF P f aH args Q)
  (ai au:LN) (dL:ai.Nodup) (hsrc:gB S ai aH) (dk:∀q∈au,q∉ai) (hargs:gn S ai au args (as.toList.map S.ev++cap))
  (hk:∀aA res,Q aA res->(au=[]∨(res.bJ/\T.df aA))/\kI S o.dst ai aA res K):aQ P n o S K:=
 aQ.Wy (.inl rfl) ho hd bj b_ (hF.Wo .any) ai au dL hsrc dk hargs hk
end
def Dw:LA->Option LI
 |[]=>some []
 | .v (.int .i64 n)::l=>(Dw l).map (n:: ·)
 |_=>none
def Dx:List A->Option LI
 |[]=>some []
 | .t (.v (.int .i64 n))::l=>(Dx l).map (n:: ·)
 |_=>none
def WE(a:A):Option LI:=
 match a with
 | .t (.agg l)=>Dw l
 | .agg l=>Dx l
 |_=>none
section
variable {P:Program} {w:World} {O:NP} {hs:NV}
variable {n:Nat} {S:St} {K:SP}
def ym(ne:Bool)(x:A)(S:St)(K:A->Prop):Prop:=
 match x with
 | .t (.v (.slice none 0 0))=>K (.v (.bool (!ne)))
 | .t (.sh _ l)=>∀b:Bool,(b=true->l=[])->K (.v (.bool (if ne then !b else b)))
 | .own r=>(match S.roots r with| .live (.arr _ l) _=>∀b:Bool,(b=true->l=[])->K (.v (.bool (if ne then !b else b)))|_=>False)
 |_=>False
end
section
variable {P:Program} {n:Nat} {S:St} {K:SP}
def WF(ht:P.underlying t=some (.slice e))(ne:Bool)(v:Option Addr)(l c:Nat)(w:World):
  (binOp (if ne then .neq else .eql) t (.slice v l c) (.slice none 0 0)).run P w= .ok (.bool (if ne then !v.isNone else v.isNone)) w:=by
 have:=run_equal_slice_nil (P:=P) w t e v l c ht;cases ne<;>simp[binOp,this]
def Nh{ne:Bool}{u:TypeId}(ht:(io P t).isSome=true)(ho:o.op= .binOp (if ne then .neq else .eql) t x (.const (.slice none 0 0)) u)(aD:o.dst=some d)(hd:d<n)(k:ym ne (S.ev x) S (dI S d K)):aQ P n o S K:=by
 obtain⟨e,he⟩:=Option.isSome_iff_exists.1 ht;have hu:=uo he;have run:∀(a:Act) (w:World) v l c,a.eval x= .slice v l c->(execOp a.eval o).run P w= .ok (.value (.bool (if ne then !v.isNone else v.isNone))) w:=fun a w v l c hv=>by
  have h2:a.eval (.const (.slice none 0 0))= .slice none 0 0:=rfl;have h1:=WF (P:=P) hu ne v l c w;cases ne<;>simp at h1<;>simp[execOp,ho,hv,h2,eqGuard,h1]
 have go:∀(l:LA),(∀b:Bool,(b=true->l=[])->dI S d K (.v (.bool (if ne then !b else b))))→
   (∀X w0 O0 a w hs fp,Good X w0 O0 n S a w hs fp->(a.eval x= .slice none 0 0/\l=[])∨∃ad m c,a.eval x= .slice (some ad) m c)->aQ P n o S K:=by
  intro l hall Ad X w0 O0 a w hs fp g Q;unfold Oper.wp;rcases Ad X w0 O0 a w hs fp g with⟨hv,hl⟩|⟨ad,m,c,hv⟩
  ·rw[run a w _ _ _ hv,Oper.upon_value,aD];have:=hall true (fun _=>hl);exact⟨_,hs,fp,g.put hd (.t (.v _)),this⟩
  ·rw[run a w _ _ _ hv,Oper.upon_value,aD];have:=hall false (fun h=>by cases h);exact⟨_,hs,fp,g.put hd (.t (.v _)),this⟩
 unfold ym at k;split at k
 ·rename_i hx;refine aQ.val aD hd (fun X w0 O0 a w hs fp g=>?_) k;have h1:=g.ev x;rw[hx]at h1;refine⟨_,run a w _ _ _ h1.dP,?_⟩;cases ne<;>exact .t (.v _)
 ·rename_i s l hx;refine go l k fun X w0 O0 a w hs fp g=>?_;have h1:=g.ev x;rw[hx]at h1;rcases h1.zU with⟨hv,rfl⟩|⟨ad,cap,hv,rfl⟩|⟨b,off,len,cap,cs,e,fz,hv,_⟩
  ·exact .inl ⟨hv,rfl⟩
  ·exact .inr ⟨_,_,_,hv⟩
  ·exact .inr ⟨_,_,_,hv⟩
 ·rename_i r hx;split at k
  ·rename_i s l lk hr;refine go l k fun X w0 O0 a w hs fp g=>?_;have h1:=g.ev x;rw[hx]at h1;have h1:=h1.gK;rcases g.arr hr with⟨hv,rfl,_⟩|⟨b,len,cap,cs,e,ar,hv,_⟩
   ·rw[hv,Option.some.injEq]at h1;exact .inl ⟨h1.symm,rfl⟩
   ·rw[hv,Option.some.injEq]at h1;exact .inr ⟨_,_,_,h1.symm⟩
  ·exact k.elim
 ·exact k.elim
def oe(x:Option A)(d:Nat):Option Nat:=
 match x with
 |none=>some d
 |some (.t (.v (.int _ i)))=>if 0<=i then some i.toNat else none
 |_=>none
def tf(z:Nat)(x:A)(lo hi:Option A)(S:St)(K:A->Prop):Prop:=
 match x with
 | .t (.v (.slice none 0 0))=>oe lo 0=some 0/\oe hi 0=some 0/\K (.t (.v (.slice none 0 0)))
 | .t (.sh s l)=>(match oe lo 0,oe hi (l.length/z)with|some i,some j=>s=z/\i<=j/\j*z<=l.length/\K (.t (.sh s ((l.drop (i*z)).take ((j-i)*z))))|_,_=>False)
 | .own r=>(match S.roots r with
   | .live (.arr s l) _=>(match oe lo 0,oe hi (l.length/z)with|some i,some j=>s=z/\i<=j/\j*z<=l.length/\K (.sub r (i*z) (j-i))|_,_=>False)
   |_=>False)
 |_=>False
def Ni{P:Program}{O:NP}(jM:∀x:Operand,Is w O hs (S.ev x) (a.eval x)){lo:Option Operand}{i:Nat}(h:oe (lo.map S.ev) d=some i):
  (lo=none/\i=d)∨∃x k,lo=some x/\a.eval x= .int k (i:Nat):=by
 cases lo with
 |none=>simp only[oe,Option.map_none,Option.some.injEq]at h;exact .inl ⟨rfl,h.symm⟩
 |some x=>
  refine .inr ?_;simp only[Option.map_some]at h;unfold oe at h;split at h
  ·rename_i h';cases h'
  ·rename_i h';simp only[Option.some.injEq]at h';have h2:=jM x;rw[h']at h2;split at h
   ·rename_i h0;cases h;exact⟨x,_,rfl,by rw[h2.dP,Int.toNat_of_nonneg h0]⟩
   ·cases h
  ·cases h
def Nj(ht:P.underlying t=some (.slice e))(hz:dJ P e=some z)(v:Option Addr)(l c:Nat){lo hi:OV}{i j:Nat}(hlo:(lo=none/\i=0)∨∃k,lo=some (.int k (i:Nat)))(hhi:(hi=none/\j=l)∨∃k,hi=some (.int k (j:Nat)))(hij:i<=j)(Hz:j<=c)(w:World):(Instr.sliceAt t (.slice v l c) lo hi none).run P w= .ok (sliced v i j c z) w:=by
 have he:P.elem t=e:=by simp[Program.elem,ht]
 have ht':P.underlying t=some (.slice (P.elem t)):=by rw[he,ht]
 have hs:(sizeOf (P.elem t)).run P w= .ok z w:=by rw[he];exact uq hz w
 rw[run_sliceAt_slice (w:=w) t _ _ _ _ ht'];rw[run_slice_any w t v l c ht'];have hb:(Instr.sliceBounds true l c lo hi none).run P w= .ok (i,j,c) w:=by
  rcases hlo with⟨rfl,rfl⟩|⟨k,rfl⟩<;>rcases hhi with⟨rfl,rfl⟩|⟨k',rfl⟩<;>simp[Instr.sliceBounds,Instr.sliceBound,asIntOf,hij,Hz,Sem.run_bind,Result.andThen]
 rw[hb];simp[hs,Result.andThen]
def WG{lo hi:Option Operand}(cJ:0<z)(hz:n_ P t=some z)(ho:o.op= .slice t x lo hi none)(aD:o.dst=some d)(hd:d<n)(k:tf z (S.ev x) (lo.map S.ev) (hi.map S.ev) S (dI S d K)):aQ P n o S K:=by
 unfold n_ at hz;obtain⟨e,he,hz⟩:=Option.bind_eq_some_iff.1 hz;have hu:=uo he;have run:∀{X w0 O0 a w hs fp},Good X w0 O0 n S a w hs fp->∀{v:Option Addr} {l c i j d1 d2:Nat},a.eval x= .slice v l c->d1=0->d2=l->oe (lo.map S.ev) d1=some i->oe (hi.map S.ev) d2=some j->i<=j->j<=c→
   (execOp a.eval o).run P w= .ok (.value (sliced v i j c z)) w:=by
  intro X w0 O0 a w hs fp g v l c i j d1 d2 hv e1 e2 h1 h2 hij Hz;subst e1 e2;have l1:=Ni (P:=P) g.ev h1;have l2:=Ni (P:=P) g.ev h2;have:=Nj hu hz v d2 c (lo:=lo.map a.eval) (hi:=hi.map a.eval) (i:=i) (j:=j) (by
   rcases l1 with⟨rfl,h⟩|⟨y,kk,rfl,h⟩
   ·exact .inl ⟨rfl,h⟩
   ·exact .inr ⟨kk,by simp[h]⟩) (by
   rcases l2 with⟨rfl,h⟩|⟨y,kk,rfl,h⟩
   ·exact .inl ⟨rfl,h⟩
   ·exact .inr ⟨kk,by simp[h]⟩) hij Hz w
  simp[execOp,ho,hv,this]
 unfold tf at k;split at k
 ·rename_i hx;obtain⟨h1,h2,hK⟩:=k;refine aQ.val aD hd (fun X w0 O0 a w hs fp g=>?_) hK;have hv:=g.ev x;rw[hx]at hv;have hv:=hv.dP;exact⟨_,run g hv rfl rfl h1 h2 (qR _) (qR _),by simp[sliced];exact .t (.v _)⟩
 ·rename_i s l hx;split at k
  ·rename_i i j h1 h2;obtain⟨rfl,hij,hjl,hK⟩:=k;refine aQ.val aD hd (fun X w0 O0 a w hs fp g=>?_) hK;have wG:=g.ev x;rw[hx]at wG;rcases wG.zU with⟨hv,rfl⟩|⟨ad,cap,hv,rfl⟩|⟨b,off,len,cap,cs,e',fz,hv,hO,hb,hsz,hl,hc,hr⟩
   ·have hj:j=0:=by
     rcases Nat.eq_zero_or_pos j with h|h
     ·exact h
     ·have:=Nat.mul_le_mul h cJ;simp at hjl;omega
    subst hj;obtain rfl:i=0:=om;refine⟨_,run g hv rfl sA h1 h2 (qR _) (qR _),?_⟩;simp only[sliced,if_true,Nat.sub_self,Nat.zero_mul,List.take_zero];exact .t (.nZ _)
   ·have hj:j=0:=by
     rcases Nat.eq_zero_or_pos j with h|h
     ·exact h
     ·have:=Nat.mul_le_mul h cJ;simp at hjl;omega
    subst hj;obtain rfl:i=0:=om;refine⟨_,run g hv rfl sA h1 h2 (qR _) (Nat.zero_le _),?_⟩;simp only[sliced,Nat.sub_self,Nat.zero_mul,List.take_zero];split<;>exact .t (.sW _ _ _)
   ·have mK:l.length/s=len:=(by rw[hl,Nat.mul_div_cancel _ cJ]);have hjn:j<=len:=by rw[hl]at hjl;exact Nat.le_of_mul_le_mul_right hjl cJ
    refine⟨_,run g hv rfl mK h1 h2 hij om,?_⟩;simp only[sliced];split
    ·obtain rfl:i=j:=om;simp only[Nat.sub_self,Nat.zero_mul,List.take_zero];exact .t (.sW _ _ _)
    ·simp only[Option.map_some,re];have h3:i*s+(j-i)*s=j*s:=by rw[←Nat.add_mul];congr 1;omega
     refine .t (.sh s _ b (off+i*s) (j-i) _ cs e' fz hO hb (by simp;omega) (by simp;omega) om fun k hk=>?_);have hk':i*s+k<l.length:=by simp at hk;omega
     have e1:((l.drop (i*s)).take ((j-i)*s))[k]=l[i*s+k]:=sA;rw[e1,Nat.add_assoc];exact hr _ hk'
  ·exact k.elim
 ·rename_i r hx;split at k
  ·rename_i s l lk hr;split at k
   ·rename_i i j h1 h2;obtain⟨rfl,hij,hjl,hK⟩:=k;refine aQ.val aD hd (fun X w0 O0 a w hs fp g=>?_) hK;have hv:=g.ev x;rw[hx]at hv;have hv:=hv.gK;rcases g.arr hr with⟨hh,rfl,_⟩|⟨b,len,cap,cs,e',ar,hh,hb,hl,hc,_⟩
    ·have hj:j=0:=by
      rcases Nat.eq_zero_or_pos j with h|h
      ·exact h
      ·have:=Nat.mul_le_mul h cJ;simp at hjl;omega
     subst hj;obtain rfl:i=0:=om;have lK:a.eval x= .slice none 0 0:=by rw[hh,Option.some.injEq]at hv;exact hv.symm
     refine⟨_,run g lK rfl sA h1 h2 (qR _) (qR _),?_⟩;simp only[sliced,if_true,Nat.sub_self,Nat.zero_mul];exact .mz hh
    ·have lK:a.eval x= .slice (some ⟨b,0,none⟩) len cap:=by rw[hh,Option.some.injEq]at hv;exact hv.symm
     have mK:l.length/s=len:=(by rw[hl,Nat.mul_div_cancel _ cJ]);have hjn:j<=len:=by rw[hl]at hjl;exact Nat.le_of_mul_le_mul_right hjl cJ
     refine⟨_,run g lK rfl mK h1 h2 hij om,?_⟩;simp only[sliced];split
     ·obtain rfl:i=j:=om;simp only[Nat.sub_self];exact .my hh
     ·simp only[Option.map_some,re,Nat.zero_add];exact .sub hh om
   ·exact k.elim
  ·exact k.elim
 ·exact k.elim
def wH:A->T
 | .t c=>c
 |_=>.any
def km:Nat->List A->List (Nat×Nat)
 |_,[]=>[]
 |i,.own q::l=>(i,q)::km (i+1) l
 |i,_::l=>km (i+1) l
def tg:List A->Bool
 |[]=>true
 | .t c::l=>c.cell&&tg l
 | .own _::l=>tg l
 |_::_=>false
def Dy(x:A)(d:Nat)(S:St)(K:SP):Prop:=
 match mB x with
 |some as=>tg as=true/\S.roots d= .free/\K {env:=ak S.env d (.own d),roots:=ak S.roots d (.live (.box (as.map wH)) (km 0 as))}
 |none=>False
def uD:∀{as:List A} {i:Nat} {p:Nat×Nat},p∈km i as->∃j,p.1=i+j/\as[j]? =some (.own p.2)
 |[],i,p,h=>by simp[km]at h
 | .own q::l,i,p,h=>by
   simp only[km,qO]at h;rcases h with rfl|h
   ·exact⟨0,rfl,rfl⟩
   ·obtain⟨j,h1,h2⟩:=uD h;exact⟨j+1,om,sU h2⟩
 | .t _::l,i,p,h=>by
   simp only[km]at h;obtain⟨j,h1,h2⟩:=uD h;exact⟨j+1,om,sU h2⟩
 | .sub _ _ _::l,i,p,h=>by
   simp only[km]at h;obtain⟨j,h1,h2⟩:=uD h;exact⟨j+1,om,sU h2⟩
 | .ptr _ _::l,i,p,h=>by
   simp only[km]at h;obtain⟨j,h1,h2⟩:=uD h;exact⟨j+1,om,sU h2⟩
 | .agg _::l,i,p,h=>by
   simp only[km]at h;obtain⟨j,h1,h2⟩:=uD h;exact⟨j+1,om,sU h2⟩
 | .aI _::l,i,p,h=>by
   simp only[km]at h;obtain⟨j,h1,h2⟩:=uD h;exact⟨j+1,om,sU h2⟩
 | .fn _ _::l,i,p,h=>by
   simp only[km]at h;obtain⟨j,h1,h2⟩:=uD h;exact⟨j+1,om,sU h2⟩
def HA:∀{as:List A},tg as=true->∀i (h:i<as.length),(∃c,as[i]= .t c)∨∃q,as[i]= .own q
 | .t c::l,hk,i,h=>by
   simp only[tg,qM]at hk;cases i with
   |zero=>exact .inl ⟨c,rfl⟩
   |succ i=>exact HA hk.2 i (sU h)
 | .own q::l,hk,i,h=>by
   simp only[tg]at hk;cases i with
   |zero=>exact .inr ⟨q,rfl⟩
   |succ i=>exact HA hk i (sU h)
def Good.WH{X:NP}{fp:NL}(g:Good X w0 O0 n S a w hs fp){t:T}{jt lk:List (Nat×Nat)}{x:Value}(hr:S.roots d= .live t jt)(hx:hs d=some x)(hl:∀p∈lk,∃y,cellOf w x p.1=some y/\hs p.2=some y):Good X w0 O0 n {S with roots:=ak S.roots d (.live t lk)} a w hs fp:=by
 refine⟨g.size,g.defers,g.env,fun r=>?_,g.cj,g.nodup,g.cV,g.de,g.fA,g.mine,g.aZ,fun r t' gL h=>?_,g.aV,g.small,g.ax⟩
 ·by_cases h:r=d
  ·subst h;have h0:=g.root r;rw[hr]at h0;obtain⟨y,hy,ho,_⟩:=h0;show iG _ _ _ (ak S.roots r (.live t lk) r) _ _;rw[aT];rw[hx]at hy;cases hy;exact⟨x,hx,ho,hl⟩
  ·show iG _ _ _ (ak S.roots d (.live t lk) r) _ _;rw[aU _ _ _ _ h];exact g.root r
 ·have h:ak S.roots d (.live t lk) r= .live t' gL:=h;by_cases hrd:r=d
  ·subst hrd;rw[aT]at h;cases h;exact g.b8 r _ _ hr
  ·rw[aU _ _ _ _ hrd]at h;exact g.b8 r _ _ h
def WI(ho:o.op= .box t x)(aD:o.dst=some d)(hd:d<n)(k:Dy (S.ev x) d S K):aQ P n o S K:=by
 unfold Dy at k;split at k
 ·rename_i as hc;obtain⟨hok,hfree,hK⟩:=k;intro X w0 O0 a w hs fp g Q;obtain⟨hcs,eZ⟩:=C9 g.aV (g.ev x) hc;have hlen:(a.eval x).cells.toList.length=as.length:=sU hcs;have Nk:∀i (h:i<as.length),Is w (Ob X fp) hs as[i] ((a.eval x).cells.toList.getD i undef):=fun i h=>by simpa[qC,qA]using eZ i h
  have hrun:(execOp a.eval o).run P w= .ok (.value (.pointer (some ⟨w.heap.size,0,none⟩))) (w.alloc (.cells (a.eval x).cells t)):=by
   simp[execOp,ho,Instr.box,newVar,newRow]
  have hnone:hs d=none:=by have:=g.root d;rw[hfree]at this;exact this.1
  have g2:=g.newRow (Inter.refl S fp) (ts:=as.map wH) (vs:=(a.eval x).cells.toList) (gs:=List.replicate as.length []) sA (fun i h=>by
    have h':i<as.length:=sU h;rw[rQ,qA (l:=List.replicate _ _),rM,if_pos h'];have hi:=Nk i h';rcases HA hok i h' with⟨c,e⟩|⟨q,e⟩
    ·rw[e]at hi ⊢;cases hi with|t hr=>exact .rd hr
    ·rw[e];exact .rd (.any _)) sA sA hfree hd (a.eval x).cells t (fun i h=>by simp[qC,qA]) (.box (as.map wH)) (.pointer (some ⟨w.heap.size,0,none⟩)) rfl
   (w.alloc (.cells (a.eval x).cells t)) rfl rfl rfl rfl
   (fun w' O' hb hr=>.box _ _ _ _ _ hb (sU hlen.symm) sA hr)
  have g3:=g2.WH (d:=d) (lk:=km 0 as) (aT _ _ _) (aT _ _ _) (fun p hp=>by
   obtain⟨j,h1,h2⟩:=uD hp;obtain⟨hj,he⟩:=qK.1 h2;have hi:=Nk j hj;rw[he]at hi;have hq:=hi.gK;have hne:p.2≠d:=fun e=>by rw[e,hnone]at hq;cases hq
   refine⟨(a.eval x).cells.toList.getD j undef,?_,by rw[aU _ _ _ _ hne];exact hq⟩;have hj2:j<(a.eval x).cells.toList.length:=om;have hb:(w.alloc (.cells (a.eval x).cells t)).heap[w.heap.size]? =some (.cells (a.eval x).cells t (0,0)):=by
    show(w.heap.push _)[w.heap.size]? =_;simp
   have:=pg hb (show j<(a.eval x).cells.size by simpa using hj2);rw[h1];simp only[cellOf,Nat.zero_add];rw[this];simp[qC,qA])
  unfold Oper.wp;rw[hrun,Oper.upon_value,aD];refine⟨_,_,_,g3,?_⟩;have e:ak (ak S.roots d (.live (.box (as.map wH)) [])) d (.live (.box (as.map wH)) (km 0 as))=ak S.roots d (.live (.box (as.map wH)) (km 0 as)):=by
   funext r;by_cases h:r=d
   ·subst h;rw[aT,aT]
   ·rw[aU _ _ _ _ h,aU _ _ _ _ h,aU _ _ _ _ h]
  rw[e];exact hK
 ·exact k.elim
end
def yn(off:Nat)(x:A)(K:A->Prop):Prop:=
 match x with
 | .t (.agg l)=>∃c,l[off]? =some c/\K (.t c)
 |_=>False
def yo(len:Nat)(x y:A)(K:A->Prop):Prop:=
 match x,y with
 | .t (.agg l),.t (.v (.int _ i))=>0<=i/\i<len/\∃c,l[i.toNat]? =some c/\K (.t c)
 |_,_=>False
def Dz(z:T)(x:A)(K:SP)(S:St):Prop:=
 match x with
 | .own q=>(match S.roots q with
   | .live (.arr 1 l) []=>0<l.length/\K {env:=S.env,roots:=ak S.roots q (.live (.arr 1 (List.replicate l.length z)) [])}
   |_=>False)
 |_=>False
section
variable {P:Program} {n:Nat} {S:St} {K:SP} {X:NP} {w0:World} {O0:Fr} {a:Act} {w:World} {hs:NV} {fp:NL}
def Nl(h:fB P t=some false){cs:Array Value}(hc:cs[off]? =some v)(w:World):(part t cs off).run P w= .ok v w:=by
 simp[part,GF h,hc,Sem.run_bind,Result.andThen]
def WJ{f:Nat}(hf:wd P t f=some (off,z,false))(ho:o.op= .field t x f)(aD:o.dst=some d)(hd:d<n)(k:yn off (S.ev x) (dI S d K)):aQ P n o S K:=by
 unfold yn at k;split at k
 ·rename_i l hx;obtain⟨c,hc,hK⟩:=k;refine aQ.val (x:=.t c) aD hd (fun X w0 O0 a w hs fp g=>?_) hK;have h1:=g.ev x;rw[hx]at h1;obtain⟨vs,hv,hl,hr⟩:=h1.GA;obtain⟨hi,rfl⟩:=qK.1 hc;obtain⟨fs,fd,hu,ja,hoff,hsz,HB⟩:=Mq hf;have lK:vs.toArray[off]? =some (vs.getD off undef):=by simp[qA,qB (show off<vs.length by omega)]
  refine⟨vs.getD off undef,?_,hr off hi⟩;have hp:=Nl (P:=P) HB lK w;simp[execOp,ho,hv,Instr.field,run_underlying hu,ja,hoff,asAgg,hp,Sem.run_bind,Result.andThen]
 ·exact k.elim
def WK{len:Nat}(ht:P.underlying t=some (.array len e))(hz:dJ P e=some 1)(HB:fB P e=some false)(ho:o.op= .index t x y)(aD:o.dst=some d)(hd:d<n)(k:yo len (S.ev x) (S.ev y) (dI S d K)):aQ P n o S K:=by
 unfold yo at k;split at k
 ·rename_i l kk i hx hy;obtain⟨h0,h1,c,hc,hK⟩:=k;refine aQ.val (x:=.t c) aD hd (fun X w0 O0 a w hs fp g=>?_) hK;have hx1:=g.ev x;rw[hx]at hx1;have hy1:=g.ev y;rw[hy]at hy1;have hy1:=hy1.dP;obtain⟨vs,hv,hl,hr⟩:=hx1.GA;obtain⟨hi,rfl⟩:=qK.1 hc;have lK:vs.toArray[i.toNat]? =some (vs.getD i.toNat undef):=by simp[qA,qB (show i.toNat<vs.length by omega)]
  refine⟨vs.getD i.toNat undef,?_,hr _ hi⟩;have hp:=Nl (P:=P) HB lK w;have wk:=uq hz w;simp[execOp,ho,hv,hy1,Instr.index,run_underlying ht,asIntOf,h0,h1,wk,hp,Sem.run_bind,Result.andThen]
 ·exact k.elim
def WL{i:TypeInfo}{z0 z:Value}(ht:io P t=some e)(hi:P.info? e=some i)(hz:i.zero=some z0)(HC:z0.cells=#[z])(h1:z.oneCell'=true)(ho:o.op= .call {callee:=.builtin .clear,args:=#[x],argTypes:=#[t]})(aD:o.dst=none)(k:Dz (.v z) (S.ev x) K S):aQ P n o S K:=by
 unfold Dz at k;split at k
 ·rename_i q hx;split at k
  ·rename_i l hq;obtain⟨hl0,hK⟩:=k;intro X w0 O0 a w hs fp g Q;rcases g.arr hq with⟨_,rfl,_⟩|⟨b,len,cap,cs,e',ar,hx1,hb,hl,hc,dz,hsz,hf,hr,bw,hle,hlk⟩
   ·simp at hl0
   have th:=g.ev x;rw[hx]at th;have th:=th.gK;rw[hx1]at th;have th:=(Option.some.inj th).symm;have jN:len=l.length:=om;have hone:∀v∈List.replicate l.length z,v.oneCell'=true:=fun v hv=>by rw[List.eq_of_mem_replicate hv];exact h1
   have hst:=run_storeCells_at P b 0 e' (List.replicate l.length z) 0 cs w hb (by simp;omega) hone;have Ae:(Builtin.zeroCells z0.cells len).toList=List.replicate l.length z:=by
    rw[HC,jN];simp[Builtin.zeroCells];apply List.ext_getElem
    ·simp
    ·intro j _ _;simp[Nat.mod_one]
   have GS:cs.toList.take (0+0)++List.replicate l.length z++cs.toList.drop (0+0+(List.replicate l.length z).length)=List.replicate l.length z++cs.toList.drop l.length:=sA;rw[GS]at hst;obtain⟨m,hm⟩:∃m,len=m+1:=⟨len-1,om⟩;have WM:(execOp a.eval o).run P w= .ok (.value (.tuple #[])) (w.setRow b (List.replicate l.length z++cs.toList.drop l.length).toArray):=by
    simp only[execOp,ho,resolve,invoke,builtin,Sem.run_bind,Sem.run_pure,Result.andThen_ok,List.map_toArray,List.map_cons,List.map_nil,th];simp only[hm]at Ae ⊢;simp[Builtin.clear_,run_underlying (uo ht),zeroValue,typeInfo,hi,hz,Ae,hst,Sem.run_bind,Result.andThen]
   have wK:∀k,k≠b->(w.setRow b (List.replicate l.length z++cs.toList.drop l.length).toArray).heap[k]? =w.heap[k]? :=fun k hk=>setRow_other w b k _ hk;have hnew:(w.setRow b (List.replicate l.length z++cs.toList.drop l.length).toArray).heap[b]? =some (.cells (List.replicate l.length z++cs.toList.drop l.length).toArray e' (0,0)):=setRow_heap w b cs _ e' _ hb;have hkeep:jK (fun b=>¬Ob X fp b) w (w.setRow b (List.replicate l.length z++cs.toList.drop l.length).toArray):=fun b' cs' e' n9 hn hb'=>by
    rw[wK b' (fun h=>hn (.inr ⟨q,by rw[bw,h];simp⟩))];exact hb'
   have hnf:(List.replicate l.length ([]:LN)).flatten=[]:=sA;have g2:=g.lay (Inter.refl S fp) q (.arr 1 (List.replicate l.length (.v z))) [] (.slice (some ⟨b,0,none⟩) len cap) (b::(List.replicate l.length ([]:LN)).flatten) (w.setRow b (List.replicate l.length z++cs.toList.drop l.length).toArray) (.inr hx1) rfl rfl rfl rfl sA
    (fun b' hb' s8=>wK b' fun h=>(s8 q (by rw[bw,h];simp)).1 rfl)
    (by rw[hnf];simp)
    (fun b' hb'=>by
     left;refine⟨q,?_,.inl rfl⟩;rw[bw];rw[hnf]at hb';simp at hb';simp[hb'])
    (fun O' hO=>by
     refine .arr 1 _ b len cap _ e' _ hnew (by simp;omega) hc dz (by simp;omega) sA fun j hj=>?_;have hjl:j<l.length:=sU hj;have e1:(List.replicate l.length (T.v z))[j]= .v z:=sA;have e2:(List.replicate l.length z++cs.toList.drop l.length).toArray.getD j undef=z:=by
      simp[qC,List.getElem?_append,hjl,rM]
     have e3:(List.replicate l.length ([]:LN)).getD j []=[]:=by
      rw[qA,rM,if_pos hjl];rfl
     rw[e1,e2,e3];exact .rd (.v z))
    (fun p hp=>by simp at hp)
   unfold Oper.wp;rw[WM,Oper.upon_value,aD];exact⟨_,_,_,g2,hK⟩
  ·exact k.elim
 ·exact k.elim
end
def HD:LA->Option (List UInt8)
 |[]=>some []
 | .v (.int .u8 n)::l=>(HD l).map (UInt8.ofNat n.toNat:: ·)
 |_=>none
section
variable {P:Program} {n:Nat} {S:St} {K:SP}
end
inductive CO where
 |move (d:Nat) (x:Operand)
 |pick (d:Nat) (c x y:Operand)
 |bin (d:Nat) (op:BinOp) (x y:Operand)
 |beq (d:Nat) (ne:Bool) (x y:Operand)
 |un (d:Nat) (op:UnOp) (x:Operand)
 |extract (d:Nat) (x:Operand) (i:Nat)
 |iJ (d:Nat) (x:Operand)
 |idx (d z:Nat) (x y:Operand)
 |rt (d off:Nat) (x:Operand)
 |load1 (d:Nat) (x:Operand)
 |loadN (d z:Nat) (x:Operand)
 |store (z:Nat) (x v:Operand)
 |alloc (d:Nat) (zs:LA)
 |box (d:Nat) (x:Operand)
 |build (d:Nat) (zs:LA) (pl:List (Nat×Nat)) (parts:List (Nat×Operand))
 |bslice (d z len:Nat) (parts:List (Nat×Operand))
 |make (d:Nat) (zs:LA) (eb:Nat) (l c:Operand)
 |app (d z eb:Nat) (b x:Operand)
 |conv (d:Nat) (k:IntKind) (x:Operand)
 |ep (d:Nat) (x:Operand)
 |mkf (d f:Nat) (caps:List Operand)
 |mm (d:Nat) (mx:Bool) (x y:Operand)
 |call (d:Option Nat) (f:Operand) (args:List Operand)
 |bad (d:Option Nat)
 |isNil (d:Nat) (ne:Bool) (x:Operand)
 |slc (d z:Nat) (x:Operand) (lo hi:Option Operand)
 |idxA (d len z:Nat) (x y:Operand)
 |DA (d:Nat) (x:Operand)
 |DB (d off:Nat) (x:Operand)
 |DC (d len:Nat) (x y:Operand)
 |Av (z:Value) (x:Operand)
def CO.dst:CO->Option Nat
 | .move d _| .pick d _ _ _| .bin d _ _ _| .beq d _ _ _| .un d _ _| .extract d _ _| .iJ d _| .idx d _ _ _| .rt d _ _| .load1 d _| .loadN d _ _| .alloc d _| .box d _| .build d _ _ _| .bslice d _ _ _| .make d _ _ _ _
 | .app d _ _ _ _| .conv d _ _| .ep d _| .mkf d _ _| .mm d _ _ _| .isNil d _ _| .slc d _ _ _ _| .idxA d _ _ _ _| .DA d _| .DB d _ _| .DC d _ _ _=>some d
 | .store _ _ _| .Av _ _=>none
 | .call d _ _=>d
 | .bad d=>d
def HE(P:Program)(t:TypeId):Bool:=match P.underlying t with|some .bool=>true|_=>false
def WN(h:HE P t=true):P.underlying t=some .bool:=by
 unfold HE at h;split at h
 ·rename_i h1;exact h1
 ·cases h
def ru(P:Program)(d:Option Nat)(c:Call):Option CO:=
 match c.callee with
 | .value f=>some (.call d f c.args.toList)
 | .builtin .len=>(match d,c.args.toList,c.argTypes.toList with
   |some d,[x],[t]=>if(io P t).isSome then some (.iJ d x)else none
   |_,_,_=>none)
 | .builtin .append=>(match d,c.args.toList,c.argTypes.toList with
   |some d,[b,x],[t,t']=>if t=t' then(match io P t,n_ P t,GC P t with
    |some e,some z,some eb=>(match mC P e with
     |some zs=>if dJ P e=some zs.length/\0<z/\0<eb then some (.app d z eb b x)else none
     |none=>none)
    |_,_,_=>none)else none
   |_,_,_=>none)
 | .builtin .max=>(match d,c.args.toList with
   |some d,[x,y]=>some (.mm d true x y)
   |_,_=>none)
 | .builtin .min=>(match d,c.args.toList with
   |some d,[x,y]=>some (.mm d false x y)
   |_,_=>none)
 | .builtin .clear=>(match d,c.args.toList,c.argTypes.toList with
   |none,[x],[t]=>(match io P t with
    |some e=>(match mC P e with
     |some [.v z]=>if z.oneCell'=true then some (.Av z x)else none
     |_=>none)
    |none=>none)
   |_,_,_=>none)
 |_=>none
def pC(P:Program)(d:Nat):Op->Option CO
 | .move x=>some (.move d x)
 | .assign x=>some (.move d x)
 | .pick c x y=>some (.pick d c x y)
 | .binOp op t x y _=>if(wc P t).isSome||GB P t then some (.bin d op x y)else if HE P t then(match op with| .eql=>some (.beq d false x y)| .neq=>some (.beq d true x y)|_=>none)else
   if(io P t).isSome then(match y with| .const (.slice none 0 0)=>(match op with| .eql=>some (.isNil d false x)| .neq=>some (.isNil d true x)|_=>none)|_=>none)else none
 | .unOp op _ x=>some (.un d op x)
 | .extract x i=>some (.extract d x i)
 | .indexAddr t x y=>(match n_ P t with|some z=>if 0<z then some (.idx d z x y)else none|none=>(match ya P t with|some p=>some (.idxA d p.1 p.2 x y)|none=>none))
 | .fieldAddr t x f=>(match wd P t f with|some (off,z,_)=>if 0<z then some (.rt d off x)else none|none=>none)
 | .load t x=>(match fB P t,dJ P t with
   |some false,_=>some (.load1 d x)
   |some true,some z=>if 0<z then some (.loadN d z x)else none
   |_,_=>none)
 | .alloc t=>(match mC P t with|some zs=>some (.alloc d zs)|none=>none)
 | .box _ x=>some (.box d x)
 | .build t parts=>(match mC P t,wo P t with|some zs,some pl=>some (.build d zs pl parts.toList)|some zs,none=>(match ya P t with|some p=>some (.build d zs ((List.range p.1).map fun i=>(i*p.2,p.2)) parts.toList)|none=>none)|_,_=>none)
 | .buildSlice t len parts=>(match io P t,n_ P t with
   |some e,some z=>if(mC P e).isSome/\0<z/\len*z<=16777216 then some (.bslice d z len parts.toList)else none
   |_,_=>none)
 | .makeSlice t l c=>(match io P t with
   |some e=>(match mC P e,zW P e,dJ P e with
    |some zs,some eb,some z=>if z=zs.length/\0<eb then some (.make d zs eb l c)else none
    |_,_,_=>none)
   |none=>none)
 | .convert s t x=>(match wc P s,wc P t with|some _,some k=>some (.conv d k x)|_,_=>none)
 | .nilCheck x=>some (.ep d x)
 | .field t x f=>(match wd P t f with|some (off,_,false)=>some (.DB d off x)|_=>none)
 | .index t x y=>(match P.underlying t with|some (.array len e)=>if dJ P e=some 1/\fB P e=some false then some (.DC d len x y)else none|_=>none)
 | .slice t x lo hi none=>(match n_ P t with|some z=>if 0<z then some (.slc d z x lo hi)else none|none=>none)
 | .makeFunc (.func f) bs cap=>(match bs.toList with|[]=>some (.mkf d f cap.toList)|_=>none)
 | .call c=>ru P (some d) c
 |_=>none
def rx(P:Program):Op->Option CO
 | .store t x v=>(match dJ P t with|some z=>if 0<z then some (.store z x v)else none|none=>none)
 | .call c=>ru P none c
 |_=>none
def og(P:Program)(n:Nat)(o:Oper):Option CO:=
 match o.dst with
 |some d=>if d<n then some ((pC P d o.op).getD (.bad (some d)))else none
 |none=>some ((rx P o.op).getD (.bad none))
def uE(c x y:A)(K:A->Prop):Prop:=
 match c with
 | .t (.v (.bool b))=>(b=true->K x)/\(b=false->K y)
 |_=>False
def uF(ne:Bool)(x y:A)(K:A->Prop):Prop:=
 match x,y with
 | .t (.v (.bool a)),.t (.v (.bool b))=>K (.v (.bool (if ne then a !=b else a==b)))
 |_,_=>False
def bE(x:A)(S:St)(K:A->Prop):Prop:=
 match x with
 | .t (.v (.slice none 0 0))=>K (.v (.int .i64 0))
 | .t (.sh s l)=>0<s/\K (.v (.int .i64 ((l.length/s:Nat):Int)))
 | .own r=>(match S.roots r with| .live (.arr s l) _=>0<s/\K (.v (.int .i64 ((l.length/s:Nat):Int)))|_=>False)
 | .sub _ _ m=>K (.v (.int .i64 (m:Nat)))
 |_=>False
def bH(z:Nat)(x i:A)(S:St)(K:A->Prop):Prop:=
 match i with
 | .t (.v (.int _ iv))=>0<=iv/\(match x with
   | .t (.sh s l)=>s=z/\(iv.toNat+1)*z<=l.length/\K (.t (.ax l (iv.toNat*z)))
   | .own r=>(match S.roots r with| .live (.arr s l) _=>s=z/\(iv.toNat+1)*z<=l.length/\K (.ptr r (iv.toNat*z))|_=>False)
   | .sub r off m=>iv.toNat<m/\K (.ptr r (off+iv.toNat*z))
   |_=>False)
 |_=>False
def bK(off:Nat)(x:A)(S:St)(K:A->Prop):Prop:=
 match x with
 | .t (.ax l o)=>K (.t (.ax l (o+off)))
 | .ptr r o=>K (.ptr r (o+off))
 | .own r=>(match S.roots r with| .live (.box _) _=>K (.ptr r off)|_=>False)
 |_=>False
def bC(x:A)(d:Nat)(K:SP)(S:St):Prop:=
 match x with
 | .t (.ax l off)=>off<l.length/\∀c,l[off]? =some c->K {S with env:=ak S.env d (.t c)}
 | .ptr r off=>(match(S.roots r).cells with
   |some (l,lk)=>off<l.length/\(match lk.lookup off with
    |some q=>K {S with env:=ak S.env d (.own q)}
    |none=>∀c,l[off]? =some c->jb S r off d l lk c K)
   |none=>False)
 | .own r=>(match S.roots r with
   | .live (.box l) lk=>0<l.length/\(match lk.lookup 0 with
     |some q=>K {S with env:=ak S.env d (.own q)}
     |none=>∀c,l[0]? =some c->jb S r 0 d l lk c K)
   |_=>False)
 |_=>False
def mL(lk:List (Nat×Nat)):Nat->LA->List A
 |_,[]=>[]
 |off,c::l=>(match lk.lookup off with|some q=>.own q|none=>.t c)::mL lk (off+1) l
def ry(lk:List (Nat×Nat)):Nat->LA->Bool
 |_,[]=>true
 |off,c::l=>((lk.lookup off).isSome||c.flat)&&ry lk (off+1) l
def Aw(off z:Nat):List (Nat×Nat)->Bool
 |[]=>true
 |p::lk=>(decide (p.1<off)||decide (off+z<=p.1))&&Aw off z lk
def Ax(z d r off:Nat)(K:SP)(S:St):Prop:=
 match(S.roots r).cells with
 |some (l,lk)=>off+z<=l.length/\ry lk off ((l.drop off).take z)=true/\K {S with env:=ak S.env d (.agg (mL lk off ((l.drop off).take z)))}
 |none=>False
def pD(r off d:Nat)(K:SP):Nat->St->Prop
 |0,S=>K S
 |k+1,S=>match(S.roots r).cells with
  |some (l,lk)=>(match lk.lookup (off+k),l[off+k]? with
   |none,some (.arr s l')=>S.roots (eM d (k+1))= .free/\pD r off d K k {S with roots:=ak (ak S.roots r ((S.roots r).with (l.set (off+k) .any) ((off+k,eM d (k+1))::lk))) (eM d (k+1)) (.live (.arr s l') [])}
   |none,some (.box l')=>S.roots (eM d (k+1))= .free/\pD r off d K k {S with roots:=ak (ak S.roots r ((S.roots r).with (l.set (off+k) .any) ((off+k,eM d (k+1))::lk))) (eM d (k+1)) (.live (.box l') [])}
   |_,_=>pD r off d K k S)
  |none=>False
def ti(l:LA)(lk:List (Nat×Nat))(r off z d:Nat)(K:SP)(S:St):Prop:=
 if(((l.drop off).take z).all T.flat&&Aw off z lk)=true then K {S with env:=ak S.env d (.t (.agg ((l.drop off).take z)))}
 else if ry lk off ((l.drop off).take z)=true then K {S with env:=ak S.env d (.agg (mL lk off ((l.drop off).take z)))}
 else z<1000/\pD r off d (Ax z d r off K) z S
def wM(z:Nat)(x:A)(d:Nat)(K:SP)(S:St):Prop:=
 match x with
 | .t (.ax l off)=>off+z<=l.length/\K {S with env:=ak S.env d (.t (.agg ((l.drop off).take z)))}
 | .ptr r off=>(match(S.roots r).cells with
   |some (l,lk)=>off+z<=l.length/\ti l lk r off z d K S
   |none=>False)
 | .own r=>(match S.roots r with
   | .live (.box l) lk=>z<=l.length/\ti l lk r 0 z d K S
   |_=>False)
 |_=>False
def pE(z:Nat)(x v:A)(K:SP)(S:St):Prop:=
 match pm S x,mB v with
 |some (r,off),some as=>as.length=z/\kF S as (pn r off z K)
 |_,_=>False
def wN(zs:LA)(pl:List (Nat×Nat))(parts:List (Nat×A))(K:A->Prop):Prop:=
 match mE (fun i=>pl[i]?) (zs.map .t) parts with
 |some as=>K (.agg as)
 |none=>False
def tj(z len d:Nat)(parts:List (Nat×A))(K:SP)(S:St):Prop:=
 match mE (fun i=>some (i*z,z)) (List.replicate (len*z) (.t .any)) parts with
 |some as=>kF S as (jc d (.arr z) K)
 |none=>False
def lS(zs:LA)(eb:Nat)(l c:A)(d:Nat)(K:SP)(S:St):Prop:=
 match l,c with
 | .t (.v (.int _ m)),.t (.v (.int _ m'))=>m'=m/\0<=m/\m*eb<=281474976710656/\jc d (.arr zs.length) K (made zs m.toNat) S
 |_,_=>False
def wP(k:IntKind)(x:A)(K:A->Prop):Prop:=
 match x with
 | .t (.v (.int _ m))=>K (.v (.int k (k.wrap m)))
 |_=>False
def bz(P:Program)(n:Nat)(d:Option Nat)(f:Operand)(as:List Operand)(K:SP)(S:St):Prop:=
 ∀(o:Oper) (ts:Array TypeId),o.op= .call {callee:=.value f,args:=as.toArray,argTypes:=ts}->o.dst=d->(∀k,d=some k->k<n)->aQ P n o S K
def cu(P:Program)(n:Nat):CO->SP->St->Prop
 | .move d x,K,S=>dI S d K (S.ev x)
 | .pick d c x y,K,S=>uE (S.ev c) (S.ev x) (S.ev y) (dI S d K)
 | .bin d op x y,K,S=>uk op (S.ev x) (S.ev y) (dI S d K)
 | .beq d ne x y,K,S=>uF ne (S.ev x) (S.ev y) (dI S d K)
 | .un d op x,K,S=>ul op (S.ev x) (dI S d K)
 | .extract d x i,K,S=>um (S.ev x) i (dI S d K)
 | .iJ d x,K,S=>bE (S.ev x) S (dI S d K)
 | .idx d z x y,K,S=>bH z (S.ev x) (S.ev y) S (dI S d K)
 | .rt d off x,K,S=>bK off (S.ev x) S (dI S d K)
 | .load1 d x,K,S=>bC (S.ev x) d K S
 | .loadN d z x,K,S=>wM z (S.ev x) d K S
 | .store z x v,K,S=>pE z (S.ev x) (S.ev v) K S
 | .alloc d zs,K,S=>jc d .box K zs S
 | .box d x,K,S=>po (S.ev x) d S K
 | .build d zs pl parts,K,S=>wN zs pl (parts.map fun p=>(p.1,S.ev p.2)) (dI S d K)
 | .bslice d z len parts,K,S=>tj z len d (parts.map fun p=>(p.1,S.ev p.2)) K S
 | .make d zs eb l c,K,S=>lS zs eb (S.ev l) (S.ev c) d K S
 | .app d z eb b x,K,S=>pp S (S.ev b) z (yd (S.ev x) d z eb K)
 | .conv d k x,K,S=>wP k (S.ev x) (dI S d K)
 | .ep d x,K,S=>gN (S.ev x) S (dI S d K)
 | .mkf d f caps,K,S=>dI S d K (.fn f (caps.map S.ev))
 | .mm d mx x y,K,S=>ux mx (S.ev x) (S.ev y) (dI S d K)
 | .call d f as,K,S=>bz P n d f as K S
 | .bad _,K,S=>False
 | .isNil d ne x,K,S=>ym ne (S.ev x) S (dI S d K)
 | .slc d z x lo hi,K,S=>tf z (S.ev x) (lo.map S.ev) (hi.map S.ev) S (dI S d K)
 | .idxA d len z x y,K,S=>ph len z (S.ev x) (S.ev y) S (dI S d K)
 | .DA d x,K,S=>Dy (S.ev x) d S K
 | .DB d off x,K,S=>yn off (S.ev x) (dI S d K)
 | .DC d len x y,K,S=>yo len (S.ev x) (S.ev y) (dI S d K)
 | .Av z x,K,S=>Dz (.v z) (S.ev x) K S
section
variable {P:Program} {n:Nat} {S:St} {K:SP}
def DD(lk:List (Nat×Nat)):∀(off:Nat) (l:LA),(mL lk off l).length=l.length
 |_,[]=>rfl
 |off,c::l=>by simp[mL,DD lk (off+1) l]
def Nm{lk:List (Nat×Nat)}:∀{off:Nat} {l:LA} {i:Nat} (h:i<l.length),(mL lk off l)[i]? =some (match lk.lookup (off+i)with|some q=>.own q|none=>.t l[i])
 |off,c::l,0,h=>by simp[mL]
 |off,c::l,i+1,h=>by
  have h':i<l.length:=sU h;have:=Nm (lk:=lk) (off:=off+1) h';rw[show off+1+i=off+(i+1) by omega]at this;simpa[mL]using this
def Nn{lk:List (Nat×Nat)}:∀{off:Nat} {l:LA} {i:Nat} (h:i<l.length),ry lk off l=true->lk.lookup (off+i)=none->l[i].flat=true
 |off,c::l,0,h,hk,hn=>by
  simp only[ry,qM,Bool.or_eq_true]at hk;rw[Nat.add_zero]at hn;rcases hk.1 with h1|h1
  ·rw[hn]at h1;cases h1
  ·exact h1
 |off,c::l,i+1,h,hk,hn=>by
  simp only[ry,qM]at hk;have h':i<l.length:=sU h;exact Nn (off:=off+1) h' hk.2 (by rw[show off+1+i=off+(i+1) by omega];exact hn)
def Np(ho:o.op= .load t x)(aD:o.dst=some d)(hd:d<n)(ht:fB P t=some true)(hz:dJ P t=some z){r:Nat}{l:LA}{lk:List (Nat×Nat)}(hr:(S.roots r).cells=some (l,lk))(hx:∀X w0 O0 a w hs fp,Good X w0 O0 n S a w hs fp->Is w (Ob X fp) hs (.ptr r off) (a.eval x))(cJ:0<z)(hlt:off+z<=l.length)(hfl:ry lk off ((l.drop off).take z)=true)(hK:K {S with env:=ak S.env d (.agg (mL lk off ((l.drop off).take z)))}):aQ P n o S K:=by
 refine aQ.val (x:=.agg (mL lk off ((l.drop off).take z))) aD hd (fun X w0 O0 a w hs fp g=>?_) hK;obtain⟨b,y,cs,e,ar,hy,fC,hb,hle,hf,hro,bw,hlk,_⟩:=g.block hr (show off<l.length by omega);have hv:=g.wg hy fC (hx X w0 O0 a w hs fp g);have mK:((l.drop off).take z).length=z:=by simp;omega
 refine⟨_,GM ho ht hz hv hb om,.agg (by simp[DD];omega) fun i hi=>?_⟩;rw[DD]at hi;have hi':i<z:=om;have hg:=Nm (lk:=lk) (off:=off) hi;have hi2:i<(mL lk off ((l.drop off).take z)).length:=by rw[DD];exact hi
 rw[qB hi2,Option.some.injEq]at hg;rw[hg];have WO:((List.range z).map fun i=>cs.getD (off+i) undef).getD i undef=cs.getD (off+i) undef:=by simp[qA,hi']
 rw[WO];split
 ·rename_i q hq;obtain⟨v,Ay,oh⟩:=hlk _ (Mv hq);have hc:=pg hb (show off+i<cs.size by omega);rw[hc]at Ay;cases Ay;exact .own oh
 ·rename_i hq;have ur:=Nn hi hfl hq;have e1:((l.drop off).take z)[i]=l[off+i]'om:=sA;rw[e1]at ur ⊢;exact .t ((hro (off+i) om).sZ ur).1
def aQ.unfold{o:Oper}{r off d:Nat}{l:LA}{lk:List (Nat×Nat)}{c:T}(hr:(S.roots r).cells=some (l,lk))(hc:l[off]? =some c)(hfree:S.roots d= .free)(hd:n<=100000->d<1000000000)(bv:c.b8=true)
  (h:aQ P n o {S with roots:=ak (ak S.roots r ((S.roots r).with (l.set off .any) ((off,d)::lk))) d (.live c [])} K):aQ P n o S K:=fun X w0 O0 a w hs fp g Q=>by
 obtain⟨hs',al,v,g',_⟩:=g.unfold hr hc hfree (hd g.small) bv;exact h X w0 O0 a w hs' al g' Q
def yp(r:Nat)(S S':St):Prop:=S'.env=S.env/\(∃l lk,(S'.roots r).cells=some (l,lk))/\((∃l lk,S.roots r= .live (.box l) lk)->∃l lk,S'.roots r= .live (.box l) lk)
def yp.ev{r:Nat}{S S':St}(h:yp r S S')(x:Operand):S'.ev x=S.ev x:=by
 have:=h.1;cases x<;>simp only[St.ev,this]
def HF{o:Oper}{r off d:Nat}{S0:St}{K':SP}(hd:d<n)(hK:∀S,yp r S0 S->K' S->aQ P n o S K):∀(k:Nat) (S:St),k<1000->yp r S0 S->pD r off d K' k S->aQ P n o S K
 |0,S,_,hc,h=>hK S hc h
 |k+1,S,hk,hc,h=>by
  obtain⟨l,lk,hr⟩:=hc.2.1;have small:n<=100000->eM d (k+1)<1000000000:=fun hn=>by unfold eM;rw[if_neg om];omega
  rw[pD]at h;simp only[hr]at h;have key:∀c,l[off+k]? =some c->c.b8=true->S.roots (eM d (k+1))= .free->pD r off d K' k {S with roots:=ak (ak S.roots r ((S.roots r).with (l.set (off+k) .any) ((off+k,eM d (k+1))::lk))) (eM d (k+1)) (.live c [])}->aQ P n o S K:=fun c gA bv hfree h=>by
   have hne:eM d (k+1)≠r:=fun e=>by rw[e]at hfree;rw[hfree]at hr;simp[aE.cells]at hr
   refine aQ.unfold hr gA hfree small bv (HF hd hK k _ om ⟨hc.1,?_,fun hb=>?_⟩ h)
   ·simp only[aU _ _ _ _ (Ne.symm hne),aT];rcases aE.we hr with⟨s,h1⟩|h1<;>rw[h1]<;>exact⟨_,_,rfl⟩
   ·obtain⟨l1,Nq,h1⟩:=hc.2.2 hb;simp only[aU _ _ _ _ (Ne.symm hne),aT];rw[h1];exact⟨_,_,rfl⟩
  split at h
  ·rename_i h1 h2;exact key _ h2 rfl h.1 h.2
  ·rename_i h1 h2;exact key _ h2 rfl h.1 h.2
  ·exact HF hd hK k S om hc h
def Nr(ho:o.op= .load t x)(aD:o.dst=some d)(hd:d<n)(ht:fB P t=some true)(hz:dJ P t=some z){r:Nat}{l:LA}{lk:List (Nat×Nat)}(hr:(S.roots r).cells=some (l,lk))(hx:∀S',yp r S S'->∀X w0 O0 a w hs fp,Good X w0 O0 n S' a w hs fp->Is w (Ob X fp) hs (.ptr r off) (a.eval x))(cJ:0<z)(hlt:off+z<=l.length)(k:ti l lk r off z d K S):aQ P n o S K:=by
 have ww:yp r S S:=⟨rfl,⟨_,_,hr⟩,fun h=>h⟩;unfold ti at k;split at k
 ·rename_i h;rw[qM]at h;exact GN ho aD hd ht hz hr (hx S ww) cJ hlt ⟨h.1,k⟩
 ·split at k
  ·rename_i h;exact Np ho aD hd ht hz hr (hx S ww) cJ hlt h k
  ·refine HF hd (fun S' li h=>?_) z S k.1 ww k.2;unfold Ax at h;split at h
   ·rename_i l' gL hr';exact Np ho aD hd ht hz hr' (hx S' li) cJ h.1 h.2.1 h.2.2
   ·exact h.elim
def WP(ho:o.op= .load t x)(aD:o.dst=some d)(hd:d<n)(ht:fB P t=some true)(hz:dJ P t=some z)(cJ:0<z)(k:wM z (S.ev x) d K S):aQ P n o S K:=by
 unfold wM at k;split at k
 ·rename_i hx;refine Mx ho aD hd ?_;unfold C4;rw[ht];simp only[hz];rw[hx];exact⟨k.1,fun _ h=>h▸k.2⟩
 ·rename_i hx;split at k
  ·rename_i hr;exact Nr ho aD hd ht hz hr (fun S' li X w0 O0 a w hs fp g=>by have:=g.ev x;rw[li.ev x,hx]at this;exact this) cJ k.1 k.2
  ·exact k.elim
 ·rename_i r hx;split at k
  ·rename_i l lk hr;refine Nr (r:=r) (off:=0) (l:=l) (lk:=lk) ho aD hd ht hz (by rw[hr];rfl) (fun S' li X w0 O0 a w hs fp g=>?_) cJ om k.2;obtain⟨l',gL,hr'⟩:=li.2.2 ⟨_,_,hr⟩;have h1:=g.ev x;rw[li.ev x,hx]at h1;have h1:=h1.gK;obtain⟨b,cs,e,ar,hb,_⟩:=g.box hr';rw[hb,Option.some.injEq]at h1;rw[←h1];exact .kc hb
  ·exact k.elim
 ·exact k.elim
def WQ{c:Operand}(ho:o.op= .pick c x y)(aD:o.dst=some d)(hd:d<n)(k:uE (S.ev c) (S.ev x) (S.ev y) (dI S d K)):aQ P n o S K:=by
 unfold uE at k;split at k
 ·rename_i b hc;refine VA ho aD hd hc ?_;cases b
  ·exact k.2 rfl
  ·exact k.1 rfl
 ·exact k.elim
def run_equal_bool(ht:P.underlying t=some .bool)(a b:Bool)(w:World):(Op.equal t (.bool a) (.bool b)).run P w= .ok (a==b) w:=by
 have key:∀d,(Op.equalIn (d+1) t (.bool a) (.bool b)).run P w= .ok (a==b) w:=fun d=>by simp[Op.equalIn,run_underlying ht]
 exact key 9999
def Ns{ne:Bool}{u:TypeId}(ht:P.underlying t=some .bool)(ho:o.op= .binOp (if ne then .neq else .eql) t x y u)(aD:o.dst=some d)(hd:d<n)(k:uF ne (S.ev x) (S.ev y) (dI S d K)):aQ P n o S K:=by
 unfold uF at k;split at k
 ·rename_i a1 b1 hx hy;refine aQ.val (x:=.t (.v (.bool (if ne then a1 !=b1 else a1==b1)))) aD hd (fun X w0 O0 a w hs fp g=>?_) k;have h1:=g.ev x;rw[hx]at h1;have h1:=h1.dP;have h2:=g.ev y;rw[hy]at h2;have h2:=h2.dP;refine⟨.bool (if ne then a1 !=b1 else a1==b1),?_,.t (.v _)⟩;cases ne<;>simp[execOp,ho,h1,h2,eqGuard,binOp,run_equal_bool ht,bne]
 ·exact k.elim
def rz{α:Type}{a:Array α}{l:List α}(h:a.toList=l):a=l.toArray:=by subst h;simp
def Nt{c:Call}{co:CO}(ho:o.op= .call c)(hd:∀k,o.dst=some k->k<n)(h:ru P o.dst c=some co)(k:cu P n co K S):aQ P n o S K:=by
 obtain⟨callee,args,ats⟩:=c;unfold ru at h;split at h
 ·rename_i f hf;cases h;simp only at hf;refine k o ats (by rw[ho];simp[hf]) rfl hd
 ·rename_i hf;simp only at hf;split at h
  ·rename_i d x t aD hx ht;have e:o.op= .call {callee:=.builtin .len,args:=#[x],argTypes:=#[t]}:=by rw[ho,hf];simp only at hx ht;rw[rz hx,rz ht]
   split at h
   ·rename_i hs;cases h;refine VE e aD (hd _ aD) ?_;simp only[cu]at k;unfold bE at k;split at k
    ·rename_i hx';rw[hx'];exact⟨hs,k⟩
    ·rename_i hx';rw[hx'];exact⟨hs,k⟩
    ·rename_i hx';rw[hx'];exact⟨hs,k⟩
    ·rename_i hx';rw[hx'];exact⟨hs,k⟩
    ·exact k.elim
   ·cases h
  ·cases h
 ·rename_i hf;simp only at hf;split at h
  ·rename_i d b x t t' aD hx ht;split at h
   ·rename_i wQ;subst wQ;have e:o.op= .call {callee:=.builtin .append,args:=#[b,x],argTypes:=#[t,t]}:=by rw[ho,hf];simp only at hx ht;rw[rz hx,rz ht]
    split at h
    ·rename_i e0 z eb he hz wu;split at h
     ·rename_i zs hzs;split at h
      ·rename_i hc;cases h;refine V8 (u:=0) e aD (hd _ aD) he ⟨zs,hzs,hc.1⟩ ?_;unfold G5;rw[hz,wu];exact⟨hc.2.1,hc.2.2,k⟩
      ·cases h
     ·cases h
    ·cases h
   ·cases h
  ·cases h
 ·rename_i hf;simp only at hf;split at h
  ·rename_i d x y aD hx;cases h;exact MT (mx:=true) (by rw[ho,hf];simp only at hx;rw[rz hx];rfl) aD (hd _ aD) k
  ·cases h
 ·rename_i hf;simp only at hf;split at h
  ·rename_i d x y aD hx;cases h;exact MT (mx:=false) (by rw[ho,hf];simp only at hx;rw[rz hx];rfl) aD (hd _ aD) k
  ·cases h
 ·rename_i hf;simp only at hf;split at h
  ·rename_i x t aD hx ht;split at h
   ·rename_i e he;split at h
    ·rename_i z hz;split at h
     ·rename_i h1;cases h;obtain⟨i,z0,hi,cJ,hzs⟩:=yc hz;have HC:z0.cells=#[z]:=by
       have:z0.cells.toList.map T.v=[T.v z]:=hzs.symm
       match hc:z0.cells.toList,this with
       |[u],this=>
        simp only[List.map_cons,List.map_nil,List.cons.injEq,T.v.injEq,and_true]at this;subst this;exact rz hc
      exact WL he hi cJ HC h1 (by rw[ho,hf];simp only at hx ht;rw[rz hx,rz ht]) aD k
     ·cases h
    ·cases h
   ·cases h
  ·cases h
 ·cases h
def WR{co:CO}(aD:o.dst=some d)(hd:d<n)(h:pC P d o.op=some co)(k:cu P n co K S):aQ P n o S K:=by
 generalize hop:o.op=op at h;unfold pC at h;split at h
 ·cases h;exact Mj (.inl hop) aD hd k
 ·cases h;exact Mj (.inr hop) aD hd k
 ·cases h;exact WQ hop aD hd k
 ·split at h
  ·cases h;exact VB hop aD hd k
  ·split at h
   ·rename_i ht;have ht':=WN ht;split at h
    ·cases h;exact Ns (ne:=false) ht' hop aD hd k
    ·cases h;exact Ns (ne:=true) ht' hop aD hd k
    ·cases h
   ·split at h
    ·rename_i he;split at h
     ·split at h
      ·cases h;exact Nh (ne:=false) he hop aD hd k
      ·cases h;exact Nh (ne:=true) he hop aD hd k
      ·cases h
     ·cases h
    ·cases h
 ·cases h;exact VC hop aD hd k
 ·cases h;exact VD hop aD hd k
 ·split at h
  ·rename_i z hz;split at h
   ·rename_i cJ;cases h;refine VF hop aD hd ?_;simp only[cu]at k;unfold bH at k;unfold GG;split at k
    ·rename_i hy;rw[hy];refine⟨k.1,?_⟩;have k2:=k.2;rw[hz];simp only;split at k2
     ·rename_i hx;rw[hx];exact⟨k2.1,k2.2.1,cJ,k2.2.2⟩
     ·rename_i hx;rw[hx];simp only;split at k2
      ·rename_i hr;rw[hr];exact⟨k2.1,k2.2.1,cJ,k2.2.2⟩
      ·exact k2.elim
     ·rename_i hx;rw[hx];exact k2
     ·exact k2.elim
    ·exact k.elim
   ·cases h
  ·split at h
   ·rename_i p hp;cases h;exact VI hp hop aD hd k
   ·cases h
 ·split at h
  ·rename_i off z ag hf;split at h
   ·rename_i cJ;cases h;refine VH hop aD hd ?_;unfold GI;rw[hf];exact⟨cJ,k⟩
   ·cases h
  ·cases h
 ·split at h
  ·rename_i ht;cases h;refine Mx hop aD hd ?_;unfold C4;rw[ht];exact k
  ·rename_i z ht hz;split at h
   ·rename_i cJ;cases h;exact WP hop aD hd ht hz cJ k
   ·cases h
  ·cases h
 ·split at h
  ·rename_i zs hz;cases h;refine VS hop aD hd ?_;unfold GW;rw[hz];exact k
  ·cases h
 ·cases h;exact VT hop aD hd k
 ·split at h
  ·rename_i zs pl hz hf;cases h;refine MJ hop aD hd ?_;unfold Da;rw[hz];have e:∀t',wo P t'=some pl->wq P t'=fun i=>pl[i]? :=fun t' h'=>by funext i;simp[wq,h']
   rw[e _ hf];exact⟨.inl (by rw[hf];rfl),k⟩
  ·rename_i zs hz hf;split at h
   ·rename_i p hp;cases h;refine MJ hop aD hd ?_;obtain⟨e,hu,z8⟩:=Mr (z:=p.2) (len:=p.1) hp;obtain⟨i,hi,ke⟩:=zX z8;have ha:=show(match P.underlying _ with|some (.array _ e)=>(P.info? e).map (·.size)|_=>none)=some p.2 by rw[hu];simp only[hi,Option.map_some,ke]
    change z7 P _=some p.2 at ha
    unfold Da;rw[hz];refine⟨.inr (by rw[ha];rfl),?_⟩;simp only[cu]at k;unfold wN at k;split at k
    ·rename_i as has;rw[MH (fun i x kn=>?_) _ _ _ has]
     ·exact k
     ·simp only[wq,hf,ha,Option.map_some];rw[qU]at kn;cases hr:(List.range p.1)[i]? with
      |none=>rw[hr]at kn;cases kn
      |some j=>
       rw[hr]at kn;have:=(qK.1 hr).2;simp at this;subst this;exact kn
    ·exact k.elim
   ·cases h
  ·cases h
 ·split at h
  ·rename_i e z he hz;split at h
   ·rename_i hc;cases h;refine VX hop aD hd he hc.1 ?_;unfold GZ;rw[hz];exact⟨hc.2.2,hc.2.1,k⟩
   ·cases h
  ·cases h
 ·split at h
  ·rename_i e he;split at h
   ·rename_i zs eb z hzs wu hz;split at h
    ·rename_i hc;cases h;refine V1 hop aD hd he (fun zs' h'=>?_) ?_
     ·rw[hzs]at h';cases h';rw[hz,hc.1]
     ·unfold G3;simp only[cu]at k;unfold lS at k;split at k
      ·rename_i hl gA;rw[he,hl,gA];refine⟨k.1,k.2.1,?_⟩;simp only[hzs,wu];exact⟨hc.2,k.2.2⟩
      ·exact k.elim
    ·cases h
   ·cases h
  ·cases h
 ·split at h
  ·rename_i h1 h2;cases h;refine Wi hop aD hd ?_;unfold Hc;simp only[cu]at k;unfold wP at k;split at k
   ·rename_i hx;rw[h1,h2,hx];exact k
   ·exact k.elim
  ·cases h
 ·cases h;exact Wj hop aD hd k
 ·split at h
  ·rename_i off z hf;cases h;exact WJ hf hop aD hd k
  ·cases h
 ·split at h
  ·rename_i len e hu;split at h
   ·rename_i hc;cases h;exact WK hu hc.1 hc.2 hop aD hd k
   ·cases h
  ·cases h
 ·split at h
  ·rename_i z hz;split at h
   ·rename_i cJ;cases h;exact WG cJ hz hop aD hd k
   ·cases h
  ·cases h
 ·split at h
  ·rename_i hb;cases h;exact Wk (by rw[hop,rz hb]) aD hd k
  ·cases h
 ·rw[←aD]at h;exact Nt hop (fun k hk=>by rw[aD]at hk;cases hk;exact hd) h k
 ·cases h
def WS{co:CO}(aD:o.dst=none)(h:rx P o.op=some co)(k:cu P n co K S):aQ P n o S K:=by
 generalize hop:o.op=op at h;unfold rx at h;split at h
 ·split at h
  ·rename_i z hz;split at h
   ·cases h;refine MF hop aD ?_;simp only[cu]at k;unfold pE at k;unfold C_;split at k
    ·rename_i h1 h2;rw[h1,hz,h2];exact k
    ·exact k.elim
   ·cases h
  ·cases h
 ·rw[←aD]at h;exact Nt hop (fun k hk=>by rw[aD]at hk;cases hk) h k
 ·cases h
def jO{co:CO}(h:og P n o=some co)(k:cu P n co K S):aQ P n o S K:=by
 unfold og at h;split at h
 ·rename_i d hd;split at h
  ·rename_i hn;cases hc:pC P d o.op with
   |none=>rw[hc]at h;cases h;exact k.elim
   |some c'=>rw[hc]at h;cases h;exact WR hd hn hc k
  ·cases h
 ·rename_i hd;cases hc:rx P o.op with
  |none=>rw[hc]at h;cases h;exact k.elim
  |some c'=>rw[hc]at h;cases h;exact WS hd hc k
def CO.nr:CO->CO
 | .box d x=>.DA d x
 |c=>c
def HG{d:Option Nat}{c:Call}{e:Nat}:ru P d c≠some (.box e x):=by
 intro h;unfold ru at h
 (repeat' split at h)<;>cases h
def WT{e:Nat}{op:Op}(h:pC P d op=some (.box e x)):∃t,op= .box t x/\e=d:=by
 unfold pC at h;split at h
 case h_11 t y=>cases h;exact⟨t,rfl,rfl⟩
 all_goals first
  |(exact absurd h HG)
  |(cases h;done)
  |(repeat' (split at h))<;>first|(cases h;done)|(exact absurd h HG)
def Nu{co:CO}(h:og P n o=some co)(k:cu P n co.nr K S):aQ P n o S K:=by
 cases co with
 |box e x=>
  unfold og at h;split at h
  ·rename_i d hd;split at h
   ·rename_i hn;cases hc:pC P d o.op with
    |none=>rw[hc]at h;cases h
    |some c'=>
     rw[hc]at h;cases h;obtain⟨t,ht,rfl⟩:=WT hc;exact WI ht hd hn k
   ·cases h
  ·cases hc:rx P o.op with
   |none=>rw[hc]at h;cases h
   |some c'=>
    rw[hc]at h;cases h;unfold rx at hc;split at hc
    ·(repeat' (split at hc))<;>cases hc
    ·exact absurd hc HG
    ·cases hc
 |_=>exact jO h k
end
inductive CI where
 |o (c:CO)
 |g (s:Nat) (want:Bool) (d:Option Nat) (c:CO)
def jP(P:Program)(n:Nat)(ops:Array Oper)(o:Oper):Option CI:=
 match og P n o with
 |some c=>(match o.guard with
  |none=>some (.o c)
  |some (j,want)=>(match ops[j]? with
   |some oj=>(match oj.dst,o.dst with
    |some s,some d=>if d<n then some (.g s want (some d) c)else none
    |some s,none=>some (.g s want none c)
    |_,_=>none)
   |none=>none))
 |none=>none
def oi:Op->Bool
 | .defer _=>true
 |_=>false
def tp{op:Op}(h:oi op=false):∀c,op≠ .defer c:=fun c e=>by rw[e]at h;cases h
def gZ(P:Program)(n:Nat)(ops:Array Oper):List Oper->Option (List CI)
 |[]=>some []
 |o::l=>(match jP P n ops o,gZ P n ops l,oi o.op with
  |some c,some cl,false=>some (c::cl)
  |_,_,_=>none)
def wR{P:Program}{n:Nat}{ops:Array Oper}:∀{l:List Oper} {cl:List CI},gZ P n ops l=some cl->∀o∈l,oi o.op=false
 |[],_,_=>sA
 |o::l,cl,h=>by
  simp only[gZ]at h;split at h
  ·rename_i c rL hc br hdf;intro o' ho';rcases qO.1 ho' with rfl|ho'
   ·exact hdf
   ·exact wR br o' ho'
  ·cases h
def iW(x:A)(s:Nat)(want:Bool)(d:Option Nat)(K1 K2:SP)(S:St):Prop:=
 match x with
 | .t (.v (.bool b))=>(b=want->K1 {S with env:=ak S.env s (.t (.v (.bool want)))})/\(b= !want->K2 (St.put {S with env:=ak S.env s (.t (.v (.bool !want)))} d nl))
 | .t (.v (.tuple _))=>K2 (St.put S d nl)
 |_=>False
def tq(x:A)(K1 K2:SP)(S:St):Prop:=
 match x with
 | .t (.v (.bool b))=>(b=true->K1 S)/\(b=false->K2 S)
 |_=>False
def fF(P:Program)(n:Nat):List CI->SP->St->Prop
 |[],K,S=>K S
 | .o c::l,K,S=>cu P n c (fF P n l K) S
 | .g s want d c::l,K,S=>iW (S.env s) s want d (cu P n c (fF P n l K)) (fF P n l K) S
section
variable {P:Program} {n:Nat} {S:St}
def rN(e:Nat->A)(s:Nat)(a:A)(h:e s=a):ak e s a=e:=by
 funext i;by_cases hi:i=s
 ·subst hi;simp[aT,h]
 ·simp[aU _ _ _ _ hi]
def HI{ops:Array Oper}{K:SP}:∀(l:List Oper) (k:Nat) (cl:List CI) (S:St),ops.toList.drop k=l->gZ P n ops l=some cl->fF P n cl K S->dx P n ops (List.range' k l.length) S K
 |[],k,cl,S,_,h,hW=>by
  simp only[gZ,Option.some.injEq]at h;subst h;exact .nil hW
 |o::l,k,cl,S,hd,h,hW=>by
  have ho:ops[k]? =some o:=by
   have:(ops.toList.drop k)[0]? =some o:=by rw[hd];rfl
   rw[List.getElem?_drop]at this;simpa using this
  have hd':ops.toList.drop (k+1)=l:=by rw[←List.drop_drop,hd];rfl
  simp only[gZ]at h;split at h
  ·rename_i c rL hc br hdf;cases h;have rest:∀S',fF P n rL K S'->dx P n ops (List.range' (k+1) l.length) S' K:=fun S' li=>HI l (k+1) rL S' hd' br li;have mono:∀{S'},aQ P n o S' (fF P n rL K)->aQ P n o S' fun nt=>dx P n ops (List.range' (k+1) l.length) nt K:=fun{S'} h X w0 O0 a w hs fp g Q=>
    Go.Oper.wp_mono (fun a' w' ⟨nt,hs',al,g',k'⟩=>⟨nt,hs',al,g',rest nt k'⟩) (h X w0 O0 a w hs fp g Q)
   simp only[List.length_cons,List.range'_succ];simp only[jP]at hc;split at hc
   ·rename_i co kK;split at hc
    ·rename_i hg;cases hc;exact .cons ho hg (mono (jO kK hW))
    ·rename_i j want hg;split at hc
     ·rename_i oj uG;have core:∀s d,oj.dst=some s->o.dst=d->(∀k,d=some k->k<n)->fF P n (.g s want d co::rL) K S->dx P n ops (k::List.range' (k+1) l.length) S K:=by
       intro s d hs dR hdn hW;simp only[fF]at hW;unfold iW at hW;split at hW
       ·rename_i b hb;refine dx.guard ho hg uG hs hb (fun k hk=>hdn k (dR▸hk)) (fun e=>?_) (fun e=>?_)
        ·have h1:=hW.1 e;rw[rN _ _ _ (by rw[hb,e])]at h1;exact mono (jO kK h1)
        ·have e':b= !want:=by cases b<;>cases want<;>simp_all
         have h1:=hW.2 e';rw[rN _ _ _ (by rw[hb,e'])]at h1;rw[dR];exact rest _ h1
       ·rename_i xs hb;refine dx.MY ho hg uG hs hb (fun k hk=>hdn k (dR▸hk)) ?_;rw[dR];exact rest _ hW
       ·exact hW.elim
      split at hc
      ·rename_i s d hs dR;split at hc
       ·rename_i hdn;cases hc;exact core s (some d) hs dR (fun k hk=>by cases hk;exact hdn) hW
       ·cases hc
      ·rename_i s hs dR;cases hc;exact core s none hs dR (fun k hk=>by cases hk) hW
      ·cases hc
     ·cases hc
   ·cases hc
  ·cases h
def CI.nr:CI->CI
 | .o c=>.o c.nr
 | .g s w d c=>.g s w d c.nr
def Nv{ops:Array Oper}{K:SP}:∀(l:List Oper) (k:Nat) (cl:List CI) (S:St),ops.toList.drop k=l->gZ P n ops l=some cl->fF P n (cl.map CI.nr) K S->dx P n ops (List.range' k l.length) S K
 |[],k,cl,S,_,h,hW=>by
  simp only[gZ,Option.some.injEq]at h;subst h;exact .nil hW
 |o::l,k,cl,S,hd,h,hW=>by
  have ho:ops[k]? =some o:=by
   have:(ops.toList.drop k)[0]? =some o:=by rw[hd];rfl
   rw[List.getElem?_drop]at this;simpa using this
  have hd':ops.toList.drop (k+1)=l:=by rw[←List.drop_drop,hd];rfl
  simp only[gZ]at h;split at h
  ·rename_i c rL hc br hdf;cases h;have rest:∀S',fF P n (rL.map CI.nr) K S'->dx P n ops (List.range' (k+1) l.length) S' K:=fun S' li=>Nv l (k+1) rL S' hd' br li;have mono:∀{S'},aQ P n o S' (fF P n (rL.map CI.nr) K)->aQ P n o S' fun nt=>dx P n ops (List.range' (k+1) l.length) nt K:=fun{S'} h X w0 O0 a w hs fp g Q=>
    Go.Oper.wp_mono (fun a' w' ⟨nt,hs',al,g',k'⟩=>⟨nt,hs',al,g',rest nt k'⟩) (h X w0 O0 a w hs fp g Q)
   simp only[List.length_cons,List.range'_succ];simp only[jP]at hc;split at hc
   ·rename_i co kK;split at hc
    ·rename_i hg;cases hc;exact .cons ho hg (mono (Nu kK hW))
    ·rename_i j want hg;split at hc
     ·rename_i oj uG;have core:∀s d,oj.dst=some s->o.dst=d->(∀k,d=some k->k<n)->fF P n (.g s want d co.nr::rL.map CI.nr) K S->dx P n ops (k::List.range' (k+1) l.length) S K:=by
       intro s d hs dR hdn hW;simp only[fF]at hW;unfold iW at hW;split at hW
       ·rename_i b hb;refine dx.guard ho hg uG hs hb (fun k hk=>hdn k (dR▸hk)) (fun e=>?_) (fun e=>?_)
        ·have h1:=hW.1 e;rw[rN _ _ _ (by rw[hb,e])]at h1;exact mono (Nu kK h1)
        ·have e':b= !want:=by cases b<;>cases want<;>simp_all
         have h1:=hW.2 e';rw[rN _ _ _ (by rw[hb,e'])]at h1;rw[dR];exact rest _ h1
       ·rename_i xs hb;refine dx.MY ho hg uG hs hb (fun k hk=>hdn k (dR▸hk)) ?_;rw[dR];exact rest _ hW
       ·exact hW.elim
      split at hc
      ·rename_i s d hs dR;split at hc
       ·rename_i hdn;cases hc;exact core s (some d) hs dR (fun k hk=>by cases hk;exact hdn) hW
       ·cases hc
      ·rename_i s hs dR;cases hc;exact core s none hs dR (fun k hk=>by cases hk) hW
      ·cases hc
     ·cases hc
   ·cases hc
  ·cases h
end
end Go.Ab
