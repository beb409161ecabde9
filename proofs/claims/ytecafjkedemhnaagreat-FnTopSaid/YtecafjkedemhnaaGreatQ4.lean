import Derived.Deep.Slices
import Derived.Deep.OwnRows
import Derived.DataReads
import Derived.WideKeyArgs
import Derived.WideShapes
import Derived.ChangeShapes
import Derived.ProofKit
import Derived.OpenShut
import Derived.JoinedOf
import Derived.Handed
import Derived.RowKit
import Derived.Test.YtecafjkedemhnaaGreatRows
import Derived.Test.YtecafjkedemhnaaGreatQ3
set_option maxRecDepth 20000
set_option linter.all false
namespace Go.Ab
variable{i:Nat}{α:Type}{v:Value}{f:FuncId}{l:List (Int×Int)}{r:Int×Int}
inductive Ty where
 |int (k:IntKind)
 |bool
 |str
 |sl (s:Nat) (e:Ty)
 |st (f:Ty)
 |nil
 |cons (a r:Ty)
def Ty.wt:Ty->LA->Prop
 | .int k,l=>∃n,l=[.v (.int k n)]/\(Lit.int k n).wf=true
 | .bool,l=>∃b,l=[.v (.bool b)]
 | .str,l=>∃s,l=[.v (.string s)]/\s.size<=maxLen
 | .sl s e,l=>∃xs:List LA,l=[.sh s xs.flatten]/\xs.length<=maxLen/\∀x∈xs,x.length=s/\e.wt x
 | .st f,l=>f.wt l
 | .nil,l=>l=[]
 | .cons a r,l=>∃l1 l2,l=l1++l2/\a.wt l1/\r.wt l2
def Ty.OU:Ty->T->Prop
 | .st f,t=>∃l,t= .agg l/\f.wt l
 |ty,t=>ty.wt [t]
mutual
def Ty.fits(P:Program):Ty->TypeId->Bool
 | .int k,t=>(match P.underlying t with|some (.int k')=>decide (k'=k)|_=>false)
 | .bool,t=>(match P.underlying t with|some .bool=>true|_=>false)
 | .str,t=>(match P.underlying t with|some .string=>true|_=>false)
 | .sl s e,t=>(match P.underlying t with|some (.slice et)=>decide (P.cellsOf et=s)&&decide (0<s)&&e.fits P et|_=>false)
 | .st f,t=>(match P.underlying t with|some (.struct fs)=>f.oB P (P.cellsOf t) 0 fs.toList|_=>false)
 | .nil,_=>false
 | .cons _ _,_=>false
def Ty.oB(P:Program):Ty->Nat->Nat->List Field->Bool
 | .nil,n,o,[]=>decide (o=n)
 | .cons a r,n,o,f::fs=>decide (f.offset=o)&&a.fits P f.type&&r.oB P n (o+P.cellsOf f.type) fs
 |_,_,_,_=>false
end
section
variable {H:Type} {enc:TypeId×Value->H} {P:Program} {w:World} {base:Nat} {spare:Nat->Bool} {held:Bool}
def OW{a:Addr}(h:w.cell? a=some v):a.spot=none/\∃cs e fz,w.heap[a.block]? =some (.cells cs e fz)/\cs[a.off]? =some v:=by
 unfold World.cell? at h;split at h
 ·rename_i c e fz hc;split at h
  ·cases h
  ·rename_i hs;exact⟨sU hs,c,e,fz,hc,h⟩
 ·cases h
def Em(a:Addr)(i:Nat):(a.add i).block=a.block:=by
 unfold Addr.add;split<;>rfl
def OX(a:Addr)(i:Nat):(a.add i).off=a.off+i:=by
 unfold Addr.add;split
 ·rename_i h;subst h;rfl
 ·rfl
def getD_some{vs:LV}(h:vs[i]? =some v):vs.getD i undef=v:=by
 rw[qA,h];rfl
def Ty.read(O:NP)(hO:∀b,¬O b):∀(ty:Ty),
  (∀(t:TypeId) (fuel:Nat) (cs:LV) (x:DataW H×List MemPlace),ty.fits P t=true->DataW.trod enc P w base (fun _=>true) held fuel t cs=some x→
   ∃l,ty.wt l/\l.length=cs.length/\∀i (h:i<l.length),Rd w O l[i] (cs.getD i undef))∧
  (∀(n o:Nat) (fs:List Field) (fuel:Nat) (cs:LV),ty.oB P n o fs=true->cs.length=n→
   (∀f∈fs,∃x,DataW.trod enc P w base (fun _=>true) held fuel f.type ((cs.drop f.offset).take (P.cellsOf f.type))=some x)→
   ∃l,ty.wt l/\l.length=n-o/\(∀i (h:i<l.length),Rd w O l[i] ((cs.drop o).getD i undef))):=by
 have one:∀(v:Value),∀i (h:i< [T.v v].length),Rd w O [T.v v][i] ([v].getD i undef):=fun v i h=>by
  have:i=0:=sU h;subst this;exact .v v
 intro ty;induction ty with
 |int k=>
  refine⟨fun t fuel cs x hf h=>?_,fun n o fs fuel cs hf=>by simp[Ty.oB]at hf⟩;simp only[Ty.fits]at hf;split at hf
  ·rename_i k' ht;have:k'=k:=sU hf;subst this;obtain⟨n,rfl,_,hw⟩:=DataW.trod_int ht h;exact⟨_,⟨n,rfl,hw⟩,rfl,one _⟩
  ·cases hf
 |bool=>
  refine⟨fun t fuel cs x hf h=>?_,fun n o fs fuel cs hf=>by simp[Ty.oB]at hf⟩;simp only[Ty.fits]at hf;split at hf
  ·rename_i ht;obtain⟨n,rfl,_⟩:=DataW.trod_bool ht h;exact⟨_,⟨n,rfl⟩,rfl,one _⟩
  ·cases hf
 |str=>
  refine⟨fun t fuel cs x hf h=>?_,fun n o fs fuel cs hf=>by simp[Ty.oB]at hf⟩;simp only[Ty.fits]at hf;split at hf
  ·rename_i ht;obtain⟨n,rfl,_,hw⟩:=DataW.trod_string ht h;exact⟨_,⟨n,rfl,hw⟩,rfl,one _⟩
  ·cases hf
 |sl s e ih=>
  refine⟨fun t fuel cs x hf h=>?_,fun n o fs fuel cs hf=>by simp[Ty.oB]at hf⟩;simp only[Ty.fits]at hf;split at hf
  ·rename_i et ht;simp only[qM,decide_eq_true_eq]at hf;obtain⟨⟨hs,hs0⟩,ZE⟩:=hf;have single:∀(t:T) (v:Value),Rd w O t v->∀i (h:i< [t].length),Rd w O [t][i] ([v].getD i undef):=fun t v hr i h=>by
    have:i=0:=sU h;subst this;exact hr
   rcases Deep.open_slice ht h with⟨rfl,_⟩|⟨a,len,cap,m,n,D,Pl,rfl,hb,hl,hm,uN,_,hx⟩
   ·exact⟨_,⟨[],rfl,Nat.zero_le _,sA⟩,rfl,single _ _ (.nZ s)⟩
   ·simp only[if_true]at uN;subst uN;have each:∀i,i<len->∃y:LA×LV,w.cells? base (a.add (i*s)) s=some y.2/\e.wt y.1/\y.1.length=s/\∀j (h:j<y.1.length),Rd w O y.1[j] (y.2.getD j undef):=by
     intro i hi;obtain⟨cs',h1,h2⟩:=hx i om;rw[hs]at h1;obtain⟨l,mD,hlen,hr⟩:=ih.1 _ _ _ _ ZE h2;exact⟨(l,cs'),h1,mD,hlen.trans (World.cells?_some h1).2.1,hr⟩
    obtain⟨y,hy⟩:=Deep.choose_lt each;rcases Nat.eq_zero_or_pos len with h0|h0
    ·subst h0;exact⟨_,⟨[],rfl,Nat.zero_le _,sA⟩,rfl,single _ _ (.sW s a _)⟩
    ·have cell:∀i j,i<len->j<s->w.cell? ((a.add (i*s)).add j)=some ((y i).2.getD j undef):=fun i j hi hj=>by
      obtain⟨h1,mD,hlen,hr⟩:=hy i hi;obtain⟨_,h2,h3⟩:=World.cells?_some h1;rw[h3 j hj,qA,qB om];rfl
     have OY:=cell 0 0 h0 hs0;rw[Nat.zero_mul]at OY;obtain⟨hsp,cs,ee,fz,hblk,_⟩:=OW OY;rw[Em,Em]at hblk;have at':∀i j,i<len->j<s->cs[a.off+i*s+j]? =some ((y i).2.getD j undef):=fun i j hi hj=>by
      obtain⟨_,cs2,e2,fz2,h1,h2⟩:=OW (cell i j hi hj);rw[Em,Em,hblk]at h1;simp only[Option.some.injEq,Obj.cells.injEq]at h1;rw[OX,OX,←h1.1]at h2;exact h2
     have OZ:a.spot=none:=by
      unfold Addr.add at hsp;simpa using hsp
     obtain⟨b,off,sp⟩:=a;simp only at OZ hblk at';subst OZ;have hfl:∀i,i<=len->(((List.range i).map fun i=>(y i).1).flatten).length=i*s:=fun i=>by
      induction i with
      |zero=>intro _;simp
      |succ i ihi=>
       intro hi;rw[List.range_succ,qG,qY,qD,ihi om];simp only[List.map_cons,List.map_nil,qZ,List.flatten_nil,List.append_nil,(hy i om).2.2.1,Nat.succ_mul]
     refine⟨[.sh s ((List.range len).map fun i=>(y i).1).flatten],⟨_,rfl,by simp;exact rA hl hm,fun x hx=>?_⟩,rfl,single _ _ ?_⟩
     ·obtain⟨i,hi,rfl⟩:=qN.1 hx;have:=hy i (sU hi);exact⟨this.2.2.1,this.2.1⟩
     ·have En:=at' (len-1) (s-1) om om;obtain⟨hlt,_⟩:=qF.1 En;have hmul:(len-1)*s+s=len*s:=by rw[←Nat.succ_mul];congr 1;omega
      refine .sh s _ b off len _ cs ee fz (hO b) hblk (by rw[hfl len (qR _)];omega) (hfl len (qR _)) hl fun k hk=>?_;rw[hfl len (qR _)]at hk;have hi:k/s<len:=Nat.div_lt_of_lt_mul (by rw[Nat.mul_comm];exact hk);have hj:k%s<s:=Nat.mod_lt _ hs0;have hk':k/s*s+k%s=k:=by rw[Nat.mul_comm];exact Nat.div_add_mod k s
      have e1:(((List.range len).map fun i=>(y i).1).flatten)[k]? =(y (k/s)).1[k%s]? :=by
       have hsplit:∃rest,List.range len=List.range (k/s)++(k/s)::rest:=by
        refine⟨((List.range (len-k/s-1)).map Nat.succ).map (k/s+ ·),?_⟩;have h1:List.range (k/s+(len-k/s))=List.range (k/s)++(List.range (len-k/s)).map (k/s+ ·):=List.range_add;rw[show k/s+(len-k/s)=len by omega]at h1;have h2:List.range (len-k/s)=0::(List.range (len-k/s-1)).map Nat.succ:=by
         rw[←List.range_succ_eq_map];congr 1;omega
        rw[h1,h2];rfl
       obtain⟨rest,hsplit⟩:=hsplit;rw[hsplit,qG,qY,rD (by rw[hfl _ (Nat.le_of_lt hi)];omega),hfl _ (Nat.le_of_lt hi),List.map_cons,qZ,
        rR (by rw[(hy _ hi).2.2.1];omega)]
       congr 1;omega
      have hjl:k%s<(y (k/s)).1.length:=by rw[(hy _ hi).2.2.1];exact hj
      have Eo:(((List.range len).map fun i=>(y i).1).flatten)[k]'(by rw[hfl len (qR _)];exact hk)=(y (k/s)).1[k%s]:=by
       have h1:=qB (l:=((List.range len).map fun i=>(y i).1).flatten) (i:=k) (by rw[hfl len (qR _)];exact hk);rw[e1,qB hjl]at h1;exact(Option.some.inj h1).symm
      rw[Eo];have hc:=at' (k/s) (k%s) hi hj;rw[Nat.add_assoc,hk']at hc;have:cs.getD (off+k) undef=(y (k/s)).2.getD (k%s) undef:=by rw[qC,hc];rfl
      rw[this];exact(hy _ hi).2.2.2 _ hjl
  ·cases hf
 |st f ih=>
  refine⟨fun t fuel cs x hf h=>?_,fun n o fs fuel cs hf=>by simp[Ty.oB]at hf⟩;simp only[Ty.fits]at hf;split at hf
  ·rename_i fs ht;obtain⟨xs,n,rfl,_,hlen,nv,hx⟩:=DataW.trod_struct ht h;obtain⟨l,mD,hl,hr⟩:=ih.2 _ _ _ n cs hf hlen (fun f hf'=>by
    obtain⟨i,hi,rfl⟩:=rE.1 hf';have h1:=hx i fs.toList[i] (by simp only[Array.length_toList]at hi;simp[hi]);have hi':i<xs.length:=by rw[nv];simpa using hi
    rw[qB hi']at h1;exact⟨_,h1⟩)
   exact⟨l,mD,om,sU hr⟩
  ·cases hf
 |nil=>
  refine⟨fun t fuel cs x hf h=>by simp[Ty.fits]at hf,fun n o fs fuel cs hf hn _=>?_⟩;cases fs with
  |cons f fs=>simp[Ty.oB]at hf
  |nil=>
   have:o=n:=(by simpa[Ty.oB]using hf);exact⟨[],rfl,by simp;omega,fun i h=>absurd h sA⟩
 |cons a r yw ihr=>
  refine⟨fun t fuel cs x hf h=>by simp[Ty.fits]at hf,fun n o fs fuel cs hf hn hx=>?_⟩;cases fs with
  |nil=>simp[Ty.oB]at hf
  |cons f fs=>
   simp only[Ty.oB,qM,decide_eq_true_eq]at hf;obtain⟨⟨rfl,ZF⟩,hfr⟩:=hf;obtain⟨x,h1⟩:=hx f sA;obtain⟨l1,hw1,fJ,fE⟩:=yw.1 _ _ _ _ ZF h1;obtain⟨l2,dr,bO,cP⟩:=ihr.2 _ _ _ fuel cs hfr hn (fun g hg=>hx g (by simp[hg]));simp only[qL,List.length_drop]at fJ;refine⟨l1++l2,⟨l1,l2,rfl,hw1,dr⟩,by rw[qD];omega,fun i h=>?_⟩;by_cases hi:i<l1.length
   ·rw[List.getElem_append_left hi];have:=fE i hi;rwa[qA,List.getElem?_take_of_lt om,←qA]at this
   ·rw[List.getElem_append_right om];have:=cP (i-l1.length) (by rw[qD]at h;omega);rw[qA,List.getElem?_drop]at this ⊢;rw[qD]at h;rwa[show f.offset+P.cellsOf f.type+(i-l1.length)=f.offset+i by omega]at this
end
open Go.ChangeShapes Go.WideShapes Go.ChangeAt Go.RowKit
def sg(P:Program):List Ty->List TypeId->Bool
 |[],[]=>true
 |ty::tys,t::ts=>ty.fits P t&&decide (t<P.types.size)&&P.readableRec t&&sg P tys ts
 |_,_=>false
def Ep:List Ty->LA->Prop
 |[],[]=>True
 |ty::tys,x::xs=>ty.OU x/\Ep tys xs
 |_,_=>False
section
variable {H:Type} {enc:TypeId×Value->H} {P:Program} {w:World} {base:Nat} {held:Bool}
def Ty.ZG(O:NP)(hO:∀b,¬O b){ty:Ty}{t:TypeId}{d:DataW H}{ps:List MemPlace}{w':World}{r:Reach}{b0:Nat}(hf:ty.fits P t=true)(hok:Value.okWide P w' r b0 t v)(h:DataW.Trod enc P w base (fun _=>true) held t v d ps):∃x,ty.OU x/\Rd w O x v:=by
 obtain⟨fuel,h⟩:=h;obtain⟨l,mD,hl,hr⟩:=(Ty.read (P:=P) O hO ty).1 t fuel _ _ hf h;have single:v.cells=#[v]->∀x:T,l=[x]->Rd w O x v:=fun hc x hx=>by
  subst hx;have:=hr 0 sA;rw[hc]at this;exact this
 cases ty with
 |int k=>
  simp only[Ty.fits]at hf;split at hf
  ·rename_i k' ht;obtain⟨n,rfl⟩:=okWide_int ht hok;obtain⟨m,rfl,hw⟩:=mD;exact⟨_,⟨m,rfl,hw⟩,single rfl _ rfl⟩
  ·cases hf
 |bool=>
  simp only[Ty.fits]at hf;split at hf
  ·rename_i ht;obtain⟨n,rfl⟩:=okWide_bool ht hok;obtain⟨m,rfl⟩:=mD;exact⟨_,⟨m,rfl⟩,single rfl _ rfl⟩
  ·cases hf
 |str=>
  simp only[Ty.fits]at hf;split at hf
  ·rename_i ht;obtain⟨n,rfl⟩:=okWide_string ht hok;obtain⟨m,rfl,hw⟩:=mD;exact⟨_,⟨m,rfl,hw⟩,single rfl _ rfl⟩
  ·cases hf
 |sl s e=>
  simp only[Ty.fits]at hf;split at hf
  ·rename_i et ht;obtain⟨a,len,cap,rfl⟩:=okWide_slice ht hok;obtain⟨m,rfl,hw⟩:=mD;exact⟨_,⟨m,rfl,hw⟩,single rfl _ rfl⟩
  ·cases hf
 |st f=>
  simp only[Ty.fits]at hf;split at hf
  ·rename_i fs ht;simp only[Value.okWide,ht]at hok;obtain⟨cs,rfl,_,_⟩:=hok;refine⟨.agg l,⟨l,rfl,mD⟩,?_⟩;have:=Rd.agg (w:=w) (O:=O) l cs.toList (by rw[hl];rfl) hr;simpa using this
  ·cases hf
 |nil=>simp[Ty.fits]at hf
 |cons a r=>simp[Ty.fits]at hf
def O1(O:NP)(hO:∀b,¬O b){w':World}{r:Reach}{b0:Nat}:∀{tys:List Ty} {ts:List TypeId} {vs:LV} {ds:List (DataW H)} {ps:List MemPlace},sg P tys ts=true→
  DataW.TrodAll enc P w base (fun _=>true) held ts vs ds ps->(∀(j:Nat) (t:TypeId) (v:Value),ts[j]? =some t->vs[j]? =some v->Value.okWide P w' r b0 t v)→
  ∃xs,Ep tys xs/\vs.length=xs.length/\ds.length=tys.length/\∀i (h:i<xs.length),Rd w O xs[i] (vs.getD i undef)
 |[],[],vs,ds,ps,_,h,_=>by
  cases vs<;>cases ds<;>simp only[DataW.TrodAll]at h;exact⟨[],trivial,rfl,rfl,fun i h=>absurd h sA⟩
 |[],_::_,vs,ds,ps,hf,h,_=>by simp[sg]at hf
 |_::_,[],vs,ds,ps,hf,h,_=>by simp[sg]at hf
 |ty::tys,t::ts,vs,ds,ps,hf,h,hok=>by
  simp only[sg,qM]at hf;cases vs with
  |nil=>simp[DataW.TrodAll]at h
  |cons v vs=>
   cases ds with
   |nil=>simp[DataW.TrodAll]at h
   |cons d ds=>
    obtain⟨p,q,h1,h2,_⟩:=h;obtain⟨x,hx,hr⟩:=Ty.ZG O hO hf.1.1.1 (hok 0 t v rfl rfl) h1;obtain⟨xs,hxs,hl,hd,pB⟩:=O1 O hO hf.2 h2 (fun j t v h1 h2=>hok (j+1) t v (sU h1) (by simpa using h2));refine⟨x::xs,⟨hx,hxs⟩,by simp[hl],by simp[hd],fun i hi=>?_⟩;cases i with
    |zero=>exact hr
    |succ i=>simpa[qA]using pB i (sU hi)
def O2{w w':World}{sp:Nat->Bool}(hl:laidOutB P=true):∀{tys:List Ty} {ts:List TypeId} {vs:LV} {ds:List (DataW H)} {ps:List MemPlace},sg P tys ts=true→
  DataW.TrodAll enc P w base (fun _=>true) true ts vs ds ps->(∀p∈ps,w.sameAt w' p/\sp p.block=true)->DataW.TrodAll enc P w' base sp true ts vs ds ps
 |[],[],vs,ds,ps,_,h,_=>by
  cases vs<;>cases ds<;>simp only[DataW.TrodAll]at h ⊢;exact h
 |[],_::_,vs,ds,ps,hf,h,_=>by simp[sg]at hf
 |_::_,[],vs,ds,ps,hf,h,_=>by simp[sg]at hf
 |ty::tys,t::ts,vs,ds,ps,hf,h,hs=>by
  simp only[sg,qM,decide_eq_true_eq]at hf;cases vs with
  |nil=>simp[DataW.TrodAll]at h
  |cons v vs=>
   cases ds with
   |nil=>simp[DataW.TrodAll]at h
   |cons d ds=>
    obtain⟨p,q,h1,h2,rfl⟩:=h;exact⟨p,q,WideElems.Trod_stays hl hf.1.2 hf.1.1.2 h1 (fun x hx=>(hs x (by simp[hx])).1) (fun x hx=>(hs x (by simp[hx])).2),O2 hl hf.2 h2 (fun x hx=>hs x (by simp[hx])),rfl⟩
def ZH{fn:Func}{s:ChangeSpec}{tys:List Ty}{tb:TypeId}{apart fresh handsOn:Bool}(ZI:laidOutB P=true)(hfit:sg P tys fn.params.toList=true)(hres:fn.resultTypes=#[tb])(ZJ:P.underlying tb=some .bool)(hvars:s.vars=[])(IE:∀(ds:List (DataW H)),ds.length=tys.length->s.fn H ds={results:=[.lit (.bool true)],args:=ds})(hF:∀xs,Ep tys xs->Pure P f xs (.b true))(W:World)(base:Nat)(args:Array Value)(ds gs:List (DataW H))(before:List MemPlace)(hval:∀(j:Nat) t v,fn.params[j]? =some t->args[j]? =some v->Value.okWide P W .any base t v)(hW:DataW.Whole enc P fn.params.toList s.vars apart W args.toList ds gs before):Calls P f args W fun e W'=>∃v,e= .returned v/\s.post enc P fn apart fresh handsOn false W args v W':=by
 have O3:=hW;obtain⟨p,q,hA,hV,rfl,hfz,aK⟩:=hW;rw[hvars]at hV;have ZK:=hV;cases gs with
 |cons _ _=>simp[DataW.TrodVars]at hV
 |nil=>
  simp only[DataW.TrodVars]at hV;subst hV;obtain⟨xs,mD,hlen,hdl,hr⟩:=O1 (P:=P) (fun _=>False) (fun _ h=>h) hfit hA (fun j t v h1 h2=>hval j t v (sU h1) (by simpa using h2));have hlt:∀x∈p,x.block<W.heap.size:=fun x hx=>O3.lt x (by simp[hx]);have mem:Mem (fun _=>False) W [] (fun _=>none) (fun _=>[]):=⟨fun i t h=>by simp at h,fun _ _=>⟨rfl,rfl⟩,fun _ _ b h=>by simp at h,fun _=>sA,fun _ b h=>by simp at h,fun _ h=>h.elim,fun _ _ h=>by cases h⟩;have hO:∀b,¬Ob (fun _=>False) (fun _=>[]) b:=fun b h=>by
   rcases h with h|⟨r,h⟩
   ·exact h
   ·simp at h
  have hc:=hF xs mD _ W args.toList _ _ mem (sU hlen) (fun i h=>by
   have hi:i<xs.length:=sU h;rw[rQ];exact .t ((hr i hi).mono (fun _ _ _ _ _ h=>h) (fun b _ _=>hO b)))
  simp only[Array.toArray_toList]at hc;refine hc.mono ?_;rintro e W' ⟨v,res,aA,fr,al,rfl,⟨rfl,rfl⟩,_,out⟩;have hv:v= .bool true:=by
   cases out.res with
   |rd h=>cases h;rfl
  subst hv;have hs:W.Since W.heap.size W':=⟨out.os,out.tape,out.output,out.size,fun b hb=>out.frame b hb (fun j h=>by simp at h)⟩;refine⟨_,rfl,ds,[],p++[],[],p,[],O3,?_,?_,?_,hs.frame _,fun h=>by cases h⟩
  ·rw[List.append_nil,IE ds hdl,hres];exact trodAll_cons_mk (shut_bool ZJ _) trodAll_mk0
  ·rw[List.append_nil,IE ds hdl];exact O2 ZI hfit hA fun x hx=>⟨hs.sameAt (hlt x hx),sU (hlt x hx)⟩
  ·rw[List.append_nil,IE ds hdl,hvars];exact ZK
end
def ints(l:LI):T:=.sh 1 (l.map T.i)
def rows(m:LL):T:=.sh 1 (m.map ints)
def ae(l:LI):T:=.arr 1 (l.map T.i)
def a_(m:LL):T:=.arr 1 (m.map ae)
def rat(r:Int×Int):T:=.agg [T.i r.1,T.i r.2]
def gC(l:List (Int×Int)):LA:=l.flatMap fun r=>[T.i r.1,T.i r.2]
def cG(l:List (Int×Int)):T:=.sh 2 (gC l)
def ku(l:List (Int×Int)):T:=.arr 2 (gC l)
def Es(r:Int×Int)(l:List (Int×Int)):gC (r::l)=T.i r.1::T.i r.2::gC l:=rfl
def IF(l l':List (Int×Int)):gC (l++l')=gC l++gC l':=by simp[gC]
def oC:∀l:List (Int×Int),(gC l).length=l.length*2
 |[]=>rfl
 |r::l=>by rw[Es];simp[oC l];omega
def ZL(l:List (Int×Int)):(gC l).length/2=l.length:=by rw[oC];omega
def O4:∀(l:List (Int×Int)) (i:Nat),(gC l).drop (i*2)=gC (l.drop i)
 |l,0=>sA
 |[],i+1=>by simp[gC]
 |r::l,i+1=>by rw[Es,show(i+1)*2=i*2+1+1 by omega,List.drop_succ_cons,List.drop_succ_cons,O4 l i];rfl
def O5(h:l[i]? =some r):((gC l).drop (i*2)).take 2=[T.i r.1,T.i r.2]:=by
 obtain⟨hi,rfl⟩:=qK.1 h;rw[O4,List.drop_eq_getElem_cons hi,Es];rfl
def ZM(h:l[i]? =some r):(gC l)[i*2]? =some (T.i r.1):=by
 have:=congrArg (·[0]?) (O5 h);simpa[List.getElem?_take,List.getElem?_drop]using this
def ZN(h:l[i]? =some r):(gC l)[i*2+1]? =some (T.i r.2):=by
 have:=congrArg (·[1]?) (O5 h);simpa[List.getElem?_take,List.getElem?_drop]using this
def si:∀l:List (Int×Int),T.cr (gC l)=gC l
 |[]=>rfl
 |r::l=>by rw[Es,T.cr,T.cr,si l];rfl
def ZO(l:List (Int×Int)):(gC l).all T.cell=true:=by
 rw[rO];intro t ht;obtain⟨x,_,h⟩:=List.mem_flatMap.1 ht;rcases qO.1 h with rfl|h
 ·rfl
 ·rcases qO.1 h with rfl|h
  ·rfl
  ·cases h
def ZP(l:List (Int×Int)):(gC l).all T.flat=true:=by
 rw[rO];intro t ht;obtain⟨x,_,h⟩:=List.mem_flatMap.1 ht;rcases qO.1 h with rfl|h
 ·rfl
 ·rcases qO.1 h with rfl|h
  ·rfl
  ·cases h
def ZQ(l:List (Int×Int)):(ku l).bJ:=by
 simp only[ku,T.bJ];rw[T.kJ];intro t ht;obtain⟨x,_,h⟩:=List.mem_flatMap.1 ht;rcases qO.1 h with rfl|h
 ·trivial
 ·rcases qO.1 h with rfl|h
  ·trivial
  ·cases h
def ZR(d k:Nat)(m:List (Int×Int)):bp d k (ku m)=(.own (eM d k),[(eM d k,ku m)],k+1):=rfl
def ZS(l:LI):rootOf (ae l)= .live (ae l) []:=rfl
def ZT(l:LL):rootOf (a_ l)= .live (a_ l) []:=rfl
def ZU(l:List (Int×Int)):rootOf (ku l)= .live (ku l) []:=rfl
attribute [go_sem] ZL ZO ZP ZR ZS ZT ZU M0 M1 MZ
def IG(l:LI):(l.map T.i).all T.cell=true:=by
 rw[rO];intro t ht;obtain⟨x,_,rfl⟩:=qN.1 ht;rfl
def ZV(l:LI):(l.map T.i).all T.flat=true:=by
 rw[rO];intro t ht;obtain⟨x,_,rfl⟩:=qN.1 ht;rfl
def ZW(m:LL):(m.map ae).all T.cell=true:=by
 rw[rO];intro t ht;obtain⟨x,_,rfl⟩:=qN.1 ht;rfl
def wrap64{n:Int}(h: -9223372036854775808<=n)(h':n<9223372036854775808):IntKind.i64.wrap n=n:=by
 simp[IntKind.wrap,IntKind.bits,IntKind.signed];omega
def aw{n:Nat}(h:i<n)(hn:n<=1000000000000):IntKind.i64.wrap ((i:Int)+1)=((i+1:Nat):Int):=by
 rw[wrap64 om om];rfl
def ZX(S:St)(au:LN)(x:T):vt S au x (.t x)=True:=by
 cases x<;>simp[vt,vb,yf]
def Et(i:Nat):(i:Int).toNat=i:=rfl
def ZY{p:α->Prop}{l:List α}{x:α}(hx:l[i]? =some x)(h:∀y∈l.take i,p y)(hp:p x):∀y∈l.take (i+1),p y:=by
 intro y hy;rw[List.take_add_one,hx]at hy;simp only[Option.toList_some,qI,List.mem_singleton]at hy;rcases hy with hy|rfl
 ·exact h y hy
 ·exact hp
def dY(l:LI):(ae l).bJ:=by
 simp only[ae,T.bJ];rw[T.kJ];intro t ht;obtain⟨x,_,rfl⟩:=qN.1 ht;simp[T.bJ]
section
variable {P:Program} {n:Nat} {S:St}
def bz.res{d:Option Nat}{fo:Operand}{ops:List Operand}{K:SP}{f:FuncId}{cap:List A}{args:List A}{res:T}(hF:cF P f [] args fun o r=>o=[]/\r=res)(au:LN)(bj:gY (S.ev fo)=some (f,cap))(b_:∀args w,(callFunc f args).run P w= .ok (.enter f args) w)
  (hargs:gn S [] au args (ops.map S.ev++cap)) (be:au=[]∨res.bJ) (hk:kI S d [] [] res K):bz P n d fo ops K S:=by
 refine bz.use bj b_ hF [] au sA trivial (fun q _=>sA) hargs fun aA res' h=>?_;obtain⟨rfl,rfl⟩:=h;refine⟨?_,hk⟩;rcases be with h|h
 ·exact .inl h
 ·exact .inr ⟨h,trivial⟩
end
section
variable {P:Program} {n:Nat} {S:St}
def bz.ref{d:Option Nat}{fo:Operand}{ops:List Operand}{K:SP}{cap:List A}{aH:LA}{args:List A}{aA:LA}{res:T}(hF:cF P f aH args fun o r=>o=aA/\r=res)(ai au:LN)(bj:gY (S.ev fo)=some (f,cap))(b_:∀args w,(callFunc f args).run P w= .ok (.enter f args) w)(dL:ai.Nodup)(hsrc:gB S ai aH)(dk:∀q∈au,q∉ai)(hargs:gn S ai au args (ops.map S.ev++cap))(be:au=[]∨(res.bJ/\T.df aA))(hk:kI S d ai aA res K):bz P n d fo ops K S:=by
 refine bz.use bj b_ hF ai au dL hsrc dk hargs fun NY res' h=>?_;obtain⟨rfl,rfl⟩:=h;exact⟨be,hk⟩
end
def sj(l:LI):T.cr (l.map T.i)=l.map T.i:=by
 rw[T.pv,List.map_map];exact rW fun _ _=>rfl
def yJ(l:LI):(ae l).bB=ints l:=by
 simp only[ae,ints,T.bB,sj]
def IH(m:LL):(a_ m).bB=rows m:=by
 simp only[a_,rows,T.bB,T.pv,List.map_map];congr 1;exact rW fun r _=>yJ r
def ii(m:LL):T.cr (m.map ae)=m.map ints:=by
 rw[T.pv,List.map_map];exact rW fun r _=>yJ r
def Eu(m:LL):(a_ m).bJ:=by
 simp only[a_,T.bJ];rw[T.kJ];intro t ht;obtain⟨x,_,rfl⟩:=qN.1 ht;exact dY x
def ZZ(d k:Nat)(m:LL):bp d k (a_ m)=(.own (eM d k),[(eM d k,a_ m)],k+1):=rfl
def Z0(d k:Nat)(m:LI):bp d k (ae m)=(.own (eM d k),[(eM d k,ae m)],k+1):=rfl
def Le.II{a a' b b':T}(h1:Le a a')(h2:Le b b'):Le (.aI [a,b]) (.aI [a',b']):=
 .aI rfl fun i h h'=>match i,h,h' with|0,_,_=>h1|1,_,_=>h2
def cF.le{P:Program}{aH:LA}{args:List A}{Q Q':LA->T->Prop}(h:cF P f aH args Q)(hq:∀o r,Q o r->∃r',Le r r'/\Q' o r'):cF P f aH args Q':=by
 intro X w vals hs fp hm hl hi;refine(h X w vals hs fp hm hl hi).mono ?_;rintro e w' ⟨v,res,aA,fr,al,rfl,hQ,hlen,out⟩;obtain⟨r',hle,Z1⟩:=hq _ _ hQ;obtain⟨fr',ho,hsub⟩:=hle.ow out.res;have sub:∀b∈fr',b∈fr:=fun b hb=>hsub.subset hb;have hO:∀b,¬uA X al fr b->b<w'.heap.size->¬uA X al fr' b:=fun b h _ h'=>by
  rcases h' with h'|h'
  ·exact h (.inl h')
  ·exact h (.inr (sub b h'))
 have keep:∀p,jK p w' w':=fun p _ _ _ _ _ h=>h;exact⟨v,r',aA,fr',al,rfl,Z1,hlen,fun i t ht=>(let⟨x,hx,yz,hr⟩:=out.root i t ht;⟨x,hx,yz.mono (keep _) hO (keep _),hr⟩),out.none,ho.mono (keep _) hO (keep _),out.cj,out.nodup,hsub.nodup out.M2,
  fun r b hb gz=>out.Hj r b hb (sub b gz),out.old,fun b hb=>out.M3 b (sub b hb),out.os,out.tape,out.output,out.size,out.frame⟩
def Z2(l:List α)(i:Nat)(x:α):fD l i [x]=l.set i x:=rfl
def Z3(l:List α)(i:Nat)(x y:α)(zs:List α):fD l i (x::y::zs)=l.take i++(x::y::zs)++l.drop (i+(x::y::zs).length):=rfl
def Z4(P:Program)(n:Nat)(all:Bool)(m:LN)(d:Nat)(f:Operand)(ops:List Operand)(K:SP)(S:St):pH P n all m (.call (some d) f ops) K S=(all=false/\lT P n d f ops m K S):=rfl
def Z5(P:Program)(n:Nat)(all:Bool)(m:LN)(d:Nat)(zs:LA)(K:SP)(S:St):pH P n all m (.alloc d zs) K S=pG (.alloc d zs) K S:=rfl
def Z6(P:Program)(n:Nat)(all:Bool)(m:LN)(d:Nat)(zs:LA)(eb:Nat)(l c:Operand)(K:SP)(S:St):pH P n all m (.make d zs eb l c) K S=pG (.make d zs eb l c) K S:=rfl
def Z7(P:Program)(n:Nat)(all:Bool)(m:LN)(d:Nat)(x:Operand)(K:SP)(S:St):pH P n all m (.box d x) K S=pG (.box d x) K S:=rfl
def Z8(P:Program)(n:Nat)(all:Bool)(m:LN)(d z len:Nat)(ps:List (Nat×Operand))(K:SP)(S:St):pH P n all m (.bslice d z len ps) K S=pG (.bslice d z len ps) K S:=rfl
def Z9(n:Nat)(a b:α):(if(0:Int)<=(n:Int)then a else b)=a:=if_pos (Int.natCast_nonneg _)
def Z_(n:Nat)(a b:α):(if(0:Int)<=(n:Int)+1 then a else b)=a:=if_pos om
attribute [go_sem] Z9 Z_
def n'(k q:Nat):List.filter (fun p:Nat×Nat=>decide (p.fst<k)||decide (k+1<=p.fst)) [(k,q)]=[]:=by
 rw[List.filter_cons_of_neg sA];rfl
attribute [go_sem] n' List.set_set bp f_ List.filter_nil List.all_cons List.all_nil Z2 Z3 List.take_succ_cons List.take_zero List.drop_succ_cons List.drop_zero List.set_cons_zero List.set_cons_succ List.length_set List.cons_append List.append_nil Bool.true_and Bool.and_true Bool.false_and
def C'(s:Nat)(d:Option Nat)(K1 K2:SP)(S:St):iW (.t (.v (.bool true))) s true d K1 K2 S=K1 {S with env:=ak S.env s (.t (.v (.bool true)))}:=by simp[iW]
def F'(s:Nat)(d:Option Nat)(K1 K2:SP)(S:St):iW (.t (.v (.bool false))) s false d K1 K2 S=K1 {S with env:=ak S.env s (.t (.v (.bool false)))}:=by simp[iW]
def G'(s:Nat)(d:Option Nat)(K1 K2:SP)(S:St):iW (.t (.v (.bool false))) s true d K1 K2 S=K2 (St.put {S with env:=ak S.env s (.t (.v (.bool false)))} d nl):=by simp[iW]
def I'(s:Nat)(d:Option Nat)(K1 K2:SP)(S:St):iW (.t (.v (.bool true))) s false d K1 K2 S=K2 (St.put {S with env:=ak S.env s (.t (.v (.bool true)))} d nl):=by simp[iW]
def J'(K1 K2:SP)(S:St):tq (.t (.v (.bool true))) K1 K2 S=K1 S:=by simp[tq]
def L'(K1 K2:SP)(S:St):tq (.t (.v (.bool false))) K1 K2 S=K2 S:=by simp[tq]
def N'(b:Bool)(s:Nat)(want:Bool)(d:Option Nat)(K1 K2:SP)(S:St):iW (.t (.v (.bool b))) s want d K1 K2 S=((b=want->K1 {S with env:=ak S.env s (.t (.v (.bool want)))})/\(b= !want->K2 (St.put {S with env:=ak S.env s (.t (.v (.bool !want)))} d nl))):=rfl
def P'(b:Bool)(K1 K2:SP)(S:St):tq (.t (.v (.bool b))) K1 K2 S=((b=true->K1 S)/\(b=false->K2 S)):=rfl
def T'(xs:Array Value)(s:Nat)(want:Bool)(d:Option Nat)(K1 K2:SP)(S:St):iW (.t (.v (.tuple xs))) s want d K1 K2 S=K2 (St.put S d nl):=rfl
def U'(s:Nat)(want:Bool)(d:Option Nat)(K1 K2:SP)(S:St):iW nl s want d K1 K2 S=K2 (St.put S d nl):=rfl
attribute [go_sem high] T' U' C' F' G' I' J' L'
attribute [go_sem] Value.oneCell' decide_true bne_self_eq_false true_or List.nil_append IG ZW ZV Nat.zero_ne_one Nat.add_zero Nat.zero_add cW.eq_1 cW.eq_2 cW.eq_3 cW.eq_4 cW.eq_5 cW.eq_6 cW.eq_7 cW.eq_8 cW.eq_9 cW.eq_10 cW.eq_11 cW.eq_12 pJ.eq_1 pJ.eq_2 uI.eq_1 uI.eq_2 pI.eq_1 pI.eq_2 pI.eq_3 pI.eq_4 pI.eq_5 pI.eq_6 CO.dst Xh Xi Z4 Z5 Z6 Z7 Z8 pG.eq_1 pG.eq_2 pG.eq_3 pG.eq_4 r9.eq_1 r9.eq_2 W7 XH XI List.any_cons List.any_nil Option.bind_some Bool.or_false Bool.false_or Bool.or_self decide_false kE kR kN kH XJ XK XL XM XN XO XQ XR eS.eq_1 eS.eq_2 eS.eq_3 eS.eq_4 eS.eq_5 eS.eq_6 eS.eq_7 eS.eq_8 eS.eq_9 eS.eq_10 eS.eq_11 eS.eq_12 eS.eq_13 eS.eq_14 eS.eq_15 eS.eq_16 eS.eq_17 eS.eq_18 Xg bF bL CO.dst fF.eq_1 fF.eq_2 fF.eq_3 cu.eq_1 cu.eq_2 cu.eq_3 cu.eq_4 cu.eq_5 cu.eq_6 cu.eq_7 cu.eq_8 cu.eq_9 cu.eq_10 cu.eq_11 cu.eq_12 cu.eq_13 cu.eq_14 cu.eq_15 cu.eq_16 cu.eq_17 cu.eq_18 cu.eq_19 cu.eq_20 cu.eq_21 cu.eq_22 cu.eq_23 cu.eq_24 cu.eq_25 cu.eq_26 cu.eq_27 cu.eq_28 cu.eq_29 cu.eq_30 yn yo Dz Dy tg.eq_1 tg.eq_2 tg.eq_3 km.eq_1 km.eq_2 km.eq_3 wH CI.nr.eq_1 CI.nr.eq_2 CO.nr Vz XC XD XE XF XG N' P' XS XT XU XV XW XX XY XZ X4 uE uF WE Dw.eq_1 Dw.eq_2 Dx.eq_1 Dx.eq_2 ym tf oe Option.map_some Option.map_none uk sY wb ul um bE bH bK bC wM ti.eq_1 mM.eq_1 Ax.eq_1 mL.eq_1 mL.eq_2 ry.eq_1 ry.eq_2 Aw.eq_1 Aw.eq_2 List.drop_zero Bool.and_false Option.isSome_some Option.isSome_none Bool.true_or Bool.or_true jb pE X5 pm mB kF rh wN mE tj po lS VR pp pq X6 X7 wP gN ux pO.eq_1 pO.eq_2 nn rm iU nm od iI uB aE.cells aE.with v_ St.of je eL enum St.put T.cell T.flat true_and and_true List.map_cons List.map_nil List.length_cons List.length_nil Option.some.injEq forall_eq' List.lookup_nil Bool.not_true Bool.not_false decide_eq_true_eq decide_eq_false_iff_not ne_eq forall_const Bool.true_eq_false Bool.false_eq_true false_implies ite_true ite_false exists_eq_left' List.getElem?_cons_zero List.getElem?_cons_succ and_self qU Option.map_eq_some_iff forall_exists_index and_imp qJ Nat.mul_one Nat.div_one
end Go.Ab
namespace Go.Ab
attribute [go_sem] List.reduceReplicate Nat.reduceEqDiff Nat.reduceAdd Nat.reduceLeDiff Nat.reduceMul Nat.reduceSub Nat.reduceDiv Int.reduceToNat Nat.reduceLT Int.reduceLT Int.reduceLE reduceCtorEq
attribute [go_sem ↓] reduceIte
def IJ:=And.intro @forall_apply_eq_imp_iff₂.{1,1} (@Et)
def O6:=And.intro @ZX (And.intro @gn.eq_1 (And.intro @gn.eq_2 (And.intro @gn.eq_3 (And.intro @rq.eq_1 (And.intro @rq.eq_2 (And.intro @rq.eq_3 (And.intro @va.eq_1 (And.intro @va.eq_2 (And.intro @va.eq_3 (And.intro @va.eq_4 (And.intro @va.eq_5 (And.intro @va.eq_6 (And.intro @va.eq_7 (And.intro @va.eq_8 (And.intro @va.eq_9 (And.intro @va.eq_10 (And.intro @va.eq_11 (And.intro @va.eq_12 (And.intro @va.eq_13 (And.intro @vt.eq_1 (And.intro @vt.eq_2 (And.intro @vt.eq_3 (And.intro @vt.eq_4 (And.intro @vt.eq_5 (And.intro @vt.eq_6 (And.intro @vt.eq_7 (And.intro @vt.eq_8 (And.intro @vb.eq_1 (And.intro @vb.eq_2 (And.intro @vb.eq_3 (And.intro @vb.eq_4 (And.intro @vb.eq_5 (And.intro @yf.eq_1 (And.intro @List.cons_append.{0} (And.intro @List.nil_append.{0} (And.intro @List.append_nil.{0} (And.intro @true_or (@or_true))))))))))))))))))))))))))))))))))))))
def Y':=And.intro @qO.{0} (And.intro @List.mem_nil_iff.{0} (And.intro @List.not_mem_nil.{0} (And.intro @or_false (And.intro @false_or (And.intro @exists_eq_left.{1} (And.intro @exists_eq_left'.{1} (And.intro @exists_eq_right'.{1} (And.intro @aE.live.injEq (And.intro @eq_self_iff_true.{1} (And.intro @exists_eq.{1} (@and_true)))))))))))
def Z':=And.intro @Int.natCast_zero (And.intro @Int.cast_ofNat_Int (And.intro @Int.natCast_one (And.intro @qR (And.intro @Nat.sub_self (And.intro @List.getElem?_cons_zero.{0} (And.intro @List.getElem?_cons_succ.{0} (And.intro @si (And.intro @sj (And.intro @ii (And.intro @T.bB.eq_1 (And.intro @T.bB.eq_2 (And.intro @T.bB.eq_3 (And.intro @T.bB.eq_4 (@T.bB.eq_5))))))))))))))
def clR:=And.intro @List.append_nil.{0} (And.intro @List.cons_append.{0} (And.intro @kI.eq_1 (And.intro @kI.eq_2 (And.intro @ZZ (And.intro @Z0 (And.intro @bp.eq_1 (And.intro @bp.eq_2 (And.intro @bp.eq_3 (And.intro @bp.eq_4 (And.intro @bp.eq_5 (And.intro @f_.eq_1 (And.intro @f_.eq_2 (And.intro @lQ.eq_1 (And.intro @lQ.eq_2 (And.intro @gp.eq_1 (And.intro @gp.eq_2 (And.intro @te.eq_1 (And.intro @te.eq_2 (And.intro @eM.eq_1 (And.intro @T.bJ.eq_1 (And.intro @T.bJ.eq_2 (And.intro @T.bJ.eq_3 (And.intro @T.bJ.eq_4 (And.intro @T.bJ.eq_5 (And.intro @T.bJ.eq_6 (And.intro @T.bJ.eq_7 (And.intro @T.bJ.eq_8 (And.intro @T.df.eq_1 (And.intro @T.df.eq_2 (@Nat.zero_le))))))))))))))))))))))))))))))
def oD:=And.intro @Int.add_zero (And.intro @oc.eq_1 (And.intro @oc.eq_2 (And.intro @e_.eq_1 (And.intro @e_.eq_2 (And.intro @e_.eq_3 (And.intro @e_.eq_4 (And.intro @e_.eq_5 (And.intro @e_.eq_6 (And.intro @e_.eq_7 (And.intro @e_.eq_8 (And.intro @e_.eq_9 (And.intro @e_.eq_10 (And.intro @e_.eq_11 (And.intro @e_.eq_12 (And.intro @e_.eq_13 (And.intro @e_.eq_14 (And.intro @e_.eq_15 (And.intro @yf.eq_1 (And.intro @v_ (And.intro @and_true (And.intro @true_or (And.intro @or_true (And.intro @List.map_cons.{0,0} (And.intro @List.map_nil.{0,0} (And.intro @Nat.zero_ne_one (And.intro @and_self (And.intro @true_and (And.intro @Int.natCast_zero (And.intro @Int.cast_ofNat_Int (@Int.ofNat_zero))))))))))))))))))))))))))))))
def wrR:=And.intro @en.eq_1 (And.intro @List.zip_cons_cons.{0,0} (And.intro @List.zip_nil_right.{0,0} (And.intro @List.lookup_cons.{0,0} (And.intro @List.lookup_nil.{0,0} (And.intro @beq_self_eq_true.{0} (And.intro @jf.eq_1 (And.intro @jf.eq_2 (And.intro @jf.eq_3 (And.intro @jf.eq_4 (And.intro @eL.eq_1 (And.intro @eL.eq_2 (And.intro @je.eq_1 (@je.eq_2)))))))))))))
def srR:=And.intro @M0 (And.intro @M1 (And.intro @MZ (And.intro @gB.eq_1 (And.intro @gB.eq_2 (And.intro @gB.eq_3 (And.intro @lQ.eq_1 (And.intro @lQ.eq_2 (And.intro @gp.eq_1 (And.intro @gp.eq_2 (And.intro @v_ (And.intro @eL.eq_1 (And.intro @eL.eq_2 (@and_true)))))))))))))
def xj:=And.intro @List.lookup_cons.{0,0} (And.intro @beq_self_eq_true.{0} (And.intro @eM.eq_1 (And.intro @pD.eq_1 (@pD.eq_2))))
def pY:=And.intro @Z' (And.intro @O6 (And.intro @Y' (And.intro @ints.eq_1 (And.intro @rows.eq_1 (And.intro @rat.eq_1 (And.intro @cG.eq_1 (And.intro @ku.eq_1 (And.intro @ae.eq_1 (@a_.eq_1)))))))))
def c8:=And.intro @IJ (And.intro @ints.eq_1 (And.intro @rows.eq_1 (And.intro @rat.eq_1 (@cG.eq_1))))
def IK:=And.intro @srR (And.intro @ints.eq_1 (And.intro @rows.eq_1 (And.intro @ae.eq_1 (@a_.eq_1))))
def fc:=And.intro @oD (And.intro @wrR (And.intro @ints.eq_1 (@rows.eq_1)))
def yK:=And.intro @clR (And.intro @IJ (@rat.eq_1))
def q0uy : ( "finals" : String).toList = ([102, 105, 110, 97, 108, 115].map Char.ofNat) := String.toList_ofList
def q0v9 : ( "reflectrows" : String).toList = ([114, 101, 102, 108, 101, 99, 116, 114, 111, 119, 115].map Char.ofNat) := String.toList_ofList
def q0v2 : ( "leanrows" : String).toList = ([108, 101, 97, 110, 114, 111, 119, 115].map Char.ofNat) := String.toList_ofList
def q0v4 : ( "onebuild" : String).toList = ([111, 110, 101, 98, 117, 105, 108, 100].map Char.ofNat) := String.toList_ofList
def q0v7 : ( "publicsums" : String).toList = ([112, 117, 98, 108, 105, 99, 115, 117, 109, 115].map Char.ofNat) := String.toList_ofList
def q0ux : ( "eqguard" : String).toList = ([101, 113, 103, 117, 97, 114, 100].map Char.ofNat) := String.toList_ofList
def q0v6 : ( "ownunsafe" : String).toList = ([111, 119, 110, 117, 110, 115, 97, 102, 101].map Char.ofNat) := String.toList_ofList
def q0v3 : ( "libbeside" : String).toList = ([108, 105, 98, 98, 101, 115, 105, 100, 101].map Char.ofNat) := String.toList_ofList
def q0v5 : ( "ownbeside" : String).toList = ([111, 119, 110, 98, 101, 115, 105, 100, 101].map Char.ofNat) := String.toList_ofList
def q0v8 : ( "reflbeside" : String).toList = ([114, 101, 102, 108, 98, 101, 115, 105, 100, 101].map Char.ofNat) := String.toList_ofList
def q0ut : ( "aliases" : String).toList = ([97, 108, 105, 97, 115, 101, 115].map Char.ofNat) := String.toList_ofList
def q0us : ( "afterinit" : String).toList = ([97, 102, 116, 101, 114, 105, 110, 105, 116].map Char.ofNat) := String.toList_ofList
def q0uv : ( "crcplain" : String).toList = ([99, 114, 99, 112, 108, 97, 105, 110].map Char.ofNat) := String.toList_ofList
def q0va : ( "roadunsafe" : String).toList = ([114, 111, 97, 100, 117, 110, 115, 97, 102, 101].map Char.ofNat) := String.toList_ofList
def q0uz : ( "fmthandon" : String).toList = ([102, 109, 116, 104, 97, 110, 100, 111, 110].map Char.ofNat) := String.toList_ofList
def q0uw : ( "cut" : String).toList = ([99, 117, 116].map Char.ofNat) := String.toList_ofList
def q0v0 : ( "gc" : String).toList = ([103, 99].map Char.ofNat) := String.toList_ofList
def q0vb : ( "spec" : String).toList = ([115, 112, 101, 99].map Char.ofNat) := String.toList_ofList
def q0uu : ( "carried" : String).toList = ([99, 97, 114, 114, 105, 101, 100].map Char.ofNat) := String.toList_ofList
def q0vc : ( "stop" : String).toList = ([115, 116, 111, 112].map Char.ofNat) := String.toList_ofList
def q0v1 : ( "harness" : String).toList = ([104, 97, 114, 110, 101, 115, 115].map Char.ofNat) := String.toList_ofList
def sk:List Char:=([99,117,116].map Char.ofNat)
def O7(ws:List (List Char)):stripLifts liftWords (sk::ws)=([],sk::ws):=by
 have no:∀(o:String) (os:List String) (l:List Char),o.toList=l->(sk==l)=false->stripLifts (o::os) (sk::ws)=stripLifts os (sk::ws):=fun o os l h1 h2=>by
  show(if sk==o.toList then _ else _)=_;rw[h1,h2];rfl
 unfold liftWords;rw[no _ _ _ q0uy dc,no _ _ _ q0v9 dc,no _ _ _ q0v2 dc,no _ _ _ q0v4 dc,no _ _ _ q0v7 dc,no _ _ _ q0ux dc,no _ _ _ q0v6 dc,no _ _ _ q0v3 dc,no _ _ _ q0v5 dc,no _ _ _ q0v8 dc,no _ _ _ q0ut dc,no _ _ _ q0us dc,no _ _ _ q0uv dc,no _ _ _ q0va dc,no _ _ _ q0uz dc];rfl
def Ev{r:List Char}:∀{w:List Char},(∀c∈w,c≠Char.ofNat 32)->wordsSigns (w++Char.ofNat 32::r)=w::wordsSigns r
 |[],_=>by
  show wordsSigns (Char.ofNat 32::r)=_;rfl
 |c::w,h=>by
  have ih:=Ev (r:=r) (w:=w) fun d hd=>h d (by simp[hd]);show wordsSigns (c::(w++Char.ofNat 32::r))=_;rw[wordsSigns,ih];exact fun he=>h c sA he
def aa0{s:String}{w1 w2 w3 r:List Char}(hs:s=String.ofList (w1++Char.ofNat 32::(w2++Char.ofNat 32::(w3++Char.ofNat 32::r))))(h1:(w1.all fun c=>c !=Char.ofNat 32)=true)(h2:(w2.all fun c=>c !=Char.ofNat 32)=true)(h3:(w3.all fun c=>c !=Char.ofNat 32)=true)(hh:(w1==([104,97,114,110,101,115,115].map Char.ofNat))=true)(ll:isSumSigns w2=true):behindMainWord (wordsSigns s.toList)=w3::wordsSigns r:=by
 have g:∀w:List Char,(w.all fun c=>c !=Char.ofNat 32)=true->∀c∈w,c≠Char.ofNat 32:=fun w h c hc=>by
  have:=rO.1 h c hc;simpa using this
 rw[hs,String.toList_ofList,Ev (g w1 h1),Ev (g w2 h2),Ev (g w3 h3)];show (if (w1 == "harness".toList || w1 == "ownmain".toList) && isSumSigns w2 then w3 :: wordsSigns r else w1 :: w2 :: w3 :: wordsSigns r) = _
 rw[q0v1,hh,ll];rfl
theorem aa1{P:Program}(hw:∃ws,behindMainWord (wordsSigns P.initOrder.toList)=sk::ws)(h1:P.laysLater=false)(h2:P.bearsReflect=false)(h3:P.doorFits []=true):P.mayEnter=true:=by
 obtain⟨ws,h⟩:=hw;unfold Program.mayEnter;rw[h];simp only[O7,q0v0,q0vb,q0uu,q0uw,q0vc,h1,h2,h3];rfl
theorem aa2{P:Program}(hw:∃ws,behindMainWord (wordsSigns P.initOrder.toList)=sk::ws):P.liftsFinal=false:=by
 obtain⟨ws,h⟩:=hw;unfold Program.liftsFinal Program.headLifts;rw[h];simp only[O7,q0v0,q0uu,q0uw];rfl
theorem aa3{P:Program}(hw:∃ws,behindMainWord (wordsSigns P.initOrder.toList)=sk::ws):P.make=some .cut:=by
 obtain⟨ws,h⟩:=hw;unfold Program.make;rw[h];simp only[q0v0,q0vb,q0uy,q0uu,q0uw];rfl
end Go.Ab
namespace Go.Proofs.YtecafjkedemhnaaGreat
open Go.ChangeShapes Go.WideShapes Go.ChangeAt Go.RowKit Go.Ab
set_option maxRecDepth 100000 in
def Tryz.aa4:Tryz.prog.initOrder=String.ofList (([104,97,114,110,101,115,115].map Char.ofNat)++Char.ofNat 32::(([102,97,49,49,54,97,99,55,48,49,49,57,52,51,52,49,55,50,99,48,51,100,57,101,97,50,97,97,57,55,100,54,53,98,56,51,55,56,49,53,53,101,51,55,100,54,51,50,98,99,101,48,49,55,56,101,54,54,100,50,97,51,98,101].map Char.ofNat)++Char.ofNat 32::(([99,117,116].map Char.ofNat)++Char.ofNat 32::([97,116,32,108,111,111,112,46,101,120,97,109,112,108,101,47,103,48,48,57,49,48,47,108,97,119,115,46,70,110,84,111,112].map Char.ofNat)))):=by kernel_rfl
set_option maxRecDepth 100000 in
def Tryz.IL:∃ws,behindMainWord (wordsSigns Tryz.prog.initOrder.toList)=sk::ws:=⟨_,aa0 Tryz.aa4 (by kernel_rfl) (by kernel_rfl) (by kernel_rfl) (by kernel_rfl) (by kernel_rfl)⟩
def Tryz.aa5:Tryz.prog.laysLater=false:=by kernel_rfl
def Tryz.aa6:Tryz.prog.bearsReflect=false:=by kernel_rfl
def Tryz.aa7:Tryz.prog.doorFits []=true:=by kernel_rfl
def Tryz.aa8:Tryz.prog.mayEnter=true:=aa1 Tryz.IL Tryz.aa5 Tryz.aa6 Tryz.aa7
def Tryz.aa9:Tryz.prog.liftsFinal=false:=aa2 Tryz.IL
def Tryz.lS:Tryz.prog.make=some .cut:=aa3 Tryz.IL
def Tryz.ab0:Tryz.prog.stopsHeard=true:=by kernel_rfl
def Tryz.ab1:laidOutB Tryz.prog=true:=by kernel_rfl
def Tryz.ab2:mapsRowed Tryz.prog=true:=by kernel_rfl
end Go.Proofs.YtecafjkedemhnaaGreat
