import Derived.RangeFuncNested
import Derived.Test.YtecafjkedemhnaaGreatQ1
set_option maxRecDepth 20000
set_option linter.all false
namespace Go.Ab
variable{K:SP}{len n o off z:Nat}{M R:Nat->aE}{k:IntKind}{x:A}{ds m:LN}{t:T}{iv:Int}{D:List (Nat×aE)}{af fG:LB}{aH:LA}{ops:Array Oper}{fo:Operand}{f:FuncId}{args cap:List A}{α σ:Type}{X':NP}{ρ:Operand->A}{e:Nat->A}{w:Option LN}{tm:Array Value}
def CO.reads:CO->List Operand
 | .move _ x| .un _ _ x| .extract _ x _| .iJ _ x| .rt _ _ x| .load1 _ x| .loadN _ _ x| .box _ x| .DA _ x| .conv _ _ x| .ep _ x| .DB _ _ x=>[x]
 | .pick _ c x y=>[c,x,y]
 | .bin _ _ x y| .beq _ _ x y| .idx _ _ x y| .idxA _ _ _ x y| .store _ x y| .make _ _ _ x y| .app _ _ _ x y| .mm _ _ x y| .DC _ _ x y=>[x,y]
 | .alloc _ _=>[]
 | .build _ _ _ ps| .bslice _ _ _ ps=>ps.map (·.2)
 | .mkf _ _ caps=>caps
 | .call _ f as=>.tmp 1000000::f::as
 | .bad _=>[]
 | .isNil _ _ x=>[x]
 | .Av _ x=>[x]
 | .slc _ _ x lo hi=>x::(lo.toList++hi.toList)
def bF(x:A)(S:St)(K:A->Prop):Prop:=
 match x with
 | .t (.ax l off)=>off<l.length/\∀c,l[off]? =some c->K (.t c)
 | .ptr r off=>(match(S.roots r).cells with
   |some (l,lk)=>off<l.length/\(match lk.lookup off with
    |some q=>K (.own q)
    |none=>∀c,l[off]? =some c->c.flat=true/\K (.t c))
   |none=>False)
 | .own r=>(match S.roots r with
   | .live (.box l) lk=>0<l.length/\(match lk.lookup 0 with
     |some q=>K (.own q)
     |none=>∀c,l[0]? =some c->c.flat=true/\K (.t c))
   |_=>False)
 |_=>False
def mM(l:LA)(lk:List (Nat×Nat))(off z:Nat)(K:A->Prop):Prop:=
 if(((l.drop off).take z).all T.flat&&Aw off z lk)=true then K (.t (.agg ((l.drop off).take z)))
 else ry lk off ((l.drop off).take z)=true/\K (.agg (mL lk off ((l.drop off).take z)))
def bL(z:Nat)(x:A)(S:St)(K:A->Prop):Prop:=
 match x with
 | .t (.ax l off)=>off+z<=l.length/\K (.t (.agg ((l.drop off).take z)))
 | .ptr r off=>(match(S.roots r).cells with
   |some (l,lk)=>off+z<=l.length/\mM l lk off z K
   |none=>False)
 | .own r=>(match S.roots r with
   | .live (.box l) lk=>z<=l.length/\mM l lk 0 z K
   |_=>False)
 |_=>False
def WU{l:LA}{lk:List (Nat×Nat)}{K:A->Prop}(h:mM l lk off z K):∃x,K x/\∀K':A->Prop,K' x->mM l lk off z K':=by
 unfold mM at h ⊢;split at h
 ·rename_i hc;exact⟨_,h,fun K' hK=>by rw[if_pos hc];exact hK⟩
 ·rename_i hc;exact⟨_,h.2,fun K' hK=>by rw[if_neg hc];exact⟨h.1,hK⟩⟩
def Nw{l:LA}{lk:List (Nat×Nat)}{r d:Nat}{S:St}(h:mM l lk off z fun a=>K {S with env:=ak S.env d a}):ti l lk r off z d K S:=by
 unfold mM at h;unfold ti;split at h
 ·rename_i hc;rw[if_pos hc];exact h
 ·rename_i hc;rw[if_neg hc,if_pos h.1];exact h.2
def tr(P:Program)(n:Nat)(f:Operand)(as:List Operand)(ρ:Operand->A)(R:Nat->aE)(K:A->Prop):Prop:=
 ∃x,K x/\∀(d:Nat) (e:Nat->A) (R':Nat->aE) (Kc:SP),(∀r,R r= .free∨R' r=R r)->(∀y,y∈ .tmp 1000000::f::as->St.ev ⟨e,R'⟩ y=ρ y)->Kc ⟨ak e d x,R'⟩->bz P n (some d) f as Kc ⟨e,R'⟩
def eS(P:Program)(n:Nat):CO->(Operand->A)->St->(A->Prop)->Prop
 | .move _ x,ρ,S,K=>K (ρ x)
 | .pick _ c x y,ρ,S,K=>uE (ρ c) (ρ x) (ρ y) K
 | .bin _ op x y,ρ,S,K=>uk op (ρ x) (ρ y) K
 | .beq _ ne x y,ρ,S,K=>uF ne (ρ x) (ρ y) K
 | .un _ op x,ρ,S,K=>ul op (ρ x) K
 | .extract _ x i,ρ,S,K=>um (ρ x) i K
 | .iJ _ x,ρ,S,K=>bE (ρ x) S K
 | .idx _ z x y,ρ,S,K=>bH z (ρ x) (ρ y) S K
 | .rt _ off x,ρ,S,K=>bK off (ρ x) S K
 | .load1 _ x,ρ,S,K=>bF (ρ x) S K
 | .loadN _ z x,ρ,S,K=>bL z (ρ x) S K
 | .build _ zs pl parts,ρ,S,K=>wN zs pl (parts.map fun p=>(p.1,ρ p.2)) K
 | .conv _ k x,ρ,S,K=>wP k (ρ x) K
 | .ep _ x,ρ,S,K=>gN (ρ x) S K
 | .mkf _ f caps,ρ,S,K=>K (.fn f (caps.map ρ))
 | .mm _ mx x y,ρ,S,K=>ux mx (ρ x) (ρ y) K
 | .call (some _) f as,ρ,S,K=>tr P n f as ρ S.roots K
 | .slc _ z x lo hi,ρ,S,K=>tf z (ρ x) (lo.map ρ) (hi.map ρ) S K
 | .idxA _ len z x y,ρ,S,K=>ph len z (ρ x) (ρ y) S K
 |_,_,_,_=>False
section
variable {P:Program} {n:Nat} {S:St}
def yq{l:List α}{i:Nat}(h:i<l.length):∃c,l[i]? =some c:=⟨_,qB h⟩
def WV{K:A->Prop}(h:bF x S K):∃v,K v/\∀K':A->Prop,K' v->bF x S K':=by
 unfold bF at h ⊢;split at h
 ·obtain⟨c,hc⟩:=yq h.1;exact⟨_,h.2 c hc,fun K' hK=>⟨h.1,fun c' eY=>by rw[hc]at eY;cases eY;exact hK⟩⟩
 ·split at h
  ·split at h
   ·exact⟨_,h.2,fun K' hK=>⟨h.1,hK⟩⟩
   ·obtain⟨c,hc⟩:=yq h.1;exact⟨_,(h.2 c hc).2,fun K' hK=>⟨h.1,fun c' eY=>by rw[hc]at eY;cases eY;exact⟨(h.2 c hc).1,hK⟩⟩⟩
  ·exact h.elim
 ·split at h
  ·split at h
   ·exact⟨_,h.2,fun K' hK=>⟨h.1,hK⟩⟩
   ·obtain⟨c,hc⟩:=yq h.1;exact⟨_,(h.2 c hc).2,fun K' hK=>⟨h.1,fun c' eY=>by rw[hc]at eY;cases eY;exact⟨(h.2 c hc).1,hK⟩⟩⟩
  ·exact h.elim
 ·exact h.elim
def WW{op:BinOp}{a b:Int}{K:A->Prop}(h:sY op k a b K):∃v,K v/\∀K':A->Prop,K' v->sY op k a b K':=by
 cases op<;>simp only[sY]at h ⊢ <;>first
  |exact h.elim
  |exact⟨_,h,fun _ h=>h⟩
  |exact⟨_,h.2,fun _ h'=>⟨h.1,h'⟩⟩
def WX{op:BinOp}{a b:ByteArray}{K:A->Prop}(h:wb op a b K):∃v,K v/\∀K':A->Prop,K' v->wb op a b K':=by
 cases op<;>simp only[wb]at h ⊢ <;>first
  |exact h.elim
  |exact⟨_,h,fun _ h=>h⟩
  |exact⟨_,h.2,fun _ h'=>⟨h.1,h'⟩⟩
def WY{c:CO}{K:A->Prop}(h:eS P n c ρ S K):∃v,K v/\∀K':A->Prop,K' v->eS P n c ρ S K':=by
 unfold eS at h;split at h<;>(unfold eS)
 case h_1|h_15=>exact⟨_,h,fun _ h=>h⟩
 case h_2=>unfold uE at*;split at h;(rename_i b hb;cases b<;>grind);exact h.elim
 case h_3=>
  unfold uk at*;split at h
  ·rename_i hx hy;split at h
   iterate 2 exact⟨_,h.2,fun K' hK=>by simp only[hx,hy];exact⟨h.1,hK⟩⟩
   obtain⟨v,h1,h2⟩:=WW h.2;exact⟨v,h1,fun K' hK=>by simp only[hx,hy];exact⟨h.1,h2 K' hK⟩⟩
  ·rename_i hx hy;obtain⟨v,h1,h2⟩:=WX h;exact⟨v,h1,fun K' hK=>by simp only[hx,hy];exact h2 K' hK⟩
  ·exact h.elim
 case h_10=>exact WV h
 case h_11=>unfold bL at*;(repeat' split at h)<;>first|grind|(obtain⟨x,h1,h2⟩:=WU h.2;grind)
 case h_17=>obtain⟨x,hK,hall⟩:=h;exact⟨x,hK,fun K' WZ=>⟨x,WZ,hall⟩⟩
 case h_8=>unfold bH at*;(repeat' split at h)<;>grind
 case h_18=>unfold tf at*;(repeat' split at h)<;>grind
 case h_19=>unfold ph at*;(repeat' split at h)<;>grind
 case h_20=>exact h.elim
 all_goals first|(unfold uF at*;grind)|(unfold ul at*;grind)|(unfold um at*;grind)|(unfold bE at*;grind)|(unfold bK at*;grind)|(unfold wN at*;grind)|(unfold wP at*;grind)|(unfold gN at*;grind)|(unfold ux at*;grind)
def W4{c:CO}{ρ':Operand->A}{K:A->Prop}(hρ:∀x∈c.reads,ρ' x=ρ x)(h:eS P n c ρ S K):eS P n c ρ' S K:=by
 cases c<;>simp only[CO.reads,qO,List.not_mem_nil,or_false,forall_eq_or_imp,forall_eq]at hρ<;>simp only[eS]at h ⊢
 case build zs pl parts=>
  have:(parts.map fun p=>(p.1,ρ' p.2))=parts.map fun p=>(p.1,ρ p.2):=rW fun p hp=>by rw[hρ _ (qN.2 ⟨p,hp,rfl⟩)]
  rw[this];exact h
 case mkf d f caps=>
  have:caps.map ρ'=caps.map ρ:=rW fun p hp=>hρ p hp;rw[this];exact h
 case call d f as=>
  cases d with
  |none=>exact h
  |some d=>
   obtain⟨x,hK,hall⟩:=h;refine⟨x,hK,fun d e R' Kc h1 h2 h3=>hall d e R' Kc h1 (fun y hy=>(h2 y hy).trans ?_) h3⟩;rcases qO.1 hy with rfl|hy
   ·exact hρ.1
   rcases qO.1 hy with rfl|hy
   ·exact hρ.2.1
   ·exact hρ.2.2 y hy
 case slc d z x lo hi=>
  have h1:lo.map ρ'=lo.map ρ:=by
   cases lo with
   |none=>rfl
   |some y=>simp[hρ.2 y sA]
  have h2:hi.map ρ'=hi.map ρ:=by
   cases hi with
   |none=>rfl
   |some y=>simp[hρ.2 y sA]
  rw[hρ.1,h1,h2];exact h
 all_goals first
  |exact h
  |(rw[hρ];exact h)
  |(rw[hρ.1,hρ.2];exact h)
  |(rw[hρ.1,hρ.2.1,hρ.2.2];exact h)
def W5{c:CO}{K:A->Prop}(hM:∀r,M r= .free∨S.roots r=M r)(h:eS P n c ρ ⟨e,M⟩ K):eS P n c ρ S K:=by
 have live:∀{r t lk},M r= .live t lk->S.roots r= .live t lk:=by grind
 have cells:∀{r p},(M r).cells=some p->(S.roots r).cells=some p:=fun{r p} hr=>by
  rcases hM r with h|h
  ·rw[h]at hr;simp[aE.cells]at hr
  ·rw[h,hr]
 cases c<;>simp only[eS]at h ⊢
 case call d f as=>
  cases d with
  |none=>exact h
  |some d=>
   obtain⟨x,hK,hall⟩:=h;refine⟨x,hK,fun d e' R' Kc h1 h2 h3=>hall d e' R' Kc (fun r=>?_) h2 h3⟩;rcases hM r with h|h
   ·exact .inl h
   ·rcases h1 r with h'|h'
    ·exact .inl (show M r= .free from h.symm.trans h')
    ·exact .inr (show R' r=M r from h'.trans h)
 case idx=>unfold bH at*;(repeat' split at h)<;>grind
 case idxA=>unfold ph at*;(repeat' split at h)<;>grind
 all_goals first|exact h|(unfold bE at*;grind)|(unfold bK at*;grind)|(unfold bF at*;grind)|(unfold bL at*;grind)|(unfold gN at*;grind)|(unfold tf at*;grind)
def W6{c:CO}{d:Nat}(hd:c.dst=some d)(h:eS P n c S.ev S (dI S d K)):cu P n c K S:=by
 cases c<;>simp only[CO.dst,Option.some.injEq,reduceCtorEq]at hd<;>simp only[eS]at h<;>simp only[cu]<;>(try subst hd)<;>try exact h
 case load1 d x=>
  unfold bF at h;unfold bC;split at h
  ·rename_i hx;rw[hx];exact h
  ·rename_i hx;rw[hx];split at h
   ·rename_i hr;simp only[hr];refine⟨h.1,?_⟩;have h2:=h.2;split at h2
    ·rename_i hl;simp only[hl];exact h2
    ·rename_i hl;simp only[hl];intro c hc;have h3:=h2 c hc;cases c<;>first|exact h3|(simp[T.flat]at h3)
   ·exact h.elim
  ·rename_i hx;rw[hx];split at h
   ·rename_i hr;simp only[hr];refine⟨h.1,?_⟩;have h2:=h.2;split at h2
    ·rename_i hl;simp only[hl];exact h2
    ·rename_i hl;simp only[hl];intro c hc;have h3:=h2 c hc;cases c<;>first|exact h3|(simp[T.flat]at h3)
   ·exact h.elim
  ·exact h.elim
 case loadN d z x=>
  unfold bL at h;unfold wM;split at h
  ·rename_i hx;rw[hx];exact h
  ·rename_i hx;rw[hx];split at h
   ·rename_i hr;simp only[hr];exact⟨h.1,Nw h.2⟩
   ·exact h.elim
  ·rename_i hx;rw[hx];split at h
   ·rename_i hr;simp only[hr];exact⟨h.1,Nw h.2⟩
   ·exact h.elim
  ·exact h.elim
 case call f as=>
  obtain⟨x,hK,hall⟩:=h;exact hall d S.env S.roots K (fun r=>.inr rfl) (fun y _=>rfl) hK
end
def fH(e:Nat->A)(d:Option Nat)(x:A):Nat->A:=match d with|some d=>ak e d x|none=>e
def bo(D:List (Nat×aE))(R:Nat->aE):Nat->aE:=D.foldl (fun R p=>ak R p.1 p.2) R
def lj(D D':List (Nat×aE))(R:Nat->aE):bo (D++D') R=bo D' (bo D R):=by simp[bo,List.foldl_append]
def aX(D:List (Nat×aE)):LN:=D.map (·.1)
def ko:∀(D:List (Nat×aE)) (R:Nat->aE) (r:Nat),r∉aX D->bo D R r=R r
 |[],R,r,_=>rfl
 |p::D,R,r,h=>by
  simp only[aX,List.map_cons,qO,not_or]at h;show bo D (ak R p.1 p.2) r=R r;rw[ko D _ r h.2,aU _ _ _ _ h.1]
def rS:∀(D:List (Nat×aE)) (R R':Nat->aE) (r:Nat),r∈aX D∨R r=R' r->bo D R r=bo D R' r
 |[],R,R',r,h=>by
  rcases h with h|h
  ·simp[aX]at h
  ·exact h
 |p::D,R,R',r,h=>by
  show bo D (ak R p.1 p.2) r=bo D (ak R' p.1 p.2) r;refine rS D _ _ r ?_;by_cases hr:r=p.1
  ·right;rw[hr,aT,aT]
  ·rw[aU _ _ _ _ hr,aU _ _ _ _ hr];rcases h with h|h
   ·simp only[aX,List.map_cons,qO]at h;exact .inl (h.resolve_left hr)
   ·exact .inr h
def cX(d:Nat)(r:Nat):Prop:=r=d∨r/1000=d+1
def bW(m:LN)(R:Nat->aE):Nat->aE:=fun r=>if m.any (fun d=>decide (r=d)||decide (r/1000=d+1))then .free else R r
def W7(R:Nat->aE):bW [] R=R:=rfl
def pF{r:Nat}(h:bW m R r≠ .free):bW m R r=R r/\∀d∈m,¬cX d r:=by
 unfold bW at h ⊢;split at h
 ·exact absurd rfl h
 ·rename_i h1;rw[if_neg h1];refine⟨rfl,fun d hd hi=>h1 ?_⟩;rw[List.any_eq_true];exact⟨d,hd,by rcases hi with hi|hi<;>simp[hi]⟩
def Nx{r d:Nat}(hd:d∈m)(h:cX d r):bW m R r= .free:=by
 unfold bW;rw[if_pos];rw[List.any_eq_true];exact⟨d,hd,by rcases h with h|h<;>simp[h]⟩
def Ny(m:LN)(R:Nat->aE)(r:Nat):bW m R r= .free∨R r=bW m R r:=by
 unfold bW;split
 ·exact .inl rfl
 ·exact .inr rfl
def CO.wU:CO->Bool
 | .store .. | .alloc .. | .box .. | .bslice .. | .make .. | .app .. | .load1 .. | .call .. =>true
 |_=>false
variable{c:CO}
def Ef(M:Nat->aE)(d:Option Nat)(D:List (Nat×aE))(x:A)(e0:Nat->A)(reads:List Operand)(W:(Nat->A)->(Nat->aE)->SP->Prop):Prop:=
 (∀r∈aX D,M r≠ .free∨∃k,d=some k/\cX k r)∧
 ∀(e:Nat->A) (R:Nat->aE) (Kc:SP),(∀y∈reads,St.ev ⟨e,R⟩ y=St.ev ⟨e0,M⟩ y)->(∀r,M r= .free∨R r=M r)->(∀r∈aX D,M r= .free->R r= .free)->Kc ⟨fH e d x,bo D R⟩->W e R Kc
def iX(P:Program)(n:Nat)(d:Option Nat)(f:Operand)(as:List Operand)(K:SP)(S:St):Prop:=
 ∃x D,K ⟨fH S.env d x,bo D S.roots⟩/\Ef S.roots d D x S.env (.tmp 1000000::f::as) fun e R Kc=>bz P n d f as Kc ⟨e,R⟩
def lT(P:Program)(n:Nat)(d:Nat)(f:Operand)(as:List Operand)(m:LN)(K:SP)(S:St):Prop:=
 ∃x D,(∀r∈aX D,cX d r)/\K ⟨ak S.env d x,bo D S.roots⟩/\Ef (bW m S.roots) (some d) D x S.env (.tmp 1000000::f::as) fun e R Kc=>bz P n (some d) f as Kc ⟨e,R⟩
def r9:List A->Option LA
 |[]=>some []
 | .t c::l=>if c.cell then(r9 l).map (c:: ·)else none
 |_=>none
def pG:CO->SP->St->Prop
 | .alloc d zs,K,S=>jc d .box K zs S
 | .make d zs eb l c,K,S=>lS zs eb (S.ev l) (S.ev c) d K S
 | .box d x,K,S=>(match(mB (S.ev x)).bind r9 with|some ts=>jc d .box K ts S|none=>False)
 | .bslice d z len parts,K,S=>(match(mE (fun i=>some (i*z,z)) (List.replicate (len*z) (.t .any)) (parts.map fun p=>(p.1,S.ev p.2))).bind r9 with|some ts=>jc d (.arr z) K ts S|none=>False)
 |_,_,_=>False
def pH(P:Program)(n:Nat)(all:Bool)(m:LN):CO->SP->St->Prop
 | .call (some d) f as,K,S=>all=false/\lT P n d f as m K S
 |c,K,S=>pG c K S
def jQ(P:Program)(n:Nat):CO->SP->St->Prop
 | .call d f as,K,S=>iX P n d f as K S
 |c,K,S=>cu P n c K S
section
variable {P:Program} {n:Nat} {S:St}
def HJ:∀{l:List A} {ts:LA} {K:LA->St->Prop},r9 l=some ts->K ts S->kF S l K
 |[],ts,K,h,hK=>by simp only[r9,Option.some.injEq]at h;subst h;exact hK
 | .t c::l,ts,K,h,hK=>by
   simp only[r9]at h;split at h
   ·rename_i hc;simp only[Option.map_eq_some_iff]at h;obtain⟨ts',h1,rfl⟩:=h;exact⟨hc,HJ (K:=fun ts S2=>K (c::ts) S2) h1 hK⟩
   ·cases h
def Loc(M:Nat->aE)(D:List (Nat×aE)):Prop:=∀r∈aX D,M r≠ .free
def W8{a:A}{K:T->St->Prop}(h:rh S a K):
  ∃t D,Loc S.roots D/\K t ⟨S.env,bo D S.roots⟩/\∀e R (K':T->St->Prop),(∀r,S.roots r= .free∨R r=S.roots r)->K' t ⟨e,bo D R⟩->rh ⟨e,R⟩ a K':=by
 unfold rh at h ⊢;split at h
 ·exact⟨_,[],fun r hr=>by simp[aX]at hr,h.2,fun e R K' _ hK=>⟨h.1,hK⟩⟩
 ·rename_i q;split at h
  ·rename_i hr;refine⟨_,[(q,.dead)],fun r hq=>?_,h,fun e R K' hR hK=>?_⟩
   ·have:r=q:=(by simpa[aX]using hq);rw[this,hr];intro h;cases h
   ·have:R q=S.roots q:=(hR q).resolve_left (by rw[hr];intro h;cases h);simp only[this,hr];exact hK
  ·exact h.elim
 ·exact h.elim
def HK(D:List (Nat×aE))(h:∀r,M r= .free∨R r=M r):∀r,bo D M r= .free∨bo D R r=bo D M r:=by
 intro r;by_cases hr:r∈aX D
 ·exact .inr (rS D _ _ r (.inl hr))
 ·rw[ko D _ r hr,ko D _ r hr];exact h r
def Loc.append{D':List (Nat×aE)}(h:Loc M D)(h':Loc (bo D M) D')(hd:∀p∈D,p.2= .dead∨True):∀r∈aX (D++D'),M r≠ .free∨r∈aX D:=by
 intro r hr;simp only[aX,qG,qI]at hr;rcases hr with hr|hr
 ·exact .inl (h r hr)
 ·by_cases hD:r∈aX D
  ·exact .inr hD
  ·have:=h' r hr;rw[ko D _ r hD]at this;exact .inl this
def Loc.join{D':List (Nat×aE)}(h:Loc M D)(h':Loc (bo D M) D'):Loc M (D++D'):=fun r hr=>by
 rcases h.append h' (fun _ _=>.inr trivial) r hr with h1|h1
 ·exact h1
 ·exact h r h1
def DE:∀{as:List A} {S:St} {K:LA->St->Prop},kF S as K→
  ∃ts D,Loc S.roots D/\K ts ⟨S.env,bo D S.roots⟩/\∀e R (K':LA->St->Prop),(∀r,S.roots r= .free∨R r=S.roots r)->K' ts ⟨e,bo D R⟩->kF ⟨e,R⟩ as K'
 |[],S,K,h=>⟨[],[],fun r hr=>by simp[aX]at hr,h,fun _ _ _ _ h=>h⟩
 |a::as,S,K,h=>by
  obtain⟨t,D1,l1,h1,h2⟩:=W8 (h:rh S a _);obtain⟨ts,D2,l2,h3,h4⟩:=DE h1;refine⟨t::ts,D1++D2,l1.join l2,by rw[lj];exact h3,fun e R K' hR hK=>h2 e R _ hR (h4 e _ _ (HK D1 hR) ?_)⟩;rw[lj]at hK;exact hK
def W9{K:LA->St->Prop}(h:pp S x z K):
  ∃t D,Loc S.roots D/\K t ⟨S.env,bo D S.roots⟩/\∀e R (K':LA->St->Prop),(∀r,S.roots r= .free∨R r=S.roots r)->K' t ⟨e,bo D R⟩->pp ⟨e,R⟩ x z K':=by
 unfold pp at h ⊢;split at h
 ·exact⟨_,[],fun r hr=>by simp[aX]at hr,h,fun e R K' _ hK=>hK⟩
 ·rename_i q;split at h
  ·rename_i hr;refine⟨_,[(q,.dead)],fun r hq=>?_,h.2,fun e R K' hR hK=>?_⟩
   ·have:r=q:=(by simpa[aX]using hq);rw[this,hr];intro h;cases h
   ·have:R q=S.roots q:=(hR q).resolve_left (by rw[hr];intro h;cases h);simp only[this,hr];exact⟨h.1,hK⟩
  ·exact h.elim
 ·exact h.elim
def W_{K:LA->St->Prop}(h:pq S x z K):
  ∃t D,Loc S.roots D/\K t ⟨S.env,bo D S.roots⟩/\∀e R (K':LA->St->Prop),(∀r,S.roots r= .free∨R r=S.roots r)->K' t ⟨e,bo D R⟩->pq ⟨e,R⟩ x z K':=by
 unfold pq at h ⊢;split at h
 ·exact⟨_,[],fun r hr=>by simp[aX]at hr,h,fun e R K' _ hK=>hK⟩
 ·exact⟨_,[],fun r hr=>by simp[aX]at hr,h.2.2,fun e R K' _ hK=>⟨h.1,h.2.1,hK⟩⟩
 ·rename_i q;split at h
  ·rename_i s l hr;obtain⟨h1,h2,h3⟩:=h;have hq:∀{R:Nat->aE},(∀r,S.roots r= .free∨R r=S.roots r)->R q=S.roots q:=fun hR=>(hR q).resolve_left (by rw[hr];intro h;cases h);cases hf:l.all T.flat
   ·rw[hf]at h3;refine⟨l,[(q,.dead)],fun r hq=>?_,h3,fun e R K' hR hK=>?_⟩
    ·have:r=q:=(by simpa[aX]using hq);rw[this,hr];intro h;cases h
    ·simp only[hq hR,hr];exact⟨h1,h2,by rw[hf];exact hK⟩
   ·rw[hf]at h3;exact⟨l,[],fun r hr=>by simp[aX]at hr,h3,fun e R K' hR hK=>by simp only[hq hR,hr];exact⟨h1,h2,by rw[hf];exact hK⟩⟩
  ·exact h.elim
 ·rename_i q _ _;split at h
  ·rename_i hr;refine⟨_,[],fun r hr=>by simp[aX]at hr,h.2.2.2.2,fun e R K' hR hK=>?_⟩;have:R q=S.roots q:=(hR q).resolve_left (by rw[hr];intro h;cases h);simp only[this,hr];exact⟨h.1,h.2.1,h.2.2.1,h.2.2.2.1,hK⟩
  ·exact h.elim
 ·exact h.elim
def tu{d:Nat}{mk:LA->T}{ts:LA}(h:jc d mk K ts S):
  ∃D,aX D=[d]/\S.roots d= .free/\K ⟨ak S.env d (.own d),bo D S.roots⟩/\∀e R (K':SP),R d= .free->K' ⟨ak e d (.own d),bo D R⟩->jc d mk K' ts ⟨e,R⟩:=
 ⟨[(d,.live (mk ts) [])],rfl,h.1,h.2,fun e R K' hR hK=>⟨hR,hK⟩⟩
def Xa{r:Nat}{ts:LA}(h:pn r off z K ts S):
  ∃D,Loc S.roots D/\K ⟨S.env,bo D S.roots⟩/\∀e R (K':SP),(∀r,S.roots r= .free∨R r=S.roots r)->K' ⟨e,bo D R⟩->pn r off z K' ts ⟨e,R⟩:=by
 unfold pn at h ⊢;split at h
 ·rename_i l lk hr;have hne:S.roots r≠ .free:=by intro hf;rw[hf]at hr;simp[aE.cells]at hr
  refine⟨[(r,(S.roots r).with (fD l off ts) (lk.filter fun p=>p.1<off||off+z<=p.1))],fun r' hr'=>?_,h.2.2,fun e R K' hR hK=>?_⟩
  ·have:r'=r:=(by simpa[aX]using hr');rw[this];exact hne
  ·have lU:=(hR r).resolve_left hne;simp only[lU,hr];exact⟨h.1,h.2.1,hK⟩
 ·exact h.elim
def Ef.Xb{d:Option Nat}(h:Loc M D):∀r∈aX D,M r≠ .free∨∃k,d=some k/\cX k r:=fun r hr=>.inl (h r hr)
def HL{d:Nat}(hl:Loc M D)(hd:bo D M d= .free)(hR:∀r,M r= .free∨R r=M r)(hf:M d= .free->R d= .free):bo D R d= .free:=by
 by_cases hr:d∈aX D
 ·rw[rS D R M d (.inl hr)];exact hd
 ·rw[ko D _ d hr]at hd ⊢;exact hf hd
def Az{D1 D2:List (Nat×aE)}{d:Nat}(h1:Loc M D1)(h2:aX D2=[d]):∀r∈aX (D1++D2),M r≠ .free∨∃k,some d=some k/\cX k r:=by
 intro r hr;rw[aX,qG,qI]at hr;rcases hr with hr|hr
 ·exact .inl (h1 r hr)
 ·have:r=d:=by
   have:r∈aX D2:=hr;rw[h2]at this;simpa using this
  exact .inr ⟨d,rfl,.inl this⟩
def Xd{d:Nat}(h:bC x d K S):∃v D,K ⟨ak S.env d v,bo D S.roots⟩/\(∀r∈aX D,S.roots r≠ .free∨∃k,some d=some k/\cX k r)∧
  ∀e R (K':SP),(∀r,S.roots r= .free∨R r=S.roots r)->(∀r∈aX D,S.roots r= .free->R r= .free)->K' ⟨ak e d v,bo D R⟩->bC x d K' ⟨e,R⟩:=by
 have key:∀(r off:Nat) (l:LA) (lk:List (Nat×Nat)) (c:T),S.roots r≠ .free->jb S r off d l lk c K->∃v D,K ⟨ak S.env d v,bo D S.roots⟩/\(∀r∈aX D,S.roots r≠ .free∨∃k,some d=some k/\cX k r)∧
   ∀e R (K':SP),(∀r,S.roots r= .free∨R r=S.roots r)->(∀r∈aX D,S.roots r= .free->R r= .free)->K' ⟨ak e d v,bo D R⟩->jb ⟨e,R⟩ r off d l lk c K':=by
  intro r off l lk c hne h;unfold jb at h ⊢;split at h
  ·rename_i s l';refine⟨.own d,[(r,(S.roots r).with (l.set off .any) ((off,d)::lk)),(d,.live (.arr s l') [])],h.2,fun r' hr'=>?_,fun e R K' hR hf hK=>?_⟩
   ·simp only[aX,List.map_cons,List.map_nil,qO,List.not_mem_nil,or_false]at hr';rcases hr' with rfl|rfl
    ·exact .inl hne
    ·exact .inr ⟨_,rfl,.inl rfl⟩
   ·have lU:=(hR r).resolve_left hne;simp only[lU];exact⟨hf d (by simp[aX]) h.1,hK⟩
  ·rename_i l';refine⟨.own d,[(r,(S.roots r).with (l.set off .any) ((off,d)::lk)),(d,.live (.box l') [])],h.2,fun r' hr'=>?_,fun e R K' hR hf hK=>?_⟩
   ·simp only[aX,List.map_cons,List.map_nil,qO,List.not_mem_nil,or_false]at hr';rcases hr' with rfl|rfl
    ·exact .inl hne
    ·exact .inr ⟨_,rfl,.inl rfl⟩
   ·have lU:=(hR r).resolve_left hne;simp only[lU];exact⟨hf d (by simp[aX]) h.1,hK⟩
  ·exact⟨_,[],h.2,fun r hr=>by simp[aX]at hr,fun e R K' _ _ hK=>⟨h.1,hK⟩⟩
 unfold bC at h ⊢;split at h
 ·obtain⟨c,hc⟩:=yq h.1;exact⟨_,[],h.2 c hc,fun r hr=>by simp[aX]at hr,fun e R K' _ _ hK=>⟨h.1,fun c' eY=>by rw[hc]at eY;cases eY;exact hK⟩⟩
 ·rename_i r off;split at h
  ·rename_i hr;have hne:S.roots r≠ .free:=by intro hf;rw[hf]at hr;simp[aE.cells]at hr
   obtain⟨h0,h⟩:=h;split at h
   ·rename_i hl;refine⟨_,[],h,fun r hr=>by simp[aX]at hr,fun e R K' hR _ hK=>?_⟩;have lU:=(hR r).resolve_left hne;simp only[lU,hr,hl];exact⟨h0,hK⟩
   ·rename_i hl;obtain⟨c,hc⟩:=yq h0;obtain⟨v,D,h1,h2,h3⟩:=key _ _ _ _ _ hne (h c hc);refine⟨v,D,h1,h2,fun e R K' hR hf hK=>?_⟩;have lU:=(hR r).resolve_left hne;simp only[lU,hr,hl];exact⟨h0,fun c' eY=>by rw[hc]at eY;cases eY;exact h3 e R K' hR hf hK⟩
  ·exact h.elim
 ·rename_i r;split at h
  ·rename_i hr;have hne:S.roots r≠ .free:=by rw[hr];intro h;cases h
   obtain⟨h0,h⟩:=h;split at h
   ·rename_i hl;refine⟨_,[],h,fun r hr=>by simp[aX]at hr,fun e R K' hR _ hK=>?_⟩;have lU:=(hR r).resolve_left hne;simp only[lU,hr,hl];exact⟨h0,hK⟩
   ·rename_i hl;obtain⟨c,hc⟩:=yq h0;obtain⟨v,D,h1,h2,h3⟩:=key _ _ _ _ _ hne (h c hc);refine⟨v,D,h1,h2,fun e R K' hR hf hK=>?_⟩;have lU:=(hR r).resolve_left hne;simp only[lU,hr,hl];exact⟨h0,fun c' eY=>by rw[hc]at eY;cases eY;exact h3 e R K' hR hf hK⟩
  ·exact h.elim
 ·exact h.elim
def Xe{p:Nat×Nat}(hR:∀r,S.roots r= .free∨R r=S.roots r)(h:pm S x=some p):pm ⟨e,R⟩ x=some p:=by
 unfold pm at h ⊢;split at h
 ·exact h
 ·rename_i r;split at h
  ·rename_i hr;have lU:R r=S.roots r:=(hR r).resolve_left (by rw[hr];intro h;cases h);simp only[lU,hr];exact h
  ·cases h
 ·cases h
def Nz(hk:c.wU=true)(h:jQ P n c K S):
  ∃x D,K ⟨fH S.env c.dst x,bo D S.roots⟩/\Ef S.roots c.dst D x S.env c.reads fun e R Kc=>cu P n c Kc ⟨e,R⟩:=by
 cases c<;>simp only[CO.wU,Bool.false_eq_true]at hk<;>simp only[jQ,cu]at h
 case store z x v=>
  unfold pE at h;split at h
  ·rename_i h1 h2;obtain⟨ts,D1,l1,h3,h4⟩:=DE h.2;obtain⟨D2,l2,h5,h6⟩:=Xa h3;refine⟨.t .any,D1++D2,by rw[lj];exact h5,Ef.Xb (l1.join l2),fun e R Kc hr hR hf hK=>?_⟩;simp only[CO.reads,qO,List.not_mem_nil,or_false,forall_eq_or_imp,forall_eq]at hr;show pE z (St.ev ⟨e,R⟩ x) (St.ev ⟨e,R⟩ v) Kc ⟨e,R⟩;unfold pE;rw[hr.1,hr.2,show pm ⟨e,R⟩ (St.ev ⟨S.env,S.roots⟩ x)=_ from Xe hR h1,show mB (St.ev ⟨S.env,S.roots⟩ v)=_ from h2];exact⟨h.1,h4 e R _ hR (h6 e _ _ (HK D1 hR) (by rw[lj]at hK;exact hK))⟩
  ·exact h.elim
 case alloc d zs=>
  obtain⟨D,hk,hd,h1,h2⟩:=tu h;refine⟨.own d,D,h1,Az (D1:=[]) (fun r hr=>by simp[aX]at hr) hk,fun e R Kc hr hR hf hK=>h2 e R Kc (hf d (by rw[hk];simp) hd) hK⟩
 case box d x=>
  unfold po at h;split at h
  ·rename_i h1;obtain⟨ts,D1,l1,h3,h4⟩:=DE h;obtain⟨D2,hk,hd,h5,h6⟩:=tu h3;refine⟨.own d,D1++D2,by rw[lj];exact h5,Az l1 hk,fun e R Kc hr hR hf hK=>?_⟩;simp only[CO.reads,qO,List.not_mem_nil,or_false,forall_eq]at hr;show po (St.ev ⟨e,R⟩ x) d ⟨e,R⟩ Kc;unfold po;rw[hr,show mB (St.ev ⟨S.env,S.roots⟩ x)=_ from h1];refine h4 e R _ hR (h6 e _ _ (HL l1 hd hR fun hm=>hf d ?_ hm) (by rw[lj]at hK;exact hK));rw[aX,qG,qI];right;show d∈aX D2;rw[hk];simp
  ·exact h.elim
 case bslice d z len parts=>
  unfold tj at h;split at h
  ·rename_i h1;obtain⟨ts,D1,l1,h3,h4⟩:=DE h;obtain⟨D2,hk,hd,h5,h6⟩:=tu h3;refine⟨.own d,D1++D2,by rw[lj];exact h5,Az l1 hk,fun e R Kc hr hR hf hK=>?_⟩;simp only[CO.reads]at hr;have e1:(parts.map fun p=>(p.1,St.ev ⟨e,R⟩ p.2))=parts.map fun p=>(p.1,S.ev p.2):=rW fun p hp=>by rw[hr _ (qN.2 ⟨p,hp,rfl⟩)]
   show tj z len d (parts.map fun p=>(p.1,St.ev ⟨e,R⟩ p.2)) Kc ⟨e,R⟩;unfold tj;rw[e1,h1];refine h4 e R _ hR (h6 e _ _ (HL l1 hd hR fun hm=>hf d ?_ hm) (by rw[lj]at hK;exact hK));rw[aX,qG,qI];right;show d∈aX D2;rw[hk];simp
  ·exact h.elim
 case make d zs eb l c=>
  unfold lS at h;split at h
  ·rename_i h1 h2;obtain⟨D,hk,hd,h5,h6⟩:=tu h.2.2.2;refine⟨.own d,D,h5,Az (D1:=[]) (fun r hr=>by simp[aX]at hr) hk,fun e R Kc hr hR hf hK=>?_⟩;simp only[CO.reads,qO,List.not_mem_nil,or_false,forall_eq_or_imp,forall_eq]at hr;show lS zs eb (St.ev ⟨e,R⟩ l) (St.ev ⟨e,R⟩ c) d Kc ⟨e,R⟩;unfold lS;rw[hr.1,hr.2,show St.ev ⟨S.env,S.roots⟩ l=_ from h1,show St.ev ⟨S.env,S.roots⟩ c=_ from h2];exact⟨h.1,h.2.1,h.2.2.1,h6 e R _ (hf d (by rw[hk];simp) hd) hK⟩
  ·exact h.elim
 case app d z eb b x=>
  obtain⟨l1,D1,c1,h1,h2⟩:=W9 h;obtain⟨l2,D2,c2,h3,h4⟩:=W_ (show pq _ _ _ _ from h1);obtain⟨D3,hk,hd,h5,h6⟩:=tu (show jc _ _ _ _ _ from h3.2);have c12:=c1.join c2;refine⟨.own d,(D1++D2)++D3,by rw[lj,lj];exact h5,Az c12 hk,fun e R Kc hr hR hf hK=>?_⟩;simp only[CO.reads,qO,List.not_mem_nil,or_false,forall_eq_or_imp,forall_eq]at hr;show pp ⟨e,R⟩ (St.ev ⟨e,R⟩ b) z (yd (St.ev ⟨e,R⟩ x) d z eb Kc);rw[hr.1,hr.2];refine h2 e R _ hR ?_;refine h4 e _ _ (HK D1 hR) ⟨h3.1,h6 e _ _ ?_ (by rw[lj,lj]at hK;exact hK)⟩;have hd':bo (D1++D2) S.roots d= .free:=by rw[lj];exact hd
  have:=HL c12 hd' hR fun hm=>hf d (by
   rw[aX,qG,qI];right;show d∈aX D3;rw[hk];simp) hm
  rw[lj]at this;exact this
 case load1 d x=>
  obtain⟨y,D,h5,h6,h7⟩:=Xd h;refine⟨y,D,h5,h6,fun e R Kc hr hR hf hK=>?_⟩;simp only[CO.reads,qO,List.not_mem_nil,or_false,forall_eq]at hr;show bC (St.ev ⟨e,R⟩ x) d Kc ⟨e,R⟩;rw[hr];exact h7 e R Kc hR hf hK
 case call d f as=>
  obtain⟨x,D,h1,h2⟩:=h;exact⟨x,D,h1,h2.1,fun e R Kc hr hR hf hK=>h2.2 e R Kc hr hR hf hK⟩
def Xf{all:Bool}(h:pH P n all m c K S):
  ∃d x D,c.dst=some d/\(∀r∈aX D,cX d r)/\K ⟨fH S.env c.dst x,bo D S.roots⟩/\Ef (if all then fun _=>.free else bW m S.roots) c.dst D x S.env c.reads fun e R Kc=>cu P n c Kc ⟨e,R⟩:=by
 have DF:∀{M:Nat->aE} {d:Nat} {D:List (Nat×aE)} {x:A} {reads:List Operand} {W:(Nat->A)->(Nat->aE)->SP->Prop},aX D=[d]->M d= .free→
   (∀e R Kc,(∀y∈reads,St.ev ⟨e,R⟩ y=St.ev ⟨S.env,M⟩ y)->R d= .free->Kc ⟨ak e d x,bo D R⟩->W e R Kc)->Ef M (some d) D x S.env reads W:=fun{M d D x reads W} hk hd h=>
  ⟨fun r hr=>.inr ⟨d,rfl,.inl (by rw[hk]at hr;simpa using hr)⟩,fun e R Kc hr hR hf hK=>h e R Kc hr (hf d (by rw[hk];simp) hd) hK⟩
 have DG:∀{d:Nat},S.roots d= .free->(if all then fun _=>aE.free else bW m S.roots) d= .free:=fun{d} hd=>by
  cases all
  ·rcases Ny m S.roots d with h|h
   ·exact h
   ·exact h.symm.trans hd
  ·rfl
 have ids:∀{d:Nat} {D:List (Nat×aE)},aX D=[d]->∀r∈aX D,cX d r:=fun{d D} hk r hr=>.inl (by rw[hk]at hr;simpa using hr);have DH:∀(M:Nat->aE) (y:Operand),St.ev ⟨S.env,M⟩ y=S.ev y:=fun M y=>by cases y<;>rfl
 have calls:∀d f as,pH P n all m (.call (some d) f as) K S->∃d' x D,(CO.call (some d) f as).dst=some d'/\(∀r∈aX D,cX d' r)/\K ⟨fH S.env (CO.call (some d) f as).dst x,bo D S.roots⟩/\Ef (if all then fun _=>.free else bW m S.roots) (CO.call (some d) f as).dst D x S.env (CO.call (some d) f as).reads fun e R Kc=>cu P n (.call (some d) f as) Kc ⟨e,R⟩:=by
  intro d f as h;obtain⟨rfl,x,D,h1,h2,h3⟩:=h;exact⟨d,x,D,rfl,h1,h2,h3.1,fun e R Kc hr hR hf hK=>h3.2 e R Kc hr hR hf hK⟩
 cases c
 case call d f as=>
  cases d with
  |none=>exact(h:False).elim
  |some d=>exact calls d f as h
 case alloc d zs=>
  obtain⟨D,hk,hd,h1,h2⟩:=tu (h:jc d .box K zs S);exact⟨d,.own d,D,rfl,ids hk,h1,DF hk (DG hd) fun e R Kc _ hR hK=>h2 e R Kc hR hK⟩
 case make d zs eb l c=>
  have h:lS zs eb (S.ev l) (S.ev c) d K S:=h;unfold lS at h;split at h
  ·rename_i h1 h2;obtain⟨D,hk,hd,h5,h6⟩:=tu h.2.2.2;refine⟨d,.own d,D,rfl,ids hk,h5,DF hk (DG hd) fun e R Kc hr hR hK=>?_⟩;simp only[CO.reads,qO,List.not_mem_nil,or_false,forall_eq_or_imp,forall_eq]at hr;show lS zs eb (St.ev ⟨e,R⟩ l) (St.ev ⟨e,R⟩ c) d Kc ⟨e,R⟩;unfold lS;rw[hr.1,hr.2,DH _ l,DH _ c,h1,h2];exact⟨h.1,h.2.1,h.2.2.1,h6 e R _ hR hK⟩
  ·exact h.elim
 case box d x=>
  have h:(match(mB (S.ev x)).bind r9 with|some ts=>jc d .box K ts S|none=>False):=h;split at h
  ·rename_i ts hts;obtain⟨as,h1,h2⟩:=Option.bind_eq_some_iff.1 hts;obtain⟨D,hk,hd,h5,h6⟩:=tu h;refine⟨d,.own d,D,rfl,ids hk,h5,DF hk (DG hd) fun e R Kc hr hR hK=>?_⟩;simp only[CO.reads,qO,List.not_mem_nil,or_false,forall_eq]at hr;show po (St.ev ⟨e,R⟩ x) d ⟨e,R⟩ Kc;unfold po;rw[hr,DH,h1];exact HJ h2 (h6 e R _ hR hK)
  ·exact h.elim
 case bslice d z len parts=>
  have h:(match(mE (fun i=>some (i*z,z)) (List.replicate (len*z) (.t .any)) (parts.map fun p=>(p.1,S.ev p.2))).bind r9 with|some ts=>jc d (.arr z) K ts S|none=>False):=h;split at h
  ·rename_i ts hts;obtain⟨as,h1,h2⟩:=Option.bind_eq_some_iff.1 hts;obtain⟨D,hk,hd,h5,h6⟩:=tu h;refine⟨d,.own d,D,rfl,ids hk,h5,DF hk (DG hd) fun e R Kc hr hR hK=>?_⟩;simp only[CO.reads]at hr;have e1:(parts.map fun p=>(p.1,St.ev ⟨e,R⟩ p.2))=parts.map fun p=>(p.1,S.ev p.2):=rW fun p hp=>by rw[hr _ (qN.2 ⟨p,hp,rfl⟩),DH]
   show tj z len d (parts.map fun p=>(p.1,St.ev ⟨e,R⟩ p.2)) Kc ⟨e,R⟩;unfold tj;rw[e1,h1];exact HJ h2 (h6 e R _ hR hK)
  ·exact h.elim
 all_goals exact(h:False).elim
end
inductive DK where
 |r (all:Bool) (m:LN)
 |c (all:Bool) (m:LN)
 |h (w:Option LN) (m:LN)
deriving DecidableEq
def kE:DK:=.r true []
abbrev kR:DK:=.r false []
def kN:DK:=.c true []
def kH:DK:=.h none []
def DK.mask:DK->(Nat->aE)->Nat->aE
 | .r all m,R=>if all then fun _=>.free else bW m R
 | .c all m,R=>if all then fun _=>.free else bW m R
 | .h _ m,R=>bW m R
def DK.fm:DK->Bool
 | .r _ _=>true
 |_=>false
def DK.es:DK->Bool
 | .c _ _=>true
 |_=>false
def DK.tv:DK->Bool
 | .h _ _=>true
 |_=>false
def slotsOf(l:List Operand):LN:=l.filterMap fun| .tmp t=>some t|_=>none
def CI.reads:CI->LN
 | .o c=>slotsOf c.reads
 | .g s _ _ c=>s::slotsOf c.reads
def CI.dst:CI->Option Nat
 | .o c=>c.dst
 | .g _ _ d _=>d
def wV(k:DK)(d:Option Nat):Bool:=match k with| .h _ []=>true| .h (some _) m=>(match d with|some d=>decide (d<1000)&& !m.contains d|none=>true)&&m.all fun d=>decide (d<1000)| .h none _=>false|_=>true
def uH:DK×CI->Bool
 |(k,.o c)=>(!k.tv||c.wU)&&wV k c.dst
 |(k,.g _ _ d c)=>(!k.tv||c.wU)&&wV k c.dst&&d==c.dst
def AA(S:St)(d:Option Nat)(K:SP)(a:A):Prop:=K ⟨fH S.env d a,S.roots⟩
def Xg(S:St)(d:Nat)(K:SP)(a:A):AA S (some d) K a=K ⟨ak S.env d a,S.roots⟩:=rfl
instance (d r:Nat):Decidable (cX d r):=by unfold cX;exact inferInstance
def it(W:LN)(d:Option Nat)(R R':Nat->aE):Prop:=∀r,(∀k∈W,¬cX k r)->(∀k,d=some k->¬cX k r)->R' r=R r
def it.refl(W:LN)(d:Option Nat)(R:Nat->aE):it W d R R:=fun _ _ _=>rfl
def it.ak{W:LN}{d:Option Nat}{R R':Nat->aE}{j:Nat}(x:aE)(h:it W d R R')(hj:j∈W∨d=some j):it W d R (Go.Ab.ak R' j x):=fun r h1 h2=>by
 rw[aU _ _ _ _ fun e=>?_]
 ·exact h r h1 h2
 ·rcases hj with hj|hj
  ·exact h1 j hj (.inl e)
  ·exact h2 j hj (.inl e)
def kL(m:LN)(R R':Nat->aE):Nat->aE:=fun r=>if m.any (fun d=>decide (r=d)||decide (r/1000=d+1))then R r else R' r
def Xh(m:LN)(R R':Nat->aE)(i:Nat)(x:aE):kL m R (Go.Ab.ak R' i x)=if m.any (fun d=>decide (i=d)||decide (i/1000=d+1))then kL m R R' else Go.Ab.ak (kL m R R') i x:=by
 funext r;by_cases hr:r=i
 ·subst hr;split
  ·rename_i h;simp only[kL,h,if_true]
  ·rename_i h;rw[aT];simp only[kL];rw[if_neg h,aT]
 ·split
  ·simp only[kL];rw[aU _ _ _ _ hr]
  ·rw[aU _ _ _ _ hr];simp only[kL];rw[aU _ _ _ _ hr]
def Xi(m:LN)(R:Nat->aE):kL m R (bW m R)=R:=by
 funext r;simp only[kL,bW];split<;>rfl
def Xj{dst:Option Nat}(hm:∀d∈m,d<1000)(hd:∀d,dst=some d->d<1000/\d∉m)(hk:∀r∈aX D,bW m R r≠ .free∨∃d,dst=some d/\cX d r):
  kL m R (bo D (bW m R))=bo D R:=by
 funext r;simp only[kL];split
 ·rename_i h;have hid:∃d∈m,cX d r:=by
   obtain⟨d,hd,h⟩:=List.any_eq_true.1 h;exact⟨d,hd,by simpa[cX]using h⟩
  refine(ko D R r fun hr=>?_).symm;rcases hk r hr with h1|⟨d',h1,h2⟩
  ·exact h1 (by simp only[bW];rw[if_pos h])
  ·obtain⟨d,NA,aV⟩:=hid;obtain⟨h3,h4⟩:=hd d' h1;have h5:=hm d NA;have hne:d≠d':=fun e=>h4 (e▸NA);rcases aV with aV|aV<;>rcases h2 with h2|h2
   ·exact hne (aV.symm.trans h2)
   ·omega
   ·omega
   ·omega
 ·rename_i h;refine rS D _ _ r (.inr ?_);simp only[bW];rw[if_neg h]
def pI(P:Program)(n:Nat):DK->CO->SP->St->Prop
 | .h none [],c,K,S=>jQ P n c K S
 | .h (some W) [],c,K,S=>jQ P n c (fun S'=>K S'/\it W c.dst S.roots S'.roots) S
 | .h (some W) (d::m),c,K,S=>jQ P n c (fun S'=>K ⟨S'.env,kL (d::m) S.roots S'.roots⟩/\it W c.dst (bW (d::m) S.roots) S'.roots) ⟨S.env,bW (d::m) S.roots⟩
 | .h none (_::_),_,_,_=>False
 | .r all m,c,K,S=>eS P n c S.ev ⟨S.env,if all then fun _=>.free else bW m S.roots⟩ (AA S c.dst K)
 | .c all m,c,K,S=>pH P n all m c K S
def uI(P:Program)(n:Nat):DK->CI->SP->St->Prop
 |k,.o c,K,S=>pI P n k c K S
 |k,.g s want d c,K,S=>iW (S.env s) s want d (pI P n k c K) K S
def pJ(P:Program)(n:Nat):List (DK×CI)->SP->St->Prop
 |[],K,S=>K S
 |(k,c)::l,K,S=>uI P n k c (pJ P n l K) S
structure AB(P:Program)(n:Nat)(k:DK)(c:CI)(S:St)(x:A)(D:List (Nat×aE)):Prop where
 keys:∀r∈aX D,k.mask S.roots r≠ .free∨∃d,c.dst=some d/\cX d r
 fm:k.fm=true->D=[]
 es:k.es=true->∀r∈aX D,∃d,c.dst=some d/\cX d r
 tv:∀W m,k= .h (some W) m->∀r∈aX D,(∃d∈W,cX d r)∨∃d,c.dst=some d/\cX d r
 run:∀(e:Nat->A) (R:Nat->aE) (Kc:SP),(∀s∈c.reads,e s=S.env s)->(∀r,k.mask S.roots r= .free∨R r=k.mask S.roots r)->(∀r∈aX D,k.mask S.roots r= .free->R r= .free)→
  Kc ⟨fH e c.dst x,bo D R⟩->fF P n [c] Kc ⟨e,R⟩
section
variable {P:Program} {n:Nat} {S:St}
def DI{e':Nat->A}{R':Nat->aE}{l:List Operand}(h:∀s∈slotsOf l,e s=e' s):∀y∈l,St.ev ⟨e,R⟩ y=St.ev ⟨e',R'⟩ y:=by
 intro y hy;cases y with
 |tmp t=>exact h t (List.mem_filterMap.2 ⟨_,hy,rfl⟩)
 |_=>rfl
def NB(p:Nat->Bool):∀(D:List (Nat×aE)) (R:Nat->aE) (r:Nat),(p r=true->bo (D.filter fun q=>p q.1) R r=bo D R r)/\(p r=false->bo (D.filter fun q=>p q.1) R r=R r):=by
 intro D;have h2:∀(R:Nat->aE) (r:Nat),p r=false->bo (D.filter fun q=>p q.1) R r=R r:=fun R r h=>ko _ _ _ fun hk=>by
  obtain⟨q,hq,rfl⟩:=qN.1 hk;have:=(qV.1 hq).2;rw[h]at this;cases this
 refine fun R r=>⟨?_,h2 R r⟩;revert R;induction D with
 |nil=>intro R _;rfl
 |cons q D ih=>
  intro R h;have ih:=ih (fun R r h=>ko _ _ _ fun hk=>by
   obtain⟨q,hq,rfl⟩:=qN.1 hk;have:=(qV.1 hq).2;rw[h]at this;cases this)
  by_cases hq:p q.1=true
  ·rw[List.filter_cons_of_pos (sU hq)];exact ih (Go.Ab.ak R q.1 q.2) h
  ·rw[List.filter_cons_of_neg (sU hq)];rw[ih R h];show bo D R r=bo D (Go.Ab.ak R q.1 q.2) r;refine rS _ _ _ r (.inr ?_);rw[aU _ _ _ _ fun e=>hq (by rw[←e];exact h)]
def NC{W:LN}(hk:c.wU=true)(h:jQ P n c (fun S'=>K S'/\it W c.dst S.roots S'.roots) S):
  ∃x D,K ⟨fH S.env c.dst x,bo D S.roots⟩/\(∀r∈aX D,S.roots r≠ .free∨∃d,c.dst=some d/\cX d r)/\(∀r∈aX D,(∃d∈W,cX d r)∨∃d,c.dst=some d/\cX d r)∧
   ∀(e:Nat->A) (R:Nat->aE) (Kc:SP),(∀s∈slotsOf c.reads,e s=S.env s)->(∀r,S.roots r= .free∨R r=S.roots r)->(∀r∈aX D,S.roots r= .free->R r= .free)→
    Kc ⟨fH e c.dst x,bo D R⟩->cu P n c Kc ⟨e,R⟩:=by
 obtain⟨x,D,⟨h1,hfr⟩,h2,h3⟩:=Nz hk h;let p:Nat->Bool:=fun r=>(W.any fun d=>decide (cX d r))||(match c.dst with|some d=>decide (cX d r)|none=>false)
 have hp:∀r,p r=true->(∃d∈W,cX d r)∨∃d,c.dst=some d/\cX d r:=fun r hr=>by
  simp only[p,Bool.or_eq_true,List.any_eq_true,decide_eq_true_eq]at hr;rcases hr with hr|hr
  ·exact .inl hr
  ·right;split at hr
   ·rename_i d hd;exact⟨d,hd,sU hr⟩
   ·cases hr
 have ju:∀r,p r=false->(∀d∈W,¬cX d r)/\∀d,c.dst=some d->¬cX d r:=fun r hr=>by
  simp only[p,Bool.or_eq_false_iff,List.any_eq_false,decide_eq_true_eq]at hr;refine⟨hr.1,fun d hd aV=>?_⟩;have:=hr.2;rw[hd]at this;simp[aV]at this
 have same:∀R:Nat->aE,(∀r,S.roots r= .free∨R r=S.roots r)->bo (D.filter fun q=>p q.1) R=bo D R:=fun R hR=>by
  funext r;cases pK:p r with
  |true=>exact(NB p D R r).1 pK
  |false=>
   rw[(NB p D R r).2 pK];by_cases hr:r∈aX D
   ·have mN:=ju r pK;rcases h2 r hr with h4|⟨d,hd,aV⟩
    ·rw[rS D R S.roots r (.inl hr)];have:=hfr r mN.1 mN.2;rw[show bo D S.roots r=S.roots r from this];exact(hR r).resolve_left h4
    ·exact absurd aV (mN.2 d hd)
   ·exact(ko D R r hr).symm
 refine⟨x,D.filter fun q=>p q.1,by rw[same S.roots fun r=>.inr rfl];exact h1,fun r hr=>?_,fun r hr=>?_,fun e R Kc he hR hf ic=>?_⟩
 ·obtain⟨q,hq,rfl⟩:=qN.1 hr;exact h2 q.1 (qN.2 ⟨q,(qV.1 hq).1,rfl⟩)
 ·obtain⟨q,hq,rfl⟩:=qN.1 hr;exact hp _ (qV.1 hq).2
 ·rw[same R hR]at ic;refine h3 e R Kc (fun y hy=>DI he y hy) hR (fun r hr yh=>?_) ic;cases pK:p r with
  |true=>
   refine hf r ?_ yh;obtain⟨q,hq,rfl⟩:=qN.1 hr;exact qN.2 ⟨q,qV.2 ⟨hq,pK⟩,rfl⟩
  |false=>
   rcases h2 r hr with h4|⟨d,hd,aV⟩
   ·exact absurd yh h4
   ·exact absurd aV ((ju r pK).2 d hd)
def ND{k:DK}(hk:(!k.tv||c.wU)=true)(wW:wV k c.dst=true)(h:pI P n k c K S):
  ∃x D,K ⟨fH S.env c.dst x,bo D S.roots⟩/\(∀r∈aX D,k.mask S.roots r≠ .free∨∃d,c.dst=some d/\cX d r)/\(k.fm=true->D=[])/\(k.es=true->∀r∈aX D,∃d,c.dst=some d/\cX d r)/\(∀W m,k= .h (some W) m->∀r∈aX D,(∃d∈W,cX d r)∨∃d,c.dst=some d/\cX d r)∧
   ∀(e:Nat->A) (R:Nat->aE) (Kc:SP),(∀s∈slotsOf c.reads,e s=S.env s)->(∀r,k.mask S.roots r= .free∨R r=k.mask S.roots r)->(∀r∈aX D,k.mask S.roots r= .free->R r= .free)→
    Kc ⟨fH e c.dst x,bo D R⟩->cu P n c Kc ⟨e,R⟩:=by
 cases k with
 |h w m=>
  have hk':c.wU=true:=by simpa[DK.tv]using hk
  match w,m,wW,h with
  |none,[],_,h=>
   obtain⟨x,D,h1,h2,h3⟩:=Nz hk' (show jQ P n c K S from h);exact⟨x,D,h1,h2,fun h=>by simp[DK.fm]at h,fun h=>by simp[DK.es]at h,fun W m h=>(by cases h),fun e R Kc he hR hf ic=>h3 e R Kc (fun y hy=>DI he y hy) hR hf ic⟩
  |some W,[],_,h=>
   obtain⟨x,D,h1,h2,h3,h4⟩:=NC hk' (show jQ P n c (fun S'=>K S'/\it W c.dst S.roots S'.roots) S from h);exact⟨x,D,h1,h2,fun h=>by simp[DK.fm]at h,fun h=>by simp[DK.es]at h,fun W' m h=>(by cases h;exact h3),h4⟩
  |none,_::_,_,h=>exact(show False from h).elim
  |some W,d0::m,wW,h=>
   have NE:(∀d∈d0::m,d<1000)/\∀d,c.dst=some d->d<1000/\d∉d0::m:=by
    simp only[wV,qM,rO,decide_eq_true_eq]at wW;refine⟨wW.2,fun d hd=>?_⟩;have:=wW.1;rw[hd]at this;simp only[qM,decide_eq_true_eq,Bool.not_eq_true']at this;exact⟨this.1,fun hm=>by rw[List.contains_iff_mem.2 hm]at this;cases this.2⟩
   obtain⟨x,D,h1,h2,h3,h4⟩:=NC (S:=⟨S.env,bW (d0::m) S.roots⟩) (K:=fun S'=>K ⟨S'.env,kL (d0::m) S.roots S'.roots⟩) hk' (show jQ P n c (fun S'=>K ⟨S'.env,kL (d0::m) S.roots S'.roots⟩/\it W c.dst (bW (d0::m) S.roots) S'.roots) ⟨S.env,bW (d0::m) S.roots⟩ from h);refine⟨x,D,?_,h2,fun h=>by simp[DK.fm]at h,fun h=>by simp[DK.es]at h,fun W' m h=>(by cases h;exact h3),h4⟩;simp only[]at h1;rw[Xj NE.1 NE.2 h2]at h1;exact h1
 |r all m=>
  have h:eS P n c S.ev ⟨S.env,if all then fun _=>.free else bW m S.roots⟩ (AA S c.dst K):=h;obtain⟨x,hK,hall⟩:=WY h;refine⟨x,[],hK,fun r hr=>by simp[aX]at hr,fun _=>rfl,fun h=>by simp[DK.es]at h,fun W m h=>(by cases h),fun e R Kc he hR hf ic=>?_⟩;cases hd:c.dst with
  |none=>cases c<;>simp only[CO.dst,reduceCtorEq]at hd<;>simp only[eS]at h<;>(try subst hd)<;>exact h.elim
  |some d=>
   refine W6 hd ?_;refine W4 (ρ:=S.ev) (fun y hy=>DI (R:=R) (R':=S.roots) he y hy) ?_;refine W5 (e:=S.env) (M:=if all then fun _=>.free else bW m S.roots) hR (hall _ ?_);rw[hd]at ic;exact ic
 |c all m=>
  obtain⟨d,x,D,h1,h2,h3,h4,h5⟩:=Xf (h:pH P n all m c K S);exact⟨x,D,h3,h4,fun h=>by simp[DK.fm]at h,fun _ r hr=>⟨d,h1,h2 r hr⟩,fun W m h=>(by cases h),fun e R Kc he hR hf ic=>h5 e R Kc (fun y hy=>DI he y hy) hR hf ic⟩
def Xk{k:DK}{c:CI}(hok:uH (k,c)=true)(h:uI P n k c K S):
  ∃x D,K ⟨fH S.env c.dst x,bo D S.roots⟩/\AB P n k c S x D:=by
 cases c with
 |o c=>
  simp only[uH,qM]at hok;obtain⟨x,D,h1,h2,h3,h4,h5,h6⟩:=ND hok.1 hok.2 h;exact⟨x,D,h1,h2,h3,h4,h5,h6⟩
 |g s want d c=>
  simp only[uH,qM,beq_iff_eq]at hok;obtain⟨⟨hk,wW⟩,hd⟩:=hok;simp only[uI]at h;unfold iW at h;split at h
  ·rename_i b hb;by_cases jd:b=want
   ·have h1:=h.1 jd;rw[rN _ _ _ (by rw[hb,jd])]at h1;obtain⟨x,D,h2,h3,h4,h5,h7,h6⟩:=ND hk wW h1;refine⟨x,D,by simp only[CI.dst,hd];exact h2,by simp only[CI.dst,hd];exact h3,h4,by simp only[CI.dst,hd];exact h5,by simp only[CI.dst,hd];exact h7,fun e R Kc he hR hf ic=>?_⟩;have wX:e s= .t (.v (.bool b)):=(he s (by simp[CI.reads])).trans hb;simp only[fF];unfold iW;simp only[wX];refine⟨fun _=>?_,fun e'=>absurd (jd.symm.trans e') (by cases want<;>simp)⟩;rw[rN _ _ _ (by rw[wX,jd])];refine h6 e R _ (fun s' hs'=>he s' (by simp only[CI.reads,qO];exact .inr hs')) hR hf ?_;simp only[CI.dst,hd]at ic;exact ic
   ·have e':b= !want:=by cases b<;>cases want<;>simp_all
    have h1:=h.2 e';rw[rN _ _ _ (by rw[hb,e'])]at h1;refine⟨nl,[],by cases d<;>exact h1,fun r hr=>by simp[aX]at hr,fun _=>rfl,fun _ r hr=>by simp[aX]at hr,fun _ _ _ r hr=>by simp[aX]at hr,fun e R Kc he hR hf ic=>?_⟩;have wX:e s= .t (.v (.bool b)):=(he s (by simp[CI.reads])).trans hb;simp only[fF];unfold iW;simp only[wX];refine⟨fun h=>absurd h jd,fun _=>?_⟩;rw[rN _ _ _ (by rw[wX,e'])];cases d<;>exact ic
  ·rename_i xs hb;refine⟨nl,[],by cases d<;>exact h,fun r hr=>by simp[aX]at hr,fun _=>rfl,fun _ r hr=>by simp[aX]at hr,fun _ _ _ r hr=>by simp[aX]at hr,fun e R Kc he hR hf ic=>?_⟩;have wX:e s= .t (.v (.tuple xs)):=(he s (by simp[CI.reads])).trans hb;simp only[fF];unfold iW;simp only[wX];cases d<;>exact ic
  ·exact h.elim
def bU(l:List (DK×CI))(i:Nat):Option Nat:=(l[i]?).bind fun p=>p.2.dst
def jv(l:List (DK×CI))(v:Nat->A)(e:Nat->A):Nat->Nat->A
 |0=>e
 |i+1=>fH (jv l v e i) (bU l i) (v i)
def HM{p:DK×CI}{l:List (DK×CI)}{v:Nat->A}{e:Nat->A}:∀i,jv (p::l) v e (i+1)=jv l (fun i=>v (i+1)) (fH e p.2.dst (v 0)) i
 |0=>rfl
 |i+1=>by
  have ih:=HM (p:=p) (l:=l) (v:=v) (e:=e) i;show fH (jv (p::l) v e (i+1)) (bU (p::l) (i+1)) (v (i+1))=_;rw[ih];rfl
def eu(Dl:Nat->List (Nat×aE))(R0:Nat->aE)(D:Nat->Bool):Nat->Nat->aE
 |0=>R0
 |k+1=>if D k then bo (Dl k) (eu Dl R0 D k)else eu Dl R0 D k
def gq(Dl:Nat->List (Nat×aE))(R0:Nat->aE):Nat->Nat->aE:=eu Dl R0 fun _=>true
def yr(Dl:Nat->List (Nat×aE))(R0:Nat->aE)(k:Nat):gq Dl R0 (k+1)=bo (Dl k) (gq Dl R0 k):=rfl
def HN(D0:List (Nat×aE))(Dl:Nat->List (Nat×aE))(R0:Nat->aE):∀i,gq (fun i=>match i with|0=>D0|i+1=>Dl i) R0 (i+1)=gq Dl (bo D0 R0) i
 |0=>rfl
 |i+1=>by rw[yr,HN D0 Dl R0 i];rfl
def HO{K:SP}:∀(l:List (DK×CI)) (S:St),(∀p∈l,uH p=true)->pJ P n l K S->∃(v:Nat->A) (Dl:Nat->List (Nat×aE)),
  (∀i (h:i<l.length),AB P n l[i].1 l[i].2 ⟨jv l v S.env i,gq Dl S.roots i⟩ (v i) (Dl i))/\K ⟨jv l v S.env l.length,gq Dl S.roots l.length⟩
 |[],S,_,h=>⟨fun _=>.t .any,fun _=>[],fun i h=>absurd h sA,h⟩
 |(k,c)::l,S,hok,h=>by
  obtain⟨x,D0,h2,h3⟩:=Xk (hok (k,c) sA) (h:uI P n k c (pJ P n l K) S);obtain⟨v,Dl,h5,h6⟩:=HO l _ (fun p hp=>hok p (rH _ hp)) h2;refine⟨fun i=>match i with|0=>x|i+1=>v i,fun i=>match i with|0=>D0|i+1=>Dl i,fun i hi=>?_,?_⟩
  ·cases i with
   |zero=>exact h3
   |succ i=>
    have hi':i<l.length:=sU hi;rw[HM,HN];exact h5 i hi'
  ·simp only[List.length_cons];rw[HM,HN];exact h6
def cM(l:List (DK×CI))(i:Nat):DK:=((l[i]?).map (·.1)).getD kE
def mO(l:List (DK×CI))(i:Nat):LN:=((l[i]?).map fun p=>p.2.reads).getD []
def ol(m:LN)(d:Option Nat)(w:Option LN):Bool:=match w with|some W=>W.all m.contains&&(match d with|some d=>m.contains d|none=>true)|none=>false
def mP(l:List (DK×CI))(i j:Nat):Bool:=
 match cM l i,cM l j with
 | .r _ _,.r _ _=>true
 | .r _ _,.c _ _=>true
 | .r all m,.h w _=>all||ol m (bU l j) w
 | .c _ _,.r all m=>all||(match bU l i with|some d=>m.contains d|none=>true)
 | .c _ _,.c all m=>all||(match bU l i with|some d=>m.contains d|none=>true)
 | .c all m,.h w m'=>(match bU l i with|some d=>m'.contains d|none=>true)&&(all||ol m (bU l j) w)
 | .h w _,.r all m=>all||ol m (bU l i) w
 | .h w _,.c all m=>all||ol m (bU l i) w
 | .h w m,.h w' m'=>ol m (bU l j) w'&&ol m' (bU l i) w
def wY(l:List (DK×CI))(v:Nat->A)(Dl:Nat->List (Nat×aE))(R0:Nat->aE)(e0:Nat->A)(D:Nat->Bool)(S:St):Prop:=
 (∀s,(∀j,j<l.length->D j=true->bU l j=some s->S.env s=v j)/\((∀j,j<l.length->D j=true->bU l j≠some s)->S.env s=e0 s))/\S.roots=eu Dl R0 D l.length
def Ord(l:List (DK×CI))(D:Nat->Bool)(i:Nat):Prop:=
 ∀j,j<l.length->j≠i->(j<i/\D j=true)∨(i<j/\¬D j=true)∨((∀s∈mO l i,bU l j≠some s)/\(j<i->mP l j i=true)/\(i<j->mP l i j=true))
def DJ{l:List (DK×CI)}{v:Nat->A}{e0:Nat->A}(hd:∀i j,i<l.length->j<l.length->i≠j->∀s,bU l i=some s->bU l j≠some s)(s:Nat):∀i,i<=l.length→
  (∀j,j<i->bU l j=some s->jv l v e0 i s=v j)/\((∀j,j<i->bU l j≠some s)->jv l v e0 i s=e0 s)
 |0,_=>⟨fun j h=>absurd h om,fun _=>rfl⟩
 |i+1,hi=>by
  obtain⟨h1,h2⟩:=DJ (v:=v) (e0:=e0) hd s i om;simp only[jv];by_cases hs:bU l i=some s
  ·have HP:fH (jv l v e0 i) (bU l i) (v i) s=v i:=by rw[hs];simp[fH,aT]
   refine⟨fun j hj eT=>?_,fun h=>absurd hs (h i om)⟩;by_cases hji:j=i
   ·subst hji;exact HP
   ·exact absurd hs (hd j i om om hji s eT)
  ·have Xl:fH (jv l v e0 i) (bU l i) (v i) s=jv l v e0 i s:=by
    cases hx:bU l i with
    |none=>rfl
    |some d=>exact aU _ _ _ _ fun e=>hs (by rw[hx,e])
   rw[Xl];refine⟨fun j hj eT=>?_,fun h=>h2 fun j hj=>h j om⟩;by_cases hji:j=i
   ·subst hji;exact absurd eT hs
   ·exact h1 j om eT
structure jR(l:List (DK×CI))(Dl:Nat->List (Nat×aE))(R0:Nat->aE):Prop where
 keys:∀i,i<l.length->∀r∈aX (Dl i),(cM l i).mask (gq Dl R0 i) r≠ .free∨∃d,bU l i=some d/\cX d r
 fm:∀i,i<l.length->(cM l i).fm=true->Dl i=[]
 es:∀i,i<l.length->(cM l i).es=true->∀r∈aX (Dl i),∃d,bU l i=some d/\cX d r
 tv:∀i,i<l.length->∀W m,cM l i= .h (some W) m->∀r∈aX (Dl i),(∃d∈W,cX d r)∨∃d,bU l i=some d/\cX d r
 dst:∀i j,i<l.length->j<l.length->i≠j->∀s,bU l i=some s->bU l j≠some s
 small:∀i,i<l.length->(cM l i).fm=false->∀d,bU l i=some d->d<1000
 start:∀i,i<l.length->(cM l i).es=true->∀d,bU l i=some d->∀r,cX d r->R0 r= .free
 Xm:∀i,i<l.length->wV (cM l i) (bU l i)=true
def Xn{d:Nat}(h:wV (.h w m) (some d)=true)(R:Nat->aE){r:Nat}(hr:cX d r):bW m R r=R r:=by
 cases m with
 |nil=>rfl
 |cons d0 m=>
  cases w with
  |none=>exact(by cases h)
  |some W=>
   simp only[wV,qM,rO,decide_eq_true_eq,Bool.not_eq_true']at h;obtain⟨⟨h1,h2⟩,h3⟩:=h;unfold bW;rw[if_neg];intro hc;obtain⟨k,hk,hkr⟩:=List.any_eq_true.1 hc;have hk1:=h3 k hk;have hne:k≠d:=fun e=>by rw[e]at hk;rw[List.contains_iff_mem.2 hk]at h2;cases h2
   simp only[Bool.or_eq_true,decide_eq_true_eq]at hkr;rcases hr with hr|hr<;>rcases hkr with hkr|hkr<;>omega
def AC{k:DK}{r:Nat}(h:k.mask R r≠ .free):k.mask R r=R r/\R r≠ .free:=by
 cases k with
 |r all m=>
  cases all
  ·have:=(pF (h:bW m R r≠ .free)).1;exact⟨this,by rw[←this];exact h⟩
  ·exact absurd rfl h
 |c all m=>
  cases all
  ·have:=(pF (h:bW m R r≠ .free)).1;exact⟨this,by rw[←this];exact h⟩
  ·exact absurd rfl h
 |h w m=>
  have:=(pF (h:bW m R r≠ .free)).1;exact⟨this,by rw[←this];exact h⟩
section
variable {l:List (DK×CI)} {Dl:Nat->List (Nat×aE)} {R0:Nat->aE}
def jR.apart(F:jR l Dl R0){i j d d' r:Nat}(hi:i<l.length)(hj:j<l.length)(hij:i≠j)(ki:(cM l i).fm=false)(kj:(cM l j).fm=false)(h:bU l i=some d)(h':bU l j=some d')(hr:cX d r)(hr':cX d' r):False:=by
 have h1:=F.small i hi ki d h;have h2:=F.small j hj kj d' h';have hne:d≠d':=fun e=>F.dst i j hi hj hij d h (by rw[h',e]);rcases hr with rfl|hr<;>rcases hr' with rfl|hr'
 ·exact hne rfl
 ·omega
 ·omega
 ·omega
def jR.Xo(h:(k:DK)->True){k:DK}(hk:k.es=true):k.fm=false:=by cases k<;>simp[DK.es,DK.fm]at hk ⊢
def jR.fresh(F:jR l Dl R0){j d:Nat}(hj:j<l.length)(hc:(cM l j).es=true)(hd:bU l j=some d){r:Nat}(hr:cX d r):∀i,i<=j->gq Dl R0 i r= .free
 |0,_=>F.start j hj hc d hd r hr
 |i+1,hi=>by
  have ih:=F.fresh hj hc hd hr i om;rw[yr,ko _ _ _ fun hk=>?_]
  ·exact ih
  ·rcases F.keys i om r hk with h|⟨d',h1,h2⟩
   ·exact(AC h).2 ih
   ·cases hr':(cM l i).fm with
    |true=>rw[F.fm i om hr']at hk;simp[aX]at hk
    |false=>exact F.apart om hj om hr' (jR.Xo (fun _=>trivial) hc) h1 hd h2 hr
def jR.hid(F:jR l Dl R0){k:Nat}(hk:k<l.length){mk:LN}(hkk:cM l k= .h w mk){m':LN}{r:Nat}(hkey:r∈aX (Dl k))(hne:bW m' R r≠ .free)(hp:ol m' (bU l k) w=true):False:=by
 cases w with
 |none=>simp[ol]at hp
 |some W=>
  simp only[ol,qM,rO]at hp;have hm:=(pF hne).2;rcases F.tv k hk W mk hkk r hkey with⟨d,hd,aV⟩|⟨d,hd,aV⟩
  ·exact hm d (sU (hp.1 d hd)) aV
  ·have:=hp.2;rw[hd]at this;exact hm d (sU this) aV
def HQ{d:Nat}(h:ol m (some d) w=true):d∈m:=by
 cases w with
 |none=>simp[ol]at h
 |some W=>
  simp only[ol,qM]at h;simpa using h.2
def jR.same(F:jR l Dl R0){D:Nat->Bool}{i:Nat}(hi:i<l.length)(jS:¬D i=true)(ho:Ord l D i){r:Nat}(hne:(cM l i).mask (gq Dl R0 i) r≠ .free):eu Dl R0 D l.length r=gq Dl R0 i r:=by
 have uJ:=(AC hne).2;have low:∀k,k<=i->eu Dl R0 D k r=gq Dl R0 k r:=by
  intro k;induction k with
  |zero=>intro _;rfl
  |succ k ih=>
   intro hk;have ih:=ih om;rw[yr];show(if D k then bo (Dl k) (eu Dl R0 D k)else eu Dl R0 D k) r=_;by_cases hD:D k=true
   ·rw[if_pos hD];exact rS _ _ _ r (.inr ih)
   ·rw[if_neg hD,ih,ko _ _ _ fun hkey=>?_];rcases ho k om om with h|h|h
    ·exact hD h.2
    ·omega
    ·have hp:=h.2.1 om;unfold mP at hp;cases hkk:cM l k with
     |r a m=>rw[F.fm k om (by rw[hkk];rfl)]at hkey;simp[aX]at hkey
     |c a m=>
      obtain⟨d,hd,aV⟩:=F.es k om (by rw[hkk];rfl) r hkey;rw[hkk,hd]at hp;cases hki:cM l i with
      |r a' m'=>
       rw[hki]at hp hne;cases a' with
       |true=>exact hne rfl
       |false=>
        have:d∈m':=sU hp;exact(pF (hne:bW m' _ r≠ .free)).2 d this aV
      |c a' m'=>
       rw[hki]at hp hne;cases a' with
       |true=>exact hne rfl
       |false=>
        have:d∈m':=sU hp;exact(pF (hne:bW m' _ r≠ .free)).2 d this aV
      |h w' m'=>
       rw[hki]at hp hne;simp only[qM]at hp;exact(pF (hne:bW m' _ r≠ .free)).2 d (sU hp.1) aV
     |h w mk=>
      rw[hkk]at hp;cases hki:cM l i with
      |r a' m'=>
       rw[hki]at hp hne;cases a' with
       |true=>exact hne rfl
       |false=>exact F.hid om hkk hkey (hne:bW m' _ r≠ .free) (sU hp)
      |c a' m'=>
       rw[hki]at hp hne;cases a' with
       |true=>exact hne rfl
       |false=>exact F.hid om hkk hkey (hne:bW m' _ r≠ .free) (sU hp)
      |h w' m'=>
       rw[hki]at hp hne;simp only[qM]at hp;exact F.hid om hkk hkey (hne:bW m' _ r≠ .free) hp.2
 have high:∀c,i+c<=l.length->eu Dl R0 D (i+c) r=eu Dl R0 D i r:=by
  intro c;induction c with
  |zero=>intro _;rfl
  |succ c ih=>
   intro hc;have ih:=ih om;show(if D (i+c)then bo (Dl (i+c)) (eu Dl R0 D (i+c))else eu Dl R0 D (i+c)) r=_;by_cases hD:D (i+c)=true
   ·rw[if_pos hD,ko _ _ _ fun hkey=>?_]
    ·exact ih
    ·have AD:i+c≠i:=fun e=>jS (by rw[←e];exact hD);rcases ho (i+c) om AD with h|h|h
     ·omega
     ·exact h.2 hD
     ·have hp:=h.2.2 om;unfold mP at hp;cases hkk:cM l (i+c)with
      |r a m=>rw[F.fm (i+c) om (by rw[hkk];rfl)]at hkey;simp[aX]at hkey
      |c a m=>
       obtain⟨d,hd,aV⟩:=F.es (i+c) om (by rw[hkk];rfl) r hkey;exact uJ (F.fresh om (by rw[hkk];rfl) hd aV i om)
      |h w mk=>
       rw[hkk]at hp;cases hki:cM l i with
       |r a' m'=>
        rw[hki]at hp hne;cases a' with
        |true=>exact hne rfl
        |false=>exact F.hid om hkk hkey (hne:bW m' _ r≠ .free) (sU hp)
       |c a' m'=>
        rw[hki]at hp hne;simp only[qM]at hp;cases a' with
        |true=>exact hne rfl
        |false=>exact F.hid om hkk hkey (hne:bW m' _ r≠ .free) (sU hp.2)
       |h w' m'=>
        rw[hki]at hp hne;simp only[qM]at hp;exact F.hid om hkk hkey (hne:bW m' _ r≠ .free) hp.1
   ·rw[if_neg hD];exact ih
 have:=high (l.length-i) om;rw[show i+(l.length-i)=l.length by omega]at this;rw[this,low i (qR _)]
def jR.free(F:jR l Dl R0){D:Nat->Bool}{i:Nat}(hi:i<l.length)(jS:¬D i=true)(ho:Ord l D i){r:Nat}(hk:r∈aX (Dl i))(hf:(cM l i).mask (gq Dl R0 i) r= .free):eu Dl R0 D l.length r= .free:=by
 obtain⟨d,hd,aV⟩:=(F.keys i hi r hk).resolve_left (fun h=>h hf);have nR:(cM l i).fm=false:=by
  cases h:(cM l i).fm with
  |true=>rw[F.fm i hi h]at hk;simp[aX]at hk
  |false=>rfl
 have base:gq Dl R0 0 r= .free∨True:=.inr trivial;have NF:∀k,k<l.length->D k=true->r∈aX (Dl k)->k<i/\(cM l i).es=false:=by
  intro k dW hD hkey;have hki:k≠i:=fun e=>jS (e▸hD);have DL:(cM l k).fm=false:=by
   cases h:(cM l k).fm with
   |true=>rw[F.fm k dW h]at hkey;simp[aX]at hkey
   |false=>rfl
  rcases F.keys k dW r hkey with h|⟨d',h1,h2⟩
  ·have Xp:=(AC h).2;rcases qH k i with hlt|hge
   ·refine⟨hlt,?_⟩;cases hc:(cM l i).es with
    |false=>rfl
    |true=>exact absurd (F.fresh hi hc hd aV k om) Xp
   ·rcases ho k dW hki with h'|h'|h'
    ·omega
    ·exact absurd hD h'.2
    ·have hp:=h'.2.2 om;unfold mP at hp;cases hkk:cM l k with
     |r a m=>rw[hkk]at DL;cases DL
     |c a m=>
      obtain⟨d',h1,h2⟩:=F.es k dW (by rw[hkk];rfl) r hkey;exact(F.apart hi dW (Ne.symm hki) nR DL hd h1 aV h2).elim
     |h w mk=>
      rw[hkk]at hp h;have hmk:=(pF (h:bW mk _ r≠ .free)).2;cases HR:cM l i with
      |r a' m'=>rw[HR]at nR;cases nR
      |c a' m'=>
       rw[HR,hd]at hp;simp only[qM]at hp;exact(hmk d (sU hp.1) aV).elim
      |h w' m'=>
       rw[HR,hd]at hp;simp only[qM]at hp;exact(hmk d (HQ hp.2) aV).elim
  ·exact(F.apart hi dW (Ne.symm hki) nR DL hd h1 aV h2).elim
 cases hc:(cM l i).es with
 |true=>
  have:∀k,k<=l.length->eu Dl R0 D k r= .free:=by
   intro k;induction k with
   |zero=>intro _;exact F.start i hi hc d hd r aV
   |succ k ih=>
    intro dW;show(if D k then bo (Dl k) (eu Dl R0 D k)else eu Dl R0 D k) r=_;by_cases hD:D k=true
    ·rw[if_pos hD,ko _ _ _ fun hkey=>by have:=(NF k om hD hkey).2;rw[hc]at this;cases this];exact ih om
    ·rw[if_neg hD];exact ih om
  exact this _ (qR _)
 |false=>
  obtain⟨w0,m0,hh⟩:∃w m,cM l i= .h w m:=by
   cases h:cM l i with
   |r a m=>rw[h]at nR;cases nR
   |c a m=>rw[h]at hc;cases hc
   |h w m=>exact⟨w,m,rfl⟩
  rw[hh]at hf;have hf:gq Dl R0 i r= .free:=by
   have hs:=F.Xm i hi;rw[hh,hd]at hs;rw[←Xn hs (gq Dl R0 i) aV];exact hf
  have low:∀k,k<=i->eu Dl R0 D k r=gq Dl R0 k r:=by
   intro k;induction k with
   |zero=>intro _;rfl
   |succ k ih=>
    intro hk';have ih:=ih om;rw[yr];show(if D k then bo (Dl k) (eu Dl R0 D k)else eu Dl R0 D k) r=_;by_cases hD:D k=true
    ·rw[if_pos hD];exact rS _ _ _ r (.inr ih)
    ·rw[if_neg hD,ih,ko _ _ _ fun hkey=>?_];rcases ho k om om with h|h|h
     ·exact hD h.2
     ·omega
     ·have hp:=h.2.1 om;unfold mP at hp;rw[hh]at hp;cases hkk:cM l k with
      |r a m=>rw[F.fm k om (by rw[hkk];rfl)]at hkey;simp[aX]at hkey
      |c a m=>
       obtain⟨d',h1,h2⟩:=F.es k om (by rw[hkk];rfl) r hkey;exact(F.apart hi om om nR (by rw[hkk];rfl) hd h1 aV h2).elim
      |h w mk=>
       rw[hkk,hd]at hp;simp only[qM]at hp;rcases F.keys k om r hkey with h1|⟨d',h1,h2⟩
       ·rw[hkk]at h1;exact(pF (h1:bW mk _ r≠ .free)).2 d (HQ hp.1) aV
       ·exact F.apart hi om om nR (by rw[hkk];rfl) hd h1 aV h2
  have high:∀c,i+c<=l.length->eu Dl R0 D (i+c) r=eu Dl R0 D i r:=by
   intro c;induction c with
   |zero=>intro _;rfl
   |succ c ih=>
    intro eY;have ih:=ih om;show(if D (i+c)then bo (Dl (i+c)) (eu Dl R0 D (i+c))else eu Dl R0 D (i+c)) r=_;by_cases hD:D (i+c)=true
    ·rw[if_pos hD,ko _ _ _ fun hkey=>by have:=(NF (i+c) om hD hkey).1;omega];exact ih
    ·rw[if_neg hD];exact ih
  have:=high (l.length-i) om;rw[show i+(l.length-i)=l.length by omega]at this;rw[this,low i (qR _)];exact hf
def jR.next(F:jR l Dl R0){D:Nat->Bool}{i:Nat}(hi:i<l.length)(jS:¬D i=true)(ho:Ord l D i):bo (Dl i) (eu Dl R0 D l.length)=eu Dl R0 (fun j=>D j||j==i) l.length:=by
 funext r;by_cases hr:r∈aX (Dl i)
 ·have nR:(cM l i).fm=false:=by
   cases h:(cM l i).fm with
   |true=>rw[F.fm i hi h]at hr;simp[aX]at hr
   |false=>rfl
  have high:∀c,i+1+c<=l.length->eu Dl R0 (fun j=>D j||j==i) (i+1+c) r=bo (Dl i) (eu Dl R0 D l.length) r:=by
   intro c;induction c with
   |zero=>
    intro _;show(if(D i||i==i)=true then bo (Dl i) _ else _) r=_;rw[if_pos sA];exact rS _ _ _ r (.inl hr)
   |succ c ih=>
    intro hc;have ih:=ih om;show(if(D (i+1+c)||(i+1+c)==i)=true then bo (Dl (i+1+c)) (eu Dl R0 (fun j=>D j||j==i) (i+1+c))else eu Dl R0 (fun j=>D j||j==i) (i+1+c)) r=_;have e:((i+1+c)==i)=false:=by simp;omega
    rw[e,Bool.or_false];by_cases hD:D (i+1+c)=true
    ·rw[if_pos hD,ko _ _ _ fun hkey=>?_]
     ·exact ih
     ·rcases ho (i+1+c) om om with h|h|h
      ·omega
      ·exact h.2 hD
      ·have hp:=h.2.2 om;unfold mP at hp;cases hkk:cM l (i+1+c)with
       |r a m=>rw[F.fm (i+1+c) om (by rw[hkk];rfl)]at hkey;simp[aX]at hkey
       |c a m=>
        obtain⟨d,hd,aV⟩:=F.es (i+1+c) om (by rw[hkk];rfl) r hkey;rcases F.keys i hi r hr with h'|⟨d',h1,h2⟩
        ·exact(AC h').2 (F.fresh om (by rw[hkk];rfl) hd aV i om)
        ·exact F.apart hi (show i+1+c<l.length by omega) om nR (by rw[hkk];rfl) h1 hd h2 aV
       |h w mk=>
        rw[hkk]at hp;rcases F.keys (i+1+c) om r hkey with h1|⟨d',h1,h2⟩
        ·rw[hkk]at h1;have hmk:=(pF (h1:bW mk _ r≠ .free)).2;cases hki:cM l i with
         |r a' m'=>rw[hki]at nR;cases nR
         |c a' m'=>
          obtain⟨d,hd,aV⟩:=F.es i hi (by rw[hki];rfl) r hr;rw[hki,hd]at hp;simp only[qM]at hp;exact hmk d (sU hp.1) aV
         |h w' m'=>
          rw[hki]at hp;simp only[qM]at hp;exact F.hid hi hki hr (h1:bW mk _ r≠ .free) hp.2
        ·rcases F.keys i hi r hr with h3|⟨d,h3,h4⟩
         ·cases hki:cM l i with
          |r a' m'=>rw[hki]at nR;cases nR
          |c a' m'=>
           obtain⟨d,hd,aV⟩:=F.es i hi (by rw[hki];rfl) r hr;exact F.apart hi (show i+1+c<l.length by omega) om nR (by rw[hkk];rfl) hd h1 aV h2
          |h w' m'=>
           rw[hki,h1]at hp;rw[hki]at h3;simp only[qM]at hp;exact(pF (h3:bW m' _ r≠ .free)).2 d' (HQ hp.1) h2
         ·exact F.apart hi (show i+1+c<l.length by omega) om nR (by rw[hkk];rfl) h3 h1 h4 h2
    ·rw[if_neg hD];exact ih
  have:=high (l.length-(i+1)) om;rw[show i+1+(l.length-(i+1))=l.length by omega]at this;exact this.symm
 ·rw[ko _ _ _ hr];have:∀k,eu Dl R0 (fun j=>D j||j==i) k r=eu Dl R0 D k r:=by
   intro k;induction k with
   |zero=>rfl
   |succ k ih=>
    show(if(D k||k==i)=true then bo (Dl k) (eu Dl R0 (fun j=>D j||j==i) k)else eu Dl R0 (fun j=>D j||j==i) k) r=(if D k then bo (Dl k) (eu Dl R0 D k)else eu Dl R0 D k) r;by_cases hk:k=i
    ·subst hk;rw[if_pos sA,if_neg jS,ko _ _ _ hr,ih]
    ·have e:(k==i)=false:=(by simp[hk]);rw[e,Bool.or_false];by_cases hD:D k=true
     ·rw[if_pos hD,if_pos hD];exact rS _ _ _ r (.inr ih)
     ·rw[if_neg hD,if_neg hD,ih]
  rw[this]
def wY.step{v:Nat->A}{e0:Nat->A}{D:Nat->Bool}(F:jR l Dl R0){i:Nat}(hi:i<l.length)(HP:∀s∈mO l i,bU l i≠some s)(jS:¬D i=true)(ho:Ord l D i)(lV:wY l v Dl R0 e0 D S):
  (∀s∈mO l i,S.env s=jv l v e0 i s)/\(∀r,(cM l i).mask (gq Dl R0 i) r= .free∨S.roots r=(cM l i).mask (gq Dl R0 i) r)/\(∀r∈aX (Dl i),(cM l i).mask (gq Dl R0 i) r= .free->S.roots r= .free)∧
   wY l v Dl R0 e0 (fun j=>D j||j==i) ⟨fH S.env (bU l i) (v i),bo (Dl i) S.roots⟩:=by
 have hd:=F.dst;obtain⟨hE,hR⟩:=lV;refine⟨fun s hs=>?_,fun r=>?_,fun r hr hf=>?_,fun s=>?_,?_⟩
 ·obtain⟨ha,hb⟩:=DJ (v:=v) (e0:=e0) hd s i om;obtain⟨hc,dR⟩:=hE s;by_cases hex:∃j,j<l.length/\bU l j=some s
  ·obtain⟨j,hj,eT⟩:=hex;have hji:j≠i:=fun e=>HP s hs (e▸eT);rcases ho j hj hji with h|h|h
   ·rw[hc j hj h.2 eT,ha j h.1 eT]
   ·rw[dR fun j' hj' tc hs'=>?_,hb fun j' hj' hs'=>?_]
    ·by_cases e:j'=j
     ·rw[e]at hj';omega
     ·exact hd j' j om hj e s hs' eT
    ·by_cases e:j'=j
     ·rw[e]at tc;exact h.2 tc
     ·exact hd j' j om hj e s hs' eT
   ·exact absurd eT (h.1 s hs)
  ·rw[dR fun j hj _ eT=>hex ⟨j,hj,eT⟩,hb fun j hj eT=>hex ⟨j,om,eT⟩]
 ·by_cases hne:(cM l i).mask (gq Dl R0 i) r= .free
  ·exact .inl hne
  ·right;rw[hR,F.same hi jS ho hne,(AC hne).1]
 ·rw[hR];exact F.free hi jS ho hr hf
 ·obtain⟨hc,dR⟩:=hE s;by_cases hs:bU l i=some s
  ·have e:fH S.env (bU l i) (v i) s=v i:=by rw[hs];simp[fH,aT]
   refine⟨fun j hj hD eT=>?_,fun h=>absurd hs (h i hi sA)⟩;show fH S.env (bU l i) (v i) s=v j;rw[e];by_cases hji:j=i
   ·rw[hji]
   ·exact absurd hs (hd j i hj hi hji s eT)
  ·have e:fH S.env (bU l i) (v i) s=S.env s:=by
    cases hx:bU l i with
    |none=>rfl
    |some d=>exact aU _ _ _ _ fun e=>hs (by rw[hx,e])
   refine⟨fun j hj hD eT=>?_,fun h=>?_⟩
   ·show fH S.env (bU l i) (v i) s=v j;rw[e];have hD:D j=true∨j=i:=sU hD;rcases hD with hD|rfl
    ·exact hc j hj hD eT
    ·exact absurd eT hs
   ·show fH S.env (bU l i) (v i) s=e0 s;rw[e];exact dR fun j hj hD=>h j hj (by simp[hD])
 ·show bo (Dl i) S.roots=_;rw[hR];exact F.next hi jS ho
end
end
section
variable {P:Program} {n:Nat} {S:St} {X:NP} {w0:World} {O0:Fr} {a:Act} {w:World} {hs:NV} {fp:NL}
def Good.drawn(g:Good X w0 O0 n S a w hs fp)(k:Nat):Good X w0 O0 n S a {w with drawn:=k} hs fp:=by
 have hk:jK (fun b=>¬Ob X fp b) w {w with drawn:=k}:=fun b cs e fz _ h=>h;exact⟨g.size,g.defers.keep fun D _ h=>h,fun i=>(g.env i).mono hk (fun b h _=>h) (fun _ _ h=>h),fun r=>g.rl r hk (fun b h _=>h) (fun _ _ h=>h) rfl (fun b _=>rfl),g.cj,g.nodup,g.cV,g.de,g.fA,g.mine,⟨g.aZ.os,g.aZ.tape,g.aZ.output,g.aZ.size,g.aZ.block⟩,g.b8,g.aV,g.small,g.ax⟩
def NG{i:Nat}{o:Oper}{ci:CI}{Kc:SP}{Q:Exit->Act->World->Prop}(ho:ops[i]? =some o)(hc:jP P n ops o=some ci)(hW:fF P n [ci] Kc S)(g:Good X w0 O0 n S a w hs fp):
  wpOp P ops Q i (fun a' w'=>∃S' hs' al,Good X w0 O0 n S' a' w' hs' al/\Kc S') a w:=by
 unfold wpOp;simp only[ho];simp only[jP]at hc;split at hc
 ·rename_i co kK;split at hc
  ·rename_i hg;cases hc;have hw:Region.wanted o (yielded ops a.tmps)=true:=(by simp[Region.wanted,hg]);rw[if_pos hw];exact .inl (jO kK hW X w0 O0 a w hs fp g Q)
  ·rename_i j want hg;split at hc
   ·rename_i oj uG;have core:∀s d,oj.dst=some s->o.dst=d->(∀k,d=some k->k<n)->fF P n [.g s want d co] Kc S→
      if Region.wanted o (yielded ops a.tmps)=true then o.wp P a w (fun a' w'=>∃S' hs' al,Good X w0 O0 n S' a' w' hs' al/\Kc S') Q∨(o.asks P a w/\LetsOut Q)else∃S' hs' al,Good X w0 O0 n S' (a.put o.dst Go.undef) w hs' al/\Kc S':=by
     intro s d hs' dR hdn hW;simp only[fF]at hW;unfold iW at hW;split at hW
     ·rename_i b hb;have hval:=g.env s;rw[hb]at hval;have hval:=hval.dP;have ht:a.tmps[s]? =some (.bool b):=by
       rw[qC]at hval;cases hx:a.tmps[s]? with
       |none=>rw[hx]at hval;simp[undef]at hval
       |some v=>rw[hx]at hval;simpa using hval
      have hy:=MW uG hs' ht;by_cases jd:b=want
      ·have hw:Region.wanted o (yielded ops a.tmps)=true:=(by simp[Region.wanted,hg,hy,jd]);rw[if_pos hw];have h1:=hW.1 jd;rw[rN _ _ _ (by rw[hb,jd])]at h1;exact .inl (jO kK h1 X w0 O0 a w hs fp g Q)
      ·have hw:¬Region.wanted o (yielded ops a.tmps)=true:=(by simp[Region.wanted,hg,hy,jd]);rw[if_neg hw];have e':b= !want:=by cases b<;>cases want<;>simp_all
       have h1:=hW.2 e';rw[rN _ _ _ (by rw[hb,e'])]at h1;exact⟨_,hs,fp,g.Dg o.dst (fun k hk=>hdn k (dR▸hk)),dR▸h1⟩
     ·rename_i xs hb;have hval:=g.env s;rw[hb]at hval;have hy:=MX uG hs' hval.dP;have hw:¬Region.wanted o (yielded ops a.tmps)=true:=(by simp[Region.wanted,hg,hy]);rw[if_neg hw];exact⟨_,hs,fp,g.Dg o.dst (fun k hk=>hdn k (dR▸hk)),dR▸hW⟩
     ·exact hW.elim
    split at hc
    ·rename_i s d hs' dR;split at hc
     ·rename_i hdn;cases hc;exact core s (some d) hs' dR (fun k hk=>by cases hk;exact hdn) hW
     ·cases hc
    ·rename_i s hs' dR;cases hc;exact core s none hs' dR (fun k hk=>by cases hk) hW
    ·cases hc
   ·cases hc
 ·cases hc
def jT(ops:Array Oper):LB:=ops.toList.map fun o=>(o.after.toList.filter (Region.binds .any)).map (·.on)
def closed(af:LB)(D:NP):Prop:=∀i,D i->∀j∈af.getD i [],D j
def HS{m:Nat}(h1:∀i,i<m->∀j∈af.getD i [],j<i)(h2:∀i,i<m->∀j∈fG.getD i [],j∈af.getD i []∨∃k,k∈af.getD i []/\j∈fG.getD k []){D:NP}(hD:closed af D):∀i,i<m->(∀j∈af.getD i [],D j)->∀j∈fG.getD i [],D j:=by
 intro i;induction i using Nat.strongRecOn with
 |_ i ih=>
  intro hi r_ j hj;rcases h2 i hi j hj with h|⟨k,hk,hjk⟩
  ·exact r_ j h
  ·have hki:=h1 i hi k hk;exact ih k hki om (hD k (r_ k hk)) j hjk
structure uK(ds:LN)(l:List (DK×CI))(af fG:LB):Prop where
 oq:af.length=l.length
 dst:∀i j,i<l.length->j<l.length->i≠j->∀s,bU l i=some s->bU l j≠some s
 fwd:∀i,i<l.length->∀j∈af.getD i [],j<i
 HT:∀i,i<l.length->∀j∈fG.getD i [],j<i
 DM:∀i,i<l.length->∀j∈fG.getD i [],j∈af.getD i []∨∃k,k∈af.getD i []/\j∈fG.getD k []
 item:∀p∈l,uH p=true
 self:∀i,i<l.length->∀s∈mO l i,bU l i≠some s
 ind:∀i j,i<l.length->j<l.length->j≠i->j∈fG.getD i []∨i∈fG.getD j []∨((∀s∈mO l i,bU l j≠some s)/\(j<i->mP l j i=true)/\(i<j->mP l i j=true))
 small:∀i,i<l.length->(cM l i).fm=false->∀d,bU l i=some d->d<1000
 HU:∀i,i<l.length->(cM l i).es=true->∀d,bU l i=some d->d∈ds
def DN(ds:LN)(l:List (DK×CI))(af fG:LB):Bool:=
 (af.length==l.length)&&l.all uH&&(List.range l.length).all fun i=>
  (af.getD i []).all (fun j=>decide (j<i))&&(fG.getD i []).all (fun j=>decide (j<i)&&((af.getD i []).contains j||(af.getD i []).any fun k=>(fG.getD k []).contains j))&&
  (mO l i).all (fun s=>bU l i !=some s)&&
  ((cM l i).fm||(match bU l i with|some d=>decide (d<1000)|none=>true))&&
  (!(cM l i).es||(match bU l i with|some d=>ds.contains d|none=>true))&&
  (List.range l.length).all fun j=>j==i||((match bU l i with|some s=>bU l j !=some s|none=>true)&&((fG.getD i []).contains j||(fG.getD j []).contains i||
   ((mO l i).all fun s=>bU l j !=some s)&&(if j<i then mP l j i else mP l i j)))
def NH{l:List (DK×CI)}(h:DN ds l af fG=true):uK ds l af fG:=by
 simp only[DN,qM,beq_iff_eq,rO,List.mem_range,decide_eq_true_eq,Bool.or_eq_true,List.contains_iff_mem,List.any_eq_true,bne_iff_ne,Bool.not_eq_true']at h;obtain⟨⟨h1,h2⟩,h3⟩:=h;refine⟨h1,fun i j hi hj hij s hs=>?_,fun i hi=>(h3 i hi).1.1.1.1.1,fun i hi j hj=>((h3 i hi).1.1.1.1.2 j hj).1,fun i hi j hj=>((h3 i hi).1.1.1.1.2 j hj).2,h2,fun i hi=>(h3 i hi).1.1.1.2,fun i j hi hj hji=>?_,fun i hi hr d hd=>?_,fun i hi hr d hd=>?_⟩
 ·have:=((h3 i hi).2 j hj).resolve_left (Ne.symm hij);have:=this.1;rw[hs]at this;simpa using this
 ·have:=(((h3 i hi).2 j hj).resolve_left hji).2;rcases this with(h|h)|⟨h,h'⟩
  ·exact .inl h
  ·exact .inr (.inl h)
  ·refine .inr (.inr ⟨h,fun hlt=>?_,fun hlt=>?_⟩)
   ·rwa[if_pos hlt]at h'
   ·rwa[if_neg om]at h'
 ·have:=(h3 i hi).1.1.2;rw[hr,hd]at this;simpa using this
 ·have:=(h3 i hi).1.2;rw[hr,hd]at this;simpa using this
def NJ{l:List (DK×CI)}(F:uK ds l af fG){D:Nat->Bool}(hD:closed af (fun j=>D j=true)){i:Nat}(hi:i<l.length)(jS:¬D i=true)(r_:∀j∈af.getD i [],D j=true):Ord l D i:=by
 intro j hj hji;have before:j∈fG.getD i []->j<i/\D j=true:=fun h=>⟨F.HT i hi j h,HS F.fwd F.DM hD i hi r_ j h⟩;have after:i∈fG.getD j []->i<j/\¬D j=true:=fun h=>⟨F.HT j hj i h,fun Xq=>jS (HS F.fwd F.DM hD j hj (hD j Xq) i h)⟩;rcases F.ind i j hi hj hji with h|h|h
 ·exact .inl (before h)
 ·exact .inr (.inl (after h))
 ·exact .inr (.inr h)
def Xr{l:List (DK×CI)}(F:uK ds l af fG)(r_:af=jT ops)(hsz:ops.size=l.length)(htr:∀i (h:i<l.length),∃o,ops[i]? =some o/\jP P n ops o=some l[i].2){v:Nat->A}{Dl:Nat->List (Nat×aE)}{R0:Nat->aE}{e0:Nat->A}(HV:∀i (h:i<l.length),AB P n l[i].1 l[i].2 ⟨jv l v e0 i,gq Dl R0 i⟩ (v i) (Dl i))(C:jR l Dl R0){Q:Exit->Act->World->Prop}(hQ:∀S a w hs fp,Good X w0 O0 n S a w hs fp->S=⟨jv l v e0 l.length,gq Dl R0 l.length⟩->Q .normal a w):
  ∀(fuel:Nat) (listed:Array Bool) (S:St) (a:Act) (w:World) (hs:NV) (fp:NL),Good X w0 O0 n S a w hs fp->listed.size=l.length->((List.range l.length).filter fun j=>!listed.getD j false).length<=fuel→
   closed af (fun j=>listed.getD j false=true)->wY l v Dl R0 e0 (fun j=>listed.getD j false) S->wpAny P .any ops Q fuel listed a w:=by
 have gt:∀{listed:Array Bool} {j:Nat},listed.size=l.length->j<l.length->(listed.getD j true=false↔¬listed.getD j false=true):=fun{listed j} h1 h2=>by
  have:j<listed.size:=om;simp[this]
 have tw:∀i o,ops[i]? =some o->∀j,j∈af.getD i []↔∃e∈o.after,Region.binds .any e=true/\e.on=j:=by
  intro i o ho j;have:(jT ops).getD i []=(o.after.toList.filter (Region.binds .any)).map (·.on):=by
   rw[jT,qA,qU];have:ops.toList[i]? =some o:=sU ho;rw[this];rfl
  rw[r_,this,qN];constructor
  ·rintro⟨e,he,rfl⟩;obtain⟨h1,h2⟩:=qV.1 he;exact⟨e,sU h1,h2,rfl⟩
  ·rintro⟨e,he,hb,rfl⟩;exact⟨e,qV.2 ⟨sU he,hb⟩,rfl⟩
 have fin:∀(listed:Array Bool) (S:St) (a:Act) (w:World) (hs:NV) (fp:NL),Good X w0 O0 n S a w hs fp->listed.size=l.length->wY l v Dl R0 e0 (fun j=>listed.getD j false) S->(∀j,j<l.length->listed.getD j false=true)->Q .normal a w:=by
  intro listed S a w hs fp g hls lV hall;refine hQ S a w hs fp g ?_;obtain⟨hE,hR⟩:=lV;have h1:S.roots=gq Dl R0 l.length:=by
   rw[hR];have:∀k,k<=l.length->eu Dl R0 (fun j=>listed.getD j false) k=gq Dl R0 k:=by
    intro k;induction k with
    |zero=>intro _;rfl
    |succ k ih=>
     intro hk;show(if listed.getD k false=true then bo (Dl k) _ else _)=_;rw[if_pos (hall k om),ih om,yr]
   exact this _ (qR _)
  have h2:S.env=jv l v e0 l.length:=by
   funext s;obtain⟨ha,hb⟩:=DJ (v:=v) (e0:=e0) F.dst s l.length (qR _);by_cases hex:∃j,j<l.length/\bU l j=some s
   ·obtain⟨j,hj,eT⟩:=hex;rw[ha j hj eT,(hE s).1 j hj (hall j hj) eT]
   ·rw[hb fun j hj eT=>hex ⟨j,hj,eT⟩,(hE s).2 fun j hj _ eT=>hex ⟨j,hj,eT⟩]
  rw[←h1,←h2]
 have Xs:∀(listed:Array Bool),listed.size=l.length->closed af (fun j=>listed.getD j false=true)->Region.ready .any ops listed=[]->∀j,j<l.length->listed.getD j false=true:=by
  intro listed hls br hr j;induction j using Nat.strongRecOn with
  |_ j ih=>
   intro hj;refine Decidable.byContradiction fun hn=>?_;obtain⟨o,ho,_⟩:=htr j hj;have:j∈Region.ready .any ops listed:=by
    refine mem_ready.2 ⟨(gt hls hj).2 hn,o,ho,fun e he hb=>?_⟩;have hmem:=(tw j o ho e.on).2 ⟨e,he,hb,rfl⟩;have hlt:=F.fwd j hj _ hmem;exact ih _ hlt om
   rw[hr]at this;cases this
 intro fuel;induction fuel with
 |zero=>
  intro listed S a w hs fp g hls js br lV;have hall:∀j,j<l.length->listed.getD j false=true:=fun j hj=>by
   have h0:=rX (Nat.le_zero.1 js);have:=List.filter_eq_nil_iff.1 h0 j (List.mem_range.2 hj);simpa using this
  refine⟨?_,fin listed S a w hs fp g hls lV hall⟩;refine List.eq_nil_iff_forall_not_mem.2 fun j hj=>?_;obtain⟨h1,o,ho,_⟩:=mem_ready.1 hj;have hjl:j<l.length:=by rw[←hsz];exact(qF.1 ho).1
  exact(gt hls hjl).1 h1 (hall j hjl)
 |succ fuel ih=>
  intro listed S a w hs fp g hls js br lV;refine⟨fun hr=>fin listed S a w hs fp g hls lV (Xs listed hls br hr),fun i hi=>?_⟩;obtain⟨hun,o,ho,hall⟩:=mem_ready.1 hi;have bq:i<l.length:=by rw[←hsz];exact(qF.1 ho).1
  have jS:=(gt hls bq).1 hun;have yt:∀j∈af.getD i [],listed.getD j false=true:=fun j hj=>by
   obtain⟨e,he,hb,rfl⟩:=(tw i o ho j).1 hj;exact hall e he hb
  have HW:=NJ (D:=fun j=>listed.getD j false) F br bq jS yt;obtain⟨h1,h2,h4,h3⟩:=lV.step C bq (F.self i bq) jS HW;obtain⟨o',ho',HX⟩:=htr i bq;rw[ho]at ho';cases ho';have rp:=qB bq;have hrd:mO l i=l[i].2.reads:=by simp[mO,rp]
  have hka:cM l i=l[i].1:=by simp[cM,rp]
  have hda:bU l i=l[i].2.dst:=by simp[bU,rp]
  rw[hrd]at h1;rw[hka]at h2 h4;rw[hda]at h3;have hW:=(HV i bq).run S.env S.roots (fun S'=>S'=⟨fH S.env l[i].2.dst (v i),bo (Dl i) S.roots⟩) h1 h2 h4 rfl;have:=NG (Q:=Q) ho HX (show fF P n [l[i].2] _ S from hW) g;refine wpOp_mono (fun a' w' ⟨S',hs',al,g',li⟩=>?_) this;subst li;have eE:∀j,(listed.setIfInBounds i true).getD j false=true↔(listed.getD j false=true∨j=i):=fun j=>by
   by_cases hji:j=i
   ·subst hji;simp[show j<listed.size by omega]
   ·rw[getD_set_ne false (Ne.symm hji)];simp[hji]
  refine ih _ _ a' w' hs' al g' (by simp[hls]) ?_ ?_ ?_
  ·have e:((List.range l.length).filter fun j=>!(listed.setIfInBounds i true).getD j false)=((List.range l.length).filter fun j=>!listed.getD j false).filter fun j=>j !=i:=by
    rw[List.filter_filter];refine List.filter_congr fun j _=>?_;by_cases hji:j=i
    ·subst hji;have:=(eE j).2 (.inr rfl);rw[this];simp
    ·rw[getD_set_ne false (Ne.symm hji)];simp[hji]
   rw[e];have:(((List.range l.length).filter fun j=>!listed.getD j false).filter fun j=>j !=i).length<((List.range l.length).filter fun j=>!listed.getD j false).length:=by
    rw[List.length_filter_lt_length_iff_exists];exact⟨i,qV.2 ⟨List.mem_range.2 bq,sU jS⟩,sA⟩
   omega
  ·intro j hj k hk;refine(eE k).2 (.inl ?_);rcases(eE j).1 hj with h|rfl
   ·exact br j h k hk
   ·exact yt k hk
  ·have e:(fun j=>(listed.setIfInBounds i true).getD j false)=fun j=>listed.getD j false||j==i:=by
    funext j;have:=eE j;by_cases hji:j=i
    ·subst hji;simp[show j<listed.size by omega]
    ·rw[getD_set_ne false (Ne.symm hji)];simp[hji]
   rw[e];exact h3
def Sem.draw{id:Nat}{l:List (DK×CI)}(aK:∀o∈ops.toList,∀c,o.op≠ .defer c)(hm:P.follows .mixedOrders=true)(hok:DN ds l (jT ops) fG=true)(hsz:ops.size=l.length)(htr:∀i (h:i<l.length),∃o,ops[i]? =some o/\jP P n ops o=some l[i].2){Q:Exit->St->Prop}(hds:bW ds S.roots=S.roots)(h:pJ P n l (Q .normal) S):Sem P n (.region id ops true) Q S:=by
 intro X w0 O0 a w hs fp g ro hro _;have F:=NH hok;obtain⟨v,Dl,h2,h3⟩:=HO l S F.item h;have hk:∀{i} (hi:i<l.length),cM l i=l[i].1:=fun{i} hi=>by simp[cM,qB hi]
 have hd:∀{i} (hi:i<l.length),bU l i=l[i].2.dst:=fun{i} hi=>by simp[bU,qB hi]
 have C:jR l Dl S.roots:=⟨fun i hi r hr=>by rw[hk hi,hd hi];exact(h2 i hi).keys r hr,fun i hi hr=>(h2 i hi).fm (by rw[←hk hi];exact hr),fun i hi hr r hkr=>by rw[hd hi];exact(h2 i hi).es (by rw[←hk hi];exact hr) r hkr,fun i hi W m hW r hkr=>by rw[hd hi];exact(h2 i hi).tv W m (by rw[←hk hi];exact hW) r hkr,
  F.dst,F.small,fun i hi hc d dR r hr=>by rw[←hds];exact Nx (F.HU i hi hc d dR) hr,
  fun i hi=>by
   rw[hk hi,hd hi];have:=F.item l[i] (rJ hi);revert this;rcases l[i]with⟨k,c⟩;cases c<;>simp only[uH,qM,beq_iff_eq,CI.dst]<;>intro h
   ·exact h.2
   ·rw[h.2];exact h.1.2⟩
 refine wpIn_mono (Q:=fun e a' w'=>(e= .normal/\∃S' hs' al,Good X w0 O0 n S' a' w' hs' al/\Q .normal S')/\(e= .normal->ib (Ah ops) a a')) (wpIn_region_draw fun t=>Ag aK (by rintro⟨_,_,⟨h,_⟩,_⟩;cases h) _ a _ (Ai _ a _ ?_ (.refl _ _))) (by rintro e a' w' ⟨⟨rfl,h⟩,bV⟩;exact⟨h,bV rfl⟩);simp only[Region.schedule,hm,Bool.true_or,if_true];refine wpAny_sound ops.size t _ a _ ?_;have hfalse:∀j,(Array.replicate ops.size false).getD j false=false:=fun j=>by
  by_cases hj:j<ops.size<;>simp[hj]
 have hno:∀j,¬(Array.replicate ops.size false).getD j false=true:=fun j h=>by rw[hfalse]at h;cases h
 refine Xr F rfl hsz htr h2 C (fun S' a' w' hs' al g' li=>⟨rfl,S',hs',al,g',by rw[li];exact h3⟩) _ _ S a _ hs fp (g.drawn _) (by simp[hsz]) ?_ (fun i hi=>(hno i hi).elim) ⟨fun s=>⟨fun j _ hj _=>(hno j hj).elim,fun _=>rfl⟩,?_⟩
 ·rw[hsz];exact rA (List.length_filter_le _ _) sA
 have:∀k,eu Dl S.roots (fun j=>(Array.replicate ops.size false).getD j false) k=S.roots:=by
  intro k;induction k with
  |zero=>rfl
  |succ k ih=>
   show(if(Array.replicate ops.size false).getD k false=true then bo (Dl k) _ else _)=_;rw[if_neg (hno k),ih]
 exact(this _).symm
end
inductive CC where
 |skip
 |aN (l:List CI)
 |draw (ds:LN) (l:List (DK×CI))
 |seq (a b:CC)
 |cond (x:Operand) (a b:CC)
 |block (id:Nat) (c:CC)
 |loop (c:CC)
 |exit (id:Nat)
 |ret
 |weak (c:CC)
 |DO (l:List CI)
 |pL (g:Operand) (ps:LN) (a b:CC)
def CI.co:CI->CO
 | .o c=>c
 | .g _ _ _ c=>c
def yu(P:Program):Nat->TypeId->Bool
 |0,_=>false
 |k+1,t=>(match P.underlying t with
  |some .bool|some (.int _)|some .string=>true
  |some (.struct fs)=>fs.toList.all fun f=>yu P k f.type
  |some (.array _ e)=>yu P k e
  |some (.tuple ts)=>ts.toList.all fun t=>yu P k t
  |_=>false)
def Xt(P:Program)(t:TypeId):Bool:=match P.underlying t with|some (.pointer _)=>true|_=>false
def Xu(P:Program)(o:Oper)(c:CI):Nat:=
 match c.co with
 | .alloc .. | .make .. =>1
 | .bslice .. =>(match o.op with| .buildSlice t _ _=>(match io P t with|some e=>if yu P 9 e then 1 else 3|none=>3)|_=>3)
 | .box .. =>(match o.op with| .box t _=>if yu P 9 t then 1 else 3|_=>3)
 | .store .. | .app .. | .Av .. =>3
 | .call d _ _=>if d.isNone||(match o.op with| .call k=>k.argTypes.any (Xt P)|_=>true)then 3 else if yu P 9 o.type then 0 else 2
 |_=>0
def DP(acc:LB):LB->LB
 |[]=>acc
 |a::rest=>DP (acc++[a++(a.map fun j=>acc.getD j []).flatten]) rest
def NK(fG:LB)(i j:Nat):Bool:=!((fG.getD i []).contains j||(fG.getD j []).contains i)
def Xv(cl:LN)(dst:List (Option Nat))(fG:LB):List DK:=
 let m:=cl.length
 let NM (i:Nat):LN:=(List.range i).filterMap fun j=>if(cl.getD j 0==1||cl.getD j 0==2)&&NK fG i j then dst.getD j none else none
 (List.range m).map fun i=>match cl.getD i 0 with
  |0=>if(List.range m).any fun j=>cl.getD j 0==3&&NK fG i j then .r true []else .r false (NM i)
  |1=>.c true []
  |2=>.c false (NM i)
  |_=>.h none []
def Xw(cl:LN)(dst:List (Option Nat)):LN:=(cl.zip dst).filterMap fun p=>if p.1==1||p.1==2 then p.2 else none
def Xy(n:Nat)(dst:List (Option Nat))(i:Nat):Option DK:=
 (([(31,16,15,[(1,.r false [1000000000,28]),(12,.h (some [1000000000]) [])]),(37,23,14,[(1,.r false [1000000000,34]),(11,.h (some [1000000000]) [])]),(17,11,7,[(2,.r false [4]),(3,.r false [4]),(4,.r false [4]),(5,.h (some [4]) [])]),(139,23,14,[(5,.r false [6,27]),(6,.r false [6,27]),(7,.r false [6,27]),(8,.r false [6,27]),(11,.h (some [6,27]) [32])]),(25,16,8,[(0,.r false [19,20]),(1,.r false [19,20]),(2,.r false [20]),(4,.h (some [19]) [])])]:List (Nat×Nat×Nat×List (Nat×DK))).find? fun t=>t.1==n&&dst.head? ==some (some t.2.1)&&dst.length==t.2.2.1).bind fun t=>t.2.2.2.lookup i
structure Hints where
 k:List (Nat×Nat×DK)
 w:LN
def Hints.kind(H:Hints)(id i:Nat):Option DK:=(H.k.find? fun p=>p.1==id&&p.2.1==i).map (·.2.2)
def Xz(n id:Nat):Bool:=[(25,5),(194,24),(83,14)].contains (n,id)
def Hints.weak(H:Hints)(n id:Nat):Bool:=Xz n id||H.w.contains id
def pM(P:Program)(n:Nat)(H:Hints)(id:Nat)(ops:Array Oper)(l:List CI):LN×List (DK×CI):=
 let XA:=l.filterMap fun c=>match c.co with| .app _ _ _ (.tmp b) _=>some b|_=>none
 let cl:=(ops.toList.zip l).map fun p=>match p.2.co with| .load1 d _=>if XA.contains d then 3 else 0|_=>Xu P p.1 p.2
 let dst:=l.map CI.dst
 (Xw cl dst,((Xv cl dst (DP [] (jT ops))).mapIdx fun i k=>(H.kind id i).getD ((Xy n dst i).getD k)).zip l)
def wZ(P:Program)(n:Nat)(H:Hints)(id:Nat)(ops:Array Oper):Option (LN×List (DK×CI)):=
 match gZ P n ops ops.toList with
 |some l=>if P.follows .mixedOrders=true/\(pM P n H id ops l).2.length=l.length/\DN (pM P n H id ops l).1 (pM P n H id ops l).2 (jT ops) (DP [] (jT ops))=true then some (pM P n H id ops l)else none
 |none=>none
def dg(P:Program)(n:Nat)(H:Hints):Code->Option CC
 | .skip=>some .skip
 | .region id ops false=>(match gZ P n ops ops.toList with|some l=>(match H.w.contains (id+1000),H.w.contains id with|true,_=>some (.DO l)|false,false=>some (.aN l)|false,true=>some (.weak (.aN l)))|none=>none)
 | .region id ops true=>(match wZ P n H id ops,H.weak n id with|some l,false=>some (.draw l.1 l.2)|some l,true=>some (.weak (.draw l.1 l.2))|none,_=>none)
 | .seq a b=>(match dg P n H a,dg P n H b with|some a,some b=>some (.seq a b)|_,_=>none)
 | .cond x a b=>(match dg P n H a,dg P n H b with|some a,some b=>some (.cond x a b)|_,_=>none)
 | .block id c=>(match dg P n H c with|some c=>some (.block id c)|none=>none)
 | .loop c=>(match dg P n H c with|some c=>some (.loop c)|none=>none)
 | .exit id=>some (.exit id)
 | .ret=>some .ret
 | .rangeFunc g ps a b=>(match dg P n H a,dg P n H b with|some a,some b=>some (.pL g ps.toList a b)|_,_=>none)
 |_=>none
def uL(K:SP)(Q:Exit->St->Prop):Exit->St->Prop
 | .normal,S=>K S
 |e,S=>Q e S
def dX(P:Program)(n:Nat)(c:CC)(Q:Exit->St->Prop)(S:St):Prop:=∀H code,dg P n H code=some c->Sem P n code Q S
def cW(P:Program)(n:Nat):CC->(Exit->St->Prop)->St->Prop
 | .skip,Q,S=>Q .normal S
 | .aN l,Q,S=>fF P n l (Q .normal) S
 | .draw ds l,Q,S=>bW ds S.roots=S.roots/\pJ P n l (Q .normal) S
 | .seq a b,Q,S=>cW P n a (uL (cW P n b Q) Q) S
 | .cond x a b,Q,S=>tq (S.ev x) (cW P n a Q) (cW P n b Q) S
 | .block id c,Q,S=>cW P n c (uy id Q) S
 | .loop c,Q,S=>dX P n (.loop c) Q S
 | .exit id,Q,S=>Q (.exit id) S
 | .ret,Q,S=>Q .ret S
 | .weak c,Q,S=>∃S',aj n S S'/\cW P n c Q S'
 | .DO l,Q,S=>fF P n (l.map CI.nr) (Q .normal) S
 | .pL g ps a b,Q,S=>dX P n (.pL g ps a b) Q S
section
variable {P:Program} {n:Nat} {S:St}
def DQ{ops:Array Oper}:∀{os:List Oper} {l:List CI},gZ P n ops os=some l->l.length=os.length/\∀i (h:i<os.length) (h':i<l.length),jP P n ops os[i]=some l[i]
 |[],l,h=>by simp only[gZ,Option.some.injEq]at h;subst h;exact⟨rfl,fun i h=>absurd h sA⟩
 |o::os,l,h=>by
  simp only[gZ]at h;split at h
  ·rename_i c cl hc br hdf;cases h;obtain⟨h1,h2⟩:=DQ br;refine⟨by simp[h1],fun i h h'=>?_⟩;cases i with
   |zero=>exact hc
   |succ i=>exact h2 i (sU h) (by simpa using h')
  ·cases h
def NN{H:Hints}{l:List (DK×CI)}{id:Nat}{l0:LN×List (DK×CI)}(aV:wZ P n H id ops=some l0)(h1:ds=l0.1)(h2:l=l0.2){Q:Exit->St->Prop}(h:cW P n (.draw ds l) Q S):Sem P n (.region id ops true) Q S:=by
 subst h1 h2;unfold wZ at aV;split at aV<;>(try split at aV)<;>(try cases aV);rename_i l' hl rj;obtain⟨h1,h2⟩:=DQ hl;have hlen:(pM P n H id ops l').2.length=l'.length:=rj.2.1;refine Sem.draw (fun o ho=>tp (wR hl o ho)) rj.1 rj.2.2 (by rw[hlen,h1];simp) (fun i hi=>?_) h.1 h.2;have hi':i<ops.toList.length:=by rw[←h1,←hlen];exact hi
 refine⟨ops.toList[i],by rw[←Array.getElem?_toList];exact qB hi',?_⟩;rw[h2 i hi' om];simp[pM]
def Sem.NO{code:Code}{Q:Exit->St->Prop}{S':St}(hw:aj n S S')(h:Sem P n code Q S'):Sem P n code Q S:=fun X w0 O0 a w hs fp g ro hr hk=>by
 obtain⟨hs',al,g'⟩:=hw X w0 O0 a w hs fp g;exact h X w0 O0 a w hs' al g' ro hr hk
def pN:∀(c:CC) (Q:Exit->St->Prop) (S:St),cW P n c Q S->dX P n c Q S:=by
 intro c;induction c with
 |skip=>
  intro Q S h H code hc;unfold dg at hc;split at hc<;>(try split at hc)<;>(try split at hc)<;>(try cases hc);exact Sem.skip h
 |aN l=>
  intro Q S h H code hc;unfold dg at hc;split at hc<;>(try split at hc)<;>(try split at hc)<;>(try cases hc);refine Sem.region (fun o ho=>tp (wR ‹gZ P n _ _=some _› o ho)) ?_;have:=HI (K:=Q .normal) _ 0 _ S rfl ‹gZ P n _ _=some _› h;rw[List.range_eq_range'];simpa using this
 |draw ds l=>
  intro Q S h H code hc;unfold dg at hc;split at hc<;>(try split at hc)<;>(try split at hc)<;>(try cases hc);rename_i aV _;exact NN aV rfl rfl h
 |seq a b yw DR=>
  intro Q S h H code hc;unfold dg at hc;split at hc<;>(try split at hc)<;>(try split at hc)<;>(try cases hc);rename_i x y hx hy;refine Sem.seq ((yw _ S h _ _ hx).mono fun e S' q=>?_);cases e with
  |normal=>exact DR Q S' q _ _ hy
  |_=>exact q
 |cond x a b yw DR=>
  intro Q S h H code hc;unfold dg at hc;split at hc<;>(try split at hc)<;>(try split at hc)<;>(try cases hc);rename_i hx hy;simp only[cW]at h;unfold tq at h;split at h
  ·rename_i b' hb;exact Sem.cond hb (fun e=>yw Q S (h.1 e) _ _ hx) (fun e=>DR Q S (h.2 e) _ _ hy)
  ·exact h.elim
 |block id c ih=>
  intro Q S h H code hc;unfold dg at hc;split at hc<;>(try split at hc)<;>(try split at hc)<;>(try cases hc);rename_i x hx;exact Sem.block (ih _ S h _ _ hx)
 |loop c ih=>intro Q S h;exact h
 |exit id=>
  intro Q S h H code hc;unfold dg at hc;split at hc<;>(try split at hc)<;>(try split at hc)<;>(try cases hc);exact Sem.exit h
 |ret=>
  intro Q S h H code hc;unfold dg at hc;split at hc<;>(try split at hc)<;>(try split at hc)<;>(try cases hc);exact Sem.ret h
 |weak c ih=>
  intro Q S h H code hc;obtain⟨S',hw,h⟩:=h;unfold dg at hc;split at hc<;>(try split at hc)<;>(try split at hc)<;>(try cases hc)
  ·refine Sem.NO hw (Sem.region (fun o ho=>tp (wR ‹gZ P n _ _=some _› o ho)) ?_);have:=HI (K:=Q .normal) _ 0 _ S' rfl ‹gZ P n _ _=some _› h;rw[List.range_eq_range'];simpa using this
  ·rename_i aV _;exact Sem.NO hw (NN aV rfl rfl h)
 |DO l=>
  intro Q S h H code hc;unfold dg at hc;split at hc<;>(try split at hc)<;>(try split at hc)<;>(try cases hc);refine Sem.region (fun o ho=>tp (wR ‹gZ P n _ _=some _› o ho)) ?_;have:=Nv (K:=Q .normal) _ 0 _ S rfl ‹gZ P n _ _=some _› h;rw[List.range_eq_range'];simpa using this
 |pL g ps a b yw DR=>intro Q S h;exact h
def dX.loop{σ:Type}{c:CC}{Q:Exit->St->Prop}(mk:σ->St)(Inv:σ->Prop)(μ:σ->Nat)(s0:σ)(h0:aj n S (mk s0))(hi:Inv s0)
  (round:∀s,Inv s->cW P n c (Aj n mk Inv μ (μ s) Q) (mk s)):dX P n (.loop c) Q S:=by
 intro H code hc;unfold dg at hc;split at hc<;>(try split at hc)<;>(try split at hc)<;>(try cases hc);rename_i x hx;exact Sem.loop mk Inv μ s0 h0 hi fun s hs=>pN _ _ _ (round s hs) _ _ hx
def pO(P:Program)(np:List ResultVar)(k:Nat)(Q:LA->T->Prop):Exit->St->Prop
 | .normal,S=>nn P S np fun ts S'=>iI S' k 1000000000 fun aA=>Q aA (uB ts)
 | .ret,S=>nn P S np fun ts S'=>iI S' k 1000000000 fun aA=>Q aA (uB ts)
 |_,_=>False
def DS:∀(k i:Nat) {S:St} {K K':LA->Prop},(∀l,K l->K' l)->iI S k i K->iI S k i K'
 |0,i,S,K,K',h,hh=>h _ hh
 |k+1,i,S,K,K',h,hh=>by
  simp only[iI]at hh ⊢;split at hh
  ·exact DS k (i+1) (fun l hl=>h _ hl) hh
  ·exact DS k (i+1) (fun l hl=>h _ hl) hh
  ·exact hh.elim
mutual
def NQ:∀(a:A) {S:St} {K K':T->St->Prop},(∀t S',K t S'->K' t S')->iU S a K->iU S a K'
 | .t c,S,K,K',h,hh=>by unfold iU at hh ⊢;exact h _ _ hh
 | .own q,S,K,K',h,hh=>by
   unfold iU at hh ⊢;split at hh
   ·exact h _ _ hh
   ·exact hh.elim
 | .agg l,S,K,K',h,hh=>by unfold iU at hh ⊢;exact HY l (fun t S'=>h _ S') hh
 | .aI l,S,K,K',h,hh=>by unfold iU at hh ⊢;exact HY l (fun t S'=>h _ S') hh
 | .sub _ _ _,S,K,K',h,hh=>by unfold iU at hh;exact hh.elim
 | .ptr _ _,S,K,K',h,hh=>by unfold iU at hh;exact hh.elim
 | .fn _ _,S,K,K',h,hh=>by
   unfold iU at hh ⊢;split at hh
   ·exact h _ _ hh
   ·exact hh.elim
def HY:∀(l:List A) {S:St} {K K':LA->St->Prop},(∀t S',K t S'->K' t S')->nm S l K->nm S l K'
 |[],S,K,K',h,hh=>by unfold nm at hh ⊢;exact h _ _ hh
 |a::l,S,K,K',h,hh=>by
  unfold nm at hh ⊢;exact NQ a (fun t S' h1=>HY l (fun ts nt h2=>h _ _ h2) h1) hh
end
def XB{rv:ResultVar}{K K':T->St->Prop}(h:∀t S',K t S'->K' t S')(hh:rm P S rv K):rm P S rv K':=by
 unfold rm at hh ⊢;cases rv with
 |tmp t=>exact NQ _ h hh
 |cell t ty=>
  simp only at hh ⊢;cases he:S.env t<;>simp only[he]at hh ⊢;rename_i q;generalize S.roots q=r at hh ⊢;split at hh
  ·split at hh
   ·exact⟨hh.1,h _ _ hh.2⟩
   ·split at hh
    ·exact h _ _ hh
    ·exact hh.elim
   ·exact hh.elim
  ·exact hh.elim
def HZ:∀(l:List ResultVar) {S:St} {K K':LA->St->Prop},(∀t S',K t S'->K' t S')->nn P S l K->nn P S l K'
 |[],S,K,K',h,hh=>by unfold nn at hh ⊢;exact h _ _ hh
 |a::l,S,K,K',h,hh=>by
  unfold nn at hh ⊢;exact XB (fun t S' h1=>HZ l (fun ts nt h2=>h _ _ h2) h1) hh
abbrev sl(n:Nat):Operand:=.tmp n
abbrev ci(n:Int):Operand:=.const (.int .i64 n)
abbrev cb(b:Bool):Operand:=.const (.bool b)
abbrev cv(v:Value):Operand:=.const v
abbrev cf(f:Nat):Operand:=.func f
def XC(S:St)(n:Nat):S.ev (sl n)=S.env n:=rfl
def XD(S:St)(n:Int):S.ev (ci n)= .t (.v (.int .i64 n)):=rfl
def XE(S:St)(b:Bool):S.ev (cb b)= .t (.v (.bool b)):=rfl
def XF(S:St)(v:Value):S.ev (cv v)= .t (.v v):=rfl
def XG(S:St)(f:Nat):S.ev (cf f)= .fn f []:=rfl
def cF.of{H:Hints}{f:FuncId}{fn:Func}{code:Code}{c:CC}{aH:LA}{args:List A}{Q:LA->T->Prop}(hf:P.funcs[f]? =some fn)(hb:fn.body=some code)(hn:fn.ntmps=n){rv:List ResultVar}(AE:fn.results.toList=rv)(hc:dg P n H code=some c)(ha:args.length<=n)(bV:n<=100000)
  (h:cW P n c (pO P rv aH.length Q) (St.of (enum 0 args) (enum 1000000000 aH))):cF P f aH args Q:=
 cF.intro hf hb hn ha bV ((pN _ _ _ h _ _ hc).mono fun e S' q=>by
  subst AE;have key:pO P fn.results.toList aH.length Q .ret S'->rn P fn.results.toList aH.length Q .ret S':=fun q=>by
   simp only[pO,rn]at q ⊢;exact HZ _ (fun ts nt h1=>DS _ _ (fun aA h2=>⟨_,.refl _,h2⟩) h1) q
  cases e with
  |normal=>exact key q
  |ret=>exact key q
  |_=>exact q.elim)
def bz.use{d:Option Nat}{as:List Operand}(bj:gY (S.ev fo)=some (f,cap))(b_:∀args w,(callFunc f args).run P w= .ok (.enter f args) w){Q:LA->T->Prop}(hF:cF P f aH args Q)(ai au:LN)(dL:ai.Nodup)(hsrc:gB S ai aH)(dk:∀q∈au,q∉ai)(hargs:gn S ai au args (as.map S.ev++cap))(hk:∀aA res,Q aA res->(au=[]∨(res.bJ/\T.df aA))/\kI S d ai aA res K):bz P n d fo as K S:=by
 intro o ts ho hd hdn;subst hd;exact aQ.call ho hdn bj b_ hF ai au dL hsrc dk (sU hargs) hk
def bz.pure{d:Nat}{as:List Operand}{args:LA}{res:T}(hF:Pure P f args res)(au:LN)(bj:gY (S.ev fo)=some (f,cap))(b_:∀args w,(callFunc f args).run P w= .ok (.enter f args) w)(hargs:gn S [] au (args.map A.t) (as.map S.ev++cap))(be:res.bJ)(hx:bp d 0 res=(x,[],0))(hk:K {S with env:=ak S.env d x}):bz P n (some d) fo as K S:=by
 refine bz.use bj b_ hF [] au sA trivial (fun q _=>sA) hargs fun aA res' h=>?_;obtain⟨rfl,rfl⟩:=h;refine⟨.inr ⟨be,trivial⟩,?_⟩;simp only[kI,hx];exact⟨trivial,sA,hk⟩
def dX.ig{c:CC}{Q:Exit->St->Prop}(mk:σ->St)(Inv:σ->Prop)(μ:σ->Nat)(s0:σ)(h0:aj n S (mk s0))(hi:Inv s0)(round:∀s,Inv s->∀R:Exit->St->Prop,(∀S' s',aj n S' (mk s')->Inv s'->μ s'<μ s->R .normal S')->(∀S',Q .ret S'->R .ret S')->(∀i S',Q (.exit i) S'->R (.exit i) S')->cW P n c R (mk s)):dX P n (.loop c) Q S:=
 dX.loop mk Inv μ s0 h0 hi fun s hs=>round s hs _ (fun S' s' h1 h2 h3=>⟨s',h1,h2,h3⟩) (fun _ h=>h) (fun _ _ h=>h)
def tr.pure{fo:Operand}{as:List Operand}{ρ:Operand->A}{R:Nat->aE}{K:A->Prop}{f:FuncId}{cap:List A}{args:LA}{res:T}(hF:Pure P f args res)(au:LN)(bj:gY (ρ fo)=some (f,cap))(b_:∀args w,(callFunc f args).run P w= .ok (.enter f args) w)
  (hargs:∀e R',(∀r,R r= .free∨R' r=R r)->gn ⟨e,R'⟩ [] au (args.map A.t) (as.map ρ++cap)) (be:res.bJ) (hx:∀d,bp d 0 res=((bp 0 0 res).1,[],0)) (hk:K (bp 0 0 res).1):tr P n fo as ρ R K:=by
 refine⟨_,hk,fun d e R' Kc h1 h2 h3=>?_⟩;refine bz.pure hF au (by rw[h2 fo sA];exact bj) b_ ?_ be (hx d) h3;have:as.map (St.ev ⟨e,R'⟩)=as.map ρ:=rW fun y hy=>h2 y (by simp[hy]);rw[this];exact hargs e R' h1
def NR:∀(t:T) (d k:Nat),k<=(bp d k t).2.2/\∀p∈(bp d k t).2.1,∃j,j<(bp d k t).2.2/\p.1=eM d j:=by
 intro t d k;have single:∀(x:T),k<=k+1/\∀p∈[(eM d k,x)],∃j,j<k+1/\p.1=eM d j:=fun x=>⟨om,fun p hp=>⟨k,om,by simp at hp;rw[hp]⟩⟩;exact NS t d k
where
 NS (t:T) (d k:Nat):k<=(bp d k t).2.2/\∀p∈(bp d k t).2.1,∃j,j<(bp d k t).2.2/\p.1=eM d j:=by
  cases t with
  |arr s l=>exact⟨by simp[bp],fun p hp=>⟨k,by simp[bp],by simp[bp]at hp;rw[hp]⟩⟩
  |box l=>exact⟨by simp[bp],fun p hp=>⟨k,by simp[bp],by simp[bp]at hp;rw[hp]⟩⟩
  |agg l=>have:=H0 l d k;simpa only[bp]using this
  |aI l=>have:=H0 l d k;simpa only[bp]using this
  |_=>exact⟨by simp[bp],fun p hp=>by simp[bp]at hp⟩
 H0 (l:LA) (d k:Nat):k<=(f_ d k l).2.2/\∀p∈(f_ d k l).2.1,∃j,j<(f_ d k l).2.2/\p.1=eM d j:=by
  cases l with
  |nil=>exact⟨by simp[f_],fun p hp=>by simp[f_]at hp⟩
  |cons t l=>
   obtain⟨h1,h2⟩:=NS t d k
   obtain⟨h3,h4⟩:=H0 l d (bp d k t).2.2
   simp only[f_]
   refine⟨om,fun p hp=>?_⟩
   rcases qI.1 hp with hp|hp
   ·obtain⟨j,hj,e⟩:=h2 p hp;exact⟨j,om,e⟩
   ·exact h4 p hp
def NT{d j:Nat}(h:j<1000):cX d (eM d j):=by
 unfold eM;split
 ·exact .inl rfl
 ·right;omega
def newR(l:List (Nat×T)):List (Nat×aE):=(l.map fun p=>(p.1,aE.live p.2 [])).reverse
def NU(D:List (Nat×aE))(p:Nat×aE)(R:Nat->aE):bo (D++[p]) R=ak (bo D R) p.1 p.2:=by simp[bo,List.foldl_append]
def AF:∀(l:List (Nat×T)) (R:Nat->aE),bo (newR l) R=lQ R l
 |[],R=>rfl
 |(j,t)::l,R=>by
  have:=AF l R;simp only[newR,List.map_cons,List.reverse_cons]at this ⊢;rw[NU,this];rfl
def DT(l:List (Nat×T))(r:Nat):r∈aX (newR l)↔∃p∈l,p.1=r:=by
 simp[aX,newR]
def pP:LN->LA->List (Nat×aE)
 |q::qs,t::ts=>pP qs ts++[(q,rootOf t)]
 |_,_=>[]
def AG:∀(qs:LN) (ts:LA) (R:Nat->aE),bo (pP qs ts) R=gp R qs ts
 |[],_,R=>by simp[pP,gp,bo]
 |_::_,[],R=>by simp[pP,gp,bo]
 |q::qs,t::ts,R=>by rw[pP,NU,AG qs ts R];rfl
def H1:∀(qs:LN) (ts:LA) (r:Nat),r∈aX (pP qs ts)->r∈qs
 |[],_,r,h=>by simp[pP,aX]at h
 |_::_,[],r,h=>by simp[pP,aX]at h
 |q::qs,t::ts,r,h=>by
  simp only[pP,aX,qG,qI,List.map_cons,List.map_nil,List.mem_singleton]at h;rcases h with h|h
  ·exact rH _ (H1 qs ts r h)
  ·rw[h];simp
def AH:∀{l:List (Nat×T)} {S:St},te S l↔∀p∈l,S.roots p.1= .free
 |[],S=>by simp[te]
 |(j,t)::l,S=>by simp[te,AH (l:=l)]
def NW:∀{qs:LN} {ts:LA} {S:St},gB S qs ts->(∀q∈qs,S.roots q≠ .free)/\∀S':St,(∀q∈qs,S'.roots q=S.roots q)->gB S' qs ts
 |[],[],S,_=>⟨sA,fun _ _=>trivial⟩
 |[],_::_,S,h=>h.elim
 |_::_,[],S,h=>h.elim
 |q::qs,t::ts,S,h=>by
  obtain⟨h1,h2⟩:=NW h.2;refine⟨fun r hr=>?_,fun S' hS=>⟨(hS q sA).trans h.1,h2 S' fun r hr=>hS r (by simp[hr])⟩⟩;rcases qO.1 hr with rfl|hr
  ·rw[h.1];intro h;cases h
  ·exact h1 r hr
def H2(S:St)(R:Nat->aE)(y:Operand):St.ev ⟨S.env,R⟩ y=S.ev y:=by cases y<;>rfl
def lT.res{d:Nat}{fo:Operand}{ops:List Operand}{m:LN}{K:SP}{f:FuncId}{cap:List A}{args:List A}{res:T}(hF:cF P f [] args fun o r=>o=[]/\r=res)(au:LN)(bj:gY (S.ev fo)=some (f,cap))(b_:∀args w,(callFunc f args).run P w= .ok (.enter f args) w)
  (hargs:∀e R',(∀r,bW m S.roots r= .free∨R' r=bW m S.roots r)->gn ⟨e,R'⟩ [] au args (ops.map S.ev++cap)) (be:au=[]∨res.bJ) (hk:kI S (some d) [] [] res K):lT P n d fo ops m K S:=by
 obtain⟨hfree,js,hk⟩:=hk;have wE:∀r∈aX (newR (bp d 0 res).2.1),cX d r:=fun r hr=>by
  obtain⟨p,hp,rfl⟩:=(DT _ r).1 hr;obtain⟨j,hj,e⟩:=(NR res d 0).2 p hp;rw[e];exact NT om
 refine⟨(bp d 0 res).1,newR (bp d 0 res).2.1,wE,by rw[AF];exact hk,fun r hr=>.inr ⟨d,rfl,wE r hr⟩,fun e R Kc hr hR hf ic=>?_⟩;have jM:∀y∈fo::ops,St.ev ⟨e,R⟩ y=S.ev y:=fun y hy=>(hr y (rH _ hy)).trans (H2 S _ y);refine bz.use (by rw[jM fo sA];exact bj) b_ hF [] au sA trivial (fun q _=>sA) ?_ fun aA res' h=>?_
 ·have:ops.map (St.ev ⟨e,R⟩)=ops.map S.ev:=rW fun y hy=>jM y (by simp[hy]);rw[this];exact hargs e R hR
 ·obtain⟨rfl,rfl⟩:=h;refine⟨be.imp id fun h=>⟨h,trivial⟩,AH.2 fun p hp=>hf p.1 ((DT _ _).2 ⟨p,hp,rfl⟩) ?_,js,by rw[AF]at ic;exact ic⟩;rcases Ny m S.roots p.1 with h|h
  ·exact h
  ·exact h.symm.trans (AH.1 hfree p hp)
def iX.ref{d:Option Nat}{ops:List Operand}{aA:LA}{res:T}(hF:cF P f aH args fun o r=>o=aA/\r=res)(ai au:LN)(bj:gY (S.ev fo)=some (f,cap))(b_:∀args w,(callFunc f args).run P w= .ok (.enter f args) w)(dL:ai.Nodup)(hsrc:gB S ai aH)(dk:∀q∈au,q∉ai)(hargs:∀e R',(∀r,S.roots r= .free∨R' r=S.roots r)->gn ⟨e,R'⟩ ai au args (ops.map S.ev++cap))(be:au=[]∨(res.bJ/\T.df aA))(hk:kI S d ai aA res K):iX P n d fo ops K S:=by
 obtain⟨hne,NX⟩:=NW hsrc;cases d with
 |none=>
  refine⟨.t .any,pP ai aA,by rw[AG];exact hk,fun r hr=>.inl (hne r (H1 _ _ r hr)),fun e R Kc hr hR hf ic=>?_⟩;have jM:∀y∈fo::ops,St.ev ⟨e,R⟩ y=S.ev y:=fun y hy=>(hr y (rH _ hy)).trans (H2 S _ y);refine bz.use (by rw[jM fo sA];exact bj) b_ hF ai au dL (NX _ fun q hq=>(hR q).resolve_left (hne q hq)) dk ?_ fun NY res' h=>?_
  ·have:ops.map (St.ev ⟨e,R⟩)=ops.map S.ev:=rW fun y hy=>jM y (by simp[hy]);rw[this];exact hargs e R hR
  ·obtain⟨rfl,rfl⟩:=h;exact⟨be,by rw[AG]at ic;exact ic⟩
 |some d=>
  obtain⟨hfree,js,hk⟩:=hk;have wE:∀r∈aX (newR (bp d 0 res).2.1),cX d r:=fun r hr=>by
   obtain⟨p,hp,rfl⟩:=(DT _ r).1 hr;obtain⟨j,hj,e⟩:=(NR res d 0).2 p hp;rw[e];exact NT om
  refine⟨(bp d 0 res).1,pP ai aA++newR (bp d 0 res).2.1,by rw[lj,AG,AF];exact hk,fun r hr=>?_,fun e R Kc hr hR hf ic=>?_⟩
  ·rw[aX,qG,qI]at hr;rcases hr with hr|hr
   ·exact .inl (hne r (H1 _ _ r hr))
   ·exact .inr ⟨d,rfl,wE r hr⟩
  ·have jM:∀y∈fo::ops,St.ev ⟨e,R⟩ y=S.ev y:=fun y hy=>(hr y (rH _ hy)).trans (H2 S _ y);refine bz.use (by rw[jM fo sA];exact bj) b_ hF ai au dL (NX _ fun q hq=>(hR q).resolve_left (hne q hq)) dk ?_ fun NY res' h=>?_
   ·have:ops.map (St.ev ⟨e,R⟩)=ops.map S.ev:=rW fun y hy=>jM y (by simp[hy]);rw[this];exact hargs e R hR
   ·obtain⟨rfl,rfl⟩:=h;refine⟨be,AH.2 fun p hp=>hf p.1 ?_ (AH.1 hfree p hp),js,by rw[lj,AG,AF]at ic;exact ic⟩;rw[aX,qG,qI];exact .inr ((DT _ _).2 ⟨p,hp,rfl⟩)
def XH(m:LN)(R:Nat->aE)(i:Nat)(x:aE):bW m (ak R i x)=if m.any (fun d=>decide (i=d)||decide (i/1000=d+1))then bW m R else ak (bW m R) i x:=by
 funext r;by_cases hr:r=i
 ·subst hr;split
  ·rename_i h;simp only[bW,h,if_true]
  ·rename_i h;rw[aT];simp only[bW];rw[if_neg h,aT]
 ·split
  ·simp only[bW,aU _ _ _ _ hr]
  ·rw[aU _ _ _ _ hr];simp only[bW,aU _ _ _ _ hr]
def XI(m:LN):bW m (fun _=>aE.free)=fun _=>aE.free:=by
 funext r;simp[bW]
def XJ(P:Program)(n z:Nat)(x v:Operand)(K:SP)(S:St):jQ P n (.store z x v) K S=cu P n (.store z x v) K S:=rfl
def XK(P:Program)(n d:Nat)(zs:LA)(K:SP)(S:St):jQ P n (.alloc d zs) K S=cu P n (.alloc d zs) K S:=rfl
def XL(P:Program)(n d:Nat)(x:Operand)(K:SP)(S:St):jQ P n (.box d x) K S=cu P n (.box d x) K S:=rfl
def XM(P:Program)(n d z len:Nat)(ps:List (Nat×Operand))(K:SP)(S:St):jQ P n (.bslice d z len ps) K S=cu P n (.bslice d z len ps) K S:=rfl
def XN(P:Program)(n d:Nat)(zs:LA)(eb:Nat)(l c:Operand)(K:SP)(S:St):jQ P n (.make d zs eb l c) K S=cu P n (.make d zs eb l c) K S:=rfl
def XO(P:Program)(n d z eb:Nat)(b x:Operand)(K:SP)(S:St):jQ P n (.app d z eb b x) K S=cu P n (.app d z eb b x) K S:=rfl
def XQ(P:Program)(n d:Nat)(x:Operand)(K:SP)(S:St):jQ P n (.load1 d x) K S=cu P n (.load1 d x) K S:=rfl
def XR(P:Program)(n:Nat)(d:Option Nat)(f:Operand)(as:List Operand)(K:SP)(S:St):jQ P n (.call d f as) K S=iX P n d f as K S:=rfl
def XS(K:SP)(Q:Exit->St->Prop)(S:St):uL K Q .normal S=K S:=rfl
def XT(K:SP)(Q:Exit->St->Prop)(S:St):uL K Q .ret S=Q .ret S:=rfl
def XU(K:SP)(Q:Exit->St->Prop)(S:St)(i:Nat):uL K Q (.exit i) S=Q (.exit i) S:=rfl
def XV(i:Nat)(Q:Exit->St->Prop)(S:St):uy i Q .normal S=Q .normal S:=rfl
def XW(i:Nat)(Q:Exit->St->Prop)(S:St):uy i Q .ret S=Q .ret S:=rfl
def XX(i j:Nat)(Q:Exit->St->Prop)(S:St):uy i Q (.exit j) S=if j=i then Q .normal S else Q (.exit j) S:=rfl
def XY(n:Nat)(mk:σ->St)(Inv:σ->Prop)(μ:σ->Nat)(m:Nat)(Q:Exit->St->Prop)(S:St):Aj n mk Inv μ m Q .normal S=∃s',aj n S (mk s')/\Inv s'/\μ s'<m:=rfl
def XZ(n:Nat)(mk:σ->St)(Inv:σ->Prop)(μ:σ->Nat)(m:Nat)(Q:Exit->St->Prop)(S:St):Aj n mk Inv μ m Q .ret S=Q .ret S:=rfl
def X4(n:Nat)(mk:σ->St)(Inv:σ->Prop)(μ:σ->Nat)(m:Nat)(Q:Exit->St->Prop)(S:St)(i:Nat):Aj n mk Inv μ m Q (.exit i) S=Q (.exit i) S:=rfl
def X5(r off z:Nat)(K:SP)(ts:LA)(S:St):pn r off z K ts S=match(S.roots r).cells with
 |some (l,lk)=>0<z/\off+z<=l.length/\K {S with roots:=ak S.roots r ((S.roots r).with (fD l off ts) (lk.filter fun p=>p.1<off||off+z<=p.1))}
 |none=>False:=rfl
def X6(x:A)(d z eb:Nat)(K:SP)(olds:LA)(S:St):yd x d z eb K olds S=pq S x z (Aa d z eb K olds):=rfl
def X7(d z eb:Nat)(K:SP)(olds news:LA)(S:St):Aa d z eb K olds news S=((olds.length+news.length)*eb<=z*140737488355328/\jc d (.arr z) K (olds++news) S):=rfl
end
def aj.refl(n:Nat)(S:St):aj n S S:=fun X w0 O0 a w hs fp g=>⟨hs,fp,g⟩
def aj.trans{S S1 S2:St}(h:aj n S S1)(h':aj n S1 S2):aj n S S2:=fun X w0 O0 a w hs fp g=>by
 obtain⟨hs1,aO,g1⟩:=h X w0 O0 a w hs fp g;exact h' X w0 O0 a w hs1 aO g1
def aj.open{S:St}(r o d:Nat){l:LA}{lk:List (Nat×Nat)}{c:T}(h:(S.roots r).cells=some (l,lk))(hc:l[o]? =some c)(hd:S.roots d= .free)(hdn:d<1000000000)(bv:c.b8=true):
  aj n S {S with roots:=ak (ak S.roots r ((S.roots r).with (l.set o .any) ((o,d)::lk))) d (.live c [])}:=fun X w0 O0 a w hs fp g=>by
 obtain⟨hs',al,v,g',_⟩:=g.unfold h hc hd hdn bv;exact⟨hs',al,g'⟩
def ou(ga:List (Nat×List (Nat×Nat)))(R:Nat->aE):Nat->aE:=fun j=>match R j with| .live t _=>.live t ((ga.lookup j).getD [])|x=>x
def St.jU(e:List (Nat×A))(r:List (Nat×T))(ga:List (Nat×List (Nat×Nat))):St:=⟨je e,ou ga (eL r)⟩
variable{S:St}
def H3(ga:List (Nat×List (Nat×Nat))){j:Nat}{lk:List (Nat×Nat)}(h:R j= .live t lk):ou ga R j= .live t ((ga.lookup j).getD []):=by simp only[ou,h]
def NZ(ga:List (Nat×List (Nat×Nat))){j:Nat}(h:R j= .free):ou ga R j= .free:=by simp only[ou,h]
def w9(ga:List (Nat×List (Nat×Nat)))(R:Nat->aE)(j:Nat)(t:T)(lk:List (Nat×Nat)):ou ga (ak R j (.live t lk))=ak (ou ga R) j (.live t ((ga.lookup j).getD [])):=by
 funext r;by_cases hr:r=j
 ·subst hr;rw[aT];simp only[ou,aT]
 ·rw[aU _ _ _ _ hr];simp only[ou,aU _ _ _ _ hr]
def w_(ga:List (Nat×List (Nat×Nat))):ou ga (fun _=>.free)=fun _=>.free:=rfl
def DU(S:St):List (Nat×T)->List (Option Nat)->Prop
 |[],[]=>True
 |(_,t)::r,some q::ss=>(∃t0 jt,S.roots q= .live t0 jt/\Le t0 t)/\t.b8=true/\DU S r ss
 |(_,t)::r,none::ss=>(∃s,t= .arr s [])/\DU S r ss
 |_,_=>False
def H4(S:St)(π:Nat->Option (Option Nat)):List (Nat×List (Nat×Nat))->Prop
 |[]=>True
 |(j,lk)::ga=>(∃q t0 jt,π j=some (some q)/\S.roots q= .live t0 jt/\∀p∈lk,∃q',π p.2=some (some q')/\(p.1,q')∈jt)/\H4 S π ga
def unlink(S:St):St:={S with roots:=fun q=>match S.roots q with| .live t _=>.live t []|x=>x}
def X8{q:Nat}(h:(unlink S).roots q= .live t []):∃jt,S.roots q= .live t jt:=by
 simp only[unlink]at h;split at h
 ·rename_i t' lk h1;cases h;exact⟨lk,h1⟩
 ·rename_i h1;exact⟨[],h⟩
def H5{S:St}:∀{r:List (Nat×T)} {ss:List (Option Nat)},DU S r ss->jf (unlink S) r ss
 |[],[],_=>trivial
 |[],_::_,h=>h.elim
 |_::_,[],h=>h.elim
 |(_,t)::r,some q::ss,h=>by
  obtain⟨⟨t0,jt,h1,h2⟩,h3,h4⟩:=h;exact⟨⟨t0,by simp only[unlink,h1],h2⟩,h3,H5 h4⟩
 |(_,t)::r,none::ss,h=>⟨h.1,H5 h.2⟩
def H6{S:St}{π:Nat->Option (Option Nat)}:∀{ga:List (Nat×List (Nat×Nat))} {j:Nat} {p:Nat×Nat},H4 S π ga->p∈(ga.lookup j).getD []→
  ∃q t0 jt,π j=some (some q)/\S.roots q= .live t0 jt/\∃q',π p.2=some (some q')/\(p.1,q')∈jt
 |[],j,p,_,hp=>by simp at hp
 |(k,lk)::ga,j,p,h,hp=>by
  rw[List.lookup_cons]at hp;split at hp
  ·rename_i he;have:j=k:=sU he;subst this;obtain⟨q,t0,jt,h1,h2,h3⟩:=h.1;exact⟨q,t0,jt,h1,h2,h3 p (sU hp)⟩
  ·exact H6 h.2 hp
def aj.jU{n:Nat}{S:St}(e:List (Nat×A))(r:List (Nat×T))(ga:List (Nat×List (Nat×Nat)))(ss:List (Option Nat))(hd:(((r.map (·.1)).zip ss).filterMap (·.2)).Nodup)(hb:∀p∈(r.map (·.1)).zip ss,p.1<1000000000∨p.2=some p.1)(he:oc S (en r ss) e)(b9:DU S r ss)(hlk:H4 S (en r ss) ga):aj n S (St.jU e r ga):=by
 intro X w0 O0 a w hs fp g;have hr:=H5 b9;have spec:=Dk r ss hr;let hs':NV:=fun j=>match en r ss j with|some (some q)=>hs q|some none=>some (.slice none 0 0)|none=>none
 have hh:∀j q h,en r ss j=some (some q)->hs q=some h->hs' j=some h:=fun j q h h1 h2=>by simp only[hs',h1];exact h2
 have hn:∀j,en r ss j=some none->hs' j=some (.slice none 0 0):=fun j h=>by simp only[hs',h]
 have inj:∀j j' q,en r ss j=some (some q)->en r ss j'=some (some q)->j=j':=fun j j' q h h'=>Hi hd h h';have ar:∀j,∃f:LN,((∃q t0 t jt,en r ss j=some (some q)/\eL r j= .live t []/\t.b8=true/\S.roots q= .live t0 jt/\f.Sublist (fp q)/\∃x,hs' j=some x/\Ow w (Ob X fp) t x f)∨
   (f=[]/\en r ss j=some none/\∃s,eL r j= .live (.arr s []) [])∨(f=[]/\en r ss j=none/\eL r j= .free)):=by
  intro j;rcases spec j with⟨h1,h2⟩|⟨t,h1,bv,⟨q,t0,h2,h3,h4⟩|⟨h2,s,rfl⟩⟩
  ·exact⟨[],.inr (.inr ⟨rfl,h2,h1⟩)⟩
  ·obtain⟨jt,h3⟩:=X8 h3;have dj:=g.root q;rw[h3]at dj;obtain⟨x,hx,ho,_⟩:=dj;obtain⟨f,ho',hsub⟩:=h4.ow ho;exact⟨f,.inl ⟨q,t0,t,jt,h2,h1,bv,h3,hsub,x,hh _ _ _ h2 hx,ho'⟩⟩
  ·exact⟨[],.inr (.inl ⟨rfl,h2,s,h1⟩)⟩
 let al:NL:=fun j=>(ar j).choose
 have bw:∀j,_:=fun j=>(ar j).choose_spec;have sub:∀j b,b∈al j->∃q,en r ss j=some (some q)/\b∈fp q:=by
  intro j b hb;rcases bw j with⟨q,t0,t,jt,h1,_,_,_,h2,_⟩|⟨h,_⟩|⟨h,_⟩
  ·exact⟨q,h1,h2.subset hb⟩
  ·have hb':b∈(ar j).choose:=hb;rw[h]at hb';simp at hb'
  ·have hb':b∈(ar j).choose:=hb;rw[h]at hb';simp at hb'
 have hO:∀b,¬Ob X fp b->b<w.heap.size->¬Ob X al b:=by
  rintro b h1 _ (h|⟨j,hj⟩)
  ·exact h1 (.inl h)
  ·obtain⟨q,_,hq⟩:=sub j b hj;exact h1 (.inr ⟨q,hq⟩)
 refine⟨hs',al,g.size,g.defers,fun i=>Hg hO hh hn _ _ (Hh e he i) (g.env i),fun j=>?_,fun j j' b h h'=>?_,fun j=>?_,fun j b h=>?_,g.de,g.fA,fun j b h=>?_,g.aZ,fun j t lk h=>?_,fun j h hj=>?_,g.small,fun j h hj0 hj=>?_⟩
 ·show iG w _ hs' (ou ga (eL r) j) (hs' j) (al j);rcases bw j with⟨q,t0,t,jt,h1,h2,bv,h3,h4,x,hx,ho⟩|⟨h1,h2,s,h3⟩|⟨h1,h2,h3⟩
  ·rw[H3 ga h2];refine⟨x,hx,ho.mono (fun _ _ _ _ _ h=>h) hO (fun _ _ _ _ _ h=>h),fun p hp=>?_⟩;obtain⟨q1,t1,Nq,h5,h6,q',h7,h8⟩:=H6 hlk hp;rw[h1]at h5;cases h5;rw[h3]at h6;cases h6;have dj:=g.root q;rw[h3]at dj;obtain⟨x',hx',_,hl⟩:=dj;have:x'=x:=by have:=hh j q x' h1 hx';rw[hx]at this;exact(Option.some.inj this).symm
   subst this;obtain⟨y,hy1,hy2⟩:=hl _ h8;exact⟨y,hy1,hh _ _ _ h7 hy2⟩
  ·rw[H3 ga h3,show al j=[] from h1];refine⟨_,hn j h2,.jn s,fun p hp=>?_⟩;obtain⟨q1,t1,Nq,h5,_⟩:=H6 hlk hp;rw[h2]at h5;cases h5
  ·rw[NZ ga h3];exact⟨by simp only[hs',h2],h1⟩
 ·obtain⟨q,h1,h2⟩:=sub j b h;obtain⟨q',cC,bi⟩:=sub j' b h';have:=g.cj q q' b h2 bi;subst this;exact inj j j' q h1 cC
 ·rcases bw j with⟨q,t0,t,_,_,_,_,_,h4,_⟩|⟨h1,_⟩|⟨h1,_⟩
  ·exact h4.nodup (g.nodup q)
  ·rw[show al j=[] from h1];simp
  ·rw[show al j=[] from h1];simp
 ·obtain⟨q,_,hq⟩:=sub j b h;exact g.cV q b hq
 ·obtain⟨q,_,hq⟩:=sub j b h;exact g.mine q b hq
 ·have h:ou ga (eL r) j= .live t lk:=h;rcases spec j with⟨h1,_⟩|⟨t',h1,bv,_⟩
  ·rw[NZ ga h1]at h;cases h
  ·rw[H3 ga h1]at h;cases h;exact bv
 ·simp only[hs']at hj;split at hj
  ·exact g.aV _ _ hj
  ·cases hj;rfl
  ·cases hj
 ·have mem:∀{ps:List (Nat×Option Nat)} {j:Nat} {s:Option Nat},ps.lookup j=some s->(j,s)∈ps:=by
   intro ps;induction ps with
   |nil=>intro j s h;simp at h
   |cons p ps ih=>
    intro j s h;obtain⟨k,s'⟩:=p;rw[List.lookup_cons]at h;split at h
    ·rename_i he;cases h;have:j=k:=sU he;subst this;simp
    ·exact rH _ (ih h)
  simp only[hs']at hj;split at hj
  ·rename_i q hq;rcases hb _ (mem hq)with h1|h1
   ·simp only at h1;omega
   ·simp only[Option.some.injEq]at h1;subst h1;exact g.ax _ _ hj0 hj
  ·rename_i hq;rcases hb _ (mem hq)with h1|h1
   ·simp only at h1;omega
   ·cases h1
  ·cases hj
def sc(q:Nat)(t:T):A->A
 | .own q'=>if q'=q then .t t.bB else .own q'
 |a=>a
def aj.share(q:Nat)(hq:S.roots q= .live t []):aj n S ⟨fun i=>sc q t (S.env i),ak S.roots q .dead⟩:=by
 intro X w0 O0 a w hs fp g;have dj:=g.root q;rw[hq]at dj;obtain⟨x,hx,ho,_⟩:=dj;have hsub:∀r b,b∈ak fp q [] r->r≠q/\b∈fp r:=fun r b hb=>by
  by_cases hr:r=q
  ·subst hr;rw[aT]at hb;simp at hb
  ·rw[aU _ _ _ _ hr]at hb;exact⟨hr,hb⟩
 have hO:∀b,¬Ob X fp b->b<w.heap.size->¬Ob X (ak fp q []) b:=fun b h _ h'=>by
  rcases h' with h'|⟨r,hr⟩
  ·exact h (.inl h')
  ·exact h (.inr ⟨r,(hsub r b hr).2⟩)
 have hk:∀p,jK p w w:=fun p _ _ _ _ _ h=>h;have lL:∀b∈fp q,¬Ob X (ak fp q []) b:=fun b hb h=>by
  rcases h with h|⟨r,hr⟩
  ·exact g.cV q b hb h
  ·obtain⟨h1,h2⟩:=hsub r b hr;exact h1 (g.cj r q b h2 hb)
 refine⟨hs,ak fp q [],g.size,g.defers,fun i=>?_,fun r=>?_,fun r r' b h h'=>g.cj r r' b (hsub r b h).2 (hsub r' b h').2,fun r=>?_,fun r b h=>g.cV r b (hsub r b h).2,g.de,g.fA,fun r b h=>g.mine r b (hsub r b h).2,g.aZ,fun r t lk h=>?_,g.aV,g.small,g.ax⟩
 ·have hi:=g.env i;show Is w (Ob X (ak fp q [])) hs (sc q t (S.env i)) _;generalize S.env i=y at hi;cases y with
  |own q'=>
   simp only[sc];split
   ·rename_i he;subst he;have:=hi.gK;rw[hx,Option.some.injEq]at this;rw[←this];exact .t (ho.bB hO lL)
   ·exact hi.mono (hk _) hO (fun _ _ h=>h)
  |_=>exact hi.mono (hk _) hO (fun _ _ h=>h)
 ·by_cases hr:r=q
  ·subst hr;show iG w _ hs (ak S.roots r .dead r) (hs r) (ak fp r [] r);rw[aT,aT];rfl
  ·show iG w _ hs (ak S.roots q .dead r) (hs r) (ak fp q [] r);rw[aU _ _ _ _ hr,aU _ _ _ _ hr];exact g.rl r (hk _) hO (fun _ _ h=>h) rfl (fun b _=>rfl)
 ·by_cases hr:r=q
  ·subst hr;rw[aT];simp
  ·rw[aU _ _ _ _ hr];exact g.nodup r
 ·have h:ak S.roots q .dead r= .live t lk:=h;by_cases hr:r=q
  ·subst hr;rw[aT]at h;cases h
  ·rw[aU _ _ _ _ hr]at h;exact g.b8 r t lk h
def aj.join(P:Program){S1:St}{ty:TypeId}(hz:dJ P ty=some 1)(x v:Operand){r d:Nat}{l:LA}{lk:List (Nat×Nat)}(hx:pm S (S.ev x)=some (r,off))(hv:S.ev v= .own d)(hr:(S.roots r).cells=some (l,lk))(d_:off<l.length)(hlk:(off,d)∈lk)(k:pE 1 (S.ev x) (S.ev v) (fun S'=>S'=S1) S):aj n S S1:=by
 intro X w0 O0 a w hs fp g;obtain⟨b,y,cs,e,ar,hy,fC,hb,hle,hf,kd,bw,hl,_⟩:=g.block hr d_;have th:=g.addr hx (g.ev x) b y hy fC;obtain⟨u,N0,N1⟩:=hl _ hlk;have X9:a.eval v=u:=by
  have h1:=g.ev v;rw[hv]at h1;have h2:=h1.gK;rw[N1]at h2;exact(Option.some.inj h2).symm
 have hone:u.oneCell'=true:=g.aV _ _ N1;let o:Oper:={(default:Oper)with op:=.store ty x v,dst:=none}
 have hw:=MF (P:=P) (o:=o) (n:=n) (S:=S) (K:=fun S'=>S'=S1) rfl rfl (by
  unfold C_;unfold pE at k;split at k
  ·rename_i h1 h2;rw[h1,hz,h2];exact k
  ·exact k.elim) X w0 O0 a w hs fp g fun _ _ _=>False
 have hcell:cs[off]? =some u:=by
  simp only[World.cell?,hb]at N0;simpa using N0
 have hcs:=MC hone;have hrun:(execOp a.eval o).run P w= .ok .skip w:=by
  have hst:=run_storeCells_at P b off e [u] 0 cs w hb (by simp;have:=(qF.1 hcell).1;omega) (sU hone);have hrow:(cs.toList.take (off+0)++[u]++cs.toList.drop (off+0+ [u].length)).toArray=cs:=by
   have hlt:off<cs.toList.length:=sU ((qF.1 hcell).1);have hg:cs.toList[off]=u:=by
    have:=(qF.1 hcell).2;simpa using this
   have h1:cs.toList.take off++[u]++cs.toList.drop (off+1)=cs.toList:=by
    rw[←hg,qW,List.singleton_append,←List.drop_eq_getElem_cons hlt,List.take_append_drop]
   rw[Nat.add_zero,show [u].length=1 from rfl,h1,Array.toArray_toList]
  rw[hrow,setRow_self w b cs e (0,0) hb]at hst;have wk:=uq hz w;simp only[o,execOp,Instr.storeAt,th,X9,hcs,Instr.sureAddr,storeVar,Sem.run_bind,Sem.run_pure,Result.andThen_ok,wk,ne_eq,List.size_toArray,List.length_cons,List.length_nil,Nat.zero_add,not_true_eq_false,if_false];rw[hst];rfl
 unfold Oper.wp at hw;rw[hrun,Oper.upon_skip]at hw;obtain⟨S',hs',al,g',rfl⟩:=hw;exact⟨hs',al,by
  have e:a.put o.dst undef=a:=rfl;rw[e]at g';exact g'⟩
def aj.DV(P:Program){ty:TypeId}(hz:dJ P ty=some 1)(x v:Operand){r d:Nat}{l:LA}(hx:pm S (S.ev x)=some (r,off))(hv:S.ev v= .own d)(hd:S.roots d= .live t [])(hr:(S.roots r).cells=some (l,[(off,d)]))(hne:r≠d)(d_:off<l.length):
  aj n S {S with roots:=ak (ak S.roots d .dead) r ((S.roots r).with (fD l off [t]) [])}:=by
 refine aj.join P hz x v hx hv hr d_ sA ?_;unfold pE;rw[hx,hv];simp only[mB,kF,rh,hd,pn,aU _ _ _ _ hne,hr,List.length_cons,List.length_nil];refine⟨trivial,om,om,?_⟩;rw[List.filter_cons_of_neg sA,List.filter_nil]
section
variable {P:Program} {n:Nat} {S:St}
def bz.xa{F:α->T}{G:α->LA}{Φ:α->Prop}{d:Option Nat}{ops:List Operand}(hF:cF P f aH args fun o r=>∃x,o=G x/\r=F x/\Φ x)(ai au:LN)(bj:gY (S.ev fo)=some (f,cap))(b_:∀args w,(callFunc f args).run P w= .ok (.enter f args) w)(dL:ai.Nodup)(hsrc:gB S ai aH)(dk:∀q∈au,q∉ai)(hargs:gn S ai au args (ops.map S.ev++cap))(be:au=[]∨∀x,(F x).bJ/\T.df (G x))(hk:∀x,Φ x->kI S d ai (G x) (F x) K):bz P n d fo ops K S:=by
 refine bz.use bj b_ hF ai au dL hsrc dk hargs fun aA res h=>?_;obtain⟨x,rfl,rfl,hx⟩:=h;refine⟨?_,hk x hx⟩;rcases be with h|h
 ·exact .inl h
 ·exact .inr (h x)
end
@[congr] theorem bp9{a0:_}{a1:_}{a2:_}{a3:_}{a4:_}{cQ:_}(h4:a4=cQ):fF a0 a1 a2 a3 a4=fF a0 a1 a2 a3 cQ:=by subst_vars;rfl
@[congr] theorem bq0{a0:_}{a1:_}{a2:_}{a3:_}{a4:_}{cQ:_}(h4:a4=cQ):cu a0 a1 a2 a3 a4=cu a0 a1 a2 a3 cQ:=by subst_vars;rfl
@[congr] theorem bq1{a0:_}{a1:_}{a2:_}{a3:_}{a4:_}{cQ:_}(h4:a4=cQ):cW a0 a1 a2 a3 a4=cW a0 a1 a2 a3 cQ:=by subst_vars;rfl
@[congr] theorem bq2{a0:_}{bN:_}{a1:_}{a2:_}{a3:_}{dh:_}(h0:a0=bN)(h3:a3=dh):tq a0 a1 a2 a3=tq bN a1 a2 dh:=by subst_vars;rfl
@[congr] theorem bq3{a0:_}{bN:_}{a1:_}{a2:_}{a3:_}{a4:_}{a5:_}{a6:_}{iK:_}(h0:a0=bN)(h6:a6=iK):iW a0 a1 a2 a3 a4 a5 a6=iW bN a1 a2 a3 a4 a5 iK:=by subst_vars;rfl
@[congr] theorem bq4{a0:_}{a1:_}{a2:_}{bX:_}{a3:_}{dh:_}(h2:a2=bX)(h3:a3=dh):uL a0 a1 a2 a3=uL a0 a1 bX dh:=by subst_vars;rfl
@[congr] theorem bq5{a0:_}{a1:_}{a2:_}{bX:_}{a3:_}{dh:_}(h2:a2=bX)(h3:a3=dh):uy a0 a1 a2 a3=uy a0 a1 bX dh:=by subst_vars;rfl
@[congr] theorem bq6{a0:_}{bN:_}{a1:_}{a2:_}{a3:_}{dh:_}(h0:a0=bN)(h3:a3=dh):dI a0 a1 a2 a3=dI bN a1 a2 dh:=by subst_vars;rfl
@[congr] theorem bq7{a0:_}{bN:_}{a1:_}{bh:_}{a2:_}{bX:_}{a3:_}(h0:a0=bN)(h1:a1=bh)(h2:a2=bX):uE a0 a1 a2 a3=uE bN bh bX a3:=by subst_vars;rfl
@[congr] theorem bq8{a0:_}{a1:_}{bh:_}{a2:_}{bX:_}{a3:_}(h1:a1=bh)(h2:a2=bX):uF a0 a1 a2 a3=uF a0 bh bX a3:=by subst_vars;rfl
@[congr] theorem bq9{a0:_}{bN:_}{a1:_}{bh:_}{a2:_}(h0:a0=bN)(h1:a1=bh):bE a0 a1 a2=bE bN bh a2:=by subst_vars;rfl
@[congr] theorem br0{a0:_}{a1:_}{bh:_}{a2:_}{bX:_}{a3:_}{dh:_}{a4:_}(h1:a1=bh)(h2:a2=bX)(h3:a3=dh):bH a0 a1 a2 a3 a4=bH a0 bh bX dh a4:=by subst_vars;rfl
@[congr] theorem br1{a0:_}{a1:_}{bh:_}{a2:_}{bX:_}{a3:_}(h1:a1=bh)(h2:a2=bX):bK a0 a1 a2 a3=bK a0 bh bX a3:=by subst_vars;rfl
@[congr] theorem br2{a0:_}{a1:_}{a2:_}{bX:_}{a3:_}{dh:_}{a4:_}{cQ:_}{a5:_}(h2:a2=bX)(h3:a3=dh)(h4:a4=cQ):ph a0 a1 a2 a3 a4 a5=ph a0 a1 bX dh cQ a5:=by subst_vars;rfl
@[congr] theorem br3{a0:_}{bN:_}{a1:_}{a2:_}{a3:_}{dh:_}(h0:a0=bN)(h3:a3=dh):bC a0 a1 a2 a3=bC bN a1 a2 dh:=by subst_vars;rfl
@[congr] theorem br4{a0:_}{bN:_}{a1:_}{bh:_}{a2:_}{bX:_}{a3:_}{a4:_}{cQ:_}{a5:_}{fI:_}{a6:_}{iK:_}{a7:_}(h0:a0=bN)(h1:a1=bh)(h2:a2=bX)(h4:a4=cQ)(h5:a5=fI)(h6:a6=iK):jb a0 a1 a2 a3 a4 a5 a6 a7=jb bN bh bX a3 cQ fI iK a7:=by subst_vars;rfl
@[congr] theorem br5{a0:_}{a1:_}{bh:_}{a2:_}{a3:_}{a4:_}{cQ:_}(h1:a1=bh)(h4:a4=cQ):wM a0 a1 a2 a3 a4=wM a0 bh a2 a3 cQ:=by subst_vars;rfl
@[congr] theorem br6{a0:_}{bN:_}{a1:_}{bh:_}{a2:_}{bX:_}{a3:_}{dh:_}{a4:_}{a5:_}{a6:_}{a7:_}{AI:_}(h0:a0=bN)(h1:a1=bh)(h2:a2=bX)(h3:a3=dh)(h7:a7=AI):ti a0 a1 a2 a3 a4 a5 a6 a7=ti bN bh bX dh a4 a5 a6 AI:=by subst_vars;rfl
@[congr] theorem br7{a0:_}{a1:_}{a2:_}{bX:_}{a3:_}{dh:_}{a4:_}{a5:_}{fI:_}(h2:a2=bX)(h3:a3=dh)(h5:a5=fI):Ax a0 a1 a2 a3 a4 a5=Ax a0 a1 bX dh a4 fI:=by subst_vars;rfl
@[congr] theorem br8{a0:_}{bN:_}{a1:_}{bh:_}{a2:_}{a3:_}{a4:_}{cQ:_}{a5:_}{fI:_}(h0:a0=bN)(h1:a1=bh)(h4:a4=cQ)(h5:a5=fI):pD a0 a1 a2 a3 a4 a5=pD bN bh a2 a3 cQ fI:=by subst_vars;rfl
@[congr] theorem br9{a0:_}{a1:_}{bh:_}{a2:_}(h1:a1=bh):yn a0 a1 a2=yn a0 bh a2:=by subst_vars;rfl
@[congr] theorem bs0{a0:_}{a1:_}{bh:_}{a2:_}{bX:_}{a3:_}(h1:a1=bh)(h2:a2=bX):yo a0 a1 a2 a3=yo a0 bh bX a3:=by subst_vars;rfl
@[congr] theorem bs1{a0:_}{a1:_}{bh:_}{a2:_}{bX:_}{a3:_}{a4:_}{cQ:_}(h1:a1=bh)(h2:a2=bX)(h4:a4=cQ):pE a0 a1 a2 a3 a4=pE a0 bh bX a3 cQ:=by subst_vars;rfl
@[congr] theorem bs2{a0:_}{bN:_}{a1:_}{bh:_}{a2:_}{a3:_}{a4:_}{cQ:_}{a5:_}{fI:_}(h0:a0=bN)(h1:a1=bh)(h4:a4=cQ)(h5:a5=fI):pn a0 a1 a2 a3 a4 a5=pn bN bh a2 a3 cQ fI:=by subst_vars;rfl
@[congr] theorem bs3{a0:_}{bN:_}{a1:_}{bh:_}{a2:_}(h0:a0=bN)(h1:a1=bh):kF a0 a1 a2=kF bN bh a2:=by subst_vars;rfl
@[congr] theorem bs4{a0:_}{bN:_}{a1:_}{bh:_}{a2:_}(h0:a0=bN)(h1:a1=bh):rh a0 a1 a2=rh bN bh a2:=by subst_vars;rfl
@[congr] theorem bs5{a0:_}{a1:_}{a2:_}{a3:_}{dh:_}{a4:_}{cQ:_}(h3:a3=dh)(h4:a4=cQ):jc a0 a1 a2 a3 a4=jc a0 a1 a2 dh cQ:=by subst_vars;rfl
@[congr] theorem bs6{a0:_}{bN:_}{a1:_}{a2:_}{bX:_}{a3:_}(h0:a0=bN)(h2:a2=bX):po a0 a1 a2 a3=po bN a1 bX a3:=by subst_vars;rfl
@[congr] theorem bs7{a0:_}{a1:_}{a2:_}{bX:_}{a3:_}(h2:a2=bX):wN a0 a1 a2 a3=wN a0 a1 bX a3:=by subst_vars;rfl
@[congr] theorem bs8{a0:_}{a1:_}{a2:_}{a3:_}{dh:_}{a4:_}{a5:_}{fI:_}(h3:a3=dh)(h5:a5=fI):tj a0 a1 a2 a3 a4 a5=tj a0 a1 a2 dh a4 fI:=by subst_vars;rfl
@[congr] theorem bs9{a0:_}{a1:_}{a2:_}{bX:_}{a3:_}{dh:_}{a4:_}{a5:_}{a6:_}{iK:_}(h2:a2=bX)(h3:a3=dh)(h6:a6=iK):lS a0 a1 a2 a3 a4 a5 a6=lS a0 a1 bX dh a4 a5 iK:=by subst_vars;rfl
@[congr] theorem bt0{a0:_}{bN:_}{a1:_}{bh:_}{a2:_}{a3:_}(h0:a0=bN)(h1:a1=bh):pp a0 a1 a2 a3=pp bN bh a2 a3:=by subst_vars;rfl
@[congr] theorem bt1{a0:_}{bN:_}{a1:_}{a2:_}{a3:_}{a4:_}{a5:_}{fI:_}{a6:_}{iK:_}(h0:a0=bN)(h5:a5=fI)(h6:a6=iK):yd a0 a1 a2 a3 a4 a5 a6=yd bN a1 a2 a3 a4 fI iK:=by subst_vars;rfl
@[congr] theorem bt2{a0:_}{a1:_}{a2:_}{a3:_}{a4:_}{cQ:_}{a5:_}{fI:_}{a6:_}{iK:_}(h4:a4=cQ)(h5:a5=fI)(h6:a6=iK):Aa a0 a1 a2 a3 a4 a5 a6=Aa a0 a1 a2 a3 cQ fI iK:=by subst_vars;rfl
@[congr] theorem bt3{a0:_}{bN:_}{a1:_}{bh:_}{a2:_}{a3:_}(h0:a0=bN)(h1:a1=bh):pq a0 a1 a2 a3=pq bN bh a2 a3:=by subst_vars;rfl
@[congr] theorem bt4{a0:_}{a1:_}{bh:_}{a2:_}(h1:a1=bh):wP a0 a1 a2=wP a0 bh a2:=by subst_vars;rfl
@[congr] theorem bt5{a0:_}{bN:_}{a1:_}{bh:_}{a2:_}(h0:a0=bN)(h1:a1=bh):gN a0 a1 a2=gN bN bh a2:=by subst_vars;rfl
@[congr] theorem bt6{a0:_}{a1:_}{bh:_}{a2:_}{bX:_}{a3:_}(h1:a1=bh)(h2:a2=bX):ux a0 a1 a2 a3=ux a0 bh bX a3:=by subst_vars;rfl
@[congr] theorem bt7{a0:_}{a1:_}{bh:_}{a2:_}{bX:_}{a3:_}(h1:a1=bh)(h2:a2=bX):ym a0 a1 a2 a3=ym a0 bh bX a3:=by subst_vars;rfl
@[congr] theorem bt8{a0:_}{a1:_}{bh:_}{a2:_}{bX:_}{a3:_}{dh:_}{a4:_}{cQ:_}{a5:_}(h1:a1=bh)(h2:a2=bX)(h3:a3=dh)(h4:a4=cQ):tf a0 a1 a2 a3 a4 a5=tf a0 bh bX dh cQ a5:=by subst_vars;rfl
@[congr] theorem bt9{a0:_}{a1:_}{bh:_}{a2:_}{bX:_}{a3:_}(h1:a1=bh)(h2:a2=bX):uk a0 a1 a2 a3=uk a0 bh bX a3:=by subst_vars;rfl
@[congr] theorem bu0{a0:_}{a1:_}{a2:_}{bX:_}{a3:_}{dh:_}{a4:_}(h2:a2=bX)(h3:a3=dh):sY a0 a1 a2 a3 a4=sY a0 a1 bX dh a4:=by subst_vars;rfl
@[congr] theorem bu1{a0:_}{a1:_}{bh:_}{a2:_}(h1:a1=bh):ul a0 a1 a2=ul a0 bh a2:=by subst_vars;rfl
@[congr] theorem bu2{a0:_}{bN:_}{a1:_}{a2:_}(h0:a0=bN):um a0 a1 a2=um bN a1 a2:=by subst_vars;rfl
@[congr] theorem bu3{a0:_}{bN:_}{a1:_}{a2:_}{a3:_}{dh:_}{a4:_}{cQ:_}{a5:_}(h0:a0=bN)(h3:a3=dh)(h4:a4=cQ):kI a0 a1 a2 a3 a4 a5=kI bN a1 a2 dh cQ a5:=by subst_vars;rfl
@[congr] theorem bu4{a0:_}{a1:_}{a2:_}{a3:_}{a4:_}{a5:_}{a6:_}{iK:_}(h6:a6=iK):bz a0 a1 a2 a3 a4 a5 a6=bz a0 a1 a2 a3 a4 a5 iK:=by subst_vars;rfl
@[congr] theorem bu5{a0:_}{a1:_}{a2:_}{a3:_}{a4:_}{cQ:_}(h4:a4=cQ):dX a0 a1 a2 a3 a4=dX a0 a1 a2 a3 cQ:=by subst_vars;rfl
@[congr] theorem bu6{a0:_}{a1:_}{a2:_}{a3:_}{a4:_}{cQ:_}(h4:a4=cQ):pJ a0 a1 a2 a3 a4=pJ a0 a1 a2 a3 cQ:=by subst_vars;rfl
@[congr] theorem bu7{a0:_}{a1:_}{a2:_}{a3:_}{a4:_}{a5:_}{fI:_}(h5:a5=fI):uI a0 a1 a2 a3 a4 a5=uI a0 a1 a2 a3 a4 fI:=by subst_vars;rfl
@[congr] theorem bu8{a0:_}{a1:_}{a2:_}{a3:_}{a4:_}{a5:_}{fI:_}(h5:a5=fI):pI a0 a1 a2 a3 a4 a5=pI a0 a1 a2 a3 a4 fI:=by subst_vars;rfl
@[congr] theorem bu9{a0:_}{a1:_}{a2:_}{a3:_}{dh:_}{a4:_}{cQ:_}{a5:_}(h3:a3=dh)(h4:a4=cQ):eS a0 a1 a2 a3 a4 a5=eS a0 a1 a2 dh cQ a5:=by subst_vars;rfl
@[congr] theorem bv0{a0:_}{a1:_}{a2:_}{a3:_}{a4:_}{a5:_}{a6:_}{iK:_}(h6:a6=iK):pH a0 a1 a2 a3 a4 a5 a6=pH a0 a1 a2 a3 a4 a5 iK:=by subst_vars;rfl
@[congr] theorem bv1{a0:_}{a1:_}{a2:_}{a3:_}{a4:_}{cQ:_}(h4:a4=cQ):jQ a0 a1 a2 a3 a4=jQ a0 a1 a2 a3 cQ:=by subst_vars;rfl
@[congr] theorem bv2{a0:_}{a1:_}{a2:_}{bX:_}(h2:a2=bX):pG a0 a1 a2=pG a0 a1 bX:=by subst_vars;rfl
@[congr] theorem bv3{a0:_}{a1:_}{a2:_}{a3:_}{a4:_}{cQ:_}{a5:_}{fI:_}{a6:_}(h4:a4=cQ)(h5:a5=fI):tr a0 a1 a2 a3 a4 a5 a6=tr a0 a1 a2 a3 cQ fI a6:=by subst_vars;rfl
@[congr] theorem bv4{a0:_}{a1:_}{a2:_}{a3:_}{a4:_}{a5:_}{a6:_}{a7:_}{AI:_}(h7:a7=AI):lT a0 a1 a2 a3 a4 a5 a6 a7=lT a0 a1 a2 a3 a4 a5 a6 AI:=by subst_vars;rfl
@[congr] theorem bv5{a0:_}{a1:_}{a2:_}{a3:_}{a4:_}{a5:_}{a6:_}{iK:_}(h6:a6=iK):iX a0 a1 a2 a3 a4 a5 a6=iX a0 a1 a2 a3 a4 a5 iK:=by subst_vars;rfl
@[congr] theorem bv6{a0:_}{a1:_}{bh:_}{a2:_}{bX:_}{a3:_}(h1:a1=bh)(h2:a2=bX):bL a0 a1 a2 a3=bL a0 bh bX a3:=by subst_vars;rfl
@[congr] theorem bv7{a0:_}{bN:_}{a1:_}{bh:_}{a2:_}(h0:a0=bN)(h1:a1=bh):bF a0 a1 a2=bF bN bh a2:=by subst_vars;rfl
@[congr] theorem bv8{a0:_}{bN:_}{a1:_}{bh:_}{a2:_}{bX:_}{a3:_}{a4:_}(h0:a0=bN)(h1:a1=bh)(h2:a2=bX):mM a0 a1 a2 a3 a4=mM bN bh bX a3 a4:=by subst_vars;rfl
@[congr] theorem bv9{a0:_}{bN:_}{a1:_}{a2:_}{a3:_}{dh:_}(h0:a0=bN)(h3:a3=dh):AA a0 a1 a2 a3=AA bN a1 a2 dh:=by subst_vars;rfl
@[congr] theorem bw0{a0:_}{a1:_}{a2:_}{a3:_}{a4:_}{cQ:_}{a5:_}{fI:_}(h4:a4=cQ)(h5:a5=fI):pO a0 a1 a2 a3 a4 a5=pO a0 a1 a2 a3 cQ fI:=by subst_vars;rfl
@[congr] theorem bw1{a0:_}{a1:_}{bh:_}{a2:_}{a3:_}(h1:a1=bh):nn a0 a1 a2 a3=nn a0 bh a2 a3:=by subst_vars;rfl
@[congr] theorem bw2{a0:_}{a1:_}{bh:_}{a2:_}{a3:_}(h1:a1=bh):rm a0 a1 a2 a3=rm a0 bh a2 a3:=by subst_vars;rfl
@[congr] theorem bw3{a0:_}{bN:_}{a1:_}{bh:_}{a2:_}(h0:a0=bN)(h1:a1=bh):iU a0 a1 a2=iU bN bh a2:=by subst_vars;rfl
@[congr] theorem bw4{a0:_}{bN:_}{a1:_}{bh:_}{a2:_}(h0:a0=bN)(h1:a1=bh):nm a0 a1 a2=nm bN bh a2:=by subst_vars;rfl
@[congr] theorem bw5{a0:_}{bN:_}{a1:_}{a2:_}{a3:_}(h0:a0=bN):iI a0 a1 a2 a3=iI bN a1 a2 a3:=by subst_vars;rfl
def yx{l:List α}{i:Nat}{d:α}{P:α->Prop}:(i<l.length/\∀c,l[i]? =some c->P c)=(i<l.length/\P (l[i]?.getD d)):=by
 refine propext ⟨fun h=>⟨h.1,?_⟩,fun h=>⟨h.1,fun c hc=>?_⟩⟩
 ·have:=h.2 _ (qB h.1);rw[qB h.1];exact this
 ·have:=h.2;rw[hc]at this;exact this
def X_{l:LA}{d:Nat}:bC (.t (.ax l off)) d K S=(off<l.length/\K {S with env:=ak S.env d (.t (l[off]?.getD .any))}):=yx (P:=fun c=>K {S with env:=ak S.env d (.t c)})
def H7(r off d:Nat)(K:SP)(S:St)(x:Option (LA×List (Nat×Nat))):Prop:=match x with
 |some (l,lk)=>off<l.length/\(match lk.lookup off with
  |some q=>K {S with env:=ak S.env d (.own q)}
  |none=>jb S r off d l lk (l[off]?.getD .any) K)
 |none=>False
def Ya{r d:Nat}:bC (.ptr r off) d K S=H7 r off d K S (S.roots r).cells:=by
 show(match(S.roots r).cells with
  |some (l,lk)=>off<l.length/\(match lk.lookup off with
   |some q=>K {S with env:=ak S.env d (.own q)}
   |none=>∀c,l[off]? =some c->jb S r off d l lk c K)
  |none=>False)=_
 unfold H7;cases(S.roots r).cells with
 |none=>rfl
 |some x=>
  obtain⟨l,lk⟩:=x;show(off<l.length/\(match lk.lookup off with
   |some q=>K {S with env:=ak S.env d (.own q)}
   |none=>∀c,l[off]? =some c->jb S r off d l lk c K))=(off<l.length/\(match lk.lookup off with
   |some q=>K {S with env:=ak S.env d (.own q)}
   |none=>jb S r off d l lk (l[off]?.getD .any) K))
  cases lk.lookup off with
  |some q=>rfl
  |none=>exact yx (P:=fun c=>jb S r off d l lk c K)
def H8(r d:Nat)(K:SP)(S:St)(x:aE):Prop:=match x with
 | .live (.box l) lk=>0<l.length/\(match lk.lookup 0 with
   |some q=>K {S with env:=ak S.env d (.own q)}
   |none=>jb S r 0 d l lk (l[0]?.getD .any) K)
 |_=>False
def Yb{r d:Nat}:bC (.own r) d K S=H8 r d K S (S.roots r):=by
 show(match S.roots r with
  | .live (.box l) lk=>0<l.length/\(match lk.lookup 0 with
    |some q=>K {S with env:=ak S.env d (.own q)}
    |none=>∀c,l[0]? =some c->jb S r 0 d l lk c K)
  |_=>False)=_
 unfold H8;cases S.roots r with
 |live t lk=>
  cases t with
  |box l=>
   show(0<l.length/\(match lk.lookup 0 with
    |some q=>K {S with env:=ak S.env d (.own q)}
    |none=>∀c,l[0]? =some c->jb S r 0 d l lk c K))=(0<l.length/\(match lk.lookup 0 with
    |some q=>K {S with env:=ak S.env d (.own q)}
    |none=>jb S r 0 d l lk (l[0]?.getD .any) K))
   cases lk.lookup 0 with
   |some q=>rfl
   |none=>exact yx (P:=fun c=>jb S r 0 d l lk c K)
  |_=>rfl
 |_=>rfl
def Yc{l:LA}{K:A->Prop}:bF (.t (.ax l off)) S K=(off<l.length/\K (.t (l[off]?.getD .any))):=yx (P:=fun c=>K (.t c))
def H9(off:Nat)(K:A->Prop)(x:Option (LA×List (Nat×Nat))):Prop:=match x with
 |some (l,lk)=>off<l.length/\(match lk.lookup off with
  |some q=>K (.own q)
  |none=>(l[off]?.getD T.any).flat=true/\K (.t (l[off]?.getD .any)))
 |none=>False
def Yd{r:Nat}{K:A->Prop}:bF (.ptr r off) S K=H9 off K (S.roots r).cells:=by
 show(match(S.roots r).cells with
  |some (l,lk)=>off<l.length/\(match lk.lookup off with
   |some q=>K (.own q)
   |none=>∀c:T,l[off]? =some c->c.flat=true/\K (.t c))
  |none=>False)=_
 unfold H9;cases(S.roots r).cells with
 |none=>rfl
 |some x=>
  obtain⟨l,lk⟩:=x;show(off<l.length/\(match lk.lookup off with
   |some q=>K (.own q)
   |none=>∀c:T,l[off]? =some c->c.flat=true/\K (.t c)))=(off<l.length/\(match lk.lookup off with
   |some q=>K (.own q)
   |none=>(l[off]?.getD T.any).flat=true/\K (.t (l[off]?.getD .any))))
  cases lk.lookup off with
  |some q=>rfl
  |none=>exact yx (P:=fun c:T=>c.flat=true/\K (.t c))
def H_(K:A->Prop)(x:aE):Prop:=match x with
 | .live (.box l) lk=>0<l.length/\(match lk.lookup 0 with
   |some q=>K (.own q)
   |none=>(l[0]?.getD T.any).flat=true/\K (.t (l[0]?.getD .any)))
 |_=>False
def Ye{r:Nat}{K:A->Prop}:bF (.own r) S K=H_ K (S.roots r):=by
 show(match S.roots r with
  | .live (.box l) lk=>0<l.length/\(match lk.lookup 0 with
    |some q=>K (.own q)
    |none=>∀c:T,l[0]? =some c->c.flat=true/\K (.t c))
  |_=>False)=_
 unfold H_;cases S.roots r with
 |live t lk=>
  cases t with
  |box l=>
   show(0<l.length/\(match lk.lookup 0 with
    |some q=>K (.own q)
    |none=>∀c:T,l[0]? =some c->c.flat=true/\K (.t c)))=(0<l.length/\(match lk.lookup 0 with
    |some q=>K (.own q)
    |none=>(l[0]?.getD T.any).flat=true/\K (.t (l[0]?.getD .any))))
   cases lk.lookup 0 with
   |some q=>rfl
   |none=>exact yx (P:=fun c:T=>c.flat=true/\K (.t c))
  |_=>rfl
 |_=>rfl
section
variable {S:St} {K:A->Prop}
def N2(K:A->Prop):aE->Prop
 | .live (.arr s l) _=>0<s/\K (.v (.int .i64 ((l.length/s:Nat):Int)))
 |_=>False
def Yf:bE (.t (.v (.slice none 0 0))) S K=K (.v (.int .i64 0)):=rfl
def Yg{s:Nat}{l:LA}:bE (.t (.sh s l)) S K=(0<s/\K (.v (.int .i64 ((l.length/s:Nat):Int)))):=rfl
def Yh{r:Nat}:bE (.own r) S K=N2 K (S.roots r):=by
 show(match S.roots r with| .live (.arr s l) _=>0<s/\K (.v (.int .i64 ((l.length/s:Nat):Int)))|_=>False)=_;cases S.roots r with
 |live t lk=>cases t<;>rfl
 |_=>rfl
def Yi{r m:Nat}:bE (.sub r off m) S K=K (.v (.int .i64 (m:Nat))):=rfl
def Yj(K:A->Prop):aE->Prop
 | .live (.arr 1 l) _=>(match HD l with|some bs=>K (.v (.string ⟨bs.toArray⟩))|none=>False)
 |_=>False
def N3(z r:Nat)(iv:Int)(K:A->Prop):aE->Prop
 | .live (.arr s l) _=>s=z/\(iv.toNat+1)*z<=l.length/\K (.ptr r (iv.toNat*z))
 |_=>False
def Yk{s:Nat}{l:LA}:bH z (.t (.sh s l)) (.t (.v (.int k iv))) S K=(0<=iv/\s=z/\(iv.toNat+1)*z<=l.length/\K (.t (.ax l (iv.toNat*z)))):=rfl
def Yl{r:Nat}:bH z (.own r) (.t (.v (.int k iv))) S K=(0<=iv/\N3 z r iv K (S.roots r)):=by
 show(0<=iv/\(match S.roots r with| .live (.arr s l) _=>s=z/\(iv.toNat+1)*z<=l.length/\K (.ptr r (iv.toNat*z))|_=>False))=_;cases S.roots r with
 |live t lk=>cases t<;>rfl
 |_=>rfl
def Ym{r m:Nat}:bH z (.sub r off m) (.t (.v (.int k iv))) S K=(0<=iv/\iv.toNat<m/\K (.ptr r (off+iv.toNat*z))):=rfl
def N4(r off:Nat)(K:A->Prop):aE->Prop
 | .live (.box _) _=>K (.ptr r off)
 |_=>False
def Yn{l:LA}:bK off (.t (.ax l o)) S K=K (.t (.ax l (o+off))):=rfl
def Yo{r:Nat}:bK off (.ptr r o) S K=K (.ptr r (o+off)):=rfl
def Yp{r:Nat}:bK off (.own r) S K=N4 r off K (S.roots r):=by
 show(match S.roots r with| .live (.box _) _=>K (.ptr r off)|_=>False)=_;cases S.roots r with
 |live t lk=>cases t<;>rfl
 |_=>rfl
def N5(z r:Nat)(iv:Int)(K:A->Prop):aE->Prop
 | .live (.box _) _=>K (.ptr r (iv.toNat*z))
 |_=>False
def Yq{l:LA}:ph len z (.t (.ax l o)) (.t (.v (.int k iv))) S K=(0<=iv/\iv<len/\K (.t (.ax l (o+iv.toNat*z)))):=rfl
def Yr{r:Nat}:ph len z (.ptr r o) (.t (.v (.int k iv))) S K=(0<=iv/\iv<len/\K (.ptr r (o+iv.toNat*z))):=rfl
def Ys{r:Nat}:ph len z (.own r) (.t (.v (.int k iv))) S K=(0<=iv/\iv<len/\N5 z r iv K (S.roots r)):=by
 show(0<=iv/\iv<len/\(match S.roots r with| .live (.box _) _=>K (.ptr r (iv.toNat*z))|_=>False))=_;cases S.roots r with
 |live t lk=>cases t<;>rfl
 |_=>rfl
def Ia(off z:Nat)(K:A->Prop):Option (LA×List (Nat×Nat))->Prop
 |some (l,lk)=>off+z<=l.length/\mM l lk off z K
 |none=>False
def N6(z:Nat)(K:A->Prop):aE->Prop
 | .live (.box l) lk=>z<=l.length/\mM l lk 0 z K
 |_=>False
def Yt{l:LA}:bL z (.t (.ax l off)) S K=(off+z<=l.length/\K (.t (.agg ((l.drop off).take z)))):=rfl
def Yu{r:Nat}:bL z (.ptr r off) S K=Ia off z K (S.roots r).cells:=by
 show(match(S.roots r).cells with
  |some (l,lk)=>off+z<=l.length/\mM l lk off z K
  |none=>False)=_
 unfold Ia;cases(S.roots r).cells<;>rfl
def Yv{r:Nat}:bL z (.own r) S K=N6 z K (S.roots r):=by
 show(match S.roots r with
  | .live (.box l) lk=>z<=l.length/\mM l lk 0 z K
  |_=>False)=_
 cases S.roots r with
 |live t lk=>cases t<;>rfl
 |_=>rfl
end
attribute [go_sem] Yq Yr Ys N5 X_ Ya H7 Yb H8 Yc Yd H9 Ye H_ Yf Yg Yh Yi N2 Yj HD Yk Yl Ym N3 Yn Yo Yp N4 Yt Yu Yv Ia N6 Option.getD_some
def aj.Yw(r o d:Nat){l:LA}{lk:List (Nat×Nat)}(hd:S.roots d= .live t [])(hr:(S.roots r).cells=some (l,lk))(hne:d≠r)(hc:l[o]? =some .any)(hlk:(o,d)∈lk):
  aj n S ⟨fun i=>sc d t (S.env i),ak (ak S.roots d .dead) r ((S.roots r).with (l.set o t.bB) (lk.filter fun p=>p.1<o||o+1<=p.1))⟩:=by
 intro X w0 O0 a w hs fp g;obtain⟨ho,ox⟩:=qK.1 hc;have dj:=g.root d;rw[hd]at dj;obtain⟨x,hx,yz,_⟩:=dj;have hsub:∀q b,b∈ak fp d [] q->q≠d/\b∈fp q:=fun q b hb=>by
  by_cases hq:q=d
  ·subst hq;rw[aT]at hb;simp at hb
  ·rw[aU _ _ _ _ hq]at hb;exact⟨hq,hb⟩
 have hO:∀b,¬Ob X fp b->b<w.heap.size->¬Ob X (ak fp d []) b:=fun b h _ h'=>by
  rcases h' with h'|⟨q,hq⟩
  ·exact h (.inl h')
  ·exact h (.inr ⟨q,(hsub q b hq).2⟩)
 have hk:∀p,jK p w w:=fun p _ _ _ _ _ h=>h;have jw:∀b∈fp d,¬Ob X (ak fp d []) b:=fun b hb h=>by
  rcases h with h|⟨q,hq⟩
  ·exact g.cV d b hb h
  ·obtain⟨h1,h2⟩:=hsub q b hq;exact h1 (g.cj q d b h2 hb)
 refine⟨hs,ak fp d [],g.size,g.defers,fun i=>?_,fun q=>?_,fun q q' b h h'=>g.cj q q' b (hsub q b h).2 (hsub q' b h').2,fun q=>?_,fun q b h=>g.cV q b (hsub q b h).2,g.de,g.fA,fun q b h=>g.mine q b (hsub q b h).2,g.aZ,fun q t' gL h=>?_,g.aV,g.small,g.ax⟩
 ·have hi:=g.env i;show Is w (Ob X (ak fp d [])) hs (sc d t (S.env i)) _;generalize S.env i=y at hi;cases y with
  |own q'=>
   simp only[sc];split
   ·rename_i he;subst he;have:=hi.gK;rw[hx,Option.some.injEq]at this;rw[←this];exact .t (yz.bB hO jw)
   ·exact hi.mono (hk _) hO (fun _ _ h=>h)
  |_=>exact hi.mono (hk _) hO (fun _ _ h=>h)
 ·show iG w _ hs (ak (ak S.roots d .dead) r _ q) (hs q) (ak fp d [] q);by_cases hq:q=r
  ·subst hq;rw[aT,aU _ _ _ _ (Ne.symm hne)];obtain⟨b,xr,cs,e,ar,AJ,mA,hb,hle,hf,kd,bw,hl,hmk⟩:=g.block hr ho;obtain⟨y,hy1,hy2⟩:=hl _ hlk;rw[hx]at hy2;cases hy2;have hcell:=pg hb (show o<cs.size by omega);rw[hcell]at hy1;cases hy1;rw[AJ,bw];refine hmk w _ _ cs _ _ _ hb rfl sA (sU hf) (fun i hi=>?_) (fun p hp=>hl p ((qV.1 hp).1));have hi':i<l.length:=sU hi;by_cases nk:o=i
   ·subst nk;simp only[List.getElem_set_self];have h1:=kd o ho;rw[ox]at h1;generalize ar.getD o []=f at h1;cases h1;exact .rd (yz.bB hO jw)
   ·simp only[List.getElem_set_ne nk];exact(kd i hi').mono (hk _) hO (hk _)
  ·rw[aU _ _ _ _ hq];by_cases jo:q=d
   ·subst jo;rw[aT,aT];rfl
   ·rw[aU _ _ _ _ jo,aU _ _ _ _ jo];exact g.rl q (hk _) hO (fun _ _ h=>h) rfl (fun b _=>rfl)
 ·by_cases hq:q=d
  ·subst hq;rw[aT];simp
  ·rw[aU _ _ _ _ hq];exact g.nodup q
 ·have h:ak (ak S.roots d .dead) r ((S.roots r).with (l.set o t.bB) (lk.filter fun p=>p.1<o||o+1<=p.1)) q= .live t' gL:=h;by_cases hq:q=r
  ·subst hq;rw[aT]at h;rcases aE.we hr with⟨s,h1⟩|h1<;>rw[h1]at h<;>cases h<;>rfl
  ·rw[aU _ _ _ _ hq]at h;by_cases jo:q=d
   ·subst jo;rw[aT]at h;cases h
   ·rw[aU _ _ _ _ jo]at h;exact g.b8 q t' gL h
def Yx{ar:LB}{f:LN}(ho:o<ar.length)(h0:ar.getD o []=[]):∃A B:LN,ar.flatten=A++B/\(ar.set o f).flatten=A++(f++B):=by
 refine⟨(ar.take o).flatten,(ar.drop (o+1)).flatten,?_,?_⟩
 ·conv=>lhs;rw[←List.take_append_drop o ar,List.drop_eq_getElem_cons ho]
  rw[qY,qZ];have:ar[o]=[]:=by rw[qA,qB ho]at h0;exact h0
  rw[this];rfl
 ·rw[List.set_eq_take_append_cons_drop,if_pos ho,qY,qZ]
def aj.close(r o d:Nat){l:LA}{lk:List (Nat×Nat)}(hd:S.roots d= .live t [])(hr:(S.roots r).cells=some (l,lk))(hne:d≠r)(hc:l[o]? =some .any)(hlk:(o,d)∈lk):
  aj n S ⟨S.env,ak (ak S.roots d .dead) r ((S.roots r).with (l.set o t) (lk.filter fun p=>p.1<o||o+1<=p.1))⟩:=by
 intro X w0 O0 a w hs fp g;obtain⟨ho,ox⟩:=qK.1 hc;have dj:=g.root d;rw[hd]at dj;obtain⟨x,hx,yz,_⟩:=dj;obtain⟨b,xr,cs,e,ar,AJ,mA,hb,hle,hf,kd,bw,hl,hmk⟩:=g.block hr ho;obtain⟨y,hy1,hy2⟩:=hl _ hlk;rw[hx]at hy2;cases hy2;have hcell:=pg hb (show o<cs.size by omega);rw[hcell]at hy1;cases hy1;have h0:ar.getD o []=[]:=by
  have h1:=kd o ho;rw[ox]at h1;generalize ar.getD o []=f at h1;cases h1;rfl
 obtain⟨A,B,e1,e2⟩:=Yx (f:=fp d) (show o<ar.length by omega) h0;have N7:=g.nodup r;rw[bw,e1]at N7;have aV:∀b'∈fp d,b'≠b/\b'∉A/\b'∉B:=fun b' hb'=>by
  have key:∀z∈fp r,z≠b':=fun z hz he=>by subst he;exact hne (g.cj d r z hb' hz)
  rw[bw,e1]at key;exact⟨fun h=>key b sA h.symm,fun h=>key b' (by simp[h]) rfl,fun h=>key b' (by simp[h]) rfl⟩
 let al:=ak (ak fp d []) r (b::(ar.set o (fp d)).flatten)
 have er:al r=b::(A++(fp d++B)):=by show ak _ _ _ _=_;rw[aT,e2]
 have ed:al d=[]:=by show ak _ _ _ _=_;rw[aU _ _ _ _ hne,aT]
 have eo:∀q,q≠r->q≠d->al q=fp q:=fun q h1 h2=>by show ak _ _ _ _=_;rw[aU _ _ _ _ h1,aU _ _ _ _ h2]
 have sub:∀q b',b'∈al q->(q=r/\(b'∈fp r∨b'∈fp d))∨(q≠r/\q≠d/\b'∈fp q):=fun q b' hq=>by
  by_cases h1:q=r
  ·subst h1;refine .inl ⟨rfl,?_⟩;rw[er]at hq;rw[bw,e1];simp only[qO,qI]at hq ⊢;rcases hq with h|h|h|h
   ·exact .inl (.inl h)
   ·exact .inl (.inr (.inl h))
   ·exact .inr h
   ·exact .inl (.inr (.inr h))
  ·by_cases h2:q=d
   ·subst h2;rw[ed]at hq;simp at hq
   ·rw[eo q h1 h2]at hq;exact .inr ⟨h1,h2,hq⟩
 have s7:Ob X al=Ob X fp:=funext fun b'=>propext ⟨fun h=>by
  rcases h with h|⟨q,hq⟩
  ·exact .inl h
  ·rcases sub q b' hq with⟨rfl,h|h⟩|⟨_,_,h⟩
   ·exact .inr ⟨_,h⟩
   ·exact .inr ⟨_,h⟩
   ·exact .inr ⟨_,h⟩,fun h=>by
  rcases h with h|⟨q,hq⟩
  ·exact .inl h
  ·refine .inr ?_;by_cases h1:q=r
   ·subst h1;refine⟨q,?_⟩;rw[er];rw[bw,e1]at hq;simp only[qO,qI]at hq ⊢;rcases hq with h|h|h
    ·exact .inl h
    ·exact .inr (.inl h)
    ·exact .inr (.inr (.inr h))
   ·by_cases h2:q=d
    ·subst h2;refine⟨r,?_⟩;rw[er];simp[hq]
    ·exact⟨q,by rw[eo q h1 h2];exact hq⟩⟩
 have back:∀q b',b'∈al q->∃q',b'∈fp q':=fun q b' h=>by
  rcases sub q b' h with⟨rfl,h|h⟩|⟨_,_,h⟩<;>exact⟨_,h⟩
 refine⟨hs,al,g.size,g.defers,fun i=>?_,fun q=>?_,fun q q' b' h h'=>?_,fun q=>?_,fun q b' h=>?_,g.de,g.fA,fun q b' h=>?_,g.aZ,fun q t' gL h=>?_,g.aV,g.small,g.ax⟩
 ·rw[s7];exact g.env i
 ·rw[s7];show iG w _ hs (ak (ak S.roots d .dead) r _ q) (hs q) (al q);by_cases hq:q=r
  ·subst hq;rw[aT,er,←e2,AJ];refine hmk w _ _ cs _ _ _ hb rfl sA (sU hf) (fun i hi=>?_) (fun p hp=>hl p (qV.1 hp).1);have hi':i<l.length:=sU hi;by_cases nk:o=i
   ·subst nk;simp only[List.getElem_set_self];rw[Ms om];exact yz
   ·simp only[List.getElem_set_ne nk];rw[Mt nk];exact kd i hi'
  ·rw[aU _ _ _ _ hq];by_cases jo:q=d
   ·subst jo;rw[aT,ed];rfl
   ·rw[aU _ _ _ _ jo,eo q hq jo];exact g.root q
 ·rcases sub q b' h with⟨rfl,h1⟩|⟨h1,h2,h3⟩<;>rcases sub q' b' h' with⟨rfl,cC⟩|⟨cC,bi,kG⟩
  ·rfl
  ·rcases h1 with h1|h1
   ·exact(cC (g.cj _ _ b' kG h1)).elim
   ·exact(bi (g.cj _ _ b' kG h1)).elim
  ·rcases cC with cC|cC
   ·exact(h1 (g.cj _ _ b' h3 cC)).elim
   ·exact(h2 (g.cj _ _ b' h3 cC)).elim
  ·exact g.cj _ _ b' h3 kG
 ·by_cases hq:q=r
  ·subst hq;rw[er];obtain⟨n1,n2⟩:=qX.1 N7;obtain⟨n3,n4,n5⟩:=rC.1 n2;refine qX.2 ⟨fun hm=>?_,rC.2 ⟨n3,rC.2 ⟨g.nodup d,n4,fun z hz z' rg e=>?_⟩,fun z hz z' rg e=>?_⟩⟩
   ·simp only[qI]at hm n1;rcases hm with h|h|h
    ·exact n1 (.inl h)
    ·exact(aV b h).1 rfl
    ·exact n1 (.inr h)
   ·subst e;exact(aV z hz).2.2 rg
   ·subst e;rcases qI.1 rg with h|h
    ·exact(aV z h).2.1 hz
    ·exact n5 z hz z h rfl
  ·by_cases jo:q=d
   ·subst jo;rw[ed];simp
   ·rw[eo q hq jo];exact g.nodup q
 ·obtain⟨q',h'⟩:=back q b' h;exact g.cV q' b' h'
 ·obtain⟨q',h'⟩:=back q b' h;exact g.mine q' b' h'
 ·have h:ak (ak S.roots d .dead) r ((S.roots r).with (l.set o t) (lk.filter fun p=>p.1<o||o+1<=p.1)) q= .live t' gL:=h;by_cases hq:q=r
  ·subst hq;rw[aT]at h;rcases aE.we hr with⟨s,h1⟩|h1<;>rw[h1]at h<;>cases h<;>rfl
  ·rw[aU _ _ _ _ hq]at h;by_cases jo:q=d
   ·subst jo;rw[aT]at h;cases h
   ·rw[aU _ _ _ _ jo]at h;exact g.b8 q t' gL h
def aj.N8(r:Nat){l:LA}(hr:(S.roots r).cells=some (l,[]))(hl0:0<l.length):
  aj n S ⟨S.env,ak S.roots r ((S.roots r).with (l.map T.bB) [])⟩:=by
 intro X w0 O0 a w hs fp g;obtain⟨b,xr,cs,e,ar,AJ,mA,hb,hle,hf,kd,bw,hl,hmk⟩:=g.block hr hl0;have hfl:(List.replicate l.length ([]:LN)).flatten=[]:=sA;have aK:(b::ar.flatten).Nodup:=by rw[←bw];exact g.nodup r
 have hsub:∀q c,c∈ak fp r [b] q->c∈fp q:=fun q c hc=>by
  by_cases hq:q=r
  ·subst hq;rw[aT]at hc;rw[bw];simp at hc;simp[hc]
  ·rwa[aU _ _ _ _ hq]at hc
 have hO:∀c,¬Ob X fp c->c<w.heap.size->¬Ob X (ak fp r [b]) c:=fun c h _ h'=>by
  rcases h' with h'|⟨q,hq⟩
  ·exact h (.inl h')
  ·exact h (.inr ⟨q,hsub q c hq⟩)
 have hk:∀p,jK p w w:=fun p _ _ _ _ _ h=>h;have jw:∀c∈ar.flatten,¬Ob X (ak fp r [b]) c:=fun c hc h=>by
  have DW:c∈fp r:=by rw[bw];exact rH _ hc
  rcases h with h|⟨q,hq⟩
  ·exact g.cV r c DW h
  ·by_cases Ib:q=r
   ·subst Ib;rw[aT]at hq;simp at hq;subst hq;exact(qX.1 aK).1 hc
   ·rw[aU _ _ _ _ Ib]at hq;exact Ib (g.cj q r c hq DW)
 refine⟨hs,ak fp r [b],g.size,g.defers,fun i=>?_,fun q=>?_,fun q q' c h h'=>g.cj q q' c (hsub q c h) (hsub q' c h'),fun q=>?_,fun q c h=>g.cV q c (hsub q c h),g.de,g.fA,fun q c h=>g.mine q c (hsub q c h),g.aZ,fun q t' gL h'=>?_,g.aV,g.small,g.ax⟩
 ·exact(g.env i).mono (hk _) hO (fun _ _ h=>h)
 ·show iG w _ hs (ak S.roots r _ q) (hs q) (ak fp r [b] q);by_cases hq:q=r
  ·subst hq;rw[aT,aT,AJ];have:=hmk w (Ob X (ak fp q [b])) hs cs (l.map T.bB) (List.replicate l.length []) [] hb rfl sA sA (fun i hi=>?_) (fun p hp=>by simp at hp)
   ·rwa[hfl]at this
   ·have hi':i<l.length:=sU hi;have e3:(List.replicate l.length ([]:LN)).getD i []=[]:=by
     rw[qA,rM,if_pos hi'];rfl
    rw[e3];simp only[rQ];refine .rd ((kd i hi').bB hO fun c hc=>jw c ?_);rw[qA,qB om]at hc;exact rY.2 ⟨_,rJ om,hc⟩
  ·rw[aU _ _ _ _ hq,aU _ _ _ _ hq];exact g.rl q (hk _) hO (fun _ _ h=>h) rfl (fun b _=>rfl)
 ·by_cases hq:q=r
  ·subst hq;rw[aT];simp
  ·rw[aU _ _ _ _ hq];exact g.nodup q
 ·have h:ak S.roots r ((S.roots r).with (l.map T.bB) []) q= .live t' gL:=h';by_cases hq:q=r
  ·subst hq;rw[aT]at h;rcases aE.we hr with⟨s,h1⟩|h1<;>rw[h1]at h<;>cases h<;>rfl
  ·rw[aU _ _ _ _ hq]at h;exact g.b8 q t' gL h
def Yy(s:Nat)(l:LA):(T.sh s l).bB= .sh s l:=rfl
attribute [go_sem] eS.eq_19 cu.eq_31 Yy
def aj.N9(d:Nat){l:LA}(h:S.env d= .agg (l.map A.t)):aj n S ⟨ak S.env d (.t (.agg l)),S.roots⟩:=by
 intro X w0 O0 a w hs fp g;refine⟨hs,fp,g.size,g.defers,fun i=>?_,g.root,g.cj,g.nodup,g.cV,g.de,g.fA,g.mine,g.aZ,g.b8,g.aV,g.small,g.ax⟩;have hi:=g.env i;by_cases hd:i=d
 ·subst hd;show Is w (Ob X fp) hs (ak S.env i (.t (.agg l)) i) _;rw[aT];rw[h]at hi;obtain⟨vs,hv,hl,hr⟩:=hi.CX;rw[hv];refine .t (.agg l vs (sU hl) fun j hj=>?_);have:=hr j (sU hj);rw[rQ]at this;cases this with
  |t h=>exact h
 ·show Is w (Ob X fp) hs (ak S.env d (.t (.agg l)) i) _;rw[aU _ _ _ _ hd];exact hi
structure Ext(w w':World):Prop where
 size:w.heap.size<=w'.heap.size
 same:∀c,c<w.heap.size->w'.heap[c]? =w.heap[c]?
 os:w'.os=w.os
 tape:w'.tape=w.tape
 output:w'.output=w.output
structure N_(b:Nat)(w w':World):Prop where
 size:w.heap.size<=w'.heap.size
 same:∀c,c<w.heap.size->c≠b->w'.heap[c]? =w.heap[c]?
 os:w'.os=w.os
 tape:w'.tape=w.tape
 output:w'.output=w.output
def Iter(P:Program)(gf:FuncId)(cap:LA)(ys:LA):Prop:=
 ∀(O:NP) (w:World) (cK:LV),cK.length=cap.length->(∀i (h:i<cap.length),Rd w O cap[i] (cK.getD i undef))→
 ∀(l:Nat) (J:Nat->Nat->World->Prop) (Jx:World->Prop),
  (∀W b,w.heap.size<=b->b<W.heap.size->Ext w W->J b 0 W)→
  (∀b i W W',J b i W->N_ b W W'->J b i W')→
  (∀b i W v (h:i<ys.length),J b i W->w.heap.size<=b->Rd W (fun c=>c≠b) ys[i] v->YieldAt Fence.wide 0 P l #[v] W fun e W'=>
   (e= .returned (.bool true)/\J b (i+1) W'/\W.heap.size<=W'.heap.size/\W'.heap[b]? =W.heap[b]? /\∀k (h:k<cap.length),Rd W' (fun c=>c=b) cap[k] (cK.getD k undef))∨(e= .returned (.bool false)/\Jx W'))→
  Calls P gf (#[.func (.yield l) #[] #[]]++cK.toArray) w fun e W'=>(∃v,e= .returned v)/\((∃b,J b ys.length W')∨Jx W')
section
variable {P:Program} {X:NP} {w0:World} {O0:Fr} {n:Nat} {S:St} {a:Act} {w:World} {hs:NV} {fp:NL}
def Good.world(g:Good X w0 O0 n S a w hs fp){w' AK:World}{a':Act}(ht:a'.tmps=a.tmps)(hk:jK (fun b=>¬Ob X fp b) w w')(mH:∀r,∀b∈fp r,w'.heap[b]? =w.heap[b]?)(hX:∀b,X' b->X b∨w.heap.size<=b)(se:∀b,X' b->b<w'.heap.size)(Yz:∀b,X' b->b<AK.heap.size->¬O0 b)(hh:Mh AK O0 w')(YA:∀r b,b∈fp r->O0 b∨AK.heap.size<=b)(hm:lf O0.aL O0.own a'.defers AK w'):Good X' AK O0 n S a' w' hs fp:=by
 have hO:∀b,¬Ob X fp b->b<w.heap.size->¬Ob X' fp b:=by
  rintro b h1 h2 (h|h)
  ·rcases hX b h with h|h
   ·exact h1 (.inl h)
   ·omega
  ·exact h1 (.inr h)
 exact⟨by rw[ht];exact g.size,hm,fun i=>by rw[ht];exact(g.env i).mono hk hO (fun _ _ h=>h),fun r=>g.rl r hk hO (fun _ _ h=>h) rfl (mH r),g.cj,g.nodup,fun r b h h'=>by
   rcases hX b h' with h1|h1
   ·exact g.cV r b h h1
   ·have:=g.lt h;omega,se,Yz,YA,hh,g.b8,g.aV,g.small,g.ax⟩
def Good.enter(g:Good X w0 O0 n S a w hs fp)(DX:∀c,X' c->X c){ai au:LN}(dL:ai.Nodup)(hsrc:gB S ai aH)(dk:∀q∈au,q∉ai):
  ∃(Xc:NP) (hsc:NV) (bS:NL),(∀c,Xc c↔X' c∨∃q,q∉ai/\q∉au/\c∈fp q)/\(∀i q,ai[i]? =some q->hsc (1000000000+i)=hs q)/\(∀j b,b∈bS j->∃q,q∈ai/\b∈fp q)/\Mem Xc w aH hsc bS∧
   ∀(x y:A) {v:Value},va S ai au x y->Is w (Ob X fp) hs y v->Is w (Ob Xc bS) hsc x v:=by
 obtain⟨dy,px⟩:=uC hsrc;let Xc:NP:=fun b=>X' b∨∃q,q∉ai/\q∉au/\b∈fp q
 let hsc:NV:=fun r=>if 1000000000<=r then(ai[r-1000000000]?).bind hs else none
 let bS:NL:=fun r=>if 1000000000<=r then((ai[r-1000000000]?).map fp).getD []else []
 have iV:∀i q,ai[i]? =some q->hsc (1000000000+i)=hs q:=fun i q h=>by
  simp only[hsc];rw[if_pos om,Nat.add_sub_cancel_left,h];rfl
 have Hv:∀i q,ai[i]? =some q->bS (1000000000+i)=fp q:=fun i q h=>by
  simp only[bS];rw[if_pos om,Nat.add_sub_cancel_left,h];rfl
 have wF:∀j b,b∈bS j->∃i q,ai[i]? =some q/\j=1000000000+i/\b∈fp q:=fun j b hb=>by
  simp only[bS]at hb;split at hb
  ·cases hq:ai[j-1000000000]? with
   |none=>rw[hq]at hb;simp at hb
   |some q=>rw[hq]at hb;exact⟨j-1000000000,q,hq,om,sU hb⟩
  ·simp at hb
 have ir:∀j b,b∈bS j->∃q,q∈ai/\b∈fp q:=fun j b hb=>by
  obtain⟨i,q,h1,_,h2⟩:=wF j b hb;exact⟨q,qE h1,h2⟩
 have Hw:∀b,Ob Xc bS b->Ob X fp b:=by
  rintro b ((h|⟨q,_,_,h⟩)|⟨j,hj⟩)
  ·exact .inl (DX b h)
  ·exact .inr ⟨q,h⟩
  ·obtain⟨q,_,h⟩:=ir j b hj;exact .inr ⟨q,h⟩
 have yl:∀b,¬Ob X fp b->b<w.heap.size->¬Ob Xc bS b:=fun b h _ h2=>h (Hw b h2);have Hy:∀q∈au,∀b∈fp q,¬Ob Xc bS b:=by
  rintro q hq b hb ((h|⟨q',h1,h2,h3⟩)|⟨j,hj⟩)
  ·exact g.cV q b hb (DX b h)
  ·have:=g.cj q q' b hb h3;exact h2 (this▸hq)
  ·obtain⟨q',h1,h2⟩:=ir j b hj;have:=g.cj q q' b hb h2;exact dk q hq (this▸h1)
 refine⟨Xc,hsc,bS,fun c=>Iff.rfl,iV,ir,?_,fun x y v h hx=>M9 (hs':=hsc) g yl Hy iV x y h hx⟩;refine⟨fun i t hi=>?_,fun r hr=>?_,fun r r' b h h'=>?_,fun r=>?_,fun r b h=>?_,fun b h=>?_,fun r y h=>?_⟩
 ·obtain⟨bq,rfl⟩:=qK.1 hi;have hq:=qB (l:=ai) (i:=i) om;have dj:=g.root ai[i];have kl:=px i om bq;rw[kl]at dj;obtain⟨x,hx,ho',_⟩:=dj;refine⟨x,by rw[iV i _ hq];exact hx,?_,g.b8 _ _ _ kl⟩;rw[Hv i _ hq];exact ho'.mono (fun _ _ _ _ _ h=>h) yl (fun _ _ _ _ _ h=>h)
 ·simp only[hsc,bS];by_cases h1:1000000000<=r
  ·rw[if_pos h1,if_pos h1,qP om];exact⟨rfl,rfl⟩
  ·rw[if_neg h1,if_neg h1];exact⟨rfl,rfl⟩
 ·obtain⟨i,q,h1,rfl,h2⟩:=wF r b h;obtain⟨i',q',cC,rfl,bi⟩:=wF r' b h';have:=g.cj q q' b h2 bi;subst this;obtain⟨hi1,e1⟩:=qK.1 h1;obtain⟨hi2,e2⟩:=qK.1 cC;rcases Nat.lt_trichotomy i i' with h|h|h
  ·exact(List.pairwise_iff_getElem.1 dL i i' hi1 hi2 h (e1.trans e2.symm)).elim
  ·rw[h]
  ·exact(List.pairwise_iff_getElem.1 dL i' i hi2 hi1 h (e2.trans e1.symm)).elim
 ·simp only[bS];split
  ·cases ai[r-1000000000]? with
   |none=>simp
   |some q=>simpa using g.nodup q
  ·simp
 ·rintro(hX|⟨q',h1,_,h3⟩)
  ·obtain⟨q,_,h2⟩:=ir r b h;exact g.cV q b h2 (DX b hX)
  ·obtain⟨q,hq,h2⟩:=ir r b h;have:=g.cj q q' b h2 h3;exact h1 (this▸hq)
 ·rcases h with h|⟨q,_,_,h⟩
  ·exact g.de b (DX b h)
  ·exact g.lt h
 ·simp only[hsc]at h;split at h
  ·cases hq:ai[r-1000000000]? with
   |none=>rw[hq]at h;cases h
   |some q=>rw[hq]at h;exact g.aV q y h
  ·cases h
def Oa{O:NP}{f:Nat->Value}:∀(l:List (Nat×A)),(∀s∈l,Is w O hs s.2 (f s.1))->∀i,Is w O hs (je l i) (f i)
 |[],_,i=>.t (.any _)
 |s::l,h,i=>by
  show Is w O hs (ak (je l) s.1 s.2 i) (f i);rw[v_];split
  ·rename_i e;rw[e];exact h s sA
  ·exact Oa l (fun s hs=>h s (by simp[hs])) i
def Mem.good{aL:Prop}(hm:Mem X w aH hs fp)(hsz:tm.size=n)(bV:n<=100000){l:List (Nat×A)}(he:∀s∈l,Is w (Ob X fp) hs s.2 (tm.getD s.1 undef)):
  Good X w ⟨fun b=>∃j,b∈fp j,hs,aL⟩ n (St.of l (enum 1000000000 aH)) {tmps:=tm,defers:=[]} w hs fp:=by
 refine⟨hsz,lf.nil _ _ _ _,fun i=>Oa (f:=fun i=>tm.getD i undef) l he i,fun r=>?_,hm.cj,hm.nodup,hm.cV,hm.de,fun b hX _ ⟨j,hj⟩=>hm.cV j b hj hX,fun r b hb=>.inl ⟨r,hb⟩,⟨rfl,rfl,rfl,qR _,fun _ _ _=>rfl⟩,fun r t lk hr=>?_,hm.aV,bV,fun _ _ _ h=>h⟩
 ·show iG _ _ _ (eL (enum 1000000000 aH) r) _ _;rw[Ao];by_cases b9:1000000000<=r
  ·rw[if_pos b9];by_cases hr:r-1000000000<aH.length
   ·rw[qB hr];obtain⟨x,hx,ho,bv⟩:=hm.root (r-1000000000) _ (qB hr);rw[show 1000000000+(r-1000000000)=r by omega]at hx ho;exact⟨x,hx,ho,fun p hp=>by simp at hp⟩
   ·rw[qP om];exact hm.none r (.inr om)
  ·rw[if_neg b9];exact hm.none r (.inl om)
 ·have hr:eL (enum 1000000000 aH) r= .live t lk:=hr;rw[Ao]at hr;split at hr
  ·split at hr
   ·rename_i t' ht;cases hr;obtain⟨_,_,_,bv⟩:=hm.root _ _ ht;exact bv
   ·cases hr
  ·cases hr
def kq(S:St)(ai:LN)(aA:LA):St:={env:=S.env,roots:=gp S.roots ai aA}
def xc{p:Nat}{v:Value}{s:Nat}(h:s≠p):(tm.setIfInBounds p v).getD s Go.undef=tm.getD s Go.undef:=by
 rw[qC,qC,Array.getElem?_setIfInBounds_ne (Ne.symm h)]
def AL{p:Nat}{v:Value}(h:p<tm.size):(tm.setIfInBounds p v).getD p Go.undef=v:=by
 rw[qC,Array.getElem?_setIfInBounds_self_of_lt h];rfl
def Good.caps(g:Good X w0 O0 n S a w hs fp){f:Operand}{gf:Nat}{cap:LA}(hf:gY (S.ev f)=some (gf,cap.map A.t)):∃cK:LV,a.eval f= .func (.func gf) #[] cK.toArray/\cK.length=cap.length/\∀i (h:i<cap.length),Rd w (Ob X fp) cap[i] (cK.getD i Go.undef):=by
 have h:=Ng hf (g.ev f);generalize a.eval f=v at h;cases h with
 |fn hl hr=>
  refine⟨_,rfl,sU hl,fun i h=>?_⟩;have:=hr i (sU h);rw[rQ]at this;cases this with|t h=>exact h
def Good.Oc(g:Good X w0 O0 n S a w hs fp){f:Operand}{gf:Nat}{cap:LA}(hf:gY (S.ev f)=some (gf,cap.map A.t)){cK:LV}(hv:a.eval f= .func (.func gf) #[] cK.toArray):∀i (h:i<cap.length),Rd w (Ob X fp) cap[i] (cK.getD i Go.undef):=by
 obtain⟨YB,h1,h2,h3⟩:=g.caps hf;rw[hv]at h1;have:cK=YB:=by
  injection h1 with _ _ h;exact List.toArray_inj h
 rw[this];exact h3
def Good.ext(g:Good X w0 O0 n S a w hs fp){w':World}(hx:Ext w w')(hX:∀b,X' b->X b∨(w.heap.size<=b/\b<w'.heap.size)):Good X' w0 O0 n S a w' hs fp:=
 g.world rfl (fun c cs e fz _ hc=>(hx.same c (qF.1 hc).1).trans hc) (fun r c hc=>hx.same c (g.lt hc)) (fun c h=>(hX c h).imp id And.left) (fun c h=>by
   rcases hX c h with h|h
   ·exact Nat.lt_of_lt_of_le (g.de c h) hx.size
   ·exact h.2) (fun c h hc=>by
   rcases hX c h with h|h
   ·exact g.fA c h hc
   ·have:=g.aZ.size;omega) ⟨hx.os.trans g.aZ.os,hx.tape.trans g.aZ.tape,hx.output.trans g.aZ.output,rA g.aZ.size hx.size,fun c hc hn=>(hx.same c (Nat.lt_of_lt_of_le hc g.aZ.size)).trans (g.aZ.block c hc hn)⟩ g.mine (g.defers.keep fun D _ h=>(hx.same D (qF.1 h).1).trans h)
def Good.record(g:Good X w0 O0 n S a w hs fp)(Ic:∀c,X' c->X c){l:Nat}{r1:Loop}(hl:w.heap[l]? =some (.loop r1))(hl0:w0.heap.size<=l)(se:X l)(o:Obj):Good X' w0 O0 n S a (w.putObj l o) hs fp:=by
 have hsame:∀c,c≠l->(w.putObj l o).heap[c]? =w.heap[c]? :=fun c hc=>World.putObj_heap_other hc;refine g.world rfl (fun b cs e fz hn hb=>?_) (fun r b hb=>hsame b fun e=>g.cV r b hb (e▸se)) (fun b h=>.inl (Ic b h)) (fun b h=>by rw[World.putObj_size];exact g.de b (Ic b h)) (fun b h hb=>g.fA b (Ic b h) hb)
  ⟨g.aZ.os,g.aZ.tape,g.aZ.output,by rw[World.putObj_size];exact g.aZ.size,fun b hb hn=>(hsame b om).trans (g.aZ.block b hb hn)⟩ g.mine (g.defers.keep fun D hD h=>?_)
 ·rw[hsame b fun e=>hn (.inl (e▸se))];exact hb
 ·rw[hsame D fun e=>by rw[e,hl]at h;cases h];exact h
def Od(g:Good X w0 O0 n S a w hs fp){ro:Option Nat}(hro:oa ro w0 O0)(hmk:ro=none->O0.aL)(fn:FuncId)(p:Nat)(ca cb:Code):∃(l:Nat) (mark:List Deferred) (w2:World) (rec:Loop),(Instr.enterLoop fn a.tmps #[p] ca cb (rF ro).round).run P w= .ok (l,mark) w2∧
   (rec.state= .ready/\rec.pending=none/\rec.fn=fn/\rec.tmps=a.tmps/\rec.params=#[p]/\rec.assign=ca/\rec.body=cb)/\w2.heap[l]? =some (.loop rec)/\Ext w w2/\w.heap.size<=l/\l<w2.heap.size/\lf O0.aL O0.own (mark++a.defers) w0 w2:=by
 cases ro with
 |none=>
  refine⟨w.heap.size+1,_,_,{state:=.ready,pending:=none,fn:=fn,tmps:=a.tmps,params:=#[p],assign:=ca,body:=cb,defers:=w.heap.size},run_enterLoop_outer (P:=P) (w:=w) fn a.tmps #[p] ca cb,⟨rfl,rfl,rfl,rfl,rfl,rfl,rfl⟩,?_,⟨by simp;omega,fun c hc=>?_,rfl,rfl,rfl⟩,om,sA,?_⟩
  ·have:=World.alloc_heap_new (w.alloc (.deferred (some []))) (.loop {state:=.ready,pending:=none,fn,tmps:=a.tmps,params:=#[p],assign:=ca,body:=cb,defers:=w.heap.size});rwa[World.size_alloc]at this
  ·show((w.heap.push _).push _)[c]? =_;rw[Array.getElem?_push_lt (by simp;omega),Array.getElem_push_lt hc,Array.getElem?_eq_getElem hc]
  ·obtain⟨Ds,h1,h2,h3,_⟩:=g.defers;have hnew:∀D∈Ds,D<w.heap.size:=fun D hD=>(qF.1 (h3 D hD).2).1;refine⟨w.heap.size::Ds,qX.2 ⟨fun h=>by have:=hnew _ h;omega,h1⟩,by rw[h2];rfl,fun D hD=>?_,fun h=>(h (hmk rfl)).elim⟩;rcases qO.1 hD with rfl|hD
   ·refine⟨.inl g.aZ.size,?_⟩;show((w.heap.push _).push _)[w.heap.size]? =_;rw[Array.getElem?_push_lt sA];simp
   ·refine⟨(h3 D hD).1,?_⟩;have hlt:=hnew D hD;show((w.heap.push _).push _)[D]? =_;rw[Array.getElem?_push_lt (by simp;omega),Array.getElem_push_lt hlt,←Array.getElem?_eq_getElem hlt];exact(h3 D hD).2
 |some l0=>
  obtain⟨q1,q2,r0,q3⟩:=hro l0 rfl;have q4:=(g.aZ.block l0 q1 q2).trans q3;refine⟨w.heap.size,_,_,{state:=.ready,pending:=none,fn:=fn,tmps:=a.tmps,params:=#[p],assign:=ca,body:=cb,defers:=r0.defers},run_enterLoop_inner (P:=P) q4 fn a.tmps #[p] ca cb,⟨rfl,rfl,rfl,rfl,rfl,rfl,rfl⟩,World.alloc_heap_new _ _,⟨sA,fun c hc=>?_,rfl,rfl,rfl⟩,qR _,sA,?_⟩
  ·show(w.heap.push _)[c]? =_;rw[Array.getElem?_push_lt hc,Array.getElem?_eq_getElem hc]
  ·refine g.defers.keep fun D _ hD=>?_;have hlt:=(qF.1 hD).1;show(w.heap.push _)[D]? =_;rw[Array.getElem?_push_lt hlt,←Array.getElem?_eq_getElem hlt];exact hD
end
section
variable {P:Program} {w0:World} {O0:Fr} {n:Nat} {a:Act}
def DY(Q:Exit->St->Prop)(j:Code)(S':St):Prop:=(j= .ret/\Q .ret S')∨∃id,j= .exit id/\Q (.exit id) S'
end
end Go.Ab
