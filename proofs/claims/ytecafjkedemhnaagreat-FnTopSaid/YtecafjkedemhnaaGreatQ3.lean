import Derived.Test.YtecafjkedemhnaaGreatQ2
set_option maxRecDepth 20000
set_option linter.all false
namespace Go.Ab
variable{o:Oper}{ca code:Code}{ops:Array Oper}{f x:Operand}{d n p q s4:Nat}{Q:Exit->Act->World->Prop}{cap aH:LA}{w w0:World}{O0:Fr}{yv:Value}{ro:Option Nat}{ds ai:LN}{l:List (DK×CI)}{fn gf:FuncId}{X':NP}{t:T}{K:Act->World->Prop}{fG:LB}
section
variable {P:Program} {n:Nat} {H:Hints}
def yA{a b:CC}(h:dg P n H code=some (.seq a b)):∃x y,code= .seq x y/\dg P n H x=some a/\dg P n H y=some b:=by
 unfold dg at h;split at h<;>(try split at h)<;>(try split at h)<;>(try cases h);exact⟨_,_,rfl, ‹_›, ‹_›⟩
def Oe{a b:CC}(h:dg P n H code=some (.cond x a b)):∃y z,code= .cond x y z/\dg P n H y=some a/\dg P n H z=some b:=by
 unfold dg at h;split at h<;>(try split at h)<;>(try split at h)<;>(try cases h);exact⟨_,_,rfl, ‹_›, ‹_›⟩
def Of{i:Nat}{a:CC}(h:dg P n H code=some (.block i a)):∃x,code= .block i x/\dg P n H x=some a:=by
 unfold dg at h;split at h<;>(try split at h)<;>(try split at h)<;>(try cases h);exact⟨_,rfl, ‹_›⟩
def Og{a:CC}(h:dg P n H code=some (.loop a)):∃x,code= .loop x/\dg P n H x=some a:=by
 unfold dg at h;split at h<;>(try split at h)<;>(try split at h)<;>(try cases h);exact⟨_,rfl, ‹_›⟩
def YC(h:dg P n H code=some .skip):code= .skip:=by
 unfold dg at h;split at h<;>(try split at h)<;>(try split at h)<;>(try cases h);rfl
def YD{i:Nat}(h:dg P n H code=some (.exit i)):code= .exit i:=by
 unfold dg at h;split at h<;>(try split at h)<;>(try split at h)<;>(try cases h);rfl
def YE{l:List CI}(h:dg P n H code=some (.aN l)):∃id ops,code= .region id ops false/\gZ P n ops ops.toList=some l:=by
 unfold dg at h;split at h<;>(try split at h)<;>(try split at h)<;>(try cases h);exact⟨_,_,rfl, ‹_›⟩
def AM{c:CO}(h:jP P n ops o=some (.o c)):og P n o=some c/\o.guard=none:=by
 unfold jP at h;split at h<;>(try split at h)<;>(try split at h)<;>(try split at h)<;>(try split at h)<;>(try cases h);exact⟨‹_›, ‹_›⟩
def Oh{d:Option Nat}{c:Call}{d':Nat}{as:List Operand}(h:ru P d c=some (.call (some d') f as)):d=some d'/\c.callee= .value f/\c.args.toList=as:=by
 unfold ru at h;split at h<;>(repeat' split at h)<;>(try cases h);exact⟨rfl, ‹_›,rfl⟩
def DZ{as:List Operand}(h:og P n o=some (.call (some d) f as)):o.dst=some d/\∃c,o.op= .call c/\c.callee= .value f/\c.args.toList=as:=by
 unfold og at h;split at h
 ·rename_i d0 jw;split at h
  ·cases hc:pC P d0 o.op with
   |none=>rw[hc]at h;cases h
   |some c'=>
    rw[hc]at h;simp only[Option.getD_some,Option.some.injEq]at h;subst h;generalize hop:o.op=op at hc;unfold pC at hc;split at hc<;>(try cases hc)<;>(repeat' split at hc)<;>(try cases hc);obtain⟨h1,h2,h3⟩:=Oh hc;cases h1;exact⟨jw,_,rfl,h2,h3⟩
  ·cases h
 ·cases hc:rx P o.op with
  |none=>rw[hc]at h;cases h
  |some c'=>
   rw[hc]at h;simp only[Option.getD_some,Option.some.injEq]at h;subst h;generalize hop:o.op=op at hc;unfold rx at hc;split at hc<;>(try cases hc)<;>(repeat' split at hc)<;>(try cases hc);obtain⟨h1,_⟩:=Oh hc;cases h1
def Ie(h:og P n o=some (.move d x)):o.dst=some d/\(o.op= .move x∨o.op= .assign x):=by
 unfold og at h;split at h
 ·rename_i d0 jw;split at h
  ·cases hc:pC P d0 o.op with
   |none=>rw[hc]at h;cases h
   |some c'=>
    rw[hc]at h;simp only[Option.getD_some,Option.some.injEq]at h;subst h;generalize hop:o.op=op at hc;unfold pC at hc;split at hc<;>(try cases hc)<;>(repeat' split at hc)<;>(try cases hc)
    ·exact⟨jw,.inl rfl⟩
    ·exact⟨jw,.inr rfl⟩
    ·unfold ru at hc;split at hc<;>(repeat' split at hc)<;>(try cases hc)
  ·cases h
 ·cases hc:rx P o.op with
  |none=>rw[hc]at h;cases h
  |some c'=>
   rw[hc]at h;simp only[Option.getD_some,Option.some.injEq]at h;subst h;generalize hop:o.op=op at hc;unfold rx at hc;split at hc<;>(try cases hc)<;>(repeat' split at hc)<;>(try cases hc);unfold ru at hc;split at hc<;>(repeat' split at hc)<;>(try cases hc)
def run_move(h:og P n o=some (.move d x))(ρ:Operand->Value)(w:World):(execOp ρ o).run P w= .ok (.value (ρ x)) w:=by
 rcases(Ie h).2 with h|h<;>simp[execOp,h,Sem.run_pure]
def Oi{y:Operand}(h:og P n o=some (.call (some d) f [y])){ρ:Operand->Value}{l:Nat}(hf:ρ f= .func (.yield l) #[] #[]){tm:Array Value}{as bd:Code}(hy:(Instr.yield l #[ρ y]).run P w= .ok (.round l fn tm as bd) w):
  (execOp ρ o).run P w= .ok (.round l fn tm as bd) w:=by
 obtain⟨hd,c,hc,h1,h2⟩:=DZ h;have h3:c.args=#[y]:=by rw[←Array.toArray_toList (xs:=c.args),h2]
 simp only[execOp,hc,resolve,h1,h3,hf,Deferred.ofValue,Sem.run_bind,Sem.run_pure,Result.andThen_ok,invoke];simpa using hy
def YF{σ:Type}{F:Fence}{c:Code}{m0:Nat}(Inv:σ->Act->World->Prop)(μ:σ->Nat){a:Act}(s0:σ)(h0:Inv s0 a w)(round:∀s a w,Inv s a w->c.wpIn F m0 P (Exit.then (fun a' w'=>∃s',Inv s' a' w'/\μ s'<μ s) Q) a w):(Code.loop c).wpIn F m0 P Q a w:=by
 intro b k cs fk cD iq;have key:∀m s a w,μ s=m->Inv s a w→
   ∃e a' w',Q e a' w'/\ArrivesIn (Machine.fenced P F) P (lone (b.atR a (.code c:: .inLoop c::k)) cs w) b k cs e a' w':=by
  intro m;induction m using Nat.strongRecOn with
  |_ m ih=>
   intro s a w hm hi;obtain⟨e,a₁,w₁,q,gX⟩:=round s a w hi b (.inLoop c::k) cs fk cD iq;cases e with
   |normal=>
    obtain⟨s',hi',hlt⟩:=q;obtain⟨e₂,a₂,w₂,Dh,Ak⟩:=ih (μ s') (hm▸hlt) s' a₁ w₁ rfl hi';exact⟨e₂,a₂,w₂,Dh,.of_steps (StepsIn.trans gX (.one (fenced_calm cD iq rfl) stepR_inLoop)) Ak⟩
   |exit id=>exact⟨_,a₁,w₁,q,.pass (x:=.inLoop c) rfl (fun _ _=>.inl sA) gX⟩
   |goto l=>exact⟨_,a₁,w₁,q,.pass (x:=.inLoop c) rfl (fun _ _=>.inl sA) gX⟩
   |ret=>exact⟨_,a₁,w₁,q,.pass (x:=.inLoop c) rfl (fun _ _=>.inl sA) gX⟩
   |panic ch=>exact⟨_,a₁,w₁,q,.pass (x:=.inLoop c) rfl (fun _ _=>.inl sA) gX⟩
   |outgrown=>exact⟨_,a₁,w₁,q,.pass (x:=.inLoop c) rfl (fun _ _=>.inl sA) gX⟩
 obtain⟨e,a',w',hq,gX⟩:=key _ s0 a w rfl h0;exact⟨e,a',w',hq,.of_steps (.one (fenced_calm cD iq rfl) stepR_loop) gX⟩
def tx(yv:Value)(cap:LA)(s4 q:Nat)(c:LI):St:=St.of (enum 0 (A.v yv::cap.map A.t)++[(s4,.own q)]) [(q,.arr 1 (c.map T.i))]
def D4(n:Nat)(yv:Value)(cap:LA)(s4:Nat)(cs:LL):Exit->St->Prop
 | .normal,S=>∃q c0 l,cs=c0::l/\aj n S (tx yv cap s4 q c0)
 | .ret,S=>cs=[]/\∃q c0,c0≠ []/\aj n S (tx yv cap s4 q c0)
 |_,_=>False
def YG(n:Nat)(yv:Value)(cap:LA)(s4:Nat)(cs:LL)(j:Nat):Exit->St->Prop
 | .normal,S=>∃c',cs[j+1]? =some c'/\aj n S (tx yv cap s4 1000000000 c')
 | .ret,_=>j+1=cs.length
 |_,_=>False
def AN{α:Type}:∀{l:List α} {k:Nat} {p:Nat×α},p∈enum k l->∃i,∃h:i<l.length,p=(k+i,l[i])
 |[],k,p,h=>by simp[enum]at h
 |x::l,k,p,h=>by
  rcases qO.1 h with rfl|h
  ·exact⟨0,sA,rfl⟩
  ·obtain⟨i,hi,rfl⟩:=AN h;exact⟨i+1,sU hi,by simp only[List.getElem_cons_succ];rw[show k+1+i=k+(i+1) by omega]⟩
def YH{l l':List (Nat×A)}{i:Nat}(h:∀p∈l,p.1≠i):je (l++l') i=je l' i:=by
 induction l with
 |nil=>rfl
 |cons p l ih=>
  show ak (je (l++l')) p.1 p.2 i=_;rw[aU _ _ _ _ (Ne.symm (h p sA)),ih fun p hp=>h p (by simp[hp])]
def YI{c:LI}(hs4:cap.length<s4):(tx yv cap s4 q c).env s4= .own q:=by
 show je (enum 0 _++_) s4=_;rw[YH fun p hp=>by
  obtain⟨i,hi,rfl⟩:=AN hp;simp at hi ⊢;omega]
 show ak _ s4 _ s4=_;rw[aT]
structure mQ(W:World)(v:Value)(b:Nat)(c:LI):Prop where
 ex:∃len cp cells e,v= .slice (some ⟨b,0,none⟩) len cp/\W.heap[b]? =some (.cells cells e (0,0))/\c.length=len/\len<=cp/\cp<=maxLen/\cells.size=cp/\∀i (h:i<c.length),cells.getD i Go.undef= .int .i64 c[i]
def Oj{X:NP}{a:Act}{W:World}{hs:NV}{fp:NL}{c:LI}(g:Good X w0 O0 n (tx yv cap s4 q c) a W hs fp)(hs4:cap.length<s4)(hc:c≠ []):
  ∃b,mQ W (a.tmps.getD s4 Go.undef) b c/\hs q=some (a.tmps.getD s4 Go.undef)/\b∈fp q:=by
 have h1:=g.env s4;rw[YI hs4]at h1;have h2:=h1.gK;have h3:=g.root q;have e:(tx yv cap s4 q c).roots q= .live (.arr 1 (c.map T.i)) []:=by
  show ak _ q _ q=_;rw[aT]
 rw[e]at h3;obtain⟨x,hx,ho,_⟩:=h3;rw[h2]at hx;have hx:=Option.some.inj hx;rw[h2,hx];generalize hfq:fp q=f at ho;generalize hL:c.map T.i=L at ho;cases ho with
 |rd h=>cases h
 |jn=>cases c<;>simp at hL hc
 |arr s l b len cp cells e ar hb hl br hm hsz hf hr=>
  subst hL;refine⟨b,⟨len,cp,cells,e,rfl,hb,sU hl,br,hm,by simpa using hsz,fun i h=>?_⟩,rfl,sA⟩;have:=hr i (sU h);rw[rQ]at this;generalize ar.getD i []=ff at this;generalize cells.getD i Go.undef=y at this ⊢;cases this with
  |rd h=>cases h;rfl
def mQ.rd{W:World}{v:Value}{b:Nat}{c:LI}(h:mQ W v b c):Rd W (fun x=>x≠b) (.sh 1 (c.map T.i)) v:=by
 obtain⟨len,cp,cells,e,rfl,h1,h2,h3,h4,h5,h6⟩:=h.ex;refine .sh 1 _ b 0 len cp cells e (0,0) (fun h=>h rfl) h1 (by simp;omega) (sU h2) h3 fun i h=>?_;rw[rQ,Nat.zero_add,h6 i (sU h)];exact .v _
def mQ.same{W W':World}{v:Value}{b:Nat}{c:LI}(h:mQ W v b c)(hb:W'.heap[b]? =W.heap[b]?):mQ W' v b c:=by
 obtain⟨len,cp,cells,e,h0,h1,h2⟩:=h.ex;exact⟨len,cp,cells,e,h0,hb.trans h1,h2⟩
def mQ.blk{W W':World}{v:Value}{b b':Nat}{c c':LI}(h:mQ W v b c)(h':mQ W' v b' c'):b'=b:=by
 obtain⟨_,_,_,_,h0,_⟩:=h.ex;obtain⟨_,_,_,_,AO,_⟩:=h'.ex;rw[h0]at AO;cases AO;rfl
def mQ.one{W:World}{v:Value}{b:Nat}{c:LI}(h:mQ W v b c):v.oneCell'=true:=by
 obtain⟨_,_,_,_,rfl,_⟩:=h.ex;rfl
structure pQ(n:Nat)(yv:Value)(cK:LV)(s4:Nat)(vs:Value)(a:Act):Prop where
 size:a.tmps.size=n
 defers:a.defers=[]
 s0:a.tmps.getD 0 Go.undef=yv
 cp:∀i,i<cK.length->a.tmps.getD (i+1) Go.undef=cK.getD i Go.undef
 s4:a.tmps.getD s4 Go.undef=vs
def YJ{a:Act}{W:World}{vs:Value}{cK:LV}{b:Nat}{c:LI}(ha:pQ n yv cK s4 vs a)(br:cK.length=cap.length)(hs4:cap.length<s4)(bV:n<=100000)(hrd:∀i (h:i<cap.length),Rd W (fun x=>x=b) cap[i] (cK.getD i Go.undef))(hv:mQ W vs b c):
  Good (fun _=>False) W ⟨fun x=>∃j,x∈(fun r:Nat=>if r=1000000000 then [b]else []) j,fun r=>if r=1000000000 then some vs else none,False⟩ n (tx yv cap s4 1000000000 c) a W (fun r=>if r=1000000000 then some vs else none) (fun r=>if r=1000000000 then [b]else []):=by
 have ea:a={tmps:=a.tmps,defers:=[]}:=by rw[←ha.defers]
 have s7:∀x,Ob (fun _=>False) (fun r:Nat=>if r=1000000000 then [b]else []) x->x=b:=by
  rintro x (h|⟨r,h⟩)
  ·exact h.elim
  ·have h:x∈(if r=1000000000 then [b]else []):=h;split at h
   ·simpa using h
   ·simp at h
 have hm:Mem (fun _=>False) W [.arr 1 (c.map T.i)] (fun r=>if r=1000000000 then some vs else none) (fun r=>if r=1000000000 then [b]else []):=by
  refine⟨fun i t hi=>?_,fun r hr=>?_,fun r r' x h h'=>?_,fun r=>?_,fun r x h=>fun h=>h,fun x h=>h.elim,fun r h hr=>?_⟩
  ·cases i with
   |succ i=>simp at hi
   |zero=>
    simp only[List.getElem?_cons_zero,Option.some.injEq]at hi;subst hi;refine⟨vs,if_pos rfl,?_,rfl⟩;obtain⟨len,cp,cells,e,rfl,h1,h2,h3,h4,h5,h6⟩:=hv.ex;have:=Ow.arr (w:=W) (O:=Ob (fun _=>False) (fun r:Nat=>if r=1000000000 then [b]else [])) 1 (c.map T.i) b len cp cells e (c.map fun _=>[]) h1 (sU h2) h3 h4 (by simpa using h5) sA (fun i h=>by
     have hi:i<c.length:=sU h;rw[rQ,h6 i hi,show(c.map fun _=>([]:LN)).getD i []=[] by simp[qA,hi]];exact .rd (.v _))
    rw[show(c.map fun _=>([]:LN)).flatten=[] from List.flatten_eq_nil_iff.2 fun l hl=>by obtain⟨_,_,rfl⟩:=qN.1 hl;rfl]at this;exact this
  ·have:r≠1000000000:=by
    simp only[List.length_cons,List.length_nil]at hr;omega
   exact⟨if_neg this,if_neg this⟩
  ·by_cases e1:r=1000000000
   ·by_cases e2:r'=1000000000
    ·rw[e1,e2]
    ·rw[if_neg e2]at h';cases h'
   ·rw[if_neg e1]at h;cases h
  ·split
   ·exact qX.2 ⟨List.not_mem_nil,List.nodup_nil⟩
   ·exact List.nodup_nil
  ·split at hr
   ·cases hr;exact hv.one
   ·cases hr
 have:=hm.good (n:=n) (aL:=False) (tm:=a.tmps) (l:=enum 0 (A.v yv::cap.map A.t)++[(s4,.own 1000000000)]) ha.size bV (fun s hs=>by
  rcases qI.1 hs with hs|hs
  ·obtain⟨i,hi,rfl⟩:=AN hs;rw[Nat.zero_add];cases i with
   |zero=>
    show Is _ _ _ (A.v yv) (a.tmps.getD 0 Go.undef);rw[ha.s0];exact .t (.v _)
   |succ i=>
    have hi':i<cap.length:=sU hi;show Is _ _ _ ((A.v yv::cap.map A.t)[i+1]) (a.tmps.getD (i+1) Go.undef);rw[List.getElem_cons_succ,rQ,ha.cp i om];exact .t ((hrd i hi').mono (fun _ _ _ _ _ h=>h) fun x hx _ h=>hx (s7 x h))
  ·simp only[List.mem_singleton]at hs;subst hs;show Is _ _ _ (.own 1000000000) (a.tmps.getD s4 Go.undef);rw[ha.s4];exact .own sA)
 rw[ea];exact this
def YK{os:List Oper}{x y z:CI}(h:gZ P n ops os=some [x,y,z]):∃o0 o1 o2,os=[o0,o1,o2]/\jP P n ops o0=some x/\jP P n ops o1=some y/\jP P n ops o2=some z/\oi o0.op=false/\oi o1.op=false/\oi o2.op=false:=by
 obtain⟨hl,hg⟩:=DQ h;have hd:=wR h;obtain⟨o0,o1,o2,rfl⟩:∃o0 o1 o2,os=[o0,o1,o2]:=by
  clear h hg hd;rcases os with _|⟨o0,_|⟨o1,_|⟨o2,_|⟨o3,os⟩⟩⟩⟩
  ·cases hl
  ·cases hl
  ·cases hl
  ·exact⟨o0,o1,o2,rfl⟩
  ·simp at hl
 exact⟨o0,o1,o2,rfl,hg 0 sA sA,hg 1 sA sA,hg 2 sA sA,hd o0 sA,hd o1 sA,hd o2 sA⟩
def pQ.put{yv vs:Value}{cK:LV}{s4 d:Nat}{a:Act}(h:pQ n yv cK s4 vs a)(hd:cK.length<d)(h4:d≠s4)(v:Value):pQ n yv cK s4 vs (a.put (some d) v):=by
 refine⟨by show(a.tmps.setIfInBounds d v).size=n;simp[h.size],h.defers,?_,fun i hi=>?_,?_⟩
 ·show(a.tmps.setIfInBounds d v).getD 0 Go.undef=yv;rw[xc om];exact h.s0
 ·show(a.tmps.setIfInBounds d v).getD (i+1) Go.undef=_;rw[xc om];exact h.cp i hi
 ·show(a.tmps.setIfInBounds d v).getD s4 Go.undef=vs;rw[xc (Ne.symm h4)];exact h.s4
def pQ.same{vs vs':Value}{cK:LV}{a a':Act}(h:pQ n yv cK s4 vs a){l:LN}(hs:ib l a a')(hl:∀s,s<=cK.length->s∉l)(hsz:a'.tmps.size=n)(hd:a'.defers=[])(h4:a'.tmps.getD s4 Go.undef=vs'):pQ n yv cK s4 vs' a':=
 ⟨hsz,hd,(hs 0 (hl 0 (Nat.zero_le _))).trans h.s0,fun i hi=>(hs (i+1) (hl _ hi)).trans (h.cp i hi),h4⟩
def YL{id:Nat}{d0 d1 d2 l:Nat}(If:gZ P n ops ops.toList=some [.o (.move d0 (.tmp 0)),.o (.move d1 (.tmp s4)),.o (.call (some d2) (.tmp d0) [.tmp d1])]){a:Act}{W:World}{tm:Array Value}{as bd:Code}(h0:a.tmps.getD 0 Go.undef= .func (.yield l) #[] #[])(jw:d0<a.tmps.size)(mI:d1<a.tmps.size)(YM:d0≠d1)(h4:s4≠d0)(hy:(Instr.yield l #[a.tmps.getD s4 Go.undef]).run P W= .ok (.round l fn tm as bd) W)(hr:RoundIn Fence.wide 0 P l fn tm as bd W fun e W'=>∃v,e= .returned v/\Q .normal (((a.put (some d0) (.func (.yield l) #[] #[])).put (some d1) (a.tmps.getD s4 Go.undef)).put (some d2) v) W'):(Code.region id ops false).wpIn Fence.wide 0 P Q a W:=by
 obtain⟨o0,o1,o2,d_,t0,t1,t2,e0,e1,e2⟩:=YK If;have AP:ops.size=3:=by rw[←Array.length_toList,d_];rfl
 have k0:ops[0]? =some o0:=by rw[←Array.getElem?_toList,d_];rfl
 have k1:ops[1]? =some o1:=by rw[←Array.getElem?_toList,d_];rfl
 have k2:ops[2]? =some o2:=by rw[←Array.getElem?_toList,d_];rfl
 obtain⟨t0,u0⟩:=AM t0;obtain⟨t1,u1⟩:=AM t1;obtain⟨t2,u2⟩:=AM t2;have v0:=(Ie t0).1;have v1:=(Ie t1).1;have v2:=(DZ t2).1;have w0:∀(o:Oper) (tm:Array Value),o.guard=none->Region.wanted o (yielded ops tm)=true:=fun o tm h=>by simp[Region.wanted,h]
 have YN:a.eval (.tmp 0)= .func (.yield l) #[] #[]:=h0;refine wpIn_region ?_;rw[AP,show List.range 3=[0,1,2] from rfl];simp only[wpOpsIn,k0,k1,k2];rw[if_pos (w0 o0 _ u0)];refine⟨fun f _=>trivial,?_⟩;rw[Oper.semAt_eq _ _ _ (tp e0),run_move t0,Oper.uponIn_value,YN,v0];rw[if_pos (w0 o1 _ u1)];refine⟨fun f _=>trivial,?_⟩;rw[Oper.semAt_eq _ _ _ (tp e1),run_move t1,Oper.uponIn_value,v1];have YO:(a.put (some d0) (.func (.yield l) #[] #[])).eval (.tmp s4)=a.tmps.getD s4 Go.undef:=xc h4;rw[YO,if_pos (w0 o2 _ u2)];refine⟨fun f _=>trivial,?_⟩;have YP:((a.put (some d0) (.func (.yield l) #[] #[])).put (some d1) (a.tmps.getD s4 Go.undef)).eval (.tmp d0)= .func (.yield l) #[] #[]:=by
  show((a.tmps.setIfInBounds d0 _).setIfInBounds d1 _).getD d0 Go.undef=_;rw[xc YM,AL jw]
 have YQ:((a.put (some d0) (.func (.yield l) #[] #[])).put (some d1) (a.tmps.getD s4 Go.undef)).eval (.tmp d1)=a.tmps.getD s4 Go.undef:=by
  show((a.tmps.setIfInBounds d0 _).setIfInBounds d1 _).getD d1 Go.undef=_;rw[AL (sU mI)]
 rw[Oper.semAt_eq _ _ _ (tp e2),Oi (ρ:=((a.put (some d0) (.func (.yield l) #[] #[])).put (some d1) (a.tmps.getD s4 Go.undef)).eval) t2 YP (by rw[YQ];exact hy),Oper.uponIn_round];refine⟨fun h=>(by cases h),hr.mono ?_⟩;rintro e W' ⟨v,rfl,h⟩;rw[v2];exact h
def Iter.of{f:FuncId}{fn:Func}{code:Code}{c1 c2 c3 cB:CC}{i2 d0 d1 d2 s4:Nat}(hf:P.funcs[f]? =some fn)(hb:fn.body=some code)(hn:fn.ntmps=n)(hres:fn.results=#[])
  (hc:dg P n H code=some (.seq c1 (.seq c2 (.seq c3 (.block i2 (.loop (.seq (.seq (.aN [.o (.move d0 (.tmp 0)),.o (.move d1 (.tmp s4)),.o (.call (some d2) (.tmp d0) [.tmp d1])]) (.cond (.tmp d2) .skip (.exit i2))) cB)))))))
  (hno:jq code=false) {cap:LA} {cs:LL} (bV:n<=100000) (hne:∀c∈cs,c≠ []) (hs4:cap.length<s4) (jw:d0<n/\cap.length<d0/\d0≠s4) (mI:d1<n/\cap.length<d1/\d1≠s4/\d1≠d0) (pu:d2<n/\cap.length<d2/\d2≠s4) {m:Nat} (gM:cap.length=m) (aD:((jp code).all fun d=>decide (m<d))=true) (mR:cap.length<n)
  (pre:∀l:Nat,cW P n c1 (uL (cW P n c2 (uL (cW P n c3 (D4 n (.func (.yield l) #[] #[]) cap s4 cs)) (D4 n (.func (.yield l) #[] #[]) cap s4 cs))) (D4 n (.func (.yield l) #[] #[]) cap s4 cs)) (St.of (enum 0 (A.v (.func (.yield l) #[] #[])::cap.map A.t)) []))
  (step:∀(l j:Nat) (c:LI),cs[j]? =some c->cW P n cB (YG n (.func (.yield l) #[] #[]) cap s4 cs j) (tx (.func (.yield l) #[] #[]) cap s4 1000000000 c)):
  Iter P f cap (cs.map fun c=>.sh 1 (c.map T.i)):=by
 intro O w cK br hrd l J Jx hstart YR YS;obtain⟨a1,r1,rfl,xd,fE⟩:=yA hc;obtain⟨a2,r2,rfl,yB,cP⟩:=yA fE;obtain⟨a3,r3,rfl,YT,tz⟩:=yA cP;obtain⟨r4,rfl,D5⟩:=Of tz;obtain⟨r5,rfl,YU⟩:=Og D5;obtain⟨r6,kB,rfl,YV,YW⟩:=yA YU;obtain⟨r7,r8,rfl,YX,YY⟩:=yA YV;obtain⟨id,ops,rfl,If⟩:=YE YX;obtain⟨y1,y2,rfl,hy1,hy2⟩:=Oe YY;have hy1:=YC hy1;have hy2:=YD hy2;subst hy1 hy2;simp only[jq,Bool.or_eq_false_iff]at hno;obtain⟨n1,n2,n3,_,n4⟩:=hno;have Ok:∀s,s<=cap.length->s∉jp a1/\s∉jp a2/\s∉jp a3/\s∉jp kB:=fun s hs=>by
  have:=show s∉jp _ from fun hm=>by have:=rO.1 aD s hm;simp at this;omega
  simp only[jp,qI,not_or]at this;exact⟨this.1,this.2.1,this.2.2.1,this.2.2.2.2⟩
 generalize AQ:(Value.func (.yield l) #[] #[])=yv at*;have hpre:=pre l;rw[AQ]at hpre;let R:Ending->World->Prop:=fun e W'=>(∃v,e= .returned v)/\((∃b,J b (cs.map fun c=>T.sh 1 (c.map T.i)).length W')∨Jx W')
 have hlen:(cs.map fun c=>T.sh 1 (c.map T.i)).length=cs.length:=sA;have sf:∀(a:Act) (W:World),a.defers=[]->((∃b,J b cs.length W)∨Jx W)->LeavesInM Fence.wide 0 P fn a.tmps R a.defers .returning W:=fun a W hd h=>by
  rw[hd];refine Hn ⟨.tuple #[],?_,⟨_,rfl⟩,by rw[hlen];exact h⟩;unfold results;rw[hres];simp[Sem.run_pure,Sem.run_bind]
 refine callsIn_wide.1 (callsIn_of_wp_marks (F:=Fence.wide) (n:=0) hf hb trivial ?_);refine wpIn_mono (Q:=fun e a W=>(e= .normal∨e= .ret)/\a.defers=[]/\((∃b,J b cs.length W)∨Jx W)) ?_ (by
  rintro e a W ⟨h1|h1,h2,h3⟩<;>subst h1<;>exact sf a W h2 h3)
 let O0:Fr:=⟨fun x=>∃j,x∈(fun _:Nat=>([]:LN)) j,fun _=>none,False⟩
 have Ol:∀x,¬O0 x:=fun x ⟨j,h⟩=>by simp at h
 generalize hA:({tmps:=#[yv]++cK.toArray++Array.replicate (fn.ntmps-(#[yv]++cK.toArray).size) Go.undef,defers:=[]}:Act)=ac;have hsize:ac.tmps.size=n:=by rw[←hA];simp;omega
 have D6:ac.tmps.getD 0 Go.undef=yv:=by rw[←hA];simp[qC,Array.getElem?_append]
 have D7:∀i,i<cK.length->ac.tmps.getD (i+1) Go.undef=cK.getD i Go.undef:=fun i hi=>by
  rw[←hA];simp[qC,qA,Array.getElem?_append,hi]
 have AR:ac.defers=[]:=by rw[←hA]
 have g0:Good (fun _=>False) w O0 n (St.of (enum 0 (A.v yv::cap.map A.t)) []) ac w (fun _=>none) (fun _=>[]):=by
  have hm:Mem (fun _=>False) w [] (fun _=>none) (fun _=>[]):=⟨fun i t h=>by simp at h,fun r _=>⟨rfl,rfl⟩,fun r r' b h=>by simp at h,fun _=>List.nodup_nil,fun r b h=>by simp at h,fun b h=>h.elim,fun r h hr=>by cases hr⟩;have:=hm.good (n:=n) (aL:=False) (tm:=ac.tmps) (l:=enum 0 (A.v yv::cap.map A.t)) hsize bV fun s hs=>by
   obtain⟨i,hi,rfl⟩:=AN hs;rw[Nat.zero_add];cases i with
   |zero=>
    show Is _ _ _ (A.v yv) (ac.tmps.getD 0 Go.undef);rw[D6];exact .t (.v _)
   |succ i=>
    have hi':i<cap.length:=sU hi;show Is _ _ _ ((A.v yv::cap.map A.t)[i+1]) (ac.tmps.getD (i+1) Go.undef);rw[List.getElem_cons_succ,rQ,D7 i om];exact .t ((hrd i hi').mono (fun _ _ _ _ _ h=>h) fun x _ _ h=>by
     rcases h with h|⟨r,h⟩
     ·exact h
     ·simp at h)
  rw[show ac={tmps:=ac.tmps,defers:=[]} by rw[←AR]];exact this
 have uM:∀{S' a' W' hs' al},Good (fun _=>False) w O0 n S' a' W' hs' al->Ext w W':=fun g=>⟨g.aZ.size,fun c hc=>g.aZ.block c hc (Ol c),g.aZ.os,g.aZ.tape,g.aZ.output⟩;have AS:∀{S' a' W' hs' al},Good (fun _=>False) w O0 n S' a' W' hs' al->a'.defers=[]:=fun g=>g.defers.none (fun h=>h);have pR:∀{q:Nat} {c:LI} {a' W' hs' al},Good (fun _=>False) w O0 n (tx yv cap s4 q c) a' W' hs' al->c≠ []->∃b,mQ W' (a'.tmps.getD s4 Go.undef) b c/\w.heap.size<=b/\J b 0 W':=by
  intro q c a' W' hs' al g hc;obtain⟨b,h1,h2,h3⟩:=Oj g hs4 hc;have D8:=(g.mine q b h3).resolve_left (Ol b);obtain⟨_,_,_,_,_,h4,_⟩:=h1.ex;exact⟨b,h1,D8,hstart W' b D8 (qF.1 h4).1 (uM g)⟩
 have Ig:∀{S' a' W' hs' al},Good (fun _=>False) w O0 n S' a' W' hs' al->D4 n yv cap s4 cs .ret S'->a'.defers=[]/\((∃b,J b cs.length W')∨Jx W'):=by
  rintro S' a' W' hs' al g ⟨rfl,q,c0,hc0,hw⟩;obtain⟨aW,bl,g2⟩:=hw _ _ _ _ _ _ _ g;obtain⟨b,_,_,hJ⟩:=pR g2 hc0;exact⟨AS g,.inl ⟨b,hJ⟩⟩
 have hn0:∀{k:Code},jq k=false->(jq k=true->(none:Option Nat)=none->O0.aL):=fun h h'=>by rw[h]at h';cases h'
 refine wpIn_seq (wpIn_mono (pN _ _ _ hpre _ _ xd _ w O0 ac w _ _ g0 none (oa.no _ _) (hn0 n1)) ?_);rintro e b1 W1 ⟨⟨S1,hs1,aO,g1,q1⟩,m1⟩;cases e with
 |ret=>exact⟨.inr rfl,Ig g1 q1⟩
 |normal=>
  refine wpIn_seq (wpIn_mono (pN _ _ _ q1 _ _ yB _ w O0 b1 W1 _ _ g1 none (oa.no _ _) (hn0 n2)) ?_);rintro e b2 W2 ⟨⟨S2,aW,bl,g2,q2⟩,m2⟩;cases e with
  |ret=>exact⟨.inr rfl,Ig g2 q2⟩
  |normal=>
   refine wpIn_seq (wpIn_mono (pN _ _ _ q2 _ _ YT _ w O0 b2 W2 _ _ g2 none (oa.no _ _) (hn0 n3)) ?_);rintro e b3 W3 ⟨⟨S3,bY,iT,g3,q3⟩,m3⟩;cases e with
   |ret=>exact⟨.inr rfl,Ig g3 q3⟩
   |normal=>
    obtain⟨q,c0,l',hcs,hwk⟩:=q3;obtain⟨bw6,fp4,g4⟩:=hwk _ _ _ _ _ _ _ g3;have hc0:c0≠ []:=hne c0 (by rw[hcs];simp);obtain⟨b,dy,D8,hJ⟩:=pR g4 hc0;have YZ:pQ n yv cK s4 (b3.tmps.getD s4 Go.undef) b3:=by
     have mm:ib (jp a1++jp a2++jp a3) ac b3:=(m1.mono fun s h=>by simp[h]).trans ((m2.mono fun s h=>by simp[h]).trans (m3.mono fun s h=>by simp[h]));exact pQ.same (vs:=ac.tmps.getD s4 Go.undef) ⟨hsize,AR,D6,D7,rfl⟩ mm (fun s hs=>by
      obtain⟨x1,x2,x3,_⟩:=Ok s om;simp[x1,x2,x3]) g4.size (AS g4) rfl
    have Y0:∀i (h:i<cap.length),Rd W3 (fun x=>x=b) cap[i] (cK.getD i Go.undef):=fun i h=>
     (hrd i h).mono (fun x cs e fz _ hx=>((uM g4).same x (qF.1 hx).1).trans hx) fun x _ hx e=>om
    refine wpIn_block (YF (σ:=Nat) (fun j a W=>∃c b vs,cs[j]? =some c/\pQ n yv cK s4 vs a/\mQ W vs b c/\(∀i (h:i<cap.length),Rd W (fun x=>x=b) cap[i] (cK.getD i Go.undef))/\J b j W/\w.heap.size<=b) (fun j=>cs.length-j) 0 ⟨c0,b,_,by rw[hcs];rfl,YZ,dy,Y0,hJ,D8⟩ ?_);rintro j a W ⟨c,b,vs,hj,hit,dy,bw7,Y1,jd⟩;have bw8:=hne c (qE hj);have hjl:=(qK.1 hj).1;obtain⟨fn',tm,as,bd,pS,hrnd⟩:=YS b j W vs (by rw[hlen];exact hjl) Y1 jd (by
     rw[rQ,show cs[j]=c from by rw[qB hjl]at hj;exact Option.some.inj hj];exact dy.rd)
    rw[←hit.s4]at pS;refine wpIn_seq (wpIn_seq (YL (l:=l) If (hit.s0.trans AQ.symm) (by rw[hit.size];exact jw.1) (by rw[hit.size];exact mI.1) (Ne.symm mI.2.2.2) (Ne.symm jw.2.2) pS (hrnd.mono ?_)));rw[AQ,hit.s4];have Om:∀v,pQ n yv cK s4 vs (((a.put (some d0) yv).put (some d1) vs).put (some d2) v):=fun v=>((hit.put om jw.2.2 _).put om mI.2.2.1 _).put om pu.2.2 _;have jM:∀v,(((a.put (some d0) yv).put (some d1) vs).put (some d2) v).eval (.tmp d2)=v:=fun v=>by
     show(((a.tmps.setIfInBounds d0 _).setIfInBounds d1 _).setIfInBounds d2 v).getD d2 Go.undef=_;rw[AL (by simp[hit.size];exact pu.1)]
    rintro e W' (⟨rfl,Y2,Y3,kM,On⟩|⟨rfl,Y4⟩)
    ·refine⟨_,rfl,?_⟩;have yC:=Om (.bool true);have AT:=jM (.bool true);generalize (((a.put (some d0) yv).put (some d1) vs).put (some d2) (.bool true))=a2 at yC AT ⊢;have g5:=YJ yC br hs4 bV On (dy.same kM);show(Code.cond (.tmp d2) .skip (.exit i2)).wpIn _ _ _ _ a2 W';refine wpIn_cond_true AT (wpIn_skip ?_);have hst:=step l j c hj;rw[AQ]at hst;refine wpIn_mono (pN _ _ _ hst _ _ YW _ W' _ a2 W' _ _ g5 none (oa.no _ _) (fun h=>by rw[n4]at h;cases h)) ?_;rintro e a3 Oo ⟨⟨S5,hs5,kt,g6,q⟩,m5⟩;have wz:=g6.defers.none (fun h=>h);have s7:∀x,(∃j,x∈(fun r:Nat=>if r=1000000000 then [b]else []) j)->x=b:=by
      rintro x ⟨r,h⟩;have h:x∈(if r=1000000000 then [b]else []):=h;split at h
      ·simpa using h
      ·cases h
     have Oq:N_ b W' Oo:=⟨g6.aZ.size,fun x hx mA=>g6.aZ.block x hx fun h=>mA (s7 x h),g6.aZ.os,g6.aZ.tape,g6.aZ.output⟩;have Ih:=YR b (j+1) W' Oo Y2 Oq;cases e with
     |normal=>
      obtain⟨c',eY,hwk⟩:=q;obtain⟨D9,fp7,g7⟩:=hwk _ _ _ _ _ _ _ g6;obtain⟨b',Ii,hh,_⟩:=Oj g7 hs4 (hne c' (qE eY));have hp:=g7.ax 1000000000 _ (qR _) hh;have hvs:a3.tmps.getD s4 Go.undef=vs:=by
       have hp:(if(1000000000:Nat)=1000000000 then some vs else none)=some (a3.tmps.getD s4 Go.undef):=hp;rw[if_pos rfl]at hp;exact(Option.some.inj hp).symm
      rw[hvs]at Ii;have ip:=dy.blk Ii;subst ip;refine⟨j+1,⟨c',_,vs,eY,yC.same m5 (fun s hs=>(Ok s om).2.2.2) g6.size wz hvs,Ii,fun i h=>(On i h).mono (fun x cs e fz hx h=>?_) fun x hx _=>hx,Ih,jd⟩,om⟩;rw[Oq.same x (qF.1 h).1 hx];exact h
     |ret=>
      have q:j+1=cs.length:=q;rw[q]at Ih;exact⟨.inr rfl,wz,.inl ⟨b,Ih⟩⟩
     |exit id=>exact q.elim
     |goto id=>exact q.elim
     |panic id=>exact q.elim
     |outgrown=>exact q.elim
    ·refine⟨_,rfl,?_⟩;have yC:=Om (.bool false);have AT:=jM (.bool false);generalize (((a.put (some d0) yv).put (some d1) vs).put (some d2) (.bool false))=a2 at yC AT ⊢;show(Code.cond (.tmp d2) .skip (.exit i2)).wpIn _ _ _ _ a2 W';refine wpIn_cond_false AT (wpIn_exit ?_);show if i2=i2 then _ else _;rw[if_pos rfl];exact⟨.inl rfl,yC.defers,.inr Y4⟩
   |exit id=>exact q3.elim
   |goto id=>exact q3.elim
   |panic id=>exact q3.elim
   |outgrown=>exact q3.elim
  |exit id=>exact q2.elim
  |goto id=>exact q2.elim
  |panic id=>exact q2.elim
  |outgrown=>exact q2.elim
 |exit id=>exact q1.elim
 |goto id=>exact q1.elim
 |panic id=>exact q1.elim
 |outgrown=>exact q1.elim
end
def Ij(ops:Array Oper):Bool:=
 decide (2<=ops.size)&&(List.range (ops.size-2)).all (fun j=>((DP [] (jT ops)).getD (ops.size-2) []).contains j)&&((jT ops).getD (ops.size-2+1) []).contains (ops.size-2)
def Ik(ops:Array Oper):Bool:=match ops[ops.size-2]? with
 |some o=>(match o.op with| .call c=>(match c.callee with| .value _=>true|_=>false)|_=>false)
 |none=>false
def oy:Code->Bool
 | .region _ ops true=>!Ik ops||Ij ops
 | .seq a b| .cond _ a b| .rangeFunc _ _ a b=>oy a&&oy b
 | .block _ c| .loop c=>oy c
 |_=>true
structure D_(B B':NP)(W W':World):Prop where
 size:W.heap.size<=W'.heap.size
 same:∀c,c<W.heap.size->¬B c->W'.heap[c]? =W.heap[c]?
 grow:∀c,B' c->B c∨W.heap.size<=c
 lt:∀c,B' c->c<W'.heap.size
 os:W'.os=W.os
 tape:W'.tape=W.tape
 output:W'.output=W.output
structure Il(X X':NP)(W W':World):Prop where
 size:W.heap.size<=W'.heap.size
 same:∀c,c<W.heap.size->¬X c->W'.heap[c]? =W.heap[c]?
 grow:∀c,X' c->X c∨W.heap.size<=c
 lt:∀c,X' c->c<W'.heap.size
abbrev JT:=NP->NP->Option Nat->World->Prop
structure jx(P:Program)(l:Nat)(ys:LA)(J:JT):Prop where
 own:∀{B B' X m W W'},J B X m W->(∀c,B c->¬X c)->D_ B B' W W'->J B' X m W'
 yield:∀{B X i y v W},J B X (some i) W->ys[i]? =some y->(∀c,B c->¬X c/\c<W.heap.size)->Rd W (fun c=>¬B c) y v->YieldAt Fence.wide 0 P l #[v] W fun e W'=>∃b X',e= .returned (.bool b)/\J B X' (if b then some (i+1)else none) W'/\Il X X' W W'
def pT(P:Program)(gf:FuncId)(cap ys:LA):Prop:=
 ∀(X:NP) (w:World) (cK:LV),cK.length=cap.length->(∀c,X c->c<w.heap.size)->(∀i (h:i<cap.length),Rd w X cap[i] (cK.getD i undef))->∀l J,jx P l ys J->J (fun _=>False) X (some 0) w→
  Calls P gf (#[.func (.yield l) #[] #[]]++cK.toArray) w fun e W'=>(∃v,e= .returned v)/\∃B X',J B X' (some ys.length) W'∨J B X' none W'
def Iter.AU{P:Program}{ys:LA}(h:Iter P gf cap ys):pT P gf cap ys:=by
 intro X w cK br hX hcap l J hJ hj0;refine(h X w cK br hcap l (fun b i W=>∃X',J (fun c=>c=b) X' (some i) W/\(∀c,c<w.heap.size->¬X c->W.heap[c]? =w.heap[c]?)/\(∀c,X' c->(X c∨w.heap.size<=c)/\c≠b/\c<W.heap.size)/\w.heap.size<=b/\b<W.heap.size/\w.heap.size<=W.heap.size)
  (fun W=>∃B X',J B X' none W) ?_ ?_ ?_).mono ?_
 ·intro W b hb Y5 hx;refine⟨X,hJ.own hj0 (fun c h=>h.elim) ⟨hx.size,fun c hc _=>hx.same c hc,fun c hc=>.inr om,fun c hc=>om,hx.os,hx.tape,hx.output⟩,fun c hc _=>hx.same c hc,fun c hc=>?_,hb,Y5,hx.size⟩;have:=hX c hc;exact⟨.inl hc,om,om⟩
 ·rintro b i W W' ⟨X',h1,h2,h3,h4,h5,h6⟩ hx;refine⟨X',hJ.own h1 (fun c e hc=>(h3 c hc).2.1 e) ⟨hx.size,fun c hc hn=>hx.same c hc hn,fun c hc=>.inl hc,fun c hc=>by have:=hx.size;omega,hx.os,hx.tape,hx.output⟩,fun c hc hn=>?_,fun c hc=>?_,h4,by have:=hx.size;omega,by have:=hx.size;omega⟩
  ·rw[hx.same c om om];exact h2 c hc hn
  ·obtain⟨a,b,d⟩:=h3 c hc;exact⟨a,b,by have:=hx.size;omega⟩
 ·rintro b i W v hi ⟨X',h1,h2,h3,h4,h5,h6⟩ hb hr;obtain⟨fn,tm,as,bd,hy,hrnd⟩:=hJ.yield h1 (qB hi) (fun c e=>⟨fun hc=>(h3 c hc).2.1 e,om⟩) (sU hr);refine⟨fn,tm,as,bd,hy,hrnd.mono ?_⟩;rintro e W' ⟨b',Ea,rfl,hj,hm⟩;cases b' with
  |false=>exact .inr ⟨rfl,_,_,hj⟩
  |true=>
   have hfz:∀c,c<w.heap.size->¬X c->W'.heap[c]? =w.heap[c]? :=fun c hc hn=>by
    rw[hm.same c om fun hx=>?_]
    ·exact h2 c hc hn
    ·rcases(h3 c hx).1 with h|h
     ·exact hn h
     ·omega
   refine .inl ⟨rfl,⟨Ea,hj,hfz,fun c hc=>?_,h4,by have:=hm.size;omega,by have:=hm.size;omega⟩,hm.size,hm.same b h5 fun hx=>(h3 b hx).2.1 rfl,fun k hk=>(hcap k hk).mono (fun c cs e fz hn hc=>?_) fun c hn hc e=>?_⟩
   ·rcases hm.grow c hc with h|h
    ·obtain⟨a,b,d⟩:=h3 c h;exact⟨a,b,hm.lt c hc⟩
    ·exact⟨.inr om,om,hm.lt c hc⟩
   ·have hlt:=(qF.1 hc).1;rw[hfz c hlt hn];exact hc
   ·omega
 ·rintro e W ⟨hv,(⟨b,X',h1,_⟩|⟨B,X',h1⟩)⟩
  ·exact⟨hv,_,_,.inl h1⟩
  ·exact⟨hv,_,_,.inr h1⟩
def gr(a:Act)(c:Nat):Prop:=({target:=.collected c,args:=#[]}:Deferred)∈a.defers
def eF(a:Act)(hs:NV)(fp:NL)(aL:Prop):Fr:=⟨fun c=>(∃j,c∈fp j)∨gr a c,hs,aL⟩
structure eG(J:JT)(aL:Prop)(n:Nat)(S:St)(m:Option Nat)(B E X:NP)(a:Act)(W:World)(hs:NV)(fp:NL):Prop where
 g:Good (fun c=>E c∨X c) W (eF a hs fp aL) n S a W hs fp
 j:J B X m W
 eb:∀c,E c->B c
 bx:∀c,B c->¬X c/\c<W.heap.size
 ob:∀c,eF a hs fp aL c->B c
structure mS(X X' B B' O O':NP)(hs hs':NV)(W W':World):Prop where
 size:W.heap.size<=W'.heap.size
 kp:∀c,c<W.heap.size->¬X c->¬O c->W'.heap[c]? =W.heap[c]?
 gx:∀c,X' c->X c∨W.heap.size<=c
 gb:∀c,B' c->B c∨W.heap.size<=c
 bm:∀c,B c->B' c
 go:∀c,O' c->O c∨W.heap.size<=c
 hd:∀r h,1000000000<=r->hs' r=some h->hs r=some h
def mS.trans{X Ea B B' Ot O O' Ou:NP}{hs hs' Ov:NV}{W W' W'':World}(h:mS X X' B B' O O' hs hs' W W')(h':mS X' Ea B' Ot O' Ou hs' Ov W' W''):mS X Ea B Ot O Ou hs Ov W W'':=by
 have up:∀{A A' Ox:NP},(∀c,A' c->A c∨W.heap.size<=c)->(∀c,Ox c->A' c∨W'.heap.size<=c)->∀c,Ox c->A c∨W.heap.size<=c:=fun h1 h2 c hc=>by
  rcases h2 c hc with h3|h3
  ·exact h1 c h3
  ·have:=h.size;exact .inr om
 have hsz:=h.size;have Y3:=h'.size;refine⟨om,fun c hc hx ho=>?_,up h.gx h'.gx,up h.gb h'.gb,fun c hc=>h'.bm c (h.bm c hc),up h.go h'.go,fun r y hr hy=>h.hd r y hr (h'.hd r y hr hy)⟩;rw[h'.kp c om (fun h2=>?_) (fun h2=>?_)]
 ·exact h.kp c hc hx ho
 ·rcases h.gx c h2 with h3|h3
  ·exact hx h3
  ·omega
 ·rcases h.go c h2 with h3|h3
  ·exact ho h3
  ·omega
section
variable {P:Program} {n:Nat} {J:JT} {aL:Prop} {S S':St} {m:Option Nat} {B E X:NP} {a a':Act} {W W':World} {hs hs':NV} {fp al:NL} {l:Nat} {ys:LA}
def nu(g:Good X w0 O0 n S a W hs fp){c:Nat}(h:gr a c):(w0.heap.size<=c∨O0 c)/\W.heap[c]? =some (.deferred (some [])):=by
 obtain⟨Ds,_,h2,h3,_⟩:=g.defers;unfold gr at h;rw[h2]at h;obtain⟨D,hD,e⟩:=qN.1 h;have:D=c:=by injection e with e;injection e
 subst this;exact h3 D hD
def Good.Im(g:Good X w0 O0 n S a W hs fp)(hX:∀c,gr a c->¬X c):Good X W (eF a hs fp O0.aL) n S a W hs fp:=
 ⟨g.size,by
  obtain⟨Ds,h1,h2,h3,h4⟩:=g.defers;exact⟨Ds,h1,h2,fun D hD=>⟨.inr (.inr (by unfold gr;rw[h2];exact qN.2 ⟨D,hD,rfl⟩)),(h3 D hD).2⟩,h4⟩,g.env,g.root,g.cj,g.nodup,g.cV,g.de,fun b hb _ ho=>by
   rcases ho with⟨j,hj⟩|ho
   ·exact g.cV j b hj hb
   ·exact hX b ho hb,fun r b hb=>.inl (.inl ⟨r,hb⟩),⟨rfl,rfl,rfl,qR _,fun _ _ _=>rfl⟩,g.b8,g.aV,g.small,fun _ _ _ h=>h⟩
def eG.Oy(y:eG J aL n S m B E X a W hs fp)(hro:∀l',ro=some l'->E l'/\∃r,W.heap[l']? =some (.loop r)):oa ro W (eF a hs fp aL):=fun l' e=>by
 obtain⟨h1,r,h2⟩:=hro l' e;refine⟨(qF.1 h2).1,?_,r,h2⟩;rintro(⟨j,hj⟩|h)
 ·exact y.g.cV j l' hj (.inl h1)
 ·have:=(nu y.g h).2;rw[h2]at this;cases this
def eG.Oz(hJ:jx P l ys J)(y:eG J aL n S m B E X a W hs fp){E':NP}(hE1:∀c,E c->E' c)(Y6:∀c,E' c->E c∨W.heap.size<=c)(g:Good (fun c=>E' c∨X c) W (eF a hs fp aL) n S' a' W' hs' al)(hd:∀c,gr a' c->¬E' c):∃B',eG J aL n S' m B' E' X a' W' hs' al/\mS X X B B' (eF a hs fp aL) (eF a' hs' al aL) hs hs' W W':=by
 have hsz:=g.aZ.size;have hE:∀c,E c∨X c->c<W.heap.size:=fun c h=>y.g.de c h;have AV:∀c,E c∨X c->¬eF a hs fp aL c:=fun c h=>y.g.fA c h (hE c h);have hmk:∀c,gr a' c->eF a hs fp aL c∨W.heap.size<=c:=fun c h=>(nu g h).1.symm;have ho:∀c,eF a' hs' al aL c->eF a hs fp aL c∨W.heap.size<=c:=fun c h=>by
  rcases h with⟨j,hj⟩|h
  ·exact g.mine j c hj
  ·exact hmk c h
 have d_:∀c,eF a' hs' al aL c->c<W'.heap.size:=fun c h=>by
  rcases h with⟨j,hj⟩|h
  ·exact g.lt hj
  ·exact(qF.1 (nu g h).2).1
 refine⟨fun c=>B c∨(W.heap.size<=c/\c<W'.heap.size),⟨?_,?_,fun c h=>?_,fun c h=>?_,fun c h=>?_⟩,⟨hsz,fun c hc _ hn=>g.aZ.block c hc hn,fun c h=>.inl h,fun c h=>h.imp id (·.1),fun c h=>.inl h,ho,g.ax⟩⟩
 ·have:=g.Im fun c h hX=>by
   rcases hX with hX|hX
   ·exact hd c h hX
   ·rcases hmk c h with h1|h1
    ·exact AV c (.inr hX) h1
    ·have:=hE c (.inr hX);omega
  exact this
 ·refine hJ.own y.j (fun c h=>(y.bx c h).1) ⟨hsz,fun c hc hn=>g.aZ.block c hc fun h=>hn (y.ob c h),fun c h=>h.imp id (·.1),fun c h=>?_,g.aZ.os,g.aZ.tape,g.aZ.output⟩;rcases h with h|h
  ·have:=(y.bx c h).2;omega
  ·exact h.2
 ·rcases Y6 c h with h1|h1
  ·exact .inl (y.eb c h1)
  ·exact .inr ⟨h1,g.de c (.inl h)⟩
 ·rcases h with h|h
  ·exact⟨(y.bx c h).1,by have:=(y.bx c h).2;omega⟩
  ·exact⟨fun hx=>by have:=hE c (.inr hx);omega,h.2⟩
 ·rcases ho c h with h1|h1
  ·exact .inl (y.ob c h1)
  ·exact .inr ⟨h1,d_ c h⟩
def eG.next(hJ:jx P l ys J)(y:eG J aL n S m B E X a W hs fp)(g:Good (fun c=>E c∨X c) W (eF a hs fp aL) n S' a' W' hs' al):∃B',eG J aL n S' m B' E X a' W' hs' al/\mS X X B B' (eF a hs fp aL) (eF a' hs' al aL) hs hs' W W':=
 y.Oz hJ (fun _ h=>h) (fun _ h=>.inl h) g fun c h hE=>by
  have h1:=y.g.de c (.inl hE);rcases(nu g h).1 with h2|h2
  ·omega
  ·exact y.g.fA c (.inl hE) h1 h2
end
def gd(P:Program)(n:Nat)(J:JT)(aL:Prop)(c:Code)(Q:Exit->St->Option Nat->Prop)(S:St)(m:Option Nat):Prop:=
 ∀B E X a W hs fp,eG J aL n S m B E X a W hs fp->∀ro,(∀l',ro=some l'->E l'/\∃r,W.heap[l']? =some (.loop r))->(jq c=true->ro=none->aL)→
  c.wpIn (rF ro) 0 P (fun e a' W'=>∃S' m' B' X' hs' al,eG J aL n S' m' B' E X' a' W' hs' al/\mS X X' B B' (eF a hs fp aL) (eF a' hs' al aL) hs hs' W W'/\Q e S' m') a W
def cw(P:Program)(n:Nat)(J:JT)(aL:Prop)(c:CC)(Q:Exit->St->Option Nat->Prop)(S:St)(m:Option Nat):Prop:=∀H code,dg P n H code=some c->oy code=true->gd P n J aL code Q S m
def OA(K:St->Option Nat->Prop)(Q:Exit->St->Option Nat->Prop):Exit->St->Option Nat->Prop
 | .normal,S,m=>K S m
 |e,S,m=>Q e S m
section
variable {P:Program} {n:Nat} {J:JT} {aL:Prop} {S:St} {m:Option Nat} {l:Nat} {ys:LA}
def eG.Eb{B E X:NP}{a:Act}{W W':World}{hs:NV}{fp:NL}(y:eG J aL n S m B E X a W hs fp){B' O':NP}{hs':NV}(s:mS X X' B B' (eF a hs fp aL) O' hs hs' W W'){c:Nat}(h:E c):W'.heap[c]? =W.heap[c]? :=
 s.kp c (y.g.de c (.inl h)) (y.bx c (y.eb c h)).1 (y.g.fA c (.inl h) (y.g.de c (.inl h)))
def Sem.AU(hJ:jx P l ys J){c:Code}{Q:Exit->St->Option Nat->Prop}(h:Sem P n c (fun e S'=>Q e S' m) S):gd P n J aL c Q S m:=fun B E X a W hs fp y ro hro hmk=>
 wpIn_mono (h _ W _ a W hs fp y.g ro (y.Oy hro) hmk) fun e a' W' ⟨⟨S',hs',al,g',q⟩,_⟩=>by
  obtain⟨B',y',s'⟩:=y.next hJ g';exact⟨S',m,B',X,hs',al,y',s',q⟩
def cw.of(hJ:jx P l ys J){c:CC}{Q:Exit->St->Option Nat->Prop}(h:cW P n c (fun e S'=>Q e S' m) S):cw P n J aL c Q S m:=fun H code hc _=>Sem.AU hJ (pN _ _ _ h H code hc)
def gd.weaken(hJ:jx P l ys J){S':St}{c:Code}{Q:Exit->St->Option Nat->Prop}(hw:aj n S S')(h:gd P n J aL c Q S' m):gd P n J aL c Q S m:=fun B E X a W hs fp y ro hro hmk=>by
 obtain⟨hs',al,g'⟩:=hw _ W _ a W hs fp y.g;obtain⟨B',y',s'⟩:=y.next hJ g';refine wpIn_mono (h _ E X a W hs' al y' ro hro hmk) ?_;rintro e a2 W2 ⟨S2,m2,B2,X2,aW,bl,y2,s2,q⟩;exact⟨S2,m2,B2,X2,aW,bl,y2,s'.trans s2,q⟩
def gd.mono{c:Code}{Q Q':Exit->St->Option Nat->Prop}(h:gd P n J aL c Q S m)(hq:∀e S' m',Q e S' m'->Q' e S' m'):gd P n J aL c Q' S m:=fun B E X a W hs fp y ro hro hmk=>
 wpIn_mono (h B E X a W hs fp y ro hro hmk) fun e a' W' ⟨S',m',B',X',hs',al,y',s',q⟩=>⟨S',m',B',X',hs',al,y',s',hq e S' m' q⟩
def gd.seq{x y:Code}{Q:Exit->St->Option Nat->Prop}(h:gd P n J aL x (OA (gd P n J aL y Q) Q) S m):gd P n J aL (.seq x y) Q S m:=fun B E X a W hs fp yk ro hro hmk=>
 wpIn_seq (wpIn_mono (h B E X a W hs fp yk ro hro (fun e=>hmk (by simp[jq,e]))) fun e a' W' ⟨S',m',B',X',hs',al,y',s',q⟩=>by
  cases e with
  |normal=>
   refine wpIn_mono (q B' E X' a' W' hs' al y' ro (fun l' e=>⟨(hro l' e).1,by rw[yk.Eb s' (hro l' e).1];exact(hro l' e).2⟩) (fun e=>hmk (by simp[jq,e]))) ?_;rintro e a2 W2 ⟨S2,m2,B2,X2,aW,bl,y2,s2,q2⟩;exact⟨S2,m2,B2,X2,aW,bl,y2,s'.trans s2,q2⟩
  |_=>exact⟨S',m',B',X',hs',al,y',s',q⟩)
def cw.seq{x y:CC}{Q:Exit->St->Option Nat->Prop}(h:cw P n J aL x (OA (cw P n J aL y Q) Q) S m):cw P n J aL (.seq x y) Q S m:=fun H code hc hk=>by
 obtain⟨a,b,rfl,ha,hb⟩:=yA hc;simp only[oy,qM]at hk;refine gd.seq ((h H a ha hk.1).mono fun e S' m' q=>?_);cases e with
 |normal=>exact q H b hb hk.2
 |_=>exact q
def cw.cond{c:Operand}{x y:CC}{Q:Exit->St->Option Nat->Prop}{b:Bool}(hc:S.ev c= .t (.v (.bool b)))(h1:b=true->cw P n J aL x Q S m)(h2:b=false->cw P n J aL y Q S m):cw P n J aL (.cond c x y) Q S m:=fun H code kK hk=>by
 obtain⟨cx,cy,rfl,hx,hy⟩:=Oe kK;simp only[oy,qM]at hk;intro B E X a W hs fp yk ro hro hmk;have hv:=yk.g.ev c;rw[hc]at hv;have hv:=hv.dP;refine wpIn_cond (t:=b) hv ?_;cases b
 ·exact h2 rfl H cy hy hk.2 B E X a W hs fp yk ro hro (fun e=>hmk (by simp[jq,e]))
 ·exact h1 rfl H cx hx hk.1 B E X a W hs fp yk ro hro (fun e=>hmk (by simp[jq,e]))
def OB(id:Nat)(Q:Exit->St->Option Nat->Prop):Exit->St->Option Nat->Prop
 | .exit id',S,m=>if id'=id then Q .normal S m else Q (.exit id') S m
 |e,S,m=>Q e S m
def cw.block{id:Nat}{c:CC}{Q:Exit->St->Option Nat->Prop}(h:cw P n J aL c (OB id Q) S m):cw P n J aL (.block id c) Q S m:=fun H code kK hk=>by
 obtain⟨x,rfl,hx⟩:=Of kK;simp only[oy]at hk;intro B E X a W hs fp yk ro hro hmk;refine wpIn_block (wpIn_mono (h H x hx hk B E X a W hs fp yk ro hro hmk) fun e a' w' ⟨S',m',B',X',hs',al,y',s',q⟩=>?_);cases e with
 |exit id'=>
  simp only[Exit.inBlock,OB]at q ⊢;split at q
  ·rename_i h;rw[if_pos h];exact⟨S',m',B',X',hs',al,y',s',q⟩
  ·rename_i h;rw[if_neg h];exact⟨S',m',B',X',hs',al,y',s',q⟩
 |_=>exact⟨S',m',B',X',hs',al,y',s',q⟩
def OC{σ:Type}(n:Nat)(mk:σ->St)(M:σ->Option Nat)(Inv:σ->Prop)(μ:σ->Nat)(k:Nat)(Q:Exit->St->Option Nat->Prop):Exit->St->Option Nat->Prop
 | .normal,S,m=>∃s',aj n S (mk s')/\m=M s'/\Inv s'/\μ s'<k
 |e,S,m=>Q e S m
def gd.loop(hJ:jx P l ys J){σ:Type}{c:Code}{Q:Exit->St->Option Nat->Prop}(mk:σ->St)(M:σ->Option Nat)(Inv:σ->Prop)(μ:σ->Nat)(s0:σ)(h0:aj n S (mk s0))(hm0:m=M s0)(hi:Inv s0)
  (round:∀s,Inv s->gd P n J aL c (OC n mk M Inv μ (μ s) Q) (mk s) (M s)):gd P n J aL (.loop c) Q S m:=by
 subst hm0;refine gd.weaken hJ h0 ?_;intro B E X a W hs fp y ro hro hmk b k cs fk cD iq;have key:∀j s B X a W hs fp,μ s=j->Inv s->eG J aL n (mk s) (M s) B E X a W hs fp->(∀l',ro=some l'->E l'/\∃r,W.heap[l']? =some (.loop r))→
   ∃e a' W',(∃S' m' B' X' hs' al,eG J aL n S' m' B' E X' a' W' hs' al/\mS X X' B B' (eF a hs fp aL) (eF a' hs' al aL) hs hs' W W'/\Q e S' m')/\ArrivesIn (Machine.fenced P (rF ro)) P (lone (b.atR a (.code c:: .inLoop c::k)) cs W) b k cs e a' W':=by
  intro j;induction j using Nat.strongRecOn with
  |_ j ih=>
   intro s B X a W hs fp hm hi y hro;obtain⟨e,a₁,w₁,⟨S1,m1,B1,X1,hs1,aO,y1,s1,q⟩,gX⟩:=round s hi B E X a W hs fp y ro hro hmk b (.inLoop c::k) cs fk cD iq;cases e with
   |normal=>
    obtain⟨s',hg,rfl,hi',hlt⟩:=q;obtain⟨aW,bl,g2⟩:=hg _ _ _ _ _ _ _ y1.g;obtain⟨B2,y2,s2⟩:=y1.next hJ g2;obtain⟨e₂,a₂,w₂,⟨S3,m3,B3,X3,bY,iT,y3,s3,q3⟩,Ak⟩:=ih (μ s') (hm▸hlt) s' B2 X1 a₁ w₁ aW bl rfl hi' y2 (fun l' e=>⟨(hro l' e).1,by rw[y.Eb s1 (hro l' e).1];exact(hro l' e).2⟩);exact⟨e₂,a₂,w₂,⟨S3,m3,B3,X3,bY,iT,y3,s1.trans (s2.trans s3),q3⟩,.of_steps (StepsIn.trans gX (.one (fenced_calm cD iq rfl) stepR_inLoop)) Ak⟩
   |exit id=>exact⟨_,a₁,w₁,⟨S1,m1,B1,X1,hs1,aO,y1,s1,q⟩,.pass (x:=.inLoop c) rfl (fun _ _=>.inl sA) gX⟩
   |goto l=>exact⟨_,a₁,w₁,⟨S1,m1,B1,X1,hs1,aO,y1,s1,q⟩,.pass (x:=.inLoop c) rfl (fun _ _=>.inl sA) gX⟩
   |ret=>exact⟨_,a₁,w₁,⟨S1,m1,B1,X1,hs1,aO,y1,s1,q⟩,.pass (x:=.inLoop c) rfl (fun _ _=>.inl sA) gX⟩
   |panic ch=>exact⟨_,a₁,w₁,⟨S1,m1,B1,X1,hs1,aO,y1,s1,q⟩,.pass (x:=.inLoop c) rfl (fun _ _=>.inl sA) gX⟩
   |outgrown=>exact⟨_,a₁,w₁,⟨S1,m1,B1,X1,hs1,aO,y1,s1,q⟩,.pass (x:=.inLoop c) rfl (fun _ _=>.inl sA) gX⟩
 obtain⟨e,a',w',hq,gX⟩:=key _ s0 B X a W hs fp rfl hi y hro;exact⟨e,a',w',hq,.of_steps (.one (fenced_calm cD iq rfl) stepR_loop) gX⟩
def cw.loop(hJ:jx P l ys J){σ:Type}{c:CC}{Q:Exit->St->Option Nat->Prop}(mk:σ->St)(M:σ->Option Nat)(Inv:σ->Prop)(μ:σ->Nat)(s0:σ)(h0:aj n S (mk s0))(hm0:m=M s0)(hi:Inv s0)
  (round:∀s,Inv s->cw P n J aL c (OC n mk M Inv μ (μ s) Q) (mk s) (M s)):cw P n J aL (.loop c) Q S m:=fun H code kK hk=>by
 obtain⟨x,rfl,hx⟩:=Og kK;simp only[oy]at hk;exact gd.loop hJ mk M Inv μ s0 h0 hm0 hi fun s hs=>round s hs H x hx hk
end
section
variable {P:Program} {n:Nat} {J:JT} {aL:Prop} {S S':St} {m:Option Nat} {B E X:NP} {a a':Act} {W W':World} {hs hs':NV} {fp al:NL} {l:Nat} {ys:LA}
def eG.fH(hJ:jx P l ys J)(y:eG J aL n S m B E X a W hs fp){c:Nat}(hc:E c)(hm:∀D,gr a D->D≠c)(o:Obj):eG J aL n S m B E X a (W.putObj c o) hs fp:=by
 have wK:∀b,b≠c->(W.putObj c o).heap[b]? =W.heap[b]? :=fun b hb=>World.putObj_heap_other hb;refine⟨?_,hJ.own y.j (fun b h=>(y.bx b h).1) ⟨sA,fun b hb hn=>wK b fun e=>hn (e▸y.eb c hc),fun b h=>.inl h,fun b h=>sU ((y.bx b h).2),rfl,rfl,rfl⟩,y.eb,fun b h=>sU (y.bx b h),y.ob⟩;refine y.g.world rfl (fun b cs e fz hn hb=>?_) (fun r b hb=>wK b fun e=>y.g.cV r b hb (.inl (e▸hc))) (fun b h=>.inl h) (fun b h=>sU (y.g.de b h)) (fun b h hb=>y.g.fA b h (sU hb)) ⟨rfl,rfl,rfl,sA,fun _ _ _=>rfl⟩ (fun r b hb=>.inl (.inl ⟨r,hb⟩)) ?_
 ·rw[wK b fun e=>hn (.inl (.inl (e▸hc)))];exact hb
 ·obtain⟨Ds,h1,h2,h3,h4⟩:=y.g.defers;refine⟨Ds,h1,h2,fun D hD=>⟨?_,?_⟩,h4⟩
  ·have:=(h3 D hD).1;rwa[World.putObj_size]
  ·have hmk:gr a D:=by unfold gr;rw[h2];exact qN.2 ⟨D,hD,rfl⟩
   rw[wK D (hm D hmk)];exact(h3 D hD).2
def Good.Y7{X1 X2:NP}(g:Good X1 w0 O0 n S a W hs fp){aA:LA}(dL:ai.Nodup)(hsrc:gB S ai aH)(hrl:aA.length=aH.length){hsc:NV}(hsz:W.heap.size<=W'.heap.size)(hkp:∀c,c<W.heap.size->¬X1 c->(∀q∈ai,c∉fp q)->W'.heap[c]? =W.heap[c]?)(mH:∀r,r∉ai->∀c∈fp r,W'.heap[c]? =W.heap[c]?)(iV:∀i q,ai[i]? =some q->hsc (1000000000+i)=hs q)(dj:∀i t,aA[i]? =some t->∃x,hsc (1000000000+i)=some x/\Ow W' (fun _=>False) t x (al (1000000000+i))/\(t.b8=true∨t= .any))(hdj:∀r r' b,b∈al r->b∈al r'->r=r')(aK:∀r,(al r).Nodup)(hold:∀j b,b∈al j->(∃q,q∈ai/\b∈fp q)∨W.heap.size<=b)(hX:∀b,X2 b->X1 b∨W.heap.size<=b)(se:∀b,X2 b->b<W'.heap.size)(OD:∀j b,b∈al j->¬X2 b)(be:T.df aA)(hmk:∀D,gr a D->W'.heap[D]? =W.heap[D]? /\¬X2 D):
  ∃dQ,Good X2 W' (eF a hs dQ O0.aL) n (kq S ai aA) a W' hs dQ/\∀r b,b∈dQ r->(∃i,i<ai.length/\b∈al (1000000000+i))∨b∈fp r:=by
 obtain⟨Du,px⟩:=uC hsrc;let dQ:NL:=fun r=>match(ai.zip (List.range ai.length)).lookup r with|some i=>al (1000000000+i)|none=>fp r
 have pz:∀i (h:i<ai.length),dQ ai[i]=al (1000000000+i):=fun i h=>by
  have h2:=yj (ks:=ai) (vs:=List.range ai.length) sA dL i h (sU h);simp only[List.getElem_range]at h2;simp only[dQ,h2]
 have pA:∀r,r∉ai->dQ r=fp r:=fun r h2=>by simp only[dQ,wD h2]
 have kinds:∀r,(∃i,∃h:i<ai.length,r=ai[i])∨r∉ai:=fun r=>by
  by_cases h2:r∈ai
  ·obtain⟨i,hi,rfl⟩:=rE.1 h2;exact .inl ⟨i,hi,rfl⟩
  ·exact .inr h2
 have jr:∀r b,b∈dQ r->(∃i,∃h:i<ai.length,r=ai[i]/\b∈al (1000000000+i))∨(r∉ai/\b∈fp r):=fun r b hb=>by
  rcases kinds r with⟨i,h,rfl⟩|h2
  ·rw[pz i h]at hb;exact .inl ⟨i,h,rfl,hb⟩
  ·rw[pA r h2]at hb;exact .inr ⟨h2,hb⟩
 have hk:jK (fun b=>¬Ob X1 fp b) W W':=fun b cs e fz hn hb=>by
  rw[hkp b (qF.1 hb).1 (fun h=>hn (.inl h)) fun q _ hq=>hn (.inr ⟨q,hq⟩)];exact hb
 have hO:∀b,¬Ob X1 fp b->b<W.heap.size->¬Ob X2 dQ b:=by
  rintro b h1 hlt (h|⟨r,hr⟩)
  ·rcases hX b h with h2|h2
   ·exact h1 (.inl h2)
   ·omega
  ·rcases jr r b hr with⟨i,h,rfl,h2⟩|⟨h3,h4⟩
   ·rcases hold _ b h2 with⟨q,_,hq⟩|h2
    ·exact h1 (.inr ⟨q,hq⟩)
    ·omega
   ·exact h1 (.inr ⟨r,h4⟩)
 have apart:∀r b,r∉ai->b∈fp r->∀j,b∉al j:=fun r b hr hb j hj=>by
  rcases hold j b hj with⟨q,hq,py⟩|h
  ·have:=g.cj r q b hb py;exact hr (this▸hq)
  ·have:=g.lt hb;omega
 refine⟨dQ,⟨g.size,?_,fun i=>(g.env i).mono hk hO (fun _ _ h=>h),fun r=>?_,fun r r' b hr hr'=>?_,fun r=>?_,fun r b hb=>?_,se,fun b hb _ ho=>?_,fun r b hb=>.inl (.inl ⟨r,hb⟩),⟨rfl,rfl,rfl,qR _,fun _ _ _=>rfl⟩,fun r t lk hr=>?_,g.aV,g.small,fun _ _ _ h=>h⟩,fun r b hb=>?_⟩
 ·obtain⟨Ds,h1,h2,h3,h4⟩:=g.defers;refine⟨Ds,h1,h2,fun D hD=>?_,h4⟩;have hm:gr a D:=by unfold gr;rw[h2];exact qN.2 ⟨D,hD,rfl⟩
  exact⟨.inr (.inr hm),by rw[(hmk D hm).1];exact(h3 D hD).2⟩
 ·show iG _ _ _ (gp S.roots ai aA r) _ _;rcases wB (f:=S.roots) (r:=r) (show ai.length=aA.length by omega)with⟨i,hi,hi',rfl,h4⟩|⟨h3,h4⟩
  ·rw[h4,pz i hi];obtain⟨x,hx,ho,bv⟩:=dj i _ (qB hi');rw[iV i _ (qB hi)]at hx;rcases bv with bv|bv
   case inr=>
    rw[bv]at ho ⊢;show al (1000000000+i)=[];generalize al (1000000000+i)=f at ho;cases ho;rfl
   rw[yg bv];exact⟨x,hx,ho.bJ ((T.kJ aA).1 be _ (rJ hi')),fun p hp=>by simp at hp⟩
  ·have cP:r∉ai:=fun hm=>by
    obtain⟨i,hi,rfl⟩:=rE.1 hm;exact h3 i hi rfl
   rw[h4,pA r cP];exact g.rl r hk hO (fun _ _ h=>h) rfl (mH r cP)
 ·rcases jr r b hr with⟨i,h,rfl,h2⟩|⟨h2,h3⟩<;>rcases jr r' b hr' with⟨j,h',rfl,bi⟩|⟨bi,kG⟩
  ·have:=hdj _ _ b h2 bi;have:i=j:=om;subst this;rfl
  ·exact(apart r' b bi kG _ h2).elim
  ·exact(apart r b h2 h3 _ bi).elim
  ·exact g.cj r r' b h3 kG
 ·rcases kinds r with⟨i,h,rfl⟩|h2
  ·rw[pz i h];exact aK _
  ·rw[pA r h2];exact g.nodup r
 ·rcases jr r b hb with⟨i,h,rfl,h2⟩|⟨h2,h3⟩
  ·exact OD _ b h2
  ·intro cD;rcases hX b cD with h4|h4
   ·exact g.cV r b h3 h4
   ·have:=g.lt h3;omega
 ·rcases ho with⟨j,hj⟩|ho
  ·rcases jr j b hj with⟨i,h,rfl,h2⟩|⟨h2,h3⟩
   ·exact OD _ b h2 hb
   ·rcases hX b hb with h4|h4
    ·exact g.cV j b h3 h4
    ·have:=g.lt h3;omega
  ·exact(hmk b ho).2 hb
 ·have hr:gp S.roots ai aA r= .live t lk:=hr;rcases wB (f:=S.roots) (r:=r) (show ai.length=aA.length by omega)with⟨i,hi,hi',rfl,h4⟩|⟨h3,h4⟩
  ·rw[h4]at hr;obtain⟨x,hx,ho,bv⟩:=dj i _ (qB hi');rcases bv with bv|bv
   ·rw[yg bv]at hr;cases hr;exact bv
   ·rw[bv]at hr;cases hr
  ·rw[h4]at hr;exact g.b8 r t lk hr
 ·rcases jr r b hb with⟨i,h,rfl,h2⟩|⟨h2,h3⟩
  ·exact .inl ⟨i,h,h2⟩
  ·exact .inr h3
end
def Ec(Q:Exit->St->Option Nat->Prop)(j:Code)(S':St)(m:Option Nat):Prop:=(j= .ret/\Q .ret S' m)∨∃id,j= .exit id/\Q (.exit id) S' m
def Ed(n:Nat)(Sm Sn:St)(mn:Option Nat)(ai:LN)(k:Nat)(Q:Exit->St->Option Nat->Prop):Exit->St->Option Nat->Prop
 | .normal,S',m=>iI S' k 1000000000 fun aA=>T.df aA/\m=mn/\aj n (kq Sm ai aA) Sn
 | .ret,S',m=>iI S' k 1000000000 fun aA=>T.df aA/\Q .ret (kq Sm ai aA) m
 | .exit id,S',m=>iI S' k 1000000000 fun aA=>T.df aA/\Q (.exit id) (kq Sm ai aA) m
 |_,_,_=>False
structure In(l:Nat)(X X' B B':NP)(hs hs':NV)(fp al:NL)(W W':World):Prop where
 size:W.heap.size<=W'.heap.size
 kp:∀c,c<W.heap.size->¬X c->c≠l->(∀j,c∉fp j)->W'.heap[c]? =W.heap[c]?
 gx:∀c,X' c->X c∨W.heap.size<=c
 gb:∀c,B' c->B c∨W.heap.size<=c
 bm:∀c,B c->B' c
 go:∀j c,c∈al j->(∃i,c∈fp i)∨W.heap.size<=c
 hd:∀r h,1000000000<=r->hs' r=some h->hs r=some h
section
variable {P:Program} {n:Nat} {J:JT} {aL:Prop} {m:Option Nat} {B X:NP} {a:Act} {W:World} {hs:NV} {fp:NL} {l:Nat} {ys:LA}
def xe(h:a.defers=[])(c:Nat):¬gr a c:=by unfold gr;rw[h];simp
def eG.round(hJ:jx P l ys J){Sm Sn:St}{mn:Option Nat}{E0 B2:NP}{l2:Nat}{rec:Loop}(y:eG J aL n Sm m B (fun c=>E0 c∨B2 c) X a W hs fp)(OE:E0 l2)(hl:W.heap[l2]? =some (.loop rec))(AW:rec.state= .ready)(Y8:rec.pending=none)
  {fn:FuncId} {ai au:LN} {aH:LA} {sl:List (Nat×A)} {p:Nat} {yv:T} {v:Value} {ca cb:Code} {Q:Exit->St->Option Nat->Prop} (dL:ai.Nodup) (dk:∀q∈au,q∉ai) (hsrc:gB Sm ai aH) (hp:p<n)
  (dy:∀s∈sl,s.1≠p/\va Sm ai au s.2 (Sm.env s.1)) (jw:∀c,B2 c->¬E0 c) (hy:Rd W (fun c=>¬B2 c) yv v)
  (round:gd P n J False ca (fun e S1 m1=>e= .normal/\gd P n J False cb (Ed n Sm Sn mn ai aH.length Q) S1 m1) (St.of ((p,.t yv)::sl) (enum 1000000000 aH)) m):
  RoundIn Fence.wide 0 P l2 fn (a.tmps.setIfInBounds p v) ca cb W fun e W'=>∃b,e= .returned (.bool b)/\∃B' X' S' m' hs' al,eG J aL n S' m' B' (fun c=>E0 c∨B2 c) X' a W' hs' al/\In l2 X X' B B' hs hs' fp al W W'∧
   (if b then S'=Sn/\m'=mn/\W'.heap[l2]? =some (.loop rec)else∃j,W'.heap[l2]? =some (.loop {rec with state:=.done,pending:=some j})/\Ec Q j S' m'):=by
 obtain⟨Xc,hsc,bS,Ee,iV,ir,hm,yD⟩:=y.g.enter (X':=fun c=>E0 c∨X c) (fun c h=>h.elim (fun h=>.inl (.inl h)) .inr) (au:=au) dL hsrc dk;let Er:NP:=fun c=>E0 c∨∃q,q∉ai/\q∉au/\c∈fp q
 have Y9:Xc=fun c=>Er c∨X c:=funext fun c=>propext ((Ee c).trans ⟨fun h=>by
  rcases h with(h|h)|h
  ·exact .inl (.inl h)
  ·exact .inr h
  ·exact .inl (.inr h),fun h=>by
  rcases h with(h|h)|h
  ·exact .inl (.inl h)
  ·exact .inr h
  ·exact .inl (.inr h)⟩)
 subst Y9;have yF:Er l2:=.inl OE;have AV:∀c,(E0 c∨B2 c)∨X c->c<W.heap.size:=fun c h=>y.g.de c h;have Y_:∀c,(E0 c∨B2 c)∨X c->¬eF a hs fp aL c:=fun c h=>y.g.fA c h (AV c h);have Io:∀j c,c∈fp j->B c:=fun j c h=>y.ob c (.inl ⟨j,h⟩);have xf:∀j c,c∈bS j->∃q,q∈ai/\c∈fp q:=ir;have hsz:(a.tmps.setIfInBounds p v).size=n:=by simp[y.g.size]
 have Za:∀c,¬ ¬B2 c->¬Ob (fun c=>Er c∨X c) bS c:=by
  rintro c h1 (h|⟨j,hj⟩)
  ·have h1:=Classical.not_not.1 h1;rcases h with(h|⟨q,_,_,hq⟩)|h
   ·exact jw c h1 h
   ·exact y.g.cV q c hq (.inl (.inr h1))
   ·exact(y.bx c (y.eb c (.inr h1))).1 h
  ·obtain⟨q,_,hq⟩:=xf j c hj;exact y.g.cV q c hq (.inl (.inr (Classical.not_not.1 h1)))
 have gR:=hm.good (n:=n) (aL:=False) (tm:=a.tmps.setIfInBounds p v) (l:=(p,.t yv)::sl) hsz y.g.small fun s hs=>by
  rcases qO.1 hs with rfl|hs
  ·show Is _ _ _ (.t yv) ((a.tmps.setIfInBounds p v).getD p undef);rw[AL (by rw[y.g.size];exact hp)];exact .t (hy.mono (fun _ _ _ _ _ h=>h) fun c hc _=>Za c hc)
  ·obtain⟨h1,h2⟩:=dy s hs;rw[xc h1];exact yD _ _ h2 (y.g.env s.1)
 have gR:=gR.Im fun c h=>absurd h (xe rfl c);have yR:eG J False n (St.of ((p,.t yv)::sl) (enum 1000000000 aH)) m B Er X {tmps:=a.tmps.setIfInBounds p v,defers:=[]} W hsc bS:=
  ⟨gR,y.j,fun c h=>by
   rcases h with h|⟨q,_,_,h⟩
   ·exact y.eb c (.inl h)
   ·exact Io q c h,y.bx,fun c h=>by
   rcases h with⟨j,hj⟩|h
   ·obtain⟨q,_,hq⟩:=xf j c hj;exact Io q c hq
   ·exact absurd h (xe rfl c)⟩
 refine roundIn_of_wpIn trivial (wpIn_mono (round B Er X _ W hsc bS yR (some l2) (fun l' e=>by cases e;exact⟨yF,_,hl⟩) (fun _ h=>by cases h)) ?_);rintro e a₁ w₁ ⟨S1,m1,B1,X1,hs1,aO,y1,s1,rfl,AX⟩;have fJ:=(yR.Eb s1 yF).trans hl;refine⟨_,run_beginRound fJ AW,?_⟩;have hnm:∀{S' m' B' E' X' a' W' hs' al},eG J False n S' m' B' E' X' a' W' hs' al->∀D,¬gr a' D:=fun y D=>xe (y.g.defers.none (fun h=>h)) D;have OF:=y1.fH hJ yF (fun D h=>(hnm y1 D h).elim) (.loop {rec with state:=.busy});have Ip:=(qF.1 fJ).1;have yG:(w₁.putObj l2 (.loop {rec with state:=.busy})).heap[l2]? =some (.loop {rec with state:=.busy}):=World.putObj_heap_same Ip;refine wpIn_mono (AX B1 Er X1 a₁ _ hs1 aO OF (some l2) (fun l' e=>by cases e;exact⟨yF,_,yG⟩) (fun _ h=>by cases h)) ?_;rintro e a3 W3 ⟨S',m',B3,X3,bY,iT,y3,s3,q⟩;have fb:=(OF.Eb s3 yF).trans yG;have hlt3:=(qF.1 fb).1;have y4:=y3.fH hJ yF (fun D h=>(hnm y3 D h).elim) (.loop rec);have oz:(W3.putObj l2 (.loop rec)).heap[l2]? =some (.loop rec):=World.putObj_heap_same hlt3;have bw9:=s1.size;have AP:=s3.size;rw[World.putObj_size]at AP;have xg:∀c,c<W.heap.size->¬X c->(∀j,c∉bS j)->(W3.putObj l2 (.loop rec)).heap[c]? =W.heap[c]? :=fun c hc hx hf=>by
  by_cases e:c=l2
  ·rw[e,oz,hl]
  ·have ho:¬eF {tmps:=a.tmps.setIfInBounds p v,defers:=[]} hsc bS False c:=fun h=>h.elim (fun⟨j,hj⟩=>hf j hj) (xe rfl c);rw[World.putObj_heap_other e,s3.kp c (by rw[World.putObj_size];omega) (fun h=>?_) (fun h=>?_),World.putObj_heap_other e]
   ·exact s1.kp c hc hx ho
   ·rcases s1.gx c h with h2|h2
    ·exact hx h2
    ·omega
   ·rcases s1.go c h with h2|h2
    ·exact ho h2
    ·omega
 have Iq:∀c,X3 c->X c∨W.heap.size<=c:=fun c h=>by
  rcases s3.gx c h with h|h
  ·exact s1.gx c h
  ·rw[World.putObj_size]at h;exact .inr om
 have Zb:∀c,B3 c->B c∨W.heap.size<=c:=fun c h=>by
  rcases s3.gb c h with h|h
  ·exact s1.gb c h
  ·rw[World.putObj_size]at h;exact .inr om
 have Eg:∀c,B c->B3 c:=fun c h=>s3.bm c (s1.bm c h);have goT:∀j c,c∈iT j->(∃q,q∈ai/\c∈fp q)∨W.heap.size<=c:=fun j c h=>by
  rcases s3.go c (.inl ⟨j,h⟩)with h|h
  ·rcases s1.go c h with h|h
   ·rcases h with⟨j,hj⟩|h
    ·exact .inl (xf j c hj)
    ·exact absurd h (xe rfl c)
   ·exact .inr h
  ·rw[World.putObj_size]at h;exact .inr om
 have cz:∀r h,1000000000<=r->bY r=some h->hsc r=some h:=fun r h hr hh=>s1.hd r h hr (s3.hd r h hr hh);have hrc:ai.length=aH.length:=(uC hsrc).1;have fin:∀{K:LA->Prop},iI S' aH.length 1000000000 (fun aA=>T.df aA/\K aA)->∃aA kt,K aA/\eG J aL n (kq Sm ai aA) m' B3 (fun c=>E0 c∨B2 c) X3 a (W3.putObj l2 (.loop rec)) hs kt/\In l2 X X3 B B3 hs hs fp kt W (W3.putObj l2 (.loop rec)):=by
  intro K h;obtain⟨aA,⟨be,hK⟩,hrl,kd⟩:=An h;let pU:NL:=fun r=>if 1000000000<=r/\r<1000000000+aH.length then iT r else []
  have hin:∀r b,b∈pU r->b∈iT r:=fun r b hb=>by
   simp only[pU]at hb;split at hb
   ·exact hb
   ·simp at hb
  obtain⟨kt,g5,Eh⟩:=y.g.Y7 (X2:=fun c=>(E0 c∨B2 c)∨X3 c) (W':=W3.putObj l2 (.loop rec)) (aH:=aH) (aA:=aA) (al:=pU) (hsc:=hsc) dL hsrc hrl (by rw[World.putObj_size];omega)
   (fun c hc hx hq=>xg c hc (fun h=>hx (.inr h)) fun j hj=>by obtain⟨q,h1,h2⟩:=xf j c hj;exact hq q h1 h2)
   (fun r hr c hc=>xg c (y.g.lt hc) (fun h=>y.g.cV r c hc (.inr h)) fun j hj=>by
    obtain⟨q,h1,h2⟩:=xf j c hj;have:=y.g.cj r q c hc h2;exact hr (this▸h1))
   iV (fun i t hi=>by
    obtain⟨bq,rfl⟩:=qK.1 hi;have jy:pU (1000000000+i)=iT (1000000000+i):=if_pos ⟨by omega,by omega⟩;rw[jy];have h5:=y4.g.root (1000000000+i);rcases kd i bq with h1|⟨h1,h0⟩
    ·rw[h1]at h5;obtain⟨x,hx,ho,_⟩:=h5;exact⟨x,cz _ _ (by omega) hx,ho.bJ ((T.kJ aA).1 be _ (rJ bq)),.inl (y4.g.b8 _ _ _ h1)⟩
    ·rw[h1]at h5;have h3:iT (1000000000+i)=[]:=h5;obtain⟨x,hx,_⟩:=hm.root i _ (qB (by omega));refine⟨x,hx,?_,.inr h0⟩;rw[h3,h0];exact .rd (.any _))
   (fun r r' b h h'=>y4.g.cj r r' b (hin r b h) (hin r' b h')) (fun r=>by
    simp only[pU];split
    ·exact y4.g.nodup r
    ·simp)
   (fun j b hb=>goT j b (hin j b hb))
   (fun b hb=>by
    rcases hb with hb|hb
    ·exact .inl (.inl hb)
    ·exact(Iq b hb).imp .inr id)
   (fun b hb=>by
    rcases hb with hb|hb
    ·have:=AV b (.inl hb);rw[World.putObj_size];omega
    ·exact y4.g.de b (.inr hb))
   (fun j b hb=>by
    have hb:=hin j b hb;rintro((h1|h1)|h1)
    ·exact y4.g.cV j b hb (.inl (.inl h1))
    ·rcases goT j b hb with⟨q,_,hq⟩|h2
     ·exact y.g.cV q b hq (.inl (.inr h1))
     ·have:=AV b (.inl (.inr h1));omega
    ·exact y4.g.cV j b hb (.inr h1))
   be (fun D hD=>by
    have Zc:=(qF.1 (nu y.g hD).2).1;have Ei:=y.ob D (.inr hD);refine⟨xg D Zc (y.bx D Ei).1 fun j hj=>?_,?_⟩
    ·obtain⟨q,_,hq⟩:=xf j D hj;exact y.g.zT (nu y.g hD).2 q hq
    ·rintro(h1|h1)
     ·exact Y_ D (.inl h1) (.inr hD)
     ·rcases Iq D h1 with h2|h2
      ·exact(y.bx D Ei).1 h2
      ·omega)
  have OG:∀j c,c∈kt j->(∃i,c∈iT i)∨∃i,c∈fp i:=fun j c h=>by
   rcases Eh j c h with⟨i,_,h1⟩|h1
   ·exact .inl ⟨_,hin _ _ h1⟩
   ·exact .inr ⟨j,h1⟩
  refine⟨aA,kt,hK,⟨g5,y4.j,fun c h=>?_,y4.bx,fun c h=>?_⟩,⟨by rw[World.putObj_size];omega,fun c hc hx _ hf=>xg c hc hx fun j hj=>?_,Iq,Zb,Eg,fun j c h=>?_,fun _ _ _ h=>h⟩⟩
  ·exact Eg c (y.eb c h)
  ·rcases h with⟨j,hj⟩|h
   ·rcases OG j c hj with⟨i,h1⟩|⟨i,h1⟩
    ·exact y4.ob c (.inl ⟨i,h1⟩)
    ·exact Eg c (Io i c h1)
   ·exact Eg c (y.ob c (.inr h))
  ·obtain⟨q,_,hq⟩:=xf j c hj;exact hf q hq
  ·rcases OG j c h with⟨i,h1⟩|h1
   ·rcases goT i c h1 with⟨q,_,hq⟩|h2
    ·exact .inl ⟨q,hq⟩
    ·exact .inr h2
   ·exact .inl h1
 have hdone:∀j,(W3.putObj l2 (.loop rec)).putObj l2 (.loop {rec with state:=.done,pending:=some j})=W3.putObj l2 (.loop {rec with state:=.done,pending:=some j}):=fun j=>by
  simp[World.putObj]
 have stop:∀j {K:LA->Prop},iI S' aH.length 1000000000 (fun aA=>T.df aA/\K aA)->(∀aA,K aA->Ec Q j (kq Sm ai aA) m')->∃v w',(Instr.endRound l2 (some j)).run P W3= .ok v w'/\∃b,Ending.returned v= .returned (.bool b)/\∃B' X' S' m' hs' al,eG J aL n S' m' B' (fun c=>E0 c∨B2 c) X' a w' hs' al/\In l2 X X' B B' hs hs' fp al W w'∧
   (if b then S'=Sn/\m'=mn/\w'.heap[l2]? =some (.loop rec)else∃j,w'.heap[l2]? =some (.loop {rec with state:=.done,pending:=some j})/\Ec Q j S' m'):=by
  intro j K h hK;obtain⟨aA,kt,hk,y5,r5⟩:=fin h;refine⟨_,_,run_endRound (P:=P) (some j) fb,false,rfl,B3,X3,kq Sm ai aA,m',hs,kt,?_,?_,?_⟩
  ·have:=y5.fH hJ (.inl OE) (fun D hD e=>by
    have:=(nu y5.g hD).2;rw[e,oz]at this;cases this) (.loop {rec with state:=.done,pending:=some j})
   rw[hdone]at this;exact this
  ·refine⟨?_,fun c hc hx br hf=>?_,r5.gx,r5.gb,r5.bm,r5.go,r5.hd⟩
   ·have:=r5.size;rw[World.putObj_size]at this ⊢;exact this
   ·have:=r5.kp c hc hx br hf;rw[World.putObj_heap_other br]at this;rw[World.putObj_heap_other br];exact this
  ·simp only[Bool.false_eq_true,if_false];exact⟨j,World.putObj_heap_same hlt3,hK aA hk⟩
 cases e with
 |normal=>
  obtain⟨aA,kt,⟨hmn,hwk⟩,y5,r5⟩:=fin q;obtain⟨pV,Zd,g6⟩:=hwk _ _ _ _ _ _ _ y5.g;obtain⟨B6,y6,s6⟩:=y5.next hJ g6;have hend:=run_endRound (P:=P) none fb;have Ir:({({rec with state:=.busy}:Loop)with state:=if(none:Option Code).isNone then .ready else .done,pending:=none}:Loop)=rec:=by
   cases rec;simp_all
  rw[Ir]at hend;refine⟨_,_,hend,true,rfl,B6,X3,Sn,m',pV,Zd,y6,⟨r5.size,r5.kp,r5.gx,fun c h=>?_,fun c h=>s6.bm c (r5.bm c h),fun j c h=>?_,fun r h hr hh=>r5.hd r h hr (s6.hd r h hr hh)⟩,?_⟩
  ·rcases s6.gb c h with h1|h1
   ·exact r5.gb c h1
   ·exact .inr (rA r5.size h1)
  ·rcases s6.go c (.inl ⟨j,h⟩)with h1|h1
   ·rcases h1 with⟨i,h1⟩|h1
    ·exact r5.go i c h1
    ·exact(y6.g.zT (nu y6.g h1).2 j h).elim
   ·exact .inr (rA r5.size h1)
  ·simp only[if_true];exact⟨trivial,hmn,oz⟩
 |ret=>exact stop .ret q fun aA h=>.inl ⟨rfl,h⟩
 |exit id=>exact stop (.exit id) q fun aA h=>.inr ⟨id,rfl,h⟩
 |goto t=>exact q.elim
 |panic ch=>exact q.elim
 |outgrown=>exact q.elim
end
section
variable {P:Program} {n:Nat} {J:JT} {aL:Prop} {m:Option Nat} {B X:NP} {a:Act} {W W':World} {hs:NV} {fp:NL} {l:Nat} {ys:LA}
def eG.Ze(hJ:jx P l ys J){S:St}{E0 B2 It:NP}(y:eG J aL n S m B (fun c=>E0 c∨B2 c) X a W hs fp)(hm:D_ B2 It W W')(h0:∀c,B2 c->¬E0 c)(hk:∀c,B2 c->¬gr a c):
  ∃B',eG J aL n S m B' (fun c=>E0 c∨It c) X a W' hs fp/\(∀c,B' c->B c∨W.heap.size<=c)/\(∀c,B c->B' c):=by
 have hsz:=hm.size;have hO:∀c,eF a hs fp aL c->c<W.heap.size:=fun c h=>(y.bx c (y.ob c h)).2;refine⟨fun c=>B c∨(W.heap.size<=c/\c<W'.heap.size),⟨?_,?_,fun c h=>?_,fun c h=>?_,fun c h=>.inl (y.ob c h)⟩,fun c h=>h.imp id (·.1),fun c h=>.inl h⟩
 ·refine y.g.world rfl (fun c cs e fz hn hc=>?_) (fun r c hc=>hm.same c (y.g.lt hc) fun h=>y.g.cV r c hc (.inl (.inr h))) (fun c h=>?_) (fun c h=>?_) (fun c h hc ho=>?_) ⟨rfl,rfl,rfl,qR _,fun _ _ _=>rfl⟩ (fun r c hc=>.inl (.inl ⟨r,hc⟩)) ?_
  ·rw[hm.same c (qF.1 hc).1 fun h=>hn (.inl (.inl (.inr h)))];exact hc
  ·rcases h with(h|h)|h
   ·exact .inl (.inl (.inl h))
   ·exact(hm.grow c h).imp (fun h=>.inl (.inr h)) id
   ·exact .inl (.inr h)
  ·rcases h with(h|h)|h
   ·have:=y.g.de c (.inl (.inl h));omega
   ·exact hm.lt c h
   ·have:=y.g.de c (.inr h);omega
  ·have h1:=hO c ho;rcases h with(h|h)|h
   ·exact y.g.fA c (.inl (.inl h)) h1 ho
   ·rcases hm.grow c h with h2|h2
    ·exact y.g.fA c (.inl (.inr h2)) h1 ho
    ·omega
   ·exact y.g.fA c (.inr h) h1 ho
  ·obtain⟨Ds,h1,h2,h3,h4⟩:=y.g.defers;refine⟨Ds,h1,h2,fun D hD=>?_,h4⟩;have xh:gr a D:=by unfold gr;rw[h2];exact qN.2 ⟨D,hD,rfl⟩
   exact⟨.inr (.inr xh),by rw[hm.same D (qF.1 (h3 D hD).2).1 fun h=>hk D h xh];exact(h3 D hD).2⟩
 ·refine hJ.own y.j (fun c h=>(y.bx c h).1) ⟨hsz,fun c hc hn=>hm.same c hc fun h=>hn (y.eb c (.inr h)),fun c h=>h.imp id (·.1),fun c h=>?_,hm.os,hm.tape,hm.output⟩;rcases h with h|h
  ·have:=(y.bx c h).2;omega
  ·exact h.2
 ·rcases h with h|h
  ·exact .inl (y.eb c (.inl h))
  ·rcases hm.grow c h with h1|h1
   ·exact .inl (y.eb c (.inr h1))
   ·exact .inr ⟨h1,hm.lt c h⟩
 ·rcases h with h|h
  ·exact⟨(y.bx c h).1,by have:=(y.bx c h).2;omega⟩
  ·exact⟨fun hx=>by have:=y.g.de c (.inr hx);omega,h.2⟩
def J2(J:JT)(aL:Prop)(n:Nat)(mk:Nat->St)(M:Nat->Option Nat)(len:Nat)(Q:Exit->St->Option Nat->Prop)(E X0 B0 O0:NP)(hs0:NV)(W0:World)(s2 l2:Nat)(rec:Loop)(a1:Act):JT:=fun B2 X2 mm Wc=>
 (∀c,B2 c->s2<=c)/\s2<=Wc.heap.size/\∃Bc Xc S m hsc bS,(∀c,X2 c↔Xc c∨c=l2∨∃j,c∈bS j)/\mS X0 Xc B0 Bc O0 (eF a1 hsc bS aL) hs0 hsc W0 Wc/\eG J aL n S m Bc (fun c=>(E c∨c=l2)∨B2 c) Xc a1 Wc hsc bS∧
  match mm with
  |some k=>k<=len/\S=mk k/\m=M k/\Wc.heap[l2]? =some (.loop rec)
  |none=>∃j,Wc.heap[l2]? =some (.loop {rec with state:=.done,pending:=some j})/\Ec Q j S m
def Zf(hJ:jx P l ys J){mk:Nat->St}{M:Nat->Option Nat}{iu:LA}{Q:Exit->St->Option Nat->Prop}{E X0 B0 O0:NP}{hs0:NV}{W0:World}{s2 l2:Nat}{rec:Loop}{a1:Act}{cb:Code}(bx0:W0.heap.size<=l2)(AY:l2<s2)(OH:∀c,E c->c<s2)(AZ:∀c,gr a1 c->c<s2)(aW:W0.heap.size<=s2)(e1:rec.state= .ready)(e2:rec.pending=none)(e4:rec.tmps=a1.tmps)(e5:rec.params=#[p])(e6:rec.assign=ca)(e7:rec.body=cb){au:LN}{aH:Nat->LA}{sl:Nat->List (Nat×A)}(dL:ai.Nodup)(dk:∀q∈au,q∉ai)(hsrc:∀i,i<iu.length->gB (mk i) ai (aH i))(hp:p<n)(dy:∀i,i<iu.length->∀s∈sl i,s.1≠p/\va (mk i) ai au s.2 ((mk i).env s.1))(round:∀i (h:i<iu.length),gd P n J False ca (fun e S1 m1=>e= .normal/\gd P n J False cb (Ed n (mk i) (mk (i+1)) (M (i+1)) ai (aH i).length Q) S1 m1) (St.of ((p,.t iu[i])::sl i) (enum 1000000000 (aH i))) (M i)):
  jx P l2 iu (J2 J aL n mk M iu.length Q E X0 B0 O0 hs0 W0 s2 l2 rec a1):=by
 refine⟨?_,?_⟩
 ·rintro B2 It X2 mm Wc Zg ⟨cD,hsz,Bc,Xc,S,m,hsc,bS,ew,st,y,uN⟩ Ej hm;obtain⟨B',y',kO,pW⟩:=y.Ze hJ hm (fun c h h0=>by
   have:=cD c h;rcases h0 with h0|h0
   ·have:=OH c h0;omega
   ·omega) (fun c h h0=>by have:=cD c h;have:=AZ c h0;omega)
  have OI:¬B2 l2:=fun h=>by have:=cD l2 h;omega
  refine⟨fun c h=>?_,by have:=hm.size;omega,B',Xc,S,m,hsc,bS,ew,⟨by have:=hm.size;have:=st.size;omega,fun c hc hx ho=>?_,st.gx,fun c h=>?_,fun c h=>pW c (st.bm c h),st.go,st.hd⟩,y',?_⟩
  ·rcases hm.grow c h with h1|h1
   ·exact cD c h1
   ·omega
  ·rw[hm.same c (by have:=st.size;omega) fun h=>by have:=cD c h;omega];exact st.kp c hc hx ho
  ·rcases kO c h with h1|h1
   ·exact st.gb c h1
   ·exact .inr (rA st.size h1)
  ·cases mm with
   |some k=>
    obtain⟨h1,h2,h3,h4⟩:=uN;exact⟨h1,h2,h3,(hm.same l2 (qF.1 h4).1 OI).trans h4⟩
   |none=>
    obtain⟨j,h1,h2⟩:=uN;exact⟨j,(hm.same l2 (qF.1 h1).1 OI).trans h1,h2⟩
 ·rintro B2 X2 i yv v Wc ⟨cD,hsz,Bc,Xc,S,m,hsc,bS,ew,st,y,hle,rfl,rfl,hl⟩ Iu Ej hy;obtain⟨hi,rfl⟩:=qK.1 Iu;have pS:=run_yield (P:=P) (args:=#[v]) hl (by rw[e5];rfl);rw[e5,e4,e6,e7,show((#[p]:Array Tmp).zip #[v]).foldl (fun tmps (t,a)=>tmps.setIfInBounds t a) a1.tmps=a1.tmps.setIfInBounds p v by simp]at pS;refine⟨_,_,_,_,pS,(y.round hJ (.inr rfl) hl e1 e2 dL dk (hsrc i hi) hp (dy i hi) (fun c h h0=>by
   have:=cD c h;rcases h0 with h0|h0
   ·have:=OH c h0;omega
   ·omega) hy (round i hi)).mono ?_⟩
  rintro e W' ⟨b,rfl,B',X',S',m',hs',al,y',r,ip⟩;have Iv:=r.size;have hO:∀c,eF a1 hs' al aL c->eF a1 hsc bS aL c∨Wc.heap.size<=c:=fun c h=>by
   rcases h with⟨j,hj⟩|h
   ·rcases r.go j c hj with h1|h1
    ·exact .inl (.inl h1)
    ·exact .inr h1
   ·exact .inl (.inr h)
  refine⟨b,fun c=>X' c∨c=l2∨∃j,c∈al j,rfl,⟨cD,om,B',X',S',m',hs',al,fun c=>Iff.rfl,⟨by have:=st.size;omega,fun c hc hx ho=>?_,fun c h=>?_,fun c h=>?_,fun c h=>r.bm c (st.bm c h),fun c h=>?_,fun rr h hr hh=>st.hd rr h hr (r.hd rr h hr hh)⟩,y',?_⟩,⟨Iv,fun c hc hx=>?_,fun c h=>?_,fun c h=>?_⟩⟩
  ·have h1:=st.size;rw[r.kp c om (fun h=>?_) om (fun j hj=>?_)]
   ·exact st.kp c hc hx ho
   ·rcases st.gx c h with h2|h2
    ·exact hx h2
    ·omega
   ·rcases st.go c (.inl ⟨j,hj⟩)with h2|h2
    ·exact ho h2
    ·omega
  ·rcases r.gx c h with h1|h1
   ·exact st.gx c h1
   ·exact .inr (rA st.size h1)
  ·rcases r.gb c h with h1|h1
   ·exact st.gb c h1
   ·exact .inr (rA st.size h1)
  ·rcases hO c h with h1|h1
   ·exact st.go c h1
   ·exact .inr (rA st.size h1)
  ·cases b with
   |true=>
    simp only[if_true]at ip ⊢;exact⟨hi,ip.1,ip.2.1,ip.2.2⟩
   |false=>
    simp only[Bool.false_eq_true,if_false]at ip ⊢;exact ip
  ·have hx':¬(Xc c∨c=l2∨∃j,c∈bS j):=fun h=>hx ((ew c).2 h);exact r.kp c hc (fun h=>hx' (.inl h)) (fun h=>hx' (.inr (.inl h))) fun j hj=>hx' (.inr (.inr ⟨j,hj⟩))
  ·rcases h with h|h|⟨j,hj⟩
   ·exact(r.gx c h).imp (fun h=>(ew c).2 (.inl h)) id
   ·exact .inl ((ew c).2 (.inr (.inl h)))
   ·exact(r.go j c hj).imp (fun h=>(ew c).2 (.inr (.inr h))) id
  ·rcases h with h|h|⟨j,hj⟩
   ·exact y'.g.de c (.inr h)
   ·subst h;omega
   ·exact y'.g.lt hj
def gd.range(hJ:jx P l ys J){S:St}{mT:Operand}{cb:Code}{Q:Exit->St->Option Nat->Prop}{iu:LA}(xi:∀args w,(callFunc gf args).run P w= .ok (.enter gf args) w)(hit:pT P gf cap iu)(mk:Nat->St)(M:Nat->Option Nat)(ai au:LN)(aH:Nat->LA)(sl:Nat->List (Nat×A))(hw:aj n S (mk 0))(hM:M 0=m)(hg:gY ((mk 0).ev mT)=some (gf,cap.map A.t))(dL:ai.Nodup)(dk:∀q∈au,q∉ai)(hsrc:∀i,i<iu.length->gB (mk i) ai (aH i))(hp:p<n)(dy:∀i,i<iu.length->∀s∈sl i,s.1≠p/\va (mk i) ai au s.2 ((mk i).env s.1))(round:∀i (h:i<iu.length),gd P n J False ca (fun e S1 m1=>e= .normal/\gd P n J False cb (Ed n (mk i) (mk (i+1)) (M (i+1)) ai (aH i).length Q) S1 m1) (St.of ((p,.t iu[i])::sl i) (enum 1000000000 (aH i))) (M i))(done:Q .normal (mk iu.length) (M iu.length)):gd P n J aL (.rangeFunc mT #[p] ca cb) Q S m:=by
 intro B E X a W hs fp y ro hro Iw;obtain⟨hs0,uO,g0⟩:=hw _ _ _ _ _ _ _ y.g;refine wpIn_rangeFunc fun fn _=>?_;obtain⟨l2,mark,w2,rec,Ix,⟨e1,e2,e3,e4,e5,e6,e7⟩,bO,uM,uP,AY,hmk⟩:=Od (P:=P) y.g (y.Oy hro) (Iw rfl) fn p ca cb;obtain⟨cK,jM,br,DW⟩:=g0.caps hg;have OJ:=uM.size;have g2:Good (fun c=>(E c∨c=l2)∨X c) W (eF a hs fp aL) n (mk 0) {a with defers:=mark++a.defers} w2 hs0 uO:=by
  have:=g0.ext uM (X':=fun c=>(E c∨c=l2)∨X c) (fun c h=>by
   rcases h with(h|rfl)|h
   ·exact .inl (.inl h)
   ·exact .inr ⟨uP,AY⟩
   ·exact .inl (.inr h))
  exact{this with defers:=hmk}
 have A0:({a with defers:=mark++a.defers}:Act).eval mT= .func (.func gf) #[] cK.toArray:=jM;generalize xd:({a with defers:=mark++a.defers}:Act)=a1 at g2 A0 ⊢;have Iy:rec.tmps=a1.tmps:=by rw[e4,←xd]
 have mI:∀c,gr a1 c->¬(E c∨c=l2):=by
  rintro c h (hE|rfl)
  ·have h1:=y.g.de c (.inl hE);rcases(nu g2 h).1 with h2|h2
   ·omega
   ·exact y.g.fA c (.inl hE) h1 h2
  ·have:=(nu g2 h).2;rw[bO]at this;cases this
 obtain⟨B1,y1,s1⟩:=y.Oz hJ (E':=fun c=>E c∨c=l2) (fun c h=>.inl h) (fun c h=>h.imp id fun h=>by omega) g2 mI;have AZ:∀c,gr a1 c->c<w2.heap.size:=fun c h=>(qF.1 (nu g2 h).2).1;have yH:=Zf (aL:=aL) (Q:=Q) (M:=M) (E:=E) (X0:=X) (B0:=B) (O0:=eF a hs fp aL) (hs0:=hs) (W0:=W) (s2:=w2.heap.size) (iu:=iu) hJ uP AY (fun c h=>by have:=y.g.de c (.inl h);omega) AZ OJ e1 e2 Iy e5 e6 e7 dL dk hsrc hp dy round;have ew:∀c,(X c∨c=l2∨∃j,c∈uO j)->c<w2.heap.size:=fun c h=>by
  rcases h with h|h|⟨j,hj⟩
  ·have:=y.g.de c (.inr h);omega
  ·omega
  ·have:=g0.lt hj;omega
 refine⟨l2,mark,w2,{target:=.fn (.func gf) cK.toArray,args:=#[.func (.yield l2) #[] #[]]},w2,gf,#[.func (.yield l2) #[] #[]]++cK.toArray,w2,Ix,?_,fun f' _=>ye ro f',?_,Af,He ?_⟩
 ·simp only[resolve,jM];simp[go_sem]
 ·simp[invoke,go_sem,xi]
 rw[xd];refine(hit (fun c=>X c∨c=l2∨∃j,c∈uO j) w2 cK br ew (fun i h=>?_) l2 _ yH ?_).mono ?_
 ·refine(g2.Oc hg A0 i h).mono (fun _ _ _ _ _ h=>h) fun c hc _ hc2=>hc ?_;rcases hc2 with h1|h1|h1
  ·exact .inl (.inr h1)
  ·exact .inl (.inl (.inr h1))
  ·exact .inr h1
 ·refine⟨fun c h=>h.elim,qR _,B1,X,mk 0,m,hs0,uO,fun c=>Iff.rfl,s1,?_,Nat.zero_le _,rfl,hM.symm,bO⟩;have e:(fun c=>(E c∨c=l2)∨False)=fun c=>E c∨c=l2:=funext fun c=>propext ⟨fun h=>h.elim id False.elim,.inl⟩;rw[e];exact y1
 ·have drop:∀{Bc Xc:NP} {S m hsc bS} {B2:NP} {Wc},eG J aL n S m Bc (fun c=>(E c∨c=l2)∨B2 c) Xc a1 Wc hsc bS->eG J aL n S m Bc E Xc a1 Wc hsc bS:=fun{Bc Xc S m hsc bS B2 Wc} yy=>
   ⟨yy.g.world rfl (fun _ _ _ _ _ h=>h) (fun _ _ _=>rfl) (fun c h=>.inl (h.elim (fun h=>.inl (.inl (.inl h))) .inr)) (fun c h=>yy.g.de c (h.elim (fun h=>.inl (.inl (.inl h))) .inr)) (fun c h hc=>yy.g.fA c (h.elim (fun h=>.inl (.inl (.inl h))) .inr) hc) yy.g.aZ yy.g.mine yy.g.defers,yy.j,fun c h=>yy.eb c (.inl (.inl h)),yy.bx,yy.ob⟩
  have fin:∀{Bc Xc:NP} {S m hsc bS} {B2:NP} {Wc} (r:Loop) (o:Obj),(∀c,B2 c->w2.heap.size<=c)->mS X Xc B Bc (eF a hs fp aL) (eF a1 hsc bS aL) hs hsc W Wc->eG J aL n S m Bc (fun c=>(E c∨c=l2)∨B2 c) Xc a1 Wc hsc bS->Wc.heap[l2]? =some (.loop r)→
    eG J aL n S m Bc E Xc a1 (Wc.putObj l2 o) hsc bS/\mS X Xc B Bc (eF a hs fp aL) (eF a1 hsc bS aL) hs hsc W (Wc.putObj l2 o):=fun{Bc Xc S m hsc bS B2 Wc} r o _ st yy hl=>
   ⟨drop (yy.fH hJ (.inl (.inr rfl)) (fun D hD e=>by have:=(nu yy.g hD).2;rw[e,hl]at this;cases this) o),by rw[World.putObj_size];exact st.size,fun c hc hx ho=>by rw[World.putObj_heap_other om];exact st.kp c hc hx ho,st.gx,st.gb,st.bm,st.go,st.hd⟩
  rintro e Wc ⟨⟨v,rfl⟩,B2,X2,(⟨cD,_,Bc,Xc,S1,m1,hsc,bS,_,st,yy,hle,rfl,rfl,hl⟩|⟨cD,_,Bc,Xc,S1,m1,hsc,bS,_,st,yy,j,hl,hq⟩)⟩
  ·obtain⟨yE,sE⟩:=fin _ (.loop {rec with state:=.exhausted,pending:=none}) cD st yy hl;exact⟨none,_,by have:=run_endLoop (P:=P) hl (by rw[e1];simp);rw[e2]at this;exact this,_,_,_,_,_,_,yE,sE,done⟩
  ·obtain⟨yE,sE⟩:=fin _ (.loop {({rec with state:=.done,pending:=some j}:Loop)with state:=.exhausted}) cD st yy hl;refine⟨some j,_,run_endLoop (P:=P) hl sA,?_⟩;rcases hq with⟨rfl,hq⟩|⟨id,rfl,hq⟩
   ·exact wpIn_ret ⟨_,_,_,_,_,_,yE,sE,hq⟩
   ·exact wpIn_exit ⟨_,_,_,_,_,_,yE,sE,hq⟩
end
section
variable {P:Program} {n:Nat} {J:JT} {aL:Prop} {S:St} {m:Option Nat} {B E X:NP} {a:Act} {W:World} {hs:NV} {fp:NL} {l:Nat} {ys:LA}
def eG.Zh{W':World}{m':Option Nat}(y:eG J aL n S m B E X a W hs fp)(hm:Il X X' W W')(hj:J B X' m' W'):eG J aL n S m' B E X' a W' hs fp/\mS X X' B B (eF a hs fp aL) (eF a hs fp aL) hs hs W W':=by
 have hsz:=hm.size;have hB:∀c,B c->W'.heap[c]? =W.heap[c]? :=fun c h=>hm.same c (y.bx c h).2 (y.bx c h).1;have OK:∀c,B c->¬X' c:=fun c h h'=>by
  rcases hm.grow c h' with h1|h1
  ·exact(y.bx c h).1 h1
  ·have:=(y.bx c h).2;omega
 refine⟨⟨?_,hj,y.eb,fun c h=>⟨OK c h,by have:=(y.bx c h).2;omega⟩,y.ob⟩,⟨hsz,fun c hc hx _=>hm.same c hc hx,hm.grow,fun c h=>.inl h,fun c h=>h,fun c h=>.inl h,fun _ _ _ h=>h⟩⟩;refine y.g.world rfl (fun c cs e fz hn hc=>?_) (fun r c hc=>hB c (y.ob c (.inl ⟨r,hc⟩))) (fun c h=>?_) (fun c h=>?_) (fun c h hc ho=>?_) ⟨rfl,rfl,rfl,qR _,fun _ _ _=>rfl⟩ (fun r c hc=>.inl (.inl ⟨r,hc⟩)) ?_
 ·rw[hm.same c (qF.1 hc).1 fun h=>hn (.inl (.inr h))];exact hc
 ·rcases h with h|h
  ·exact .inl (.inl h)
  ·exact(hm.grow c h).imp .inr id
 ·rcases h with h|h
  ·have:=y.g.de c (.inl h);omega
  ·exact hm.lt c h
 ·rcases h with h|h
  ·exact y.g.fA c (.inl h) (y.g.de c (.inl h)) ho
  ·exact OK c (y.ob c ho) h
 ·obtain⟨Ds,h1,h2,h3,h4⟩:=y.g.defers;refine⟨Ds,h1,h2,fun D hD=>?_,h4⟩;have xh:gr a D:=by unfold gr;rw[h2];exact qN.2 ⟨D,hD,rfl⟩
  exact⟨.inr (.inr xh),by rw[hB D (y.ob D (.inr xh))];exact(h3 D hD).2⟩
def Zi(hJ:jx P l ys J){i k:Nat}(ho:ops[i]? =some o)(htr:jP P n ops o=some (.o (.call (some d) f [x])))(hdf:oi o.op=false)(y:eG J aL n S (some k) B E X a W hs fp)(hf:S.ev f= .t (.v (.func (.yield l) #[] #[])))(hx:S.ev x= .own q)(hr:S.roots q= .live t [])(hn:t.bJ)(hk:ys[k]? =some t.bB)(hd:d<n)(hK:∀b X' W',eG J aL n (S.put d (.t (.v (.bool b)))) (if b then some (k+1)else none) B E X' (a.put (some d) (.bool b)) W' hs fp->mS X X' B B (eF a hs fp aL) (eF (a.put (some d) (.bool b)) hs fp aL) hs hs W W'->K (a.put (some d) (.bool b)) W'):
  wpOpIn (rF ro) 0 P ops Q i K a W:=by
 obtain⟨htr,hg⟩:=AM htr;have hw:Region.wanted o (yielded ops a.tmps)=true:=by simp[Region.wanted,hg]
 unfold wpOpIn;simp only[ho,hw,if_true];have ev:=y.g.ev f;rw[hf]at ev;have ev:=ev.dP;have dj:=y.g.root q;rw[hr]at dj;obtain⟨v,hv,how,_⟩:=dj;have ex:=y.g.ev x;rw[hx]at ex;have ex:=ex.gK;rw[hv]at ex;have ex:=Option.some.inj ex;have hrd:Rd W (fun c=>¬B c) t.bB v:=(how.bJ hn (O':=fun c=>¬B c)).bB (fun c h1 _=>h1) fun c hc h=>h (y.ob c (.inl ⟨q,hc⟩))
 ·obtain⟨fn,tm,as,bd,pS,hrnd⟩:=hJ.yield y.j hk y.bx hrd;rw[ex]at pS;have hrun:=Oi (ρ:=a.eval) htr ev pS;unfold Oper.wpIn;refine⟨fun f' _=>ye ro f',?_⟩;rw[Oper.semAt_eq _ _ _ (tp hdf),hrun,Oper.uponIn_round];refine⟨Af,?_⟩;have hro:RoundIn (rF ro) (0-1) P l fn tm as bd W fun e W'=>∃b X',e= .returned (.bool b)/\J B X' (if b then some (k+1)else none) W'/\Il X X' W W':=by
   cases ro with
   |none=>exact hrnd
   |some l'=>exact⟨hrnd.1,fun c cs hroom=>hrnd.2 c cs hroom⟩
  refine hro.mono ?_;rintro e W' ⟨b,X',rfl,hj,hm⟩;obtain⟨y',s'⟩:=y.Zh hm hj;have aD:=(DZ htr).1;rw[aD];refine hK b X' W' ⟨?_,y'.j,y'.eb,y'.bx,y'.ob⟩ s';exact y'.g.put hd (.t (.v _))
end
section
variable {P:Program} {n:Nat} {J:JT} {aL:Prop} {S:St} {m:Option Nat} {B E X:NP} {a:Act} {W:World} {hs:NV} {fp:NL} {l:Nat} {ys:LA}
def Zj{F:Fence}{k:Nat}{Q':Exit->Act->World->Prop}(hq:∀c a w,Q (.panic c) a w->Q' (.panic c) a w)(hl:LetsOut Q->LetsOut Q')(hh:o.wpIn F k P a w K Q):o.wpIn F k P a w K Q':=by
 unfold Oper.wpIn at*;refine⟨hh.1,?_⟩;have hh:=hh.2;generalize (o.semAt F.round a.eval).run P w=r at*;cases r with
 |ok x w'=>
  cases x<;>simp only[Oper.uponIn]at hh ⊢ <;>
   first
    |exact hh
    |exact⟨hh.1,CallsIn.mono hh.2 (fun e w'' he=>by cases e<;>first|exact hq _ _ _ he|exact hl he|exact he)⟩
    |exact⟨hh.1,RoundIn.mono hh.2 (fun e w'' he=>by cases e<;>first|exact hq _ _ _ he|exact hl he|exact he)⟩
 |halt x w'=>cases x<;>simp only[Oper.uponIn]at hh ⊢ <;>first|exact hq _ _ _ hh|exact hh
def OL{i:Nat}{ci:CI}{Kc:SP}(ho:ops[i]? =some o)(hc:jP P n ops o=some ci)(hdf:oi o.op=false)(hW:fF P n [ci] Kc S)(g:Good X w0 O0 n S a W hs fp)(hK:∀S' a' W' hs' al,Good X w0 O0 n S' a' W' hs' al->Kc S'->K a' W'):wpOpIn (rF ro) 0 P ops Q i K a W:=by
 have h:=NG (Q:=fun _ _ _=>False) ho hc hW g;unfold wpOp at h;unfold wpOpIn;simp only[ho]at h ⊢;split at h
 ·rename_i hw;rw[if_pos hw];rcases h with h|⟨_,_,_,h⟩
  ·exact Oper.wpIn_mono (fun a' w' ⟨S',hs',al,g',k'⟩=>hK S' a' w' hs' al g' k') (Zj (fun _ _ _ h=>h.elim) (fun⟨_,_,h⟩=>h.elim) (MU (tp hdf) h))
  ·exact h.elim
 ·rename_i hw;rw[if_neg hw];obtain⟨S',hs',al,g',k'⟩:=h;exact⟨fun f _=>ye ro f,hK S' _ _ hs' al g' k'⟩
def OM(n l:Nat)(ys:LA)(f x:Operand)(d:Nat)(m:Option Nat)(R:Bool->Option Nat->St->Prop)(S1:St):Prop:=
 ∃q t k,S1.ev f= .t (.v (.func (.yield l) #[] #[]))/\S1.ev x= .own q/\S1.roots q= .live t []/\t.bJ/\m=some k/\ys[k]? =some t.bB/\d<n/\∀b:Bool,R b (if b then some (k+1)else none) (S1.put d (.t (.v (.bool b))))
end
section
variable {P:Program} {n:Nat} {J:JT} {aL:Prop} {S:St} {m:Option Nat} {w0:World} {O0:Fr} {X:NP} {ys:LA}
def Zk{oq A1:LB}(F:uK ds l A1 fG)(r_:oq=jT ops)(Iz:∀i,i<l.length->A1.getD i []=oq.getD i [])(Zl:∀i,l.length<=i->A1.getD i []=[])(hsz:l.length<=ops.size)(htr:∀i (h:i<l.length),∃o,ops[i]? =some o/\jP P n ops o=some l[i].2/\oi o.op=false)(Zm:∀(D:NP),closed oq D->∀i,l.length<=i->i<ops.size->(∀j∈oq.getD i [],D j)->∀j,j<l.length->D j){v:Nat->A}{Dl:Nat->List (Nat×aE)}{R0:Nat->aE}{e0:Nat->A}(HV:∀i (h:i<l.length),AB P n l[i].1 l[i].2 ⟨jv l v e0 i,gq Dl R0 i⟩ (v i) (Dl i))(C:jR l Dl R0){tail:Nat}(hQ:∀S a w hs fp,Good X w0 O0 n S a w hs fp->S=⟨jv l v e0 l.length,gq Dl R0 l.length⟩->∀(fuel:Nat) (listed:Array Bool),tail<=fuel->listed.size=ops.size->(∀j,j<l.length->listed.getD j false=true)->(∀j,l.length<=j->j<ops.size->listed.getD j false=false)->wpAnyIn (rF ro) 0 P .any ops Q fuel listed a w):
  ∀(fuel:Nat) (listed:Array Bool) (S:St) (a:Act) (w:World) (hs:NV) (fp:NL),Good X w0 O0 n S a w hs fp->listed.size=ops.size->((List.range l.length).filter fun j=>!listed.getD j false).length+tail<=fuel->(∀j,l.length<=j->j<ops.size->listed.getD j false=false)→
   closed oq (fun j=>listed.getD j false=true)->wY l v Dl R0 e0 (fun j=>listed.getD j false) S->wpAnyIn (rF ro) 0 P .any ops Q fuel listed a w:=by
 have gt:∀{listed:Array Bool} {j:Nat},listed.size=ops.size->j<ops.size->(listed.getD j true=false↔¬listed.getD j false=true):=fun{listed j} h1 h2=>by
  have:j<listed.size:=om;simp[this]
 have tw:∀i o,ops[i]? =some o->∀j,j∈oq.getD i []↔∃e∈o.after,Region.binds .any e=true/\e.on=j:=by
  intro i o ho j;have:(jT ops).getD i []=(o.after.toList.filter (Region.binds .any)).map (·.on):=by
   rw[jT,qA,qU];have:ops.toList[i]? =some o:=sU ho;rw[this];rfl
  rw[r_,this,qN];constructor
  ·rintro⟨e,he,rfl⟩;obtain⟨h1,h2⟩:=qV.1 he;exact⟨e,sU h1,h2,rfl⟩
  ·rintro⟨e,he,hb,rfl⟩;exact⟨e,qV.2 ⟨sU he,hb⟩,rfl⟩
 have fin:∀(fuel:Nat) (listed:Array Bool) (S:St) (a:Act) (w:World) (hs:NV) (fp:NL),Good X w0 O0 n S a w hs fp->tail<=fuel->listed.size=ops.size->wY l v Dl R0 e0 (fun j=>listed.getD j false) S->(∀j,l.length<=j->j<ops.size->listed.getD j false=false)->(∀j,j<l.length->listed.getD j false=true)->wpAnyIn (rF ro) 0 P .any ops Q fuel listed a w:=by
  intro fuel listed S a w hs fp g OO hls lV hno hall;refine hQ S a w hs fp g ?_ fuel listed OO hls hall hno;obtain⟨hE,hR⟩:=lV;have h1:S.roots=gq Dl R0 l.length:=by
   rw[hR];have:∀k,k<=l.length->eu Dl R0 (fun j=>listed.getD j false) k=gq Dl R0 k:=by
    intro k;induction k with
    |zero=>intro _;rfl
    |succ k ih=>
     intro hk;show(if listed.getD k false=true then bo (Dl k) _ else _)=_;rw[if_pos (hall k om),ih om,yr]
   exact this _ (qR _)
  have h2:S.env=jv l v e0 l.length:=by
   funext s;obtain⟨ha,hb⟩:=DJ (v:=v) (e0:=e0) F.dst s l.length (qR _);by_cases hex:∃j,j<l.length/\bU l j=some s
   ·obtain⟨j,hj,eT⟩:=hex;rw[ha j hj eT,(hE s).1 j hj (hall j hj) eT]
   ·rw[hb fun j hj eT=>hex ⟨j,hj,eT⟩,(hE s).2 fun j hj _ eT=>hex ⟨j,hj,eT⟩]
  rw[←h1,←h2]
 have Zn:∀{D:NP},closed oq D->closed A1 D:=fun{D} h i hi j hj=>by
  rcases qH i l.length with h1|h1
  ·rw[Iz i h1]at hj;exact h i hi j hj
  ·rw[Zl i h1]at hj;simp at hj
 intro fuel;induction fuel with
 |zero=>
  intro listed S a w hs fp g hls js hno br lV;have hall:∀j,j<l.length->listed.getD j false=true:=fun j hj=>by
   have h0:=rX (show((List.range l.length).filter fun j=>!listed.getD j false).length=0 by omega);have:=List.filter_eq_nil_iff.1 h0 j (List.mem_range.2 hj);simpa using this
  exact fin 0 listed S a w hs fp g om hls lV hno hall
 |succ fuel ih=>
  intro listed S a w hs fp g hls js hno br lV;by_cases hall:∀j,j<l.length->listed.getD j false=true
  ·exact fin _ listed S a w hs fp g om hls lV hno hall
  ·have hne:∀(listed:Array Bool),listed.size=ops.size->closed oq (fun j=>listed.getD j false=true)->(¬ ∀j,j<l.length->listed.getD j false=true)->Region.ready .any ops listed≠ []:=by
    intro listed hls br Zo hr;refine Zo fun j=>?_;induction j using Nat.strongRecOn with
    |_ j Zp=>
     intro hj;refine Decidable.byContradiction fun hn=>?_;obtain⟨o,ho,_⟩:=htr j hj;have:j∈Region.ready .any ops listed:=by
      refine mem_ready.2 ⟨(gt hls om).2 hn,o,ho,fun e he hb=>?_⟩;have hmem:=(tw j o ho e.on).2 ⟨e,he,hb,rfl⟩;rw[←Iz j hj]at hmem;have hlt:=F.fwd j hj _ hmem;exact Zp _ hlt om
     rw[hr]at this;cases this
   refine⟨fun hr=>(hne listed hls br hall hr).elim,fun i hi=>?_⟩;obtain⟨hun,o,ho,AW⟩:=mem_ready.1 hi;have OP:=(qF.1 ho).1;have yt:∀j∈oq.getD i [],listed.getD j false=true:=fun j hj=>by
    obtain⟨e,he,hb,rfl⟩:=(tw i o ho j).1 hj;exact AW e he hb
   have bq:i<l.length:=by
    refine Decidable.byContradiction fun hn=>hall ?_;exact Zm _ br i om OP yt
   have jS:=(gt hls OP).1 hun;have HW:=NJ (D:=fun j=>listed.getD j false) F (Zn br) bq jS (fun j hj=>yt j (by rw[←Iz i bq];exact hj));obtain⟨h1,h2,h4,h3⟩:=lV.step C bq (F.self i bq) jS HW;obtain⟨o',ho',HX,hdf⟩:=htr i bq;rw[ho]at ho';cases ho';have rp:=qB bq;have hrd:mO l i=l[i].2.reads:=(by simp[mO,rp]);have hka:cM l i=l[i].1:=(by simp[cM,rp]);have hda:bU l i=l[i].2.dst:=(by simp[bU,rp]);rw[hrd]at h1;rw[hka]at h2 h4;rw[hda]at h3;have hW:=(HV i bq).run S.env S.roots (fun S'=>S'=⟨fH S.env l[i].2.dst (v i),bo (Dl i) S.roots⟩) h1 h2 h4 rfl;refine OL (Q:=Q) ho HX hdf (show fF P n [l[i].2] _ S from hW) g fun S' a' w' hs' al g' li=>?_;subst li;have eE:∀j,(listed.setIfInBounds i true).getD j false=true↔(listed.getD j false=true∨j=i):=fun j=>by
    by_cases hji:j=i
    ·subst hji;simp[show j<listed.size by omega]
    ·rw[getD_set_ne false (Ne.symm hji)];simp[hji]
   refine ih _ _ a' w' hs' al g' (by simp[hls]) ?_ ?_ ?_ ?_
   ·have e:((List.range l.length).filter fun j=>!(listed.setIfInBounds i true).getD j false)=((List.range l.length).filter fun j=>!listed.getD j false).filter fun j=>j !=i:=by
     rw[List.filter_filter];refine List.filter_congr fun j _=>?_;by_cases hji:j=i
     ·subst hji;have:=(eE j).2 (.inr rfl);rw[this];simp
     ·rw[getD_set_ne false (Ne.symm hji)];simp[hji]
    rw[e];have:(((List.range l.length).filter fun j=>!listed.getD j false).filter fun j=>j !=i).length<((List.range l.length).filter fun j=>!listed.getD j false).length:=by
     rw[List.length_filter_lt_length_iff_exists];exact⟨i,qV.2 ⟨List.mem_range.2 bq,sU jS⟩,sA⟩
    omega
   ·intro j h5 h6;rw[getD_set_ne false om];exact hno j h5 h6
   ·intro j hj k hk;refine(eE k).2 (.inl ?_);rcases(eE j).1 hj with h|rfl
    ·exact br j h k hk
    ·exact yt k hk
   ·have e:(fun j=>(listed.setIfInBounds i true).getD j false)=fun j=>listed.getD j false||j==i:=by
     funext j;have:=eE j;by_cases hji:j=i
     ·subst hji;simp[show j<listed.size by omega]
     ·rw[getD_set_ne false (Ne.symm hji)];simp[hji]
    rw[e];exact h3
end
def uK.pfx{tl:List (DK×CI)}{af:LB}(F:uK ds (l++tl) af fG):uK ds l (af.take l.length) fG:=by
 have hg:∀i,i<l.length->(l++tl)[i]? =l[i]? :=fun i h=>rR h;have hr:∀i,i<l.length->mO (l++tl) i=mO l i:=fun i h=>by simp only[mO,hg i h]
 have hd:∀i,i<l.length->bU (l++tl) i=bU l i:=fun i h=>by simp only[bU,hg i h]
 have hk:∀i,i<l.length->cM (l++tl) i=cM l i:=fun i h=>by simp only[cM,hg i h]
 have ha:∀i,i<l.length->(af.take l.length).getD i []=af.getD i []:=fun i h=>by
  rw[qA,qA,List.getElem?_take,if_pos h]
 have hlt:∀{i},i<l.length->i<(l++tl).length:=fun h=>by rw[qD];omega
 have hp:∀i j,i<l.length->j<l.length->mP (l++tl) i j=mP l i j:=fun i j h h'=>by
  simp only[mP,hk i h,hk j h',hd i h,hd j h',hr i h,hr j h']
 refine⟨?_,fun i j h h' hne s hs=>?_,fun i h j hj=>?_,fun i h=>F.HT i (hlt h),fun i h j hj=>?_,fun p hp=>F.item p (List.mem_append_left _ hp),fun i h s hs=>?_,fun i j h h' hne=>?_,fun i h hc d dR=>?_,fun i h hc d dR=>?_⟩
 ·rw[qL,F.oq,qD];omega
 ·rw[←hd i h]at hs;rw[←hd j h'];exact F.dst i j (hlt h) (hlt h') hne s hs
 ·rw[ha i h]at hj;exact F.fwd i (hlt h) j hj
 ·rw[ha i h];exact F.DM i (hlt h) j hj
 ·rw[←hr i h]at hs;rw[←hd i h];exact F.self i (hlt h) s hs
 ·have:=F.ind i j (hlt h) (hlt h') hne;rw[hr i h,hd j h',hp j i h' h,hp i j h h']at this;exact this
 ·rw[←hk i h]at hc;rw[←hd i h]at dR;exact F.small i (hlt h) hc d dR
 ·rw[←hk i h]at hc;rw[←hd i h]at dR;exact F.HU i (hlt h) hc d dR
section
variable {P:Program} {n:Nat} {J:JT} {aL:Prop} {S:St} {m:Option Nat} {lY:Nat} {ys:LA}
def Zq{af:LB}(F:uK ds l af fG){v:Nat->A}{Dl:Nat->List (Nat×aE)}(h2:∀i (h:i<l.length),AB P n l[i].1 l[i].2 ⟨jv l v S.env i,gq Dl S.roots i⟩ (v i) (Dl i))(hds:bW ds S.roots=S.roots):jR l Dl S.roots:=by
 have hk:∀{i} (hi:i<l.length),cM l i=l[i].1:=fun{i} hi=>by simp[cM,qB hi]
 have hd:∀{i} (hi:i<l.length),bU l i=l[i].2.dst:=fun{i} hi=>by simp[bU,qB hi]
 exact⟨fun i hi r hr=>by rw[hk hi,hd hi];exact(h2 i hi).keys r hr,fun i hi hr=>(h2 i hi).fm (by rw[←hk hi];exact hr),fun i hi hr r hkr=>by rw[hd hi];exact(h2 i hi).es (by rw[←hk hi];exact hr) r hkr,fun i hi W m hW r hkr=>by rw[hd hi];exact(h2 i hi).tv W m (by rw[←hk hi];exact hW) r hkr,
  F.dst,F.small,fun i hi hc d dR r hr=>by rw[←hds];exact Nx (F.HU i hi hc d dR) hr,
  fun i hi=>by
   rw[hk hi,hd hi];have:=F.item l[i] (rJ hi);revert this;rcases l[i]with⟨k,c⟩;cases c<;>simp only[uH,qM,beq_iff_eq,CI.dst]<;>intro h
   ·exact h.2
   ·rw[h.2];exact h.1.2⟩
def gd.IA(hJ:jx P lY ys J){H:Hints}{id:Nat}{k1 k2:DK}{c2:CI}{Q:Exit->St->Option Nat->Prop}(aV:wZ P n H id ops=some (ds,l++[(k1,.o (.call (some d) f [x])),(k2,c2)]))(A2:oy (.region id ops true)=true)(hds:bW ds S.roots=S.roots)(h:pJ P n l (OM n lY ys f x d m fun _ m' S2=>fF P n [c2] (fun S3=>Q .normal S3 m') S2) S):gd P n J aL (.region id ops true) Q S m:=by
 unfold wZ at aV;split at aV<;>(try split at aV)<;>(try cases aV);rename_i l' hl rj;obtain⟨hm,hlen,hok⟩:=rj;obtain⟨h1,h2⟩:=DQ hl;have hdf:=wR hl;simp only[Option.some.injEq]at aV;have pu:(pM P n H id ops l').2=l++[(k1,CI.o (.call (some d) f [x])),(k2,c2)]:=by rw[aV]
 have mI:(pM P n H id ops l').1=ds:=by rw[aV]
 have eZ:∀i (hi:i<l'.length),∃hi':i<(l++[(k1,CI.o (.call (some d) f [x])),(k2,c2)]).length,(l++[(k1,CI.o (.call (some d) f [x])),(k2,c2)])[i].2=l'[i]:=fun i hi=>by
  have e:i<(pM P n H id ops l').2.length:=om;refine⟨by rw[←pu];exact e,?_⟩;simp only[←pu];simp[pM]
 rw[mI,pu]at hok;have F:=NH hok;rw[pu]at hlen;have wm:l'.length=l.length+2:=by rw[←hlen];simp
 have hsz:ops.size=l.length+2:=by rw[←wm,h1];simp
 have pR:∀i (hi:i<l.length+2),∃o,ops[i]? =some o/\(∃c,(l++[(k1,CI.o (.call (some d) f [x])),(k2,c2)])[i]? =some c/\jP P n ops o=some c.2)/\oi o.op=false:=fun i hi=>by
  have hi':i<ops.toList.length:=by simp;omega
  obtain⟨h3,h4⟩:=eZ i om;refine⟨ops.toList[i],by rw[←Array.getElem?_toList];exact qB hi',⟨_,qB h3,?_⟩,hdf _ (rJ _)⟩;rw[h2 i hi' om,h4]
 have hk:∃o,ops[l.length]? =some o/\jP P n ops o=some (.o (.call (some d) f [x]))/\oi o.op=false:=by
  obtain⟨o,h3,⟨c,h4,h5⟩,h6⟩:=pR l.length om;rw[rD (qR _),Nat.sub_self]at h4;simp only[List.getElem?_cons_zero,Option.some.injEq]at h4;rw[←h4]at h5;exact⟨o,h3,h5,h6⟩
 have hk2:∃o,ops[l.length+1]? =some o/\jP P n ops o=some c2/\oi o.op=false:=by
  obtain⟨o,h3,⟨c,h4,h5⟩,h6⟩:=pR (l.length+1) om;rw[rD om,show l.length+1-l.length=1 by omega]at h4;simp only[List.getElem?_cons_succ,List.getElem?_cons_zero,Option.some.injEq]at h4;rw[←h4]at h5;exact⟨o,h3,h5,h6⟩
 have pX:Ij ops=true:=by
  have hy:Ik ops=true:=by
   obtain⟨o,h3,h4,_⟩:=hk;obtain⟨h5,c,h6,h7,_⟩:=(fun h=>DZ (AM h).1) h4;unfold Ik;rw[hsz,Nat.add_sub_cancel,h3];simp[h6,h7]
  simpa[oy,hy]using A2
 simp only[Ij,qM,rO,List.mem_range,List.contains_iff_mem,hsz,Nat.add_sub_cancel]at pX;obtain⟨⟨_,t1⟩,t2⟩:=pX;have FP:=F.pfx;have hfl:(l++[(k1,CI.o (.call (some d) f [x])),(k2,c2)]).length=l.length+2:=sA;have OQ:∀(D:NP),closed (jT ops) D->(∀j∈(jT ops).getD l.length [],D j)->∀j,j<l.length->D j:=fun D hD r_ j hj=>
  HS (m:=l.length+2) (fun i hi=>F.fwd i (by rw[hfl];exact hi)) (fun i hi=>F.DM i (by rw[hfl];exact hi)) hD l.length om r_ j (t1 j hj)
 obtain⟨v,Dl,q2,q3⟩:=HO l S FP.item h;intro B E X a W hs fp y ro hro _;refine wpIn_region_draw fun t=>?_;simp only[Region.schedule,hm,Bool.true_or,if_true];refine wpAnyIn_sound ops.size t _ a _ ?_;have hfalse:∀j,(Array.replicate ops.size false).getD j false=false:=fun j=>by
  by_cases hj:j<ops.size<;>simp[hj]
 have hno:∀j,¬(Array.replicate ops.size false).getD j false=true:=fun j h=>by rw[hfalse]at h;cases h
 refine Zk (oq:=jT ops) (A1:=(jT ops).take l.length) (tail:=2) FP rfl (fun i hi=>by rw[qA,qA,List.getElem?_take,if_pos hi]) (fun i hi=>by rw[qA,List.getElem?_take,if_neg om];rfl) om (fun i hi=>?_) (fun D hD i h3 h4 h5=>?_) q2 (Zq FP q2 hds) ?_ _ _ S a _ hs fp (y.g.drawn _) sA ?_ (fun j _ _=>hfalse j) (fun i hi=>(hno i hi).elim) ⟨fun s=>⟨fun j _ hj _=>(hno j hj).elim,fun _=>rfl⟩,?_⟩
 ·obtain⟨o,h3,⟨c,h4,h5⟩,h6⟩:=pR i om;rw[rR hi,qB hi]at h4;rw[←Option.some.inj h4]at h5;exact⟨o,h3,h5,h6⟩
 ·rcases qH l.length i with h6|h6
  ·have e:i=l.length+1:=om;subst e;exact OQ D hD (hD _ (h5 _ t2))
  ·have e:i=l.length:=om;subst e;exact OQ D hD h5
 ·intro S1 a1 W1 hs1 aO g1 AX fuel listed OO hls hall hnl;subst AX;obtain⟨B1,y1,s1⟩:=y.next hJ g1;obtain⟨q,tt,kk,hf,hx,hr,be,rfl,hys,hdn,hb⟩:=q3;obtain⟨fuel,rfl⟩:∃fu,fuel=fu+2:=⟨fuel-2,om⟩;have tw:∀i o,ops[i]? =some o->∀j,j∈(jT ops).getD i []↔∃e∈o.after,Region.binds .any e=true/\e.on=j:=by
   intro i o ho j;have:(jT ops).getD i []=(o.after.toList.filter (Region.binds .any)).map (·.on):=by
    rw[jT,qA,qU];have:ops.toList[i]? =some o:=sU ho;rw[this];rfl
   rw[this,qN];constructor
   ·rintro⟨e,he,rfl⟩;obtain⟨h1,h2⟩:=qV.1 he;exact⟨e,sU h1,h2,rfl⟩
   ·rintro⟨e,he,hb,rfl⟩;exact⟨e,qV.2 ⟨sU he,hb⟩,rfl⟩
  have OR:∀i,i∈Region.ready .any ops listed↔i=l.length:=fun i=>by
   rw[mem_ready];constructor
   ·rintro⟨h3,o,h4,h5⟩;have hi:=(qF.1 h4).1;rcases Nat.lt_trichotomy i l.length with h6|h6|h6
    ·have:=hall i h6;simp[show i<listed.size by omega]at this h3;rw[this]at h3;cases h3
    ·exact h6
    ·have e:i=l.length+1:=om;subst e;obtain⟨e,he,hbd,De⟩:=(tw _ o h4 _).1 t2;have:=h5 e he hbd;rw[De,hnl l.length (qR _) om]at this;cases this
   ·rintro rfl;obtain⟨o,h3,h4,h5⟩:=hk;have hun:listed.getD l.length true=false:=by
     have:=hnl l.length (qR _) om;simp[show l.length<listed.size by omega]at this ⊢;exact this
    refine⟨hun,o,h3,fun e he hbd=>hall _ (F.fwd l.length (by rw[hfl];omega) _ ((tw _ o h3 _).2 ⟨e,he,hbd,rfl⟩))⟩
  refine⟨fun b9=>(by have:=(OR l.length).2 rfl;rw[b9]at this;cases this),fun i hi=>?_⟩;obtain rfl:=(OR i).1 hi;obtain⟨o,ho,htr,Zr⟩:=hk;refine Zi hJ ho htr Zr y1 hf hx hr be hys hdn fun b X' W' y' s'=>?_;have bO:∀j,(listed.setIfInBounds l.length true).getD j false=true↔(listed.getD j false=true∨j=l.length):=fun j=>by
   by_cases hji:j=l.length
   ·subst hji;simp[show l.length<listed.size by omega]
   ·rw[getD_set_ne false (Ne.symm hji)];simp[hji]
  obtain⟨o2,A3,Zs,Zt⟩:=hk2;have OS:∀i,i∈Region.ready .any ops (listed.setIfInBounds l.length true)↔i=l.length+1:=fun i=>by
   rw[mem_ready];constructor
   ·rintro⟨h3,o,h4,h5⟩;have hi:=(qF.1 h4).1;rcases qH i (l.length+1)with h6|h6
    ·have:(listed.setIfInBounds l.length true).getD i false=true:=(bO i).2 (by
      rcases qH i l.length with h7|h7
      ·exact .inl (hall i h7)
      ·exact .inr om)
     simp[show i<listed.size by omega]at this h3;rw[this]at h3;cases h3
    ·omega
   ·rintro rfl;refine⟨?_,o2,A3,fun e he hbd=>(bO _).2 ?_⟩
    ·have:=hnl (l.length+1) om om;rw[getD_set_ne true om];simp[show l.length+1<listed.size by omega]at this ⊢;exact this
    ·have:=F.fwd (l.length+1) (by rw[hfl];omega) _ ((tw _ o2 A3 _).2 ⟨e,he,hbd,rfl⟩);rcases qH e.on l.length with h7|h7
     ·exact .inl (hall _ h7)
     ·exact .inr om
  refine⟨fun b9=>(by have:=(OS (l.length+1)).2 rfl;rw[b9]at this;cases this),fun i hi=>?_⟩;obtain rfl:=(OS i).1 hi;refine OL A3 Zs Zt (hb b) y'.g fun S3 a3 W3 bY iT g3 hq=>?_;obtain⟨B3,y3,s3⟩:=y'.next hJ g3;refine wpAnyIn_done ?_ ⟨S3,_,B3,X',bY,iT,y3,s1.trans (s'.trans s3),hq⟩ fuel;refine List.eq_nil_iff_forall_not_mem.2 fun j hj=>?_;obtain⟨h3,o4,h4,_⟩:=mem_ready.1 hj;have hj2:=(qF.1 h4).1;have:((listed.setIfInBounds l.length true).setIfInBounds (l.length+1) true).getD j false=true:=by
   by_cases hji:j=l.length+1
   ·subst hji;simp[show l.length+1<listed.size by omega]
   ·rw[getD_set_ne false (Ne.symm hji)];refine(bO j).2 ?_;rcases qH j l.length with h7|h7
    ·exact .inl (hall _ h7)
    ·exact .inr om
  simp[show j<listed.size by omega]at this h3;rw[this]at h3;cases h3
 ·refine rA (Nat.add_le_add_right (rA (List.length_filter_le _ _) (by simp;exact qR _)) 2) om
 ·have:∀k,eu Dl S.roots (fun j=>(Array.replicate ops.size false).getD j false) k=S.roots:=by
   intro k;induction k with
   |zero=>rfl
   |succ k ih=>
    show(if(Array.replicate ops.size false).getD k false=true then bo (Dl k) _ else _)=_;rw[if_neg (hno k),ih]
  exact(this _).symm
def cw.IA(hJ:jx P lY ys J){ds:LN}{l:List (DK×CI)}{k1 k2:DK}{d:Nat}{f x:Operand}{c2:CI}{Q:Exit->St->Option Nat->Prop}(hds:bW ds S.roots=S.roots)(h:pJ P n l (OM n lY ys f x d m fun _ m' S2=>fF P n [c2] (fun S3=>Q .normal S3 m') S2) S):
  cw P n J aL (.draw ds (l++[(k1,.o (.call (some d) f [x])),(k2,c2)])) Q S m:=fun H code hc A2=>by
 obtain⟨id,ops,H',rfl,aV⟩:∃id ops H',code= .region id ops true/\wZ P n H' id ops=some (ds,l++[(k1,.o (.call (some d) f [x])),(k2,c2)]):=by
  unfold dg at hc;split at hc<;>(try split at hc)<;>(try split at hc)<;>(try (first|cases hc;done|skip))
  all_goals first
   |(simp only[Option.some.injEq,CC.draw.injEq]at hc
     obtain⟨h1,h2⟩:=hc;exact⟨_,_,H,rfl,by rw[‹wZ P n H _ _=_›,←h1,←h2]⟩)
   |cases hc
 exact gd.IA hJ aV A2 hds h
end
section
variable {P:Program} {n:Nat} {H:Hints}
def Zu(len:Nat):Exit->St->Option Nat->Prop
 | .normal,_,m=>m=some len∨m=none
 | .ret,_,m=>m=some len∨m=none
 |_,_,_=>False
def pT.of{f:FuncId}{fn:Func}{code:Code}{c:CC}(hf:P.funcs[f]? =some fn)(hb:fn.body=some code)(hn:fn.ntmps=n)(hres:fn.results=#[])(hc:dg P n H code=some c)(A2:oy code=true){cap ys:LA}(bV:n<=100000)(mR:cap.length<n)
  (body:∀(l:Nat) (J:JT),jx P l ys J->cw P n J True c (Zu ys.length) (St.of (enum 0 (A.v (.func (.yield l) #[] #[])::cap.map A.t)) []) (some 0)):pT P f cap ys:=by
 intro X w cK br hX hcap l J hJ hj0;have hbody:=body l J hJ H code hc A2;generalize AQ:(Value.func (.yield l) #[] #[])=yv at*;let R:Ending->World->Prop:=fun e W'=>(∃v,e= .returned v)/\∃B X',J B X' (some ys.length) W'∨J B X' none W'
 have hend:∀(Ds:LN) (tm:Array Value) (B X':NP) (W:World),Ds.Nodup->(∀D∈Ds,B D/\W.heap[D]? =some (.deferred (some [])))->(∀c,B c->¬X' c/\c<W.heap.size)->(J B X' (some ys.length) W∨J B X' none W)->LeavesInM Fence.wide 0 P fn tm R (Ds.map fun D=>{target:=.collected D,args:=#[]}) .returning W:=by
  intro Ds;induction Ds with
  |nil=>
   intro tm B X' W _ _ _ hj;refine Hn ⟨.tuple #[],?_,⟨_,rfl⟩,B,X',hj⟩;unfold results;rw[hres];simp[Sem.run_pure,Sem.run_bind]
  |cons D Ds ih=>
   intro tm B X' W hd IB yI hj;obtain⟨Ei,hD⟩:=IB D sA;refine⟨sA,.inl ⟨D,W.putObj D (.deferred none),rfl,run_takeDeferred hD,ih tm B X' _ (qX.1 hd).2 (fun D' tc=>?_) (fun c h=>sU (yI c h)) ?_⟩⟩
   ·have hne:D'≠D:=fun e=>(qX.1 hd).1 (e▸tc);exact⟨(IB D' (by simp[tc])).1,by rw[World.putObj_heap_other hne];exact(IB D' (by simp[tc])).2⟩
   ·have hm:D_ B B W (W.putObj D (.deferred none)):=⟨sA,fun c _ h=>World.putObj_heap_other fun e=>h (e▸Ei),fun c h=>.inl h,fun c h=>sU ((yI c h).2),rfl,rfl,rfl⟩;exact hj.imp (fun h=>hJ.own h (fun c h=>(yI c h).1) hm) fun h=>hJ.own h (fun c h=>(yI c h).1) hm
 refine callsIn_wide.1 (callsIn_of_wp_marks (F:=Fence.wide) (n:=0) hf hb trivial ?_);generalize hA:({tmps:=#[yv]++cK.toArray++Array.replicate (fn.ntmps-(#[yv]++cK.toArray).size) Go.undef,defers:=[]}:Act)=ac;have hsize:ac.tmps.size=n:=by rw[←hA];simp;omega
 have D6:ac.tmps.getD 0 Go.undef=yv:=by rw[←hA];simp[qC,Array.getElem?_append]
 have D7:∀i,i<cK.length->ac.tmps.getD (i+1) Go.undef=cK.getD i Go.undef:=fun i hi=>by
  rw[←hA];simp[qC,qA,Array.getElem?_append,hi]
 have AR:ac.defers=[]:=by rw[←hA]
 have g0:Good (fun c=>False∨X c) w (eF ac (fun _=>none) (fun _=>[]) True) n (St.of (enum 0 (A.v yv::cap.map A.t)) []) ac w (fun _=>none) (fun _=>[]):=by
  have hm:Mem (fun c=>False∨X c) w [] (fun _=>none) (fun _=>[]):=⟨fun i t h=>by simp at h,fun r _=>⟨rfl,rfl⟩,fun r r' b h=>by simp at h,fun _=>List.nodup_nil,fun r b h=>by simp at h,fun b h=>hX b (h.elim False.elim id),fun r h hr=>by cases hr⟩;have:=hm.good (n:=n) (aL:=True) (tm:=ac.tmps) (l:=enum 0 (A.v yv::cap.map A.t)) hsize bV fun s hs=>by
   obtain⟨i,hi,rfl⟩:=AN hs;rw[Nat.zero_add];cases i with
   |zero=>
    show Is _ _ _ (A.v yv) (ac.tmps.getD 0 Go.undef);rw[D6];exact .t (.v _)
   |succ i=>
    have hi':i<cap.length:=sU hi;show Is _ _ _ ((A.v yv::cap.map A.t)[i+1]) (ac.tmps.getD (i+1) Go.undef);rw[List.getElem_cons_succ,rQ,D7 i om];exact .t ((hcap i hi').mono (fun _ _ _ _ _ h=>h) fun x hx _ h=>by
     rcases h with h|⟨r,h⟩
     ·exact hx (h.elim False.elim id)
     ·simp at h)
  have:=this.Im fun c h=>absurd h (xe rfl c);rw[show ac={tmps:=ac.tmps,defers:=[]} by rw[←AR]];exact this
 have y0:eG J True n (St.of (enum 0 (A.v yv::cap.map A.t)) []) (some 0) (fun _=>False) (fun _=>False) X ac w (fun _=>none) (fun _=>[]):=
  ⟨g0,hj0,fun c h=>h,fun c h=>h.elim,fun c h=>by
   rcases h with⟨j,h⟩|h
   ·simp at h
   ·exact xe AR c h⟩
 refine wpIn_mono (hbody _ _ X ac w _ _ y0 none (fun l' e=>by cases e) (fun _ _=>trivial)) ?_;rintro e a' W' ⟨S',m',B',X',hs',al,y',_,q⟩;obtain⟨Ds,d1,d2,d3,_⟩:=y'.g.defers;have sf:(m'=some ys.length∨m'=none)->LeavesInM Fence.wide 0 P fn a'.tmps R a'.defers .returning W':=fun hm=>by
  rw[d2];refine hend Ds a'.tmps B' X' W' d1 (fun D hD=>⟨y'.ob D (.inr (by unfold gr;rw[d2];exact qN.2 ⟨D,hD,rfl⟩)),(d3 D hD).2⟩) y'.bx ?_;rcases hm with rfl|rfl
  ·exact .inl y'.j
  ·exact .inr y'.j
 cases e with
 |normal=>exact sf q
 |ret=>exact sf q
 |_=>exact q.elim
end
def IC(Sm Sn:St)(NI:Prop)(ai:LN)(k:Nat)(Q:Exit->St->Prop):Exit->St->Prop
 | .normal,S'=>iI S' k 1000000000 fun aA=>T.df aA/\NI/\kq Sm ai aA=Sn
 | .ret,S'=>iI S' k 1000000000 fun aA=>T.df aA/\Q .ret (kq Sm ai aA)
 | .exit id,S'=>iI S' k 1000000000 fun aA=>T.df aA/\Q (.exit id) (kq Sm ai aA)
 |_,_=>False
section
variable {P:Program} {w0:World} {O0:Fr} {n:Nat} {S:St} {a:Act} {W W':World} {hs:NV} {fp:NL} {X:NP}
def Good.Zv(g:Good X w0 O0 n S a W hs fp){aA:LA}(dL:ai.Nodup)(hsrc:gB S ai aH)(hrl:aA.length=aH.length){al:NL}{hsc:NV}(hsz:W.heap.size<=W'.heap.size)(hkp:∀c,c<W.heap.size->(∀q∈ai,c∉fp q)->W'.heap[c]? =W.heap[c]?)(hos:W'.os=W.os)(zY:W'.tape=W.tape)(Zw:W'.output=W.output)(iV:∀i q,ai[i]? =some q->hsc (1000000000+i)=hs q)(dj:∀i t,aA[i]? =some t->∃x,hsc (1000000000+i)=some x/\Ow W' (fun _=>False) t x (al (1000000000+i))/\(t.b8=true∨t= .any))(hdj:∀r r' b,b∈al r->b∈al r'->r=r')(aK:∀r,(al r).Nodup)(hold:∀j b,b∈al j->(∃q,q∈ai/\b∈fp q)∨W.heap.size<=b)(be:T.df aA):
  ∃dQ,Good X w0 O0 n (kq S ai aA) a W' hs dQ/\∀r b,b∈dQ r->(∃i,i<ai.length/\b∈al (1000000000+i))∨b∈fp r:=by
 obtain⟨Du,px⟩:=uC hsrc;let dQ:NL:=fun r=>match(ai.zip (List.range ai.length)).lookup r with|some i=>al (1000000000+i)|none=>fp r
 have pz:∀i (h:i<ai.length),dQ ai[i]=al (1000000000+i):=fun i h=>by
  have h2:=yj (ks:=ai) (vs:=List.range ai.length) sA dL i h (sU h);simp only[List.getElem_range]at h2;simp only[dQ,h2]
 have pA:∀r,r∉ai->dQ r=fp r:=fun r h2=>by simp only[dQ,wD h2]
 have kinds:∀r,(∃i,∃h:i<ai.length,r=ai[i])∨r∉ai:=fun r=>by
  by_cases h2:r∈ai
  ·obtain⟨i,hi,rfl⟩:=rE.1 h2;exact .inl ⟨i,hi,rfl⟩
  ·exact .inr h2
 have jr:∀r b,b∈dQ r->(∃i,∃h:i<ai.length,r=ai[i]/\b∈al (1000000000+i))∨(r∉ai/\b∈fp r):=fun r b hb=>by
  rcases kinds r with⟨i,h,rfl⟩|h2
  ·rw[pz i h]at hb;exact .inl ⟨i,h,rfl,hb⟩
  ·rw[pA r h2]at hb;exact .inr ⟨h2,hb⟩
 have hk:jK (fun b=>¬Ob X fp b) W W':=fun b cs e fz hn hb=>by
  rw[hkp b (qF.1 hb).1 fun q _ hq=>hn (.inr ⟨q,hq⟩)];exact hb
 have mH:∀r,r∉ai->∀c∈fp r,W'.heap[c]? =W.heap[c]? :=fun r hr c hc=>hkp c (g.lt hc) fun q hq Zx=>hr (by have:=g.cj r q c hc Zx;exact this▸hq);have hO:∀b,¬Ob X fp b->b<W.heap.size->¬Ob X dQ b:=by
  rintro b h1 hlt (h|⟨r,hr⟩)
  ·exact h1 (.inl h)
  ·rcases jr r b hr with⟨i,h,rfl,h2⟩|⟨h3,h4⟩
   ·rcases hold _ b h2 with⟨q,_,hq⟩|h2
    ·exact h1 (.inr ⟨q,hq⟩)
    ·omega
   ·exact h1 (.inr ⟨r,h4⟩)
 have apart:∀r b,r∉ai->b∈fp r->∀j,b∉al j:=fun r b hr hb j hj=>by
  rcases hold j b hj with⟨q,hq,py⟩|h
  ·have:=g.cj r q b hb py;exact hr (this▸hq)
  ·have:=g.lt hb;omega
 refine⟨dQ,⟨g.size,g.defers.keep fun D _ hD=>?_,fun i=>(g.env i).mono hk hO (fun _ _ h=>h),fun r=>?_,fun r r' b hr hr'=>?_,fun r=>?_,fun r b hb=>?_,fun b h=>Nat.lt_of_lt_of_le (g.de b h) hsz,g.fA,fun r b hb=>?_,⟨hos.trans g.aZ.os,zY.trans g.aZ.tape,Zw.trans g.aZ.output,rA g.aZ.size hsz,fun b hb hn=>?_⟩,fun r t lk hr=>?_,g.aV,g.small,g.ax⟩,fun r b hb=>?_⟩
 ·rw[hkp D (qF.1 hD).1 fun q _ hq=>g.zT hD q hq];exact hD
 ·show iG _ _ _ (gp S.roots ai aA r) _ _;rcases wB (f:=S.roots) (r:=r) (show ai.length=aA.length by omega)with⟨i,hi,hi',rfl,h4⟩|⟨h3,h4⟩
  ·rw[h4,pz i hi];obtain⟨x,hx,ho,bv⟩:=dj i _ (qB hi');rw[iV i _ (qB hi)]at hx;rcases bv with bv|bv
   case inr=>
    rw[bv]at ho ⊢;show al (1000000000+i)=[];generalize al (1000000000+i)=f at ho;cases ho;rfl
   rw[yg bv];exact⟨x,hx,ho.bJ ((T.kJ aA).1 be _ (rJ hi')),fun p hp=>by simp at hp⟩
  ·have cP:r∉ai:=fun hm=>by
    obtain⟨i,hi,rfl⟩:=rE.1 hm;exact h3 i hi rfl
   rw[h4,pA r cP];exact g.rl r hk hO (fun _ _ h=>h) rfl (mH r cP)
 ·rcases jr r b hr with⟨i,h,rfl,h2⟩|⟨h2,h3⟩<;>rcases jr r' b hr' with⟨j,h',rfl,bi⟩|⟨bi,kG⟩
  ·have:=hdj _ _ b h2 bi;have:i=j:=om;subst this;rfl
  ·exact(apart r' b bi kG _ h2).elim
  ·exact(apart r b h2 h3 _ bi).elim
  ·exact g.cj r r' b h3 kG
 ·rcases kinds r with⟨i,h,rfl⟩|h2
  ·rw[pz i h];exact aK _
  ·rw[pA r h2];exact g.nodup r
 ·rcases jr r b hb with⟨i,h,rfl,h2⟩|⟨h2,h3⟩
  ·rcases hold _ b h2 with⟨q,_,hq⟩|h4
   ·exact g.cV q b hq
   ·intro hX;have:=g.de b hX;omega
  ·exact g.cV r b h3
 ·rcases jr r b hb with⟨i,h,rfl,h2⟩|⟨h2,h3⟩
  ·rcases hold _ b h2 with⟨q,_,hq⟩|h4
   ·exact g.mine q b hq
   ·exact .inr (rA g.aZ.size h4)
  ·exact g.mine r b h3
 ·rw[hkp b (Nat.lt_of_lt_of_le hb g.aZ.size) fun q _ hq=>?_]
  ·exact g.aZ.block b hb hn
  ·rcases g.mine q b hq with h|h
   ·exact hn h
   ·omega
 ·have hr:gp S.roots ai aA r= .live t lk:=hr;rcases wB (f:=S.roots) (r:=r) (show ai.length=aA.length by omega)with⟨i,hi,hi',rfl,h4⟩|⟨h3,h4⟩
  ·rw[h4]at hr;obtain⟨x,hx,ho,bv⟩:=dj i _ (qB hi');rcases bv with bv|bv
   ·rw[yg bv]at hr;cases hr;exact bv
   ·rw[bv]at hr;cases hr
  ·rw[h4]at hr;exact g.b8 r t lk hr
 ·rcases jr r b hb with⟨i,h,rfl,h2⟩|⟨h2,h3⟩
  ·exact .inl ⟨i,h,h2⟩
  ·exact .inr h3
def Zy{XP B:NP}{Sm Sn:St}(gW:Good (fun c=>XP c∨B c) w0 O0 n Sm a W hs fp){l:Nat}{rec:Loop}(hl:W.heap[l]? =some (.loop rec))(AW:rec.state= .ready)(Y8:rec.pending=none)(hl0:w0.heap.size<=l)(se:XP l)(Zz:∀c,B c->¬XP c){au:LN}{sl:List (Nat×A)}{y:T}{v:Value}{cb:Code}{Q:Exit->St->Prop}{NI:Prop}(dL:ai.Nodup)(dk:∀q∈au,q∉ai)(hsrc:gB Sm ai aH)(hp:p<n)(dy:∀s∈sl,s.1≠p/\va Sm ai au s.2 (Sm.env s.1))(hy:Rd W (fun c=>¬B c) y v)(round:Sem P n ca (fun e S1=>e= .normal/\Sem P n cb (IC Sm Sn NI ai aH.length Q) S1) (St.of ((p,.t y)::sl) (enum 1000000000 aH))):
  RoundIn Fence.wide 0 P l fn (a.tmps.setIfInBounds p v) ca cb W fun e W'=>∃b,e= .returned (.bool b)/\∃S' al,Good (fun c=>XP c∨B c) w0 O0 n S' a W' hs al/\W.heap.size<=W'.heap.size/\(∀c,c<W.heap.size->c≠l->(∀j,c∉fp j)->W'.heap[c]? =W.heap[c]?)/\(∀j c,c∈al j->(∃i,c∈fp i)∨W.heap.size<=c)∧
   (if b then NI/\S'=Sn/\W'.heap[l]? =some (.loop rec)else∃j,W'.heap[l]? =some (.loop {rec with state:=.done,pending:=some j})/\DY Q j S'):=by
 obtain⟨Xc,hsc,bS,Ee,iV,ir,hm,yD⟩:=gW.enter (X':=XP) (fun c h=>.inl h) (au:=au) dL hsrc dk;have A4:=(qF.1 hl).1;have ID:=(Ee l).2 (.inl se);have hlf:∀j,l∉bS j:=fun j hj=>by obtain⟨q,_,hq⟩:=ir j l hj;exact gW.cV q l hq (.inl se)
 have ZA:∀c,B c->¬Ob Xc bS c:=by
  rintro c hB (h|⟨j,hj⟩)
  ·rcases(Ee c).1 h with h|⟨q,_,_,hq⟩
   ·exact Zz c hB h
   ·exact gW.cV q c hq (.inr hB)
  ·obtain⟨q,_,hq⟩:=ir j c hj;exact gW.cV q c hq (.inr hB)
 have hsz:(a.tmps.setIfInBounds p v).size=n:=by simp[gW.size]
 have gR:Good Xc W ⟨fun c=>∃j,c∈bS j,hsc,False⟩ n (St.of ((p,.t y)::sl) (enum 1000000000 aH)) {tmps:=a.tmps.setIfInBounds p v,defers:=[]} W hsc bS:=by
  refine hm.good hsz gW.small fun s hs=>?_;rcases qO.1 hs with rfl|hs
  ·show Is _ _ _ (.t y) ((a.tmps.setIfInBounds p v).getD p undef);rw[AL (by rw[gW.size];exact hp)];exact .t (hy.mono (fun _ _ _ _ _ h=>h) fun c hc _=>ZA c (Classical.not_not.1 hc))
  ·obtain⟨h1,h2⟩:=dy s hs;rw[xc h1];exact yD _ _ h2 (gW.env s.1)
 have hrnd:oa (some l) W ⟨fun c=>∃j,c∈bS j,hsc,False⟩:=fun l' e=>by cases e;exact⟨A4,fun⟨j,hj⟩=>hlf j hj,_,hl⟩
 refine roundIn_of_wpIn trivial (wpIn_mono (round Xc W _ _ W hsc bS gR (some l) hrnd (fun _ h=>by cases h)) ?_);rintro e a₁ w₁ ⟨⟨S1,hs1,aO,g1,rfl,AX⟩,_⟩;have fJ:w₁.heap[l]? =some (.loop rec):=(g1.aZ.block l A4 fun⟨j,hj⟩=>hlf j hj).trans hl;refine⟨_,run_beginRound fJ AW,?_⟩;have yG:(W.putObj l (.loop {rec with state:=.busy})).heap[l]? =some (.loop {rec with state:=.busy}):=World.putObj_heap_same A4;have g2:Good Xc (W.putObj l (.loop {rec with state:=.busy})) ⟨fun c=>∃j,c∈bS j,hsc,False⟩ n S1 a₁ (w₁.putObj l (.loop {rec with state:=.busy})) hs1 aO:=by
  have Ip:=(qF.1 fJ).1;refine g1.world rfl (fun c cs e fz hn hc=>?_) (fun r c hc=>World.putObj_heap_other fun e=>g1.cV r c hc (e▸ID)) (fun c h=>.inl h) (fun c h=>by rw[World.putObj_size];exact g1.de c h) (fun c h hc=>by rw[World.putObj_size]at hc;exact g1.fA c h hc)
   ⟨g1.aZ.os,g1.aZ.tape,g1.aZ.output,by simp[g1.aZ.size],fun c hc hn=>?_⟩ (fun r c hc=>by rw[World.putObj_size];exact g1.mine r c hc) ?_
  ·rw[World.putObj_heap_other (show c≠l from fun e=>hn (.inl (by rw[e];exact ID)))];exact hc
  ·rw[World.putObj_size]at hc;by_cases e:c=l
   ·subst e;rw[World.putObj_heap_same Ip,yG]
   ·rw[World.putObj_heap_other e,World.putObj_heap_other e];exact g1.aZ.block c hc hn
  ·rw[g1.defers.none (fun h=>h)];exact lf.nil _ _ _ _
 have ZB:oa (some l) (W.putObj l (.loop {rec with state:=.busy})) ⟨fun c=>∃j,c∈bS j,hsc,False⟩:=fun l' e=>by cases e;exact⟨sU A4,fun⟨j,hj⟩=>hlf j hj,_,yG⟩
 refine wpIn_mono (AX Xc _ _ a₁ _ hs1 aO g2 (some l) ZB (fun _ h=>by cases h)) ?_;rintro e a3 W3 ⟨⟨S',bY,iT,g3,q⟩,_⟩;have fb:W3.heap[l]? =some (.loop {rec with state:=.busy}):=(g3.aZ.block l (sU A4) fun⟨j,hj⟩=>hlf j hj).trans yG;have hlt3:=(qF.1 fb).1;have AP:=g3.aZ.size;rw[World.putObj_size]at AP;have oz:(W3.putObj l (.loop rec)).heap[l]? =some (.loop rec):=World.putObj_heap_same hlt3;have xg:∀c,c<W.heap.size->(∀j,c∉bS j)->(W3.putObj l (.loop rec)).heap[c]? =W.heap[c]? :=fun c hc hf=>by
  by_cases e:c=l
  ·rw[e,oz,hl]
  ·rw[World.putObj_heap_other e,g3.aZ.block c (sU hc) fun⟨j,hj⟩=>hf j hj,World.putObj_heap_other e]
 have goT:∀j c,c∈iT j->(∃q,q∈ai/\c∈fp q)∨W.heap.size<=c:=fun j c h=>by
  rcases g3.mine j c h with⟨i,hi⟩|h1
  ·exact .inl (ir i c hi)
  ·rw[World.putObj_size]at h1;exact .inr h1
 have g4:∀r b,b∈iT r->(W3.putObj l (.loop rec)).heap[b]? =W3.heap[b]? :=fun r b hb=>World.putObj_heap_other fun e=>g3.cV r b hb (e▸ID);have hrc:ai.length=aH.length:=(uC hsrc).1;have fin:∀{K:LA->Prop},iI S' aH.length 1000000000 (fun aA=>T.df aA/\K aA)->∃aA kt,K aA/\Good (fun c=>XP c∨B c) w0 O0 n (kq Sm ai aA) a (W3.putObj l (.loop rec)) hs kt/\∀j c,c∈kt j->(∃i,c∈fp i)∨W.heap.size<=c:=by
  intro K h;obtain⟨aA,⟨be,hK⟩,hrl,kd⟩:=An h;let pU:NL:=fun r=>if 1000000000<=r/\r<1000000000+aH.length then iT r else []
  have hin:∀r b,b∈pU r->b∈iT r:=fun r b hb=>by
   simp only[pU]at hb;split at hb
   ·exact hb
   ·simp at hb
  obtain⟨kt,g5,Eh⟩:=gW.Zv (W':=W3.putObj l (.loop rec)) (aH:=aH) (aA:=aA) (al:=pU) (hsc:=hsc) dL hsrc hrl (by rw[World.putObj_size];omega)
   (fun c hc hq=>xg c hc fun j hj=>by obtain⟨q,h1,h2⟩:=ir j c hj;exact hq q h1 h2) g3.aZ.os g3.aZ.tape g3.aZ.output
   iV (fun i t hi=>by
    obtain⟨bq,rfl⟩:=qK.1 hi;have jy:pU (1000000000+i)=iT (1000000000+i):=if_pos ⟨by omega,by omega⟩;rw[jy];have h5:=g3.root (1000000000+i);rcases kd i bq with h1|⟨h1,h0⟩
    ·rw[h1]at h5;obtain⟨x,hx,ho,_⟩:=h5;have A3:=ho.bJ ((T.kJ aA).1 be _ (rJ bq)) (O':=fun c=>c=l);have ZC:=A3.mono (w':=W3.putObj l (.loop rec)) (O':=fun c=>c=l) (fun b cs e fz hn hb=>by rw[World.putObj_heap_other hn];exact hb) (fun b h _=>h) (fun b cs e fz hb hc=>by rw[g4 _ b hb];exact hc);exact⟨x,g3.ax _ _ (by omega) hx,ZC.bJ ((T.kJ aA).1 be _ (rJ bq)),.inl (g3.b8 _ _ _ h1)⟩
    ·rw[h1]at h5;have h3:iT (1000000000+i)=[]:=h5;obtain⟨x,hx,_⟩:=hm.root i _ (qB (by omega));refine⟨x,hx,?_,.inr h0⟩;rw[h3,h0];exact .rd (.any _))
   (fun r r' b h h'=>g3.cj r r' b (hin r b h) (hin r' b h')) (fun r=>by
    simp only[pU];split
    ·exact g3.nodup r
    ·simp)
   (fun j b hb=>goT j b (hin j b hb)) be
  refine⟨aA,kt,hK,g5,fun j c h=>?_⟩;rcases Eh j c h with⟨i,_,h1⟩|h1
  ·rcases goT _ c (hin _ _ h1)with⟨q,_,hq⟩|h2
   ·exact .inl ⟨q,hq⟩
   ·exact .inr h2
  ·exact .inl ⟨j,h1⟩
 have hdone:∀j,(W3.putObj l (.loop rec)).putObj l (.loop {rec with state:=.done,pending:=some j})=W3.putObj l (.loop {rec with state:=.done,pending:=some j}):=fun j=>by
  simp[World.putObj]
 have OT:∀c,c<W.heap.size->(∀j,c∉fp j)->(W3.putObj l (.loop rec)).heap[c]? =W.heap[c]? :=fun c hc hf=>xg c hc fun j hj=>by obtain⟨q,_,hq⟩:=ir j c hj;exact hf q hq
 have stop:∀j {K:LA->Prop},iI S' aH.length 1000000000 (fun aA=>T.df aA/\K aA)->(∀aA,K aA->DY Q j (kq Sm ai aA))->∃v w',(Instr.endRound l (some j)).run P W3= .ok v w'/\∃b,Ending.returned v= .returned (.bool b)/\∃S' al,Good (fun c=>XP c∨B c) w0 O0 n S' a w' hs al/\W.heap.size<=w'.heap.size/\(∀c,c<W.heap.size->c≠l->(∀j,c∉fp j)->w'.heap[c]? =W.heap[c]?)/\(∀j c,c∈al j->(∃i,c∈fp i)∨W.heap.size<=c)∧
   (if b then NI/\S'=Sn/\w'.heap[l]? =some (.loop rec)else∃j,w'.heap[l]? =some (.loop {rec with state:=.done,pending:=some j})/\DY Q j S'):=by
  intro j K h hK;obtain⟨aA,kt,hk,g5,hgo⟩:=fin h;refine⟨_,_,run_endRound (P:=P) (some j) fb,false,rfl,kq Sm ai aA,kt,?_,by rw[World.putObj_size];omega,fun c hc br hf=>?_,hgo,?_⟩
  ·have:=g5.record (X':=fun c=>XP c∨B c) (fun c h=>h) oz hl0 (.inl se) (.loop {rec with state:=.done,pending:=some j});rw[hdone]at this;exact this
  ·have:=OT c hc hf;rw[World.putObj_heap_other br]at this;rw[World.putObj_heap_other br];exact this
  ·simp only[Bool.false_eq_true,if_false];exact⟨j,World.putObj_heap_same hlt3,hK aA hk⟩
 cases e with
 |normal=>
  obtain⟨aA,kt,⟨hni,hwk⟩,g5,hgo⟩:=fin q;have hend:=run_endRound (P:=P) none fb;have Ir:({({rec with state:=.busy}:Loop)with state:=if(none:Option Code).isNone then .ready else .done,pending:=none}:Loop)=rec:=by
   cases rec;simp_all
  rw[Ir]at hend;refine⟨_,_,hend,true,rfl,_,kt,g5,by rw[World.putObj_size];omega,fun c hc _ hf=>OT c hc hf,hgo,?_⟩;simp only[if_true];exact⟨hni,hwk,oz⟩
 |ret=>exact stop .ret q fun aA h=>.inl ⟨rfl,h⟩
 |exit id=>exact stop (.exit id) q fun aA h=>.inr ⟨id,rfl,h⟩
 |goto t=>exact q.elim
 |panic ch=>exact q.elim
 |outgrown=>exact q.elim
end
section
variable {P:Program} {w0:World} {O0:Fr} {n:Nat} {S:St} {a:Act} {W W':World} {hs:NV} {fp:NL} {X:NP}
def Good.ZD{B B':NP}(g:Good (fun c=>X c∨B c) w0 O0 n S a W hs fp)(hm:D_ B B' W W')(h0:∀c,B c->w0.heap.size<=c)(hk:∀c,B c->¬gr a c)(oA:∀c,B' c->w0.heap.size<=c):Good (fun c=>X c∨B' c) w0 O0 n S a W' hs fp:=by
 have hsz:=hm.size;refine g.world rfl (fun c cs e fz hn hc=>?_) (fun r c hc=>hm.same c (g.lt hc) fun h=>g.cV r c hc (.inr h)) (fun c h=>?_) (fun c h=>?_) (fun c h hc ho=>?_) ⟨hm.os.trans g.aZ.os,hm.tape.trans g.aZ.tape,hm.output.trans g.aZ.output,rA g.aZ.size hsz,fun c hc hn=>?_⟩ g.mine ?_
 ·rw[hm.same c (qF.1 hc).1 fun h=>hn (.inl (.inr h))];exact hc
 ·rcases h with h|h
  ·exact .inl (.inl h)
  ·exact(hm.grow c h).imp .inr id
 ·rcases h with h|h
  ·have:=g.de c (.inl h);omega
  ·exact hm.lt c h
 ·rcases h with h|h
  ·exact g.fA c (.inl h) hc ho
  ·have:=oA c h;omega
 ·rw[hm.same c (Nat.lt_of_lt_of_le hc g.aZ.size) fun h=>by have:=h0 c h;omega];exact g.aZ.block c hc hn
 ·obtain⟨Ds,h1,h2,h3,h4⟩:=g.defers;refine⟨Ds,h1,h2,fun D hD=>⟨(h3 D hD).1,?_⟩,h4⟩;have xh:gr a D:=by unfold gr;rw[h2];exact qN.2 ⟨D,hD,rfl⟩
  rw[hm.same D (qF.1 (h3 D hD).2).1 fun h=>hk D h xh];exact(h3 D hD).2
def Sem.Ek{mT:Operand}{cb:Code}{Q:Exit->St->Prop}{ys:LA}(xi:∀args w,(callFunc gf args).run P w= .ok (.enter gf args) w)(hit:pT P gf cap ys)(mk:Nat->St)(Inv:NP)(hinv:Inv 0)(ai au:LN)(aH:Nat->LA)(sl:Nat->List (Nat×A))(hw:aj n S (mk 0))(hg:gY ((mk 0).ev mT)=some (gf,cap.map A.t))(dL:ai.Nodup)(dk:∀q∈au,q∉ai)(hsrc:∀i,i<ys.length->gB (mk i) ai (aH i))(hp:p<n)(dy:∀i,i<ys.length->∀s∈sl i,s.1≠p/\va (mk i) ai au s.2 ((mk i).env s.1))(round:∀i (h:i<ys.length),Inv i->Sem P n ca (fun e S1=>e= .normal/\Sem P n cb (IC (mk i) (mk (i+1)) (Inv (i+1)) ai (aH i).length Q) S1) (St.of ((p,.t ys[i])::sl i) (enum 1000000000 (aH i))))(done:Inv ys.length->Q .normal (mk ys.length)):Sem P n (.rangeFunc mT #[p] ca cb) Q S:=by
 intro X w0 O0 a w hs fp g ro hro Iw;obtain⟨hs0,uO,g0⟩:=hw X w0 O0 a w hs fp g;refine wpIn_rangeFunc fun fn _=>?_;obtain⟨l,mark,w2,rec,Ix,⟨e1,e2,e3,e4,e5,e6,e7⟩,bO,uM,uP,AY,hmk⟩:=Od (P:=P) g hro (Iw rfl) fn p ca cb;obtain⟨cK,jM,br,DW⟩:=g0.caps hg;have hl0:=rA g.aZ.size uP;have OJ:=rA g.aZ.size uM.size;have g2:Good (fun c=>X c∨c=l) w0 O0 n (mk 0) {a with defers:=mark++a.defers} w2 hs0 uO:=by
  have:=g0.ext uM (X':=fun c=>X c∨c=l) (fun c h=>by
   rcases h with h|rfl
   ·exact .inl h
   ·exact .inr ⟨uP,AY⟩)
  exact{this with defers:=hmk}
 have A0:({a with defers:=mark++a.defers}:Act).eval mT= .func (.func gf) #[] cK.toArray:=jM;have bV:ib (jp (.rangeFunc mT #[p] ca cb)) a {a with defers:=mark++a.defers}:=fun s _=>rfl;generalize xd:({a with defers:=mark++a.defers}:Act)=a1 at g2 A0 bV ⊢;have Iy:rec.tmps=a1.tmps:=by rw[e4,←xd]
 have AZ:∀c,gr a1 c->c<w2.heap.size:=fun c h=>(qF.1 (nu g2 h).2).1;refine⟨l,mark,w2,{target:=.fn (.func gf) cK.toArray,args:=#[.func (.yield l) #[] #[]]},w2,gf,#[.func (.yield l) #[] #[]]++cK.toArray,w2,Ix,?_,fun f' _=>ye ro f',?_,Af,He ?_⟩
 ·simp only[resolve,jM];simp[go_sem]
 ·simp[invoke,go_sem,xi]
 rw[xd];let J:JT:=fun B X2 mm Wc=>(∀c,B c->w2.heap.size<=c)/\w2.heap.size<=Wc.heap.size/\∃S fp,(∀c,X2 c↔X c∨c=l∨∃j,c∈fp j)/\Good (fun c=>(X c∨c=l)∨B c) w0 O0 n S a1 Wc hs0 fp∧
  match mm with
  |some k=>k<=ys.length/\Inv k/\S=mk k/\Wc.heap[l]? =some (.loop rec)
  |none=>∃j,Wc.heap[l]? =some (.loop {rec with state:=.done,pending:=some j})/\DY Q j S
 have yH:jx P l ys J:=by
  refine⟨?_,?_⟩
  ·rintro B B' X2 mm Wc Zg ⟨cD,hsz,S1,aO,ew,gg,uN⟩ Ej hm;have El:¬B l:=fun h=>by have:=cD l h;omega
   have iY:∀c,B' c->w2.heap.size<=c:=fun c h=>by
    rcases hm.grow c h with h1|h1
    ·exact cD c h1
    ·omega
   refine⟨iY,by have:=hm.size;omega,S1,aO,ew,gg.ZD hm (fun c h=>by have:=cD c h;omega) (fun c h h1=>by have:=cD c h;have:=AZ c h1;omega) (fun c h=>by have:=iY c h;omega),?_⟩;cases mm with
   |some k=>
    obtain⟨h1,h2,h3,h4⟩:=uN;exact⟨h1,h2,h3,(hm.same l (qF.1 h4).1 El).trans h4⟩
   |none=>
    obtain⟨j,h1,h2⟩:=uN;exact⟨j,(hm.same l (qF.1 h1).1 El).trans h1,h2⟩
  ·rintro B X2 i yv v Wc ⟨cD,hsz,S1,aO,ew,gg,hle,hI,rfl,hl⟩ Iu Ej hy;obtain⟨hi,rfl⟩:=qK.1 Iu;have pS:=run_yield (P:=P) (args:=#[v]) hl (by rw[e5];rfl);rw[e5,Iy,e6,e7,show((#[p]:Array Tmp).zip #[v]).foldl (fun tmps (t,a)=>tmps.setIfInBounds t a) a1.tmps=a1.tmps.setIfInBounds p v by simp]at pS;refine⟨_,_,_,_,pS,(Zy gg hl e1 e2 hl0 (.inr rfl) (fun c hB hX=>(Ej c hB).1 ((ew c).2 (hX.imp id .inl))) dL dk (hsrc i hi) hp (dy i hi) hy (round i hi hI)).mono ?_⟩;rintro e W' ⟨b,rfl,S',al,g',Iv,hkp,hgo,ip⟩;refine⟨b,fun c=>X c∨c=l∨∃j,c∈al j,rfl,⟨cD,by omega,S',al,fun c=>Iff.rfl,g',?_⟩,⟨Iv,fun c hc hx=>?_,fun c h=>?_,fun c h=>?_⟩⟩
   ·cases b with
    |true=>
     simp only[if_true]at ip ⊢;exact⟨hi,ip.1,ip.2.1,ip.2.2⟩
    |false=>
     simp only[Bool.false_eq_true,if_false]at ip ⊢;exact ip
   ·exact hkp c hc (fun h=>hx ((ew c).2 (.inr (.inl h)))) fun j hj=>hx ((ew c).2 (.inr (.inr ⟨j,hj⟩)))
   ·rcases h with h|h|⟨j,hj⟩
    ·exact .inl ((ew c).2 (.inl h))
    ·exact .inl ((ew c).2 (.inr (.inl h)))
    ·exact(hgo j c hj).imp (fun h=>(ew c).2 (.inr (.inr h))) id
   ·rcases h with h|h|⟨j,hj⟩
    ·exact g'.de c (.inl (.inl h))
    ·subst h;omega
    ·exact g'.lt hj
 refine(hit (fun c=>X c∨c=l∨∃j,c∈uO j) w2 cK br (fun c h=>?_) (fun i h=>?_) l J yH ?_).mono ?_
 ·rcases h with h|h|⟨j,hj⟩
  ·exact g2.de c (.inl h)
  ·omega
  ·exact g2.lt hj
 ·refine(g2.Oc hg A0 i h).mono (fun _ _ _ _ _ h=>h) fun c hc _ hc2=>hc ?_;rcases hc2 with h1|h1|h1
  ·exact .inl (.inl h1)
  ·exact .inl (.inr h1)
  ·exact .inr h1
 ·refine⟨fun c h=>h.elim,qR _,mk 0,uO,fun c=>Iff.rfl,?_,Nat.zero_le _,hinv,rfl,bO⟩;have e:(fun c=>(X c∨c=l)∨False)=fun c=>X c∨c=l:=funext fun c=>propext ⟨fun h=>h.elim id False.elim,.inl⟩;rw[e];exact g2
 ·rintro e Wc ⟨⟨v,rfl⟩,B,X2,(⟨cD,_,S1,aO,_,gg,hle,hI,rfl,hl⟩|⟨cD,_,S1,aO,_,gg,j,hl,hq⟩)⟩
  ·refine⟨none,_,by have:=run_endLoop (P:=P) hl (by rw[e1];simp);rw[e2]at this;exact this,⟨mk ys.length,hs0,aO,?_,done hI⟩,bV⟩;exact gg.record (fun c h=>.inl (.inl h)) hl hl0 (.inl (.inr rfl)) _
  ·refine⟨some j,_,run_endLoop (P:=P) hl sA,?_⟩;have gE:=gg.record (X':=X) (fun c h=>.inl (.inl h)) hl hl0 (.inl (.inr rfl)) (.loop {({rec with state:=.done,pending:=some j}:Loop)with state:=.exhausted});rcases hq with⟨rfl,hQ⟩|⟨id,rfl,hQ⟩
   ·exact wpIn_ret ⟨⟨S1,hs0,aO,gE,hQ⟩,bV⟩
   ·exact wpIn_exit ⟨⟨S1,hs0,aO,gE,hQ⟩,bV⟩
def dX.Ek{mT:Operand}{p:Nat}{ca cb:CC}{Q:Exit->St->Prop}{gf:FuncId}{cap ys:LA}(xi:∀args w,(callFunc gf args).run P w= .ok (.enter gf args) w)(hit:pT P gf cap ys)
  (mk:Nat->St) (Inv:NP) (hinv:Inv 0) (ai au:LN) (aH:Nat->LA) (sl:Nat->List (Nat×A)) (hw:aj n S (mk 0)) (hg:gY ((mk 0).ev mT)=some (gf,cap.map A.t)) (dL:ai.Nodup) (dk:∀q∈au,q∉ai)
  (hsrc:∀i,i<ys.length->gB (mk i) ai (aH i)) (hp:p<n) (dy:∀i,i<ys.length->∀s∈sl i,s.1≠p/\va (mk i) ai au s.2 ((mk i).env s.1))
  (round:∀i (h:i<ys.length),Inv i->cW P n ca (fun e S1=>e= .normal/\cW P n cb (IC (mk i) (mk (i+1)) (Inv (i+1)) ai (aH i).length Q) S1) (St.of ((p,.t ys[i])::sl i) (enum 1000000000 (aH i))))
  (done:Inv ys.length->Q .normal (mk ys.length)):dX P n (.pL mT [p] ca cb) Q S:=by
 intro H code hc;unfold dg at hc;split at hc<;>(try split at hc)<;>(try split at hc)<;>(try cases hc);rename_i g' ps x y _ _ a b ha hb;simp only[Option.some.injEq,CC.pL.injEq]at hc;obtain⟨rfl,hps,rfl,rfl⟩:=hc;have hps:ps=#[p]:=by rw[←Array.toArray_toList (xs:=ps),hps]
 subst hps;exact Sem.Ek xi hit mk Inv hinv ai au aH sl hw hg dL dk hsrc hp dy (fun i h hI=>(pN _ _ _ (round i h hI) _ _ ha).mono fun e S1 hq=>⟨hq.1,pN _ _ _ hq.2 _ _ hb⟩) done
def cw.range{J:JT}{aL:Prop}{m:Option Nat}{l:Nat}{ys:LA}(hJ:jx P l ys J){mT:Operand}{p:Nat}{ca cb:CC}{Q:Exit->St->Option Nat->Prop}{gf:FuncId}{cap iu:LA}(xi:∀args w,(callFunc gf args).run P w= .ok (.enter gf args) w)(hit:pT P gf cap iu)
  (mk:Nat->St) (M:Nat->Option Nat) (ai au:LN) (aH:Nat->LA) (sl:Nat->List (Nat×A)) (hw:aj n S (mk 0)) (hM:M 0=m) (hg:gY ((mk 0).ev mT)=some (gf,cap.map A.t)) (dL:ai.Nodup) (dk:∀q∈au,q∉ai)
  (hsrc:∀i,i<iu.length->gB (mk i) ai (aH i)) (hp:p<n) (dy:∀i,i<iu.length->∀s∈sl i,s.1≠p/\va (mk i) ai au s.2 ((mk i).env s.1))
  (round:∀i (h:i<iu.length),cW P n ca (fun e S1=>e= .normal/\cw P n J False cb (Ed n (mk i) (mk (i+1)) (M (i+1)) ai (aH i).length Q) S1 (M i)) (St.of ((p,.t iu[i])::sl i) (enum 1000000000 (aH i))))
  (done:Q .normal (mk iu.length) (M iu.length)):cw P n J aL (.pL mT [p] ca cb) Q S m:=by
 intro H code hc hk;unfold dg at hc;split at hc<;>(try split at hc)<;>(try split at hc)<;>(try cases hc);rename_i g' ps x y _ _ a b ha hb;simp only[Option.some.injEq,CC.pL.injEq]at hc;obtain⟨rfl,hps,rfl,rfl⟩:=hc;have hps:ps=#[p]:=by rw[←Array.toArray_toList (xs:=ps),hps]
 subst hps;simp only[oy,qM]at hk;exact gd.range hJ xi hit mk M ai au aH sl hw hM hg dL dk hsrc hp dy (fun i h=>Sem.AU hJ ((pN _ _ _ (round i h) _ _ ha).mono fun e S1 hq=>⟨hq.1,hq.2 _ _ hb hk.2⟩)) done
end
def aj.tA{S:St}(r o d:Nat){l:LA}(hd:S.roots d= .live t [])(hr:(S.roots r).cells=some (l,[(o,d)]))(hne:d≠r)(hc:l[o]? =some .any):
  aj n S ⟨S.env,ak (ak S.roots d .dead) r ((S.roots r).with (l.set o t) [])⟩:=by
 have h:=aj.close (n:=n) r o d hd hr hne hc sA;have e:([(o,d)]:List (Nat×Nat)).filter (fun p=>decide (p.1<o)||decide (o+1<=p.1))=[]:=by
  rw[List.filter_cons_of_neg sA,List.filter_nil]
 rw[e]at h;exact h
def bz.weak{P:Program}{d:Option Nat}{ops:List Operand}{K:SP}{S S':St}(h:aj n S S')(hk:bz P n d f ops K S'):bz P n d f ops K S:=fun o ts h1 h2 h3 X w0 O0 a w hs fp g Q=>by
 obtain⟨hs',al,g'⟩:=h X w0 O0 a w hs fp g;exact hk o ts h1 h2 h3 X w0 O0 a w hs' al g' Q
def aj.le{S:St}(q:Nat){t':T}(hq:S.roots q= .live t [])(h:Le t t')(bv:t'.b8=true):aj n S ⟨S.env,ak S.roots q (.live t' [])⟩:=by
 intro X w0 O0 a w hs fp g;have dj:=g.root q;rw[hq]at dj;obtain⟨x,hx,ho,hl⟩:=dj;obtain⟨al,ho',hsub⟩:=h.ow ho;have A5:∀r b,b∈ak fp q al r->b∈fp r:=fun r b hb=>by
  by_cases hr:r=q
  ·subst hr;rw[aT]at hb;exact hsub.subset hb
  ·rwa[aU _ _ _ _ hr]at hb
 have hO:∀b,¬Ob X fp b->b<w.heap.size->¬Ob X (ak fp q al) b:=fun b h _ h'=>by
  rcases h' with h'|⟨r,hr⟩
  ·exact h (.inl h')
  ·exact h (.inr ⟨r,A5 r b hr⟩)
 have hk:∀p,jK p w w:=fun p _ _ _ _ _ h=>h;refine⟨hs,ak fp q al,g.size,g.defers,fun i=>(g.env i).mono (hk _) hO (fun _ _ h=>h),fun r=>?_,fun r r' b h h'=>g.cj r r' b (A5 r b h) (A5 r' b h'),fun r=>?_,fun r b h=>g.cV r b (A5 r b h),g.de,g.fA,fun r b h=>g.mine r b (A5 r b h),g.aZ,fun r t lk h=>?_,g.aV,g.small,g.ax⟩
 ·by_cases hr:r=q
  ·subst hr;show iG w _ hs (ak S.roots r (.live t' []) r) (hs r) (ak fp r al r);rw[aT,aT];exact⟨x,hx,ho'.mono (fun _ _ _ _ _ h=>h) hO (fun _ _ _ _ _ h=>h),fun p hp=>by simp at hp⟩
  ·show iG w _ hs (ak S.roots q _ r) (hs r) (ak fp q al r);rw[aU _ _ _ _ hr,aU _ _ _ _ hr];exact g.rl r (hk _) hO (fun _ _ h=>h) rfl (fun b _=>rfl)
 ·by_cases hr:r=q
  ·subst hr;rw[aT];exact hsub.nodup (g.nodup r)
  ·rw[aU _ _ _ _ hr];exact g.nodup r
 ·have h:ak S.roots q (.live t' []) r= .live t lk:=h;by_cases hr:r=q
  ·subst hr;rw[aT]at h;cases h;exact bv
  ·rw[aU _ _ _ _ hr]at h;exact g.b8 r t lk h
def aj.kill{S:St}(d:Nat)(h:S.roots d= .free):aj n S ⟨S.env,ak S.roots d .dead⟩:=by
 intro X w0 O0 a w hs fp g;have hd:=g.root d;rw[h]at hd;refine⟨hs,fp,g.size,g.defers,g.env,fun r=>?_,g.cj,g.nodup,g.cV,g.de,g.fA,g.mine,g.aZ,fun r t lk hr=>?_,g.aV,g.small,g.ax⟩
 ·by_cases hr:r=d
  ·subst hr;show iG w _ hs (ak S.roots r .dead r) (hs r) (fp r);rw[aT];exact hd.2
  ·show iG w _ hs (ak S.roots d .dead r) (hs r) (fp r);rw[aU _ _ _ _ hr];exact g.root r
 ·have h2:ak S.roots d .dead r= .live t lk:=hr;by_cases cP:r=d
  ·subst cP;rw[aT]at h2;cases h2
  ·rw[aU _ _ _ _ cP]at h2;exact g.b8 r t lk h2
def St.tB(e:List (Nat×A))(r:List (Nat×T))(d:Nat):St:=⟨je e,ak (eL r) d .dead⟩
def aj.tB{n:Nat}{S:St}(e:List (Nat×A))(r:List (Nat×T))(d:Nat)(ss:List (Option Nat))(hd:(((r.map (·.1)).zip ss).filterMap (·.2)).Nodup)(hb:∀p∈(r.map (·.1)).zip ss,p.1<1000000000∨p.2=some p.1)(hf:eL r d= .free)(he:oc S (en r ss) e)(hr:jf S r ss):aj n S (St.tB e r d):=
 aj.trans (aj.of e r ss hd hb he hr) (aj.kill d hf)
attribute [go_sem] St.tB
end Go.Ab
