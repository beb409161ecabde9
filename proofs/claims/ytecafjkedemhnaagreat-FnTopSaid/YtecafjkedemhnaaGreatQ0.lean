import Derived.WalkKit
import Derived.WalkLawsBesides
import Derived.RangeFuncRecord
import Derived.RangeFuncCalls
import Derived.OrdersIn
set_option maxRecDepth 20000
set_option linter.all false
namespace Go.Ab
variable{o:Oper}{w w0:World}{d j z:Nat}{P:Program}{α:Type}{y:Operand}{ρ:Operand->Value}{p:Prop}{ops:Array Oper}{ro:Option Nat}{a:Act}{op:BinOp}
def om(h:p:=by omega):p:=h
def sA(h:p:=by simp):p:=h
def dc(h:p:=by decide):p:=h
def sU{q:Prop}(h:p)(e:p->q:=by intro h;simpa using h):q:=e h
abbrev LL:=List (List Int)
abbrev LI:=List Int
abbrev LB:=List (List Nat)
variable{ar gs:LB}
abbrev NL:=Nat->List Nat
abbrev LN:=List Nat
abbrev NP:=Nat->Prop
variable{O:NP}
abbrev NV:=Nat->Option Value
abbrev OV:=Option Value
abbrev LV:=List Value
def qA:=@List.getD_eq_getElem?_getD
def qB:=@List.getElem?_eq_getElem
def qC:=@Array.getD_eq_getD_getElem?
def qD:=@List.length_append
def qE:=@List.mem_of_getElem?
def qF:=@Array.getElem?_eq_some_iff
def qG:=@List.map_append
def qH:=@Nat.lt_or_ge
def qI:=@List.mem_append
def qJ:=@List.length_map
def qK:=@List.getElem?_eq_some_iff
def qL:=@List.length_take
def qM:=@Bool.and_eq_true
def qN:=@List.mem_map
def qO:=@List.mem_cons
def qP:=@List.getElem?_eq_none
def qQ:=@List.take_of_length_le
def qR:=@Nat.le_refl
def qU:=@List.getElem?_map
def qV:=@List.mem_filter
def qW:=@List.append_assoc
def qX:=@List.nodup_cons
def qY:=@List.flatten_append
def qZ:=@List.flatten_cons
def rA:=@Nat.le_trans
def rC:=@List.nodup_append
def rD:=@List.getElem?_append_right
def rE:=@List.mem_iff_getElem
def rG:=@Classical.byContradiction
def rH:=@List.mem_cons_of_mem
def rJ:=@List.getElem_mem
def rM:=@List.getElem?_replicate
def rO:=@List.all_eq_true
def rP:=@Int.tmod_eq_emod_of_nonneg
def rQ:=@List.getElem_map
def rR:=@List.getElem?_append_left
def rT:=@List.take_length
def rU:=@List.mem_of_mem_take
def rV:=@Int.tdiv_eq_ediv_of_nonneg
def rW:=@List.map_congr_left
def rX:=@List.eq_nil_of_length_eq_zero
def rY:=@List.mem_flatten
def rZ:=@List.sum_cons
inductive T where
 |any
 |v (x:Value)
 |sh (s:Nat) (l:List T)
 |arr (s:Nat) (l:List T)
 |box (l:List T)
 |ax (l:List T) (off:Nat)
 |fn (f:Nat) (cap:List T)
 |agg (l:List T)
 |aI (l:List T)
abbrev T.i(n:Int):T:=.v (.int .i64 n)
abbrev T.b(b:Bool):T:=.v (.bool b)
abbrev T.zz:T:=.v (.slice none 0 0)
inductive Rd (w:World) (O:NP):T->Value->Prop
 |any (x:Value):Rd w O .any x
 |v (x:Value):Rd w O (.v x) x
 |nZ (s:Nat):Rd w O (.sh s []) (.slice none 0 0)
 |sW (s:Nat) (ad:Addr) (cap:Nat):Rd w O (.sh s []) (.slice (some ad) 0 cap)
 |sh (s:Nat) (l:List T) (b off len cap:Nat) (cs:Array Value) (e:TypeId) (fz:Nat×Nat) (hO:¬O b) (hb:w.heap[b]? =some (.cells cs e fz))
  (hsz:off+l.length<=cs.size) (hl:l.length=len*s) (hc:len<=cap) (hr:∀i (h:i<l.length),Rd w O l[i] (cs.getD (off+i) undef)):
  Rd w O (.sh s l) (.slice (some ⟨b,off,none⟩) len cap)
 |ax (l:List T) (off b o:Nat) (cs:Array Value) (e:TypeId) (fz:Nat×Nat) (hO:¬O b) (hb:w.heap[b]? =some (.cells cs e fz))
  (hsz:o+l.length<=cs.size) (hr:∀i (h:i<l.length),Rd w O l[i] (cs.getD (o+i) undef)):
  Rd w O (.ax l off) (.pointer (some ⟨b,o+off,none⟩))
 |fn (f:Nat) (cap:List T) (vs:LV) (hl:vs.length=cap.length) (hr:∀i (h:i<cap.length),Rd w O cap[i] (vs.getD i undef)):
  Rd w O (.fn f cap) (.func (.func f) #[] vs.toArray)
 |agg (l:List T) (vs:LV) (hl:vs.length=l.length) (hr:∀i (h:i<l.length),Rd w O l[i] (vs.getD i undef)):Rd w O (.agg l) (.agg vs.toArray)
 |aI (l:List T) (vs:LV) (hl:vs.length=l.length) (hr:∀i (h:i<l.length),Rd w O l[i] (vs.getD i undef)):Rd w O (.aI l) (.tuple vs.toArray)
inductive Ow (w:World) (O:NP):T->Value->LN->Prop
 |rd {t:T} {x:Value} (h:Rd w O t x):Ow w O t x []
 |jn (s:Nat):Ow w O (.arr s []) (.slice none 0 0) []
 |arr (s:Nat) (l:List T) (b len cap:Nat) (cs:Array Value) (e:TypeId) (ar:LB) (hb:w.heap[b]? =some (.cells cs e (0,0)))
  (hl:l.length=len*s) (hc:len<=cap) (hm:cap<=maxLen) (hsz:cs.size=cap*s) (hf:ar.length=l.length)
  (hr:∀i (h:i<l.length),Ow w O l[i] (cs.getD i undef) (ar.getD i [])):Ow w O (.arr s l) (.slice (some ⟨b,0,none⟩) len cap) (b::ar.flatten)
 |box (l:List T) (b:Nat) (cs:Array Value) (e:TypeId) (ar:LB) (hb:w.heap[b]? =some (.cells cs e (0,0)))
  (hl:l.length=cs.size) (hf:ar.length=l.length)
  (hr:∀i (h:i<l.length),Ow w O l[i] (cs.getD i undef) (ar.getD i [])):Ow w O (.box l) (.pointer (some ⟨b,0,none⟩)) (b::ar.flatten)
 |agg (l:List T) (vs:LV) (ar:LB) (hl:vs.length=l.length) (hf:ar.length=l.length)
  (hr:∀i (h:i<l.length),Ow w O l[i] (vs.getD i undef) (ar.getD i [])):Ow w O (.agg l) (.agg vs.toArray) ar.flatten
 |aI (l:List T) (vs:LV) (ar:LB) (hl:vs.length=l.length) (hf:ar.length=l.length)
  (hr:∀i (h:i<l.length),Ow w O l[i] (vs.getD i undef) (ar.getD i [])):Ow w O (.aI l) (.tuple vs.toArray) ar.flatten
def jK(p:NP)(w w':World):Prop:=∀b cs e fz,p b->w.heap[b]? =some (.cells cs e fz)->w'.heap[b]? =some (.cells cs e fz)
def Rd.mono{w':World}{O':NP}{t:T}{x:Value}(h:Rd w O t x)(hk:jK (fun b=>¬O b) w w')(hO:∀b,¬O b->b<w.heap.size->¬O' b):Rd w' O' t x:=by
 induction h with
 |any x=>exact .any x
 |v x=>exact .v x
 |nZ s=>exact .nZ s
 |sW s ad cap=>exact .sW s ad cap
 |sh s l b off len cap cs e fz hn hb hsz hl hc hr ih=>
  exact .sh s l b off len cap cs e fz (hO b hn (qF.1 hb).1) (hk b cs e fz hn hb) hsz hl hc ih
 |ax l off b o cs e fz hn hb hsz hr ih=>
  exact .ax l off b o cs e fz (hO b hn (qF.1 hb).1) (hk b cs e fz hn hb) hsz ih
 |fn f cap vs hl hr ih=>exact .fn f cap vs hl ih
 |agg l vs hl hr ih=>exact .agg l vs hl ih
 |aI l vs hl hr ih=>exact .aI l vs hl ih
def jL{i b:Nat}(h:b∈ar.getD i []):b∈ar.flatten:=by
 rw[qA]at h;cases hi:ar[i]? with
 |none=>rw[hi]at h;simp at h
 |some f=>rw[hi]at h;exact rY.2 ⟨f,qE hi,h⟩
def Ow.mono{w w':World}{O O':NP}{t:T}{x:Value}{fp:LN}(h:Ow w O t x fp)(hk:jK (fun b=>¬O b) w w')
  (hO:∀b,¬O b->b<w.heap.size->¬O' b) (hf:jK (fun b=>b∈fp) w w'):Ow w' O' t x fp:=by
 induction h with
 |rd h=>exact .rd (h.mono hk hO)
 |jn s=>exact .jn s
 |arr s l b len cap cs e ar hb hl hc hm hsz hfl hr ih=>
  exact .arr s l b len cap cs e ar (hf b cs e _ sA hb) hl hc hm hsz hfl fun i h=>ih i h fun b' cs' e' n9 hm hb'=>hf b' cs' e' n9 (rH _ (jL hm)) hb'
 |box l b cs e ar hb hl hfl hr ih=>
  exact .box l b cs e ar (hf b cs e _ sA hb) hl hfl fun i h=>ih i h fun b' cs' e' n9 hm hb'=>hf b' cs' e' n9 (rH _ (jL hm)) hb'
 |agg l vs ar hl hfl hr ih=>
  exact .agg l vs ar hl hfl fun i h=>ih i h fun b' cs' e' n9 hm hb'=>hf b' cs' e' n9 (jL hm) hb'
 |aI l vs ar hl hfl hr ih=>
  exact .aI l vs ar hl hfl fun i h=>ih i h fun b' cs' e' n9 hm hb'=>hf b' cs' e' n9 (jL hm) hb'
def Ow.lt{t:T}{x:Value}{fp:LN}(h:Ow w O t x fp):∀b∈fp,b<w.heap.size:=by
 induction h with
 |rd h=>simp
 |jn s=>simp
 |arr s l b len cap cs e ar hb hl hc hm hsz hfl hr ih=>
  intro b' hb';rcases qO.1 hb' with rfl|h'
  ·exact(qF.1 hb).1
  ·obtain⟨f,hf,gz⟩:=rY.1 h';obtain⟨i,hi,rfl⟩:=rE.1 hf;exact ih i om b' (by rw[qA,qB hi];exact gz)
 |box l b cs e ar hb hl hfl hr ih=>
  intro b' hb';rcases qO.1 hb' with rfl|h'
  ·exact(qF.1 hb).1
  ·obtain⟨f,hf,gz⟩:=rY.1 h';obtain⟨i,hi,rfl⟩:=rE.1 hf;exact ih i om b' (by rw[qA,qB hi];exact gz)
 |agg l vs ar hl hfl hr ih=>
  intro b' h';obtain⟨f,hf,gz⟩:=rY.1 h';obtain⟨i,hi,rfl⟩:=rE.1 hf;exact ih i om b' (by rw[qA,qB hi];exact gz)
 |aI l vs ar hl hfl hr ih=>
  intro b' h';obtain⟨f,hf,gz⟩:=rY.1 h';obtain⟨i,hi,rfl⟩:=rE.1 hf;exact ih i om b' (by rw[qA,qB hi];exact gz)
inductive A where
 |t (x:T)
 |own (r:Nat)
 |sub (r off len:Nat)
 |ptr (r off:Nat)
 |agg (l:List A)
 |aI (l:List A)
 |fn (f:Nat) (cap:List A)
abbrev A.v(x:Value):A:=.t (.v x)
abbrev A.i(n:Int):A:=.t (.v (.int .i64 n))
inductive Is (w:World) (O:NP) (hs:NV):A->Value->Prop
 |t {x:T} {y:Value} (h:Rd w O x y):Is w O hs (.t x) y
 |own {r:Nat} {h:Value} (hr:hs r=some h):Is w O hs (.own r) h
 |sub {r off len b n cap c:Nat} (hr:hs r=some (.slice (some ⟨b,0,none⟩) n cap)) (hc:len<=c):Is w O hs (.sub r off len) (.slice (some ⟨b,off,none⟩) len c)
 |my {r off b n cap c:Nat} (hr:hs r=some (.slice (some ⟨b,0,none⟩) n cap)):Is w O hs (.sub r off 0) (.slice (some ⟨b,0,none⟩) 0 c)
 |mz {r:Nat} (hr:hs r=some (.slice none 0 0)):Is w O hs (.sub r 0 0) (.slice none 0 0)
 |lJ {r off b n cap:Nat} (hr:hs r=some (.slice (some ⟨b,0,none⟩) n cap)):Is w O hs (.ptr r off) (.pointer (some ⟨b,off,none⟩))
 |kc {r off b:Nat} (hr:hs r=some (.pointer (some ⟨b,0,none⟩))):Is w O hs (.ptr r off) (.pointer (some ⟨b,off,none⟩))
 |agg {l:List A} {vs:LV} (hl:vs.length=l.length) (hr:∀i (h:i<l.length),Is w O hs l[i] (vs.getD i undef)):Is w O hs (.agg l) (.agg vs.toArray)
 |aI {l:List A} {vs:LV} (hl:vs.length=l.length) (hr:∀i (h:i<l.length),Is w O hs l[i] (vs.getD i undef)):Is w O hs (.aI l) (.tuple vs.toArray)
 |fn {f:Nat} {cap:List A} {vs:LV} (hl:vs.length=cap.length) (hr:∀i (h:i<cap.length),Is w O hs cap[i] (vs.getD i undef)):
  Is w O hs (.fn f cap) (.func (.func f) #[] vs.toArray)
def Is.mono{w w':World}{O O':NP}{hs hs':NV}{a:A}{x:Value}(h:Is w O hs a x)(hk:jK (fun b=>¬O b) w w')
  (hO:∀b,¬O b->b<w.heap.size->¬O' b) (hh:∀r h,hs r=some h->hs' r=some h):Is w' O' hs' a x:=by
 induction h with
 |t h=>exact .t (h.mono hk hO)
 |own hr=>exact .own (hh _ _ hr)
 |sub hr hc=>exact .sub (hh _ _ hr) hc
 |my hr=>exact .my (hh _ _ hr)
 |mz hr=>exact .mz (hh _ _ hr)
 |lJ hr=>exact .lJ (hh _ _ hr)
 |kc hr=>exact .kc (hh _ _ hr)
 |agg hl _ ih=>exact .agg hl ih
 |aI hl _ ih=>exact .aI hl ih
 |fn hl _ ih=>exact .fn hl ih
inductive aE where
 |free
 |dead
 |live (t:T) (lk:List (Nat×Nat))
structure St where
 env:Nat->A
 roots:Nat->aE
def ak(f:Nat->α)(d:Nat)(a:α):Nat->α:=fun i=>if i=d then a else f i
def v_(f:Nat->α)(d:Nat)(a:α)(i:Nat):ak f d a i=if i=d then a else f i:=rfl
def aT(f:Nat->α)(d:Nat)(a:α):ak f d a d=a:=by simp[ak]
def aU(f:Nat->α)(d:Nat)(a:α)(i:Nat)(h:i≠d):ak f d a i=f i:=by simp[ak,h]
def St.put(S:St)(d:Option Nat)(a:A):St:=
 match d with
 |some d=>{S with env:=ak S.env d a}
 |none=>S
def cellOf(w:World)(h:Value)(k:Nat):OV:=
 match h with
 | .slice (some a) _ _=>w.cell? ⟨a.block,a.off+k,none⟩
 | .pointer (some a)=>w.cell? ⟨a.block,a.off+k,none⟩
 |_=>none
def iG(w:World)(O:NP)(hs:NV)(r:aE)(h:OV)(fp:LN):Prop:=
 match r with
 | .free=>h=none/\fp=[]
 | .dead=>fp=[]
 | .live t lk=>∃x,h=some x/\Ow w O t x fp/\∀p∈lk,∃y,cellOf w x p.1=some y/\hs p.2=some y
def Ob(X:NP)(fp:NL):NP:=fun b=>X b∨∃r,b∈fp r
structure Fr where
 own:NP
 hd:NV
 aL:Prop
instance:CoeFun Fr (fun _=>NP):=⟨Fr.own⟩
structure Mh(w0:World)(O0:Fr)(w:World):Prop where
 os:w.os=w0.os
 tape:w.tape=w0.tape
 output:w.output=w0.output
 size:w0.heap.size<=w.heap.size
 block:∀b,b<w0.heap.size->¬O0 b->w.heap[b]? =w0.heap[b]?
def T.b8:T->Bool
 | .arr _ _| .box _=>true
 |_=>false
def lf(ok:Prop)(O:NP)(ds:List Deferred)(w0 w:World):Prop:=∃Ds:LN,Ds.Nodup/\ds=Ds.map (fun D=>{target:=.collected D,args:=#[]})/\(∀D∈Ds,(w0.heap.size<=D∨O D)/\w.heap[D]? =some (.deferred (some [])))/\(¬ok->Ds=[])
def lf.nil(ok:Prop)(O:NP)(w0 w:World):lf ok O [] w0 w:=⟨[],sA,rfl,sA,fun _=>rfl⟩
def lf.keep{ok:Prop}{ds:List Deferred}{w':World}(h:lf ok O ds w0 w)(hk:∀D:Nat,w0.heap.size<=D∨O D->w.heap[D]? =some (.deferred (some []))->w'.heap[D]? =some (.deferred (some []))):lf ok O ds w0 w':=by
 obtain⟨Ds,h1,h2,h3,h4⟩:=h;exact⟨Ds,h1,h2,fun D hD=>⟨(h3 D hD).1,hk D (h3 D hD).1 (h3 D hD).2⟩,h4⟩
def lf.none{ok:Prop}{ds:List Deferred}(h:lf ok O ds w0 w)(hn:¬ok):ds=[]:=by
 obtain⟨Ds,h1,h2,h3,h4⟩:=h;rw[h2,h4 hn];rfl
structure Good(X:NP)(w0:World)(O0:Fr)(n:Nat)(S:St)(a:Act)(w:World)(hs:NV)(fp:NL):Prop where
 size:a.tmps.size=n
 defers:lf O0.aL O0.own a.defers w0 w
 env:∀i,Is w (Ob X fp) hs (S.env i) (a.tmps.getD i undef)
 root:∀r,iG w (Ob X fp) hs (S.roots r) (hs r) (fp r)
 cj:∀r r' b,b∈fp r->b∈fp r'->r=r'
 nodup:∀r,(fp r).Nodup
 cV:∀r b,b∈fp r->¬X b
 de:∀b,X b->b<w.heap.size
 fA:∀b,X b->b<w0.heap.size->¬O0 b
 mine:∀r b,b∈fp r->O0 b∨w0.heap.size<=b
 aZ:Mh w0 O0 w
 b8:∀r t lk,S.roots r= .live t lk->t.b8=true
 aV:∀r h,hs r=some h->h.oneCell'=true
 small:n<=100000
 ax:∀r h,1000000000<=r->hs r=some h->O0.hd r=some h
section
variable {X:NP} {w0:World} {O0:Fr} {n:Nat} {S:St} {a:Act} {w:World} {hs:NV} {fp:NL}
def iG.lt{O:NP}{r:aE}{h:OV}{f:LN}(hr:iG w O hs r h f):∀b∈f,b<w.heap.size:=by
 cases r with
 |free=>rw[hr.2];simp
 |dead=>have:f=[]:=hr;rw[this];simp
 |live t lk=>obtain⟨x,_,ho,_⟩:=hr;exact ho.lt
def Good.lt(g:Good X w0 O0 n S a w hs fp){r b:Nat}(h:b∈fp r):b<w.heap.size:=(g.root r).lt b h
end
def Ow.cells{w:World}{O:NP}{t:T}{x:Value}{fp:LN}(h:Ow w O t x fp):∀b∈fp,∃cs e fz,w.heap[b]? =some (.cells cs e fz):=by
 induction h with
 |rd h=>simp
 |jn s=>simp
 |arr s l b len cap cs e ar hb hl hc hm hsz hfl hr ih=>
  intro b' hb';rcases qO.1 hb' with rfl|h'
  ·exact⟨_,_,_,hb⟩
  ·obtain⟨f,hf,gz⟩:=rY.1 h';obtain⟨i,hi,rfl⟩:=rE.1 hf;exact ih i om b' (by rw[qA,qB hi];exact gz)
 |box l b cs e ar hb hl hfl hr ih=>
  intro b' hb';rcases qO.1 hb' with rfl|h'
  ·exact⟨_,_,_,hb⟩
  ·obtain⟨f,hf,gz⟩:=rY.1 h';obtain⟨i,hi,rfl⟩:=rE.1 hf;exact ih i om b' (by rw[qA,qB hi];exact gz)
 |agg l vs ar hl hfl hr ih=>
  intro b' h';obtain⟨f,hf,gz⟩:=rY.1 h';obtain⟨i,hi,rfl⟩:=rE.1 hf;exact ih i om b' (by rw[qA,qB hi];exact gz)
 |aI l vs ar hl hfl hr ih=>
  intro b' h';obtain⟨f,hf,gz⟩:=rY.1 h';obtain⟨i,hi,rfl⟩:=rE.1 hf;exact ih i om b' (by rw[qA,qB hi];exact gz)
section
variable {X:NP} {w0:World} {O0:Fr} {n:Nat} {S:St} {a:Act} {w:World} {hs:NV} {fp:NL}
def Good.cells(g:Good X w0 O0 n S a w hs fp){r b:Nat}(h:b∈fp r):∃cs e fz,w.heap[b]? =some (.cells cs e fz):=by
 have hr:=g.root r;cases hS:S.roots r with
 |free=>rw[hS]at hr;rw[hr.2]at h;simp at h
 |dead=>rw[hS]at hr;have:fp r=[]:=hr;rw[this]at h;simp at h
 |live t lk=>rw[hS]at hr;obtain⟨x,_,ho,_⟩:=hr;exact ho.cells b h
def Good.zT(g:Good X w0 O0 n S a w hs fp){D:Nat}(h:w.heap[D]? =some (.deferred (some [])))(r:Nat):D∉fp r:=fun hm=>by
 obtain⟨cs,e,fz,hc⟩:=g.cells hm;rw[h]at hc;cases hc
end
def aQ(P:Program)(n:Nat)(o:Oper)(S:St)(K:St->Prop):Prop:=
 ∀X w0 O0 a w hs fp,Good X w0 O0 n S a w hs fp->∀Q,o.wp P a w (fun a' w'=>∃S' hs' al,Good X w0 O0 n S' a' w' hs' al/\K S') Q
def St.ev(S:St):Operand->A
 | .tmp t=>S.env t
 | .const v=>.t (.v v)
 | .global _=>.t .any
 | .func f=>.fn f []
section
variable {P:Program} {X:NP} {w0:World} {O0:Fr} {n:Nat} {S:St} {a:Act} {w:World} {hs:NV} {fp:NL}
def Good.ev(g:Good X w0 O0 n S a w hs fp)(x:Operand):Is w (Ob X fp) hs (S.ev x) (a.eval x):=by
 cases x with
 |tmp t=>exact g.env t
 |const v=>exact .t (.v _)
 |global g=>exact .t (.any _)
 |func f=>exact .fn (vs:=[]) rfl (fun i h=>absurd h sA)
def Good.put(g:Good X w0 O0 n S a w hs fp){d:Nat}(hd:d<n){x:A}{v:Value}(h:Is w (Ob X fp) hs x v):
  Good X w0 O0 n (S.put (some d) x) (a.put (some d) v) w hs fp:=by
 refine⟨by simp[Act.put,g.size],g.defers,fun i=>?_,g.root,g.cj,g.nodup,g.cV,g.de,g.fA,g.mine,g.aZ,g.b8,g.aV,g.small,g.ax⟩;by_cases hi:i=d
 ·subst hi;have:(a.put (some i) v).tmps.getD i undef=v:=by simp[Act.put,qC,g.size,hd]
  rw[this];simp only[St.put,aT];exact h
 ·have:(a.put (some d) v).tmps.getD i undef=a.tmps.getD i undef:=by
   simp[Act.put,qC,Array.getElem?_setIfInBounds,Ne.symm hi]
  rw[this];simp only[St.put,aU _ _ _ _ hi];exact g.env i
def aQ.val{K:St->Prop}{x:A}(aD:o.dst=some d)(hd:d<n)(h:∀X w0 O0 a w hs fp,Good X w0 O0 n S a w hs fp->∃v,(execOp a.eval o).run P w= .ok (.value v) w/\Is w (Ob X fp) hs x v)(k:K (S.put (some d) x)):aQ P n o S K:=by
 intro X w0 O0 a w hs fp g Q;obtain⟨v,hr,hi⟩:=h X w0 O0 a w hs fp g;unfold Oper.wp;rw[hr,Oper.upon_value,aD];exact⟨_,hs,fp,g.put hd hi,k⟩
end
section
variable {w:World} {O:NP} {hs:NV}
def Is.dP{x v:Value}(h:Is w O hs (.t (.v x)) v):v=x:=by cases h with|t h=>cases h;rfl
def Is.Mi{l:List A}{v:Value}(h:Is w O hs (.aI l) v):∃vs:LV,v= .tuple vs.toArray/\vs.length=l.length/\∀i (h:i<l.length),Is w O hs l[i] (vs.getD i undef):=by
 cases h with|aI hl hr=>exact⟨_,rfl,hl,hr⟩
def Is.CX{l:List A}{v:Value}(h:Is w O hs (.agg l) v):∃vs:LV,v= .agg vs.toArray/\vs.length=l.length/\∀i (h:i<l.length),Is w O hs l[i] (vs.getD i undef):=by
 cases h with|agg hl hr=>exact⟨_,rfl,hl,hr⟩
def Is.Vu{l:List T}{v:Value}(h:Is w O hs (.t (.aI l)) v):∃vs:LV,v= .tuple vs.toArray/\vs.length=l.length/\∀i (h:i<l.length),Is w O hs (.t l[i]) (vs.getD i undef):=by
 cases h with|t h=>cases h with|aI _ _ hl hr=>exact⟨_,rfl,hl,fun i h=>.t (hr i h)⟩
def Is.GA{l:List T}{v:Value}(h:Is w O hs (.t (.agg l)) v):∃vs:LV,v= .agg vs.toArray/\vs.length=l.length/\∀i (h:i<l.length),Is w O hs (.t l[i]) (vs.getD i undef):=by
 cases h with|t h=>cases h with|agg _ _ hl hr=>exact⟨_,rfl,hl,fun i h=>.t (hr i h)⟩
def Is.zU{s:Nat}{l:List T}{v:Value}(h:Is w O hs (.t (.sh s l)) v):
  (v= .slice none 0 0/\l=[])∨(∃ad cap,v= .slice (some ad) 0 cap/\l=[])∨∃b off len cap cs e fz,v= .slice (some ⟨b,off,none⟩) len cap/\¬O b/\w.heap[b]? =some (.cells cs e fz)/\off+l.length<=cs.size/\l.length=len*s/\len<=cap∧
   ∀i (h:i<l.length),Rd w O l[i] (cs.getD (off+i) undef):=by
 cases h with
 |t h=>
  cases h with
  |nZ=>exact .inl ⟨rfl,rfl⟩
  |sW _ ad cap=>exact .inr (.inl ⟨ad,cap,rfl,rfl⟩)
  |sh _ _ b off len cap cs e fz h1 h2 h3 h4 h5 h6=>exact .inr (.inr ⟨b,off,len,cap,cs,e,fz,rfl,h1,h2,h3,h4,h5,h6⟩)
end
def rb(k:IntKind)(a b:Int):Int:=k.wrap (BitVec.ofInt k.bits a&&&BitVec.ofInt k.bits b).toNat
def wa(k:IntKind)(a b:Int):Int:=k.wrap (BitVec.ofInt k.bits a|||BitVec.ofInt k.bits b).toNat
def zV(k:IntKind)(a b:Int):Int:=k.wrap (BitVec.ofInt k.bits a&&& ~~~ BitVec.ofInt k.bits b).toNat
def sX(k:IntKind)(a b:Int):Int:=k.wrap (a*2^min b.toNat k.bits)
def uj(k:IntKind)(a b:Int):Int:=a.fdiv (2^min b.toNat k.bits)
def sY(op:BinOp)(k:IntKind)(a b:Int)(K:A->Prop):Prop:=
 match op with
 | .add=>K (.v (.int k (k.wrap (a+b))))
 | .sub=>K (.v (.int k (k.wrap (a-b))))
 | .mul=>K (.v (.int k (k.wrap (a*b))))
 | .quo=>b≠0/\K (.v (.int k (k.wrap (a.tdiv b))))
 | .rem=>b≠0/\K (.v (.int k (a.tmod b)))
 | .eql=>K (.v (.bool (a==b)))
 | .neq=>K (.v (.bool (a !=b)))
 | .lss=>K (.v (.bool (decide (a<b))))
 | .leq=>K (.v (.bool (decide (a<=b))))
 | .gtr=>K (.v (.bool (decide (a>b))))
 | .geq=>K (.v (.bool (decide (a ≥ b))))
 | .and=>K (.v (.int k (rb k a b)))
 | .or=>K (.v (.int k (wa k a b)))
 | .andNot=>K (.v (.int k (zV k a b)))
 |_=>False
def Vv{k:IntKind}{a b:Int}{K:A->Prop}(h:sY op k a b K)(t:TypeId):
  ∃v,(∀w,(binOp op t (.int k a) (.int k b)).run P w= .ok v w)/\K (.v v):=by
 cases op<;>simp only[sY]at h<;>first
  |(exact h.elim)
  |(exact⟨_,fun w=>by first|(simp[binOp,Op.intArith,Op.intCmp];done)|(simp[binOp,Op.intBits,rb,wa,zV];done),h⟩)
  |(exact⟨_,fun w=>by simp[binOp,Op.intDiv,h.1],h.2⟩)
def Vw(op:BinOp)(t:TypeId)(x y:Operand)(k:IntKind)(a b:Int)(w:World):(eqGuard op t x y (.int k a) (.int k b)).run P w= .ok () w:=by
 unfold eqGuard;cases op<;>rfl
def wb(op:BinOp)(a b:ByteArray)(K:A->Prop):Prop:=
 match op with
 | .add=>((a.size+b.size:Nat):Int)<=9223372036854775807/\K (.v (.string (a++b)))
 | .eql=>K (.v (.bool (a.toList==b.toList)))
 | .neq=>K (.v (.bool (!(a.toList==b.toList))))
 |_=>False
def Vx{a b:ByteArray}{K:A->Prop}(h:wb op a b K)(t:TypeId):
  ∃v,(∀w,(binOp op t (.string a) (.string b)).run P w= .ok v w)/\K (.v v):=by
 cases op<;>simp only[wb]at h<;>first
  |(exact h.elim)
  |(exact⟨_,fun w=>by simp[binOp,Op.stringOp];done,h⟩)
  |(refine⟨_,fun w=>?_,h.2⟩
    have h1:¬(((a.size+b.size:Nat):Int)>IntKind.i64.max):=by have:=h.1;show¬(_>(9223372036854775807:Int));omega
    simp only[binOp,Op.stringOp,h1,if_false];rfl)
def Vy(op:BinOp)(t:TypeId)(x y:Operand)(a b:ByteArray)(w:World):(eqGuard op t x y (.string a) (.string b)).run P w= .ok () w:=by
 unfold eqGuard;cases op<;>rfl
def uk(op:BinOp)(x y:A)(K:A->Prop):Prop:=
 match x,y with
 | .t (.v (.int k a)),.t (.v (.int k' b))=>(match op with
   | .shl=>0<=b/\K (.v (.int k (sX k a b)))
   | .shr=>0<=b/\K (.v (.int k (uj k a b)))
   |_=>k'=k/\sY op k a b K)
 | .t (.v (.string a)),.t (.v (.string b))=>wb op a b K
 |_,_=>False
def dI(S:St)(d:Nat)(K:St->Prop):A->Prop:=fun a=>K (S.put (some d) a)
def Vz(S:St)(d:Nat)(K:St->Prop)(a:A):dI S d K a=K {S with env:=ak S.env d a}:=rfl
section
variable {P:Program} {n:Nat} {S:St} {K:St->Prop}
def Mj{x:Operand}(ho:o.op= .move x∨o.op= .assign x)(aD:o.dst=some d)(hd:d<n)(k:dI S d K (S.ev x)):aQ P n o S K:=
 aQ.val aD hd (fun X w0 O0 a w hs fp g=>⟨a.eval x,by unfold execOp;rcases ho with ho|ho<;>simp[ho],g.ev x⟩) k
def VA{c x:Operand}{b:Bool}(ho:o.op= .pick c x y)(aD:o.dst=some d)(hd:d<n)(hc:S.ev c= .t (.v (.bool b)))(k:dI S d K (if b then S.ev x else S.ev y)):aQ P n o S K:=
 aQ.val aD hd (fun X w0 O0 a w hs fp g=>by
  have h:=g.ev c;rw[hc]at h;have h':=h.dP;refine⟨if b then a.eval x else a.eval y,by simp[execOp,ho,h',asBool],?_⟩;cases b
  ·exact g.ev y
  ·exact g.ev x) k
def VB{t u:TypeId}{x:Operand}(ho:o.op= .binOp op t x y u)(aD:o.dst=some d)(hd:d<n)(k:uk op (S.ev x) (S.ev y) (dI S d K)):aQ P n o S K:=by
 unfold uk at k;split at k
 ·rename_i kk a1 kk' b1 hx hy;split at k
  ·refine aQ.val aD hd (fun X w0 O0 a w hs fp g=>?_) k.2;have h1:=g.ev x;rw[hx]at h1;have cC:=h1.dP;have h2:=g.ev y;rw[hy]at h2;have bi:=h2.dP;have hn:¬b1<0:=by have:=k.1;omega
   exact⟨_,by simp[execOp,ho,cC,bi,eqGuard,binOp,Op.shift,hn,sX],.t (.v _)⟩
  ·refine aQ.val aD hd (fun X w0 O0 a w hs fp g=>?_) k.2;have h1:=g.ev x;rw[hx]at h1;have cC:=h1.dP;have h2:=g.ev y;rw[hy]at h2;have bi:=h2.dP;have hn:¬b1<0:=by have:=k.1;omega
   exact⟨_,by simp[execOp,ho,cC,bi,eqGuard,binOp,Op.shift,hn,uj],.t (.v _)⟩
  obtain⟨rfl,hk⟩:=k;obtain⟨v,hv,hK⟩:=Vv (P:=P) hk t;refine aQ.val (x:=.v v) aD hd (fun X w0 O0 a w hs fp g=>?_) hK;have h1:=g.ev x;rw[hx]at h1;have cC:=h1.dP;have h2:=g.ev y;rw[hy]at h2;have bi:=h2.dP;exact⟨v,by simp[execOp,ho,cC,bi,Vw,hv],.t (.v v)⟩
 ·rename_i sa sb hx hy;obtain⟨v,hv,hK⟩:=Vx (P:=P) k t;refine aQ.val (x:=.v v) aD hd (fun X w0 O0 a w hs fp g=>?_) hK;have h1:=g.ev x;rw[hx]at h1;have cC:=h1.dP;have h2:=g.ev y;rw[hy]at h2;have bi:=h2.dP;exact⟨v,by simp[execOp,ho,cC,bi,Vy,hv],.t (.v v)⟩
 ·exact k.elim
def ul(op:UnOp)(x:A)(K:A->Prop):Prop:=
 match op,x with
 | .neg,.t (.v (.int k a))=>K (.v (.int k (k.wrap (0-a))))
 | .not,.t (.v (.bool b))=>K (.v (.bool (!b)))
 |_,_=>False
def VC{op:UnOp}{t:TypeId}{x:Operand}(ho:o.op= .unOp op t x)(aD:o.dst=some d)(hd:d<n)(k:ul op (S.ev x) (dI S d K)):aQ P n o S K:=by
 unfold ul at k;split at k
 ·rename_i kk a1 hx;refine aQ.val aD hd (fun X w0 O0 a w hs fp g=>?_) k;have h1:=g.ev x;rw[hx]at h1;have cC:=h1.dP;exact⟨_,by simp[execOp,ho,cC,Op.unary,Op.intArith],.t (.v _)⟩
 ·rename_i b1 hx;refine aQ.val aD hd (fun X w0 O0 a w hs fp g=>?_) k;have h1:=g.ev x;rw[hx]at h1;have cC:=h1.dP;exact⟨_,by simp[execOp,ho,cC,Op.unary],.t (.v _)⟩
 ·exact k.elim
def um(x:A)(i:Nat)(K:A->Prop):Prop:=
 match x with
 | .aI l=>∃a,l[i]? =some a/\K a
 | .t (.aI l)=>∃a,l[i]? =some a/\K (.t a)
 |_=>False
def VD{i:Nat}{x:Operand}(ho:o.op= .extract x i)(aD:o.dst=some d)(hd:d<n)(k:um (S.ev x) i (dI S d K)):aQ P n o S K:=by
 unfold um at k;split at k
 ·rename_i l hx;obtain⟨b,hb,hK⟩:=k;refine aQ.val (x:=b) aD hd (fun X w0 O0 a w hs fp g=>?_) hK;have h1:=g.ev x;rw[hx]at h1;obtain⟨vs,hv,hl,hr⟩:=h1.Mi;obtain⟨hi,rfl⟩:=qK.1 hb;have lK:vs[i]? =some vs[i]:=qB (by omega);refine⟨vs[i],by simp[execOp,ho,hv,Instr.extract,lK],?_⟩;have:=hr i hi;rwa[qA,lK]at this
 ·rename_i l hx;obtain⟨b,hb,hK⟩:=k;refine aQ.val (x:=.t b) aD hd (fun X w0 O0 a w hs fp g=>?_) hK;have h1:=g.ev x;rw[hx]at h1;obtain⟨vs,hv,hl,hr⟩:=h1.Vu;obtain⟨hi,rfl⟩:=qK.1 hb;have lK:vs[i]? =some vs[i]:=qB (by omega);refine⟨vs[i],by simp[execOp,ho,hv,Instr.extract,lK],?_⟩;have:=hr i hi;rwa[qA,lK]at this
 ·exact k.elim
end
def fB(P:Program)(t:TypeId):Option Bool:=(P.underlying t).map fun| .struct _=>true| .array _ _=>true|_=>false
def dJ(P:Program)(t:TypeId):Option Nat:=(P.info? t).map (·.size)
def zW(P:Program)(t:TypeId):Option Nat:=(P.info? t).map (·.bytes)
def io(P:Program)(t:TypeId):Option TypeId:=(P.underlying t).bind fun| .slice e=>some e|_=>none
def wc(P:Program)(t:TypeId):Option IntKind:=(P.underlying t).bind fun| .int k=>some k|_=>none
def GB(P:Program)(t:TypeId):Bool:=match P.underlying t with|some .string=>true|_=>false
def n_(P:Program)(t:TypeId):Option Nat:=(io P t).bind (dJ P)
def GC(P:Program)(t:TypeId):Option Nat:=(io P t).bind (zW P)
def wd(P:Program)(t:TypeId)(f:Nat):Option (Nat×Nat×Bool):=
 (P.underlying t).bind fun
  | .struct fs=>(fs[f]?).bind fun fd=>(dJ P fd.type).bind fun z=>(fB P fd.type).map fun g=>(fd.offset,z,g)
  |_=>none
def uo{t e:TypeId}(h:io P t=some e):P.underlying t=some (.slice e):=by
 unfold io at h;cases hu:P.underlying t with
 |none=>simp[hu]at h
 |some d=>rw[hu]at h;cases d<;>simp at h;rw[h]
def zX{t:Nat}(h:dJ P t=some z):∃i,P.info? t=some i/\i.size=z:=by
 unfold dJ at h;cases hu:P.info? t with
 |none=>simp[hu]at h
 |some d=>simp[hu]at h;exact⟨d,rfl,h⟩
def Mk{t:Nat}(h:zW P t=some z):∃i,P.info? t=some i/\i.bytes=z:=by
 unfold zW at h;cases hu:P.info? t with
 |none=>simp[hu]at h
 |some d=>simp[hu]at h;exact⟨d,rfl,h⟩
def GD{t:Nat}(h:n_ P t=some z):∃e i,P.underlying t=some (.slice e)/\P.info? e=some i/\i.size=z:=by
 unfold n_ at h;cases he:io P t with
 |none=>simp[he]at h
 |some e=>simp[he]at h;obtain⟨i,hi,hz⟩:=zX h;exact⟨e,i,uo he,hi,hz⟩
def Ml{t:TypeId}{k:IntKind}(h:wc P t=some k):P.underlying t=some (.int k):=by
 unfold wc at h;cases hu:P.underlying t with
 |none=>simp[hu]at h
 |some d=>rw[hu]at h;cases d<;>simp at h;rw[h]
def GF{t:TypeId}{b:Bool}(h:fB P t=some b)(w:World):(isAgg t).run P w= .ok b w:=by
 unfold fB at h;cases hu:P.underlying t with
 |none=>simp[hu]at h
 |some d=>
  rw[hu]at h;simp only[Option.map_some,Option.some.injEq]at h;subst h;cases d<;>simp[isAgg,run_underlying hu]
def uq{t:Nat}(h:dJ P t=some z)(w:World):(sizeOf t).run P w= .ok z w:=by
 obtain⟨i,hi,hz⟩:=zX h;simp[sizeOf,typeInfo,hi,hz]
def pg{b o:Nat}{cs:Array Value}{e:TypeId}{fz:Nat×Nat}(hb:w.heap[b]? =some (.cells cs e fz))(h:o<cs.size):
  w.cell? ⟨b,o,none⟩=some (cs.getD o undef):=by
 simp[World.cell?,hb,qC,h]
def re(b o k:Nat):(⟨b,o,none⟩:Addr).add k=⟨b,o+k,none⟩:=by
 unfold Addr.add;split<;>simp_all
def Mm{t:TypeId}(h:fB P t=some false){ad:Addr}{v:Value}(hc:w.cell? ad=some v):(loadVar t ad).run P w= .ok v w:=by
 simp[loadVar,GF h,Go.load,Sem.run,hc]
def Mn{t:Nat}(h:fB P t=some true)(hz:dJ P t=some z){b o:Nat}{cs:Array Value}{e:TypeId}{fz:Nat×Nat}(hb:w.heap[b]? =some (.cells cs e fz))(hsz:o+z<=cs.size):(loadVar t ⟨b,o,none⟩).run P w= .ok (.agg ((List.range z).map fun i=>cs.getD (o+i) undef).toArray) w:=by
 have hl:=run_loadCells (P:=P) (w:=w) ⟨b,o,none⟩ z (fun i=>cs.getD (o+i) undef) (fun j hj=>by rw[re];exact pg hb om);simp only[loadVar,Sem.run_bind,GF h,Result.andThen_ok,uq hz,if_true];simp[hl]
def T.flat:T->Bool
 | .any| .v _| .sh _ _| .ax _ _| .fn _ _=>true
 |_=>false
def Ow.sZ{t:T}{x:Value}{fp:LN}(h:Ow w O t x fp)(hf:t.flat=true):Rd w O t x/\fp=[]:=by
 cases h with
 |rd h=>exact⟨h,rfl⟩
 |jn=>simp[T.flat]at hf
 |arr=>simp[T.flat]at hf
 |box=>simp[T.flat]at hf
 |agg=>simp[T.flat]at hf
 |aI=>simp[T.flat]at hf
def Is.gK{hs:NV}{r:Nat}{v:Value}(h:Is w O hs (.own r) v):hs r=some v:=by cases h;assumption
section
variable {P:Program} {X:NP} {w0:World} {O0:Fr} {n:Nat} {S:St} {a:Act} {w:World} {hs:NV} {fp:NL}
def Good.arr(g:Good X w0 O0 n S a w hs fp){r s:Nat}{l:List T}{lk:List (Nat×Nat)}(h:S.roots r= .live (.arr s l) lk):
  (hs r=some (.slice none 0 0)/\l=[]/\fp r=[]/\lk=[])∨∃(b len cap:Nat) (cs:Array Value) (e:TypeId) (ar:LB),hs r=some (.slice (some ⟨b,0,none⟩) len cap)/\w.heap[b]? =some (.cells cs e (0,0))/\l.length=len*s/\len<=cap/\cap<=maxLen∧
   cs.size=cap*s/\ar.length=l.length/\(∀i (h:i<l.length),Ow w (Ob X fp) l[i] (cs.getD i undef) (ar.getD i []))/\fp r=b::ar.flatten/\l.length<=cs.size∧
   ∀p∈lk,∃y,w.cell? ⟨b,p.1,none⟩=some y/\hs p.2=some y:=by
 have hr:=g.root r;rw[h]at hr;obtain⟨x,hx,ho,hlk⟩:=hr;generalize bw:fp r=f at ho;cases ho with
 |rd hh=>cases hh
 |jn=>
  refine .inl ⟨hx,rfl,rfl,?_⟩;cases lk with
  |nil=>rfl
  |cons p q=>obtain⟨y,hy,_⟩:=hlk p sA;simp[cellOf]at hy
 |arr _ _ b len cap cs e ar hb hl hc hm hsz hf hr=>
  refine .inr ⟨b,len,cap,cs,e,ar,hx,hb,hl,hc,hm,hsz,hf,hr,rfl,?_,fun p hp=>?_⟩
  ·rw[hl,hsz];exact Nat.mul_le_mul_right _ hc
  ·obtain⟨y,hy,hd⟩:=hlk p hp;exact⟨y,by simpa[cellOf]using hy,hd⟩
def Good.box(g:Good X w0 O0 n S a w hs fp){r:Nat}{l:List T}{lk:List (Nat×Nat)}(h:S.roots r= .live (.box l) lk):
  ∃(b:Nat) (cs:Array Value) (e:TypeId) (ar:LB),hs r=some (.pointer (some ⟨b,0,none⟩))/\w.heap[b]? =some (.cells cs e (0,0))/\l.length=cs.size/\ar.length=l.length∧
   (∀i (h:i<l.length),Ow w (Ob X fp) l[i] (cs.getD i undef) (ar.getD i []))/\fp r=b::ar.flatten/\∀p∈lk,∃y,w.cell? ⟨b,p.1,none⟩=some y/\hs p.2=some y:=by
 have hr:=g.root r;rw[h]at hr;obtain⟨x,hx,ho,hlk⟩:=hr;generalize bw:fp r=f at ho;cases ho with
 |rd hh=>cases hh
 |box _ b cs e ar hb hl hf hr=>
  refine⟨b,cs,e,ar,hx,hb,hl,hf,hr,rfl,fun p hp=>?_⟩;obtain⟨y,hy,hd⟩:=hlk p hp;exact⟨y,by simpa[cellOf]using hy,hd⟩
end
def aE.cells:aE->Option (List T×List (Nat×Nat))
 | .live (.arr _ l) lk=>some (l,lk)
 | .live (.box l) lk=>some (l,lk)
 |_=>none
section
variable {P:Program} {n:Nat} {S:St} {K:St->Prop}
def Mo(P:Program)(t:TypeId)(x:A)(S:St)(K:A->Prop):Prop:=
 match x with
 | .t (.v (.string s))=>GB P t=true/\K (.v (.int .i64 s.size))
 | .t (.v (.slice none 0 0))=>(io P t).isSome=true/\K (.v (.int .i64 0))
 | .t (.sh s l)=>(io P t).isSome=true/\0<s/\K (.v (.int .i64 ((l.length/s:Nat):Int)))
 | .own r=>(io P t).isSome=true/\(match S.roots r with| .live (.arr s l) _=>0<s/\K (.v (.int .i64 ((l.length/s:Nat):Int)))|_=>False)
 | .sub _ _ m=>(io P t).isSome=true/\K (.v (.int .i64 (m:Nat)))
 |_=>False
def run_len_slice{t ty:TypeId}(h:(io P t).isSome=true)(a:Option Addr)(m c:Nat)(w:World):(Builtin.len_ #[t] ty #[.slice a m c]).run P w= .ok (.int .i64 m) w:=by
 cases he:io P t with
 |none=>simp[he]at h
 |some e=>simp[Builtin.len_,run_underlying (uo he),goInt]
def rf{t:TypeId}{x:Operand}(ho:o.op= .call {callee:=.builtin .len,args:=#[x],argTypes:=#[t]}){v v':Value}(hx:ρ x=v)(h:(Builtin.len_ #[t] o.type #[v]).run P w= .ok v' w):(execOp ρ o).run P w= .ok (.value v') w:=by
 simp[execOp,ho,resolve,invoke,builtin,hx,h]
def VE{t:TypeId}{x:Operand}(ho:o.op= .call {callee:=.builtin .len,args:=#[x],argTypes:=#[t]})(aD:o.dst=some d)(hd:d<n)(k:Mo P t (S.ev x) S (dI S d K)):aQ P n o S K:=by
 unfold Mo at k;split at k
 ·rename_i s hx;obtain⟨ht,hK⟩:=k;refine aQ.val aD hd (fun X w0 O0 a w hs fp g=>?_) hK;have h1:=g.ev x;rw[hx]at h1;have cC:=h1.dP;refine⟨_,rf ho cC ?_,.t (.v _)⟩;unfold GB at ht;split at ht
  ·rename_i hu;simp[Builtin.len_,run_underlying hu,goInt]
  ·cases ht
 ·rename_i hx;obtain⟨ht,hK⟩:=k;refine aQ.val aD hd (fun X w0 O0 a w hs fp g=>?_) hK;have h1:=g.ev x;rw[hx]at h1;exact⟨_,rf ho h1.dP (run_len_slice ht _ _ _ _),.t (.v _)⟩
 ·rename_i s l hx;obtain⟨ht,hs0,hK⟩:=k;refine aQ.val aD hd (fun X w0 O0 a w hs fp g=>?_) hK;have h1:=g.ev x;rw[hx]at h1;rcases h1.zU with⟨hv,rfl⟩|⟨ad,cap,hv,rfl⟩|⟨b,off,len,cap,cs,e,fz,hv,_,_,_,hl,_,_⟩
  ·exact⟨_,rf ho hv (run_len_slice ht _ _ _ _),sU (Is.t (.v _))⟩
  ·exact⟨_,rf ho hv (run_len_slice ht _ _ _ _),sU (Is.t (.v _))⟩
  ·refine⟨_,rf ho hv (run_len_slice ht _ _ _ _),?_⟩;rw[hl,Nat.mul_div_cancel _ hs0];exact .t (.v _)
 ·rename_i r hx;obtain⟨ht,k⟩:=k;split at k
  ·rename_i s l lk hr;obtain⟨hs0,hK⟩:=k;refine aQ.val aD hd (fun X w0 O0 a w hs fp g=>?_) hK;have h1:=g.ev x;rw[hx]at h1;have h1:=h1.gK;rcases g.arr hr with⟨hv,rfl,_⟩|⟨b,len,cap,cs,e,ar,hv,_,hl,_⟩
   ·rw[hv,Option.some.injEq]at h1;exact⟨_,rf ho h1.symm (run_len_slice ht _ _ _ _),sU (Is.t (.v _))⟩
   ·rw[hv,Option.some.injEq]at h1;refine⟨_,rf ho h1.symm (run_len_slice ht _ _ _ _),?_⟩;rw[hl,Nat.mul_div_cancel _ hs0];exact .t (.v _)
  ·exact k.elim
 ·rename_i r off m hx;obtain⟨ht,hK⟩:=k;refine aQ.val aD hd (fun X w0 O0 a w hs fp g=>?_) hK;have h1:=g.ev x;rw[hx]at h1;generalize hv:a.eval x=v at h1;cases h1 with
  |sub _ _=>exact⟨_,rf ho hv (run_len_slice ht _ _ _ _),.t (.v _)⟩
  |my _=>exact⟨_,rf ho hv (run_len_slice ht _ _ _ _),.t (.v _)⟩
  |mz _=>exact⟨_,rf ho hv (run_len_slice ht _ _ _ _),.t (.v _)⟩
 ·exact k.elim
def GG(P:Program)(t:TypeId)(x i:A)(S:St)(K:A->Prop):Prop:=
 match i with
 | .t (.v (.int _ iv))=>
   0<=iv/\match n_ P t with
   |some z=>(match x with
    | .t (.sh s l)=>s=z/\(iv.toNat+1)*z<=l.length/\0<z/\K (.t (.ax l (iv.toNat*z)))
    | .own r=>(match S.roots r with| .live (.arr s l) _=>s=z/\(iv.toNat+1)*z<=l.length/\0<z/\K (.ptr r (iv.toNat*z))|_=>False)
    | .sub r off m=>iv.toNat<m/\K (.ptr r (off+iv.toNat*z))
    |_=>False)
   |none=>False
 |_=>False
def GH{t:TypeId}{x:Operand}(ho:o.op= .indexAddr t x y)(ht:n_ P t=some z){kk:IntKind}{iv:Int}{b off len cap:Nat}(hx:ρ x= .slice (some ⟨b,off,none⟩) len cap)(hy:ρ y= .int kk iv)(h0:0<=iv)(h1:iv.toNat<len):
  (execOp ρ o).run P w= .ok (.value (.pointer (some ⟨b,off+iv.toNat*z,none⟩))) w:=by
 obtain⟨e,i,hu,hi,hz⟩:=GD ht;have h2:0<=iv/\iv<len:=⟨h0,om⟩;simp[execOp,ho,hx,hy,Instr.indexAt,asIntOf,run_underlying hu,Go.sizeOf,typeInfo,hi,hz,h2,re]
def Mp{i len:Nat}(hz:0<z)(h:(i+1)*z<=len*z):i<len:=by
 have:=Nat.le_of_mul_le_mul_right h hz;omega
def VF{t:TypeId}{x:Operand}(ho:o.op= .indexAddr t x y)(aD:o.dst=some d)(hd:d<n)(k:GG P t (S.ev x) (S.ev y) S (dI S d K)):aQ P n o S K:=by
 unfold GG at k;split at k
 ·rename_i kk iv hy;obtain⟨h0,k⟩:=k;split at k
  ·rename_i z hz;split at k
   ·rename_i s l hx;obtain⟨rfl,hle,cJ,hK⟩:=k;refine aQ.val aD hd (fun X w0 O0 a w hs fp g=>?_) hK;have h2:=g.ev y;rw[hy]at h2;have bi:=h2.dP;have h1:=g.ev x;rw[hx]at h1;rcases h1.zU with⟨hv,rfl⟩|⟨ad,cap,hv,rfl⟩|⟨b,off,len,cap,cs,e,fz,hv,hO,hb,hsz,hl,hc,hr⟩
    ·simp at hle;have:=Nat.mul_le_mul_right s (Nat.le_add_left 1 iv.toNat);omega
    ·simp at hle;have:=Nat.mul_le_mul_right s (Nat.le_add_left 1 iv.toNat);omega
    ·exact⟨_,GH ho hz hv bi h0 (Mp cJ (hl▸hle)),.t (.ax l _ b off cs e fz hO hb hsz hr)⟩
   ·rename_i r hx;split at k
    ·rename_i s l lk hr;obtain⟨rfl,hle,cJ,hK⟩:=k;refine aQ.val aD hd (fun X w0 O0 a w hs fp g=>?_) hK;have h2:=g.ev y;rw[hy]at h2;have bi:=h2.dP;have h1:=g.ev x;rw[hx]at h1;have h1:=h1.gK;rcases g.arr hr with⟨hv,rfl,_⟩|⟨b,len,cap,cs,e,ar,hv,_,hl,_⟩
     ·simp at hle;have:=Nat.mul_le_mul_right s (Nat.le_add_left 1 iv.toNat);omega
     ·rw[hv,Option.some.injEq]at h1;exact⟨_,GH ho hz h1.symm bi h0 (Mp cJ (hl▸hle)),sU (Is.lJ hv)⟩
    ·exact k.elim
   ·rename_i r off m hx;obtain⟨hlt,hK⟩:=k;refine aQ.val aD hd (fun X w0 O0 a w hs fp g=>?_) hK;have h2:=g.ev y;rw[hy]at h2;have bi:=h2.dP;have h1:=g.ev x;rw[hx]at h1;generalize hv:a.eval x=v at h1;cases h1 with
    |sub hr hc=>exact⟨_,GH ho hz hv bi h0 hlt,.lJ hr⟩
    |my hr=>omega
    |mz hr=>omega
   ·exact k.elim
  ·exact k.elim
 ·exact k.elim
def GI(P:Program)(t:TypeId)(x:A)(f:Nat)(S:St)(K:A->Prop):Prop:=
 match wd P t f with
 |some (off,z,_)=>0<z/\(match x with
  | .t (.ax l o)=>K (.t (.ax l (o+off)))
  | .ptr r o=>K (.ptr r (o+off))
  | .own r=>(match S.roots r with| .live (.box _) _=>K (.ptr r off)|_=>False)
  |_=>False)
 |none=>False
def Mq{t f off:Nat}{ag:Bool}(h:wd P t f=some (off,z,ag)):∃fs fd,P.underlying t=some (.struct fs)/\fs[f]? =some fd/\fd.offset=off/\dJ P fd.type=some z/\fB P fd.type=some ag:=by
 unfold wd at h;cases hu:P.underlying t with
 |none=>simp[hu]at h
 |some d=>
  rw[hu]at h;cases d<;>simp at h;rename_i fs;cases hf:fs[f]? with
  |none=>simp[hf]at h
  |some fd=>
   simp only[hf,Option.bind_some]at h;cases hz:dJ P fd.type with
   |none=>simp[hz]at h
   |some z'=>
    cases hg:fB P fd.type with
    |none=>simp[hz,hg]at h
    |some g'=>simp[hz,hg]at h;exact⟨fs,fd,rfl,hf,h.1,by rw[hz,h.2.1],by rw[hg,h.2.2]⟩
def CY{t f:TypeId}{x:Operand}(ho:o.op= .fieldAddr t x f){off b o1:Nat}{ag:Bool}(ht:wd P t f=some (off,z,ag))(cJ:0<z)(hx:ρ x= .pointer (some ⟨b,o1,none⟩)):(execOp ρ o).run P w= .ok (.value (.pointer (some ⟨b,o1+off,none⟩))) w:=by
 obtain⟨fs,fd,hu,hf,VG,hz,_⟩:=Mq ht;have rg:=uq hz w;have:¬z=0:=om;simp[execOp,ho,hx,Instr.fieldAt,run_underlying hu,hf,Instr.sureAddr,fieldPlace,rg,this,VG,re]
def VH{f:Nat}{t:TypeId}{x:Operand}(ho:o.op= .fieldAddr t x f)(aD:o.dst=some d)(hd:d<n)(k:GI P t (S.ev x) f S (dI S d K)):aQ P n o S K:=by
 unfold GI at k;split at k
 ·rename_i off z ag hf;obtain⟨cJ,k⟩:=k;split at k
  ·rename_i l o1 hx;refine aQ.val aD hd (fun X w0 O0 a w hs fp g=>?_) k;have h1:=g.ev x;rw[hx]at h1;generalize hv:a.eval x=v at h1;cases h1 with
   |t h1=>
    cases h1 with
    |ax _ _ b oo cs e fz hO hb hsz hr=>
     exact⟨_,CY ho hf cJ hv,.t (by simpa[Nat.add_assoc]using Rd.ax l (o1+off) b oo cs e fz hO hb hsz hr)⟩
  ·rename_i r o1 hx;refine aQ.val aD hd (fun X w0 O0 a w hs fp g=>?_) k;have h1:=g.ev x;rw[hx]at h1;generalize hv:a.eval x=v at h1;cases h1 with
   |lJ hr=>exact⟨_,CY ho hf cJ hv,.lJ hr⟩
   |kc hr=>exact⟨_,CY ho hf cJ hv,.kc hr⟩
  ·rename_i r hx;split at k
   ·rename_i l lk hr;refine aQ.val aD hd (fun X w0 O0 a w hs fp g=>?_) k;have h1:=g.ev x;rw[hx]at h1;have h1:=h1.gK;obtain⟨b,cs,e,ar,hb,_⟩:=g.box hr;rw[hb,Option.some.injEq]at h1;exact⟨_,CY ho hf cJ h1.symm,sU (Is.kc hb)⟩
   ·exact k.elim
  ·exact k.elim
 ·exact k.elim
def ya(P:Program)(t:TypeId):Option (Nat×Nat):=(P.underlying t).bind fun
 | .array len e=>(dJ P e).map fun z=>(len,z)
 |_=>none
def Mr{t len:Nat}(h:ya P t=some (len,z)):∃e,P.underlying t=some (.array len e)/\dJ P e=some z:=by
 unfold ya at h;cases hu:P.underlying t with
 |none=>simp[hu]at h
 |some d=>
  rw[hu]at h;cases d<;>simp at h;rename_i m e;obtain⟨h1,rfl⟩:=h;exact⟨e,rfl,h1⟩
def ph(len z:Nat)(x i:A)(S:St)(K:A->Prop):Prop:=
 match i with
 | .t (.v (.int _ iv))=>0<=iv/\iv<len/\(match x with
   | .t (.ax l o)=>K (.t (.ax l (o+iv.toNat*z)))
   | .ptr r o=>K (.ptr r (o+iv.toNat*z))
   | .own r=>(match S.roots r with| .live (.box _) _=>K (.ptr r (iv.toNat*z))|_=>False)
   |_=>False)
 |_=>False
def CZ{t:TypeId}{x:Operand}(ho:o.op= .indexAddr t x y){len:Nat}(ht:ya P t=some (len,z)){kk:IntKind}{iv:Int}{b o1:Nat}(hx:ρ x= .pointer (some ⟨b,o1,none⟩))(hy:ρ y= .int kk iv)(h0:0<=iv)(h1:iv<len):
  (execOp ρ o).run P w= .ok (.value (.pointer (some ⟨b,o1+iv.toNat*z,none⟩))) w:=by
 obtain⟨e,hu,hz⟩:=Mr ht;have rg:=uq hz w;have h2:0<=iv/\iv<len:=⟨h0,h1⟩;simp[execOp,ho,hx,hy,Instr.indexAt,asIntOf,run_underlying hu,Instr.sureAddr,rg,h2,re]
def VI{len:Nat}{t:TypeId}{x:Operand}(ht:ya P t=some (len,z))(ho:o.op= .indexAddr t x y)(aD:o.dst=some d)(hd:d<n)(k:ph len z (S.ev x) (S.ev y) S (dI S d K)):aQ P n o S K:=by
 unfold ph at k;split at k
 ·rename_i kk iv hy;obtain⟨h0,h3,k⟩:=k;split at k
  ·rename_i l o1 hx;refine aQ.val aD hd (fun X w0 O0 a w hs fp g=>?_) k;have h2:=g.ev y;rw[hy]at h2;have bi:=h2.dP;have h1:=g.ev x;rw[hx]at h1;generalize hv:a.eval x=v at h1;cases h1 with
   |t h1=>
    cases h1 with
    |ax _ _ b oo cs e fz hO hb hsz hr=>
     exact⟨_,CZ ho ht hv bi h0 h3,.t (by simpa[Nat.add_assoc]using Rd.ax l (o1+iv.toNat*z) b oo cs e fz hO hb hsz hr)⟩
  ·rename_i r o1 hx;refine aQ.val aD hd (fun X w0 O0 a w hs fp g=>?_) k;have h2:=g.ev y;rw[hy]at h2;have bi:=h2.dP;have h1:=g.ev x;rw[hx]at h1;generalize hv:a.eval x=v at h1;cases h1 with
   |lJ hr=>exact⟨_,CZ ho ht hv bi h0 h3,.lJ hr⟩
   |kc hr=>exact⟨_,CZ ho ht hv bi h0 h3,.kc hr⟩
  ·rename_i r hx;split at k
   ·rename_i l lk hr;refine aQ.val aD hd (fun X w0 O0 a w hs fp g=>?_) k;have h2:=g.ev y;rw[hy]at h2;have bi:=h2.dP;have h1:=g.ev x;rw[hx]at h1;have h1:=h1.gK;obtain⟨b,cs,e,ar,hb,_⟩:=g.box hr;rw[hb,Option.some.injEq]at h1;exact⟨_,CZ ho ht h1.symm bi h0 h3,sU (Is.kc hb)⟩
   ·exact k.elim
  ·exact k.elim
 ·exact k.elim
end
def C0:∀(ar:LB) (i:Nat),(ar.set i []).flatten.Sublist ar.flatten
 |[],i=>sA
 |f::fs,0=>sA
 |f::fs,i+1=>sU (List.Sublist.append_left (C0 fs i) f)
def C1:∀{ar:LB} {i b:Nat},ar.flatten.Nodup->b∈ar.getD i []->b∉(ar.set i []).flatten
 |[],i,b,_,h=>by simp at h
 |f::fs,0,b,hn,h=>by
  simp only[qZ,rC]at hn;simp only[List.set_cons_zero,qZ,List.nil_append];exact fun hb=>hn.2.2 b (sU h) b hb rfl
 |f::fs,i+1,b,hn,h=>by
  simp only[qZ,rC]at hn;simp only[List.set_cons_succ,qZ,qI,not_or];have h':b∈fs.getD i []:=sU h;exact⟨fun hb=>hn.2.2 b hb b (jL h') rfl,C1 hn.2.1 h'⟩
def C2:∀{ar:LB} {i:Nat},ar.flatten.Nodup->(ar.getD i []).Nodup
 |[],i,_=>sA
 |f::fs,0,hn=>by simp only[qZ,rC]at hn;simpa using hn.1
 |f::fs,i+1,hn=>by simp only[qZ,rC]at hn;simpa using C2 (ar:=fs) (i:=i) hn.2.1
def Ms{l:List α}{i:Nat}{x d:α}(h:i<l.length):(l.set i x).getD i d=x:=by
 simp[qA,h]
def Mt{l:List α}{i:Nat}{x d:α}(h:i≠j):(l.set i x).getD j d=l.getD j d:=by
 simp[qA,List.getElem?_set_ne h]
def T.cell:T->Bool
 | .v x=>x.oneCell'
 | .sh _ _| .arr _ _| .box _| .ax _ _| .fn _ _=>true
 |_=>false
def Ow.yb{t:T}{x:Value}{fp:LN}(h:Ow w O t x fp)(hc:t.cell=true):x.oneCell'=true:=by
 cases h with
 |rd h=>cases h<;>first|rfl|exact hc|(simp[T.cell]at hc)
 |jn=>rfl
 |arr=>rfl
 |box=>rfl
 |agg=>simp[T.cell]at hc
 |aI=>simp[T.cell]at hc
def aE.with:aE->List T->List (Nat×Nat)->aE
 | .live (.arr s _) _,l,lk=>.live (.arr s l) lk
 | .live (.box _) _,l,lk=>.live (.box l) lk
 |r,_,_=>r
def aE.we{r:aE}{l:List T}{lk:List (Nat×Nat)}(h:r.cells=some (l,lk)):(∃s,r= .live (.arr s l) lk)∨r= .live (.box l) lk:=by
 cases r with
 |free=>simp[aE.cells]at h
 |dead=>simp[aE.cells]at h
 |live t k=>cases t<;>simp[aE.cells]at h<;>simp[h]
section
variable {P:Program} {X:NP} {w0:World} {O0:Fr} {n:Nat} {S:St} {a:Act} {w:World} {hs:NV} {fp:NL}
def Good.block(g:Good X w0 O0 n S a w hs fp){r:Nat}{l:List T}{lk:List (Nat×Nat)}(h:(S.roots r).cells=some (l,lk)){o:Nat}(ho:o<l.length):
  ∃(b:Nat) (x:Value) (cs:Array Value) (e:TypeId) (ar:LB),hs r=some x/\((∃m c,x= .slice (some ⟨b,0,none⟩) m c)∨x= .pointer (some ⟨b,0,none⟩))∧
   w.heap[b]? =some (.cells cs e (0,0))/\l.length<=cs.size/\ar.length=l.length/\(∀i (h:i<l.length),Ow w (Ob X fp) l[i] (cs.getD i undef) (ar.getD i []))/\fp r=b::ar.flatten∧
   (∀p∈lk,∃y,w.cell? ⟨b,p.1,none⟩=some y/\hs p.2=some y)∧
   ∀w' O' hs' (cs':Array Value) (l':List T) (fS:LB) gL,w'.heap[b]? =some (.cells cs' e (0,0))->cs'.size=cs.size->l'.length=l.length->fS.length=l.length→
    (∀i (h:i<l'.length),Ow w' O' l'[i] (cs'.getD i undef) (fS.getD i []))->(∀p∈gL,∃y,w'.cell? ⟨b,p.1,none⟩=some y/\hs' p.2=some y)→
    iG w' O' hs' ((S.roots r).with l' gL) (some x) (b::fS.flatten):=by
 rcases aE.we h with⟨s,hr⟩|hr
 ·rcases g.arr hr with⟨_,rfl,_⟩|⟨b,len,cap,cs,e,ar,hx,hb,hl,hc,hm,hsz,hf,hr',bw,hle,hlk⟩
  ·simp at ho
  ·refine⟨b,_,cs,e,ar,hx,.inl ⟨_,_,rfl⟩,hb,hle,hf,hr',bw,hlk,fun w' O' hs' cs' l' fS gL h1 h2 h3 h4 h5 h6=>?_⟩;rw[hr];exact⟨_,rfl,.arr s l' b len cap cs' e fS h1 om hc hm om om h5,fun p hp=>by obtain⟨y,hy,hd⟩:=h6 p hp;exact⟨y,by simpa[cellOf]using hy,hd⟩⟩
 ·obtain⟨b,cs,e,ar,hx,hb,hl,hf,hr',bw,hlk⟩:=g.box hr;refine⟨b,_,cs,e,ar,hx,.inr rfl,hb,om,hf,hr',bw,hlk,fun w' O' hs' cs' l' fS gL h1 h2 h3 h4 h5 h6=>?_⟩;rw[hr];exact⟨_,rfl,.box l' b cs' e fS h1 om om h5,fun p hp=>by obtain⟨y,hy,hd⟩:=h6 p hp;exact⟨y,by simpa[cellOf]using hy,hd⟩⟩
def Good.wg(g:Good X w0 O0 n S a w hs fp){r off b:Nat}{x v:Value}(hx:hs r=some x)(hb:(∃m c,x= .slice (some ⟨b,0,none⟩) m c)∨x= .pointer (some ⟨b,0,none⟩))(h:Is w (Ob X fp) hs (.ptr r off) v):v= .pointer (some ⟨b,off,none⟩):=by
 cases h with
 |lJ hr=>rw[hx]at hr;rcases hb with⟨m,c,rfl⟩|rfl<;>simp at hr;rw[hr.1]
 |kc hr=>rw[hx]at hr;rcases hb with⟨m,c,rfl⟩|rfl<;>simp at hr;rw[hr]
def Good.unfold(g:Good X w0 O0 n S a w hs fp){r o:Nat}{l:List T}{lk:List (Nat×Nat)}{c:T}(h:(S.roots r).cells=some (l,lk))(hc:l[o]? =some c)(hd:S.roots d= .free)(hdn:d<1000000000)(bv:c.b8=true):
  ∃hs' al v,Good X w0 O0 n {S with roots:=ak (ak S.roots r ((S.roots r).with (l.set o .any) ((o,d)::lk))) d (.live c [])} a w hs' al/\hs' d=some v/\(∀q x,hs q=some x->hs' q=some x)∧
   (∃x b,hs r=some x/\((∃m c,x= .slice (some ⟨b,0,none⟩) m c)∨x= .pointer (some ⟨b,0,none⟩))/\w.cell? ⟨b,o,none⟩=some v)/\(∀b,Ob X al b↔Ob X fp b):=by
 obtain⟨ho,rfl⟩:=qK.1 hc;obtain⟨b,x,cs,e,ar,hx,mA,hb,hle,hf,hr,bw,hlk,hmk⟩:=g.block h ho;have aV:d≠r:=by rintro rfl;rw[hd]at h;simp[aE.cells]at h
 have hd':=g.root d;rw[hd]at hd';have hcell:=pg hb (show o<cs.size by omega);have aK:ar.flatten.Nodup:=by have:=g.nodup r;rw[bw]at this;exact(qX.1 this).2
 have GJ:b∉ar.flatten:=by have:=g.nodup r;rw[bw]at this;exact(qX.1 this).1
 let al:=ak (ak fp r (b::(ar.set o []).flatten)) d (ar.getD o [])
 have e1:al d=ar.getD o []:=aT _ _ _;have e2:al r=b::(ar.set o []).flatten:=by show ak _ _ _ _=_;rw[aU _ _ _ _ (Ne.symm aV),aT]
 have e3:∀q,q≠d->q≠r->al q=fp q:=fun q h1 h2=>by show ak _ _ _ _=_;rw[aU _ _ _ _ h1,aU _ _ _ _ h2]
 have ja:fp d=[]:=hd'.2;have sub:∀q b',b'∈al q->(q=d/\b'∈ar.getD o []/\b'∈fp r)∨(q=r/\b'∈b::(ar.set o []).flatten/\b'∈fp r)∨(q≠d/\q≠r/\b'∈fp q):=by
  intro q b' hq;by_cases h1:q=d
  ·subst h1;rw[e1]at hq;exact .inl ⟨rfl,hq,by rw[bw];exact rH _ (jL hq)⟩
  ·by_cases h2:q=r
   ·subst h2;rw[e2]at hq;refine .inr (.inl ⟨rfl,hq,?_⟩);rw[bw];rcases qO.1 hq with rfl|hq
    ·simp
    ·exact rH _ ((C0 ar o).subset hq)
   ·rw[e3 q h1 h2]at hq;exact .inr (.inr ⟨h1,h2,hq⟩)
 have s7:∀b',Ob X al b'↔Ob X fp b':=by
  intro b';constructor
  ·rintro(h|⟨q,hq⟩)
   ·exact .inl h
   ·rcases sub q b' hq with⟨_,_,h⟩|⟨_,_,h⟩|⟨_,_,h⟩
    ·exact .inr ⟨r,h⟩
    ·exact .inr ⟨r,h⟩
    ·exact .inr ⟨q,h⟩
  ·rintro(h|⟨q,hq⟩)
   ·exact .inl h
   ·right;by_cases h2:q=r
    ·subst h2;rw[bw]at hq;rcases qO.1 hq with rfl|hq
     ·exact⟨q,by rw[e2];simp⟩
     ·obtain⟨f,VJ,gz⟩:=rY.1 hq;obtain⟨i,hi,rfl⟩:=rE.1 VJ;by_cases nk:i=o
      ·subst nk;exact⟨d,by rw[e1,qA,qB hi];exact gz⟩
      ·refine⟨q,?_⟩;rw[e2];refine rH _ (rY.2 ⟨ar[i],?_,gz⟩);have:(ar.set o [])[i]? =some ar[i]:=by rw[List.getElem?_set_ne (Ne.symm nk)];exact qB hi
       exact qE this
    ·by_cases h1:q=d
     ·subst h1;rw[ja]at hq;simp at hq
     ·exact⟨q,by rw[e3 q h1 h2];exact hq⟩
 have Mu:=funext fun b'=>propext (s7 b');have C3:∀q y,hs q=some y->ak hs d (some (cs.getD o undef)) q=some y:=by
  intro q y hq;by_cases h1:q=d
  ·subst h1;rw[hd'.1]at hq;cases hq
  ·rw[aU _ _ _ _ h1];exact hq
 refine⟨ak hs d (some (cs.getD o undef)),al,cs.getD o undef,⟨g.size,g.defers,fun i=>?_,fun q=>?_,?_,?_,?_,g.de,g.fA,?_,g.aZ,?_,?_,g.small,?_⟩,aT _ _ _,C3,⟨x,b,hx,mA,hcell⟩,s7⟩
 ·rw[Mu];exact(g.env i).mono (fun _ _ _ _ _ h=>h) (fun _ h _=>h) C3
 ·rw[Mu];by_cases h1:q=d
  ·subst h1;simp only[aT,e1];exact⟨_,rfl,hr o ho,fun p hp=>by simp at hp⟩
  ·by_cases h2:q=r
   ·subst h2;simp only[aU _ _ _ _ h1,aT,hx,e2];refine hmk w _ _ cs _ _ _ hb rfl sA (by simp[hf]) (fun i hi=>?_) ?_
    ·by_cases nk:o=i
     ·subst nk;rw[Ms om];simp only[List.getElem_set_self];exact .rd (.any _)
     ·rw[Mt nk];simp only[List.getElem_set_ne nk];exact hr i (sU hi)
    ·intro p hp;rcases qO.1 hp with rfl|hp
     ·exact⟨_,hcell,aT _ _ _⟩
     ·obtain⟨y,hy,wh⟩:=hlk p hp;exact⟨y,hy,C3 _ _ wh⟩
   ·simp only[aU _ _ _ _ h1,aU _ _ _ _ h2,e3 q h1 h2];have hq:=g.root q;revert hq;cases hS:S.roots q with
    |free=>exact fun h=>h
    |dead=>exact fun h=>h
    |live t k=>
     rintro⟨y,hy,ho',hk⟩;exact⟨y,hy,ho',fun p hp=>by obtain⟨z,hz,hzd⟩:=hk p hp;exact⟨z,hz,C3 _ _ hzd⟩⟩
 ·intro q q' b' hq s8;rcases sub q b' hq with⟨rfl,h1,cC⟩|⟨rfl,h1,cC⟩|⟨h1,cC,GK⟩<;>rcases sub q' b' s8 with⟨rfl,h2,bi⟩|⟨rfl,h2,bi⟩|⟨h2,bi,GL⟩
  ·rfl
  ·rcases qO.1 h2 with rfl|h2
   ·exact(GJ (jL h1)).elim
   ·exact(C1 aK h1 h2).elim
  ·exact(bi (g.cj _ _ _ GL cC)).elim
  ·rcases qO.1 h1 with rfl|h1
   ·exact(GJ (jL h2)).elim
   ·exact(C1 aK h2 h1).elim
  ·rfl
  ·exact(bi (g.cj _ _ _ GL cC)).elim
  ·exact(cC (g.cj _ _ _ GK bi)).elim
  ·exact(cC (g.cj _ _ _ GK bi)).elim
  ·exact g.cj _ _ _ GK GL
 ·intro q;by_cases h1:q=d
  ·subst h1;rw[e1];exact C2 aK
  ·by_cases h2:q=r
   ·subst h2;rw[e2];exact qX.2 ⟨fun hm=>GJ ((C0 ar o).subset hm),(C0 ar o).nodup aK⟩
   ·rw[e3 q h1 h2];exact g.nodup q
 ·intro q b' hq;rcases sub q b' hq with⟨_,_,h⟩|⟨_,_,h⟩|⟨_,_,h⟩
  ·exact g.cV _ _ h
  ·exact g.cV _ _ h
  ·exact g.cV _ _ h
 ·intro q b' hq;rcases sub q b' hq with⟨_,_,h⟩|⟨_,_,h⟩|⟨_,_,h⟩
  ·exact g.mine _ _ h
  ·exact g.mine _ _ h
  ·exact g.mine _ _ h
 ·intro q t gL hq;by_cases h1:q=d
  ·subst h1;simp only[aT,aE.live.injEq]at hq;rw[←hq.1];exact bv
  ·by_cases h2:q=r
   ·subst h2;simp only[aU _ _ _ _ h1,aT]at hq;rcases aE.we h with⟨s,hr⟩|hr<;>rw[hr]at hq<;>simp only[aE.with,aE.live.injEq]at hq<;>rw[←hq.1]<;>rfl
   ·simp only[aU _ _ _ _ h1,aU _ _ _ _ h2]at hq;exact g.b8 q t gL hq
 ·intro q y hq;by_cases h1:q=d
  ·subst h1;rw[aT,Option.some.injEq]at hq;rw[←hq];exact(hr o ho).yb (by revert bv;cases l[o]<;>simp[T.b8,T.cell])
  ·rw[aU _ _ _ _ h1]at hq;exact g.aV q y hq
 ·intro q y lL hq;by_cases h1:q=d
  ·omega
  ·rw[aU _ _ _ _ h1]at hq;exact g.ax q y lL hq
end
section
variable {P:Program} {n:Nat} {S:St} {K:St->Prop}
def jb(S:St)(r off d:Nat)(l:List T)(lk:List (Nat×Nat))(c:T)(K:St->Prop):Prop:=
 match c with
 | .arr s l'=>S.roots d= .free/\K {env:=ak S.env d (.own d),roots:=ak (ak S.roots r ((S.roots r).with (l.set off .any) ((off,d)::lk))) d (.live (.arr s l') [])}
 | .box l'=>S.roots d= .free/\K {env:=ak S.env d (.own d),roots:=ak (ak S.roots r ((S.roots r).with (l.set off .any) ((off,d)::lk))) d (.live (.box l') [])}
 |c=>c.flat=true/\K {S with env:=ak S.env d (.t c)}
def C4(P:Program)(t:TypeId)(x:A)(d:Nat)(S:St)(K:St->Prop):Prop:=
 match fB P t with
 |some false=>(match x with
  | .t (.ax l off)=>off<l.length/\∀c,l[off]? =some c->K {S with env:=ak S.env d (.t c)}
  | .ptr r off=>(match(S.roots r).cells with
    |some (l,lk)=>off<l.length/\(match lk.lookup off with
     |some q=>K {S with env:=ak S.env d (.own q)}
     |none=>∀c,l[off]? =some c->jb S r off d l lk c K)
    |none=>False)
  | .own r=>(match(S.roots r)with
    | .live (.box l) lk=>0<l.length/\(match lk.lookup 0 with
      |some q=>K {S with env:=ak S.env d (.own q)}
      |none=>∀c,l[0]? =some c->jb S r 0 d l lk c K)
    |_=>False)
  |_=>False)
 |some true=>(match dJ P t with
  |some z=>(match x with
   | .t (.ax l off)=>off+z<=l.length/\∀cs,(l.drop off).take z=cs->K {S with env:=ak S.env d (.t (.agg cs))}
   | .ptr r off=>(match(S.roots r).cells with
     |some (l,_)=>0<z/\off+z<=l.length/\∀cs,(l.drop off).take z=cs->cs.all T.flat=true/\K {S with env:=ak S.env d (.t (.agg cs))}
     |none=>False)
   | .own r=>(match(S.roots r)with
     | .live (.box l) _=>0<z/\z<=l.length/\∀cs,l.take z=cs->cs.all T.flat=true/\K {S with env:=ak S.env d (.t (.agg cs))}
     |_=>False)
   |_=>False)
  |none=>False)
 |none=>False
def C5{t:TypeId}{x:Operand}(ho:o.op= .load t x)(ht:fB P t=some false){b off:Nat}{v:Value}(hx:ρ x= .pointer (some ⟨b,off,none⟩))(hc:w.cell? ⟨b,off,none⟩=some v):(execOp ρ o).run P w= .ok (.value v) w:=by
 simp[execOp,ho,hx,Instr.loadAt,Instr.sureAddr,Mm ht hc]
def GM{t z:TypeId}{x:Operand}(ho:o.op= .load t x)(ht:fB P t=some true)(hz:dJ P t=some z){b off:Nat}{cs:Array Value}{e:TypeId}{fz:Nat×Nat}(hx:ρ x= .pointer (some ⟨b,off,none⟩))(hb:w.heap[b]? =some (.cells cs e fz))(hsz:off+z<=cs.size):
  (execOp ρ o).run P w= .ok (.value (.agg ((List.range z).map fun i=>cs.getD (off+i) undef).toArray)) w:=by
 have:=Mn ht hz hb hsz;simp only[execOp,ho,hx,Instr.loadAt,Instr.sureAddr,Sem.run_bind,Sem.run_pure,Result.andThen_ok,this]
def Mv{lk:List (Nat×Nat)}{k q:Nat}(h:lk.lookup k=some q):(k,q)∈lk:=by
 induction lk with
 |nil=>simp at h
 |cons p t ih=>
  obtain⟨a,b⟩:=p;rw[List.lookup_cons]at h;by_cases hk:k=a
  ·subst hk;simp at h;subst h;simp
  ·have:(k==a)=false:=sU hk;rw[this]at h;exact rH _ (ih h)
def Mw{t:TypeId}{x:Operand}(ho:o.op= .load t x)(aD:o.dst=some d)(hd:d<n)(ht:fB P t=some false){r off:Nat}{l:List T}{lk:List (Nat×Nat)}(hr:(S.roots r).cells=some (l,lk))(hx:∀X w0 O0 a w hs fp,Good X w0 O0 n S a w hs fp->Is w (Ob X fp) hs (.ptr r off) (a.eval x))(hlt:off<l.length)(k:match lk.lookup off with|some q=>K {S with env:=ak S.env d (.own q)}|none=>∀c,l[off]? =some c->jb S r off d l lk c K):aQ P n o S K:=by
 split at k
 ·rename_i q hq;refine aQ.val (x:=.own q) aD hd (fun X w0 O0 a w hs fp g=>?_) k;obtain⟨b,y,cs,e,ar,hy,fC,hb,hle,hf,hro,bw,hlk,_⟩:=g.block hr hlt;have hv:=g.wg hy fC (hx X w0 O0 a w hs fp g);obtain⟨z,hz,hzd⟩:=hlk _ (Mv hq);exact⟨z,C5 ho ht hv hz,.own hzd⟩
 ·have k':=k _ (qB hlt);have own:∀c,l[off]=c->c.b8=true->S.roots d= .free->K {env:=ak S.env d (.own d),roots:=ak (ak S.roots r ((S.roots r).with (l.set off .any) ((off,d)::lk))) d (.live c [])}->aQ P n o S K:=by
   intro c hc bv hfree hK X w0 O0 a w hs fp g Q;obtain⟨b,y,cs,e,ar,hy,fC,hb,hle,hf,hro,bw,hlk,_⟩:=g.block hr hlt;have hv:=g.wg hy fC (hx X w0 O0 a w hs fp g);obtain⟨hs',al,v,g',hd',hh,⟨y',b',hy',VK,eY⟩,hO⟩:=g.unfold (c:=c) (o:=off) hr (by rw[←hc];exact qB hlt) hfree (by have:=g.small;omega) bv;have ip:b'=b:=by
    rw[hy]at hy';cases hy';rcases fC with⟨m,c,rfl⟩|rfl<;>rcases VK with⟨m',c',h⟩|h<;>cases h<;>rfl
   subst ip;unfold Oper.wp;rw[C5 ho ht hv eY,Oper.upon_value,aD];exact⟨_,hs',al,g'.put hd (.own hd'),hK⟩
  have flat:∀c,l[off]=c->c.flat=true->K {S with env:=ak S.env d (.t c)}->aQ P n o S K:=by
   intro c hc hfl hK;refine aQ.val (x:=.t c) aD hd (fun X w0 O0 a w hs fp g=>?_) hK;obtain⟨b,y,cs,e,ar,hy,fC,hb,hle,hf,hro,bw,hlk,_⟩:=g.block hr hlt;have hv:=g.wg hy fC (hx X w0 O0 a w hs fp g);have hrd:=(hro off hlt).sZ (by rw[hc];exact hfl);rw[hc]at hrd;exact⟨_,C5 ho ht hv (pg hb om),.t hrd.1⟩
  generalize hc:l[off]=c at k';cases c with
  |arr s l'=>exact own _ hc rfl k'.1 k'.2
  |box l'=>exact own _ hc rfl k'.1 k'.2
  |any=>exact flat _ hc k'.1 k'.2
  |v x=>exact flat _ hc k'.1 k'.2
  |sh s l'=>exact flat _ hc k'.1 k'.2
  |ax l' o'=>exact flat _ hc k'.1 k'.2
  |fn f cp=>exact flat _ hc k'.1 k'.2
  |agg l'=>exact flat _ hc k'.1 k'.2
  |aI l'=>exact flat _ hc k'.1 k'.2
def GN{t:TypeId}{x:Operand}(ho:o.op= .load t x)(aD:o.dst=some d)(hd:d<n)(ht:fB P t=some true)(hz:dJ P t=some z){r off:Nat}{l:List T}{lk:List (Nat×Nat)}(hr:(S.roots r).cells=some (l,lk))(hx:∀X w0 O0 a w hs fp,Good X w0 O0 n S a w hs fp->Is w (Ob X fp) hs (.ptr r off) (a.eval x))(cJ:0<z)(hlt:off+z<=l.length)(k:((l.drop off).take z).all T.flat=true/\K {S with env:=ak S.env d (.t (.agg ((l.drop off).take z)))}):aQ P n o S K:=by
 obtain⟨hfl,hK⟩:=k
 ·refine aQ.val (x:=.t (.agg ((l.drop off).take z))) aD hd (fun X w0 O0 a w hs fp g=>?_) hK;obtain⟨b,y,cs,e,ar,hy,fC,hb,hle,hf,hro,bw,hlk,_⟩:=g.block hr (show off<l.length by omega);have hv:=g.wg hy fC (hx X w0 O0 a w hs fp g);refine⟨_,GM ho ht hz hv hb om,.t (.agg _ _ (by simp;omega) fun i hi=>?_)⟩;have hi':i<z:=by simp at hi;omega
  have e1:((l.drop off).take z)[i]=l[off+i]'om:=sA;have hmem:((l.drop off).take z)[i]∈(l.drop off).take z:=rJ _;have ur:=rO.1 hfl _ hmem;rw[e1]at ur;have:=(hro (off+i) om).sZ ur;rw[e1];simpa[qA,hi']using this.1
def Mx{t:TypeId}{x:Operand}(ho:o.op= .load t x)(aD:o.dst=some d)(hd:d<n)(k:C4 P t (S.ev x) d S K):aQ P n o S K:=by
 unfold C4 at k;split at k
 ·rename_i ht;split at k
  ·rename_i l off hx;obtain⟨hlt,k⟩:=k;refine aQ.val (x:=.t l[off]) aD hd (fun X w0 O0 a w hs fp g=>?_) (k _ (qB hlt));have h1:=g.ev x;rw[hx]at h1;generalize hv:a.eval x=v at h1;cases h1 with
   |t h1=>
    cases h1 with
    |ax _ _ b oo cs e fz hO hb hsz hr=>exact⟨_,C5 ho ht hv (pg hb om),.t (hr off hlt)⟩
  ·rename_i r off hx;split at k
   ·rename_i l lk hr;exact Mw ho aD hd ht hr (fun X w0 O0 a w hs fp g=>hx▸g.ev x) k.1 k.2
   ·exact k.elim
  ·rename_i r hx;split at k
   ·rename_i l lk hr;refine Mw (r:=r) (off:=0) (l:=l) (lk:=lk) ho aD hd ht (by rw[hr];rfl) (fun X w0 O0 a w hs fp g=>?_) k.1 k.2;have h1:=g.ev x;rw[hx]at h1;have h1:=h1.gK;obtain⟨b,cs,e,ar,hb,_⟩:=g.box hr;rw[hb,Option.some.injEq]at h1;rw[←h1];exact .kc hb
   ·exact k.elim
  ·exact k.elim
 ·rename_i ht;split at k
  ·rename_i z hz;split at k
   ·rename_i l off hx;obtain⟨hlt,k⟩:=k;refine aQ.val (x:=.t (.agg ((l.drop off).take z))) aD hd (fun X w0 O0 a w hs fp g=>?_) (k _ rfl);have h1:=g.ev x;rw[hx]at h1;generalize hv:a.eval x=v at h1;cases h1 with
    |t h1=>
     cases h1 with
     |ax _ _ b oo cs e fz hO hb hsz hr=>
      refine⟨_,GM ho ht hz hv hb om,.t (.agg _ _ (by simp;omega) fun i hi=>?_)⟩;have hi':i<z:=by simp at hi;omega
      have:=hr (off+i) om;simpa[qA,hi',Nat.add_assoc]using this
   ·rename_i r off hx;split at k
    ·rename_i l lk hr;exact GN ho aD hd ht hz hr (fun X w0 O0 a w hs fp g=>hx▸g.ev x) k.1 k.2.1 (k.2.2 _ rfl)
    ·exact k.elim
   ·rename_i r hx;split at k
    ·rename_i l lk hr;refine GN (r:=r) (off:=0) (l:=l) (lk:=lk) ho aD hd ht hz (by rw[hr];rfl) (fun X w0 O0 a w hs fp g=>?_) k.1 (sU k.2.1) (by simpa using k.2.2 _ rfl);have h1:=g.ev x;rw[hx]at h1;have h1:=h1.gK;obtain⟨b,cs,e,ar,hb,_⟩:=g.box hr;rw[hb,Option.some.injEq]at h1;rw[←h1];exact .kc hb
    ·exact k.elim
   ·exact k.elim
  ·exact k.elim
 ·exact k.elim
end
structure Inter(S:St)(fp:NL)(S':St)(al:NL):Prop where
 env:S'.env=S.env
 root:∀r,(S'.roots r=S.roots r/\al r=fp r)∨(S'.roots r= .dead/\al r=[]/\∃t lk,S.roots r= .live t lk)
def Inter.refl(S:St)(fp:NL):Inter S fp S fp:=⟨rfl,fun _=>.inl ⟨rfl,rfl⟩⟩
def rh(S:St)(a:A)(K:T->St->Prop):Prop:=
 match a with
 | .t c=>c.cell=true/\K c S
 | .own q=>(match S.roots q with| .live t []=>K t {S with roots:=ak S.roots q .dead}|_=>False)
 |_=>False
def kF(S:St):List A->(List T->St->Prop)->Prop
 |[],K=>K [] S
 |a::as,K=>rh S a fun t S1=>kF S1 as fun ts S2=>K (t::ts) S2
section
variable {P:Program} {X:NP} {w0:World} {O0:Fr} {n:Nat} {S:St} {a:Act} {w:World} {hs:NV} {fp:NL}
def C6(g:Good X w0 O0 n S a w hs fp):∀(as:List A) (vs:LV) (S1:St) (aO:NL) (K:List T->St->Prop),Inter S fp S1 aO->vs.length=as.length→
  (∀i (h:i<as.length),Is w (Ob X fp) hs as[i] (vs.getD i undef))->kF S1 as K→
  ∃(ts:List T) (S2:St) (bl:NL) (gs:LB),Inter S fp S2 bl/\K ts S2/\ts.length=as.length/\gs.length=as.length/\(∀i (h:i<ts.length),Ow w (Ob X fp) ts[i] (vs.getD i undef) (gs.getD i []))∧
   (∀t∈ts,t.cell=true)/\gs.flatten.Nodup/\(∀b∈gs.flatten,∃q,b∈aO q/\bl q=[])/\(∀r,aO r=[]->bl r=[])
 |[],vs,S1,aO,K,hI,hl,hi,hK=>⟨[],S1,aO,[],hI,hK,rfl,rfl,fun i h=>absurd h sA,sA,sA,sA,fun _ h=>h⟩
 |x::as,vs,S1,aO,K,hI,hl,hi,hK=>by
  match vs,hl with
  |v::vs,hl=>
  have hx:Is w (Ob X fp) hs x v:=hi 0 sA;have hi':∀i (h:i<as.length),Is w (Ob X fp) hs as[i] (vs.getD i undef):=fun i h=>by have:=hi (i+1) (sU h);simpa only[List.getElem_cons_succ,List.getD_cons_succ]using this
  have hl':vs.length=as.length:=sU hl;have head:∃(t:T) (S2:St) (bl:NL) (f:LN),Inter S fp S2 bl/\kF S2 as (fun ts S3=>K (t::ts) S3)/\Ow w (Ob X fp) t v f/\t.cell=true/\f.Nodup/\(∀b∈f,∃q,b∈aO q/\bl q=[])∧
    (∀r,bl r=aO r∨bl r=[]):=by
   simp only[kF,rh]at hK;split at hK
   ·rename_i c _;cases hx with
    |t h=>exact⟨c,S1,aO,[],hI,hK.2,.rd h,hK.1,sA,sA,fun _=>.inl rfl⟩
   ·rename_i q _;split at hK
    ·rename_i t hq;have hsame:S.roots q= .live t []/\aO q=fp q:=by
      rcases hI.root q with⟨h1,h2⟩|⟨h1,_⟩
      ·exact⟨by rw[←h1,hq],h2⟩
      ·rw[hq]at h1;cases h1
     have hr:=g.root q;rw[hsame.1]at hr;obtain⟨y,hy,ho,_⟩:=hr;have hv:y=v:=by have:=hx.gK;rw[hy]at this;exact Option.some.inj this
     subst hv;have bv:=g.b8 q t [] hsame.1;refine⟨t,{S1 with roots:=ak S1.roots q .dead},ak aO q [],fp q,⟨hI.env,fun r=>?_⟩,hK,ho,by cases t<;>simp[T.b8]at bv<;>rfl,g.nodup q,fun b hb=>⟨q,by rw[hsame.2];exact hb,aT _ _ _⟩,fun r=>?_⟩
     ·by_cases h:r=q
      ·subst h;exact .inr ⟨aT _ _ _,aT _ _ _,t,[],hsame.1⟩
      ·simp only[aU _ _ _ _ h];exact hI.root r
     ·by_cases h:r=q
      ·subst h;exact .inr (aT _ _ _)
      ·exact .inl (aU _ _ _ _ h)
    ·exact hK.elim
   ·exact hK.elim
  obtain⟨t,S2,bl,f,ri,pi,ho,hc,hfn,eK,hmono⟩:=head;obtain⟨ts,S3,iT,gs,GO,us,hlt,pj,hos,hcs,lM,eR,wi⟩:=C6 g as vs S2 bl _ ri hl' hi' pi;refine⟨t::ts,S3,iT,f::gs,GO,us,by simp[hlt],by simp[pj],fun i h=>?_,fun u hu=>?_,?_,fun b hb=>?_,fun r hr=>?_⟩
  ·cases i with
   |zero=>simpa using ho
   |succ i=>simpa using hos i (sU h)
  ·rcases qO.1 hu with rfl|hu
   ·exact hc
   ·exact hcs u hu
  ·rw[qZ,rC];refine⟨hfn,lM,fun b hb b' hb' e=>?_⟩;subst e;obtain⟨q,hq1,s9⟩:=eK b hb;obtain⟨q',s_,_⟩:=eR b hb';have h2:b∈aO q':=by
    rcases hmono q' with h|h<;>rw[h]at s_
    ·exact s_
    ·simp at s_
   have sub:∀r,b∈aO r->b∈fp r:=fun r hr=>by
    rcases hI.root r with⟨_,h⟩|⟨_,h,_⟩<;>rw[h]at hr
    ·exact hr
    ·simp at hr
   have:q=q':=g.cj q q' b (sub q hq1) (sub q' h2);subst this;rw[s9]at s_;simp at s_
  ·rw[qZ,qI]at hb;rcases hb with hb|hb
   ·obtain⟨q,h1,h2⟩:=eK b hb;exact⟨q,h1,wi q h2⟩
   ·obtain⟨q,h1,h2⟩:=eR b hb;refine⟨q,?_,h2⟩;rcases hmono q with h|h<;>rw[h]at h1
    ·exact h1
    ·simp at h1
  ·refine wi r ?_;rcases hmono r with h|h
   ·rw[h,hr]
   ·exact h
def Good.lay(g:Good X w0 O0 n S a w hs fp){S2:St}{bl:NL}(I:Inter S fp S2 bl)(d:Nat)(t:T)(lk:List (Nat×Nat))(x:Value)(f:LN)(w':World)(hx:(hs d=none/\d<1000000000)∨hs d=some x)(bv:t.b8=true)(hos:w'.os=w.os)(zY:w'.tape=w.tape)(hout:w'.output=w.output)(hsz:w.heap.size<=w'.heap.size)(hkeep:∀b,b<w.heap.size->(∀q,b∈fp q->q≠d/\bl q≠ [])->w'.heap[b]? =w.heap[b]?)(hf:f.Nodup)(eK:∀b∈f,(∃q,b∈fp q/\(q=d∨bl q=[]))∨w.heap.size<=b)(ho:∀O',(∀b,¬Ob X fp b->b<w.heap.size->¬O' b)->Ow w' O' t x f)(hlk:∀p∈lk,∃y,cellOf w' x p.1=some y/\hs p.2=some y):
  Good X w0 O0 n {env:=S2.env,roots:=ak S2.roots d (.live t lk)} a w' (ak hs d (some x)) (ak bl d f):=by
 have C7:∀r b,b∈bl r->b∈fp r/\bl r=fp r/\S2.roots r=S.roots r:=fun r b hr=>by
  rcases I.root r with⟨h1,h⟩|⟨_,h,_⟩
  ·exact⟨by rw[←h];exact hr,h,h1⟩
  ·rw[h]at hr;simp at hr
 have hh:∀r y,hs r=some y->ak hs d (some x) r=some y:=by
  intro r y hr;by_cases h:r=d
  ·subst h;rw[aT];rcases hx with⟨h,_⟩|h<;>rw[h]at hr
   ·cases hr
   ·exact hr
  ·rw[aU _ _ _ _ h];exact hr
 have sub:∀r b,b∈ak bl d f r->(∃q,b∈fp q)∨w.heap.size<=b:=by
  intro r b hb;by_cases h:r=d
  ·subst h;rw[aT]at hb;rcases eK b hb with⟨q,hq,_⟩|h
   ·exact .inl ⟨q,hq⟩
   ·exact .inr h
  ·rw[aU _ _ _ _ h]at hb;exact .inl ⟨r,(C7 r b hb).1⟩
 have hO:∀b,¬Ob X fp b->b<w.heap.size->¬Ob X (ak bl d f) b:=by
  rintro b hn hlt (h|⟨r,hr⟩)
  ·exact hn (.inl h)
  ·rcases sub r b hr with⟨q,hq⟩|h
   ·exact hn (.inr ⟨q,hq⟩)
   ·omega
 have hk:jK (fun b=>¬Ob X fp b) w w':=fun b cs e fz hn hb=>by
  rw[hkeep b (qF.1 hb).1 (fun q hq=>(hn (.inr ⟨q,hq⟩)).elim)];exact hb
 have My:∀r b,r≠d->b∈f->b∈bl r->False:=by
  intro r b hrd hb hr;obtain⟨h1,h2,_⟩:=C7 r b hr;rcases eK b hb with⟨q,hq,jo⟩|h
  ·have:=g.cj q r b hq h1;subst this;rcases jo with rfl|jo
   ·exact hrd rfl
   ·rw[jo]at hr;simp at hr
  ·have:=g.lt h1;omega
 refine⟨g.size,g.defers.keep fun D _ hD=>by rw[hkeep D (qF.1 hD).1 fun q hq=>(g.zT hD q hq).elim];exact hD,fun i=>?_,fun r=>?_,?_,fun r=>?_,fun r b hb=>?_,fun b hX=>Nat.lt_of_lt_of_le (g.de b hX) hsz,g.fA,fun r b hb=>?_,?_,fun r t' gL hr=>?_,fun r y hr=>?_,g.small,fun r y b9 hr=>?_⟩
 ·show Is _ _ _ (S2.env i) _;rw[I.env];exact(g.env i).mono hk hO hh
 ·by_cases h:r=d
  ·subst h;simp only[aT];exact⟨x,rfl,ho _ hO,fun p hp=>by obtain⟨y,hy,wh⟩:=hlk p hp;exact⟨y,hy,hh _ _ wh⟩⟩
  ·simp only[aU _ _ _ _ h];rcases I.root r with⟨h1,h2⟩|⟨h1,h2,_⟩
   ·rw[h1,h2];have hr:=g.root r;have kd:=g.b8 r;revert hr;cases hS:S.roots r with
    |free=>exact fun h=>h
    |dead=>exact fun h=>h
    |live t' gL=>
     rintro⟨y,hy,ho',GP⟩;have C8:∀b,b∈fp r->w'.heap[b]? =w.heap[b]? :=fun b hb=>hkeep b (g.lt hb) fun q hq=>by
      have:=g.cj q r b hq hb;subst this;exact⟨h,by rw[h2];exact List.ne_nil_of_mem hb⟩
     refine⟨y,hy,ho'.mono hk hO fun b cs e fz hb hc=>by rw[C8 b hb];exact hc,fun p hp=>?_⟩;obtain⟨z,hz,hzd⟩:=GP p hp;refine⟨z,?_,hh _ _ hzd⟩;have dj:=kd _ _ hS;generalize hfr:fp r=fr at ho' C8;cases ho' with
     |rd hh=>cases hh<;>simp[T.b8]at dj
     |jn=>simp[cellOf]at hz
     |arr _ _ b len cap cs e ar hb _ _ _ _ _ _=>
      simp only[cellOf,World.cell?]at hz ⊢;rw[C8 b sA];exact hz
     |box _ b cs e ar hb _ _ _=>
      simp only[cellOf,World.cell?]at hz ⊢;rw[C8 b sA];exact hz
     |agg=>simp[T.b8]at dj
     |aI=>simp[T.b8]at dj
   ·rw[h1,h2];rfl
 ·intro r r' b hr hr';by_cases h:r=d<;>by_cases h':r'=d
  ·rw[h,h']
  ·subst h;rw[aT]at hr;rw[aU _ _ _ _ h']at hr';exact(My r' b h' hr hr').elim
  ·subst h';rw[aT]at hr';rw[aU _ _ _ _ h]at hr;exact(My r b h hr' hr).elim
  ·rw[aU _ _ _ _ h]at hr;rw[aU _ _ _ _ h']at hr';exact g.cj r r' b (C7 r b hr).1 (C7 r' b hr').1
 ·by_cases h:r=d
  ·subst h;rw[aT];exact hf
  ·rw[aU _ _ _ _ h];rcases I.root r with⟨_,h2⟩|⟨_,h2,_⟩<;>rw[h2]
   ·exact g.nodup r
   ·simp
 ·rcases sub r b hb with⟨q,hq⟩|h
  ·exact g.cV q b hq
  ·intro hX;have:=g.de b hX;omega
 ·rcases sub r b hb with⟨q,hq⟩|h
  ·exact g.mine q b hq
  ·right;have:=g.aZ.size;omega
 ·refine⟨hos.trans g.aZ.os,zY.trans g.aZ.tape,hout.trans g.aZ.output,rA g.aZ.size hsz,fun b hb hn=>?_⟩;rw[hkeep b (Nat.lt_of_lt_of_le hb g.aZ.size) fun q hq=>?_]
  ·exact g.aZ.block b hb hn
  ·rcases g.mine q b hq with h|h
   ·exact(hn h).elim
   ·omega
 ·by_cases h:r=d
  ·subst h;simp only[aT,aE.live.injEq]at hr;rw[←hr.1];exact bv
  ·simp only[aU _ _ _ _ h]at hr;rcases I.root r with⟨h1,_⟩|⟨h1,_⟩<;>rw[h1]at hr
   ·exact g.b8 r t' gL hr
   ·cases hr
 ·by_cases h:r=d
  ·subst h;rw[aT,Option.some.injEq]at hr;rw[←hr];exact(ho _ hO).yb (by revert bv;cases t<;>simp[T.b8,T.cell])
  ·rw[aU _ _ _ _ h]at hr;exact g.aV r y hr
 ·by_cases h:r=d
  ·subst h;rw[aT]at hr;rcases hx with⟨_,h⟩|h
   ·omega
   ·exact g.ax r y b9 (h.trans hr)
  ·rw[aU _ _ _ _ h]at hr;exact g.ax r y b9 hr
end
def fD(l:List α)(off:Nat)(xs:List α):List α:=
 match xs with
 |[x]=>l.set off x
 |xs=>l.take off++xs++l.drop (off+xs.length)
def zZ{l:List α}{off:Nat}{xs:List α}(h:off+xs.length<=l.length):fD l off xs=l.take off++xs++l.drop (off+xs.length):=by
 unfold fD;split
 ·rename_i x;rw[List.set_eq_take_append_cons_drop,if_pos (by simp at h;omega)];simp
 ·rfl
def wj{l:List α}{off:Nat}{xs:List α}(h:off+xs.length<=l.length):(fD l off xs).length=l.length:=by
 rw[zZ h];simp;omega
def GQ{l:List α}{off:Nat}{xs:List α}(h:off+xs.length<=l.length)(i:Nat):
  (fD l off xs)[i]? =if off<=i/\i<off+xs.length then xs[i-off]? else l[i]? :=by
 rw[zZ h];by_cases h1:i<off
 ·rw[if_neg om,qW,rR (by simp;omega),List.getElem?_take_of_lt h1]
 ·by_cases h2:i<off+xs.length
  ·rw[if_pos om,qW,rD (by simp;omega),rR (by simp;omega)];congr 1;simp;omega
  ·rw[if_neg om,rD (by simp;omega),List.getElem?_drop];congr 1;simp;omega
def GR{l:List α}{off:Nat}{xs:List α}{d:α}(h:off+xs.length<=l.length)(i:Nat):
  (fD l off xs).getD i d=if off<=i/\i<off+xs.length then xs.getD (i-off) d else l.getD i d:=by
 simp only[qA,GQ h];split<;>rfl
def Mz(ar:LB)(k:Nat):(ar.take k).flatten.Sublist ar.flatten:=by
 have:=List.sublist_append_left (ar.take k).flatten (ar.drop k).flatten;rwa[←qY,List.take_append_drop]at this
def MA(ar:LB)(k:Nat):(ar.drop k).flatten.Sublist ar.flatten:=by
 have:=List.sublist_append_right (ar.take k).flatten (ar.drop k).flatten;rwa[←qY,List.take_append_drop]at this
def MB{off:Nat}(h:off+gs.length<=ar.length){b:Nat}(hb:b∈(fD ar off gs).flatten):b∈gs.flatten∨b∈ar.flatten:=by
 rw[zZ h,qY,qY,qI,qI]at hb;rcases hb with(hb|hb)|hb
 ·exact .inr ((Mz _ _).subset hb)
 ·exact .inl hb
 ·exact .inr ((MA _ _).subset hb)
def VL{off:Nat}(h:off+gs.length<=ar.length)(h1:ar.flatten.Nodup)(h2:gs.flatten.Nodup)(hd:∀b∈gs.flatten,b∉ar.flatten):
  (fD ar off gs).flatten.Nodup:=by
 have e:ar=ar.take off++((ar.drop off).take gs.length++ar.drop (off+gs.length)):=by
  rw[←List.drop_drop,List.take_append_drop,List.take_append_drop]
 have t1:(ar.take off).flatten.Sublist ar.flatten:=Mz _ _;have t2:(ar.drop (off+gs.length)).flatten.Sublist ar.flatten:=MA _ _;have VM:∀a∈(ar.take off).flatten,∀b∈(ar.drop (off+gs.length)).flatten,a≠b:=by
  rw[e,qY,rC]at h1;intro a ha b hb;exact h1.2.2 a ha b (by rw[qY,qI];exact .inr hb)
 rw[zZ h,qY,qY,rC,rC];refine⟨⟨t1.nodup h1,h2,fun a ha b hb e=>hd b hb (e▸t1.subset ha)⟩,t2.nodup h1,fun a ha b hb e=>?_⟩;rcases qI.1 ha with ha|ha
 ·exact VM a ha b hb e
 ·exact hd a ha (e▸t2.subset hb)
def mB(a:A):Option (List A):=
 match a with
 | .t (.agg cs)=>some (cs.map .t)
 | .agg as=>some as
 | .aI _=>none
 | .t c=>if c.cell then some [.t c]else none
 |a=>some [a]
def MC{v:Value}(h:v.oneCell'=true):v.cells=#[v]:=by cases v<;>first|rfl|(simp[Value.oneCell']at h)
def Is.one{hs:NV}{c:T}{v:Value}(h:Is w O hs (.t c) v)(hc:c.cell=true):v.oneCell'=true:=by
 cases h with|t h=>exact(Ow.rd h).yb hc
def C9{hs:NV}{a:A}{v:Value}{as:List A}(hh:∀r h,hs r=some h->h.oneCell'=true)(h:Is w O hs a v)(hc:mB a=some as):
  v.cells.size=as.length/\(∀i (hi:i<as.length),Is w O hs as[i] (v.cells.getD i undef)):=by
 have single:∀(b:A) (u:Value),Is w O hs b u->u.oneCell'=true->u.cells.size=[b].length/\∀i (hi:i< [b].length),Is w O hs [b][i] (u.cells.getD i undef):=by
  intro b u hb hu;rw[MC hu];refine⟨rfl,fun i hi=>?_⟩;have:i=0:=sU hi;subst this;exact hb
 unfold mB at hc;split at hc
 ·rename_i cs;cases hc;obtain⟨vs,rfl,hl,hr⟩:=h.GA;exact⟨by simp[Value.cells,hl],fun i hi=>by simpa[Value.cells,qC,qA]using hr i (sU hi)⟩
 ·rename_i l;cases hc;obtain⟨vs,rfl,hl,hr⟩:=h.CX;exact⟨by simp[Value.cells,hl],fun i hi=>by simpa[Value.cells,qC,qA]using hr i hi⟩
 ·cases hc
 ·rename_i c;split at hc
  ·rename_i gA;cases hc;exact single _ _ h (h.one gA)
  ·cases hc
 ·rename_i h1 h2 h3 h4;cases hc;refine single _ _ h ?_;cases h with
  |t h=>exact(h4 _ rfl).elim
  |own hr=>exact hh _ _ hr
  |sub _ _=>rfl
  |my _=>rfl
  |mz _=>rfl
  |lJ _=>rfl
  |kc _=>rfl
  |agg=>exact(h2 _ rfl).elim
  |aI=>exact(h3 _ rfl).elim
  |fn=>rfl
def pm(S:St)(x:A):Option (Nat×Nat):=
 match x with
 | .ptr r off=>some (r,off)
 | .own r=>(match S.roots r with| .live (.box _) _=>some (r,0)|_=>none)
 |_=>none
def pn(r off z:Nat)(K:St->Prop)(ts:List T)(S:St):Prop:=
 match(S.roots r).cells with
 |some (l,lk)=>0<z/\off+z<=l.length/\K {S with roots:=ak S.roots r ((S.roots r).with (fD l off ts) (lk.filter fun p=>p.1<off||off+z<=p.1))}
 |none=>False
def C_(P:Program)(t:TypeId)(x v:A)(S:St)(K:St->Prop):Prop:=
 match pm S x,dJ P t,mB v with
 |some (r,off),some z,some as=>as.length=z/\kF S as (pn r off z K)
 |_,_,_=>False
section
variable {P:Program} {n:Nat} {S:St} {K:St->Prop} {X:NP} {w0:World} {O0:Fr} {a:Act} {w:World} {hs:NV} {fp:NL}
def aE.VN{r:aE}{l l':List T}{lk gL:List (Nat×Nat)}(h:r.cells=some (l,lk)):∃t,r.with l' gL= .live t gL/\t.b8=true:=by
 rcases aE.we h with⟨s,rfl⟩|rfl
 ·exact⟨_,rfl,rfl⟩
 ·exact⟨_,rfl,rfl⟩
def VO{t z:TypeId}{x v:Operand}(ho:o.op= .store t x v)(hz:dJ P t=some z){as:List A}(hc:mB (S.ev v)=some as)(hl:as.length=z){r off:Nat}(hx:∀X w0 O0 a w hs fp,Good X w0 O0 n S a w hs fp->∀b x',hs r=some x'->((∃m c,x'= .slice (some ⟨b,0,none⟩) m c)∨x'= .pointer (some ⟨b,0,none⟩))->a.eval x= .pointer (some ⟨b,off,none⟩))(k:kF S as (pn r off z K))(aD:o.dst=none):aQ P n o S K:=by
 intro X w0 O0 a w hs fp g Q;obtain⟨hcs,eZ⟩:=C9 g.aV (g.ev v) hc;obtain⟨ts,S2,bl,gs,I,hK,hlt,pj,hos,hcell,lM,eR,_⟩:=C6 g as (a.eval v).cells.toList S fp _ (Inter.refl S fp) (sU hcs)
  (fun i h=>by simpa[qC,qA]using eZ i h) k
 unfold pn at hK;split at hK
 ·rename_i l lk cP;obtain⟨cJ,hlen,hK⟩:=hK;have hsame:S2.roots r=S.roots r/\bl r=fp r:=by
   rcases I.root r with h|⟨h,_⟩
   ·exact h
   ·rw[h]at cP;simp[aE.cells]at cP
  rw[hsame.1]at cP hK;obtain⟨b,y,cs,e,ar,hy,fC,hb,hle,hf,hr,bw,hlk,hmk⟩:=g.block cP (show off<l.length by omega);have hv:=hx X w0 O0 a w hs fp g b y hy fC;have db:(a.eval v).cells.toList.length=z:=by rw[Array.length_toList,hcs,hl]
  have hone:∀u∈(a.eval v).cells.toList,u.oneCell'=true:=by
   intro u hu;obtain⟨i,hi,rfl⟩:=rE.1 hu;have h1:=hos i om;have h2:=h1.yb (hcell _ (rJ _));rwa[qA,qB hi]at h2
  have hst:=run_storeCells_at P b off e (a.eval v).cells.toList 0 cs w hb om hone;have hsize:(a.eval v).cells.size=z:=by rw[hcs,hl]
  have hrun:(execOp a.eval o).run P w= .ok .skip (w.setRow b (cs.toList.take (off+0)++(a.eval v).cells.toList++cs.toList.drop (off+0+(a.eval v).cells.toList.length)).toArray):=by
   have wk:=uq hz w;simp only[execOp,ho,Instr.storeAt,hv,Instr.sureAddr,storeVar,Sem.run_bind,Sem.run_pure,Result.andThen_ok,wk,hsize,ne_eq,not_true_eq_false,if_false];rw[hst];rfl
  have GS:cs.toList.take (off+0)++(a.eval v).cells.toList++cs.toList.drop (off+0+(a.eval v).cells.toList.length)=fD cs.toList off (a.eval v).cells.toList:=by
   rw[zZ (by rw[db,Array.length_toList];omega)];rfl
  rw[GS]at hrun;have hw1:(w.setRow b (fD cs.toList off (a.eval v).cells.toList).toArray).heap[b]? =some (.cells (fD cs.toList off (a.eval v).cells.toList).toArray e (0,0)):=setRow_heap w b cs _ e _ hb;have dr:∀k,k≠b->(w.setRow b (fD cs.toList off (a.eval v).cells.toList).toArray).heap[k]? =w.heap[k]? :=fun k hk=>setRow_other w b k _ hk;have aK:(b::ar.flatten).Nodup:=by rw[←bw];exact g.nodup r
  have VP:ts.length=z:=om;have GU:off+ts.length<=l.length:=om;have wm:off+gs.length<=ar.length:=om;have GV:off+(a.eval v).cells.toList.length<=cs.toList.length:=by rw[db,Array.length_toList];omega
  have lO:∀b'∈gs.flatten,b'∉fp r:=by
   intro b' hb' hr';obtain⟨q,hq,lL⟩:=eR b' hb';have:=g.cj q r b' hq hr';subst this;rw[hsame.2,bw]at lL;cases lL
  obtain⟨t',ht',bv⟩:=aE.VN (l':=fD l off ts) (gL:=lk.filter fun p=>p.1<off||off+z<=p.1) cP;rw[ht']at hK;have MD:=fun O' (hO:∀b,¬Ob X fp b->b<w.heap.size->¬O' b)=>hmk (w.setRow b (fD cs.toList off (a.eval v).cells.toList).toArray) O' hs _ (fD l off ts) (fD ar off gs) (lk.filter fun p=>p.1<off||off+z<=p.1) hw1
   (by rw[List.size_toArray,wj GV,Array.length_toList]) (wj GU) (by rw[wj wm,hf]) (fun i hi=>by
    have hkeep:jK (fun b=>¬Ob X fp b) w (w.setRow b (fD cs.toList off (a.eval v).cells.toList).toArray):=fun b' cs' e' n9 hn hb'=>by
     rw[dr b' (fun h=>hn (.inr ⟨r,by rw[bw,h];simp⟩))];exact hb'
    have key:∀(t:T) (u:Value) (f:LN),Ow w (Ob X fp) t u f->b∉f->Ow (w.setRow b (fD cs.toList off (a.eval v).cells.toList).toArray) O' t u f:=fun t u f h gz=>
     h.mono hkeep hO fun b' cs' e' n9 hb' eY=>by rw[dr b' (fun h=>gz (h▸hb'))];exact eY
    have bq:i<l.length:=(by rwa[wj GU]at hi);have e1:(fD l off ts)[i]=if off<=i/\i<off+ts.length then ts.getD (i-off) .any else l.getD i .any:=by
     have:=GR (d:=T.any) GU i;rwa[qA,qB hi,Option.getD_some]at this
    have e2:(fD cs.toList off (a.eval v).cells.toList).toArray.getD i undef=if off<=i/\i<off+ts.length then(a.eval v).cells.toList.getD (i-off) undef else cs.getD i undef:=by
     have:=GR (d:=undef) GV i;rw[db,←VP]at this;simpa[qC,qA]using this
    have e3:(fD ar off gs).getD i []=if off<=i/\i<off+ts.length then gs.getD (i-off) []else ar.getD i []:=by
     have:=GR (d:=([]:LN)) wm i;rwa[show gs.length=ts.length by omega]at this
    rw[e1,e2,e3];by_cases hin:off<=i/\i<off+ts.length
    ·simp only[if_pos hin];have ME:i-off<ts.length:=om;rw[qA (l:=ts),qB ME,Option.getD_some];exact key _ _ _ (hos (i-off) ME) fun hm=>lO b (jL hm) (by rw[bw];simp)
    ·simp only[if_neg hin];rw[qA (l:=l),qB bq,Option.getD_some];exact key _ _ _ (hr i bq) fun hm=>(qX.1 aK).1 (jL hm)) (fun p hp=>by
    obtain⟨hp1,hp2⟩:=qV.1 hp;obtain⟨u,hu,VQ⟩:=hlk p hp1;refine⟨u,?_,VQ⟩;have bp1:p.1<off∨off+z<=p.1:=sU hp2;simp only[World.cell?,hw1,hb]at hu ⊢;have:=GQ GV p.1;rw[if_neg (by rw[db];omega)]at this;simpa[this]using hu)
  have g2:=g.lay I r t' (lk.filter fun p=>p.1<off||off+z<=p.1) y (b::(fD ar off gs).flatten) (w.setRow b (fD cs.toList off (a.eval v).cells.toList).toArray) (.inr hy) bv rfl rfl rfl sA
   (fun b' hb' hq=>dr b' fun h=>(hq r (by rw[bw,h];simp)).1 rfl)
   (qX.2 ⟨fun hm=>by
    rcases MB wm hm with h|h
    ·exact lO b h (by rw[bw];simp)
    ·exact(qX.1 aK).1 h,VL wm (qX.1 aK).2 lM fun b' h1 h2=>lO b' h1 (by rw[bw];exact rH _ h2)⟩)
   (fun b' hb'=>by
    left;rcases qO.1 hb' with rfl|hb'
    ·exact⟨r,by rw[bw];simp,.inl rfl⟩
    ·rcases MB wm hb' with h|h
     ·obtain⟨q,h1,h2⟩:=eR b' h;exact⟨q,h1,.inr h2⟩
     ·exact⟨r,by rw[bw];exact rH _ h,.inl rfl⟩)
   (fun O' hO=>by
    have:=MD O' hO;rw[ht']at this;obtain⟨y',hy',ho',_⟩:=this;cases hy';exact ho')
   (fun p hp=>by
    have:=MD (fun b=>Ob X fp b∨w.heap.size<=b) (fun b' h1 h2 h3=>h3.elim h1 (fun h3=>om));rw[ht']at this;obtain⟨y',hy',_,hl'⟩:=this;cases hy';exact hl' p hp)
  unfold Oper.wp;rw[hrun,Oper.upon_skip,aD];exact⟨_,_,_,g2,hK⟩
 ·exact hK.elim
def Good.addr(g:Good X w0 O0 n S a w hs fp){x:A}{v:Value}{r off:Nat}(hx:pm S x=some (r,off))(h:Is w (Ob X fp) hs x v)(b:Nat)(y:Value)(hy:hs r=some y)(fC:(∃m c,y= .slice (some ⟨b,0,none⟩) m c)∨y= .pointer (some ⟨b,0,none⟩)):v= .pointer (some ⟨b,off,none⟩):=by
 unfold pm at hx;split at hx
 ·cases hx;exact g.wg hy fC h
 ·rename_i q;split at hx
  ·rename_i l lk hq;cases hx;obtain⟨b',cs,e,ar,hb',_⟩:=g.box hq;have h1:=h.gK;rw[hy]at h1 hb';cases h1;cases hb';rcases fC with⟨m,c,h⟩|h<;>cases h;rfl
  ·cases hx
 ·cases hx
def MF{t:TypeId}{x v:Operand}(ho:o.op= .store t x v)(aD:o.dst=none)(k:C_ P t (S.ev x) (S.ev v) S K):aQ P n o S K:=by
 unfold C_ at k;split at k
 ·rename_i r off z as hx hz hc;exact VO ho hz hc k.1 (fun X w0 O0 a w hs fp g b y hy fC=>g.addr hx (g.ev x) b y hy fC) k.2 aD
 ·exact k.elim
end
def mC(P:Program)(t:TypeId):Option (List T):=((P.info? t).bind (·.zero)).map fun z=>z.cells.toList.map T.v
def yc{t:TypeId}{zs:List T}(h:mC P t=some zs):∃i z,P.info? t=some i/\i.zero=some z/\zs=z.cells.toList.map T.v:=by
 unfold mC at h;cases hi:P.info? t with
 |none=>simp[hi]at h
 |some i=>
  cases hz:i.zero with
  |none=>simp[hi,hz]at h
  |some z=>simp[hi,hz]at h;exact⟨i,z,rfl,hz,h.symm⟩
def jc(d:Nat)(mk:List T->T)(K:St->Prop)(ts:List T)(S:St):Prop:=
 S.roots d= .free/\K {env:=ak S.env d (.own d),roots:=ak S.roots d (.live (mk ts) [])}
def VR(d:Nat)(mk:List T->T)(K:St->Prop)(ts:List T)(S:St):
  jc d mk K ts S=(S.roots d= .free/\K {env:=ak S.env d (.own d),roots:=ak S.roots d (.live (mk ts) [])}):=rfl
def GW(P:Program)(t:TypeId)(d:Nat)(S:St)(K:St->Prop):Prop:=
 match mC P t with
 |some zs=>jc d .box K zs S
 |none=>False
def po(x:A)(d:Nat)(S:St)(K:St->Prop):Prop:=
 match mB x with
 |some as=>kF S as (jc d .box K)
 |none=>False
section
variable {P:Program} {n:Nat} {S:St} {K:St->Prop} {X:NP} {w0:World} {O0:Fr} {a:Act} {w:World} {hs:NV} {fp:NL}
def Good.newRow(g:Good X w0 O0 n S a w hs fp){S2:St}{bl:NL}{ts:List T}{vs:LV}(I:Inter S fp S2 bl)(hlt:gs.length=ts.length)(hos:∀i (h:i<ts.length),Ow w (Ob X fp) ts[i] (vs.getD i undef) (gs.getD i []))(lM:gs.flatten.Nodup)(eR:∀b∈gs.flatten,∃q,b∈fp q/\bl q=[])(hd:S2.roots d= .free)(hdn:d<n)(cs:Array Value)(e:TypeId)(hcs:∀i,i<ts.length->cs.getD i undef=vs.getD i undef)(t:T)(x:Value)(bv:t.b8=true)(w':World)(hw:w'.heap=w.heap.push (.cells cs e))(wn:w'.os=w.os)(mD:w'.tape=w.tape)(hwp:w'.output=w.output)(hmk:∀(w':World) (O':NP),w'.heap[w.heap.size]? =some (.cells cs e (0,0))->(∀i (h:i<ts.length),Ow w' O' ts[i] (cs.getD i undef) (gs.getD i []))->Ow w' O' t x (w.heap.size::gs.flatten)):
  Good X w0 O0 n {env:=ak S2.env d (.own d),roots:=ak S2.roots d (.live t [])} (a.put (some d) x) w' (ak hs d (some x)) (ak bl d (w.heap.size::gs.flatten)):=by
 have hnone:hs d=none:=by
  have:=g.root d;rcases I.root d with⟨h1,_⟩|⟨h1,_⟩<;>rw[h1]at hd
  ·rw[hd]at this;exact this.1
  ·cases hd
 have hold:∀b,b<w.heap.size->w'.heap[b]? =w.heap[b]? :=fun b hb=>by rw[hw,Array.getElem?_push,if_neg om]
 have hnew:w'.heap[w.heap.size]? =some (.cells cs e (0,0)):=by rw[hw];simp
 have hlt':∀b∈gs.flatten,b<w.heap.size:=fun b hb=>by obtain⟨q,hq,_⟩:=eR b hb;exact g.lt hq
 have g2:=g.lay I d t [] x (w.heap.size::gs.flatten) w' (.inl ⟨hnone,by have:=g.small;omega⟩) bv wn mD hwp (by rw[hw];simp) (fun b hb _=>hold b hb)
  (qX.2 ⟨fun h=>by have:=hlt' _ h;omega,lM⟩)
  (fun b hb=>by
   rcases qO.1 hb with rfl|hb
   ·exact .inr (qR _)
   ·obtain⟨q,h1,h2⟩:=eR b hb;exact .inl ⟨q,h1,.inr h2⟩)
  (fun O' hO=>hmk w' O' hnew fun i hi=>by
   rw[hcs i hi];exact(hos i hi).mono (fun b cs' e' n9 _ hb=>by rw[hold b (qF.1 hb).1];exact hb) hO
    (fun b cs' e' n9 _ hb=>by rw[hold b (qF.1 hb).1];exact hb))
  (fun p hp=>by simp at hp)
 exact g2.put hdn (.own (aT _ _ _))
def VS{t:TypeId}(ho:o.op= .alloc t)(aD:o.dst=some d)(hd:d<n)(k:GW P t d S K):aQ P n o S K:=by
 unfold GW at k;split at k
 ·rename_i zs hz;obtain⟨hfree,hK⟩:=k;intro X w0 O0 a w hs fp g Q;obtain⟨i,z,hi,ke,rfl⟩:=yc hz;have hrun:(execOp a.eval o).run P w= .ok (.value (.pointer (some ⟨w.heap.size,0,none⟩))) (w.alloc (.cells z.cells t)):=by
   simp[execOp,ho,Instr.alloc,zeroValue,typeInfo,hi,ke,newVar,newRow]
  have g2:=g.newRow (Inter.refl S fp) (ts:=z.cells.toList.map T.v) (vs:=z.cells.toList) (gs:=List.replicate z.cells.size []) sA (fun i h=>by
    simp only[rQ];have h':i<z.cells.toList.length:=sU h;rw[qA,qB h',Option.getD_some,qA,rM,if_pos (sU h')];exact .rd (.v _)) sA sA hfree hd z.cells t (fun i h=>by simp[qC,qA]) (.box (z.cells.toList.map T.v)) (.pointer (some ⟨w.heap.size,0,none⟩)) rfl
   (w.alloc (.cells z.cells t)) rfl rfl rfl rfl
   (fun w' O' hb hr=>.box _ _ _ _ _ hb sA sA hr)
  unfold Oper.wp;rw[hrun,Oper.upon_value,aD];exact⟨_,_,_,g2,hK⟩
 ·exact k.elim
def VT{t:TypeId}{x:Operand}(ho:o.op= .box t x)(aD:o.dst=some d)(hd:d<n)(k:po (S.ev x) d S K):aQ P n o S K:=by
 unfold po at k;split at k
 ·rename_i as hc;intro X w0 O0 a w hs fp g Q;obtain⟨hcs,eZ⟩:=C9 g.aV (g.ev x) hc;obtain⟨ts,S2,bl,gs,I,hK,hlt,pj,hos,hcell,lM,eR,_⟩:=C6 g as (a.eval x).cells.toList S fp _ (Inter.refl S fp) (sU hcs)
   (fun i h=>by simpa[qC,qA]using eZ i h) k
  obtain⟨hfree,hK⟩:=hK;have hrun:(execOp a.eval o).run P w= .ok (.value (.pointer (some ⟨w.heap.size,0,none⟩))) (w.alloc (.cells (a.eval x).cells t)):=by
   simp[execOp,ho,Instr.box,newVar,newRow]
  have g2:=g.newRow I om hos lM eR hfree hd (a.eval x).cells t (fun i h=>by simp[qC,qA]) (.box ts) (.pointer (some ⟨w.heap.size,0,none⟩)) rfl
   (w.alloc (.cells (a.eval x).cells t)) rfl rfl rfl rfl
   (fun w' O' hb hr=>.box _ _ _ _ _ hb om om hr)
  unfold Oper.wp;rw[hrun,Oper.upon_value,aD];exact⟨_,_,_,g2,hK⟩
 ·exact k.elim
end
def MG:∀(vs:LV) (k off:Nat) (cs:Array Value) (i:Nat),
  ((vs.zipIdx k).foldl (fun cs (p:Value×Nat)=>cs.setIfInBounds (off+p.2) p.1) cs)[i]? =if off+k<=i/\i<off+k+vs.length/\i<cs.size then vs[i-(off+k)]? else cs[i]?
 |[],k,off,cs,i=>by simp;omega
 |v::vs,k,off,cs,i=>by
  simp only[List.zipIdx_cons,List.foldl_cons];rw[MG vs (k+1) off _ i];simp only[Array.size_setIfInBounds,List.length_cons];by_cases h1:off+(k+1)<=i/\i<off+(k+1)+vs.length/\i<cs.size
  ·rw[if_pos h1,if_pos om,show i-(off+k)=(i-(off+(k+1)))+1 by omega,List.getElem?_cons_succ]
  ·rw[if_neg h1,Array.getElem?_setIfInBounds];by_cases h2:off+k=i
   ·subst h2;by_cases h3:off+k<cs.size
    ·rw[if_pos rfl,if_pos h3,if_pos om];simp
    ·rw[if_pos rfl,if_neg h3,if_neg om];simp;omega
   ·rw[if_neg h2,if_neg om]
def GX:∀(vs:LV) (k off:Nat) (cs:Array Value),((vs.zipIdx k).foldl (fun cs (p:Value×Nat)=>cs.setIfInBounds (off+p.2) p.1) cs).size=cs.size
 |[],k,off,cs=>rfl
 |v::vs,k,off,cs=>by simp only[List.zipIdx_cons,List.foldl_cons];rw[GX vs (k+1)];simp
def mE(place:Nat->Option (Nat×Nat)):List A->List (Nat×A)->Option (List A)
 |cells,[]=>some cells
 |cells,(i,x)::rest=>
  match place i,mB x with
  |some (off,z),some cs=>if cs.length=z/\off+z<=cells.length then mE place (fD cells off cs) rest else none
  |_,_=>none
def MH{p q:Nat->Option (Nat×Nat)}(h:∀i x,p i=some x->q i=some x):∀(ps:List (Nat×A)) (cells r:List A),mE p cells ps=some r->mE q cells ps=some r
 |[],cells,r,hr=>hr
 |(i,x)::rest,cells,r,hr=>by
  rw[mE]at hr ⊢;split at hr
  ·rename_i off z cs h1 h2;rw[h i _ h1,h2];simp only[];split at hr
   ·rename_i h3;rw[if_pos h3];exact MH h rest _ r hr
   ·cases hr
  ·cases hr
def GY{w:World}{O:NP}{hs:NV}(hh:∀r h,hs r=some h->h.oneCell'=true){place:Nat->Option (Nat×Nat)}:
  ∀(ps:List (Nat×A)) (vals:List (Nat×Value)) (as as':List A) (cells:Array Value),ps.map (·.1)=vals.map (·.1)->(∀i (h:i<ps.length),Is w O hs ps[i].2 ((vals[i]?.map (·.2)).getD undef))→
  cells.size=as.length->(∀i (h:i<as.length),Is w O hs as[i] (cells.getD i undef))->mE place as ps=some as'→
  ∃cells',Instr.fill place cells vals=some cells'/\cells'.size=as'.length/\∀i (h:i<as'.length),Is w O hs as'[i] (cells'.getD i undef)
 |[],[],as,as',cells,_,_,hs1,hi1,hf=>by simp[mE]at hf;subst hf;exact⟨cells,rfl,hs1,hi1⟩
 |[],v::vs,as,as',cells,hk,_,_,_,_=>by simp at hk
 |p::ps,[],as,as',cells,hk,_,_,_,_=>by simp at hk
 |(k,x)::ps,(k',v)::vs,as,as',cells,hk,hp,hs1,hi1,hf=>by
  simp only[List.map_cons,List.cons.injEq]at hk;obtain⟨rfl,hk⟩:=hk;have hx:Is w O hs x v:=by have:=hp 0 sA;simpa only[List.getElem_cons_zero,List.getElem?_cons_zero,Option.map_some,Option.getD_some]using this
  simp only[mE]at hf;split at hf
  ·rename_i off z cs aM hc;split at hf
   ·rename_i rj;obtain⟨hcz,hle⟩:=rj;obtain⟨hvs,VU⟩:=C9 hh hx hc;have hlen:off+cs.length<=as.length:=om;have hstep:∀i (h:i<(fD as off cs).length),Is w O hs (fD as off cs)[i] ((v.cells.zipIdx.foldl (fun cs (c,j)=>cs.setIfInBounds (off+j) c) cells).getD i undef):=by
     intro i hi;rw[wj hlen]at hi;have e1:=GQ hlen i;rw[qB (by rw[wj hlen];exact hi)]at e1;have e2:(v.cells.zipIdx.foldl (fun cs (c,j)=>cs.setIfInBounds (off+j) c) cells)[i]? =if off<=i/\i<off+cs.length then v.cells.toList[i-off]? else cells[i]? :=by
      have:=MG v.cells.toList 0 off cells i;rw[←Array.foldl_toList,Array.toList_zipIdx];refine Eq.trans this ?_;have:v.cells.toList.length=cs.length:=sU hvs;rw[this];by_cases h:off<=i/\i<off+cs.length
      ·rw[if_pos om,if_pos h];rfl
      ·rw[if_neg om,if_neg h]
     rw[qC,e2];by_cases h:off<=i/\i<off+cs.length
     ·rw[if_pos h]at e1 ⊢;have hj:i-off<cs.length:=om;rw[qB hj,Option.some.injEq]at e1;rw[e1];simpa[qC]using VU (i-off) hj
     ·rw[if_neg h]at e1 ⊢;rw[qB hi,Option.some.injEq]at e1;rw[e1];simpa[qC]using hi1 i hi
    obtain⟨cells',hc1,hc2,z6⟩:=GY hh ps vs (fD as off cs) as' (v.cells.zipIdx.foldl (fun cs (c,j)=>cs.setIfInBounds (off+j) c) cells) hk
     (fun i h=>by have:=hp (i+1) (sU h);simpa only[List.getElem_cons_succ,List.getElem?_cons_succ]using this)
     (by rw[wj hlen,←Array.foldl_toList,Array.toList_zipIdx];exact(GX v.cells.toList 0 off cells).trans hs1) hstep hf
    refine⟨cells',?_,hc2,z6⟩;rw[Instr.fill,aM];simp only;rw[if_neg (by simp;omega)];exact hc1
   ·cases hf
  ·cases hf
def wo(P:Program)(t:TypeId):Option (List (Nat×Nat)):=
 match P.underlying t with
 |some (.struct fs)=>fs.toList.mapM fun f=>(P.info? f.type).map fun i=>(f.offset,i.size)
 |_=>none
def z7(P:Program)(t:TypeId):Option Nat:=
 match P.underlying t with
 |some (.array _ e)=>(P.info? e).map (·.size)
 |_=>none
def wq(P:Program)(t:TypeId)(i:Nat):Option (Nat×Nat):=
 match wo P t with
 |some ps=>ps[i]?
 |none=>(z7 P t).map fun z=>(i*z,z)
def Da(P:Program)(t:TypeId)(parts:List (Nat×A))(K:A->Prop):Prop:=
 match mC P t with
 |some zs=>((wo P t).isSome=true∨(z7 P t).isSome=true)/\(match mE (wq P t) (zs.map .t) parts with
  |some as=>K (.agg as)
  |none=>False)
 |none=>False
section
variable {P:Program} {n:Nat} {S:St} {K:St->Prop} {X:NP} {w0:World} {O0:Fr} {a:Act} {w:World} {hs:NV} {fp:NL}
def MI{place:Nat->Option (Nat×Nat)}:∀{vals:List (Nat×Value)} {cells cells':Array Value},Instr.fill place cells vals=some cells'->cells'.size=cells.size
 |[],cells,cells',h=>by simp[Instr.fill]at h;rw[h]
 |(i,v)::rest,cells,cells',h=>by
  rw[Instr.fill]at h;split at h
  ·cases h
  ·split at h
   ·cases h
   ·have:=MI h;rw[this,←Array.foldl_toList,Array.toList_zipIdx];exact GX v.cells.toList 0 _ cells
def MJ{t:TypeId}{parts:Array (Nat×Operand)}(ho:o.op= .build t parts)(aD:o.dst=some d)(hd:d<n)(k:Da P t (parts.toList.map fun p=>(p.1,S.ev p.2)) (dI S d K)):aQ P n o S K:=by
 unfold Da at k;split at k
 ·rename_i zs hz;obtain⟨ut,k⟩:=k;split at k
  ·rename_i as hf;obtain⟨i0,z,kf,ke,rfl⟩:=yc hz;refine aQ.val (x:=.agg as) aD hd (fun X w0 O0 a w hs fp g=>?_) k;have hval:parts.toList.map (fun p=>(p.1,a.eval p.2))=(parts.map fun(i,x)=>(i,a.eval x)).toList:=sA;obtain⟨cells',hc1,hc2,z6⟩:=GY g.aV (place:=wq P t) (parts.toList.map fun p=>(p.1,S.ev p.2)) (parts.toList.map fun p=>(p.1,a.eval p.2)) _ as z.cells sA
    (fun i hi=>by
     have hi':i<parts.toList.length:=sU hi;simp only[rQ,qU,qB hi',Option.map_some,Option.getD_some];exact g.ev _) sA (fun i hi=>by
     have hi':i<z.cells.size:=sU hi;simp only[rQ];have:z.cells.getD i undef=z.cells.toList[i]'(sU hi'):=(by simp[qC,hi']);rw[this];exact .t (.v _)) hf
   have VV:Is w (Ob X fp) hs (.agg as) (.agg cells'):=by
    have:=Is.agg (w:=w) (O:=Ob X fp) (hs:=hs) (l:=as) (vs:=cells'.toList) (by simp[hc2]) (fun i hi=>by simpa[qC,qA]using z6 i hi);simpa using this
   refine⟨.agg cells',?_,VV⟩;have VW:P.built t (parts.map fun(i,x)=>(i,a.eval x)).toList=some cells':=by
    rw[←hval,←hc1];unfold Program.built;unfold wo z7 at ut;cases hu:P.underlying t with
    |none=>simp[hu]at ut
    |some dd=>
     cases dd with
     |array m e=>
      simp only[hu,Option.isSome_none,Bool.false_eq_true,false_or]at ut;cases uu:P.info? e with
      |none=>simp[uu]at ut
      |some ie=>
       simp only[kf,ke,uu];congr 1;funext i;simp[wq,wo,z7,hu,uu]
     |struct fs=>
      simp only[hu,Option.isSome_none,Bool.false_eq_true,or_false]at ut;cases hp:fs.toList.mapM (fun f=>(P.info? f.type).map fun i=>(f.offset,i.size))with
      |none=>rw[hp]at ut;simp at ut
      |some places=>
       simp only[kf,ke,hp];congr 1;funext i;simp only[wq,wo,hu,hp];simp
     |_=>simp[hu]at ut
   simp[execOp,ho,run_build w t _ cells' VW]
  ·exact k.elim
 ·exact k.elim
def GZ(P:Program)(t:TypeId)(len d:Nat)(parts:List (Nat×A))(S:St)(K:St->Prop):Prop:=
 match n_ P t with
 |some z=>len*z<=16777216/\0<z/\(match mE (fun i=>some (i*z,z)) (List.replicate (len*z) (.t .any)) parts with
  |some as=>kF S as (jc d (.arr z) K)
  |none=>False)
 |none=>False
def VX{t:TypeId}{len:Nat}{parts:Array (Nat×Operand)}(ho:o.op= .buildSlice t len parts)(aD:o.dst=some d)(hd:d<n){e:TypeId}(he:io P t=some e)(z8:(mC P e).isSome=true)(k:GZ P t len d (parts.toList.map fun p=>(p.1,S.ev p.2)) S K):aQ P n o S K:=by
 unfold GZ at k;split at k
 ·rename_i z hz;obtain⟨hsmall,cJ,k⟩:=k;split at k
  ·rename_i as hf;obtain⟨e',ie,hu,hi,ke⟩:=GD hz;have hee:e'=e:=by have:=uo he;rw[hu]at this;cases this;rfl
   subst hee;intro X w0 O0 a w hs fp g Q;obtain⟨zs,hzs⟩:=Option.isSome_iff_exists.1 z8;obtain⟨i1,zv,hi1,G0,_⟩:=yc hzs;have:ie=i1:=by rw[hi]at hi1;cases hi1;rfl
   subst this;let zero:Array Value:=if len*z=0 then #[]else zv.cells
   have hval:parts.toList.map (fun p=>(p.1,a.eval p.2))=(parts.map fun(i,x)=>(i,a.eval x)).toList:=sA;obtain⟨cells',hc1,hc2,z6⟩:=GY g.aV (place:=fun i=>some (i*z,z)) (parts.toList.map fun p=>(p.1,S.ev p.2)) (parts.toList.map fun p=>(p.1,a.eval p.2)) _ as ((Array.range (len*z)).map (zero[· %zero.size]!)) sA
    (fun i hi=>by
     have hi':i<parts.toList.length:=sU hi;simp only[rQ,qU,qB hi',Option.map_some,Option.getD_some];exact g.ev _) sA (fun i hi=>by simp only[List.getElem_replicate];exact .t (.any _)) hf
   rw[hval]at hc1;have hrun:(execOp a.eval o).run P w= .ok (.value (.slice (some ⟨w.heap.size,0,none⟩) len len)) (w.alloc (.cells cells' e')):=by
    have hn:¬(len*z>2^24):=om;have VY:(Go.sizeOf e').run P w= .ok z w:=uq (by unfold dJ;rw[hi];simp[ke]) w;have wk:(zeroValue e').run P w= .ok zv w:=(by simp[zeroValue,typeInfo,hi,G0]);simp only[execOp,ho,Instr.buildSlice,Sem.run_bind,run_underlying hu,Result.andThen_ok,VY];rw[if_neg hn];by_cases h0:len*z=0
    ·have G1:zero=#[]:=(by simp[zero,h0]);rw[G1]at hc1;simp only[h0,if_true,Sem.run_pure,Result.andThen_ok,Sem.run_bind];rw[h0]at hc1;rw[hc1];simp[newRow]
    ·have G1:zero=zv.cells:=(by simp[zero,h0]);rw[G1]at hc1;simp only[h0,if_false,Sem.run_bind,wk,Result.andThen_ok,Sem.run_pure];rw[hc1];simp[newRow]
   obtain⟨ts,S2,bl,gs,I,hK,hlt,pj,hos,hcell,lM,eR,_⟩:=C6 g as cells'.toList S fp _ (Inter.refl S fp) (sU hc2)
    (fun i h=>by simpa[qC,qA]using z6 i h) k
   obtain⟨hfree,hK⟩:=hK;have hlen:as.length=len*z:=by
    have:cells'.size=len*z:=by
     have hsz:=MI hc1;simpa using hsz
    omega
   have g2:=g.newRow I om hos lM eR hfree hd cells' e' (fun i h=>by simp[qC,qA]) (.arr z ts) (.slice (some ⟨w.heap.size,0,none⟩) len len) rfl
    (w.alloc (.cells cells' e')) rfl rfl rfl rfl
    (fun w' O' hb hr=>.arr z ts _ len len cells' e' gs hb om (qR _) (by unfold maxLen;have:=Nat.le_mul_of_pos_right len cJ;omega) om om hr)
   unfold Oper.wp;rw[hrun,Oper.upon_value,aD];exact⟨_,_,_,g2,hK⟩
  ·exact k.elim
 ·exact k.elim
end
def made(zs:List T)(m:Nat):List T:=
 match zs with
 |[z]=>List.replicate m z
 |zs=>(List.range (m*zs.length)).map fun i=>zs.getD (i%zs.length) .any
def G2{i m k:Nat}(h:i<m*k):0<k:=Nat.pos_of_ne_zero fun h0=>by rw[h0]at h;simp at h
def VZ(zs:List T)(m:Nat):(made zs m).length=m*zs.length:=by
 unfold made;split<;>simp
def V0{zs:List T}{m i:Nat}(h:i<m*zs.length):(made zs m)[i]? =zs[i%zs.length]? :=by
 have hp:0<zs.length:=G2 h;have hm:i%zs.length<zs.length:=Nat.mod_lt _ hp;unfold made;split
 ·simp at h ⊢;simp[rM,h,Nat.mod_one]
 ·rw[qU,List.getElem?_range h];simp[qB hm]
def G3(P:Program)(t:TypeId)(l c:A)(d:Nat)(S:St)(K:St->Prop):Prop:=
 match io P t,l,c with
 |some e,.t (.v (.int _ m)),.t (.v (.int _ m'))=>m'=m/\0<=m/\(match mC P e,zW P e with
  |some zs,some Db=>0<Db/\m*Db<=281474976710656/\jc d (.arr zs.length) K (made zs m.toNat) S
  |_,_=>False)
 |_,_,_=>False
section
variable {P:Program} {n:Nat} {S:St} {K:St->Prop} {X:NP} {w0:World} {O0:Fr} {a:Act} {w:World} {hs:NV} {fp:NL}
def V1{t:TypeId}{l c:Operand}(ho:o.op= .makeSlice t l c)(aD:o.dst=some d)(hd:d<n){e:TypeId}(he:io P t=some e)(hsz:∀zs,mC P e=some zs->dJ P e=some zs.length)(k:G3 P t (S.ev l) (S.ev c) d S K):aQ P n o S K:=by
 unfold G3 at k;split at k
 ·rename_i e' k1 m k2 m' he' hl hc;obtain⟨rfl,hm0,k⟩:=k;have:e'=e:=by rw[he]at he';cases he';rfl
  subst this;split at k
  ·rename_i zs Db hz hby
   obtain⟨bp2,hle,hfree,hK⟩:=k;intro X w0 O0 a w hs fp g Q;obtain⟨i,z,hi,ke,hzs⟩:=yc hz;obtain⟨i',hi',mF⟩:=Mk hby
   have:i'=i:=by rw[hi]at hi';cases hi';rfl
   subst this;obtain⟨wr,MK,hsi⟩:=zX (hsz zs hz);have:wr=i':=by rw[hi]at MK;cases MK;rfl
   subst this;have h1:=g.ev l;rw[hl]at h1;have h1:=h1.dP;have h2:=g.ev c;rw[hc]at h2;have h2:=h2.dP;have bp3:m'<=281474976710656:=by
    have:=Int.mul_le_mul_of_nonneg_left (show(1:Int)<=(Db:Int) by omega) hm0;omega
   have hr:=run_make (P:=P) w t e' wr z (uo he) hi ke k1 k2 m' m' hm0 (Int.le_refl _) (by rw[mF,Int.mul_comm];exact hle) om;have hlen:z.cells.size=zs.length:=by rw[hzs];simp
   have V2:∀j,(madeCells z.cells (m'.toNat*wr.size)).getD j undef=if j<m'.toNat*zs.length then z.cells.toList.getD (j%zs.length) undef else undef:=by
    intro j;rw[hsi];simp only[madeCells,qC,Array.getElem?_map];by_cases hj:j<m'.toNat*zs.length
    ·have hp:0<zs.length:=G2 hj;have hnz:¬m'.toNat*zs.length=0:=om;have hmod:j%zs.length<z.cells.size:=by rw[hlen];exact Nat.mod_lt _ hp
     rw[if_pos hj];simp[hj,hnz,hlen,qA];rw[getElem!_pos z.cells _ hmod,Array.getElem?_eq_getElem hmod];rfl
    ·rw[if_neg hj];simp[hj]
   have hrun:(execOp a.eval o).run P w= .ok (.value (.slice (some ⟨w.heap.size,0,none⟩) m'.toNat m'.toNat)) (w.alloc (.cells (madeCells z.cells (m'.toNat*wr.size)) e')):=by
    simp only[execOp,ho,h1,h2,Sem.run_bind,hr,Result.andThen_ok,Sem.run_pure]
   have hml:=VZ zs m'.toNat
   have g2:=g.newRow (Inter.refl S fp) (ts:=made zs m'.toNat) (vs:=(madeCells z.cells (m'.toNat*wr.size)).toList) (gs:=List.replicate (made zs m'.toNat).length []) (by simp) (fun j h=>by
     have hj:j<m'.toNat*zs.length:=(by rwa[hml]at h);have e1:=V0 hj;rw[qB h]at e1;have hp:0<zs.length:=G2 hj;have hmod:j%zs.length<zs.length:=Nat.mod_lt _ hp;have e2:(made zs m'.toNat)[j]=T.v (z.cells.toList.getD (j%zs.length) undef):=by
      have ML:j%zs.length<z.cells.toList.length:=by have h5:z.cells.toList.length=z.cells.size:=Array.length_toList;omega
      have:zs[j%zs.length]? =some (T.v (z.cells.toList.getD (j%zs.length) undef)):=by
       rw[qA,qB ML,Option.getD_some]
       conv=>lhs;rw[hzs]
       rw[qU];have V3:j%(z.cells.toList.map T.v).length=j%zs.length:=(by rw[hzs]);rw[V3,qB ML];rfl
      rw[this]at e1;exact Option.some.inj e1
     rw[e2,qA (l:=List.replicate _ _),rM,if_pos h];have:=V2 j;rw[if_pos hj]at this;rw[←this,qA,qC,Array.getElem?_toList];exact .rd (.v _)) (by simp) (by simp) hfree hd (madeCells z.cells (m'.toNat*wr.size)) e' (fun j h=>by simp[qC,qA])
    (.arr zs.length (made zs m'.toNat)) (.slice (some ⟨w.heap.size,0,none⟩) m'.toNat m'.toNat) rfl (w.alloc (.cells (madeCells z.cells (m'.toNat*wr.size)) e')) rfl rfl rfl rfl
    (fun w' O' hb hr=>.arr _ _ _ _ _ _ e' _ hb hml (qR _) (by unfold maxLen;omega) (by rw[size_madeCells,hsi]) (by simp) hr)
   unfold Oper.wp;rw[hrun,Oper.upon_value,aD];simp only[List.flatten_replicate_nil]at g2;exact⟨_,_,_,g2,hK⟩
  ·exact k.elim
 ·exact k.elim
end
section
variable {P:Program} (w:World)
def V4(t ty e e0:TypeId)(i:TypeInfo)(ht:P.underlying t=some (.slice e))(hi:P.info? e=some i)(g sLen sCap:Nat)(cur:Array Value)(hg:w.heap[g]? =some (.cells cur e0 (0,0)))(a:Addr)(m c:Nat)(news:LV)(hl:news.length=m*i.size)(hnews:∀j u,news[j]? =some u->w.cell? (a.add j)=some u)(h1:∀u∈news,u.oneCell'=true)(hroom:sLen+m<=sCap)(hfit:sLen*i.size+news.length<=cur.size):
  (Builtin.append_ #[t,t] ty #[.slice (some ⟨g,0,none⟩) sLen sCap,.slice (some a) m c]).run P w=
   .ok (.slice (some ⟨g,0,none⟩) (sLen+m) sCap) (w.setRow g (cur.toList.take (sLen*i.size)++news++cur.toList.drop (sLen*i.size+news.length)).toArray):=by
 have hf:=run_firstCells_some (P:=P) w i.size m a m c news hl hnews;have hst:=run_storeCells_at P g (sLen*i.size) e0 news 0 cur w hg (sU hfit) h1;simp only[Nat.add_zero]at hst;simp[Builtin.append_,run_underlying ht,Go.sizeOf,typeInfo,hi,Builtin.lenOf,hroom,hf,Addr.add_lit,hst]
def MM(t ty e:TypeId)(i:TypeInfo)(ht:P.underlying t=some (.slice e))(hi:P.info? e=some i)(b:Option Addr)(sLen sCap:Nat)(h:sLen<=sCap):
  (Builtin.append_ #[t,t] ty #[.slice b sLen sCap,.slice none 0 0]).run P w= .ok (.slice b sLen sCap) w:=by
 cases b<;>simp[Builtin.append_,run_underlying ht,Go.sizeOf,typeInfo,hi,Builtin.lenOf,h,Builtin.firstCells,storeCells]
def V5(t ty e:TypeId)(i:TypeInfo)(z:Value)(ht:P.underlying t=some (.slice e))(hi:P.info? e=some i)(hz:i.zero=some z)(hzs:z.cells.size=i.size)(v:Value)(k:Nat)(xs:LV)(hxs:xs.length=k*i.size)(hv:(v= .slice none 0 0/\k=0)∨∃g cap cur e0,v= .slice (some ⟨g,0,none⟩) k cap/\w.heap[g]? =some (.cells cur e0 (0,0))/\k<=cap/\cap<=maxLen/\cur.size=cap*i.size/\cur.toList.take (k*i.size)=xs)(u:Value)(m:Nat)(news:LV)(hl:news.length=m*i.size)(h1:∀u∈news,u.oneCell'=true)(hu:(u= .slice none 0 0/\m=0)∨∃ad c,u= .slice (some ad) m c/\∀j y,news[j]? =some y->w.cell? (ad.add j)=some y)(h63:k+m<=maxLen)(hbytes:(k+m)*i.bytes<=140737488355328):
  ∃v' w',(Builtin.append_ #[t,t] ty #[v,u]).run P w= .ok v' w'/\w'.os=w.os/\w'.tape=w.tape/\w'.output=w.output∧
   ((∃cap' cs',v'= .slice (some ⟨w.heap.size,0,none⟩) (k+m) cap'/\w'.heap=w.heap.push (.cells cs' e)/\k+m<=cap'/\cap'<=maxLen/\cs'.size=cap'*i.size/\cs'.toList.take ((k+m)*i.size)=xs++news)∨
    (∃g cap cur e0 cs',v= .slice (some ⟨g,0,none⟩) k cap/\w.heap[g]? =some (.cells cur e0 (0,0))/\v'= .slice (some ⟨g,0,none⟩) (k+m) cap/\w'.heap.size=w.heap.size/\w'.heap[g]? =some (.cells cs' e0 (0,0))∧
      (∀b,b≠g->w'.heap[b]? =w.heap[b]?)/\k+m<=cap/\cs'.size=cap*i.size/\cs'.toList.take ((k+m)*i.size)=xs++news)∨
    (v'=v/\w'=w/\m=0)):=by
 have hsmall:k+m<=9223372036854775807:=by simp only[maxLen]at h63;omega
 have hlen:(xs++news).length=(k+m)*i.size:=by rw[qD,hxs,hl,Nat.add_mul]
 have grown:∀(old:Nat),∃cap' cs',(Value.slice (some ⟨w.heap.size,0,none⟩) (k+m) (grownCap w (k+m) old e)= .slice (some ⟨w.heap.size,0,none⟩) (k+m) cap')∧
   (w.drew.alloc (.cells (xs.toArray++news.toArray++Builtin.zeroCells z.cells (grownCap w (k+m) old e-(k+m))) e)).heap=w.heap.push (.cells cs' e)/\k+m<=cap'/\cap'<=maxLen/\cs'.size=cap'*i.size/\cs'.toList.take ((k+m)*i.size)=xs++news:=by
  intro old;have hge:=grownCap_ge w (k+m) old e;have gM:=grownCap_le_maxLen w (k+m) old e h63;refine⟨_,_,rfl,rfl,hge,gM,?_,?_⟩
  ·simp only[Array.size_append,List.size_toArray,size_zeroCells,hzs,hxs,hl,←Nat.add_mul];congr 1;omega
  ·simp only[Array.toList_append,qW];rw[←qW,←hlen];exact List.take_left
 rcases hu with⟨rfl,rfl⟩|⟨ad,c,rfl,hnews⟩
 ·rcases hv with⟨rfl,rfl⟩|⟨g,cap,cur,e0,rfl,hg,hkc,gM,hcs,G4⟩
  ·exact⟨_,w,MM w t ty e i ht hi none 0 0 (qR _),rfl,rfl,rfl,.inr (.inr ⟨rfl,rfl,rfl⟩)⟩
  ·exact⟨_,w,MM w t ty e i ht hi _ k cap hkc,rfl,rfl,rfl,.inr (.inr ⟨rfl,rfl,rfl⟩)⟩
 rcases hv with⟨rfl,rfl⟩|⟨g,cap,cur,e0,rfl,hg,hkc,gM,hcs,G4⟩
 ·have hx:xs=[]:=rX (sU hxs);subst hx;by_cases hm:m=0
  ·subst hm;refine⟨.slice none 0 0,w,?_,rfl,rfl,rfl,.inr (.inr ⟨rfl,rfl,rfl⟩)⟩;simp[Builtin.append_,run_underlying ht,Go.sizeOf,typeInfo,hi,Builtin.lenOf,Builtin.firstCells,loadCells,loadCellsFrom]
  ·have hr:=run_append_nil (P:=P) w t ty e i z ht hi hz ad m c news hl hnews om om (by have hb:=hbytes;simp only[Nat.zero_add]at hb;omega);obtain⟨cap',cs',cC,bi,kG,mG,Dc,z_⟩:=grown 0;refine⟨_,_,hr,rfl,rfl,rfl,.inl ⟨cap',cs',?_,?_,kG,mG,Dc,z_⟩⟩
   ·simpa using cC
   ·simpa using bi
 ·by_cases hroom:k+m<=cap
  ·have hfit:k*i.size+news.length<=cur.size:=by rw[hl,hcs,←Nat.add_mul];exact Nat.mul_le_mul_right _ hroom
   have hr:=V4 (P:=P) w t ty e e0 i ht hi g k cap cur hg ad m c news hl hnews h1 hroom hfit;refine⟨_,_,hr,rfl,rfl,rfl,.inr (.inl ⟨g,cap,cur,e0,_,rfl,hg,rfl,sA,setRow_heap w g cur _ e0 _ hg,fun b hb=>setRow_other w g b _ hb,hroom,?_,?_⟩)⟩
   ·simp only[List.size_toArray,qD,qL,List.length_drop,Array.length_toList];omega
   ·rw[G4,←hlen];exact List.take_left
  ·have holds:∀j y,xs[j]? =some y->w.cell? ((⟨g,0,none⟩:Addr).add j)=some y:=by
    intro j y hy;rw[re,Nat.zero_add,cell_of_row w g j cur e0 (0,0) hg];rw[←G4,List.getElem?_take]at hy;split at hy
    ·simpa using hy
    ·cases hy
   have hr:=run_append_grow (P:=P) w t ty e i z ht hi hz ⟨g,0,none⟩ k cap xs hxs holds ad m c news hl hnews om om (growslice_fits om hbytes);obtain⟨cap',cs',cC,bi,kG,mG,Dc,z_⟩:=grown cap;exact⟨_,_,hr,rfl,rfl,rfl,.inl ⟨cap',cs',cC,bi,kG,mG,Dc,z_⟩⟩
end
def pp(S:St)(x:A)(z:Nat)(K:List T->St->Prop):Prop:=
 match x with
 | .t (.v (.slice none 0 0))=>K [] S
 | .own r=>(match S.roots r with
   | .live (.arr s l) []=>s=z/\K l {S with roots:=ak S.roots r .dead}
   |_=>False)
 |_=>False
def pq(S:St)(x:A)(z:Nat)(K:List T->St->Prop):Prop:=
 match x with
 | .t (.v (.slice none 0 0))=>K [] S
 | .t (.sh s l)=>(s=z∨(l=[]/\0<s))/\l.all T.cell=true/\K l S
 | .own q=>(match S.roots q with
   | .live (.arr s l) []=>(s=z∨(l=[]/\0<s))/\l.all T.cell=true/\K l (if l.all T.flat then S else{S with roots:=ak S.roots q .dead})
   |_=>False)
 | .sub q off m=>(match S.roots q with
   | .live (.arr s l) []=>s=z/\off+m*z<=l.length/\((l.drop off).take (m*z)).all T.cell=true/\((l.drop off).take (m*z)).all T.flat=true/\K ((l.drop off).take (m*z)) S
   |_=>False)
 |_=>False
def Aa(d z eb:Nat)(K:St->Prop)(olds:List T)(news:List T)(S:St):Prop:=
 (olds.length+news.length)*eb<=z*140737488355328/\jc d (.arr z) K (olds++news) S
def yd(x:A)(d z eb:Nat)(K:St->Prop)(olds:List T)(S:St):Prop:=pq S x z (Aa d z eb K olds)
def G5(P:Program)(t:TypeId)(b x:A)(d:Nat)(S:St)(K:St->Prop):Prop:=
 match n_ P t,GC P t with
 |some z,some eb=>0<z/\0<eb/\pp S b z (yd x d z eb K)
 |_,_=>False
section
variable {P:Program} {n:Nat} {S:St} {K:St->Prop} {X:NP} {w0:World} {O0:Fr} {a:Act} {w:World} {hs:NV} {fp:NL}
def V6(g:Good X w0 O0 n S a w hs fp){x:A}{v:Value}{K:List T->St->Prop}(hz:0<z)(hx:Is w (Ob X fp) hs x v)(h:pp S x z K):
  ∃(olds:List T) (S1:St) (aO:NL) (ta:LV) (lg:LB) (k:Nat),Inter S fp S1 aO/\K olds S1/\olds.length=k*z/\ta.length=olds.length/\lg.length=olds.length∧
   (∀i (h:i<olds.length),Ow w (Ob X fp) olds[i] (ta.getD i undef) (lg.getD i []))/\lg.flatten.Nodup/\(∀b∈lg.flatten,∃q,b∈fp q/\aO q=[])∧
   ((v= .slice none 0 0/\k=0)∨∃g cap cur e0,v= .slice (some ⟨g,0,none⟩) k cap/\w.heap[g]? =some (.cells cur e0 (0,0))/\k<=cap/\cap<=maxLen/\cur.size=cap*z/\cur.toList.take (k*z)=ta∧
     (∃q,g∈fp q/\aO q=[])/\g∉lg.flatten):=by
 unfold pp at h;split at h
 ·have hv:=hx.dP;exact⟨[],S,fp,[],[],0,Inter.refl S fp,h,sA,rfl,rfl,fun i h=>absurd h sA,sA,sA,.inl ⟨hv,rfl⟩⟩
 ·rename_i r;split at h
  ·rename_i s l hr;obtain⟨hs,hK⟩:=h;have hI:Inter S fp {S with roots:=ak S.roots r .dead} (ak fp r []):=⟨rfl,fun q=>by
    by_cases hq:q=r
    ·subst hq;exact .inr ⟨aT _ _ _,aT _ _ _,_,_,hr⟩
    ·exact .inl ⟨aU _ _ _ _ hq,aU _ _ _ _ hq⟩⟩
   have hown:=hx.gK;rcases g.arr hr with⟨hv,rfl,bw,_⟩|⟨b,len,cap,cs,e,ar,hv,hb,hl,hc,hm,hsz,hf,hro,bw,hle,_⟩
   ·rw[hv,Option.some.injEq]at hown;exact⟨[],_,_,[],[],0,hI,hK,sA,rfl,rfl,fun i h=>absurd h sA,sA,sA,.inl ⟨hown.symm,rfl⟩⟩
   ·rw[hv,Option.some.injEq]at hown;have aK:=g.nodup r;rw[bw]at aK;subst hs;refine⟨l,_,_,cs.toList.take (len*s),ar,len,hI,hK,hl,by simp;omega,hf,fun i h=>?_,(qX.1 aK).2,fun b' hb'=>⟨r,by rw[bw];exact rH _ hb',aT _ _ _⟩,
     .inr ⟨b,cap,cs,e,hown.symm,hb,hc,hm,hsz,rfl,⟨r,by rw[bw];simp,aT _ _ _⟩,(qX.1 aK).1⟩⟩
    have:=hro i h;rw[qA,List.getElem?_take_of_lt om];simpa[qC]using this
  ·exact h.elim
 ·exact h.elim
def V7(g:Good X w0 O0 n S a w hs fp){S1:St}{aO:NL}(I:Inter S fp S1 aO){x:A}{u:Value}{K:List T->St->Prop}(hz:0<z)(hx:Is w (Ob X fp) hs x u)(h:pq S1 x z K):
  ∃(news:List T) (S2:St) (bl:NL) (kg:LV) (gs:LB) (m:Nat),Inter S fp S2 bl/\K news S2/\news.length=m*z/\kg.length=news.length/\gs.length=news.length∧
   (∀i (h:i<news.length),Ow w (Ob X fp) news[i] (kg.getD i undef) (gs.getD i []))/\gs.flatten.Nodup/\(∀b∈gs.flatten,∃q,b∈aO q/\bl q=[])/\(∀r,aO r=[]->bl r=[])/\(∀c∈news,c.cell=true)∧
   ((u= .slice none 0 0/\m=0)∨∃ad c,u= .slice (some ad) m c/\∀j y,kg[j]? =some y->w.cell? (ad.add j)=some y):=by
 have copy:∀(news:List T) (b off m c:Nat) (cs:Array Value) (e:TypeId) (fz:Nat×Nat),u= .slice (some ⟨b,off,none⟩) m c->w.heap[b]? =some (.cells cs e fz)->off+news.length<=cs.size->news.length=m*z→
   (∀i (h:i<news.length),Rd w (Ob X fp) news[i] (cs.getD (off+i) undef))->news.all T.cell=true->K news S1->∃(news:List T) (S2:St) (bl:NL) (kg:LV) (gs:LB) (m:Nat),Inter S fp S2 bl/\K news S2/\news.length=m*z/\kg.length=news.length/\gs.length=news.length∧
   (∀i (h:i<news.length),Ow w (Ob X fp) news[i] (kg.getD i undef) (gs.getD i []))/\gs.flatten.Nodup/\(∀b∈gs.flatten,∃q,b∈aO q/\bl q=[])/\(∀r,aO r=[]->bl r=[])/\(∀c∈news,c.cell=true)∧
   ((u= .slice none 0 0/\m=0)∨∃ad c,u= .slice (some ad) m c/\∀j y,kg[j]? =some y->w.cell? (ad.add j)=some y):=by
  intro news b off m c cs e fz hu hb hsz hl hr hc hK;refine⟨news,S1,aO,(List.range news.length).map fun i=>cs.getD (off+i) undef,List.replicate news.length [],m,I,hK,hl,sA,sA,fun i h=>?_,sA,sA,fun _ h=>h,fun c eY=>rO.1 hc c eY,.inr ⟨_,c,hu,fun j y hy=>?_⟩⟩
  ·rw[qA,qU,List.getElem?_range h,qA,rM,if_pos h];exact .rd (hr i h)
  ·rw[qU]at hy;by_cases hj:j<news.length
   ·rw[List.getElem?_range hj]at hy;simp only[Option.map_some,Option.some.injEq]at hy;rw[re,←hy];exact pg hb om
   ·rw[qP (sU hj)]at hy;simp at hy
 have none:∀(news:List T),news=[]->u= .slice none 0 0->K news S1->∃(news:List T) (S2:St) (bl:NL) (kg:LV) (gs:LB) (m:Nat),Inter S fp S2 bl/\K news S2/\news.length=m*z/\kg.length=news.length/\gs.length=news.length∧
   (∀i (h:i<news.length),Ow w (Ob X fp) news[i] (kg.getD i undef) (gs.getD i []))/\gs.flatten.Nodup/\(∀b∈gs.flatten,∃q,b∈aO q/\bl q=[])/\(∀r,aO r=[]->bl r=[])/\(∀c∈news,c.cell=true)∧
   ((u= .slice none 0 0/\m=0)∨∃ad c,u= .slice (some ad) m c/\∀j y,kg[j]? =some y->w.cell? (ad.add j)=some y):=by
  rintro _ rfl hu hK;exact⟨[],S1,aO,[],[],0,I,hK,sA,rfl,rfl,fun i h=>absurd h sA,sA,sA,fun _ h=>h,sA,.inl ⟨hu,rfl⟩⟩
 have same:∀q t lk,S1.roots q= .live t lk->S.roots q= .live t lk/\aO q=fp q:=fun q t lk hq=>by
  rcases I.root q with⟨h1,h2⟩|⟨h1,_⟩<;>rw[hq]at h1
  ·exact⟨h1.symm,h2⟩
  ·cases h1
 have G6:∀{l:List T} {len s:Nat},l.length=len*s->(s=z∨(l=[]/\0<s))->l.length=len*z:=by
  intro l len s hl h;rcases h with rfl|⟨rfl,h0⟩
  ·exact hl
  ·have:0=len*s:=sU hl;rcases Nat.mul_eq_zero.1 this.symm with h|h
   ·subst h;simp
   ·omega
 unfold pq at h;split at h
 ·exact none _ rfl hx.dP h
 ·rename_i s l;obtain⟨hs',hc,hK⟩:=h;rcases hx.zU with⟨hv,rfl⟩|⟨ad,cap,hv,rfl⟩|⟨b,off,len,cap,cs,e,fz,hv,hO,hb,hsz,hl,hcap,hr⟩
  ·exact none _ rfl hv hK
  ·exact⟨[],S1,aO,[],[],0,I,hK,sA,rfl,rfl,fun i h=>absurd h sA,sA,sA,fun _ h=>h,sA,.inr ⟨ad,cap,hv,fun j y hy=>by simp at hy⟩⟩
  ·exact copy l b off len cap cs e fz hv hb hsz (G6 hl hs') hr hc hK
 ·rename_i q;split at h
  ·rename_i s l hq;obtain⟨hs',hc,hK⟩:=h;obtain⟨Dd,MN⟩:=same q _ _ hq;have hown:=hx.gK;rcases g.arr Dd with⟨hv,rfl,bw,_⟩|⟨b,len,cap,cs,e,ar,hv,hb,hl,hcap,hm,hsz,hf,hro,bw,hle,_⟩
   ·rw[hv,Option.some.injEq]at hown;exact none _ rfl hown.symm (sU hK)
   ·rw[hv,Option.some.injEq]at hown;by_cases hfl:l.all T.flat=true
    ·rw[if_pos hfl]at hK;refine copy l b 0 len cap cs e (0,0) hown.symm hb om (G6 hl hs') (fun i h=>?_) hc hK;have:=(hro i h).sZ (rO.1 hfl _ (rJ _));rw[Nat.zero_add];exact this.1
    ·rw[if_neg hfl]at hK;have aK:=g.nodup q;rw[bw]at aK;refine⟨l,{S1 with roots:=ak S1.roots q .dead},ak aO q [],cs.toList.take l.length,ar,len,⟨I.env,fun r=>?_⟩,hK,G6 hl hs',by simp;omega,hf,fun i h=>?_,(qX.1 aK).2,fun b' hb'=>⟨q,by rw[MN,bw];exact rH _ hb',aT _ _ _⟩,
      fun r hr=>?_,fun c eY=>rO.1 hc c eY,.inr ⟨_,cap,hown.symm,fun j y hy=>?_⟩⟩
     ·by_cases hr:r=q
      ·subst hr;exact .inr ⟨aT _ _ _,aT _ _ _,_,_,Dd⟩
      ·simp only[aU _ _ _ _ hr];exact I.root r
     ·have:=hro i h;rw[qA,List.getElem?_take_of_lt h];simpa[qC]using this
     ·by_cases h:r=q
      ·subst h;exact aT _ _ _
      ·rw[aU _ _ _ _ h];exact hr
     ·rw[List.getElem?_take]at hy;split at hy
      ·rw[re,Nat.zero_add,cell_of_row w b j cs e (0,0) hb];simpa using hy
      ·cases hy
  ·exact h.elim
 ·rename_i q off m;split at h
  ·rename_i s l hq;obtain⟨rfl,hle',hc,hfl,hK⟩:=h;obtain⟨Dd,MN⟩:=same q _ _ hq;obtain⟨u',hu⟩:∃u',u=u':=⟨_,rfl⟩;rw[hu]at hx;rcases g.arr Dd with⟨hv,rfl,bw,_⟩|⟨b,len,cap,cs,e,ar,hv,hb,hl,hcap,hm,hsz,hf,hro,bw,hle,_⟩
   ·cases hx with
    |sub hr _=>rw[hv]at hr;cases hr
    |my hr=>rw[hv]at hr;cases hr
    |mz _=>exact none _ sA hu hK
   ·cases hx with
    |sub hr _=>
     rw[hv]at hr;cases hr;refine copy _ b off m _ cs e (0,0) hu hb (by simp;omega) (by simp;omega) (fun i h=>?_) hc hK;have h':off+i<l.length:=by simp at h;omega
     have e1:((l.drop off).take (m*s))[i]=l[off+i]:=sA;have:=(hro (off+i) h').sZ (by rw[←e1];exact rO.1 hfl _ (rJ _));rw[e1];exact this.1
    |my hr=>
     refine⟨[],S1,aO,[],[],0,I,sU hK,sA,rfl,rfl,fun i h=>absurd h sA,sA,sA,fun _ h=>h,sA,.inr ⟨_,_,hu,fun j y hy=>by simp at hy⟩⟩
    |mz hr=>rw[hv]at hr;cases hr
  ·exact h.elim
 ·exact h.elim
def V8{t u:TypeId}{b x:Operand}(ho:o.op= .call {callee:=.builtin .append,args:=#[b,x],argTypes:=#[t,t]})(aD:o.dst=some d)(hd:d<n){e:TypeId}(he:io P t=some e)(z8:∃zs,mC P e=some zs/\dJ P e=some zs.length)(k:G5 P t (S.ev b) (S.ev x) d S K):aQ P n o S K:=by
 unfold G5 at k;split at k
 ·rename_i z eb hz wu;obtain⟨cJ,V9,k⟩:=k;intro X w0 O0 a w hs fp g Q;obtain⟨e',ie,hu,hi,ke⟩:=GD hz;have hee:e'=e:=by have:=uo he;rw[hu]at this;cases this;rfl
  subst hee;obtain⟨zs,hzs,V_⟩:=z8;obtain⟨i1,zv,hi1,G0,Wa⟩:=yc hzs;have:i1=ie:=by rw[hi]at hi1;cases hi1;rfl
  subst this;have Wb:zv.cells.size=i1.size:=by
   obtain⟨i2,hi2,aW⟩:=zX V_;have:i2=i1:=by rw[hi]at hi2;cases hi2;rfl
   subst this;rw[aW,Wa];simp
  have hbytes:i1.bytes=eb:=by
   unfold GC at wu;rw[he]at wu;obtain⟨i2,hi2,aW⟩:=Mk (sU wu);have:i2=i1:=by rw[hi]at hi2;cases hi2;rfl
   subst this;exact aW
  obtain⟨olds,S1,aO,ta,lg,kk,I1,Ac,d_,G7,G8,MO,De,hos,hv⟩:=V6 g cJ (g.ev b) k;obtain⟨news,S2,bl,kg,gs,m,I2,pi,hnl,MP,kh,hno,lM,eR,hmono,hcell,Wd⟩:=V7 g I1 cJ (g.ev x) Ac;obtain⟨hle,hfree,hK⟩:=pi;have hle':(kk+m)*eb<=140737488355328:=by
   rw[d_,hnl,←Nat.add_mul,Nat.mul_right_comm]at hle;rw[Nat.mul_comm z]at hle;exact Nat.le_of_mul_le_mul_right hle cJ
  have h63:kk+m<=maxLen:=by
   have:=Nat.le_mul_of_pos_right (kk+m) V9;unfold maxLen;omega
  have hone:∀y∈kg,y.oneCell'=true:=by
   intro y hy;obtain⟨j,hj,rfl⟩:=rE.1 hy;have h1:=(hno j om).yb (hcell _ (rJ _));rwa[qA,qB hj]at h1
  obtain⟨v',w',hr,hw1,dr,lP,Ad⟩:=V5 (P:=P) w t o.type e' i1 zv hu hi G0 Wb (a.eval b) kk ta (by rw[G7,d_,ke]) (by
    rcases hv with h|⟨g',cap,cur,e0,h1,h2,h3,h4,h5,h6,_⟩
    ·exact .inl h
    ·exact .inr ⟨g',cap,cur,e0,h1,h2,h3,h4,by rw[ke];exact h5,by rw[ke];exact h6⟩) (a.eval x) m kg (by rw[MP,hnl,ke]) hone Wd h63 (by rw[hbytes];exact hle')
  have hrun:(execOp a.eval o).run P w= .ok (.value v') w':=by
   simp[execOp,ho,resolve,invoke,builtin,hr]
  have hall:∀i (h:i<(olds++news).length),Ow w (Ob X fp) (olds++news)[i] ((ta++kg).getD i undef) ((lg++gs).getD i []):=by
   intro i h;by_cases hi':i<olds.length
   ·rw[List.getElem_append_left hi',qA,rR om,qA,rR om];have:=MO i hi';rwa[qA,qA]at this
   ·have hlt:i-olds.length<news.length:=by simp at h;omega
    rw[List.getElem_append_right om,qA,rD om,qA,rD om,G7,G8];have:=hno (i-olds.length) hlt;rwa[qA,qA]at this
  have G9:∀b∈lg.flatten,∃q,b∈fp q/\aO q=[]/\bl q=[]:=fun b hb=>by obtain⟨q,h1,h2⟩:=hos b hb;exact⟨q,h1,h2,hmono q h2⟩
  have G_:∀q b,b∈aO q->b∈fp q:=fun q b hq=>by
   rcases I1.root q with⟨_,h⟩|⟨_,h,_⟩<;>rw[h]at hq
   ·exact hq
   ·simp at hq
  have hfn:(lg++gs).flatten.Nodup:=by
   rw[qY,rC];refine⟨De,lM,fun b hb b' hb' e=>?_⟩;subst e;obtain⟨q,h1,h2,_⟩:=G9 b hb;obtain⟨q',h3,_⟩:=eR b hb';have:=g.cj q q' b h1 (G_ _ _ h3);subst this;rw[h2]at h3;simp at h3
  have MQ:∀b∈(lg++gs).flatten,∃q,b∈fp q/\bl q=[]:=by
   intro b hb;rw[qY,qI]at hb;rcases hb with hb|hb
   ·obtain⟨q,h1,_,h3⟩:=G9 b hb;exact⟨q,h1,h3⟩
   ·obtain⟨q,h1,h2⟩:=eR b hb;exact⟨q,G_ _ _ h1,h2⟩
  have hlen:(olds++news).length=(kk+m)*z:=by rw[qD,d_,hnl,Nat.add_mul]
  have hvl:(ta++kg).length=(olds++news).length:=by simp[G7,MP]
  have Ha:(lg++gs).length=(olds++news).length:=by simp[G8,kh]
  have Ae:∀(cs':Array Value),cs'.toList.take ((kk+m)*i1.size)=ta++kg->∀i,i<(olds++news).length->cs'.getD i undef=(ta++kg).getD i undef:=by
   intro cs' h i hi';rw[←h,qA,List.getElem?_take_of_lt (by rw[ke];omega)];simp[qC]
  have hnone:hs d=none:=by
   have:=g.root d;rcases I2.root d with⟨h1,_⟩|⟨h1,_⟩<;>rw[h1]at hfree
   ·rw[hfree]at this;exact this.1
   ·cases hfree
  unfold Oper.wp;rw[hrun,Oper.upon_value,aD];rcases Ad with⟨cap',cs',rfl,Df,hkc,gM,hcs,uv⟩|⟨g0,cap,cur,e0,cs',wv,hg0,rfl,bp4,We,wn,hkc,hcs,uv⟩|⟨rfl,Wf,hm0⟩
  ·have g2:=g.newRow I2 Ha hall hfn MQ hfree hd cs' e' (Ae cs' uv) (.arr z (olds++news)) (.slice (some ⟨w.heap.size,0,none⟩) (kk+m) cap') rfl w' Df hw1 dr lP
    (fun w'' O' hb hr'=>.arr z _ _ _ cap' cs' e' _ hb hlen hkc gM (by rw[hcs,ke]) Ha hr')
   exact⟨_,_,_,g2,hK⟩
  ·have uw:(∃q,g0∈fp q/\aO q=[])/\g0∉lg.flatten/\cap<=maxLen:=by
    rcases hv with⟨h,_⟩|⟨g',MR,Hb,e2,h1,_,_,h4,_,_,h7,h8⟩
    ·rw[h]at wv;cases wv
    ·rw[h1]at wv;cases wv;exact⟨h7,h8,h4⟩
   obtain⟨⟨q0,lL,hq1⟩,Wg,gM⟩:=uw;have MS:g0∉(lg++gs).flatten:=by
    rw[qY,qI];rintro(h|h)
    ·exact Wg h
    ·obtain⟨q',h3,_⟩:=eR g0 h;have:=g.cj q0 q' g0 lL (G_ _ _ h3);subst this;rw[hq1]at h3;simp at h3
   have g2:=g.lay I2 d (.arr z (olds++news)) [] (.slice (some ⟨g0,0,none⟩) (kk+m) cap) (g0::(lg++gs).flatten) w' (.inl ⟨hnone,by have:=g.small;omega⟩) rfl hw1 dr lP om
    (fun b' hb' hq=>wn b' fun h=>by subst h;exact(hq q0 lL).2 (hmono q0 hq1))
    (qX.2 ⟨MS,hfn⟩)
    (fun b' hb'=>by
     left;rcases qO.1 hb' with rfl|hb'
     ·exact⟨q0,lL,.inr (hmono q0 hq1)⟩
     ·obtain⟨q,h1,h2⟩:=MQ b' hb';exact⟨q,h1,.inr h2⟩)
    (fun O' hO=>.arr z _ _ _ cap cs' e0 _ We hlen hkc gM (by rw[hcs,ke]) Ha fun i hi'=>by
     rw[Ae cs' uv i hi'];have hne:∀b',¬Ob X fp b'->b'≠g0:=fun b' h1 h2=>h1 (.inr ⟨q0,h2▸lL⟩);exact(hall i hi').mono (fun b' cs e fz h1 h2=>by rw[wn b' (hne b' h1)];exact h2) hO
      (fun b' cs e fz h1 h2=>by rw[wn b' (fun h=>MS (h▸jL h1))];exact h2))
    (fun p hp=>by simp at hp)
   exact⟨_,_,_,g2.put hd (.own (aT _ _ _)),hK⟩
  ·rw[Wf];subst hm0;have hnews:news=[]:=rX (by rw[hnl];simp);have bp5:gs=[]:=rX (by rw[kh,hnews];rfl);rw[hnews,List.append_nil]at hK;rcases hv with⟨h,ww⟩|⟨g',MR,Hb,e2,h1,h2,h3,h4,h5,h6,⟨q0,h7,Wh⟩,h8⟩
   ·have holds:olds=[]:=rX (by rw[d_,ww];simp);rw[holds]at hK;have g2:=g.lay I2 d (.arr z []) [] (a.eval b) [] w (.inl ⟨hnone,by have:=g.small;omega⟩) rfl rfl rfl rfl (qR _) (fun _ _ _=>rfl) sA sA (fun O' hO=>by rw[h];exact .jn z) (fun p hp=>by simp at hp);exact⟨_,_,_,g2.put hd (.own (aT _ _ _)),hK⟩
   ·have g2:=g.lay I2 d (.arr z olds) [] (a.eval b) (g'::lg.flatten) w (.inl ⟨hnone,by have:=g.small;omega⟩) rfl rfl rfl rfl (qR _) (fun _ _ _=>rfl) (qX.2 ⟨h8,De⟩)
     (fun b' hb'=>by
      left;rcases qO.1 hb' with rfl|hb'
      ·exact⟨q0,h7,.inr (hmono q0 Wh)⟩
      ·obtain⟨q,h1,_,h2⟩:=G9 b' hb';exact⟨q,h1,.inr h2⟩)
     (fun O' hO=>by
      rw[h1];refine .arr z _ _ _ MR Hb e2 _ h2 d_ h3 h4 h5 G8 fun i hi'=>?_;have:=MO i hi';rw[←h6,qA,List.getElem?_take_of_lt om]at this;exact(by simpa[qC]using this:Ow w (Ob X fp) olds[i] (Hb.getD i undef) (lg.getD i [])).mono (fun _ _ _ _ _ h=>h) hO (fun _ _ _ _ _ h=>h)) (fun p hp=>by simp at hp)
    exact⟨_,_,_,g2.put hd (.own (aT _ _ _)),hK⟩
 ·exact k.elim
end
def Hc(P:Program)(src dst:TypeId)(x:A)(K:A->Prop):Prop:=
 match wc P src,wc P dst,x with
 |some _,some k,.t (.v (.int _ m))=>K (.v (.int k (k.wrap m)))
 |_,_,_=>False
def gN(x:A)(S:St)(K:A->Prop):Prop:=
 match x with
 | .ptr r off=>K (.ptr r off)
 | .own r=>(match S.roots r with| .live (.box _) _=>K (.own r)|_=>False)
 | .t (.ax l off)=>K (.t (.ax l off))
 | .fn f cap=>K (.fn f cap)
 |_=>False
def ux(mx:Bool)(x y:A)(K:A->Prop):Prop:=
 match x,y with
 | .t (.v (.int k a)),.t (.v (.int _ b))=>K (.v (.int k (if mx then max a b else min a b)))
 |_,_=>False
section
variable {P:Program} {n:Nat} {S:St} {K:St->Prop} {X:NP} {w0:World} {O0:Fr} {a:Act} {w:World} {hs:NV} {fp:NL}
def Wi{src dst:TypeId}{x:Operand}(ho:o.op= .convert src dst x)(aD:o.dst=some d)(hd:d<n)(k:Hc P src dst (S.ev x) (dI S d K)):aQ P n o S K:=by
 unfold Hc at k;split at k
 ·rename_i k1 k2 kk m h1 h2 hx;refine aQ.val aD hd (fun X w0 O0 a w hs fp g=>?_) k;have h:=g.ev x;rw[hx]at h;have h:=h.dP;exact⟨_,by simp[execOp,ho,h,convert,run_underlying (Ml h1),run_underlying (Ml h2),Conv.intToInt],.t (.v _)⟩
 ·exact k.elim
def Wj{x:Operand}(ho:o.op= .nilCheck x)(aD:o.dst=some d)(hd:d<n)(k:gN (S.ev x) S (dI S d K)):aQ P n o S K:=by
 have ptr:∀(y:A),(∀X w0 O0 a w hs fp,Good X w0 O0 n S a w hs fp->∃ad,a.eval x= .pointer (some ad))->S.ev x=y->dI S d K y->aQ P n o S K:=by
  intro y hy hxy hK;refine aQ.val aD hd (fun X w0 O0 a w hs fp g=>?_) hK;obtain⟨ad,had⟩:=hy X w0 O0 a w hs fp g;exact⟨.pointer (some ad),by simp[execOp,ho,had],by rw[←hxy,←had];exact g.ev x⟩
 unfold gN at k;split at k
 ·rename_i r off hx;refine ptr _ (fun X w0 O0 a w hs fp g=>?_) hx k;have h:=g.ev x;rw[hx]at h;generalize a.eval x=v at h;cases h with
  |lJ _=>exact⟨_,rfl⟩
  |kc _=>exact⟨_,rfl⟩
 ·rename_i r hx;split at k
  ·rename_i l lk hr;refine ptr _ (fun X w0 O0 a w hs fp g=>?_) hx k;have h1:=g.ev x;rw[hx]at h1;have h1:=h1.gK;obtain⟨b,cs,e,ar,hb,_⟩:=g.box hr;rw[hb,Option.some.injEq]at h1;exact⟨_,h1.symm⟩
  ·exact k.elim
 ·rename_i l off hx;refine ptr _ (fun X w0 O0 a w hs fp g=>?_) hx k;have h:=g.ev x;rw[hx]at h;generalize a.eval x=v at h;cases h with
  |t h=>cases h;exact⟨_,rfl⟩
 ·rename_i f cap hx;refine aQ.val aD hd (fun X w0 O0 a w hs fp g=>?_) k;have h:=g.ev x;rw[hx]at h;obtain⟨v,hv⟩:∃v,a.eval x=v:=⟨_,rfl⟩;rw[hv]at h;have h':=h;cases h' with
  |fn hl hr=>exact⟨_,by simp[execOp,ho,hv],h⟩
 ·exact k.elim
def Wk{f:Nat}{cap:Array Operand}(ho:o.op= .makeFunc (.func f) #[] cap)(aD:o.dst=some d)(hd:d<n)(k:dI S d K (.fn f (cap.toList.map S.ev))):aQ P n o S K:=by
 refine aQ.val aD hd (fun X w0 O0 a w hs fp g=>?_) k;refine⟨.func (.func f) #[] (cap.map a.eval),by simp[execOp,ho,Instr.makeFunc],?_⟩;have:=Is.fn (w:=w) (O:=Ob X fp) (hs:=hs) (f:=f) (cap:=cap.toList.map S.ev) (vs:=cap.toList.map a.eval) sA (fun i h=>by
  have h':i<cap.toList.length:=sU h;simp only[rQ,qA,qU,qB h',Option.map_some,Option.getD_some];exact g.ev _)
 have e:(cap.toList.map a.eval).toArray=cap.map a.eval:=by apply Array.ext';simp
 rw[e]at this;exact this
def MT{x:Operand}{mx:Bool}{ts:Array TypeId}(ho:o.op= .call {callee:=.builtin (if mx then .max else .min),args:=#[x,y],argTypes:=ts})(aD:o.dst=some d)(hd:d<n)(k:ux mx (S.ev x) (S.ev y) (dI S d K)):aQ P n o S K:=by
 unfold ux at k;split at k
 ·rename_i kk a1 k2 b1 hx hy;refine aQ.val aD hd (fun X w0 O0 a w hs fp g=>?_) k;have h1:=g.ev x;rw[hx]at h1;have h1:=h1.dP;have h2:=g.ev y;rw[hy]at h2;have h2:=h2.dP;cases mx
  ·refine⟨_,by simp[execOp,ho,resolve,invoke,builtin,h1,h2,Builtin.min_,Builtin.min2];rfl,?_⟩;have:(if b1<a1 then b1 else a1)=min a1 b1:=by rw[Int.min_def];split<;>split<;>omega
   rw[this];exact .t (.v _)
  ·refine⟨_,by simp[execOp,ho,resolve,invoke,builtin,h1,h2,Builtin.max_,Builtin.max2];rfl,?_⟩;have:(if a1<b1 then b1 else a1)=max a1 b1:=by rw[Int.max_def];split<;>split<;>omega
   rw[this];exact .t (.v _)
 ·exact k.elim
end
def rF(ro:Option Nat):Fence:=match ro with|none=>Fence.wide|some l=>Fence.wide.inRound l
def oa(ro:Option Nat)(w0:World)(O0:Fr):Prop:=∀l,ro=some l->l<w0.heap.size/\¬O0 l/\∃r,w0.heap[l]? =some (.loop r)
def oa.no(w0:World)(O0:Fr):oa none w0 O0:=fun l h=>by cases h
def ye(ro:Option Nat)(f:FuncId):(rF ro).fn f:=by cases ro<;>trivial
def He{n:Nat}{f:FuncId}{args:Array Value}{R:Ending->World->Prop}(h:Calls P f args w R):CallsIn (rF ro) n P f args w R:=by
 cases ro with
 |none=>exact callsIn_wide.2 h
 |some l=>exact CallsIn.inRound l (callsIn_wide.2 h)
def Wl{n:Nat}{row:String}{args:Array Value}{R:Value->World->Prop}(h:Rows P row args w R):RowsIn (rF ro) n P row args w R:=fun c cs _=>by
 obtain⟨v,w',r,s⟩:=h c cs;refine⟨v,w',r,?_⟩;cases ro with
 |none=>exact stepsIn_wide.2 s
 |some l=>exact stepsIn_wide.2 s
def Af:(rF ro).depth.isSome=true->p:=fun h=>by cases ro<;>cases h
def MU(aK:∀c,o.op≠ .defer c){next:Act->World->Prop}{Q:Exit->Act->World->Prop}(h:o.wp P a w next Q):o.wpIn (rF ro) 0 P a w next Q:=by
 refine⟨fun f _=>ye ro f,?_⟩;rw[Oper.semAt_eq _ _ _ aK];unfold Oper.wp at h;generalize (execOp a.eval o).run P w=r at h ⊢;cases r with
 |ok x w'=>
  cases x<;>simp only[Oper.upon,Oper.uponIn]at h ⊢ <;>first|exact h|exact⟨Af,He h⟩|exact⟨Af,Wl h⟩
 |halt x w'=>cases x<;>simp only[Oper.upon,Oper.uponIn]at h ⊢ <;>exact h
def Ag{P:Program}{ops:Array Oper}{ro:Option Nat}{Q:Exit->Act->World->Prop}(aK:∀o∈ops.toList,∀c,o.op≠ .defer c)(hQ:¬LetsOut Q):∀(l:LN) (a:Act) (w:World),wpOps P ops Q l a w->wpOpsIn (rF ro) 0 P ops Q l a w
 |[],a,w,h=>h
 |i::l,a,w,h=>by
  simp only[wpOps,wpOpsIn]at h ⊢;cases ho:ops[i]? with
  |none=>rw[ho]at h;exact Ag aK hQ l a w h
  |some o=>
   rw[ho]at h;simp only at h ⊢;have hm:o∈ops.toList:=by
    rw[←Array.getElem?_toList]at ho;exact qE ho
   split
   ·rename_i hw;rw[if_pos hw]at h;rcases h with h|⟨_,h⟩
    ·exact Oper.wpIn_mono (fun a w=>Ag aK hQ l a w) (MU (aK o hm) h)
    ·exact(hQ h).elim
   ·rename_i hw;rw[if_neg hw]at h;exact⟨fun f _=>ye ro f,Ag aK hQ l _ w h⟩
def ib(l:LN)(a a':Act):Prop:=∀s,s∉l->a'.tmps.getD s undef=a.tmps.getD s undef
def ib.refl(l:LN)(a:Act):ib l a a:=fun _ _=>rfl
def ib.trans{l:LN}{a a' MV:Act}(h:ib l a a')(h':ib l a' MV):ib l a MV:=fun s hs=>(h' s hs).trans (h s hs)
def ib.mono{l l':LN}{a':Act}(h:ib l a a')(hl:∀s∈l,s∈l'):ib l' a a':=fun s hs=>h s fun h1=>hs (hl s h1)
def ib.put(a:Act)(d:Option Nat)(v:Value):ib d.toList a (a.put d v):=fun s hs=>by
 cases d with
 |none=>rfl
 |some d=>
  have hne:d≠s:=fun e=>hs (by simp[e]);show(a.tmps.setIfInBounds d v).getD s undef=_;rw[qC,qC,Array.getElem?_setIfInBounds_ne hne]
def Ah(ops:Array Oper):LN:=ops.toList.filterMap (·.dst)
def jp:Code->LN
 | .region _ ops _=>Ah ops
 | .seq a b=>jp a++jp b
 | .cond _ a b=>jp a++jp b
 | .block _ c=>jp c
 | .loop c=>jp c
 |_=>[]
def Wm{next next':Act->World->Prop}{Q Q':Exit->Act->World->Prop}(h:o.wp P a w next Q)(hn:∀a' w',next a' w'->ib o.dst.toList a a'->next' a' w')(hq:∀e a w,e≠ .normal->Q e a w->Q' e a w):o.wp P a w next' Q':=by
 unfold Oper.wp at h ⊢;generalize (execOp a.eval o).run P w=r at h ⊢;have hl:LetsOut Q->LetsOut Q':=fun⟨a,w,h⟩=>⟨a,w,hq _ _ _ sA h⟩;cases r with
 |ok x w'=>
  cases x<;>simp only[Oper.upon]at h ⊢ <;>
   first
    |exact hn _ _ h (ib.put a o.dst _)
    |exact hn _ _ h (fun s hs=>ib.put {tmps:=a.tmps,defers:=_} o.dst _ s hs)
    |exact Calls.mono h (fun e w'' he=>by cases e<;>first|exact hn _ _ he (ib.put a o.dst _)|exact hq _ _ _ sA he|exact hl he)
    |exact Rows.mono h (fun _ _ he=>hn _ _ he (ib.put a o.dst _))
    |exact h
 |halt x w'=>cases x<;>simp only[Oper.upon]at h ⊢ <;>first|exact hq _ _ _ sA h|exact h
def Ai{P:Program}{ops:Array Oper}{Q:Exit->Act->World->Prop}{a0:Act}:∀(l:LN) (a:Act) (w:World),wpOps P ops Q l a w->ib (Ah ops) a0 a->wpOps P ops (fun e a' w'=>Q e a' w'/\(e= .normal->ib (Ah ops) a0 a')) l a w
 |[],a,w,h,hs=>⟨h,fun _=>hs⟩
 |i::l,a,w,h,hs=>by
  simp only[wpOps]at h ⊢;cases ho:ops[i]? with
  |none=>rw[ho]at h;exact Ai l a w h hs
  |some o=>
   rw[ho]at h;simp only at h ⊢;have hm:∀s∈o.dst.toList,s∈Ah ops:=fun s h1=>by
    rw[←Array.getElem?_toList]at ho;exact List.mem_filterMap.2 ⟨o,qE ho,sU h1⟩
   split
   ·rename_i hw;rw[if_pos hw]at h;refine h.imp (fun h=>Wm h (fun a' w' h1 h2=>Ai l a' w' h1 (hs.trans (h2.mono hm))) fun e a w he h=>⟨h,fun h1=>(he h1).elim⟩) fun h=>⟨h.1,?_⟩;obtain⟨a1,w1,h1⟩:=h.2;exact⟨a1,w1,h1,fun h=>by cases h⟩
   ·rename_i hw;rw[if_neg hw]at h;exact Ai l _ w h (hs.trans ((ib.put a o.dst _).mono hm))
def jq:Code->Bool
 | .seq a b=>jq a||jq b
 | .cond _ a b=>jq a||jq b
 | .block _ c=>jq c
 | .loop c=>jq c
 | .rangeFunc _ _ _ _=>true
 |_=>false
def Sem(P:Program)(n:Nat)(c:Code)(Q:Exit->St->Prop)(S:St):Prop:=
 ∀X w0 O0 a w hs fp,Good X w0 O0 n S a w hs fp->∀ro,oa ro w0 O0->(jq c=true->ro=none->O0.aL)->c.wpIn (rF ro) 0 P (fun e a' w'=>(∃S' hs' al,Good X w0 O0 n S' a' w' hs' al/\Q e S')/\ib (jp c) a a') a w
def dx(P:Program)(n:Nat)(ops:Array Oper)(l:LN)(S:St)(K:St->Prop):Prop:=
 ∀X w0 O0 a w hs fp,Good X w0 O0 n S a w hs fp->∀Q:Exit->Act->World->Prop,(∀S' a' w' hs' al,Good X w0 O0 n S' a' w' hs' al->K S'->Q .normal a' w')->wpOps P ops Q l a w
section
variable {P:Program} {n:Nat} {S:St}
def Sem.mono{c:Code}{Q Q':Exit->St->Prop}(h:Sem P n c Q S)(hq:∀e S',Q e S'->Q' e S'):Sem P n c Q' S:=
 fun X w0 O0 a w hs fp g ro hr hk=>wpIn_mono (h X w0 O0 a w hs fp g ro hr hk) fun e a' w' ⟨⟨S',hs',al,g',q⟩,bV⟩=>⟨⟨S',hs',al,g',hq e S' q⟩,bV⟩
def dx.nil{K:St->Prop}(h:K S):dx P n ops [] S K:=fun X w0 O0 a w hs fp g Q hQ=>hQ S a w hs fp g h
def dx.cons{i:Nat}{l:LN}{K:St->Prop}(ho:ops[i]? =some o)(hg:o.guard=none)(h:aQ P n o S fun S'=>dx P n ops l S' K):dx P n ops (i::l) S K:=by
 intro X w0 O0 a w hs fp g Q hQ;simp only[wpOps,ho];have hw:Region.wanted o (yielded ops a.tmps)=true:=by simp[Region.wanted,hg]
 rw[if_pos hw];left;exact Go.Oper.wp_mono (fun a' w' ⟨S',hs',al,g',k⟩=>k X w0 O0 a' w' hs' al g' Q hQ) (h X w0 O0 a w hs fp g Q)
abbrev nl:A:=.t (.v Go.undef)
def Good.Dg{X:NP}{O0:Fr}{hs:NV}{fp:NL}(g:Good X w0 O0 n S a w hs fp)(d:Option Nat)(hd:∀k,d=some k->k<n):
  Good X w0 O0 n (S.put d nl) (a.put d Go.undef) w hs fp:=by
 cases d with
 |none=>exact g
 |some d=>exact g.put (hd d rfl) (.t (.v _))
def MW{tmps:Array Value}{s:Nat}{b:Bool}(hj:ops[j]? =some o)(hd:o.dst=some s)(ht:tmps[s]? =some (.bool b)):yielded ops tmps j=some b:=by
 simp[yielded,hj,hd,ht]
def dx.guard{ops:Array Oper}{i j s:Nat}{want b:Bool}{l:LN}{o oj:Oper}{K:St->Prop}(ho:ops[i]? =some o)(hg:o.guard=some (j,want))(hj:ops[j]? =some oj)(hs:oj.dst=some s)
  (hb:S.env s= .t (.v (.bool b))) (hd:∀k,o.dst=some k->k<n)
  (h:b=want->aQ P n o S fun S'=>dx P n ops l S' K) (h':b≠want->dx P n ops l (S.put o.dst nl) K):dx P n ops (i::l) S K:=by
 intro X w0 O0 a w hs' fp g Q hQ;simp only[wpOps,ho];have hval:=g.env s;rw[hb]at hval;have hval:=hval.dP;have ht:a.tmps[s]? =some (.bool b):=by
  rw[qC]at hval;cases hx:a.tmps[s]? with
  |none=>rw[hx]at hval;simp[undef]at hval
  |some v=>rw[hx]at hval;simpa using hval
 have hy:=MW hj hs ht;by_cases jd:b=want
 ·have hw:Region.wanted o (yielded ops a.tmps)=true:=by simp[Region.wanted,hg,hy,jd]
  rw[if_pos hw];left;exact Go.Oper.wp_mono (fun a' w' ⟨S',hs',al,g',k⟩=>k X w0 O0 a' w' hs' al g' Q hQ) (h jd X w0 O0 a w hs' fp g Q)
 ·have hw:¬Region.wanted o (yielded ops a.tmps)=true:=by simp[Region.wanted,hg,hy,jd]
  rw[if_neg hw];exact h' jd X w0 O0 _ w hs' fp (g.Dg o.dst hd) Q hQ
def MX{tmps:Array Value}{s:Nat}{xs:Array Value}(hj:ops[j]? =some o)(hd:o.dst=some s)(ht:tmps.getD s undef= .tuple xs):yielded ops tmps j=none:=by
 rw[qC]at ht;cases hx:tmps[s]? with
 |none=>simp[yielded,hj,hd,hx]
 |some v=>
  rw[hx]at ht;simp only[Option.getD_some]at ht;simp[yielded,hj,hd,hx,ht]
def dx.MY{i s:Nat}{want:Bool}{l:LN}{oj:Oper}{K:St->Prop}{xs:Array Value}(ho:ops[i]? =some o)(hg:o.guard=some (j,want))(hj:ops[j]? =some oj)(hs:oj.dst=some s)(hb:S.env s= .t (.v (.tuple xs)))(hd:∀k,o.dst=some k->k<n)(h':dx P n ops l (S.put o.dst nl) K):dx P n ops (i::l) S K:=by
 intro X w0 O0 a w hs' fp g Q hQ;simp only[wpOps,ho];have hval:=g.env s;rw[hb]at hval;have hy:=MX hj hs hval.dP;have hw:¬Region.wanted o (yielded ops a.tmps)=true:=by simp[Region.wanted,hg,hy]
 rw[if_neg hw];exact h' X w0 O0 _ w hs' fp (g.Dg o.dst hd) Q hQ
def Wn(P:Program)(n:Nat)(y:Code)(Q:Exit->St->Prop):Exit->St->Prop
 | .normal,S=>Sem P n y Q S
 |e,S=>Q e S
def uy(id:Nat)(Q:Exit->St->Prop):Exit->St->Prop
 | .exit id',S=>if id'=id then Q .normal S else Q (.exit id') S
 |e,S=>Q e S
def Sem.skip{Q:Exit->St->Prop}(h:Q .normal S):Sem P n .skip Q S:=fun X w0 O0 a w hs fp g ro hr _=>wpIn_skip ⟨⟨S,hs,fp,g,h⟩,.refl _ _⟩
def Sem.ret{Q:Exit->St->Prop}(h:Q .ret S):Sem P n .ret Q S:=fun X w0 O0 a w hs fp g ro hr _=>wpIn_ret ⟨⟨S,hs,fp,g,h⟩,.refl _ _⟩
def Sem.exit{Q:Exit->St->Prop}{id:Nat}(h:Q (.exit id) S):Sem P n (.exit id) Q S:=fun X w0 O0 a w hs fp g ro hr _=>wpIn_exit ⟨⟨S,hs,fp,g,h⟩,.refl _ _⟩
def Sem.seq{x y:Code}{Q:Exit->St->Prop}(h:Sem P n x (Wn P n y Q) S):Sem P n (.seq x y) Q S:=fun X w0 O0 a w hs fp g ro hr hk=>
 wpIn_seq (wpIn_mono (h X w0 O0 a w hs fp g ro hr (fun e=>hk (by simp[jq,e]))) fun e a' w' ⟨⟨S',hs',al,g',q⟩,bV⟩=>by
  have bV:=bV.mono (l':=jp (.seq x y)) fun s h=>List.mem_append_left _ h;cases e with
  |normal=>exact wpIn_mono (q X w0 O0 a' w' hs' al g' ro hr (fun e=>hk (by simp[jq,e]))) fun e a2 w2 h=>⟨h.1,bV.trans (h.2.mono fun s h=>List.mem_append_right _ h)⟩
  |_=>exact⟨⟨S',hs',al,g',q⟩,bV⟩)
def Sem.block{id:Nat}{c:Code}{Q:Exit->St->Prop}(h:Sem P n c (uy id Q) S):Sem P n (.block id c) Q S:=fun X w0 O0 a w hs fp g ro hr hk=>
 wpIn_block (wpIn_mono (h X w0 O0 a w hs fp g ro hr hk) fun e a' w' ⟨⟨S',hs',al,g',q⟩,bV⟩=>by
  cases e with
  |exit id'=>
   simp only[Exit.inBlock,uy]at q ⊢;split at q
   ·rename_i h;rw[if_pos h];exact⟨⟨S',hs',al,g',q⟩,bV⟩
   ·rename_i h;rw[if_neg h];exact⟨⟨S',hs',al,g',q⟩,bV⟩
  |_=>exact⟨⟨S',hs',al,g',q⟩,bV⟩)
def Sem.cond{c:Operand}{x y:Code}{Q:Exit->St->Prop}{b:Bool}(hc:S.ev c= .t (.v (.bool b)))(h1:b=true->Sem P n x Q S)(h2:b=false->Sem P n y Q S):Sem P n (.cond c x y) Q S:=
 fun X w0 O0 a w hs fp g ro hr hk=>by
  have hv:=g.ev c;rw[hc]at hv;have hv:=hv.dP;refine wpIn_cond (t:=b) hv ?_;cases b
  ·exact wpIn_mono (h2 rfl X w0 O0 a w hs fp g ro hr (fun e=>hk (by simp[jq,e]))) fun e a' w' h=>⟨h.1,h.2.mono fun s h=>List.mem_append_right _ h⟩
  ·exact wpIn_mono (h1 rfl X w0 O0 a w hs fp g ro hr (fun e=>hk (by simp[jq,e]))) fun e a' w' h=>⟨h.1,h.2.mono fun s h=>List.mem_append_left _ h⟩
def Sem.region{id:Nat}{ops:Array Oper}{Q:Exit->St->Prop}(aK:∀o∈ops.toList,∀c,o.op≠ .defer c)(h:dx P n ops (List.range ops.size) S (Q .normal)):Sem P n (.region id ops false) Q S:=
 fun X w0 O0 a w hs fp g ro hr _=>by
  refine wpIn_mono (wpIn_region (Ag aK ?_ _ a w (Ai _ a w (h X w0 O0 a w hs fp g (fun e a' w'=>e= .normal/\∃S' hs' al,Good X w0 O0 n S' a' w' hs' al/\Q .normal S') fun S' a' w' hs' al g' k=>⟨rfl,S',hs',al,g',k⟩) (.refl _ _)))) ?_
  ·rintro⟨_,_,⟨h,_⟩,_⟩;cases h
  ·rintro e a' w' ⟨⟨rfl,h⟩,bV⟩;exact⟨h,bV rfl⟩
def aj(n:Nat)(S S':St):Prop:=∀X w0 O0 a w hs fp,Good X w0 O0 n S a w hs fp->∃hs' al,Good X w0 O0 n S' a w hs' al
def Sem.weaken{S':St}{c:Code}{Q:Exit->St->Prop}(hw:aj n S S')(h:Sem P n c Q S'):Sem P n c Q S:=fun X w0 O0 a w hs fp g ro hr hk=>by
 obtain⟨hs',al,g'⟩:=hw X w0 O0 a w hs fp g;exact h X w0 O0 a w hs' al g' ro hr hk
def Aj{σ:Type}(n:Nat)(mk:σ->St)(Inv:σ->Prop)(μ:σ->Nat)(m:Nat)(Q:Exit->St->Prop):Exit->St->Prop
 | .normal,S=>∃s',aj n S (mk s')/\Inv s'/\μ s'<m
 |e,S=>Q e S
def Sem.loop{σ:Type}{c:Code}{Q:Exit->St->Prop}(mk:σ->St)(Inv:σ->Prop)(μ:σ->Nat)(s0:σ)(h0:aj n S (mk s0))(hi:Inv s0)
  (round:∀s,Inv s->Sem P n c (Aj n mk Inv μ (μ s) Q) (mk s)):Sem P n (.loop c) Q S:=by
 refine Sem.weaken h0 ?_;intro X w0 O0 a w hs fp g ro hro hk b k cs fk cD iq;have key:∀m s a w hs fp,μ s=m->Inv s->Good X w0 O0 n (mk s) a w hs fp→
   ∃e a' w',((∃S' hs' al,Good X w0 O0 n S' a' w' hs' al/\Q e S')/\ib (jp c) a a')/\ArrivesIn (Machine.fenced P (rF ro)) P (lone (b.atR a (.code c:: .inLoop c::k)) cs w) b k cs e a' w':=by
  intro m;induction m using Nat.strongRecOn with
  |_ m ih=>
   intro s a w hs fp hm hi g;obtain⟨e,a₁,w₁,⟨⟨S1,hs1,aO,g1,q⟩,bV⟩,gX⟩:=round s hi X w0 O0 a w hs fp g ro hro hk b (.inLoop c::k) cs fk cD iq;cases e with
   |normal=>
    obtain⟨s',hg,hi',hlt⟩:=q;obtain⟨aW,bl,g2⟩:=hg X w0 O0 a₁ w₁ hs1 aO g1;obtain⟨e₂,a₂,w₂,Dh,Ak⟩:=ih (μ s') (hm▸hlt) s' a₁ w₁ aW bl rfl hi' g2;exact⟨e₂,a₂,w₂,⟨Dh.1,bV.trans Dh.2⟩,.of_steps (StepsIn.trans gX (.one (fenced_calm cD iq rfl) stepR_inLoop)) Ak⟩
   |exit id=>exact⟨_,a₁,w₁,⟨⟨S1,hs1,aO,g1,q⟩,bV⟩,.pass (x:=.inLoop c) rfl (fun _ _=>.inl sA) gX⟩
   |goto l=>exact⟨_,a₁,w₁,⟨⟨S1,hs1,aO,g1,q⟩,bV⟩,.pass (x:=.inLoop c) rfl (fun _ _=>.inl sA) gX⟩
   |ret=>exact⟨_,a₁,w₁,⟨⟨S1,hs1,aO,g1,q⟩,bV⟩,.pass (x:=.inLoop c) rfl (fun _ _=>.inl sA) gX⟩
   |panic ch=>exact⟨_,a₁,w₁,⟨⟨S1,hs1,aO,g1,q⟩,bV⟩,.pass (x:=.inLoop c) rfl (fun _ _=>.inl sA) gX⟩
   |outgrown=>exact⟨_,a₁,w₁,⟨⟨S1,hs1,aO,g1,q⟩,bV⟩,.pass (x:=.inLoop c) rfl (fun _ _=>.inl sA) gX⟩
 obtain⟨e,a',w',hq,gX⟩:=key _ s0 a w hs fp rfl hi g;exact⟨e,a',w',hq,.of_steps (.one (fenced_calm cD iq rfl) stepR_loop) gX⟩
end
def je:List (Nat×A)->Nat->A
 |[]=>fun _=>.t .any
 |(i,a)::l=>ak (je l) i a
def eL:List (Nat×T)->Nat->aE
 |[]=>fun _=>.free
 |(j,t)::l=>ak (eL l) j (.live t [])
def St.of(e:List (Nat×A))(r:List (Nat×T)):St:=⟨je e,eL r⟩
inductive Le:T->T->Prop
 |refl (t:T):Le t t
 |any (t:T):Le t .any
 |Al (s:Nat):Le (.v (.slice none 0 0)) (.sh s [])
 |iH (s:Nat):Le (.v (.slice none 0 0)) (.arr s [])
 |arr (s:Nat) {l l':List T} (h:l.length=l'.length) (hr:∀i (h:i<l.length) (h':i<l'.length),Le l[i] l'[i]):Le (.arr s l) (.arr s l')
 |box {l l':List T} (h:l.length=l'.length) (hr:∀i (h:i<l.length) (h':i<l'.length),Le l[i] l'[i]):Le (.box l) (.box l')
 |agg {l l':List T} (h:l.length=l'.length) (hr:∀i (h:i<l.length) (h':i<l'.length),Le l[i] l'[i]):Le (.agg l) (.agg l')
 |aI {l l':List T} (h:l.length=l'.length) (hr:∀i (h:i<l.length) (h':i<l'.length),Le l[i] l'[i]):Le (.aI l) (.aI l')
def Di{l:List T}{vs:LV}(hr:∀i (h:i<l.length),Rd w O l[i] (vs.getD i undef)):
  ∀i (h:i<l.length),Ow w O l[i] (vs.getD i undef) ((List.replicate l.length ([]:LN)).getD i []):=fun i h=>by
 rw[qA (l:=List.replicate _ _),rM,if_pos h];exact .rd (hr i h)
def wx{w:World}{O:NP}:∀{l l':List T} {vs:LV} {ar:LB},l.length=l'.length->ar.length=l.length→
  (∀i (h:i<l.length) (h':i<l'.length) {x:Value} {fp:LN},Ow w O l[i] x fp->∃al,Ow w O l'[i] x al/\al.Sublist fp)→
  (∀i (h:i<l.length),Ow w O l[i] (vs.getD i undef) (ar.getD i []))->∃fS:LB,fS.length=l'.length/\(∀i (h:i<l'.length),Ow w O l'[i] (vs.getD i undef) (fS.getD i []))/\fS.flatten.Sublist ar.flatten
 |[],[],vs,ar,_,_,_,_=>⟨[],rfl,fun i h=>absurd h sA,List.nil_sublist _⟩
 |[],_::_,_,_,h,_,_,_=>by simp at h
 |_::_,[],_,_,h,_,_,_=>by simp at h
 |_::_,_::_,_,[],_,h,_,_=>by simp at h
 |c::l,c'::l',vs,f::ar,hl,hf,ih,ho=>by
  obtain⟨f',h1,h2⟩:=ih 0 sA sA (ho 0 sA);obtain⟨fS,h3,h4,h5⟩:=wx (l:=l) (l':=l') (vs:=vs.tail) (ar:=ar) (sU hl) (by simpa using hf)
   (fun i h h' x fp hx=>by have:=ih (i+1) (sU h) (by simpa using h') (x:=x) (fp:=fp);simp only[List.getElem_cons_succ]at this;exact this hx)
   (fun i h=>by
    have:=ho (i+1) (sU h);simp only[List.getElem_cons_succ,List.getD_cons_succ]at this;have e:vs.getD (i+1) undef=vs.tail.getD i undef:=by cases vs<;>simp[qA]
    rwa[e]at this)
  refine⟨f'::fS,by simp[h3],fun i h=>?_,?_⟩
  ·cases i with
   |zero=>simpa only[List.getElem_cons_zero,List.getD_cons_zero]using h1
   |succ i=>
    have:=h4 i (sU h);have e:vs.getD (i+1) undef=vs.tail.getD i undef:=by cases vs<;>simp[qA]
    rw[e];simpa only[List.getElem_cons_succ,List.getD_cons_succ]using this
  ·rw[qZ,qZ];exact List.Sublist.append (by simpa only[List.getD_cons_zero]using h2) h5
def Le.ow{t t':T}(h:Le t t'):∀{x:Value} {fp:LN},Ow w O t x fp->∃al,Ow w O t' x al/\al.Sublist fp:=by
 induction h with
 |refl t=>exact fun h=>⟨_,h,List.Sublist.refl _⟩
 |any t=>exact fun h=>⟨[],.rd (.any _),List.nil_sublist _⟩
 |Al s=>
  intro x fp h;cases h with|rd h=>cases h;exact⟨[],.rd (.nZ s),List.nil_sublist _⟩
 |iH s=>
  intro x fp h;cases h with|rd h=>cases h;exact⟨[],.jn s,List.nil_sublist _⟩
 |arr s hl hr ih=>
  intro x fp h;cases h with
  |rd h=>cases h
  |jn=>
   rename_i l';have:l'=[]:=rX (sU hl.symm);subst this;exact⟨[],.jn s,List.nil_sublist _⟩
  |arr _ _ b len cap cs e ar hb hlen hc hm hsz hf ho=>
   obtain⟨fS,h1,h2,h3⟩:=wx (vs:=cs.toList) hl hf (fun i h h' x fp=>ih i h h') (fun i h=>by simpa[qC,qA]using ho i h);exact⟨b::fS.flatten,.arr s _ b len cap cs e fS hb om hc hm hsz om (fun i h=>by simpa[qC,qA]using h2 i h),h3.cons_cons b⟩
 |box hl hr ih=>
  intro x fp h;cases h with
  |rd h=>cases h
  |box _ b cs e ar hb hlen hf ho=>
   obtain⟨fS,h1,h2,h3⟩:=wx (vs:=cs.toList) hl hf (fun i h h' x fp=>ih i h h') (fun i h=>by simpa[qC,qA]using ho i h);exact⟨b::fS.flatten,.box _ b cs e fS hb om om (fun i h=>by simpa[qC,qA]using h2 i h),h3.cons_cons b⟩
 |agg hl hr ih=>
  intro x fp h;cases h with
  |rd h=>
   cases h with
   |agg _ vs hlen hc=>
    obtain⟨fS,h1,h2,h3⟩:=wx (vs:=vs) hl sA (fun i h h' x fp=>ih i h h') (Di hc);exact⟨fS.flatten,.agg _ vs fS om h1 h2,sU h3⟩
  |agg _ vs ar hlen hf ho=>
   obtain⟨fS,h1,h2,h3⟩:=wx (vs:=vs) hl hf (fun i h h' x fp=>ih i h h') ho;exact⟨fS.flatten,.agg _ vs fS om h1 h2,h3⟩
 |aI hl hr ih=>
  intro x fp h;cases h with
  |rd h=>
   cases h with
   |aI _ vs hlen hc=>
    obtain⟨fS,h1,h2,h3⟩:=wx (vs:=vs) hl sA (fun i h h' x fp=>ih i h h') (Di hc);exact⟨fS.flatten,.aI _ vs fS om h1 h2,sU h3⟩
  |aI _ vs ar hlen hf ho=>
   obtain⟨fS,h1,h2,h3⟩:=wx (vs:=vs) hl hf (fun i h h' x fp=>ih i h h') ho;exact⟨fS.flatten,.aI _ vs fS om h1 h2,h3⟩
def yf(x y:T):Prop:=x=y∨((∃s,x= .sh s [])/\y= .v (.slice none 0 0))
mutual
def e_(π:Nat->Option (Option Nat)):A->A->Prop
 | .t x,a=>(match a with| .t y=>x= .any∨yf x y|_=>x= .any)
 | .own j,a=>(match a with| .own r=>π j=some (some r)| .t y=>π j=some none/\y= .v (.slice none 0 0)|_=>False)
 | .sub j o m,a=>(match a with| .sub r o' m'=>π j=some (some r)/\o=o'/\m=m'|_=>False)
 | .ptr j o,a=>(match a with| .ptr r o'=>π j=some (some r)/\o=o'|_=>False)
 | .agg l,a=>(match a with| .agg l'=>uz π l l'|_=>False)
 | .aI l,a=>(match a with| .aI l'=>uz π l l'|_=>False)
 | .fn f l,a=>(match a with| .fn f' l'=>f=f'/\uz π l l'|_=>False)
def uz(π:Nat->Option (Option Nat)):List A->List A->Prop
 |[],l=>l=[]
 |a::l,l'=>(match l' with|b::l'=>e_ π a b/\uz π l l'|[]=>False)
end
section
variable {w:World} {O O':NP} {hs hs':NV} {π:Nat->Option (Option Nat)}
def Hf{x y:T}{v:Value}(h:yf x y)(hr:Rd w O y v):Rd w O x v:=by
 rcases h with rfl|⟨⟨s,rfl⟩,rfl⟩
 ·exact hr
 ·cases hr;exact .nZ s
mutual
def Hg(hO:∀b,¬O b->b<w.heap.size->¬O' b)(hh:∀j r h,π j=some (some r)->hs r=some h->hs' j=some h)(hn:∀j,π j=some none->hs' j=some (.slice none 0 0)):
  ∀(a' a:A) {x:Value},e_ π a' a->Is w O hs a x->Is w O' hs' a' x
 | .t y,a,x,h,hx=>by
   cases a with
   |t y'=>
    simp only[e_]at h;rcases h with rfl|h
    ·exact .t (.any _)
    ·cases hx with|t hx=>exact .t ((Hf h hx).mono (fun _ _ _ _ _ h=>h) hO)
   |_=>simp only[e_]at h;subst h;exact .t (.any _)
 | .own j,a,x,h,hx=>by
   cases a with
   |own r=>simp only[e_]at h;cases hx with|own hr=>exact .own (hh _ _ _ h hr)
   |t y=>
    simp only[e_]at h;obtain⟨h1,rfl⟩:=h;cases hx with|t hx=>cases hx;exact .own (hn _ h1)
   |_=>simp only[e_]at h
 | .sub j o m,a,x,h,hx=>by
   cases a with
   |sub r o' m'=>
    simp only[e_]at h;obtain⟨h1,rfl,rfl⟩:=h;cases hx with
    |sub hr hc=>exact .sub (hh _ _ _ h1 hr) hc
    |my hr=>exact .my (hh _ _ _ h1 hr)
    |mz hr=>exact .mz (hh _ _ _ h1 hr)
   |_=>simp only[e_]at h
 | .ptr j o,a,x,h,hx=>by
   cases a with
   |ptr r o'=>
    simp only[e_]at h;obtain⟨h1,rfl⟩:=h;cases hx with
    |lJ hr=>exact .lJ (hh _ _ _ h1 hr)
    |kc hr=>exact .kc (hh _ _ _ h1 hr)
   |_=>simp only[e_]at h
 | .agg l,a,x,h,hx=>by
   cases a with
   |agg l'=>
    simp only[e_]at h;cases hx with|agg hl hr=>obtain⟨h1,h2⟩:=Dj hO hh hn l l' h hr;exact .agg om h2
   |_=>simp only[e_]at h
 | .aI l,a,x,h,hx=>by
   cases a with
   |aI l'=>
    simp only[e_]at h;cases hx with|aI hl hr=>obtain⟨h1,h2⟩:=Dj hO hh hn l l' h hr;exact .aI om h2
   |_=>simp only[e_]at h
 | .fn f l,a,x,h,hx=>by
   cases a with
   |fn f' l'=>
    simp only[e_]at h;obtain⟨rfl,h⟩:=h;cases hx with|fn hl hr=>obtain⟨h1,h2⟩:=Dj hO hh hn l l' h hr;exact .fn om h2
   |_=>simp only[e_]at h
def Dj(hO:∀b,¬O b->b<w.heap.size->¬O' b)(hh:∀j r h,π j=some (some r)->hs r=some h->hs' j=some h)(hn:∀j,π j=some none->hs' j=some (.slice none 0 0)):
  ∀(l l':List A) {vs:LV},uz π l l'->(∀i (h:i<l'.length),Is w O hs l'[i] (vs.getD i undef))->l.length=l'.length/\∀i (h:i<l.length),Is w O' hs' l[i] (vs.getD i undef)
 |[],l',vs,h,hx=>by simp only[uz]at h;subst h;exact⟨rfl,fun i h=>absurd h sA⟩
 |a::l,[],vs,h,hx=>by simp only[uz]at h
 |a::l,b::l',vs,h,hx=>by
  simp only[uz]at h;have h0:=Hg hO hh hn a b h.1 (by have:=hx 0 sA;simpa only[List.getElem_cons_zero]using this);have e:∀i,vs.getD (i+1) undef=vs.tail.getD i undef:=fun i=>by cases vs<;>simp[qA]
  obtain⟨h1,h2⟩:=Dj hO hh hn l l' (vs:=vs.tail) h.2 (fun i hi=>by
   have:=hx (i+1) (sU hi);rw[e]at this;simpa only[List.getElem_cons_succ]using this)
  refine⟨by simp[h1],fun i hi=>?_⟩;cases i with
  |zero=>simpa only[List.getElem_cons_zero]using h0
  |succ i=>rw[e];simpa only[List.getElem_cons_succ]using h2 i (sU hi)
end
end
def oc(S:St)(π:Nat->Option (Option Nat)):List (Nat×A)->Prop
 |[]=>True
 |(i,a)::e=>e_ π a (S.env i)/\oc S π e
def jf(S:St):List (Nat×T)->List (Option Nat)->Prop
 |[],[]=>True
 |(_,t)::r,some q::ss=>(∃t0,S.roots q= .live t0 []/\Le t0 t)/\t.b8=true/\jf S r ss
 |(_,t)::r,none::ss=>(∃s,t= .arr s [])/\jf S r ss
 |_,_=>False
def en(r:List (Nat×T))(ss:List (Option Nat))(j:Nat):Option (Option Nat):=((r.map (·.1)).zip ss).lookup j
def Hh{S:St}{π:Nat->Option (Option Nat)}:∀(e:List (Nat×A)),oc S π e->∀i,e_ π (je e i) (S.env i)
 |[],_,i=>by simp only[je];cases S.env i<;>simp[e_]
 |(k,a)::e,h,i=>by
  simp only[je,v_];split
  ·rename_i hk;subst hk;exact h.1
  ·exact Hh e h.2 i
def Dk{S:St}:∀(r:List (Nat×T)) (ss:List (Option Nat)),jf S r ss->∀j,
  (eL r j= .free/\en r ss j=none)∨(∃t,eL r j= .live t []/\t.b8=true/\((∃q t0,en r ss j=some (some q)/\S.roots q= .live t0 []/\Le t0 t)∨(en r ss j=some none/\∃s,t= .arr s [])))
 |[],[],_,j=>.inl ⟨rfl,rfl⟩
 |[],_::_,h,j=>by simp[jf]at h
 |_::_,[],h,j=>by simp[jf]at h
 |(k,t)::r,some q::ss,h,j=>by
  obtain⟨⟨t0,h1,h2⟩,h3,h4⟩:=h;by_cases hk:j=k
  ·subst hk;exact .inr ⟨t,by simp[eL,aT],h3,.inl ⟨q,t0,by simp[en],h1,h2⟩⟩
  ·have e:en ((k,t)::r) (some q::ss) j=en r ss j:=by
    have:(j==k)=false:=sU hk;simp[en,List.lookup_cons,this]
   have e2:eL ((k,t)::r) j=eL r j:=(by simp[eL,aU _ _ _ _ hk]);rw[e,e2];exact Dk r ss h4 j
 |(k,t)::r,none::ss,h,j=>by
  obtain⟨⟨s,rfl⟩,h4⟩:=h;by_cases hk:j=k
  ·subst hk;exact .inr ⟨.arr s [],by simp[eL,aT],rfl,.inr ⟨by simp[en],s,rfl⟩⟩
  ·have e:en ((k,.arr s [])::r) (none::ss) j=en r ss j:=by
    have:(j==k)=false:=sU hk;simp[en,List.lookup_cons,this]
   have e2:eL ((k,.arr s [])::r) j=eL r j:=(by simp[eL,aU _ _ _ _ hk]);rw[e,e2];exact Dk r ss h4 j
def Hi:∀{ps:List (Nat×Option Nat)} {j j' q:Nat},(ps.filterMap (·.2)).Nodup->ps.lookup j=some (some q)->ps.lookup j'=some (some q)->j=j'
 |[],j,j',q,_,h,_=>by simp at h
 |(k,s)::ps,j,j',q,hn,h,h'=>by
  have mem:∀{ps:List (Nat×Option Nat)} {j:Nat},ps.lookup j=some (some q)->q∈ps.filterMap (·.2):=by
   intro ps;induction ps with
   |nil=>intro j h;simp at h
   |cons p ps ih=>
    intro j h;obtain⟨k,s⟩:=p;rw[List.lookup_cons]at h;split at h
    ·cases h;simp
    ·have:=ih h;cases s with
     |none=>simpa using this
     |some s=>rw[List.filterMap_cons_some (by rfl)];exact rH _ this
  rw[List.lookup_cons]at h h';by_cases h1:j=k<;>by_cases h2:j'=k
  ·omega
  ·have e1:(j==k)=true:=sU h1;have e2:(j'==k)=false:=sU h2;simp only[e1,e2]at h h';cases h;rw[List.filterMap_cons_some (by rfl)]at hn;exact((qX.1 hn).1 (mem h')).elim
  ·have e1:(j==k)=false:=sU h1;have e2:(j'==k)=true:=sU h2;simp only[e1,e2]at h h';cases h';rw[List.filterMap_cons_some (by rfl)]at hn;exact((qX.1 hn).1 (mem h)).elim
  ·have e1:(j==k)=false:=sU h1;have e2:(j'==k)=false:=sU h2;simp only[e1,e2]at h h';refine Hi (ps:=ps) ?_ h h';cases s with
   |none=>simpa using hn
   |some s=>rw[List.filterMap_cons_some (by rfl)]at hn;exact(qX.1 hn).2
def aj.of{n:Nat}{S:St}(e:List (Nat×A))(r:List (Nat×T))(ss:List (Option Nat))(hd:(((r.map (·.1)).zip ss).filterMap (·.2)).Nodup)(hb:∀p∈(r.map (·.1)).zip ss,p.1<1000000000∨p.2=some p.1)(he:oc S (en r ss) e)(hr:jf S r ss):aj n S (St.of e r):=by
 intro X w0 O0 a w hs fp g;have spec:=Dk r ss hr;let hs':NV:=fun j=>match en r ss j with|some (some q)=>hs q|some none=>some (.slice none 0 0)|none=>none
 have hh:∀j q h,en r ss j=some (some q)->hs q=some h->hs' j=some h:=fun j q h h1 h2=>by simp only[hs',h1];exact h2
 have hn:∀j,en r ss j=some none->hs' j=some (.slice none 0 0):=fun j h=>by simp only[hs',h]
 have inj:∀j j' q,en r ss j=some (some q)->en r ss j'=some (some q)->j=j':=fun j j' q h h'=>Hi hd h h';have ar:∀j,∃f:LN,((∃q t0 t,en r ss j=some (some q)/\eL r j= .live t []/\t.b8=true/\S.roots q= .live t0 []/\f.Sublist (fp q)/\∃x,hs' j=some x/\Ow w (Ob X fp) t x f)∨
   (f=[]/\en r ss j=some none/\∃s,eL r j= .live (.arr s []) [])∨(f=[]/\en r ss j=none/\eL r j= .free)):=by
  intro j;rcases spec j with⟨h1,h2⟩|⟨t,h1,bv,⟨q,t0,h2,h3,h4⟩|⟨h2,s,rfl⟩⟩
  ·exact⟨[],.inr (.inr ⟨rfl,h2,h1⟩)⟩
  ·have dj:=g.root q;rw[h3]at dj;obtain⟨x,hx,ho,_⟩:=dj;obtain⟨f,ho',hsub⟩:=h4.ow ho;exact⟨f,.inl ⟨q,t0,t,h2,h1,bv,h3,hsub,x,hh _ _ _ h2 hx,ho'⟩⟩
  ·exact⟨[],.inr (.inl ⟨rfl,h2,s,h1⟩)⟩
 let al:NL:=fun j=>(ar j).choose
 have bw:∀j,_:=fun j=>(ar j).choose_spec;have sub:∀j b,b∈al j->∃q,en r ss j=some (some q)/\b∈fp q:=by
  intro j b hb;rcases bw j with⟨q,t0,t,h1,_,_,_,h2,_⟩|⟨h,_⟩|⟨h,_⟩
  ·exact⟨q,h1,h2.subset hb⟩
  ·have hb':b∈(ar j).choose:=hb;rw[h]at hb';simp at hb'
  ·have hb':b∈(ar j).choose:=hb;rw[h]at hb';simp at hb'
 have hO:∀b,¬Ob X fp b->b<w.heap.size->¬Ob X al b:=by
  rintro b h1 _ (h|⟨j,hj⟩)
  ·exact h1 (.inl h)
  ·obtain⟨q,_,hq⟩:=sub j b hj;exact h1 (.inr ⟨q,hq⟩)
 refine⟨hs',al,g.size,g.defers,fun i=>Hg hO hh hn _ _ (Hh e he i) (g.env i),fun j=>?_,fun j j' b h h'=>?_,fun j=>?_,fun j b h=>?_,g.de,g.fA,fun j b h=>?_,g.aZ,fun j t lk h=>?_,fun j h hj=>?_,g.small,fun j h hj0 hj=>?_⟩
 ·show iG w _ hs' (eL r j) (hs' j) (al j);rcases bw j with⟨q,t0,t,h1,h2,bv,h3,h4,x,hx,ho⟩|⟨h1,h2,s,h3⟩|⟨h1,h2,h3⟩
  ·rw[h2];exact⟨x,hx,ho.mono (fun _ _ _ _ _ h=>h) hO (fun _ _ _ _ _ h=>h),fun p hp=>by simp at hp⟩
  ·rw[h3,show al j=[] from h1];exact⟨_,hn j h2,.jn s,fun p hp=>by simp at hp⟩
  ·rw[h3];exact⟨by simp only[hs',h2],h1⟩
 ·obtain⟨q,h1,h2⟩:=sub j b h;obtain⟨q',cC,bi⟩:=sub j' b h';have:=g.cj q q' b h2 bi;subst this;exact inj j j' q h1 cC
 ·rcases bw j with⟨q,t0,t,_,_,_,_,h4,_⟩|⟨h1,_⟩|⟨h1,_⟩
  ·exact h4.nodup (g.nodup q)
  ·rw[show al j=[] from h1];simp
  ·rw[show al j=[] from h1];simp
 ·obtain⟨q,_,hq⟩:=sub j b h;exact g.cV q b hq
 ·obtain⟨q,_,hq⟩:=sub j b h;exact g.mine q b hq
 ·have h:eL r j= .live t lk:=h;rcases spec j with⟨h1,_⟩|⟨t',h1,bv,_⟩<;>rw[h1]at h
  ·cases h
  ·cases h;exact bv
 ·simp only[hs']at hj;split at hj
  ·exact g.aV _ _ hj
  ·cases hj;rfl
  ·cases hj
 ·have mem:∀{ps:List (Nat×Option Nat)} {j:Nat} {s:Option Nat},ps.lookup j=some s->(j,s)∈ps:=by
   intro ps;induction ps with
   |nil=>intro j s h;simp at h
   |cons p ps ih=>
    intro j s h;obtain⟨k,s'⟩:=p;rw[List.lookup_cons]at h;split at h
    ·rename_i he;cases h;have:j=k:=sU he;subst this;simp
    ·exact rH _ (ih h)
  simp only[hs']at hj;split at hj
  ·rename_i q hq;rcases hb _ (mem hq)with h1|h1
   ·simp only at h1;omega
   ·simp only[Option.some.injEq]at h1;subst h1;exact g.ax _ _ hj0 hj
  ·rename_i hq;rcases hb _ (mem hq)with h1|h1
   ·simp only at h1;omega
   ·cases h1
  ·cases hj
end Go.Ab
