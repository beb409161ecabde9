/- The abstract layer, part 25: compact code as a whole. -/
import Derived.Test.YtbilpaghpgomeaaAb26
set_option linter.unusedSimpArgs false
set_option linter.unusedVariables false
namespace Go.Ab

inductive CC where
  | skip
  | reg (l : List CI)
  | draw (l : List (DK × CI))
  | seq (a b : CC)
  | cond (x : Operand) (a b : CC)
  | block (id : Nat) (c : CC)
  | loop (c : CC)
  | exit (id : Nat)
  | ret

def CI.co : CI → CO
  | .o c => c
  | .g _ _ _ c => c
/-- Does the item change roots? -/
def heavyAt (P : Program) (o : Oper) (c : CI) : Bool :=
  match c.co with
  | .store .. | .alloc .. | .box .. | .bslice .. | .make .. | .app .. => true
  | .call d _ _ => d.isNone || !((tyInt P o.type).isSome || tyBool P o.type || tyAgg P o.type == some true)
  | _ => false
def ancGo (acc : List (List Nat)) : List (List Nat) → List (List Nat)
  | [] => acc
  | a :: rest => ancGo (acc ++ [a ++ (a.map fun j => acc.getD j []).flatten]) rest
def kindsOf (m : Nat) (hv : List Bool) (anc : List (List Nat)) : List DK :=
  (List.range m).map fun i => if hv.getD i false then .h else if (List.range m).any (fun j => hv.getD j false && !((anc.getD i []).contains j || (anc.getD j []).contains i)) then .e else .r
def drawOf (P : Program) (ops : Array Oper) (l : List CI) : List (DK × CI) :=
  (kindsOf l.length ((ops.toList.zip l).map fun p => heavyAt P p.1 p.2) (ancGo [] (afOf ops))).zip l

def trDraw (P : Program) (n : Nat) (ops : Array Oper) : Option (List (DK × CI)) :=
  match trR P n ops ops.toList with
  | some l => if P.follows .mixedOrders = true ∧ drawOK (drawOf P ops l) (afOf ops) (ancGo [] (afOf ops)) = true then some (drawOf P ops l) else none
  | none => none

def trC (P : Program) (n : Nat) : Code → Option CC
  | .skip => some .skip
  | .region _ ops false => (match trR P n ops ops.toList with | some l => some (.reg l) | none => none)
  | .region _ ops true => (match trDraw P n ops with | some l => some (.draw l) | none => none)
  | .seq a b => (match trC P n a, trC P n b with | some a, some b => some (.seq a b) | _, _ => none)
  | .cond x a b => (match trC P n a, trC P n b with | some a, some b => some (.cond x a b) | _, _ => none)
  | .block id c => (match trC P n c with | some c => some (.block id c) | none => none)
  | .loop c => (match trC P n c with | some c => some (.loop c) | none => none)
  | .exit id => some (.exit id)
  | .ret => some .ret
  | _ => none

def thenC (K : St → Prop) (Q : Exit → St → Prop) : Exit → St → Prop
  | .normal, S => K S
  | e, S => Q e S

/-- All that is to be shown of code that reads as c. -/
def SemC (P : Program) (n : Nat) (c : CC) (Q : Exit → St → Prop) (S : St) : Prop := ∀ code, trC P n code = some c → Sem P n code Q S

def cW (P : Program) (n : Nat) : CC → (Exit → St → Prop) → St → Prop
  | .skip, Q, S => Q .normal S
  | .reg l, Q, S => opsW P n l (Q .normal) S
  | .draw l, Q, S => drawW P n l (Q .normal) S
  | .seq a b, Q, S => cW P n a (thenC (cW P n b Q) Q) S
  | .cond x a b, Q, S => condC (S.ev x) (cW P n a Q) (cW P n b Q) S
  | .block id c, Q, S => cW P n c (blockQ id Q) S
  | .loop c, Q, S => SemC P n (.loop c) Q S
  | .exit id, Q, S => Q (.exit id) S
  | .ret, Q, S => Q .ret S

section
variable {P : Program} {n : Nat} {S : St}

theorem trR_spec {ops : Array Oper} : ∀ {os : List Oper} {l : List CI}, trR P n ops os = some l → l.length = os.length ∧ ∀ i (h : i < os.length) (h' : i < l.length), trI P n ops os[i] = some l[i]
  | [], l, h => by simp only [trR, Option.some.injEq] at h; subst h; exact ⟨rfl, fun i h => absurd h (by simp)⟩
  | o :: os, l, h => by
    simp only [trR] at h
    split at h
    · rename_i c cl hc hcl
      cases h
      obtain ⟨h1, h2⟩ := trR_spec hcl
      refine ⟨by simp [h1], fun i h h' => ?_⟩
      cases i with
      | zero => exact hc
      | succ i => exact h2 i (by simpa using h) (by simpa using h')
    · cases h

theorem cW_sound : ∀ (c : CC) (Q : Exit → St → Prop) (S : St), cW P n c Q S → SemC P n c Q S := by
  intro c
  induction c with
  | skip =>
    intro Q S h code hc
    unfold trC at hc
    split at hc <;> (try split at hc) <;> (try cases hc)
    exact Sem.skip h
  | reg l =>
    intro Q S h code hc
    unfold trC at hc
    split at hc <;> (try split at hc) <;> (try cases hc)
    rename_i ops l' hl
    refine Sem.region ?_
    have := ops_sound (K := Q .normal) ops.toList 0 _ S rfl hl h
    rw [show List.range ops.size = List.range' 0 ops.toList.length by rw [List.range_eq_range']; simp]
    exact this
  | draw l =>
    intro Q S h code hc
    unfold trC at hc
    split at hc <;> (try split at hc) <;> (try cases hc)
    rename_i ops l0 hdr
    unfold trDraw at hdr
    split at hdr <;> (try split at hdr) <;> (try cases hdr)
    · rename_i l' hl hcond
      obtain ⟨h1, h2⟩ := trR_spec hl
      have hlen : (drawOf P ops l').length = l'.length := by simp [drawOf, kindsOf]
      refine Sem.draw hcond.1 hcond.2 (by rw [hlen, h1]; simp) (fun i hi => ?_) h
      have hi' : i < ops.toList.length := by rw [← h1, ← hlen]; exact hi
      refine ⟨ops.toList[i], by rw [← Array.getElem?_toList]; exact List.getElem?_eq_getElem hi', ?_⟩
      rw [h2 i hi' (by omega)]
      simp [drawOf]
  | seq a b iha ihb =>
    intro Q S h code hc
    unfold trC at hc
    split at hc <;> (try split at hc) <;> (try cases hc)
    rename_i x y hx hy
    refine Sem.seq ((iha _ S h _ hx).mono fun e S' q => ?_)
    cases e with
    | normal => exact ihb Q S' q _ hy
    | _ => exact q
  | cond x a b iha ihb =>
    intro Q S h code hc
    unfold trC at hc
    split at hc <;> (try split at hc) <;> (try cases hc)
    rename_i hx hy
    simp only [cW] at h
    unfold condC at h
    split at h
    · rename_i b' hb
      exact Sem.cond hb (fun e => iha Q S (h.1 e) _ hx) (fun e => ihb Q S (h.2 e) _ hy)
    · exact h.elim
  | block id c ih =>
    intro Q S h code hc
    unfold trC at hc
    split at hc <;> (try split at hc) <;> (try cases hc)
    rename_i x hx
    exact Sem.block (ih _ S h _ hx)
  | loop c ih => intro Q S h; exact h
  | exit id =>
    intro Q S h code hc
    unfold trC at hc
    split at hc <;> (try split at hc) <;> (try cases hc)
    exact Sem.exit h
  | ret =>
    intro Q S h code hc
    unfold trC at hc
    split at hc <;> (try split at hc) <;> (try cases hc)
    exact Sem.ret h

/-- A loop of compact code. -/
theorem SemC.loop {σ : Type} {c : CC} {Q : Exit → St → Prop} (mk : σ → St) (Inv : σ → Prop) (μ : σ → Nat) (s0 : σ) (h0 : Weak n S (mk s0)) (hi : Inv s0)
    (round : ∀ s, Inv s → cW P n c (loopQ n mk Inv μ (μ s) Q) (mk s)) : SemC P n (.loop c) Q S := by
  intro code hc
  unfold trC at hc
  split at hc <;> (try split at hc) <;> (try cases hc)
  rename_i x hx
  exact Sem.loop mk Inv μ s0 h0 hi fun s hs => cW_sound _ _ _ (round s hs) _ hx

/-- At the end: the results, as they are. -/
def retP (P : Program) (rvs : List ResultVar) (k : Nat) (Q : List T → T → Prop) : Exit → St → Prop
  | .normal, S => retL P S rvs fun ts S' => routW S' k 1000000000 fun rout => Q rout (packT ts)
  | .ret, S => retL P S rvs fun ts S' => routW S' k 1000000000 fun rout => Q rout (packT ts)
  | _, _ => False
theorem routW_mono : ∀ (k i : Nat) {S : St} {K K' : List T → Prop}, (∀ l, K l → K' l) → routW S k i K → routW S k i K'
  | 0, i, S, K, K', h, hh => h _ hh
  | k + 1, i, S, K, K', h, hh => by
    simp only [routW] at hh ⊢
    split at hh
    · exact routW_mono k (i + 1) (fun l hl => h _ hl) hh
    · exact hh.elim
mutual
theorem giveT_mono : ∀ (a : A) {S : St} {K K' : T → St → Prop}, (∀ t S', K t S' → K' t S') → giveT S a K → giveT S a K'
  | .t c, S, K, K', h, hh => by unfold giveT at hh ⊢; exact h _ _ hh
  | .own q, S, K, K', h, hh => by
    unfold giveT at hh ⊢
    split at hh
    · exact h _ _ hh
    · exact hh.elim
  | .agg l, S, K, K', h, hh => by unfold giveT at hh ⊢; exact giveTL_mono l (fun t S' => h _ S') hh
  | .tup l, S, K, K', h, hh => by unfold giveT at hh ⊢; exact giveTL_mono l (fun t S' => h _ S') hh
  | .sub _ _ _, S, K, K', h, hh => by unfold giveT at hh; exact hh.elim
  | .ptr _ _, S, K, K', h, hh => by unfold giveT at hh; exact hh.elim
  | .fn _ _, S, K, K', h, hh => by unfold giveT at hh; exact hh.elim
theorem giveTL_mono : ∀ (l : List A) {S : St} {K K' : List T → St → Prop}, (∀ t S', K t S' → K' t S') → giveTL S l K → giveTL S l K'
  | [], S, K, K', h, hh => by unfold giveTL at hh ⊢; exact h _ _ hh
  | a :: l, S, K, K', h, hh => by
    unfold giveTL at hh ⊢
    exact giveT_mono a (fun t S' h1 => giveTL_mono l (fun ts S'' h2 => h _ _ h2) h1) hh
end
theorem retOne_mono {rv : ResultVar} {K K' : T → St → Prop} (h : ∀ t S', K t S' → K' t S') (hh : retOne P S rv K) : retOne P S rv K' := by
  unfold retOne at hh ⊢
  cases rv with
  | tmp t => exact giveT_mono _ h hh
  | cell t ty =>
    simp only at hh ⊢
    cases he : S.env t <;> simp only [he] at hh ⊢
    rename_i q
    generalize S.roots q = r at hh ⊢
    split at hh
    · split at hh
      · exact ⟨hh.1, h _ _ hh.2⟩
      · split at hh
        · exact h _ _ hh
        · exact hh.elim
      · exact hh.elim
    · exact hh.elim
theorem retL_mono : ∀ (l : List ResultVar) {S : St} {K K' : List T → St → Prop}, (∀ t S', K t S' → K' t S') → retL P S l K → retL P S l K'
  | [], S, K, K', h, hh => by unfold retL at hh ⊢; exact h _ _ hh
  | a :: l, S, K, K', h, hh => by
    unfold retL at hh ⊢
    exact retOne_mono (fun t S' h1 => retL_mono l (fun ts S'' h2 => h _ _ h2) h1) hh

def sl (n : Nat) : Operand := .tmp n
def ci (n : Int) : Operand := .const (.int .i64 n)
def cb (b : Bool) : Operand := .const (.bool b)
def cv (v : Value) : Operand := .const v
def cf (f : Nat) : Operand := .func f
theorem ev_sl (S : St) (n : Nat) : S.ev (sl n) = S.env n := rfl
theorem ev_ci (S : St) (n : Int) : S.ev (ci n) = .t (.v (.int .i64 n)) := rfl
theorem ev_cb (S : St) (b : Bool) : S.ev (cb b) = .t (.v (.bool b)) := rfl
theorem ev_cv (S : St) (v : Value) : S.ev (cv v) = .t (.v v) := rfl
theorem ev_cf (S : St) (f : Nat) : S.ev (cf f) = .fn f [] := rfl

theorem Fun.of {f : FuncId} {fn : Func} {code : Code} {c : CC} {rin : List T} {args : List A} {Q : List T → T → Prop} (hf : P.funcs[f]? = some fn) (hb : fn.body = some code) (hn : fn.ntmps = n) {rv : List ResultVar} (hrv : fn.results.toList = rv) (hc : trC P n code = some c) (ha : args.length ≤ n) (hsm : n ≤ 100000)
    (h : cW P n c (retP P rv rin.length Q) (St.of (enum 0 args) (enum 1000000000 rin))) : Fun P f rin args Q :=
  Fun.intro hf hb hn ha hsm ((cW_sound _ _ _ h _ hc).mono fun e S' q => by
    subst hrv
    have key : retP P fn.results.toList rin.length Q .ret S' → retQ P fn.results.toList rin.length Q .ret S' := fun q => by
      simp only [retP, retQ] at q ⊢
      exact retL_mono _ (fun ts S'' h1 => routW_mono _ _ (fun rout h2 => ⟨_, .refl _, h2⟩) h1) q
    cases e with
    | normal => exact key q
    | ret => exact key q
    | _ => exact q.elim)

/-- A call of a function with a contract. -/
theorem CallW.use {d : Option Nat} {fo : Operand} {as : List Operand} {K : St → Prop} {f : FuncId} {cap : List A} (hfo : fnA (S.ev fo) = some (f, cap)) (hcall : ∀ args w, (callFunc f args).run P w = .ok (.enter f args) w) {rin : List T} {args : List A} {Q : List T → T → Prop} (hF : Fun P f rin args Q)
    (srcs bor : List Nat) (hsn : srcs.Nodup) (hsrc : srcsOK S srcs rin) (hsb : ∀ q ∈ bor, q ∉ srcs) (hargs : vaL S srcs bor args (as.map S.ev ++ cap))
    (hk : ∀ rout res, Q rout res → (bor = [] ∨ (res.noSh ∧ T.noShL rout)) ∧ afterCall S d srcs rout res K) : CallW P n d fo as K S := by
  intro o ts ho hd hdn
  subst hd
  exact OpW.call ho hdn hfo hcall hF srcs bor hsn hsrc hsb (by simpa using hargs) hk

/-- A call that only computes a plain value. -/
theorem CallW.pure {d : Nat} {fo : Operand} {as : List Operand} {K : St → Prop} {f : FuncId} {cap : List A} {args : List T} {res : T} {x : A} (hF : Pure P f args res) (bor : List Nat) (hfo : fnA (S.ev fo) = some (f, cap)) (hcall : ∀ args w, (callFunc f args).run P w = .ok (.enter f args) w)
    (hargs : vaL S [] bor (args.map A.t) (as.map S.ev ++ cap)) (hns : res.noSh) (hx : absT d 0 res = (x, [], 0)) (hk : K { S with env := upd S.env d x }) : CallW P n (some d) fo as K S := by
  refine CallW.use hfo hcall hF [] bor (by simp) trivial (fun q _ => by simp) hargs fun rout res' h => ?_
  obtain ⟨rfl, rfl⟩ := h
  refine ⟨.inr ⟨hns, trivial⟩, ?_⟩
  simp only [afterCall, hx]
  exact ⟨trivial, by simp, hk⟩
/-- The same, with the continuation hidden. -/
theorem SemC.loopR {σ : Type} {c : CC} {Q : Exit → St → Prop} (mk : σ → St) (Inv : σ → Prop) (μ : σ → Nat) (s0 : σ) (h0 : Weak n S (mk s0)) (hi : Inv s0)
    (round : ∀ s, Inv s → ∀ R : Exit → St → Prop, (∀ S' s', Weak n S' (mk s') → Inv s' → μ s' < μ s → R .normal S') → (∀ S', Q .ret S' → R .ret S') → (∀ i S', Q (.exit i) S' → R (.exit i) S') → cW P n c R (mk s)) : SemC P n (.loop c) Q S :=
  SemC.loop mk Inv μ s0 h0 hi fun s hs => round s hs _ (fun S' s' h1 h2 h3 => ⟨s', h1, h2, h3⟩) (fun _ h => h) (fun _ _ h => h)

/-- A call in a draw, that only computes a plain value. -/
theorem CallV.pure {fo : Operand} {as : List Operand} {ρ : Operand → A} {R : Nat → Root} {K : A → Prop} {f : FuncId} {cap : List A} {args : List T} {res : T} {x : A} (hF : Pure P f args res) (bor : List Nat) (hfo : fnA (ρ fo) = some (f, cap)) (hcall : ∀ args w, (callFunc f args).run P w = .ok (.enter f args) w)
    (hargs : ∀ e R', (∀ r, R r = .dead ∨ R' r = R r) → vaL ⟨e, R'⟩ [] bor (args.map A.t) (as.map ρ ++ cap)) (hns : res.noSh) (hx : ∀ d, absT d 0 res = (x, [], 0)) (hk : K x) : CallV P n fo as ρ R K := by
  refine ⟨x, hk, fun d e R' Kc h1 h2 h3 => ?_⟩
  refine CallW.pure hF bor (by rw [h2 fo (by simp)]; exact hfo) hcall ?_ hns (hx d) h3
  have : as.map (St.ev ⟨e, R'⟩) = as.map ρ := List.map_congr_left fun y hy => h2 y (by simp [hy])
  rw [this]
  exact hargs e R' h1

theorem coH_store (P : Program) (n z : Nat) (x v : Operand) (K : St → Prop) (S : St) : coH P n (.store z x v) K S = coW P n (.store z x v) K S := rfl
theorem coH_alloc (P : Program) (n d : Nat) (zs : List T) (K : St → Prop) (S : St) : coH P n (.alloc d zs) K S = coW P n (.alloc d zs) K S := rfl
theorem coH_box (P : Program) (n d : Nat) (x : Operand) (K : St → Prop) (S : St) : coH P n (.box d x) K S = coW P n (.box d x) K S := rfl
theorem coH_bslice (P : Program) (n d z len : Nat) (ps : List (Nat × Operand)) (K : St → Prop) (S : St) : coH P n (.bslice d z len ps) K S = coW P n (.bslice d z len ps) K S := rfl
theorem coH_make (P : Program) (n d : Nat) (zs : List T) (eb : Nat) (l c : Operand) (K : St → Prop) (S : St) : coH P n (.make d zs eb l c) K S = coW P n (.make d zs eb l c) K S := rfl
theorem coH_app (P : Program) (n d z eb : Nat) (b x : Operand) (K : St → Prop) (S : St) : coH P n (.app d z eb b x) K S = coW P n (.app d z eb b x) K S := rfl
theorem coH_load1 (P : Program) (n d : Nat) (x : Operand) (K : St → Prop) (S : St) : coH P n (.load1 d x) K S = coW P n (.load1 d x) K S := rfl
theorem coH_call (P : Program) (n : Nat) (d : Option Nat) (f : Operand) (as : List Operand) (K : St → Prop) (S : St) : coH P n (.call d f as) K S = CallH P n d f as K S := rfl

theorem thenC_n (K : St → Prop) (Q : Exit → St → Prop) (S : St) : thenC K Q .normal S = K S := rfl
theorem thenC_r (K : St → Prop) (Q : Exit → St → Prop) (S : St) : thenC K Q .ret S = Q .ret S := rfl
theorem thenC_e (K : St → Prop) (Q : Exit → St → Prop) (S : St) (i : Nat) : thenC K Q (.exit i) S = Q (.exit i) S := rfl
theorem blockQ_n (i : Nat) (Q : Exit → St → Prop) (S : St) : blockQ i Q .normal S = Q .normal S := rfl
theorem blockQ_r (i : Nat) (Q : Exit → St → Prop) (S : St) : blockQ i Q .ret S = Q .ret S := rfl
theorem blockQ_e (i j : Nat) (Q : Exit → St → Prop) (S : St) : blockQ i Q (.exit j) S = if j = i then Q .normal S else Q (.exit j) S := rfl
theorem loopQ_n {σ : Type} (n : Nat) (mk : σ → St) (Inv : σ → Prop) (μ : σ → Nat) (m : Nat) (Q : Exit → St → Prop) (S : St) : loopQ n mk Inv μ m Q .normal S = ∃ s', Weak n S (mk s') ∧ Inv s' ∧ μ s' < m := rfl
theorem loopQ_r {σ : Type} (n : Nat) (mk : σ → St) (Inv : σ → Prop) (μ : σ → Nat) (m : Nat) (Q : Exit → St → Prop) (S : St) : loopQ n mk Inv μ m Q .ret S = Q .ret S := rfl
theorem loopQ_e {σ : Type} (n : Nat) (mk : σ → St) (Inv : σ → Prop) (μ : σ → Nat) (m : Nat) (Q : Exit → St → Prop) (S : St) (i : Nat) : loopQ n mk Inv μ m Q (.exit i) S = Q (.exit i) S := rfl
theorem storeK_apply (r off z : Nat) (K : St → Prop) (ts : List T) (S : St) : storeK r off z K ts S = match (S.roots r).cells with
  | some (l, lk) => 0 < z ∧ off + z ≤ l.length ∧ K { S with roots := upd S.roots r ((S.roots r).with (spl l off ts) (lk.filter fun p => p.1 < off || off + z ≤ p.1)) }
  | none => False := rfl
theorem appendK1_apply (x : A) (d z eb : Nat) (K : St → Prop) (olds : List T) (S : St) : appendK1 x d z eb K olds S = srcW S x z (appendK2 d z eb K olds) := rfl
theorem appendK2_apply (d z eb : Nat) (K : St → Prop) (olds news : List T) (S : St) : appendK2 d z eb K olds news S = ((olds.length + news.length) * eb ≤ z * 140737488355328 ∧ newK d (.arr z) K (olds ++ news) S) := rfl
end
end Go.Ab
