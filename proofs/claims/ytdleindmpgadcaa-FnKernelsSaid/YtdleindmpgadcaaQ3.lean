/- The abstract layer, part 36: iterators: how a body proves what it owes. -/
import Derived.Test.YtdleindmpgadcaaQ2
set_option linter.unusedSimpArgs false
set_option linter.unusedVariables false
namespace Go.Ab
section
variable {P : Program} {n : Nat} {H : Hints}

theorem trC_seq {code : Code} {a b : CC} (h : trC P n H code = some (.seq a b)) : ∃ x y, code = .seq x y ∧ trC P n H x = some a ∧ trC P n H y = some b := by
  unfold trC at h
  split at h <;> (try split at h) <;> (try split at h) <;> (try cases h)
  exact ⟨_, _, rfl, ‹_›, ‹_›⟩
theorem trC_cond {code : Code} {x : Operand} {a b : CC} (h : trC P n H code = some (.cond x a b)) : ∃ y z, code = .cond x y z ∧ trC P n H y = some a ∧ trC P n H z = some b := by
  unfold trC at h
  split at h <;> (try split at h) <;> (try split at h) <;> (try cases h)
  exact ⟨_, _, rfl, ‹_›, ‹_›⟩
theorem trC_block {code : Code} {i : Nat} {a : CC} (h : trC P n H code = some (.block i a)) : ∃ x, code = .block i x ∧ trC P n H x = some a := by
  unfold trC at h
  split at h <;> (try split at h) <;> (try split at h) <;> (try cases h)
  exact ⟨_, rfl, ‹_›⟩
theorem trC_loop {code : Code} {a : CC} (h : trC P n H code = some (.loop a)) : ∃ x, code = .loop x ∧ trC P n H x = some a := by
  unfold trC at h
  split at h <;> (try split at h) <;> (try split at h) <;> (try cases h)
  exact ⟨_, rfl, ‹_›⟩
theorem trC_skip {code : Code} (h : trC P n H code = some .skip) : code = .skip := by
  unfold trC at h
  split at h <;> (try split at h) <;> (try split at h) <;> (try cases h)
  rfl
theorem trC_exit {code : Code} {i : Nat} (h : trC P n H code = some (.exit i)) : code = .exit i := by
  unfold trC at h
  split at h <;> (try split at h) <;> (try split at h) <;> (try cases h)
  rfl
theorem trC_reg {code : Code} {l : List CI} (h : trC P n H code = some (.reg l)) : ∃ id ops, code = .region id ops false ∧ trR P n ops ops.toList = some l := by
  unfold trC at h
  split at h <;> (try split at h) <;> (try split at h) <;> (try cases h)
  exact ⟨_, _, rfl, ‹_›⟩
theorem trI_o {ops : Array Oper} {o : Oper} {c : CO} (h : trI P n ops o = some (.o c)) : trO P n o = some c ∧ o.guard = none := by
  unfold trI at h
  split at h <;> (try split at h) <;> (try split at h) <;> (try split at h) <;> (try split at h) <;> (try cases h)
  exact ⟨‹_›, ‹_›⟩
theorem trCall_value {d : Option Nat} {c : Call} {d' : Nat} {f : Operand} {as : List Operand} (h : trCall P d c = some (.call (some d') f as)) : d = some d' ∧ c.callee = .value f ∧ c.args.toList = as := by
  unfold trCall at h
  split at h <;> (repeat' split at h) <;> (try cases h)
  exact ⟨rfl, ‹_›, rfl⟩
theorem trO_call {o : Oper} {d : Nat} {f : Operand} {as : List Operand} (h : trO P n o = some (.call (some d) f as)) : o.dst = some d ∧ ∃ c, o.op = .call c ∧ c.callee = .value f ∧ c.args.toList = as := by
  unfold trO at h
  split at h
  · rename_i d0 hd0
    split at h
    · cases hc : trD P d0 o.op with
      | none => rw [hc] at h; cases h
      | some c' =>
        rw [hc] at h
        simp only [Option.getD_some, Option.some.injEq] at h
        subst h
        generalize hop : o.op = op at hc
        unfold trD at hc
        split at hc <;> (try cases hc) <;> (repeat' split at hc) <;> (try cases hc)
        obtain ⟨h1, h2, h3⟩ := trCall_value hc
        cases h1
        exact ⟨hd0, _, rfl, h2, h3⟩
    · cases h
  · cases hc : trN P o.op with
    | none => rw [hc] at h; cases h
    | some c' =>
      rw [hc] at h
      simp only [Option.getD_some, Option.some.injEq] at h
      subst h
      generalize hop : o.op = op at hc
      unfold trN at hc
      split at hc <;> (try cases hc) <;> (repeat' split at hc) <;> (try cases hc)
      obtain ⟨h1, _⟩ := trCall_value hc
      cases h1
theorem trO_move {o : Oper} {d : Nat} {x : Operand} (h : trO P n o = some (.move d x)) : o.dst = some d ∧ (o.op = .move x ∨ o.op = .assign x) := by
  unfold trO at h
  split at h
  · rename_i d0 hd0
    split at h
    · cases hc : trD P d0 o.op with
      | none => rw [hc] at h; cases h
      | some c' =>
        rw [hc] at h
        simp only [Option.getD_some, Option.some.injEq] at h
        subst h
        generalize hop : o.op = op at hc
        unfold trD at hc
        split at hc <;> (try cases hc) <;> (repeat' split at hc) <;> (try cases hc)
        · exact ⟨hd0, .inl rfl⟩
        · exact ⟨hd0, .inr rfl⟩
        · unfold trCall at hc
          split at hc <;> (repeat' split at hc) <;> (try cases hc)
    · cases h
  · cases hc : trN P o.op with
    | none => rw [hc] at h; cases h
    | some c' =>
      rw [hc] at h
      simp only [Option.getD_some, Option.some.injEq] at h
      subst h
      generalize hop : o.op = op at hc
      unfold trN at hc
      split at hc <;> (try cases hc) <;> (repeat' split at hc) <;> (try cases hc)
      unfold trCall at hc
      split at hc <;> (repeat' split at hc) <;> (try cases hc)
theorem run_move {o : Oper} {d : Nat} {x : Operand} (h : trO P n o = some (.move d x)) (ρ : Operand → Value) (w : World) : (execOp ρ o).run P w = .ok (.value (ρ x)) w := by
  rcases (trO_move h).2 with h | h <;> simp [execOp, h, Sem.run_pure]
theorem run_yield_call {o : Oper} {d : Nat} {f y : Operand} (h : trO P n o = some (.call (some d) f [y])) {ρ : Operand → Value} {l : Nat} (hf : ρ f = .func (.yield l) #[] #[]) {w : World} {fn : FuncId} {tm : Array Value} {as bd : Code} (hy : (Instr.yield l #[ρ y]).run P w = .ok (.round l fn tm as bd) w) :
    (execOp ρ o).run P w = .ok (.round l fn tm as bd) w := by
  obtain ⟨hd, c, hc, h1, h2⟩ := trO_call h
  have h3 : c.args = #[y] := by rw [← Array.toArray_toList (xs := c.args), h2]
  simp only [execOp, hc, resolve, h1, h3, hf, Deferred.ofValue, Sem.run_bind, Sem.run_pure, Result.andThen_ok, invoke]
  simpa using hy

/-- A loop, by an invariant over loop data. -/
theorem wpIn_loopN {σ : Type} {F : Fence} {c : Code} {Q : Exit → Act → World → Prop} {m0 : Nat} (Inv : σ → Act → World → Prop) (μ : σ → Nat) {a : Act} {w : World} (s0 : σ) (h0 : Inv s0 a w)
    (round : ∀ s a w, Inv s a w → c.wpIn F m0 P (Exit.then (fun a' w' => ∃ s', Inv s' a' w' ∧ μ s' < μ s) Q) a w) : (Code.loop c).wpIn F m0 P Q a w := by
  intro b k cs hb1 hb2 hb3
  have key : ∀ m s a w, μ s = m → Inv s a w →
      ∃ e a' w', Q e a' w' ∧ ArrivesIn (Machine.fenced P F) P (lone (b.atR a (.code c :: .inLoop c :: k)) cs w) b k cs e a' w' := by
    intro m
    induction m using Nat.strongRecOn with
    | _ m ih =>
      intro s a w hm hi
      obtain ⟨e, a₁, w₁, q, harr⟩ := round s a w hi b (.inLoop c :: k) cs hb1 hb2 hb3
      cases e with
      | normal =>
        obtain ⟨s', hi', hlt⟩ := q
        obtain ⟨e₂, a₂, w₂, hq₂, harr₂⟩ := ih (μ s') (hm ▸ hlt) s' a₁ w₁ rfl hi'
        exact ⟨e₂, a₂, w₂, hq₂, .of_steps (StepsIn.trans harr (.one (fenced_calm hb2 hb3 rfl) stepR_inLoop)) harr₂⟩
      | exit id => exact ⟨_, a₁, w₁, q, .pass (x := .inLoop c) rfl (fun _ _ => .inl (by simp)) harr⟩
      | goto l => exact ⟨_, a₁, w₁, q, .pass (x := .inLoop c) rfl (fun _ _ => .inl (by simp)) harr⟩
      | ret => exact ⟨_, a₁, w₁, q, .pass (x := .inLoop c) rfl (fun _ _ => .inl (by simp)) harr⟩
      | panic ch => exact ⟨_, a₁, w₁, q, .pass (x := .inLoop c) rfl (fun _ _ => .inl (by simp)) harr⟩
      | outgrown => exact ⟨_, a₁, w₁, q, .pass (x := .inLoop c) rfl (fun _ _ => .inl (by simp)) harr⟩
  obtain ⟨e, a', w', hq, harr⟩ := key _ s0 a w rfl h0
  exact ⟨e, a', w', hq, .of_steps (.one (fenced_calm hb2 hb3 rfl) stepR_loop) harr⟩

/-- The state of an iterator: what it was given, and its slice. -/
def iterS (yv : Value) (cap : List T) (s4 q : Nat) (c : List Int) : St := St.of (enum 0 (A.v yv :: cap.map A.t) ++ [(s4, .own q)]) [(q, .arr 1 (c.map T.i))]
/-- Ahead of its loop. -/
def preQ (n : Nat) (yv : Value) (cap : List T) (s4 : Nat) (cs : List (List Int)) : Exit → St → Prop
  | .normal, S => ∃ q c0 l, cs = c0 :: l ∧ Weak n S (iterS yv cap s4 q c0)
  | .ret, S => cs = [] ∧ ∃ q c0, c0 ≠ [] ∧ Weak n S (iterS yv cap s4 q c0)
  | _, _ => False
/-- From one datum to the next. -/
def stepQ (n : Nat) (yv : Value) (cap : List T) (s4 : Nat) (cs : List (List Int)) (j : Nat) : Exit → St → Prop
  | .normal, S => ∃ c', cs[j + 1]? = some c' ∧ Weak n S (iterS yv cap s4 1000000000 c')
  | .ret, _ => j + 1 = cs.length
  | _, _ => False

theorem mem_enum {α : Type} : ∀ {l : List α} {k : Nat} {p : Nat × α}, p ∈ enum k l → ∃ i, ∃ h : i < l.length, p = (k + i, l[i])
  | [], k, p, h => by simp [enum] at h
  | x :: l, k, p, h => by
    rcases List.mem_cons.1 h with rfl | h
    · exact ⟨0, by simp, rfl⟩
    · obtain ⟨i, hi, rfl⟩ := mem_enum h
      exact ⟨i + 1, by simpa using hi, by simp only [List.getElem_cons_succ]; rw [show k + 1 + i = k + (i + 1) by omega]⟩
theorem mkEnv_app {l l' : List (Nat × A)} {i : Nat} (h : ∀ p ∈ l, p.1 ≠ i) : mkEnv (l ++ l') i = mkEnv l' i := by
  induction l with
  | nil => rfl
  | cons p l ih =>
    show upd (mkEnv (l ++ l')) p.1 p.2 i = _
    rw [upd_other _ _ _ _ (Ne.symm (h p (by simp))), ih fun p hp => h p (by simp [hp])]
theorem iterS_own {yv : Value} {cap : List T} {s4 q : Nat} {c : List Int} (hs4 : cap.length < s4) : (iterS yv cap s4 q c).env s4 = .own q := by
  show mkEnv (enum 0 _ ++ _) s4 = _
  rw [mkEnv_app fun p hp => by
    obtain ⟨i, hi, rfl⟩ := mem_enum hp
    simp at hi ⊢; omega]
  show upd _ s4 _ s4 = _
  rw [upd_self]

/-- Where the iterator's slice lies. -/
structure SliceAt (W : World) (v : Value) (b : Nat) (c : List Int) : Prop where
  ex : ∃ len cp cells e, v = .slice (some ⟨b, 0, none⟩) len cp ∧ W.heap[b]? = some (.cells cells e (0, 0)) ∧ c.length = len ∧ len ≤ cp ∧ cp ≤ maxLen ∧ cells.size = cp ∧ ∀ i (h : i < c.length), cells.getD i Go.undef = .int .i64 c[i]
theorem iter_at {X : Nat → Prop} {w0 : World} {O0 : Fr} {a : Act} {W : World} {hs : Nat → Option Value} {fp : Nat → List Nat} {yv : Value} {cap : List T} {s4 q : Nat} {c : List Int} (g : Good X w0 O0 n (iterS yv cap s4 q c) a W hs fp) (hs4 : cap.length < s4) (hc : c ≠ []) :
    ∃ b, SliceAt W (a.tmps.getD s4 Go.undef) b c ∧ hs q = some (a.tmps.getD s4 Go.undef) ∧ b ∈ fp q := by
  have h1 := g.env s4
  rw [iterS_own hs4] at h1
  have h2 := h1.own_inv
  have h3 := g.root q
  have e : (iterS yv cap s4 q c).roots q = .live (.arr 1 (c.map T.i)) [] := by
    show upd _ q _ q = _
    rw [upd_self]
  rw [e] at h3
  obtain ⟨x, hx, ho, _⟩ := h3
  rw [h2] at hx
  have hx : a.tmps.getD s4 Go.undef = x := Option.some.inj hx
  rw [h2, hx]
  generalize hfq : fp q = f at ho
  generalize hL : c.map T.i = L at ho
  cases ho with
  | rd h => cases h
  | arrNil => cases c <;> simp at hL hc
  | arr s l b len cp cells e fps hb hl hcl hm hsz hf hr =>
    subst hL
    refine ⟨b, ⟨len, cp, cells, e, rfl, hb, by simpa using hl, hcl, hm, by simpa using hsz, fun i h => ?_⟩, rfl, by simp⟩
    have := hr i (by simpa using h)
    rw [List.getElem_map] at this
    generalize fps.getD i [] = ff at this
    generalize cells.getD i Go.undef = y at this ⊢
    cases this with
    | rd h => cases h; rfl

theorem SliceAt.rd {W : World} {v : Value} {b : Nat} {c : List Int} (h : SliceAt W v b c) : Rd W (fun x => x ≠ b) (.sh 1 (c.map T.i)) v := by
  obtain ⟨len, cp, cells, e, rfl, h1, h2, h3, h4, h5, h6⟩ := h.ex
  refine .sh 1 _ b 0 len cp cells e (0, 0) (fun h => h rfl) h1 (by simp; omega) (by simpa using h2) h3 fun i h => ?_
  rw [List.getElem_map, Nat.zero_add, h6 i (by simpa using h)]
  exact .v _
theorem SliceAt.same {W W' : World} {v : Value} {b : Nat} {c : List Int} (h : SliceAt W v b c) (hb : W'.heap[b]? = W.heap[b]?) : SliceAt W' v b c := by
  obtain ⟨len, cp, cells, e, h0, h1, h2⟩ := h.ex
  exact ⟨len, cp, cells, e, h0, hb.trans h1, h2⟩
theorem SliceAt.blk {W W' : World} {v : Value} {b b' : Nat} {c c' : List Int} (h : SliceAt W v b c) (h' : SliceAt W' v b' c') : b' = b := by
  obtain ⟨_, _, _, _, h0, _⟩ := h.ex
  obtain ⟨_, _, _, _, h0', _⟩ := h'.ex
  rw [h0] at h0'; cases h0'; rfl
theorem SliceAt.one {W : World} {v : Value} {b : Nat} {c : List Int} (h : SliceAt W v b c) : v.oneCell' = true := by
  obtain ⟨_, _, _, _, rfl, _⟩ := h.ex; rfl

/-- The frame's slots, as an iterator keeps them. -/
structure ItAt (n : Nat) (yv : Value) (capv : List Value) (s4 : Nat) (vs : Value) (a : Act) : Prop where
  size : a.tmps.size = n
  defers : a.defers = []
  s0 : a.tmps.getD 0 Go.undef = yv
  cp : ∀ i, i < capv.length → a.tmps.getD (i + 1) Go.undef = capv.getD i Go.undef
  s4 : a.tmps.getD s4 Go.undef = vs

theorem iter_good {a : Act} {W : World} {yv vs : Value} {cap : List T} {capv : List Value} {s4 b : Nat} {c : List Int} (ha : ItAt n yv capv s4 vs a) (hcl : capv.length = cap.length) (hs4 : cap.length < s4) (hsm : n ≤ 100000)
    (hrd : ∀ i (h : i < cap.length), Rd W (fun x => x = b) cap[i] (capv.getD i Go.undef)) (hv : SliceAt W vs b c) :
    Good (fun _ => False) W ⟨fun x => ∃ j, x ∈ (fun r : Nat => if r = 1000000000 then [b] else []) j, fun r => if r = 1000000000 then some vs else none, False⟩ n (iterS yv cap s4 1000000000 c) a W (fun r => if r = 1000000000 then some vs else none) (fun r => if r = 1000000000 then [b] else []) := by
  have ea : a = { tmps := a.tmps, defers := [] } := by rw [← ha.defers]
  have hOb : ∀ x, Ob (fun _ => False) (fun r : Nat => if r = 1000000000 then [b] else []) x → x = b := by
    rintro x (h | ⟨r, h⟩)
    · exact h.elim
    · have h : x ∈ (if r = 1000000000 then [b] else []) := h
      split at h
      · simpa using h
      · simp at h
  have hm : Mem (fun _ => False) W [.arr 1 (c.map T.i)] (fun r => if r = 1000000000 then some vs else none) (fun r => if r = 1000000000 then [b] else []) := by
    refine ⟨fun i t hi => ?_, fun r hr => ?_, fun r r' x h h' => ?_, fun r => ?_, fun r x h => fun h => h, fun x h => h.elim, fun r h hr => ?_⟩
    · cases i with
      | succ i => simp at hi
      | zero =>
        simp only [List.getElem?_cons_zero, Option.some.injEq] at hi
        subst hi
        refine ⟨vs, if_pos rfl, ?_, rfl⟩
        obtain ⟨len, cp, cells, e, rfl, h1, h2, h3, h4, h5, h6⟩ := hv.ex
        have := Ow.arr (w := W) (O := Ob (fun _ => False) (fun r : Nat => if r = 1000000000 then [b] else [])) 1 (c.map T.i) b len cp cells e (c.map fun _ => []) h1 (by simpa using h2) h3 h4 (by simpa using h5) (by simp) (fun i h => by
          have hi : i < c.length := by simpa using h
          rw [List.getElem_map, h6 i hi, show (c.map fun _ => ([] : List Nat)).getD i [] = [] by simp [List.getD_eq_getElem?_getD, hi]]
          exact .rd (.v _))
        rw [show (c.map fun _ => ([] : List Nat)).flatten = [] from List.flatten_eq_nil_iff.2 fun l hl => by obtain ⟨_, _, rfl⟩ := List.mem_map.1 hl; rfl] at this
        exact this
    · have : r ≠ 1000000000 := by
        simp only [List.length_cons, List.length_nil] at hr; omega
      exact ⟨if_neg this, if_neg this⟩
    · by_cases e1 : r = 1000000000
      · by_cases e2 : r' = 1000000000
        · rw [e1, e2]
        · rw [if_neg e2] at h'; cases h'
      · rw [if_neg e1] at h; cases h
    · split
      · exact List.nodup_cons.2 ⟨List.not_mem_nil, List.nodup_nil⟩
      · exact List.nodup_nil
    · split at hr
      · cases hr; exact hv.one
      · cases hr
  have := hm.good (n := n) (mkp := False) (tm := a.tmps) (l := enum 0 (A.v yv :: cap.map A.t) ++ [(s4, .own 1000000000)]) ha.size hsm (fun s hs => by
    rcases List.mem_append.1 hs with hs | hs
    · obtain ⟨i, hi, rfl⟩ := mem_enum hs
      rw [Nat.zero_add]
      cases i with
      | zero =>
        show Is _ _ _ (A.v yv) (a.tmps.getD 0 Go.undef)
        rw [ha.s0]; exact .t (.v _)
      | succ i =>
        have hi' : i < cap.length := by simpa using hi
        show Is _ _ _ ((A.v yv :: cap.map A.t)[i + 1]) (a.tmps.getD (i + 1) Go.undef)
        rw [List.getElem_cons_succ, List.getElem_map, ha.cp i (by omega)]
        exact .t ((hrd i hi').mono (fun _ _ _ _ _ h => h) fun x hx _ h => hx (hOb x h))
    · simp only [List.mem_singleton] at hs
      subst hs
      show Is _ _ _ (.own 1000000000) (a.tmps.getD s4 Go.undef)
      rw [ha.s4]; exact .own (by simp))
  rw [ea]; exact this

theorem trR3 {ops : Array Oper} {os : List Oper} {x y z : CI} (h : trR P n ops os = some [x, y, z]) : ∃ o0 o1 o2, os = [o0, o1, o2] ∧ trI P n ops o0 = some x ∧ trI P n ops o1 = some y ∧ trI P n ops o2 = some z ∧ dfr o0.op = false ∧ dfr o1.op = false ∧ dfr o2.op = false := by
  obtain ⟨hl, hg⟩ := trR_spec h
  have hd := trR_dfr h
  obtain ⟨o0, o1, o2, rfl⟩ : ∃ o0 o1 o2, os = [o0, o1, o2] := by
    clear h hg hd
    rcases os with _ | ⟨o0, _ | ⟨o1, _ | ⟨o2, _ | ⟨o3, os⟩⟩⟩⟩
    · cases hl
    · cases hl
    · cases hl
    · exact ⟨o0, o1, o2, rfl⟩
    · simp at hl
  exact ⟨o0, o1, o2, rfl, hg 0 (by simp) (by simp), hg 1 (by simp) (by simp), hg 2 (by simp) (by simp), hd o0 (by simp), hd o1 (by simp), hd o2 (by simp)⟩
theorem ItAt.put {yv vs : Value} {capv : List Value} {s4 d : Nat} {a : Act} (h : ItAt n yv capv s4 vs a) (hd : capv.length < d) (h4 : d ≠ s4) (v : Value) : ItAt n yv capv s4 vs (a.put (some d) v) := by
  refine ⟨by show (a.tmps.setIfInBounds d v).size = n; simp [h.size], h.defers, ?_, fun i hi => ?_, ?_⟩
  · show (a.tmps.setIfInBounds d v).getD 0 Go.undef = yv
    rw [setIf_getD (by omega)]; exact h.s0
  · show (a.tmps.setIfInBounds d v).getD (i + 1) Go.undef = _
    rw [setIf_getD (by omega)]; exact h.cp i hi
  · show (a.tmps.setIfInBounds d v).getD s4 Go.undef = vs
    rw [setIf_getD (Ne.symm h4)]; exact h.s4
theorem ItAt.same {yv vs vs' : Value} {capv : List Value} {s4 : Nat} {a a' : Act} (h : ItAt n yv capv s4 vs a) {l : List Nat} (hs : Same l a a') (hl : ∀ s, s ≤ capv.length → s ∉ l) (hsz : a'.tmps.size = n) (hd : a'.defers = []) (h4 : a'.tmps.getD s4 Go.undef = vs') : ItAt n yv capv s4 vs' a' :=
  ⟨hsz, hd, (hs 0 (hl 0 (Nat.zero_le _))).trans h.s0, fun i hi => (hs (i + 1) (hl _ hi)).trans (h.cp i hi), h4⟩

/-- The call of yield. -/
theorem yield_region {id : Nat} {ops : Array Oper} {d0 d1 d2 s4 l : Nat} (hops : trR P n ops ops.toList = some [.o (.move d0 (.tmp 0)), .o (.move d1 (.tmp s4)), .o (.call (some d2) (.tmp d0) [.tmp d1])]) {a : Act} {W : World} {Q : Exit → Act → World → Prop} {fn : FuncId} {tm : Array Value} {as bd : Code}
    (h0 : a.tmps.getD 0 Go.undef = .func (.yield l) #[] #[]) (hd0 : d0 < a.tmps.size) (hd1 : d1 < a.tmps.size) (h01 : d0 ≠ d1) (h4 : s4 ≠ d0) (hy : (Instr.yield l #[a.tmps.getD s4 Go.undef]).run P W = .ok (.round l fn tm as bd) W)
    (hr : RoundIn Fence.wide 0 P l fn tm as bd W fun e W' => ∃ v, e = .returned v ∧ Q .normal (((a.put (some d0) (.func (.yield l) #[] #[])).put (some d1) (a.tmps.getD s4 Go.undef)).put (some d2) v) W') : (Code.region id ops false).wpIn Fence.wide 0 P Q a W := by
  obtain ⟨o0, o1, o2, hol, t0, t1, t2, e0, e1, e2⟩ := trR3 hops
  have hsz3 : ops.size = 3 := by rw [← Array.length_toList, hol]; rfl
  have k0 : ops[0]? = some o0 := by rw [← Array.getElem?_toList, hol]; rfl
  have k1 : ops[1]? = some o1 := by rw [← Array.getElem?_toList, hol]; rfl
  have k2 : ops[2]? = some o2 := by rw [← Array.getElem?_toList, hol]; rfl
  obtain ⟨t0, u0⟩ := trI_o t0
  obtain ⟨t1, u1⟩ := trI_o t1
  obtain ⟨t2, u2⟩ := trI_o t2
  have v0 := (trO_move t0).1
  have v1 := (trO_move t1).1
  have v2 := (trO_call t2).1
  have w0 : ∀ (o : Oper) (tm : Array Value), o.guard = none → Region.wanted o (yielded ops tm) = true := fun o tm h => by simp [Region.wanted, h]
  have ev0 : a.eval (.tmp 0) = .func (.yield l) #[] #[] := h0
  refine wpIn_region ?_
  rw [hsz3, show List.range 3 = [0, 1, 2] from rfl]
  simp only [wpOpsIn, k0, k1, k2]
  rw [if_pos (w0 o0 _ u0)]
  refine ⟨fun f _ => trivial, ?_⟩
  rw [Oper.semAt_eq _ _ _ (dfr_no e0), run_move t0, Oper.uponIn_value, ev0, v0]
  rw [if_pos (w0 o1 _ u1)]
  refine ⟨fun f _ => trivial, ?_⟩
  rw [Oper.semAt_eq _ _ _ (dfr_no e1), run_move t1, Oper.uponIn_value, v1]
  have ev1 : (a.put (some d0) (.func (.yield l) #[] #[])).eval (.tmp s4) = a.tmps.getD s4 Go.undef := setIf_getD h4
  rw [ev1, if_pos (w0 o2 _ u2)]
  refine ⟨fun f _ => trivial, ?_⟩
  have ev2 : ((a.put (some d0) (.func (.yield l) #[] #[])).put (some d1) (a.tmps.getD s4 Go.undef)).eval (.tmp d0) = .func (.yield l) #[] #[] := by
    show ((a.tmps.setIfInBounds d0 _).setIfInBounds d1 _).getD d0 Go.undef = _
    rw [setIf_getD h01, setIf_getD_same hd0]
  have ev3 : ((a.put (some d0) (.func (.yield l) #[] #[])).put (some d1) (a.tmps.getD s4 Go.undef)).eval (.tmp d1) = a.tmps.getD s4 Go.undef := by
    show ((a.tmps.setIfInBounds d0 _).setIfInBounds d1 _).getD d1 Go.undef = _
    rw [setIf_getD_same (by simpa using hd1)]
  rw [Oper.semAt_eq _ _ _ (dfr_no e2), run_yield_call (ρ := ((a.put (some d0) (.func (.yield l) #[] #[])).put (some d1) (a.tmps.getD s4 Go.undef)).eval) t2 ev2 (by rw [ev3]; exact hy), Oper.uponIn_round]
  refine ⟨fun h => (by cases h), hr.mono ?_⟩
  rintro e W' ⟨v, rfl, h⟩
  rw [v2]; exact h

/-- An iterator whose loop calls yield with its slice, until it is told to stop or there is no next. -/
theorem Iter.of {f : FuncId} {fn : Func} {code : Code} {c1 c2 c3 cB : CC} {i2 d0 d1 d2 s4 : Nat} (hf : P.funcs[f]? = some fn) (hb : fn.body = some code) (hn : fn.ntmps = n) (hres : fn.results = #[])
    (hc : trC P n H code = some (.seq c1 (.seq c2 (.seq c3 (.block i2 (.loop (.seq (.seq (.reg [.o (.move d0 (.tmp 0)), .o (.move d1 (.tmp s4)), .o (.call (some d2) (.tmp d0) [.tmp d1])]) (.cond (.tmp d2) .skip (.exit i2))) cB)))))))
    (hno : rngIn code = false) {cap : List T} {cs : List (List Int)} (hsm : n ≤ 100000) (hne : ∀ c ∈ cs, c ≠ []) (hs4 : cap.length < s4) (hd0 : d0 < n ∧ cap.length < d0 ∧ d0 ≠ s4) (hd1 : d1 < n ∧ cap.length < d1 ∧ d1 ≠ s4 ∧ d1 ≠ d0) (hd2 : d2 < n ∧ cap.length < d2 ∧ d2 ≠ s4) {m : Nat} (hcm : cap.length = m) (hdst : ((dstC code).all fun d => decide (m < d)) = true) (hcn : cap.length < n)
    (pre : ∀ l : Nat, cW P n c1 (thenC (cW P n c2 (thenC (cW P n c3 (preQ n (.func (.yield l) #[] #[]) cap s4 cs)) (preQ n (.func (.yield l) #[] #[]) cap s4 cs))) (preQ n (.func (.yield l) #[] #[]) cap s4 cs)) (St.of (enum 0 (A.v (.func (.yield l) #[] #[]) :: cap.map A.t)) []))
    (step : ∀ (l j : Nat) (c : List Int), cs[j]? = some c → cW P n cB (stepQ n (.func (.yield l) #[] #[]) cap s4 cs j) (iterS (.func (.yield l) #[] #[]) cap s4 1000000000 c)) :
    Iter P f cap (cs.map fun c => .sh 1 (c.map T.i)) := by
  intro O w capv hcl hrd l J Jx hstart habide hround
  obtain ⟨a1, r1, rfl, ha1, hr1⟩ := trC_seq hc
  obtain ⟨a2, r2, rfl, ha2, hr2⟩ := trC_seq hr1
  obtain ⟨a3, r3, rfl, ha3, hr3⟩ := trC_seq hr2
  obtain ⟨r4, rfl, hr4⟩ := trC_block hr3
  obtain ⟨r5, rfl, hr5⟩ := trC_loop hr4
  obtain ⟨r6, kB, rfl, hr6, hkB⟩ := trC_seq hr5
  obtain ⟨r7, r8, rfl, hr7, hr8⟩ := trC_seq hr6
  obtain ⟨id, ops, rfl, hops⟩ := trC_reg hr7
  obtain ⟨y1, y2, rfl, hy1, hy2⟩ := trC_cond hr8
  have hy1 := trC_skip hy1
  have hy2 := trC_exit hy2
  subst hy1 hy2
  simp only [rngIn, Bool.or_eq_false_iff] at hno
  obtain ⟨n1, n2, n3, _, n4⟩ := hno
  have hdst' : ∀ s, s ≤ cap.length → s ∉ dstC a1 ∧ s ∉ dstC a2 ∧ s ∉ dstC a3 ∧ s ∉ dstC kB := fun s hs => by
    have := show s ∉ dstC _ from fun hm => by have := List.all_eq_true.1 hdst s hm; simp at this; omega
    simp only [dstC, List.mem_append, not_or] at this
    exact ⟨this.1, this.2.1, this.2.2.1, this.2.2.2.2⟩
  generalize hyv : (Value.func (.yield l) #[] #[]) = yv at *
  have hpre := pre l
  rw [hyv] at hpre
  -- what is to be shown at the end
  let R : Ending → World → Prop := fun e W' => (∃ v, e = .returned v) ∧ ((∃ b, J b (cs.map fun c => T.sh 1 (c.map T.i)).length W') ∨ Jx W')
  have hlen : (cs.map fun c => T.sh 1 (c.map T.i)).length = cs.length := by simp
  have hfin : ∀ (a : Act) (W : World), a.defers = [] → ((∃ b, J b cs.length W) ∨ Jx W) → LeavesInM Fence.wide 0 P fn a.tmps R a.defers .returning W := fun a W hd h => by
    rw [hd]
    refine leaves_nil ⟨.tuple #[], ?_, ⟨_, rfl⟩, by rw [hlen]; exact h⟩
    unfold results
    rw [hres]
    simp [Sem.run_pure, Sem.run_bind]
  refine callsIn_wide.1 (callsIn_of_wp_marks (F := Fence.wide) (n := 0) hf hb trivial ?_)
  refine wpIn_mono (Q := fun e a W => (e = .normal ∨ e = .ret) ∧ a.defers = [] ∧ ((∃ b, J b cs.length W) ∨ Jx W)) ?_ (by
    rintro e a W ⟨h1 | h1, h2, h3⟩ <;> subst h1 <;> exact hfin a W h2 h3)
  let O0 : Fr := ⟨fun x => ∃ j, x ∈ (fun _ : Nat => ([] : List Nat)) j, fun _ => none, False⟩
  have hO0 : ∀ x, ¬ O0 x := fun x ⟨j, h⟩ => by simp at h
  generalize hA : ({ tmps := #[yv] ++ capv.toArray ++ Array.replicate (fn.ntmps - (#[yv] ++ capv.toArray).size) Go.undef, defers := [] } : Act) = ac
  have hsize : ac.tmps.size = n := by rw [← hA]; simp; omega
  have hA0 : ac.tmps.getD 0 Go.undef = yv := by rw [← hA]; simp [Array.getD_eq_getD_getElem?, Array.getElem?_append]
  have hAc : ∀ i, i < capv.length → ac.tmps.getD (i + 1) Go.undef = capv.getD i Go.undef := fun i hi => by
    rw [← hA]
    simp [Array.getD_eq_getD_getElem?, List.getD_eq_getElem?_getD, Array.getElem?_append, hi]
  have hAd : ac.defers = [] := by rw [← hA]
  have g0 : Good (fun _ => False) w O0 n (St.of (enum 0 (A.v yv :: cap.map A.t)) []) ac w (fun _ => none) (fun _ => []) := by
    have hm : Mem (fun _ => False) w [] (fun _ => none) (fun _ => []) := ⟨fun i t h => by simp at h, fun r _ => ⟨rfl, rfl⟩, fun r r' b h => by simp at h, fun _ => List.nodup_nil, fun r b h => by simp at h, fun b h => h.elim, fun r h hr => by cases hr⟩
    have := hm.good (n := n) (mkp := False) (tm := ac.tmps) (l := enum 0 (A.v yv :: cap.map A.t)) hsize hsm fun s hs => by
      obtain ⟨i, hi, rfl⟩ := mem_enum hs
      rw [Nat.zero_add]
      cases i with
      | zero =>
        show Is _ _ _ (A.v yv) (ac.tmps.getD 0 Go.undef)
        rw [hA0]; exact .t (.v _)
      | succ i =>
        have hi' : i < cap.length := by simpa using hi
        show Is _ _ _ ((A.v yv :: cap.map A.t)[i + 1]) (ac.tmps.getD (i + 1) Go.undef)
        rw [List.getElem_cons_succ, List.getElem_map, hAc i (by omega)]
        exact .t ((hrd i hi').mono (fun _ _ _ _ _ h => h) fun x _ _ h => by
          rcases h with h | ⟨r, h⟩
          · exact h
          · simp at h)
    rw [show ac = { tmps := ac.tmps, defers := [] } by rw [← hAd]]
    exact this
  have hext : ∀ {S' a' W' hs' fp'}, Good (fun _ => False) w O0 n S' a' W' hs' fp' → Ext w W' := fun g => ⟨g.hist.size, fun c hc => g.hist.block c hc (hO0 c), g.hist.os, g.hist.tape, g.hist.output⟩
  have hnod : ∀ {S' a' W' hs' fp'}, Good (fun _ => False) w O0 n S' a' W' hs' fp' → a'.defers = [] := fun g => g.defers.none (fun h => h)
  -- what the state ahead of the loop says of memory
  have hat : ∀ {q : Nat} {c : List Int} {a' W' hs' fp'}, Good (fun _ => False) w O0 n (iterS yv cap s4 q c) a' W' hs' fp' → c ≠ [] → ∃ b, SliceAt W' (a'.tmps.getD s4 Go.undef) b c ∧ w.heap.size ≤ b ∧ J b 0 W' := by
    intro q c a' W' hs' fp' g hc
    obtain ⟨b, h1, h2, h3⟩ := iter_at g hs4 hc
    have hwb : w.heap.size ≤ b := (g.mine q b h3).resolve_left (hO0 b)
    obtain ⟨_, _, _, _, _, h4, _⟩ := h1.ex
    exact ⟨b, h1, hwb, hstart W' b hwb (Array.getElem?_eq_some_iff.1 h4).1 (hext g)⟩
  have hret : ∀ {S' a' W' hs' fp'}, Good (fun _ => False) w O0 n S' a' W' hs' fp' → preQ n yv cap s4 cs .ret S' → a'.defers = [] ∧ ((∃ b, J b cs.length W') ∨ Jx W') := by
    rintro S' a' W' hs' fp' g ⟨rfl, q, c0, hc0, hw⟩
    obtain ⟨hs2, fp2, g2⟩ := hw _ _ _ _ _ _ _ g
    obtain ⟨b, _, _, hJ⟩ := hat g2 hc0
    exact ⟨hnod g, .inl ⟨b, hJ⟩⟩
  have hn0 : ∀ {k : Code}, rngIn k = false → (rngIn k = true → (none : Option Nat) = none → O0.mkp) := fun h h' => by rw [h] at h'; cases h'
  refine wpIn_seq (wpIn_mono (cW_sound _ _ _ hpre _ _ ha1 _ w O0 ac w _ _ g0 none (RndOK.no _ _) (hn0 n1)) ?_)
  rintro e b1 W1 ⟨⟨S1, hs1, fp1, g1, q1⟩, m1⟩
  cases e with
  | ret => exact ⟨.inr rfl, hret g1 q1⟩
  | normal =>
    refine wpIn_seq (wpIn_mono (cW_sound _ _ _ q1 _ _ ha2 _ w O0 b1 W1 _ _ g1 none (RndOK.no _ _) (hn0 n2)) ?_)
    rintro e b2 W2 ⟨⟨S2, hs2, fp2, g2, q2⟩, m2⟩
    cases e with
    | ret => exact ⟨.inr rfl, hret g2 q2⟩
    | normal =>
      refine wpIn_seq (wpIn_mono (cW_sound _ _ _ q2 _ _ ha3 _ w O0 b2 W2 _ _ g2 none (RndOK.no _ _) (hn0 n3)) ?_)
      rintro e b3 W3 ⟨⟨S3, hs3, fp3, g3, q3⟩, m3⟩
      cases e with
      | ret => exact ⟨.inr rfl, hret g3 q3⟩
      | normal =>
        obtain ⟨q, c0, l', hcs, hwk⟩ := q3
        obtain ⟨hs4', fp4, g4⟩ := hwk _ _ _ _ _ _ _ g3
        have hc0 : c0 ≠ [] := hne c0 (by rw [hcs]; simp)
        obtain ⟨b, hsl, hwb, hJ⟩ := hat g4 hc0
        have hit0 : ItAt n yv capv s4 (b3.tmps.getD s4 Go.undef) b3 := by
          have mm : Same (dstC a1 ++ dstC a2 ++ dstC a3) ac b3 := (m1.mono fun s h => by simp [h]).trans ((m2.mono fun s h => by simp [h]).trans (m3.mono fun s h => by simp [h]))
          exact ItAt.same (vs := ac.tmps.getD s4 Go.undef) ⟨hsize, hAd, hA0, hAc, rfl⟩ mm (fun s hs => by
            obtain ⟨x1, x2, x3, _⟩ := hdst' s (by omega)
            simp [x1, x2, x3]) g4.size (hnod g4) rfl
        have hrd0 : ∀ i (h : i < cap.length), Rd W3 (fun x => x = b) cap[i] (capv.getD i Go.undef) := fun i h =>
          (hrd i h).mono (fun x cs e fz _ hx => ((hext g4).same x (Array.getElem?_eq_some_iff.1 hx).1).trans hx) fun x _ hx e => by omega
        refine wpIn_block (wpIn_loopN (σ := Nat) (fun j a W => ∃ c b vs, cs[j]? = some c ∧ ItAt n yv capv s4 vs a ∧ SliceAt W vs b c ∧ (∀ i (h : i < cap.length), Rd W (fun x => x = b) cap[i] (capv.getD i Go.undef)) ∧ J b j W ∧ w.heap.size ≤ b) (fun j => cs.length - j) 0 ⟨c0, b, _, by rw [hcs]; rfl, hit0, hsl, hrd0, hJ, hwb⟩ ?_)
        rintro j a W ⟨c, b, vs, hj, hit, hsl, hrdW, hJW, hbw⟩
        have hcne := hne c (List.mem_of_getElem? hj)
        have hjl : j < cs.length := (List.getElem?_eq_some_iff.1 hj).1
        obtain ⟨fn', tm, as, bd, hyl, hrnd⟩ := hround b j W vs (by rw [hlen]; exact hjl) hJW hbw (by
          rw [List.getElem_map, show cs[j] = c from by rw [List.getElem?_eq_getElem hjl] at hj; exact Option.some.inj hj]; exact hsl.rd)
        rw [← hit.s4] at hyl
        refine wpIn_seq (wpIn_seq (yield_region (l := l) hops (hit.s0.trans hyv.symm) (by rw [hit.size]; exact hd0.1) (by rw [hit.size]; exact hd1.1) (Ne.symm hd1.2.2.2) (Ne.symm hd0.2.2) hyl (hrnd.mono ?_)))
        rw [hyv, hit.s4]
        have hputs : ∀ v, ItAt n yv capv s4 vs (((a.put (some d0) yv).put (some d1) vs).put (some d2) v) := fun v => ((hit.put (by omega) hd0.2.2 _).put (by omega) hd1.2.2.1 _).put (by omega) hd2.2.2 _
        have hev : ∀ v, (((a.put (some d0) yv).put (some d1) vs).put (some d2) v).eval (.tmp d2) = v := fun v => by
          show (((a.tmps.setIfInBounds d0 _).setIfInBounds d1 _).setIfInBounds d2 v).getD d2 Go.undef = _
          rw [setIf_getD_same (by simp [hit.size]; exact hd2.1)]
        rintro e W' (⟨rfl, hJ', hsz', hbs, hrd'⟩ | ⟨rfl, hJx⟩)
        · refine ⟨_, rfl, ?_⟩
          have hit2 := hputs (.bool true)
          have hev2 := hev (.bool true)
          generalize (((a.put (some d0) yv).put (some d1) vs).put (some d2) (.bool true)) = a2 at hit2 hev2 ⊢
          have g5 := iter_good hit2 hcl hs4 hsm hrd' (hsl.same hbs)
          show (Code.cond (.tmp d2) .skip (.exit i2)).wpIn _ _ _ _ a2 W'
          refine wpIn_cond_true hev2 (wpIn_skip ?_)
          have hst := step l j c hj
          rw [hyv] at hst
          refine wpIn_mono (cW_sound _ _ _ hst _ _ hkB _ W' _ a2 W' _ _ g5 none (RndOK.no _ _) (fun h => by rw [n4] at h; cases h)) ?_
          rintro e a3 W3' ⟨⟨S5, hs5, fp5, g6, q⟩, m5⟩
          have hd3 : a3.defers = [] := g6.defers.none (fun h => h)
          have hOb : ∀ x, (∃ j, x ∈ (fun r : Nat => if r = 1000000000 then [b] else []) j) → x = b := by
            rintro x ⟨r, h⟩
            have h : x ∈ (if r = 1000000000 then [b] else []) := h
            split at h
            · simpa using h
            · cases h
          have hExt : ExtB b W' W3' := ⟨g6.hist.size, fun x hx hxb => g6.hist.block x hx fun h => hxb (hOb x h), g6.hist.os, g6.hist.tape, g6.hist.output⟩
          have hJ3 := habide b (j + 1) W' W3' hJ' hExt
          cases e with
          | normal =>
            obtain ⟨c', hc', hwk⟩ := q
            obtain ⟨hs7, fp7, g7⟩ := hwk _ _ _ _ _ _ _ g6
            obtain ⟨b', hsl', hh, _⟩ := iter_at g7 hs4 (hne c' (List.mem_of_getElem? hc'))
            have hp := g7.pin 1000000000 _ (Nat.le_refl _) hh
            have hvs : a3.tmps.getD s4 Go.undef = vs := by
              have hp : (if (1000000000 : Nat) = 1000000000 then some vs else none) = some (a3.tmps.getD s4 Go.undef) := hp
              rw [if_pos rfl] at hp; exact (Option.some.inj hp).symm
            rw [hvs] at hsl'
            have hbb := hsl.blk hsl'
            subst hbb
            refine ⟨j + 1, ⟨c', _, vs, hc', hit2.same m5 (fun s hs => (hdst' s (by omega)).2.2.2) g6.size hd3 hvs, hsl', fun i h => (hrd' i h).mono (fun x cs e fz hx h => ?_) fun x hx _ => hx, hJ3, hbw⟩, by omega⟩
            rw [hExt.same x (Array.getElem?_eq_some_iff.1 h).1 hx]; exact h
          | ret =>
            have q : j + 1 = cs.length := q
            rw [q] at hJ3
            exact ⟨.inr rfl, hd3, .inl ⟨b, hJ3⟩⟩
          | exit id => exact q.elim
          | goto id => exact q.elim
          | panic id => exact q.elim
          | outgrown => exact q.elim
        · refine ⟨_, rfl, ?_⟩
          have hit2 := hputs (.bool false)
          have hev2 := hev (.bool false)
          generalize (((a.put (some d0) yv).put (some d1) vs).put (some d2) (.bool false)) = a2 at hit2 hev2 ⊢
          show (Code.cond (.tmp d2) .skip (.exit i2)).wpIn _ _ _ _ a2 W'
          refine wpIn_cond_false hev2 (wpIn_exit ?_)
          show if i2 = i2 then _ else _
          rw [if_pos rfl]
          exact ⟨.inl rfl, hit2.defers, .inr hJx⟩
      | exit id => exact q3.elim
      | goto id => exact q3.elim
      | panic id => exact q3.elim
      | outgrown => exact q3.elim
    | exit id => exact q2.elim
    | goto id => exact q2.elim
    | panic id => exact q2.elim
    | outgrown => exact q2.elim
  | exit id => exact q1.elim
  | goto id => exact q1.elim
  | panic id => exact q1.elim
  | outgrown => exact q1.elim
end
end Go.Ab


/- The abstract layer, part 32: what a cell of a root owns becomes data that is only read. -/
set_option linter.unusedSimpArgs false
set_option linter.unusedVariables false
namespace Go.Ab

/-- A root that was taken out of a cell goes back to it, as data that is only read. -/
theorem Weak.shareJoin {n : Nat} {S : St} (r o d : Nat) {t : T} {l : List T} {lk : List (Nat × Nat)} (hd : S.roots d = .live t []) (hr : (S.roots r).cells = some (l, lk)) (hne : d ≠ r) (hc : l[o]? = some .any) (hlk : (o, d) ∈ lk) :
    Weak n S ⟨fun i => shareA d t (S.env i), upd (upd S.roots d .dead) r ((S.roots r).with (l.set o t.toSh) (lk.filter fun p => p.1 < o || o + 1 ≤ p.1))⟩ := by
  intro X w0 O0 a w hs fp g
  obtain ⟨ho, hany⟩ := List.getElem?_eq_some_iff.1 hc
  have hroot := g.root d
  rw [hd] at hroot
  obtain ⟨x, hx, hox, _⟩ := hroot
  have hsub : ∀ q b, b ∈ upd fp d [] q → q ≠ d ∧ b ∈ fp q := fun q b hb => by
    by_cases hq : q = d
    · subst hq; rw [upd_self] at hb; simp at hb
    · rw [upd_other _ _ _ _ hq] at hb; exact ⟨hq, hb⟩
  have hO : ∀ b, ¬ Ob X fp b → b < w.heap.size → ¬ Ob X (upd fp d []) b := fun b h _ h' => by
    rcases h' with h' | ⟨q, hq⟩
    · exact h (.inl h')
    · exact h (.inr ⟨q, (hsub q b hq).2⟩)
  have hk : ∀ p, Keeps p w w := fun p _ _ _ _ _ h => h
  have hd0 : ∀ b ∈ fp d, ¬ Ob X (upd fp d []) b := fun b hb h => by
    rcases h with h | ⟨q, hq⟩
    · exact g.foreign d b hb h
    · obtain ⟨h1, h2⟩ := hsub q b hq; exact h1 (g.disj q d b h2 hb)
  refine ⟨hs, upd fp d [], g.size, g.defers, fun i => ?_, fun q => ?_, fun q q' b h h' => g.disj q q' b (hsub q b h).2 (hsub q' b h').2, fun q => ?_, fun q b h => g.foreign q b (hsub q b h).2, g.xold, g.xout, fun q b h => g.mine q b (hsub q b h).2, g.hist, fun q t' lk' h => ?_, g.hdr, g.small, g.pin⟩
  · have hi := g.env i
    show Is w (Ob X (upd fp d [])) hs (shareA d t (S.env i)) _
    generalize S.env i = y at hi
    cases y with
    | own q' =>
      simp only [shareA]
      split
      · rename_i he
        subst he
        have := hi.own_inv
        rw [hx, Option.some.injEq] at this
        rw [← this]
        exact .t (hox.toSh hO hd0)
      · exact hi.mono (hk _) hO (fun _ _ h => h)
    | _ => exact hi.mono (hk _) hO (fun _ _ h => h)
  · show RootOK w _ hs (upd (upd S.roots d .dead) r _ q) (hs q) (upd fp d [] q)
    by_cases hq : q = r
    · subst hq
      rw [upd_self, upd_other _ _ _ _ (Ne.symm hne)]
      obtain ⟨b, xr, cs, e, fps, hxr, hxb, hb, hle, hf, hrr, hfp, hl, hmk⟩ := g.block hr ho
      obtain ⟨y, hy1, hy2⟩ := hl _ hlk
      rw [hx] at hy2; cases hy2
      have hcell := cells_at hb (show o < cs.size by omega)
      rw [hcell] at hy1; cases hy1
      rw [hxr, hfp]
      refine hmk w _ _ cs _ _ _ hb rfl (by simp) (by simpa using hf) (fun i hi => ?_) (fun p hp => hl p ((List.mem_filter.1 hp).1))
      have hi' : i < l.length := by simpa using hi
      by_cases hio : o = i
      · subst hio
        simp only [List.getElem_set_self]
        have h1 := hrr o ho
        rw [hany] at h1
        generalize fps.getD o [] = f at h1
        cases h1
        exact .rd (hox.toSh hO hd0)
      · simp only [List.getElem_set_ne hio]
        exact (hrr i hi').mono (hk _) hO (hk _)
    · rw [upd_other _ _ _ _ hq]
      by_cases hqd : q = d
      · subst hqd; rw [upd_self, upd_self]; rfl
      · rw [upd_other _ _ _ _ hqd, upd_other _ _ _ _ hqd]
        exact g.keepRoot q (hk _) hO (fun _ _ h => h) rfl (fun b _ => rfl)
  · by_cases hq : q = d
    · subst hq; rw [upd_self]; simp
    · rw [upd_other _ _ _ _ hq]; exact g.nodup q
  · have h : upd (upd S.roots d .dead) r ((S.roots r).with (l.set o t.toSh) (lk.filter fun p => p.1 < o || o + 1 ≤ p.1)) q = .live t' lk' := h
    by_cases hq : q = r
    · subst hq
      rw [upd_self] at h
      rcases Root.cells_spec hr with ⟨s, h1⟩ | h1 <;> rw [h1] at h <;> cases h <;> rfl
    · rw [upd_other _ _ _ _ hq] at h
      by_cases hqd : q = d
      · subst hqd; rw [upd_self] at h; cases h
      · rw [upd_other _ _ _ _ hqd] at h; exact g.rooty q t' lk' h
theorem flatten_fill {fps : List (List Nat)} {o : Nat} {f : List Nat} (ho : o < fps.length) (h0 : fps.getD o [] = []) : ∃ A B : List Nat, fps.flatten = A ++ B ∧ (fps.set o f).flatten = A ++ (f ++ B) := by
  refine ⟨(fps.take o).flatten, (fps.drop (o + 1)).flatten, ?_, ?_⟩
  · conv => lhs; rw [← List.take_append_drop o fps, List.drop_eq_getElem_cons ho]
    rw [List.flatten_append, List.flatten_cons]
    have : fps[o] = [] := by rw [List.getD_eq_getElem?_getD, List.getElem?_eq_getElem ho] at h0; exact h0
    rw [this]; rfl
  · rw [List.set_eq_take_append_cons_drop, if_pos ho, List.flatten_append, List.flatten_cons]
/-- A root that was taken out of a cell goes back to it. -/
theorem Weak.close {n : Nat} {S : St} (r o d : Nat) {t : T} {l : List T} {lk : List (Nat × Nat)} (hd : S.roots d = .live t []) (hr : (S.roots r).cells = some (l, lk)) (hne : d ≠ r) (hc : l[o]? = some .any) (hlk : (o, d) ∈ lk) :
    Weak n S ⟨S.env, upd (upd S.roots d .dead) r ((S.roots r).with (l.set o t) (lk.filter fun p => p.1 < o || o + 1 ≤ p.1))⟩ := by
  intro X w0 O0 a w hs fp g
  obtain ⟨ho, hany⟩ := List.getElem?_eq_some_iff.1 hc
  have hroot := g.root d
  rw [hd] at hroot
  obtain ⟨x, hx, hox, _⟩ := hroot
  obtain ⟨b, xr, cs, e, fps, hxr, hxb, hb, hle, hf, hrr, hfp, hl, hmk⟩ := g.block hr ho
  obtain ⟨y, hy1, hy2⟩ := hl _ hlk
  rw [hx] at hy2; cases hy2
  have hcell := cells_at hb (show o < cs.size by omega)
  rw [hcell] at hy1; cases hy1
  have h0 : fps.getD o [] = [] := by
    have h1 := hrr o ho
    rw [hany] at h1
    generalize fps.getD o [] = f at h1
    cases h1; rfl
  obtain ⟨A, B, e1, e2⟩ := flatten_fill (f := fp d) (show o < fps.length by omega) h0
  have hnr := g.nodup r
  rw [hfp, e1] at hnr
  have hdr : ∀ b' ∈ fp d, b' ≠ b ∧ b' ∉ A ∧ b' ∉ B := fun b' hb' => by
    have key : ∀ z ∈ fp r, z ≠ b' := fun z hz he => by subst he; exact hne (g.disj d r z hb' hz)
    rw [hfp, e1] at key
    exact ⟨fun h => key b (by simp) h.symm, fun h => key b' (by simp [h]) rfl, fun h => key b' (by simp [h]) rfl⟩
  let fp' := upd (upd fp d []) r (b :: (fps.set o (fp d)).flatten)
  have er : fp' r = b :: (A ++ (fp d ++ B)) := by show upd _ _ _ _ = _; rw [upd_self, e2]
  have ed : fp' d = [] := by show upd _ _ _ _ = _; rw [upd_other _ _ _ _ hne, upd_self]
  have eo : ∀ q, q ≠ r → q ≠ d → fp' q = fp q := fun q h1 h2 => by show upd _ _ _ _ = _; rw [upd_other _ _ _ _ h1, upd_other _ _ _ _ h2]
  have sub : ∀ q b', b' ∈ fp' q → (q = r ∧ (b' ∈ fp r ∨ b' ∈ fp d)) ∨ (q ≠ r ∧ q ≠ d ∧ b' ∈ fp q) := fun q b' hq => by
    by_cases h1 : q = r
    · subst h1
      refine .inl ⟨rfl, ?_⟩
      rw [er] at hq
      rw [hfp, e1]
      simp only [List.mem_cons, List.mem_append] at hq ⊢
      rcases hq with h | h | h | h
      · exact .inl (.inl h)
      · exact .inl (.inr (.inl h))
      · exact .inr h
      · exact .inl (.inr (.inr h))
    · by_cases h2 : q = d
      · subst h2; rw [ed] at hq; simp at hq
      · rw [eo q h1 h2] at hq; exact .inr ⟨h1, h2, hq⟩
  have hOb : Ob X fp' = Ob X fp := funext fun b' => propext ⟨fun h => by
    rcases h with h | ⟨q, hq⟩
    · exact .inl h
    · rcases sub q b' hq with ⟨rfl, h | h⟩ | ⟨_, _, h⟩
      · exact .inr ⟨_, h⟩
      · exact .inr ⟨_, h⟩
      · exact .inr ⟨_, h⟩, fun h => by
    rcases h with h | ⟨q, hq⟩
    · exact .inl h
    · refine .inr ?_
      by_cases h1 : q = r
      · subst h1
        refine ⟨q, ?_⟩
        rw [er]
        rw [hfp, e1] at hq
        simp only [List.mem_cons, List.mem_append] at hq ⊢
        rcases hq with h | h | h
        · exact .inl h
        · exact .inr (.inl h)
        · exact .inr (.inr (.inr h))
      · by_cases h2 : q = d
        · subst h2
          refine ⟨r, ?_⟩
          rw [er]; simp [hq]
        · exact ⟨q, by rw [eo q h1 h2]; exact hq⟩⟩
  have back : ∀ q b', b' ∈ fp' q → ∃ q', b' ∈ fp q' := fun q b' h => by
    rcases sub q b' h with ⟨rfl, h | h⟩ | ⟨_, _, h⟩ <;> exact ⟨_, h⟩
  refine ⟨hs, fp', g.size, g.defers, fun i => ?_, fun q => ?_, fun q q' b' h h' => ?_, fun q => ?_, fun q b' h => ?_, g.xold, g.xout, fun q b' h => ?_, g.hist, fun q t' lk' h => ?_, g.hdr, g.small, g.pin⟩
  · rw [hOb]; exact g.env i
  · rw [hOb]
    show RootOK w _ hs (upd (upd S.roots d .dead) r _ q) (hs q) (fp' q)
    by_cases hq : q = r
    · subst hq
      rw [upd_self, er, ← e2, hxr]
      refine hmk w _ _ cs _ _ _ hb rfl (by simp) (by simpa using hf) (fun i hi => ?_) (fun p hp => hl p (List.mem_filter.1 hp).1)
      have hi' : i < l.length := by simpa using hi
      by_cases hio : o = i
      · subst hio
        simp only [List.getElem_set_self]
        rw [set_getD_self (by omega)]
        exact hox
      · simp only [List.getElem_set_ne hio]
        rw [set_getD_other hio]
        exact hrr i hi'
    · rw [upd_other _ _ _ _ hq]
      by_cases hqd : q = d
      · subst hqd; rw [upd_self, ed]; rfl
      · rw [upd_other _ _ _ _ hqd, eo q hq hqd]; exact g.root q
  · rcases sub q b' h with ⟨rfl, h1⟩ | ⟨h1, h2, h3⟩ <;> rcases sub q' b' h' with ⟨rfl, h1'⟩ | ⟨h1', h2', h3'⟩
    · rfl
    · rcases h1 with h1 | h1
      · exact (h1' (g.disj _ _ b' h3' h1)).elim
      · exact (h2' (g.disj _ _ b' h3' h1)).elim
    · rcases h1' with h1' | h1'
      · exact (h1 (g.disj _ _ b' h3 h1')).elim
      · exact (h2 (g.disj _ _ b' h3 h1')).elim
    · exact g.disj _ _ b' h3 h3'
  · by_cases hq : q = r
    · subst hq
      rw [er]
      obtain ⟨n1, n2⟩ := List.nodup_cons.1 hnr
      obtain ⟨n3, n4, n5⟩ := List.nodup_append.1 n2
      refine List.nodup_cons.2 ⟨fun hm => ?_, List.nodup_append.2 ⟨n3, List.nodup_append.2 ⟨g.nodup d, n4, fun z hz z' hz' e => ?_⟩, fun z hz z' hz' e => ?_⟩⟩
      · simp only [List.mem_append] at hm n1
        rcases hm with h | h | h
        · exact n1 (.inl h)
        · exact (hdr b h).1 rfl
        · exact n1 (.inr h)
      · subst e; exact (hdr z hz).2.2 hz'
      · subst e
        rcases List.mem_append.1 hz' with h | h
        · exact (hdr z h).2.1 hz
        · exact n5 z hz z h rfl
    · by_cases hqd : q = d
      · subst hqd; rw [ed]; simp
      · rw [eo q hq hqd]; exact g.nodup q
  · obtain ⟨q', h'⟩ := back q b' h; exact g.foreign q' b' h'
  · obtain ⟨q', h'⟩ := back q b' h; exact g.mine q' b' h'
  · have h : upd (upd S.roots d .dead) r ((S.roots r).with (l.set o t) (lk.filter fun p => p.1 < o || o + 1 ≤ p.1)) q = .live t' lk' := h
    by_cases hq : q = r
    · subst hq
      rw [upd_self] at h
      rcases Root.cells_spec hr with ⟨s, h1⟩ | h1 <;> rw [h1] at h <;> cases h <;> rfl
    · rw [upd_other _ _ _ _ hq] at h
      by_cases hqd : q = d
      · subst hqd; rw [upd_self] at h; cases h
      · rw [upd_other _ _ _ _ hqd] at h; exact g.rooty q t' lk' h
end Go.Ab

/- The abstract layer, part 37: the one opened child of a box goes back. -/
namespace Go.Ab
theorem Weak.close1 {n : Nat} {S : St} (r o d : Nat) {t : T} {l : List T} (hd : S.roots d = .live t []) (hr : (S.roots r).cells = some (l, [(o, d)])) (hne : d ≠ r) (hc : l[o]? = some .any) :
    Weak n S ⟨S.env, upd (upd S.roots d .dead) r ((S.roots r).with (l.set o t) [])⟩ := by
  have h := Weak.close (n := n) r o d hd hr hne hc (by simp)
  have e : ([(o, d)] : List (Nat × Nat)).filter (fun p => decide (p.1 < o) || decide (o + 1 ≤ p.1)) = [] := by
    rw [List.filter_cons_of_neg (by simp), List.filter_nil]
  rw [e] at h
  exact h
/-- Anything weak may be done ahead of a call. -/
theorem CallW.weak {P : Program} {n : Nat} {d : Option Nat} {f : Operand} {ops : List Operand} {K : St → Prop} {S S' : St} (h : Weak n S S') (hk : CallW P n d f ops K S') : CallW P n d f ops K S := fun o ts h1 h2 h3 X w0 O0 a w hs fp g Q => by
  obtain ⟨hs', fp', g'⟩ := h X w0 O0 a w hs fp g
  exact hk o ts h1 h2 h3 X w0 O0 a w hs' fp' g' Q
end Go.Ab
