/- The abstract layer, part 3: operations that read memory or compute addresses. -/
import Derived.Test.YtbilpaghpgomeaaAb2
set_option linter.unusedSimpArgs false
set_option linter.unusedVariables false
namespace Go.Ab


-- what is asked of a type
def tyAgg (P : Program) (t : TypeId) : Option Bool := (P.underlying t).map fun | .struct _ => true | .array _ _ => true | _ => false
def tySize (P : Program) (t : TypeId) : Option Nat := (P.info? t).map (·.size)
def tyBytes (P : Program) (t : TypeId) : Option Nat := (P.info? t).map (·.bytes)
def tyElem (P : Program) (t : TypeId) : Option TypeId := (P.underlying t).bind fun | .slice e => some e | _ => none
def tyInt (P : Program) (t : TypeId) : Option IntKind := (P.underlying t).bind fun | .int k => some k | _ => none
def tyStr (P : Program) (t : TypeId) : Bool := match P.underlying t with | some .string => true | _ => false
/-- The cells per element of a slice type. -/
def tyEs (P : Program) (t : TypeId) : Option Nat := (tyElem P t).bind (tySize P)
def tyEb (P : Program) (t : TypeId) : Option Nat := (tyElem P t).bind (tyBytes P)
/-- The place of a field: its offset; its cells; is it a struct or an array itself. -/
def tyField (P : Program) (t : TypeId) (f : Nat) : Option (Nat × Nat × Bool) :=
  (P.underlying t).bind fun
    | .struct fs => (fs[f]?).bind fun fd => (tySize P fd.type).bind fun z => (tyAgg P fd.type).map fun g => (fd.offset, z, g)
    | _ => none

theorem tyElem_spec {P : Program} {t e : TypeId} (h : tyElem P t = some e) : P.underlying t = some (.slice e) := by
  unfold tyElem at h
  cases hu : P.underlying t with
  | none => simp [hu] at h
  | some d => rw [hu] at h; cases d <;> simp at h; rw [h]
theorem tySize_spec {P : Program} {t z : Nat} (h : tySize P t = some z) : ∃ i, P.info? t = some i ∧ i.size = z := by
  unfold tySize at h
  cases hu : P.info? t with
  | none => simp [hu] at h
  | some d => simp [hu] at h; exact ⟨d, rfl, h⟩
theorem tyBytes_spec {P : Program} {t z : Nat} (h : tyBytes P t = some z) : ∃ i, P.info? t = some i ∧ i.bytes = z := by
  unfold tyBytes at h
  cases hu : P.info? t with
  | none => simp [hu] at h
  | some d => simp [hu] at h; exact ⟨d, rfl, h⟩
theorem tyEs_spec {P : Program} {t z : Nat} (h : tyEs P t = some z) : ∃ e i, P.underlying t = some (.slice e) ∧ P.info? e = some i ∧ i.size = z := by
  unfold tyEs at h
  cases he : tyElem P t with
  | none => simp [he] at h
  | some e => simp [he] at h; obtain ⟨i, hi, hz⟩ := tySize_spec h; exact ⟨e, i, tyElem_spec he, hi, hz⟩
theorem tyInt_spec {P : Program} {t : TypeId} {k : IntKind} (h : tyInt P t = some k) : P.underlying t = some (.int k) := by
  unfold tyInt at h
  cases hu : P.underlying t with
  | none => simp [hu] at h
  | some d => rw [hu] at h; cases d <;> simp at h; rw [h]
theorem tyAgg_spec {P : Program} {t : TypeId} {b : Bool} (h : tyAgg P t = some b) (w : World) : (isAgg t).run P w = .ok b w := by
  unfold tyAgg at h
  cases hu : P.underlying t with
  | none => simp [hu] at h
  | some d =>
    rw [hu] at h; simp only [Option.map_some, Option.some.injEq] at h
    subst h
    cases d <;> simp [isAgg, run_underlying hu]
theorem tySize_run {P : Program} {t z : Nat} (h : tySize P t = some z) (w : World) : (sizeOf t).run P w = .ok z w := by
  obtain ⟨i, hi, hz⟩ := tySize_spec h
  simp [sizeOf, typeInfo, hi, hz]

theorem cells_at {w : World} {b o : Nat} {cs : Array Value} {e : TypeId} {fz : Nat × Nat} (hb : w.heap[b]? = some (.cells cs e fz)) (h : o < cs.size) :
    w.cell? ⟨b, o, none⟩ = some (cs.getD o undef) := by
  simp [World.cell?, hb, Array.getD_eq_getD_getElem?, h]
theorem addr_add (b o k : Nat) : (⟨b, o, none⟩ : Addr).add k = ⟨b, o + k, none⟩ := by
  unfold Addr.add; split <;> simp_all

theorem run_loadVar1 {P : Program} {t : TypeId} (h : tyAgg P t = some false) {w : World} {ad : Addr} {v : Value} (hc : w.cell? ad = some v) : (loadVar t ad).run P w = .ok v w := by
  simp [loadVar, tyAgg_spec h, Go.load, Sem.run, hc]
theorem run_loadVarN {P : Program} {t z : Nat} (h : tyAgg P t = some true) (hz : tySize P t = some z) {w : World} {b o : Nat} {cs : Array Value} {e : TypeId} {fz : Nat × Nat}
    (hb : w.heap[b]? = some (.cells cs e fz)) (hsz : o + z ≤ cs.size) : (loadVar t ⟨b, o, none⟩).run P w = .ok (.agg ((List.range z).map fun i => cs.getD (o + i) undef).toArray) w := by
  have hl := run_loadCells (P := P) (w := w) ⟨b, o, none⟩ z (fun i => cs.getD (o + i) undef) (fun j hj => by rw [addr_add]; exact cells_at hb (by omega))
  simp only [loadVar, Sem.run_bind, tyAgg_spec h, Result.andThen_ok, tySize_run hz, if_true]
  simp [hl]

/-- No owned part in it: it may be copied. -/
def T.flat : T → Bool
  | .any | .v _ | .sh _ _ | .pin _ _ | .fn _ _ => true
  | _ => false

theorem Ow.flat_rd {w : World} {O : Nat → Prop} {t : T} {x : Value} {fp : List Nat} (h : Ow w O t x fp) (hf : t.flat = true) : Rd w O t x ∧ fp = [] := by
  cases h with
  | rd h => exact ⟨h, rfl⟩
  | arrNil => simp [T.flat] at hf
  | arr => simp [T.flat] at hf
  | box => simp [T.flat] at hf
  | agg => simp [T.flat] at hf
  | tup => simp [T.flat] at hf

theorem Is.own_inv {w : World} {O : Nat → Prop} {hs : Nat → Option Value} {r : Nat} {v : Value} (h : Is w O hs (.own r) v) : hs r = some v := by cases h; assumption

section
variable {P : Program} {X : Nat → Prop} {w0 : World} {O0 : Fr} {n : Nat} {S : St} {a : Act} {w : World} {hs : Nat → Option Value} {fp : Nat → List Nat}
/-- A live slice root, in memory. -/
theorem Good.arr (g : Good X w0 O0 n S a w hs fp) {r s : Nat} {l : List T} {lk : List (Nat × Nat)} (h : S.roots r = .live (.arr s l) lk) :
    (hs r = some (.slice none 0 0) ∧ l = [] ∧ fp r = [] ∧ lk = []) ∨ ∃ (b len cap : Nat) (cs : Array Value) (e : TypeId) (fps : List (List Nat)), hs r = some (.slice (some ⟨b, 0, none⟩) len cap) ∧ w.heap[b]? = some (.cells cs e (0, 0)) ∧ l.length = len * s ∧ len ≤ cap ∧ cap ≤ maxLen ∧
      cs.size = cap * s ∧ fps.length = l.length ∧ (∀ i (h : i < l.length), Ow w (Ob X fp) l[i] (cs.getD i undef) (fps.getD i [])) ∧ fp r = b :: fps.flatten ∧ l.length ≤ cs.size ∧
      ∀ p ∈ lk, ∃ y, w.cell? ⟨b, p.1, none⟩ = some y ∧ hs p.2 = some y := by
  have hr := g.root r
  rw [h] at hr
  obtain ⟨x, hx, ho, hlk⟩ := hr
  generalize hfp : fp r = f at ho
  cases ho with
  | rd hh => cases hh
  | arrNil =>
    refine .inl ⟨hx, rfl, rfl, ?_⟩
    cases lk with
    | nil => rfl
    | cons p q => obtain ⟨y, hy, _⟩ := hlk p (by simp); simp [cellOf] at hy
  | arr _ _ b len cap cs e fps hb hl hc hm hsz hf hr =>
    refine .inr ⟨b, len, cap, cs, e, fps, hx, hb, hl, hc, hm, hsz, hf, hr, rfl, ?_, fun p hp => ?_⟩
    · rw [hl, hsz]; exact Nat.mul_le_mul_right _ hc
    · obtain ⟨y, hy, hd⟩ := hlk p hp
      exact ⟨y, by simpa [cellOf] using hy, hd⟩
/-- A live variable's root, in memory. -/
theorem Good.box (g : Good X w0 O0 n S a w hs fp) {r : Nat} {l : List T} {lk : List (Nat × Nat)} (h : S.roots r = .live (.box l) lk) :
    ∃ (b : Nat) (cs : Array Value) (e : TypeId) (fps : List (List Nat)), hs r = some (.pointer (some ⟨b, 0, none⟩)) ∧ w.heap[b]? = some (.cells cs e (0, 0)) ∧ l.length = cs.size ∧ fps.length = l.length ∧
      (∀ i (h : i < l.length), Ow w (Ob X fp) l[i] (cs.getD i undef) (fps.getD i [])) ∧ fp r = b :: fps.flatten ∧ ∀ p ∈ lk, ∃ y, w.cell? ⟨b, p.1, none⟩ = some y ∧ hs p.2 = some y := by
  have hr := g.root r
  rw [h] at hr
  obtain ⟨x, hx, ho, hlk⟩ := hr
  generalize hfp : fp r = f at ho
  cases ho with
  | rd hh => cases hh
  | box _ b cs e fps hb hl hf hr =>
    refine ⟨b, cs, e, fps, hx, hb, hl, hf, hr, rfl, fun p hp => ?_⟩
    obtain ⟨y, hy, hd⟩ := hlk p hp
    exact ⟨y, by simpa [cellOf] using hy, hd⟩
end

/-- The cells of a root that is live. -/
def Root.cells : Root → Option (List T × List (Nat × Nat))
  | .live (.arr _ l) lk => some (l, lk)
  | .live (.box l) lk => some (l, lk)
  | _ => none

section
variable {P : Program} {n : Nat} {S : St} {K : St → Prop}

/-- len of a slice or a string. -/
def lenW (P : Program) (t : TypeId) (x : A) (S : St) (K : A → Prop) : Prop :=
  match x with
  | .t (.v (.string s)) => tyStr P t = true ∧ K (.v (.int .i64 s.size))
  | .t (.v (.slice none 0 0)) => (tyElem P t).isSome = true ∧ K (.v (.int .i64 0))
  | .t (.sh s l) => (tyElem P t).isSome = true ∧ 0 < s ∧ K (.v (.int .i64 ((l.length / s : Nat) : Int)))
  | .own r => (tyElem P t).isSome = true ∧ (match S.roots r with | .live (.arr s l) _ => 0 < s ∧ K (.v (.int .i64 ((l.length / s : Nat) : Int))) | _ => False)
  | .sub _ _ m => (tyElem P t).isSome = true ∧ K (.v (.int .i64 (m : Nat)))
  | _ => False

theorem run_len_slice {t ty : TypeId} (h : (tyElem P t).isSome = true) (a : Option Addr) (m c : Nat) (w : World) : (Builtin.len_ #[t] ty #[.slice a m c]).run P w = .ok (.int .i64 m) w := by
  cases he : tyElem P t with
  | none => simp [he] at h
  | some e => simp [Builtin.len_, run_underlying (tyElem_spec he), goInt]

theorem exec_len {ρ : Operand → Value} {o : Oper} {t : TypeId} {x : Operand} (ho : o.op = .call { callee := .builtin .len, args := #[x], argTypes := #[t] }) {v v' : Value} {w : World}
    (hx : ρ x = v) (h : (Builtin.len_ #[t] o.type #[v]).run P w = .ok v' w) : (execOp ρ o).run P w = .ok (.value v') w := by
  simp [execOp, ho, resolve, invoke, builtin, hx, h]

theorem opW_len {o : Oper} {d : Nat} {t : TypeId} {x : Operand} (ho : o.op = .call { callee := .builtin .len, args := #[x], argTypes := #[t] }) (hdst : o.dst = some d) (hd : d < n)
    (k : lenW P t (S.ev x) S (putK S d K)) : OpW P n o S K := by
  unfold lenW at k
  split at k
  · rename_i s hx
    obtain ⟨ht, hK⟩ := k
    refine OpW.val hdst hd (fun X w0 O0 a w hs fp g => ?_) hK
    have h1 := g.ev x; rw [hx] at h1; have h1' := h1.v_inv
    refine ⟨_, exec_len ho h1' ?_, .t (.v _)⟩
    unfold tyStr at ht
    split at ht
    · rename_i hu; simp [Builtin.len_, run_underlying hu, goInt]
    · cases ht
  · rename_i hx
    obtain ⟨ht, hK⟩ := k
    refine OpW.val hdst hd (fun X w0 O0 a w hs fp g => ?_) hK
    have h1 := g.ev x; rw [hx] at h1
    exact ⟨_, exec_len ho h1.v_inv (run_len_slice ht _ _ _ _), .t (.v _)⟩
  · rename_i s l hx
    obtain ⟨ht, hs0, hK⟩ := k
    refine OpW.val hdst hd (fun X w0 O0 a w hs fp g => ?_) hK
    have h1 := g.ev x; rw [hx] at h1
    rcases h1.sh_inv with ⟨hv, rfl⟩ | ⟨ad, cap, hv, rfl⟩ | ⟨b, off, len, cap, cs, e, fz, hv, _, _, _, hl, _, _⟩
    · exact ⟨_, exec_len ho hv (run_len_slice ht _ _ _ _), by simpa using Is.t (.v _)⟩
    · exact ⟨_, exec_len ho hv (run_len_slice ht _ _ _ _), by simpa using Is.t (.v _)⟩
    · refine ⟨_, exec_len ho hv (run_len_slice ht _ _ _ _), ?_⟩
      rw [hl, Nat.mul_div_cancel _ hs0]; exact .t (.v _)
  · rename_i r hx
    obtain ⟨ht, k⟩ := k
    split at k
    · rename_i s l lk hr
      obtain ⟨hs0, hK⟩ := k
      refine OpW.val hdst hd (fun X w0 O0 a w hs fp g => ?_) hK
      have h1 := g.ev x; rw [hx] at h1; have h1 := h1.own_inv
      rcases g.arr hr with ⟨hv, rfl, _⟩ | ⟨b, len, cap, cs, e, fps, hv, _, hl, _⟩
      · rw [hv, Option.some.injEq] at h1
        exact ⟨_, exec_len ho h1.symm (run_len_slice ht _ _ _ _), by simpa using Is.t (.v _)⟩
      · rw [hv, Option.some.injEq] at h1
        refine ⟨_, exec_len ho h1.symm (run_len_slice ht _ _ _ _), ?_⟩
        rw [hl, Nat.mul_div_cancel _ hs0]; exact .t (.v _)
    · exact k.elim
  · rename_i r off m hx
    obtain ⟨ht, hK⟩ := k
    refine OpW.val hdst hd (fun X w0 O0 a w hs fp g => ?_) hK
    have h1 := g.ev x; rw [hx] at h1
    generalize hv : a.eval x = v at h1
    cases h1 with
    | sub _ _ => exact ⟨_, exec_len ho hv (run_len_slice ht _ _ _ _), .t (.v _)⟩
    | subZ _ => exact ⟨_, exec_len ho hv (run_len_slice ht _ _ _ _), .t (.v _)⟩
    | subNil _ => exact ⟨_, exec_len ho hv (run_len_slice ht _ _ _ _), .t (.v _)⟩
  · exact k.elim

/-- The address of an element. -/
def indexAddrW (P : Program) (t : TypeId) (x i : A) (S : St) (K : A → Prop) : Prop :=
  match i with
  | .t (.v (.int _ iv)) =>
    0 ≤ iv ∧ match tyEs P t with
    | some z => (match x with
      | .t (.sh s l) => s = z ∧ (iv.toNat + 1) * z ≤ l.length ∧ 0 < z ∧ K (.t (.pin l (iv.toNat * z)))
      | .own r => (match S.roots r with | .live (.arr s l) _ => s = z ∧ (iv.toNat + 1) * z ≤ l.length ∧ 0 < z ∧ K (.ptr r (iv.toNat * z)) | _ => False)
      | .sub r off m => iv.toNat < m ∧ K (.ptr r (off + iv.toNat * z))
      | _ => False)
    | none => False
  | _ => False

theorem exec_indexAddr {ρ : Operand → Value} {o : Oper} {t : TypeId} {x y : Operand} (ho : o.op = .indexAddr t x y) {z : Nat} (ht : tyEs P t = some z) {kk : IntKind} {iv : Int} {b off len cap : Nat} {w : World}
    (hx : ρ x = .slice (some ⟨b, off, none⟩) len cap) (hy : ρ y = .int kk iv) (h0 : 0 ≤ iv) (h1 : iv.toNat < len) :
    (execOp ρ o).run P w = .ok (.value (.pointer (some ⟨b, off + iv.toNat * z, none⟩))) w := by
  obtain ⟨e, i, hu, hi, hz⟩ := tyEs_spec ht
  have h2 : 0 ≤ iv ∧ iv < len := ⟨h0, by omega⟩
  simp [execOp, ho, hx, hy, Instr.indexAt, asIntOf, run_underlying hu, Go.sizeOf, typeInfo, hi, hz, h2, addr_add]

theorem lt_of_mul_le {i len z : Nat} (hz : 0 < z) (h : (i + 1) * z ≤ len * z) : i < len := by
  have := Nat.le_of_mul_le_mul_right h hz; omega

theorem opW_indexAddr {o : Oper} {d : Nat} {t : TypeId} {x y : Operand} (ho : o.op = .indexAddr t x y) (hdst : o.dst = some d) (hd : d < n)
    (k : indexAddrW P t (S.ev x) (S.ev y) S (putK S d K)) : OpW P n o S K := by
  unfold indexAddrW at k
  split at k
  · rename_i kk iv hy
    obtain ⟨h0, k⟩ := k
    split at k
    · rename_i z hz
      split at k
      · rename_i s l hx
        obtain ⟨rfl, hle, hz0, hK⟩ := k
        refine OpW.val hdst hd (fun X w0 O0 a w hs fp g => ?_) hK
        have h2 := g.ev y; rw [hy] at h2; have h2' := h2.v_inv
        have h1 := g.ev x; rw [hx] at h1
        rcases h1.sh_inv with ⟨hv, rfl⟩ | ⟨ad, cap, hv, rfl⟩ | ⟨b, off, len, cap, cs, e, fz, hv, hO, hb, hsz, hl, hc, hr⟩
        · simp at hle; have := Nat.mul_le_mul_right s (Nat.le_add_left 1 iv.toNat); omega
        · simp at hle; have := Nat.mul_le_mul_right s (Nat.le_add_left 1 iv.toNat); omega
        · exact ⟨_, exec_indexAddr ho hz hv h2' h0 (lt_of_mul_le hz0 (hl ▸ hle)), .t (.pin l _ b off cs e fz hO hb hsz hr)⟩
      · rename_i r hx
        split at k
        · rename_i s l lk hr
          obtain ⟨rfl, hle, hz0, hK⟩ := k
          refine OpW.val hdst hd (fun X w0 O0 a w hs fp g => ?_) hK
          have h2 := g.ev y; rw [hy] at h2; have h2' := h2.v_inv
          have h1 := g.ev x; rw [hx] at h1; have h1 := h1.own_inv
          rcases g.arr hr with ⟨hv, rfl, _⟩ | ⟨b, len, cap, cs, e, fps, hv, _, hl, _⟩
          · simp at hle; have := Nat.mul_le_mul_right s (Nat.le_add_left 1 iv.toNat); omega
          · rw [hv, Option.some.injEq] at h1
            exact ⟨_, exec_indexAddr ho hz h1.symm h2' h0 (lt_of_mul_le hz0 (hl ▸ hle)), by simpa using Is.ptrS hv⟩
        · exact k.elim
      · rename_i r off m hx
        obtain ⟨hlt, hK⟩ := k
        refine OpW.val hdst hd (fun X w0 O0 a w hs fp g => ?_) hK
        have h2 := g.ev y; rw [hy] at h2; have h2' := h2.v_inv
        have h1 := g.ev x; rw [hx] at h1
        generalize hv : a.eval x = v at h1
        cases h1 with
        | sub hr hc => exact ⟨_, exec_indexAddr ho hz hv h2' h0 hlt, .ptrS hr⟩
        | subZ hr => omega
        | subNil hr => omega
      · exact k.elim
    · exact k.elim
  · exact k.elim

/-- The address of a field. -/
def fieldAddrW (P : Program) (t : TypeId) (x : A) (f : Nat) (S : St) (K : A → Prop) : Prop :=
  match tyField P t f with
  | some (off, z, _) => 0 < z ∧ (match x with
    | .t (.pin l o) => K (.t (.pin l (o + off)))
    | .ptr r o => K (.ptr r (o + off))
    | .own r => (match S.roots r with | .live (.box _) _ => K (.ptr r off) | _ => False)
    | _ => False)
  | none => False

theorem tyField_spec {t f off z : Nat} {ag : Bool} (h : tyField P t f = some (off, z, ag)) : ∃ fs fd, P.underlying t = some (.struct fs) ∧ fs[f]? = some fd ∧ fd.offset = off ∧ tySize P fd.type = some z ∧ tyAgg P fd.type = some ag := by
  unfold tyField at h
  cases hu : P.underlying t with
  | none => simp [hu] at h
  | some d =>
    rw [hu] at h
    cases d <;> simp at h
    rename_i fs
    cases hf : fs[f]? with
    | none => simp [hf] at h
    | some fd =>
      simp only [hf, Option.bind_some] at h
      cases hz : tySize P fd.type with
      | none => simp [hz] at h
      | some z' =>
        cases hg : tyAgg P fd.type with
        | none => simp [hz, hg] at h
        | some g' => simp [hz, hg] at h; exact ⟨fs, fd, rfl, hf, h.1, by rw [hz, h.2.1], by rw [hg, h.2.2]⟩

theorem exec_fieldAddr {ρ : Operand → Value} {o : Oper} {t f : TypeId} {x : Operand} (ho : o.op = .fieldAddr t x f) {off z b o1 : Nat} {ag : Bool} (ht : tyField P t f = some (off, z, ag)) (hz0 : 0 < z) {w : World}
    (hx : ρ x = .pointer (some ⟨b, o1, none⟩)) : (execOp ρ o).run P w = .ok (.value (.pointer (some ⟨b, o1 + off, none⟩))) w := by
  obtain ⟨fs, fd, hu, hf, ho1, hz, _⟩ := tyField_spec ht
  have hz' := tySize_run hz w
  have : ¬ z = 0 := by omega
  simp [execOp, ho, hx, Instr.fieldAt, run_underlying hu, hf, Instr.sureAddr, fieldPlace, hz', this, ho1, addr_add]

theorem opW_fieldAddr {o : Oper} {d f : Nat} {t : TypeId} {x : Operand} (ho : o.op = .fieldAddr t x f) (hdst : o.dst = some d) (hd : d < n)
    (k : fieldAddrW P t (S.ev x) f S (putK S d K)) : OpW P n o S K := by
  unfold fieldAddrW at k
  split at k
  · rename_i off z ag hf
    obtain ⟨hz0, k⟩ := k
    split at k
    · rename_i l o1 hx
      refine OpW.val hdst hd (fun X w0 O0 a w hs fp g => ?_) k
      have h1 := g.ev x; rw [hx] at h1
      generalize hv : a.eval x = v at h1
      cases h1 with
      | t h1 =>
        cases h1 with
        | pin _ _ b oo cs e fz hO hb hsz hr =>
          exact ⟨_, exec_fieldAddr ho hf hz0 hv, .t (by simpa [Nat.add_assoc] using Rd.pin l (o1 + off) b oo cs e fz hO hb hsz hr)⟩
    · rename_i r o1 hx
      refine OpW.val hdst hd (fun X w0 O0 a w hs fp g => ?_) k
      have h1 := g.ev x; rw [hx] at h1
      generalize hv : a.eval x = v at h1
      cases h1 with
      | ptrS hr => exact ⟨_, exec_fieldAddr ho hf hz0 hv, .ptrS hr⟩
      | ptrP hr => exact ⟨_, exec_fieldAddr ho hf hz0 hv, .ptrP hr⟩
    · rename_i r hx
      split at k
      · rename_i l lk hr
        refine OpW.val hdst hd (fun X w0 O0 a w hs fp g => ?_) k
        have h1 := g.ev x; rw [hx] at h1; have h1 := h1.own_inv
        obtain ⟨b, cs, e, fps, hb, _⟩ := g.box hr
        rw [hb, Option.some.injEq] at h1
        exact ⟨_, exec_fieldAddr ho hf hz0 h1.symm, by simpa using Is.ptrP hb⟩
      · exact k.elim
    · exact k.elim
  · exact k.elim
end
end Go.Ab
