/- The abstract layer, part 19: code in a compact form, with the types' facts already looked up, and what it does to a state. -/
import Derived.Test.YtbilpaghpgomeaaAb18
set_option linter.unusedSimpArgs false
set_option linter.unusedVariables false
namespace Go.Ab

inductive CO where
  | move (d : Nat) (x : Operand)
  | pick (d : Nat) (c x y : Operand)
  | bin (d : Nat) (op : BinOp) (x y : Operand)
  | beq (d : Nat) (ne : Bool) (x y : Operand)
  | un (d : Nat) (op : UnOp) (x : Operand)
  | extract (d : Nat) (x : Operand) (i : Nat)
  | lenS (d : Nat) (x : Operand)
  | lenT (d : Nat) (x : Operand)
  | idx (d z : Nat) (x y : Operand)
  | fld (d off : Nat) (x : Operand)
  | load1 (d : Nat) (x : Operand)
  | loadN (d z : Nat) (x : Operand)
  | store (z : Nat) (x v : Operand)
  | alloc (d : Nat) (zs : List T)
  | box (d : Nat) (x : Operand)
  | build (d : Nat) (zs : List T) (pl : List (Nat × Nat)) (parts : List (Nat × Operand))
  | bslice (d z len : Nat) (parts : List (Nat × Operand))
  | make (d : Nat) (zs : List T) (eb : Nat) (l c : Operand)
  | app (d z eb : Nat) (b x : Operand)
  | conv (d : Nat) (k : IntKind) (x : Operand)
  | nilc (d : Nat) (x : Operand)
  | mkf (d f : Nat) (caps : List Operand)
  | mm (d : Nat) (mx : Bool) (x y : Operand)
  | call (d : Option Nat) (f : Operand) (args : List Operand)

def CO.dst : CO → Option Nat
  | .move d _ | .pick d _ _ _ | .bin d _ _ _ | .beq d _ _ _ | .un d _ _ | .extract d _ _ | .lenS d _ | .lenT d _ | .idx d _ _ _ | .fld d _ _ | .load1 d _ | .loadN d _ _ | .alloc d _ | .box d _ | .build d _ _ _ | .bslice d _ _ _ | .make d _ _ _ _
  | .app d _ _ _ _ | .conv d _ _ | .nilc d _ | .mkf d _ _ | .mm d _ _ _ => some d
  | .store _ _ _ => none
  | .call d _ _ => d

def tyBool (P : Program) (t : TypeId) : Bool := match P.underlying t with | some .bool => true | _ => false
theorem tyBool_spec {P : Program} {t : TypeId} (h : tyBool P t = true) : P.underlying t = some .bool := by
  unfold tyBool at h
  split at h
  · rename_i h1; exact h1
  · cases h

def trCall (P : Program) (d : Option Nat) (c : Call) : Option CO :=
  match c.callee with
  | .value f => some (.call d f c.args.toList)
  | .builtin .len => (match d, c.args.toList, c.argTypes.toList with
    | some d, [x], [t] => if tyStr P t then some (.lenT d x) else if (tyElem P t).isSome then some (.lenS d x) else none
    | _, _, _ => none)
  | .builtin .append => (match d, c.args.toList, c.argTypes.toList with
    | some d, [b, x], [t, t'] => if t = t' then (match tyElem P t, tyEs P t, tyEb P t with
      | some e, some z, some eb => (match tyZero P e with
        | some zs => if tySize P e = some zs.length ∧ 0 < z ∧ 0 < eb then some (.app d z eb b x) else none
        | none => none)
      | _, _, _ => none) else none
    | _, _, _ => none)
  | .builtin .max => (match d, c.args.toList with
    | some d, [x, y] => some (.mm d true x y)
    | _, _ => none)
  | .builtin .min => (match d, c.args.toList with
    | some d, [x, y] => some (.mm d false x y)
    | _, _ => none)
  | _ => none

def trD (P : Program) (d : Nat) : Op → Option CO
  | .move x => some (.move d x)
  | .assign x => some (.move d x)
  | .pick c x y => some (.pick d c x y)
  | .binOp op t x y _ => if (tyInt P t).isSome then some (.bin d op x y) else if tyBool P t then (match op with | .eql => some (.beq d false x y) | .neq => some (.beq d true x y) | _ => none) else none
  | .unOp op _ x => some (.un d op x)
  | .extract x i => some (.extract d x i)
  | .indexAddr t x y => (match tyEs P t with | some z => if 0 < z then some (.idx d z x y) else none | none => none)
  | .fieldAddr t x f => (match tyField P t f with | some (off, z, _) => if 0 < z then some (.fld d off x) else none | none => none)
  | .load t x => (match tyAgg P t, tySize P t with
    | some false, _ => some (.load1 d x)
    | some true, some z => if 0 < z then some (.loadN d z x) else none
    | _, _ => none)
  | .alloc t => (match tyZero P t with | some zs => some (.alloc d zs) | none => none)
  | .box _ x => some (.box d x)
  | .build t parts => (match tyZero P t, tyFields P t with | some zs, some pl => some (.build d zs pl parts.toList) | _, _ => none)
  | .buildSlice t len parts => (match tyElem P t, tyEs P t with
    | some e, some z => if (tyZero P e).isSome ∧ 0 < z ∧ len * z ≤ 16777216 then some (.bslice d z len parts.toList) else none
    | _, _ => none)
  | .makeSlice t l c => (match tyElem P t with
    | some e => (match tyZero P e, tyBytes P e, tySize P e with
      | some zs, some eb, some z => if z = zs.length ∧ 0 < eb then some (.make d zs eb l c) else none
      | _, _, _ => none)
    | none => none)
  | .convert s t x => (match tyInt P s, tyInt P t with | some _, some k => some (.conv d k x) | _, _ => none)
  | .nilCheck x => some (.nilc d x)
  | .makeFunc (.func f) bs cap => (match bs.toList with | [] => some (.mkf d f cap.toList) | _ => none)
  | .call c => trCall P (some d) c
  | _ => none

def trN (P : Program) : Op → Option CO
  | .store t x v => (match tySize P t with | some z => if 0 < z then some (.store z x v) else none | none => none)
  | .call c => trCall P none c
  | _ => none

def trO (P : Program) (n : Nat) (o : Oper) : Option CO :=
  match o.dst with
  | some d => if d < n then trD P d o.op else none
  | none => trN P o.op

-- what they do
def pickC (c x y : A) (K : A → Prop) : Prop :=
  match c with
  | .t (.v (.bool b)) => (b = true → K x) ∧ (b = false → K y)
  | _ => False
def beqC (ne : Bool) (x y : A) (K : A → Prop) : Prop :=
  match x, y with
  | .t (.v (.bool a)), .t (.v (.bool b)) => K (.v (.bool (if ne then a != b else a == b)))
  | _, _ => False
def lenC (x : A) (S : St) (K : A → Prop) : Prop :=
  match x with
  | .t (.v (.slice none 0 0)) => K (.v (.int .i64 0))
  | .t (.sh s l) => 0 < s ∧ K (.v (.int .i64 ((l.length / s : Nat) : Int)))
  | .own r => (match S.roots r with | .live (.arr s l) _ => 0 < s ∧ K (.v (.int .i64 ((l.length / s : Nat) : Int))) | _ => False)
  | .sub _ _ m => K (.v (.int .i64 (m : Nat)))
  | _ => False
def lenTC (x : A) (K : A → Prop) : Prop :=
  match x with
  | .t (.v (.string s)) => K (.v (.int .i64 s.size))
  | _ => False
def idxC (z : Nat) (x i : A) (S : St) (K : A → Prop) : Prop :=
  match i with
  | .t (.v (.int _ iv)) => 0 ≤ iv ∧ (match x with
    | .t (.sh s l) => s = z ∧ (iv.toNat + 1) * z ≤ l.length ∧ K (.t (.pin l (iv.toNat * z)))
    | .own r => (match S.roots r with | .live (.arr s l) _ => s = z ∧ (iv.toNat + 1) * z ≤ l.length ∧ K (.ptr r (iv.toNat * z)) | _ => False)
    | .sub r off m => iv.toNat < m ∧ K (.ptr r (off + iv.toNat * z))
    | _ => False)
  | _ => False
def fldC (off : Nat) (x : A) (S : St) (K : A → Prop) : Prop :=
  match x with
  | .t (.pin l o) => K (.t (.pin l (o + off)))
  | .ptr r o => K (.ptr r (o + off))
  | .own r => (match S.roots r with | .live (.box _) _ => K (.ptr r off) | _ => False)
  | _ => False
def load1C (x : A) (d : Nat) (K : St → Prop) (S : St) : Prop :=
  match x with
  | .t (.pin l off) => off < l.length ∧ ∀ c, l[off]? = some c → K { S with env := upd S.env d (.t c) }
  | .ptr r off => (match (S.roots r).cells with
    | some (l, lk) => off < l.length ∧ (match lk.lookup off with
      | some q => K { S with env := upd S.env d (.own q) }
      | none => ∀ c, l[off]? = some c → loadC S r off d l lk c K)
    | none => False)
  | .own r => (match S.roots r with
    | .live (.box l) lk => 0 < l.length ∧ (match lk.lookup 0 with
      | some q => K { S with env := upd S.env d (.own q) }
      | none => ∀ c, l[0]? = some c → loadC S r 0 d l lk c K)
    | _ => False)
  | _ => False
def loadNC (z : Nat) (x : A) (d : Nat) (K : St → Prop) (S : St) : Prop :=
  match x with
  | .t (.pin l off) => off + z ≤ l.length ∧ K { S with env := upd S.env d (.t (.agg ((l.drop off).take z))) }
  | .ptr r off => (match (S.roots r).cells with
    | some (l, lk) => off + z ≤ l.length ∧ ((l.drop off).take z).all T.flat = true ∧ K { S with env := upd S.env d (.t (.agg ((l.drop off).take z))) }
    | none => False)
  | .own r => (match S.roots r with
    | .live (.box l) lk => z ≤ l.length ∧ (l.take z).all T.flat = true ∧ K { S with env := upd S.env d (.t (.agg (l.take z))) }
    | _ => False)
  | _ => False
def storeC (z : Nat) (x v : A) (K : St → Prop) (S : St) : Prop :=
  match addrA S x, compsA v with
  | some (r, off), some as => as.length = z ∧ giveL S as (storeK r off z K)
  | _, _ => False
def buildC (zs : List T) (pl : List (Nat × Nat)) (parts : List (Nat × A)) (K : A → Prop) : Prop :=
  match fillA (fun i => pl[i]?) (zs.map .t) parts with
  | some as => K (.agg as)
  | none => False
def bsliceC (z len d : Nat) (parts : List (Nat × A)) (K : St → Prop) (S : St) : Prop :=
  match fillA (fun i => some (i * z, z)) (List.replicate (len * z) (.t .any)) parts with
  | some as => giveL S as (newK d (.arr z) K)
  | none => False
def makeC (zs : List T) (eb : Nat) (l c : A) (d : Nat) (K : St → Prop) (S : St) : Prop :=
  match l, c with
  | .t (.v (.int _ m)), .t (.v (.int _ m')) => m' = m ∧ 0 ≤ m ∧ m * eb ≤ 281474976710656 ∧ newK d (.arr zs.length) K (made zs m.toNat) S
  | _, _ => False
def convC (k : IntKind) (x : A) (K : A → Prop) : Prop :=
  match x with
  | .t (.v (.int _ m)) => K (.v (.int k (k.wrap m)))
  | _ => False

/-- A call: what is known of it is said by a contract. -/
def CallW (P : Program) (n : Nat) (d : Option Nat) (f : Operand) (as : List Operand) (K : St → Prop) (S : St) : Prop :=
  ∀ (o : Oper) (ts : Array TypeId), o.op = .call { callee := .value f, args := as.toArray, argTypes := ts } → o.dst = d → (∀ k, d = some k → k < n) → OpW P n o S K

def coW (P : Program) (n : Nat) : CO → (St → Prop) → St → Prop
  | .move d x, K, S => putK S d K (S.ev x)
  | .pick d c x y, K, S => pickC (S.ev c) (S.ev x) (S.ev y) (putK S d K)
  | .bin d op x y, K, S => binW op (S.ev x) (S.ev y) (putK S d K)
  | .beq d ne x y, K, S => beqC ne (S.ev x) (S.ev y) (putK S d K)
  | .un d op x, K, S => unW op (S.ev x) (putK S d K)
  | .extract d x i, K, S => extractW (S.ev x) i (putK S d K)
  | .lenS d x, K, S => lenC (S.ev x) S (putK S d K)
  | .lenT d x, K, S => lenTC (S.ev x) (putK S d K)
  | .idx d z x y, K, S => idxC z (S.ev x) (S.ev y) S (putK S d K)
  | .fld d off x, K, S => fldC off (S.ev x) S (putK S d K)
  | .load1 d x, K, S => load1C (S.ev x) d K S
  | .loadN d z x, K, S => loadNC z (S.ev x) d K S
  | .store z x v, K, S => storeC z (S.ev x) (S.ev v) K S
  | .alloc d zs, K, S => newK d .box K zs S
  | .box d x, K, S => boxW (S.ev x) d S K
  | .build d zs pl parts, K, S => buildC zs pl (parts.map fun p => (p.1, S.ev p.2)) (putK S d K)
  | .bslice d z len parts, K, S => bsliceC z len d (parts.map fun p => (p.1, S.ev p.2)) K S
  | .make d zs eb l c, K, S => makeC zs eb (S.ev l) (S.ev c) d K S
  | .app d z eb b x, K, S => baseW S (S.ev b) z (appendK1 (S.ev x) d z eb K)
  | .conv d k x, K, S => convC k (S.ev x) (putK S d K)
  | .nilc d x, K, S => nilCheckW (S.ev x) S (putK S d K)
  | .mkf d f caps, K, S => putK S d K (.fn f (caps.map S.ev))
  | .mm d mx x y, K, S => mmW mx (S.ev x) (S.ev y) (putK S d K)
  | .call d f as, K, S => CallW P n d f as K S

section
variable {P : Program} {n : Nat} {S : St} {K : St → Prop}

theorem opW_pickC {o : Oper} {d : Nat} {c x y : Operand} (ho : o.op = .pick c x y) (hdst : o.dst = some d) (hd : d < n) (k : pickC (S.ev c) (S.ev x) (S.ev y) (putK S d K)) : OpW P n o S K := by
  unfold pickC at k
  split at k
  · rename_i b hc
    refine opW_pick ho hdst hd hc ?_
    cases b
    · exact k.2 rfl
    · exact k.1 rfl
  · exact k.elim

theorem run_equal_bool {t : TypeId} (ht : P.underlying t = some .bool) (a b : Bool) (w : World) : (Op.equal t (.bool a) (.bool b)).run P w = .ok (a == b) w := by
  have key : ∀ d, (Op.equalIn (d + 1) t (.bool a) (.bool b)).run P w = .ok (a == b) w := fun d => by simp [Op.equalIn, run_underlying ht]
  exact key 9999

theorem opW_beq {o : Oper} {d : Nat} {ne : Bool} {t u : TypeId} {x y : Operand} (ht : P.underlying t = some .bool) (ho : o.op = .binOp (if ne then .neq else .eql) t x y u) (hdst : o.dst = some d) (hd : d < n) (k : beqC ne (S.ev x) (S.ev y) (putK S d K)) : OpW P n o S K := by
  unfold beqC at k
  split at k
  · rename_i a1 b1 hx hy
    refine OpW.val (x := .t (.v (.bool (if ne then a1 != b1 else a1 == b1)))) hdst hd (fun X w0 O0 a w hs fp g => ?_) k
    have h1 := g.ev x; rw [hx] at h1; have h1 := h1.v_inv
    have h2 := g.ev y; rw [hy] at h2; have h2 := h2.v_inv
    refine ⟨.bool (if ne then a1 != b1 else a1 == b1), ?_, .t (.v _)⟩
    cases ne <;> simp [execOp, ho, h1, h2, eqGuard, binOp, run_equal_bool ht, bne]
  · exact k.elim

theorem toArray_eq {α : Type} {a : Array α} {l : List α} (h : a.toList = l) : a = l.toArray := by subst h; simp

theorem trCall_sound {o : Oper} {c : Call} {co : CO} (ho : o.op = .call c) (hd : ∀ k, o.dst = some k → k < n) (h : trCall P o.dst c = some co) (k : coW P n co K S) : OpW P n o S K := by
  obtain ⟨callee, args, ats⟩ := c
  unfold trCall at h
  split at h
  · rename_i f hf
    cases h
    simp only at hf
    refine k o ats (by rw [ho]; simp [hf]) rfl hd
  · rename_i hf
    simp only at hf
    split at h
    · rename_i d x t hdst hx ht
      have e : o.op = .call { callee := .builtin .len, args := #[x], argTypes := #[t] } := by rw [ho, hf]; simp only at hx ht; rw [toArray_eq hx, toArray_eq ht]
      split at h
      · rename_i hs
        cases h
        refine opW_len e hdst (hd _ hdst) ?_
        simp only [coW] at k
        unfold lenTC at k
        split at k
        · rename_i s hx'; rw [hx']; exact ⟨hs, k⟩
        · exact k.elim
      · split at h
        · rename_i hs
          cases h
          refine opW_len e hdst (hd _ hdst) ?_
          simp only [coW] at k
          unfold lenC at k
          split at k
          · rename_i hx'; rw [hx']; exact ⟨hs, k⟩
          · rename_i hx'; rw [hx']; exact ⟨hs, k⟩
          · rename_i hx'; rw [hx']; exact ⟨hs, k⟩
          · rename_i hx'; rw [hx']; exact ⟨hs, k⟩
          · exact k.elim
        · cases h
    · cases h
  · rename_i hf
    simp only at hf
    split at h
    · rename_i d b x t t' hdst hx ht
      split at h
      · rename_i htt
        subst htt
        have e : o.op = .call { callee := .builtin .append, args := #[b, x], argTypes := #[t, t] } := by rw [ho, hf]; simp only at hx ht; rw [toArray_eq hx, toArray_eq ht]
        split at h
        · rename_i e0 z eb he hz heb
          split at h
          · rename_i zs hzs
            split at h
            · rename_i hc
              cases h
              refine opW_append (u := 0) e hdst (hd _ hdst) he ⟨zs, hzs, hc.1⟩ ?_
              unfold appendW
              rw [hz, heb]
              exact ⟨hc.2.1, hc.2.2, k⟩
            · cases h
          · cases h
        · cases h
      · cases h
    · cases h
  · rename_i hf
    simp only at hf
    split at h
    · rename_i d x y hdst hx
      cases h
      exact opW_mm (mx := true) (by rw [ho, hf]; simp only at hx; rw [toArray_eq hx]; rfl) hdst (hd _ hdst) k
    · cases h
  · rename_i hf
    simp only at hf
    split at h
    · rename_i d x y hdst hx
      cases h
      exact opW_mm (mx := false) (by rw [ho, hf]; simp only at hx; rw [toArray_eq hx]; rfl) hdst (hd _ hdst) k
    · cases h
  · cases h

theorem trD_sound {o : Oper} {d : Nat} {co : CO} (hdst : o.dst = some d) (hd : d < n) (h : trD P d o.op = some co) (k : coW P n co K S) : OpW P n o S K := by
  generalize hop : o.op = op at h
  unfold trD at h
  split at h
  · cases h; exact opW_move (.inl hop) hdst hd k
  · cases h; exact opW_move (.inr hop) hdst hd k
  · cases h; exact opW_pickC hop hdst hd k
  · split at h
    · cases h; exact opW_bin hop hdst hd k
    · split at h
      · rename_i ht
        have ht' := tyBool_spec ht
        split at h
        · cases h; exact opW_beq (ne := false) ht' hop hdst hd k
        · cases h; exact opW_beq (ne := true) ht' hop hdst hd k
        · cases h
      · cases h
  · cases h; exact opW_un hop hdst hd k
  · cases h; exact opW_extract hop hdst hd k
  · split at h
    · rename_i z hz
      split at h
      · rename_i hz0
        cases h
        refine opW_indexAddr hop hdst hd ?_
        simp only [coW] at k
        unfold idxC at k
        unfold indexAddrW
        split at k
        · rename_i hy
          rw [hy]
          refine ⟨k.1, ?_⟩
          have k2 := k.2
          rw [hz]
          simp only
          split at k2
          · rename_i hx; rw [hx]; exact ⟨k2.1, k2.2.1, hz0, k2.2.2⟩
          · rename_i hx
            rw [hx]
            simp only
            split at k2
            · rename_i hr; rw [hr]; exact ⟨k2.1, k2.2.1, hz0, k2.2.2⟩
            · exact k2.elim
          · rename_i hx; rw [hx]; exact k2
          · exact k2.elim
        · exact k.elim
      · cases h
    · cases h
  · split at h
    · rename_i off z ag hf
      split at h
      · rename_i hz0
        cases h
        refine opW_fieldAddr hop hdst hd ?_
        unfold fieldAddrW
        rw [hf]
        exact ⟨hz0, k⟩
      · cases h
    · cases h
  · split at h
    · rename_i ht
      cases h
      refine opW_load hop hdst hd ?_
      unfold loadW
      rw [ht]
      exact k
    · rename_i z ht hz
      split at h
      · rename_i hz0
        cases h
        refine opW_load hop hdst hd ?_
        unfold loadW
        rw [ht]
        simp only [coW] at k
        unfold loadNC at k
        split at k
        · rename_i hx; rw [hx]; simp only [hz]; exact ⟨k.1, fun _ h => h ▸ k.2⟩
        · rename_i hx; rw [hx]; simp only [hz]
          split at k
          · rename_i hr; simp only [hr]; exact ⟨hz0, k.1, fun _ h => h ▸ k.2⟩
          · exact k.elim
        · rename_i hx; rw [hx]; simp only [hz]
          split at k
          · rename_i hr; simp only [hr]; exact ⟨hz0, k.1, fun _ h => h ▸ k.2⟩
          · exact k.elim
        · exact k.elim
      · cases h
    · cases h
  · split at h
    · rename_i zs hz
      cases h
      refine opW_alloc hop hdst hd ?_
      unfold allocW
      rw [hz]; exact k
    · cases h
  · cases h; exact opW_box hop hdst hd k
  · split at h
    · rename_i zs pl hz hf
      cases h
      refine opW_build hop hdst hd ?_
      unfold buildW
      rw [hz]
      have e : ∀ t', tyFields P t' = some pl → tyPlace P t' = fun i => pl[i]? := fun t' h' => by funext i; simp [tyPlace, h']
      rw [e _ hf]
      exact ⟨.inl (by rw [hf]; rfl), k⟩
    · cases h
  · split at h
    · rename_i e z he hz
      split at h
      · rename_i hc
        cases h
        refine opW_buildSlice hop hdst hd he hc.1 ?_
        unfold buildSliceW
        rw [hz]
        exact ⟨hc.2.2, hc.2.1, k⟩
      · cases h
    · cases h
  · split at h
    · rename_i e he
      split at h
      · rename_i zs eb z hzs heb hz
        split at h
        · rename_i hc
          cases h
          refine opW_make hop hdst hd he (fun zs' h' => ?_) ?_
          · rw [hzs] at h'; cases h'; rw [hz, hc.1]
          · unfold makeW
            simp only [coW] at k
            unfold makeC at k
            split at k
            · rename_i hl hcc
              rw [he, hl, hcc]
              refine ⟨k.1, k.2.1, ?_⟩
              simp only [hzs, heb]
              exact ⟨hc.2, k.2.2⟩
            · exact k.elim
        · cases h
      · cases h
    · cases h
  · split at h
    · rename_i h1 h2
      cases h
      refine opW_convert hop hdst hd ?_
      unfold convertW
      simp only [coW] at k
      unfold convC at k
      split at k
      · rename_i hx; rw [h1, h2, hx]; exact k
      · exact k.elim
    · cases h
  · cases h; exact opW_nilCheck hop hdst hd k
  · split at h
    · rename_i hb
      cases h
      exact opW_makeFunc (by rw [hop, toArray_eq hb]) hdst hd k
    · cases h
  · rw [← hdst] at h
    exact trCall_sound hop (fun k hk => by rw [hdst] at hk; cases hk; exact hd) h k
  · cases h

theorem trN_sound {o : Oper} {co : CO} (hdst : o.dst = none) (h : trN P o.op = some co) (k : coW P n co K S) : OpW P n o S K := by
  generalize hop : o.op = op at h
  unfold trN at h
  split at h
  · split at h
    · rename_i z hz
      split at h
      · cases h
        refine opW_store hop hdst ?_
        simp only [coW] at k
        unfold storeC at k
        unfold storeW
        split at k
        · rename_i h1 h2; rw [h1, hz, h2]; exact k
        · exact k.elim
      · cases h
    · cases h
  · rw [← hdst] at h
    exact trCall_sound hop (fun k hk => by rw [hdst] at hk; cases hk) h k
  · cases h

theorem trO_sound {o : Oper} {co : CO} (h : trO P n o = some co) (k : coW P n co K S) : OpW P n o S K := by
  unfold trO at h
  split at h
  · rename_i d hd
    split at h
    · rename_i hn; exact trD_sound hd hn h k
    · cases h
  · rename_i hd; exact trN_sound hd h k
end
end Go.Ab
