/- The abstract layer, part 16: calls by contract. -/
import Derived.Test.YtbilpaghpgomeaaAb15
set_option linter.unusedSimpArgs false
set_option linter.unusedVariables false
namespace Go.Ab

mutual
/-- Owned parts as parts that are only read. -/
def T.toSh : T → T
  | .arr s l => .sh s (T.toShL l)
  | .box l => .pin (T.toShL l) 0
  | .agg l => .agg (T.toShL l)
  | .tup l => .tup (T.toShL l)
  | t => t
def T.toShL : List T → List T
  | [] => []
  | t :: l => T.toSh t :: T.toShL l
end
theorem T.toShL_length : ∀ l : List T, (T.toShL l).length = l.length
  | [] => rfl
  | t :: l => by simp [T.toShL, T.toShL_length l]
theorem T.toShL_get : ∀ (l : List T) (i : Nat) (h : i < (T.toShL l).length), (T.toShL l)[i] = (l[i]'(by rwa [T.toShL_length] at h)).toSh
  | t :: l, 0, h => rfl
  | t :: l, i + 1, h => by simpa [T.toShL] using T.toShL_get l i (by simpa [T.toShL] using h)
theorem T.toShL_eq_map : ∀ l : List T, T.toShL l = l.map T.toSh
  | [] => rfl
  | t :: l => by simp [T.toShL, T.toShL_eq_map l]

theorem Rd.toSh {w : World} {O O' : Nat → Prop} (hO : ∀ b, ¬ O b → b < w.heap.size → ¬ O' b) {t : T} {x : Value} (h : Rd w O t x) : Rd w O' t.toSh x := by
  induction h with
  | any x => exact .any x
  | v x => exact .v x
  | shNil s => exact .shNil s
  | shZ s ad cap => exact .shZ s ad cap
  | sh s l b off len cap cs e fz hn hb hsz hl hc hr ih => exact .sh s l b off len cap cs e fz (hO b hn (Array.getElem?_eq_some_iff.1 hb).1) hb hsz hl hc fun i h => (hr i h).mono (fun _ _ _ _ _ h => h) hO
  | pin l off b o cs e fz hn hb hsz hr ih => exact .pin l off b o cs e fz (hO b hn (Array.getElem?_eq_some_iff.1 hb).1) hb hsz fun i h => (hr i h).mono (fun _ _ _ _ _ h => h) hO
  | fn f cap vs hl hr ih => exact .fn f cap vs hl fun i h => (hr i h).mono (fun _ _ _ _ _ h => h) hO
  | agg l vs hl hr ih => exact .agg _ vs (by rw [T.toShL_length]; exact hl) fun i h => by rw [T.toShL_get]; exact ih i _
  | tup l vs hl hr ih => exact .tup _ vs (by rw [T.toShL_length]; exact hl) fun i h => by rw [T.toShL_get]; exact ih i _

theorem Ow.toSh {w : World} {O O' : Nat → Prop} {t : T} {x : Value} {fp : List Nat} (h : Ow w O t x fp) (hO : ∀ b, ¬ O b → b < w.heap.size → ¬ O' b) (hf : ∀ b ∈ fp, ¬ O' b) : Rd w O' t.toSh x := by
  induction h with
  | rd h => exact h.toSh hO
  | arrNil s => exact .shNil s
  | arr s l b len cap cs e fps hb hl hc hm hsz hfl hr ih =>
    refine .sh s _ b 0 len cap cs e (0, 0) (hf b (by simp)) hb ?_ (by rw [T.toShL_length]; exact hl) hc fun i h => ?_
    · rw [T.toShL_length, hl, hsz, Nat.zero_add]; exact Nat.mul_le_mul_right _ hc
    · rw [T.toShL_get, Nat.zero_add]
      exact ih i _ fun b' hb' => hf b' (List.mem_cons_of_mem _ (mem_flatten_getD hb'))
  | box l b cs e fps hb hl hfl hr ih =>
    refine .pin _ 0 b 0 cs e (0, 0) (hf b (by simp)) hb (by rw [T.toShL_length]; omega) fun i h => ?_
    rw [T.toShL_get, Nat.zero_add]
    exact ih i _ fun b' hb' => hf b' (List.mem_cons_of_mem _ (mem_flatten_getD hb'))
  | agg l vs fps hl hfl hr ih =>
    refine .agg _ vs (by rw [T.toShL_length]; exact hl) fun i h => ?_
    rw [T.toShL_get]; exact ih i _ fun b' hb' => hf b' (mem_flatten_getD hb')
  | tup l vs fps hl hfl hr ih =>
    refine .tup _ vs (by rw [T.toShL_length]; exact hl) fun i h => ?_
    rw [T.toShL_get]; exact ih i _ fun b' hb' => hf b' (mem_flatten_getD hb')

/-- A by-value argument, in one piece. -/
def vb (S : St) (bor : List Nat) (x : T) (a : A) : Prop :=
  match a with
  | .t y => maT x y
  | .own q => q ∈ bor ∧ ∃ t, S.roots q = .live t [] ∧ x = t.toSh
  | .sub q off m => q ∈ bor ∧ ∃ s l, S.roots q = .live (.arr s l) [] ∧ off + m * s ≤ l.length ∧ x = .sh s (((T.toShL l).drop off).take (m * s))
  | .ptr q off => q ∈ bor ∧ ∃ l, (S.roots q).cells = some (l, []) ∧ 0 < l.length ∧ x = .pin (T.toShL l) off
  | _ => False

mutual
/-- A by-value argument x is what the slot's a reads as; the roots in bor are lent. -/
def vt (S : St) (bor : List Nat) : T → A → Prop
  | .any, _ => True
  | .agg xs, a => (match a with | .agg as => vtL S bor xs as | .t y => T.agg xs = y | _ => False)
  | .fn f xs, a => (match a with | .fn f' as => f = f' ∧ vtL S bor xs as | .t y => T.fn f xs = y | _ => False)
  | x, a => vb S bor x a
def vtL (S : St) (bor : List Nat) : List T → List A → Prop
  | [], as => as = []
  | x :: xs, as => (match as with | a :: as => vt S bor x a ∧ vtL S bor xs as | [] => False)
end

mutual
/-- An argument of a contract is what the slot holds; the contract's root i is the caller's root srcs[i]. -/
def va (S : St) (srcs bor : List Nat) : A → A → Prop
  | .t x, a => vt S bor x a
  | .own j, a => (match a with | .own q => 1000000000 ≤ j ∧ srcs[j - 1000000000]? = some q | _ => False)
  | .sub j o m, a => (match a with | .sub q o' m' => 1000000000 ≤ j ∧ srcs[j - 1000000000]? = some q ∧ o = o' ∧ m = m' | _ => False)
  | .ptr j o, a => (match a with | .ptr q o' => 1000000000 ≤ j ∧ srcs[j - 1000000000]? = some q ∧ o = o' | _ => False)
  | .agg l, a => (match a with | .agg l' => vaL S srcs bor l l' | _ => False)
  | .tup l, a => (match a with | .tup l' => vaL S srcs bor l l' | _ => False)
  | .fn f l, a => (match a with | .fn f' l' => f = f' ∧ vaL S srcs bor l l' | _ => False)
def vaL (S : St) (srcs bor : List Nat) : List A → List A → Prop
  | [], l => l = []
  | a :: l, l' => (match l' with | b :: l' => va S srcs bor a b ∧ vaL S srcs bor l l' | [] => False)
end

section
variable {X : Nat → Prop} {w0 : World} {O0 : Fr} {n : Nat} {S : St} {a : Act} {w : World} {hs : Nat → Option Value} {fp : Nat → List Nat} {srcs bor : List Nat} {O' : Nat → Prop} {hs' : Nat → Option Value}

theorem lst_tail (vs : List Value) (i : Nat) : vs.getD (i + 1) undef = vs.tail.getD i undef := by cases vs <;> simp [List.getD_eq_getElem?_getD]

theorem vt_base (g : Good X w0 O0 n S a w hs fp) (hO : ∀ b, ¬ Ob X fp b → b < w.heap.size → ¬ O' b) (hb : ∀ q ∈ bor, ∀ b ∈ fp q, ¬ O' b) {x : T} {y : A} {v : Value} (hx : Is w (Ob X fp) hs y v)
    (h : vb S bor x y) : Rd w O' x v := by
  cases y with
  | t y => cases hx with | t hx => exact (maT_rd h hx).mono (fun _ _ _ _ _ h => h) hO
  | own q =>
    obtain ⟨hq, t, ht, rfl⟩ := h
    have hr := g.root q
    rw [ht] at hr
    obtain ⟨z, hz, ho, _⟩ := hr
    have hz' := hx.own_inv
    rw [hz, Option.some.injEq] at hz'
    subst hz'
    exact ho.toSh hO (hb q hq)
  | sub q off m =>
    obtain ⟨hq, s, l, hr, hle, rfl⟩ := h
    rcases g.arr hr with ⟨hv, rfl, hfp, _⟩ | ⟨b, len, cap, cs, e, fps, hv, hheap, hl, hcap, hm, hsz, hf, hro, hfp, hlle, _⟩
    · cases hx with
      | sub hr _ => rw [hv] at hr; cases hr
      | subZ hr => rw [hv] at hr; cases hr
      | subNil _ => simpa [T.toShL] using Rd.shNil s
    · cases hx with
      | sub hr hc =>
        rw [hv] at hr; cases hr
        refine .sh s _ b off m _ cs e (0, 0) (hb q hq b (by rw [hfp]; simp)) hheap (by simp [T.toShL_length]; omega) (by simp [T.toShL_length]; omega) hc fun i hi => ?_
        have hi' : off + i < l.length := by simp [T.toShL_length] at hi; omega
        have e1 : (((T.toShL l).drop off).take (m * s))[i] = (l[off + i]).toSh := by simp [T.toShL_get]
        rw [e1]
        exact (hro (off + i) hi').toSh hO fun b' hb' => hb q hq b' (by rw [hfp]; exact List.mem_cons_of_mem _ (mem_flatten_getD hb'))
      | subZ hr =>
        simp only [Nat.zero_mul, List.take_zero]
        rw [hv] at hr; cases hr
        exact .sh s [] b 0 0 _ cs e (0, 0) (hb q hq b (by rw [hfp]; simp)) hheap (by simp) (by simp) (Nat.zero_le _) fun i hi => absurd hi (by simp)
      | subNil hr => rw [hv] at hr; cases hr
  | ptr q off =>
    obtain ⟨hq, l, hr, hl0, rfl⟩ := h
    obtain ⟨b, y, cs, e, fps, hy, hyb, hheap, hle, hf, hro, hfp, _⟩ := g.block hr hl0
    have hv := g.ptr_block hy hyb hx
    subst hv
    have := Rd.pin (w := w) (O := O') (T.toShL l) off b 0 cs e (0, 0) (hb q hq b (by rw [hfp]; simp)) hheap (by rw [T.toShL_length]; omega) (fun i hi => by
      rw [T.toShL_get, Nat.zero_add]
      exact (hro i (by rwa [T.toShL_length] at hi)).toSh hO fun b' hb' => hb q hq b' (by rw [hfp]; exact List.mem_cons_of_mem _ (mem_flatten_getD hb')))
    rwa [Nat.zero_add] at this
  | agg _ => exact h.elim
  | tup _ => exact h.elim
  | fn _ _ => exact h.elim

mutual
theorem vt_rd (g : Good X w0 O0 n S a w hs fp) (hO : ∀ b, ¬ Ob X fp b → b < w.heap.size → ¬ O' b) (hb : ∀ q ∈ bor, ∀ b ∈ fp q, ¬ O' b) :
    ∀ (x : T) (y : A) {v : Value}, vt S bor x y → Is w (Ob X fp) hs y v → Rd w O' x v
  | .any, y, v, h, hx => .any _
  | .v _, y, v, h, hx => vt_base g hO hb hx (by simpa only [vt] using h)
  | .sh _ _, y, v, h, hx => vt_base g hO hb hx (by simpa only [vt] using h)
  | .arr _ _, y, v, h, hx => vt_base g hO hb hx (by simpa only [vt] using h)
  | .box _, y, v, h, hx => vt_base g hO hb hx (by simpa only [vt] using h)
  | .pin _ _, y, v, h, hx => vt_base g hO hb hx (by simpa only [vt] using h)
  | .tup _, y, v, h, hx => vt_base g hO hb hx (by simpa only [vt] using h)
  | .agg xs, y, v, h, hx => by
    cases y with
    | agg as =>
      simp only [vt] at h
      obtain ⟨vs, rfl, hl, hr⟩ := hx.agg_inv
      obtain ⟨h1, h2⟩ := vtL_rd g hO hb xs as h hr
      exact .agg xs vs (by omega) h2
    | t y =>
      simp only [vt] at h
      subst h
      cases hx with | t hx => exact hx.mono (fun _ _ _ _ _ h => h) hO
    | _ => simp [vt] at h
  | .fn f xs, y, v, h, hx => by
    cases y with
    | fn f' as =>
      simp only [vt] at h
      obtain ⟨rfl, h⟩ := h
      cases hx with | fn hl hr =>
      obtain ⟨h1, h2⟩ := vtL_rd g hO hb xs as h hr
      exact .fn f xs _ (by omega) h2
    | t y =>
      simp only [vt] at h
      subst h
      cases hx with | t hx => exact hx.mono (fun _ _ _ _ _ h => h) hO
    | _ => simp [vt] at h
theorem vtL_rd (g : Good X w0 O0 n S a w hs fp) (hO : ∀ b, ¬ Ob X fp b → b < w.heap.size → ¬ O' b) (hb : ∀ q ∈ bor, ∀ b ∈ fp q, ¬ O' b) :
    ∀ (xs : List T) (as : List A) {vs : List Value}, vtL S bor xs as → (∀ i (h : i < as.length), Is w (Ob X fp) hs as[i] (vs.getD i undef)) → xs.length = as.length ∧ ∀ i (h : i < xs.length), Rd w O' xs[i] (vs.getD i undef)
  | [], as, vs, h, hx => by simp only [vtL] at h; subst h; exact ⟨rfl, fun i h => absurd h (by simp)⟩
  | x :: xs, [], vs, h, hx => by simp only [vtL] at h
  | x :: xs, b :: as, vs, h, hx => by
    simp only [vtL] at h
    have h0 := vt_rd g hO hb x b h.1 (by have := hx 0 (by simp); simpa only [List.getElem_cons_zero] using this)
    obtain ⟨h1, h2⟩ := vtL_rd g hO hb xs as (vs := vs.tail) h.2 (fun i hi => by
      have := hx (i + 1) (by simpa using hi)
      rw [lst_tail] at this
      simpa only [List.getElem_cons_succ] using this)
    refine ⟨by simp [h1], fun i hi => ?_⟩
    cases i with
    | zero => simpa only [List.getElem_cons_zero] using h0
    | succ i => rw [lst_tail]; simpa only [List.getElem_cons_succ] using h2 i (by simpa using hi)
end

mutual
theorem va_is (g : Good X w0 O0 n S a w hs fp) (hO : ∀ b, ¬ Ob X fp b → b < w.heap.size → ¬ O' b) (hb : ∀ q ∈ bor, ∀ b ∈ fp q, ¬ O' b) (hh : ∀ i q, srcs[i]? = some q → hs' (1000000000 + i) = hs q) :
    ∀ (a' y : A) {v : Value}, va S srcs bor a' y → Is w (Ob X fp) hs y v → Is w O' hs' a' v
  | .t x, y, v, h, hx => by simp only [va] at h; exact .t (vt_rd g hO hb x y h hx)
  | .own j, y, v, h, hx => by
    cases y with
    | own q =>
      simp only [va] at h
      have := hh _ _ h.2
      rw [show 1000000000 + (j - 1000000000) = j by omega] at this
      cases hx with | own hr => exact .own (this.trans hr)
    | _ => simp [va] at h
  | .sub j o m, y, v, h, hx => by
    cases y with
    | sub q o' m' =>
      simp only [va] at h
      obtain ⟨h0, h1, rfl, rfl⟩ := h
      have := hh _ _ h1
      rw [show 1000000000 + (j - 1000000000) = j by omega] at this
      cases hx with
      | sub hr hc => exact .sub (this.trans hr) hc
      | subZ hr => exact .subZ (this.trans hr)
      | subNil hr => exact .subNil (this.trans hr)
    | _ => simp [va] at h
  | .ptr j o, y, v, h, hx => by
    cases y with
    | ptr q o' =>
      simp only [va] at h
      obtain ⟨h0, h1, rfl⟩ := h
      have := hh _ _ h1
      rw [show 1000000000 + (j - 1000000000) = j by omega] at this
      cases hx with
      | ptrS hr => exact .ptrS (this.trans hr)
      | ptrP hr => exact .ptrP (this.trans hr)
    | _ => simp [va] at h
  | .agg l, y, v, h, hx => by
    cases y with
    | agg l' =>
      simp only [va] at h
      cases hx with | agg hl hr => obtain ⟨h1, h2⟩ := vaL_is g hO hb hh l l' h hr; exact .agg (by omega) h2
    | _ => simp [va] at h
  | .tup l, y, v, h, hx => by
    cases y with
    | tup l' =>
      simp only [va] at h
      cases hx with | tup hl hr => obtain ⟨h1, h2⟩ := vaL_is g hO hb hh l l' h hr; exact .tup (by omega) h2
    | _ => simp [va] at h
  | .fn f l, y, v, h, hx => by
    cases y with
    | fn f' l' =>
      simp only [va] at h
      obtain ⟨rfl, h⟩ := h
      cases hx with | fn hl hr => obtain ⟨h1, h2⟩ := vaL_is g hO hb hh l l' h hr; exact .fn (by omega) h2
    | _ => simp [va] at h
theorem vaL_is (g : Good X w0 O0 n S a w hs fp) (hO : ∀ b, ¬ Ob X fp b → b < w.heap.size → ¬ O' b) (hb : ∀ q ∈ bor, ∀ b ∈ fp q, ¬ O' b) (hh : ∀ i q, srcs[i]? = some q → hs' (1000000000 + i) = hs q) :
    ∀ (l l' : List A) {vs : List Value}, vaL S srcs bor l l' → (∀ i (h : i < l'.length), Is w (Ob X fp) hs l'[i] (vs.getD i undef)) → l.length = l'.length ∧ ∀ i (h : i < l.length), Is w O' hs' l[i] (vs.getD i undef)
  | [], l', vs, h, hx => by simp only [vaL] at h; subst h; exact ⟨rfl, fun i h => absurd h (by simp)⟩
  | a' :: l, [], vs, h, hx => by simp only [vaL] at h
  | a' :: l, b :: l', vs, h, hx => by
    simp only [vaL] at h
    have h0 := va_is g hO hb hh a' b h.1 (by have := hx 0 (by simp); simpa only [List.getElem_cons_zero] using this)
    obtain ⟨h1, h2⟩ := vaL_is g hO hb hh l l' (vs := vs.tail) h.2 (fun i hi => by
      have := hx (i + 1) (by simpa using hi)
      rw [lst_tail] at this
      simpa only [List.getElem_cons_succ] using this)
    refine ⟨by simp [h1], fun i hi => ?_⟩
    cases i with
    | zero => simpa only [List.getElem_cons_zero] using h0
    | succ i => rw [lst_tail]; simpa only [List.getElem_cons_succ] using h2 i (by simpa using hi)
end
end

/-- The number of the k-th root that a call with the destination d lays. -/
def rid (d k : Nat) : Nat := if k = 0 then d else 1000 * (d + 1) + k

mutual
/-- A result's owned parts become roots. -/
def absT (d : Nat) : Nat → T → A × List (Nat × T) × Nat
  | k, .arr s l => (.own (rid d k), [(rid d k, .arr s l)], k + 1)
  | k, .box l => (.own (rid d k), [(rid d k, .box l)], k + 1)
  | k, .agg l => ((.agg (absL d k l).1), (absL d k l).2.1, (absL d k l).2.2)
  | k, .tup l => ((.tup (absL d k l).1), (absL d k l).2.1, (absL d k l).2.2)
  | k, t => (.t t, [], k)
def absL (d : Nat) : Nat → List T → List A × List (Nat × T) × Nat
  | k, [] => ([], [], k)
  | k, t :: l => ((absT d k t).1 :: (absL d (absT d k t).2.2 l).1, (absT d k t).2.1 ++ (absL d (absT d k t).2.2 l).2.1, (absL d (absT d k t).2.2 l).2.2)
end

def updL (f : Nat → Root) : List (Nat × T) → Nat → Root
  | [] => f
  | (j, t) :: l => upd (updL f l) j (.live t [])

/-- Roots srcs get new contents. -/
def updS (f : Nat → Root) : List Nat → List T → Nat → Root
  | q :: qs, t :: ts => upd (updS f qs ts) q (.live t [])
  | _, _ => f

def freeAll (S : St) : List (Nat × T) → Prop
  | [] => True
  | (j, _) :: l => S.roots j = .free ∧ freeAll S l

/-- The state behind a call with destination d, result res, new contents rout of the roots srcs. -/
def afterCall (S : St) (d : Option Nat) (srcs : List Nat) (rout : List T) (res : T) (K : St → Prop) : Prop :=
  match d with
  | some d => freeAll S (absT d 0 res).2.1 ∧ (absT d 0 res).2.2 ≤ 1000 ∧ K { env := upd S.env d (absT d 0 res).1, roots := updL (updS S.roots srcs rout) (absT d 0 res).2.1 }
  | none => K { env := S.env, roots := updS S.roots srcs rout }
end Go.Ab
