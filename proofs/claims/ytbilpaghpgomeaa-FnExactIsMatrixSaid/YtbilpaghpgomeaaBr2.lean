/- The bridge, part 2: a law that is a contract is a law of the row's form. -/
import Derived.Test.YtbilpaghpgomeaaBr1
import Derived.JoinedOf
import Derived.Handed
import Derived.RowKit
set_option linter.unusedSimpArgs false
set_option linter.unusedVariables false
namespace Go.Ab
open Go.ChangeShapes Go.WideShapes Go.ChangeAt Go.RowKit

def fitsL (P : Program) : List Ty → List TypeId → Bool
  | [], [] => true
  | ty :: tys, t :: ts => ty.fits P t && decide (t < P.types.size) && P.readableRec t && fitsL P tys ts
  | _, _ => false
def wtL : List Ty → List T → Prop
  | [], [] => True
  | ty :: tys, x :: xs => ty.wtV x ∧ wtL tys xs
  | _, _ => False

section
variable {H : Type} {enc : TypeId × Value → H} {P : Program} {w : World} {base : Nat} {held : Bool}

theorem Ty.readV (O : Nat → Prop) (hO : ∀ b, ¬ O b) {ty : Ty} {t : TypeId} {v : Value} {d : DataW H} {ps : List MemPlace} {w' : World} {r : Reach} {b0 : Nat} (hf : ty.fits P t = true) (hok : Value.okWide P w' r b0 t v)
    (h : DataW.Trod enc P w base (fun _ => true) held t v d ps) : ∃ x, ty.wtV x ∧ Rd w O x v := by
  obtain ⟨fuel, h⟩ := h
  obtain ⟨l, hwt, hl, hr⟩ := (Ty.read (P := P) O hO ty).1 t fuel _ _ hf h
  have single : v.cells = #[v] → ∀ x : T, l = [x] → Rd w O x v := fun hc x hx => by
    subst hx
    have := hr 0 (by simp)
    rw [hc] at this
    exact this
  cases ty with
  | int k =>
    simp only [Ty.fits] at hf
    split at hf
    · rename_i k' ht
      obtain ⟨n, rfl⟩ := okWide_int ht hok
      obtain ⟨m, rfl, hw⟩ := hwt
      exact ⟨_, ⟨m, rfl, hw⟩, single rfl _ rfl⟩
    · cases hf
  | bool =>
    simp only [Ty.fits] at hf
    split at hf
    · rename_i ht
      obtain ⟨n, rfl⟩ := okWide_bool ht hok
      obtain ⟨m, rfl⟩ := hwt
      exact ⟨_, ⟨m, rfl⟩, single rfl _ rfl⟩
    · cases hf
  | str =>
    simp only [Ty.fits] at hf
    split at hf
    · rename_i ht
      obtain ⟨n, rfl⟩ := okWide_string ht hok
      obtain ⟨m, rfl, hw⟩ := hwt
      exact ⟨_, ⟨m, rfl, hw⟩, single rfl _ rfl⟩
    · cases hf
  | sl s e =>
    simp only [Ty.fits] at hf
    split at hf
    · rename_i et ht
      obtain ⟨a, len, cap, rfl⟩ := okWide_slice ht hok
      obtain ⟨m, rfl, hw⟩ := hwt
      exact ⟨_, ⟨m, rfl, hw⟩, single rfl _ rfl⟩
    · cases hf
  | st f =>
    simp only [Ty.fits] at hf
    split at hf
    · rename_i fs ht
      simp only [Value.okWide, ht] at hok
      obtain ⟨cs, rfl, _, _⟩ := hok
      refine ⟨.agg l, ⟨l, rfl, hwt⟩, ?_⟩
      have := Rd.agg (w := w) (O := O) l cs.toList (by rw [hl]; rfl) hr
      simpa using this
    · cases hf
  | nil => simp [Ty.fits] at hf
  | cons a r => simp [Ty.fits] at hf

theorem args_read (O : Nat → Prop) (hO : ∀ b, ¬ O b) {w' : World} {r : Reach} {b0 : Nat} : ∀ {tys : List Ty} {ts : List TypeId} {vs : List Value} {ds : List (DataW H)} {ps : List MemPlace}, fitsL P tys ts = true →
    DataW.TrodAll enc P w base (fun _ => true) held ts vs ds ps → (∀ (j : Nat) (t : TypeId) (v : Value), ts[j]? = some t → vs[j]? = some v → Value.okWide P w' r b0 t v) →
    ∃ xs, wtL tys xs ∧ vs.length = xs.length ∧ ds.length = tys.length ∧ ∀ i (h : i < xs.length), Rd w O xs[i] (vs.getD i undef)
  | [], [], vs, ds, ps, _, h, _ => by
    cases vs <;> cases ds <;> simp only [DataW.TrodAll] at h
    exact ⟨[], trivial, rfl, rfl, fun i h => absurd h (by simp)⟩
  | [], _ :: _, vs, ds, ps, hf, h, _ => by simp [fitsL] at hf
  | _ :: _, [], vs, ds, ps, hf, h, _ => by simp [fitsL] at hf
  | ty :: tys, t :: ts, vs, ds, ps, hf, h, hok => by
    simp only [fitsL, Bool.and_eq_true] at hf
    cases vs with
    | nil => simp [DataW.TrodAll] at h
    | cons v vs =>
      cases ds with
      | nil => simp [DataW.TrodAll] at h
      | cons d ds =>
        obtain ⟨p, q, h1, h2, _⟩ := h
        obtain ⟨x, hx, hr⟩ := Ty.readV O hO hf.1.1.1 (hok 0 t v rfl rfl) h1
        obtain ⟨xs, hxs, hl, hd, hrs⟩ := args_read O hO hf.2 h2 (fun j t v h1 h2 => hok (j + 1) t v (by simpa using h1) (by simpa using h2))
        refine ⟨x :: xs, ⟨hx, hxs⟩, by simp [hl], by simp [hd], fun i hi => ?_⟩
        cases i with
        | zero => exact hr
        | succ i => simpa [List.getD_eq_getElem?_getD] using hrs i (by simpa using hi)

theorem args_stay {w w' : World} {sp : Nat → Bool} (hl : laidOutB P = true) : ∀ {tys : List Ty} {ts : List TypeId} {vs : List Value} {ds : List (DataW H)} {ps : List MemPlace}, fitsL P tys ts = true →
    DataW.TrodAll enc P w base (fun _ => true) true ts vs ds ps → (∀ p ∈ ps, w.sameAt w' p ∧ sp p.block = true) → DataW.TrodAll enc P w' base sp true ts vs ds ps
  | [], [], vs, ds, ps, _, h, _ => by
    cases vs <;> cases ds <;> simp only [DataW.TrodAll] at h ⊢
    exact h
  | [], _ :: _, vs, ds, ps, hf, h, _ => by simp [fitsL] at hf
  | _ :: _, [], vs, ds, ps, hf, h, _ => by simp [fitsL] at hf
  | ty :: tys, t :: ts, vs, ds, ps, hf, h, hs => by
    simp only [fitsL, Bool.and_eq_true, decide_eq_true_eq] at hf
    cases vs with
    | nil => simp [DataW.TrodAll] at h
    | cons v vs =>
      cases ds with
      | nil => simp [DataW.TrodAll] at h
      | cons d ds =>
        obtain ⟨p, q, h1, h2, rfl⟩ := h
        exact ⟨p, q, WideElems.Trod_stays hl hf.1.2 hf.1.1.2 h1 (fun x hx => (hs x (by simp [hx])).1) (fun x hx => (hs x (by simp [hx])).2), args_stay hl hf.2 h2 (fun x hx => hs x (by simp [hx])), rfl⟩

/-- The contract that a row's builder asks for. -/
theorem law_contract {f : FuncId} {fn : Func} {s : ChangeSpec} {tys : List Ty} {tb : TypeId} {apart fresh handsOn : Bool} (hlaid : laidOutB P = true) (hfit : fitsL P tys fn.params.toList = true) (hres : fn.resultTypes = #[tb]) (hbool : P.underlying tb = some .bool)
    (hvars : s.vars = []) (hspec : ∀ (ds : List (DataW H)), ds.length = tys.length → s.fn H ds = { results := [.lit (.bool true)], args := ds }) (hF : ∀ xs, wtL tys xs → Pure P f xs (.b true))
    (W : World) (base : Nat) (args : Array Value) (ds gs : List (DataW H)) (before : List MemPlace) (hval : ∀ (j : Nat) t v, fn.params[j]? = some t → args[j]? = some v → Value.okWide P W .any base t v)
    (hW : DataW.Whole enc P fn.params.toList s.vars apart W args.toList ds gs before) : Calls P f args W fun e W' => ∃ v, e = .returned v ∧ s.post enc P fn apart fresh handsOn false W args v W' := by
  have hW' := hW
  obtain ⟨p, q, hA, hV, rfl, hfz, hnd⟩ := hW
  rw [hvars] at hV
  have hV' := hV
  cases gs with
  | cons _ _ => simp [DataW.TrodVars] at hV
  | nil =>
    simp only [DataW.TrodVars] at hV
    subst hV
    obtain ⟨xs, hwt, hlen, hdl, hr⟩ := args_read (P := P) (fun _ => False) (fun _ h => h) hfit hA (fun j t v h1 h2 => hval j t v (by simpa using h1) (by simpa using h2))
    have hlt : ∀ x ∈ p, x.block < W.heap.size := fun x hx => hW'.lt x (by simp [hx])
    have mem : Mem (fun _ => False) W [] (fun _ => none) (fun _ => []) := ⟨fun i t h => by simp at h, fun _ _ => ⟨rfl, rfl⟩, fun _ _ b h => by simp at h, fun _ => by simp, fun _ b h => by simp at h, fun _ h => h.elim, fun _ _ h => by cases h⟩
    have hO : ∀ b, ¬ Ob (fun _ => False) (fun _ => []) b := fun b h => by
      rcases h with h | ⟨r, h⟩
      · exact h
      · simp at h
    have hc := hF xs hwt _ W args.toList _ _ mem (by simpa using hlen) (fun i h => by
      have hi : i < xs.length := by simpa using h
      rw [List.getElem_map]
      exact .t ((hr i hi).mono (fun _ _ _ _ _ h => h) (fun b _ _ => hO b)))
    simp only [Array.toArray_toList] at hc
    refine hc.mono ?_
    rintro e W' ⟨v, res, rout, fr, fp', rfl, ⟨rfl, rfl⟩, _, out⟩
    have hv : v = .bool true := by
      cases out.res with
      | rd h => cases h; rfl
    subst hv
    have hs : W.Since W.heap.size W' := ⟨out.os, out.tape, out.output, out.size, fun b hb => out.frame b hb (fun j h => by simp at h)⟩
    refine ⟨_, rfl, ds, [], p ++ [], [], p, [], hW', ?_, ?_, ?_, hs.frame _, fun h => by cases h⟩
    · rw [List.append_nil, hspec ds hdl, hres]
      exact trodAll_cons_mk (shut_bool hbool _) trodAll_mk0
    · rw [List.append_nil, hspec ds hdl]
      exact args_stay hlaid hfit hA fun x hx => ⟨hs.sameAt (hlt x hx), by simpa using hlt x hx⟩
    · rw [List.append_nil, hspec ds hdl, hvars]
      exact hV'
end
end Go.Ab
