/- The abstract layer, part 20: the items of a region in compact form. -/
import Derived.Test.YtbilpaghpgomeaaAb19
set_option linter.unusedSimpArgs false
set_option linter.unusedVariables false
namespace Go.Ab

/-- An operation of a region: without a guard, or with one: the slot that holds the guard's Bool. -/
inductive CI where
  | o (c : CO)
  | g (s : Nat) (want : Bool) (d : Option Nat) (c : CO)

def trI (P : Program) (n : Nat) (ops : Array Oper) (o : Oper) : Option CI :=
  match trO P n o with
  | some c => (match o.guard with
    | none => some (.o c)
    | some (j, want) => (match ops[j]? with
      | some oj => (match oj.dst, o.dst with
        | some s, some d => if d < n then some (.g s want (some d) c) else none
        | some s, none => some (.g s want none c)
        | _, _ => none)
      | none => none))
  | none => none
def trR (P : Program) (n : Nat) (ops : Array Oper) : List Oper → Option (List CI)
  | [] => some []
  | o :: l => (match trI P n ops o, trR P n ops l with
    | some c, some cl => some (c :: cl)
    | _, _ => none)
def guardC (x : A) (s : Nat) (want : Bool) (d : Option Nat) (K1 K2 : St → Prop) (S : St) : Prop :=
  match x with
  | .t (.v (.bool b)) => (b = want → K1 { S with env := upd S.env s (.t (.v (.bool want))) }) ∧ (b = !want → K2 (St.put { S with env := upd S.env s (.t (.v (.bool !want))) } d (.t .any)))
  | _ => False
def condC (x : A) (K1 K2 : St → Prop) (S : St) : Prop :=
  match x with
  | .t (.v (.bool b)) => (b = true → K1 S) ∧ (b = false → K2 S)
  | _ => False
def opsW (P : Program) (n : Nat) : List CI → (St → Prop) → St → Prop
  | [], K, S => K S
  | .o c :: l, K, S => coW P n c (opsW P n l K) S
  | .g s want d c :: l, K, S => guardC (S.env s) s want d (coW P n c (opsW P n l K)) (opsW P n l K) S

section
variable {P : Program} {n : Nat} {S : St}

theorem env_upd_eq (e : Nat → A) (s : Nat) (a : A) (h : e s = a) : upd e s a = e := by
  funext i
  by_cases hi : i = s
  · subst hi; simp [upd_self, h]
  · simp [upd_other _ _ _ _ hi]

theorem ops_sound {ops : Array Oper} {K : St → Prop} : ∀ (l : List Oper) (k : Nat) (cl : List CI) (S : St), ops.toList.drop k = l → trR P n ops l = some cl → opsW P n cl K S → OpsSem P n ops (List.range' k l.length) S K
  | [], k, cl, S, _, h, hW => by
    simp only [trR, Option.some.injEq] at h
    subst h
    exact .nil hW
  | o :: l, k, cl, S, hd, h, hW => by
    have ho : ops[k]? = some o := by
      have : (ops.toList.drop k)[0]? = some o := by rw [hd]; rfl
      rw [List.getElem?_drop] at this
      simpa using this
    have hd' : ops.toList.drop (k + 1) = l := by rw [← List.drop_drop, hd]; rfl
    simp only [trR] at h
    split at h
    · rename_i c cl' hc hcl
      cases h
      have rest : ∀ S', opsW P n cl' K S' → OpsSem P n ops (List.range' (k + 1) l.length) S' K := fun S' hS' => ops_sound l (k + 1) cl' S' hd' hcl hS'
      have mono : ∀ {S'}, OpW P n o S' (opsW P n cl' K) → OpW P n o S' fun S'' => OpsSem P n ops (List.range' (k + 1) l.length) S'' K := fun {S'} h X w0 O0 a w hs fp g Q =>
        Go.Oper.wp_mono (fun a' w' ⟨S'', hs', fp', g', k'⟩ => ⟨S'', hs', fp', g', rest S'' k'⟩) (h X w0 O0 a w hs fp g Q)
      simp only [List.length_cons, List.range'_succ]
      simp only [trI] at hc
      split at hc
      · rename_i co hco
        split at hc
        · rename_i hg
          cases hc
          exact .cons ho hg (mono (trO_sound hco hW))
        · rename_i j want hg
          split at hc
          · rename_i oj hoj
            have core : ∀ s d, oj.dst = some s → o.dst = d → (∀ k, d = some k → k < n) → opsW P n (.g s want d co :: cl') K S → OpsSem P n ops (k :: List.range' (k + 1) l.length) S K := by
              intro s d hs hdd hdn hW
              simp only [opsW] at hW
              unfold guardC at hW
              split at hW
              · rename_i b hb
                refine OpsSem.guard ho hg hoj hs hb (fun k hk => hdn k (hdd ▸ hk)) (fun e => ?_) (fun e => ?_)
                · have h1 := hW.1 e
                  rw [env_upd_eq _ _ _ (by rw [hb, e])] at h1
                  exact mono (trO_sound hco h1)
                · have e' : b = !want := by cases b <;> cases want <;> simp_all
                  have h1 := hW.2 e'
                  rw [env_upd_eq _ _ _ (by rw [hb, e'])] at h1
                  rw [hdd]
                  exact rest _ h1
              · exact hW.elim
            split at hc
            · rename_i s d hs hdd
              split at hc
              · rename_i hdn
                cases hc
                exact core s (some d) hs hdd (fun k hk => by cases hk; exact hdn) hW
              · cases hc
            · rename_i s hs hdd
              cases hc
              exact core s none hs hdd (fun k hk => by cases hk) hW
            · cases hc
          · cases hc
      · cases hc
    · cases h

end
end Go.Ab
