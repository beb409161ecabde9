/- Contracts: valid trees, the program's. -/
import Derived.Test.YtkmmkgpnlmdcfaaQ4
set_option linter.unusedSimpArgs false
set_option linter.unusedVariables false
set_option maxRecDepth 20000
namespace Go.Ab
open Go.Proofs

theorem q0fy {l : List Nd} {i : Nat} {x : Nd} (hx : l[i]? = some x) (h : ndOK l.length i x = false) : q0fv l = false := by
  cases hc : q0fv l with
  | false => rfl
  | true =>
    have := (q0g0 hc).2.1 i x hx
    rw [h] at this; cases this
theorem q0fz {l : List Nd} {i : Nat} (hi : i < l.length) (h1 : 1 <= i) (h : occ i l ≠ 1) : q0fv l = false := by
  cases hc : q0fv l with
  | false => rfl
  | true => rcases (q0g0 hc).2.2.1 i hi with h2 | h2 <;> omega
theorem q0fx {l : List Nd} (h : ¬ (1 <= l.length /\ l.length <= 60)) : q0fv l = false := by
  cases hc : q0fv l with
  | false => rfl
  | true => exact absurd (q0g0 hc).1 h
theorem q0fw {l : List Nd} (h1 : 1 <= l.length /\ l.length <= 60) (h2 : q0l2 l) (h3 : ∀ i, i < l.length -> i = 0 ∨ occ i l = 1) : q0fv l = decide (dep l l.length 0 <= 5) := by
  rw [q0fv, decide_eq_true h1, (q0l3 l).2 h2]
  have : ((List.range l.length).all fun i => decide (i = 0 ∨ occ i l = 1)) = true := by
    rw [List.all_eq_true]
    intro i hi
    simpa using h3 i (List.mem_range.1 hi)
  rw [this]; simp
theorem q0kt {n i : Nat} {x : Nd} (h : ndOK n i x = true) (hp : x.p ≠ 2) : incr x.ch = true := by
  simp only [ndOK, Bool.and_eq_true] at h
  have h2 := h.2
  rw [if_neg hp] at h2
  simp only [Bool.and_eq_true] at h2
  exact h2.2
theorem q0ku {n i : Nat} {x : Nd} (h : ndOK n i x = true -> False) : ndOK n i x = false := by
  cases hc : ndOK n i x with
  | false => rfl
  | true => exact (h hc).elim
theorem q0kr {n i : Nat} {x : Nd} (h1 : 0 <= x.p /\ x.p <= 2) (h2 : 0 <= x.a /\ x.a <= 100) (h3 : 0 <= x.b /\ x.b <= 100) (hp : x.p = 2) (h4 : x.ch.length = 0) (h5 : -1 <= x.f /\ x.f <= 1) (h6 : x.f = -1 -> x.a = x.b) : ndOK n i x = true := by
  rw [ndOK, decide_eq_true h1, decide_eq_true h2, decide_eq_true h3, if_pos hp, decide_eq_true (List.length_eq_zero_iff.1 h4), decide_eq_true h5]
  by_cases hf : x.f = -1
  · simp [h6 hf]
  · simp [hf]
theorem q0kq {n i : Nat} {x : Nd} (h1 : 0 <= x.p /\ x.p <= 2) (h2 : 0 <= x.a /\ x.a <= 100) (h3 : 0 <= x.b /\ x.b <= 100) (hp : x.p ≠ 2) (h4 : x.f = -1) (h5 : 1 <= x.ch.length /\ x.ch.length <= 4) (h6 : (x.ch.all fun c => decide ((i : Int) + 1 <= c /\ c <= (n : Int) - 1)) = true) (h7 : incr x.ch = true) : ndOK n i x = true := by
  rw [ndOK, decide_eq_true h1, decide_eq_true h2, decide_eq_true h3, if_neg hp, decide_eq_true h4, decide_eq_true h5, h6, h7]; rfl

theorem q0m4 (c : Nat) : ∀ (m : List Nd), (∀ x ∈ m, x.ch.length <= 4) -> occ c m <= m.length * 4
  | [], _ => by simp [occ]
  | x :: m, hm => by
    have h1 := q0m4 c m fun y hy => hm y (by simp [hy])
    have h2 := hm x (by simp)
    have e : occ c (x :: m) = (if x.p = 2 then 0 else x.ch.count (c : Int)) + occ c m := by simp [occ]
    have h3 : (if x.p = 2 then 0 else x.ch.count (c : Int)) <= 4 := by
      split
      · omega
      · exact Nat.le_trans (List.count_le_length) h2
    rw [e, List.length_cons]; omega
theorem q0ef (l : List Nd) (hl : l.length <= 9223372036854775807) (hcl : ∀ x ∈ l, x.ch.length <= 9223372036854775807) : Pure Try.prog 175 [q0vz l] (.b (q0fv l)) := by
  refine q0aa (by simp) ?_
  simp -implicitDefEqProofs only [go_sem, evR, ints, rows, rat, rats, q03c, q0vz, nodes]
  refine q006.pure (q0f9 l.length 1 60) [] rfl Try.call110 ?_ (by first | trivial | simp [T.noSh, T.noShL, rat]) rfl ?_
  · simp -implicitDefEqProofs only [agR, Nat.reduceLeDiff, Nat.reduceSub, vaR, go_sem, ints, rows, rat, rats, q0p1, rtR, intsO, q0qa]
  simp -implicitDefEqProofs only [go_sem, evR, ints, rows, rat, rats]
  refine ⟨fun h => ?_, fun h => ?_⟩
  · rw [q0fx (by simp at h; omega)]
  · have hn : 1 <= l.length /\ l.length <= 60 := by simp at h; omega
    refine ⟨by omega, by omega, ?_⟩
    refine SemC.loopR (σ := Nat) (fun i => St.of [(1, .own 1), (3, .t (.i l.length)), (4, .own 18), (20, .t (nodes l)), (21, .t (.i l.length)), (22, .t (.i i))] [(1, .box [nodes l]), (18, .arr 1 ((cntV l l.length i 0).map T.i))]) (fun i => i <= l.length /\ ∀ j x, j < i -> l[j]? = some x -> ndOK l.length j x = true) (fun i => l.length - i) 0 (Weak.of _ _ [some 1, some 18] (by simp) (by simp) ?_ ?_) ⟨by simp, fun j x hj => by omega⟩ fun i hI R hn' hr he => ?_
    · simp -implicitDefEqProofs only [ints, rows, Nat.reduceBEq, wkR, Nat.reduceEqDiff, ↓reduceIte, wrR, nodes]
    · exact ⟨⟨_, rfl, .refl _⟩, rfl, ⟨_, rfl, by rw [q0jc, q06o, List.map_replicate]; exact .refl _⟩, rfl, trivial⟩
    · obtain ⟨hi, hOK⟩ := hI
      simp -implicitDefEqProofs only [go_sem, evR, ints, rows, rat, rats, nodes]
      refine ⟨fun h => ?_, fun h => he _ _ ?_⟩
      · have hil : i < l.length := by omega
        obtain ⟨x, hx⟩ : ∃ x, l[i]? = some x := ⟨_, List.getElem?_eq_getElem hil⟩
        have hwi : IntKind.i64.wrap ((i : Int) + 1) = (i : Int) + 1 := wrap64 (by omega) (by omega)
        have hwn : IntKind.i64.wrap ((l.length : Int) - 1) = (l.length : Int) - 1 := wrap64 (by omega) (by omega)
        have hno : (ndOK l.length i x = true -> False) -> q0fv l = false := fun h => q0fy hx (q0ku h)
        have hxc := hcl x (List.mem_of_getElem? hx)
        refine ⟨by omega, by rw [q0l0]; omega, by rw [q0l0]; omega, ?_⟩
        rw [q0kw hx]
        simp -implicitDefEqProofs only [go_sem, evR, ints, rows, rat, rats]
        refine q006.pure (q0f9 x.p 0 2) [] rfl Try.call110 ?_ (by first | trivial | simp [T.noSh, T.noShL, rat]) rfl ?_
        · simp -implicitDefEqProofs only [agR, Nat.reduceLeDiff, Nat.reduceSub, vaR, go_sem, ints, rows, rat, rats, q0p1, rtR, intsO, q0qa]
        simp -implicitDefEqProofs only [go_sem, evR, ints, rows, rat, rats]
        refine ⟨fun h1 => ?_, fun h1 => hr _ ?_⟩
        rotate_left
        · simp -implicitDefEqProofs only [go_sem, evR, ints, rows, rat, rats]
          rw [hno fun hok => by have := (q0ks hok).1; simp at h1; omega]
        have h1 : 0 <= x.p /\ x.p <= 2 := by simpa using h1
        refine q006.pure (q0f9 x.a 0 100) [] rfl Try.call110 ?_ (by first | trivial | simp [T.noSh, T.noShL, rat]) rfl ?_
        · simp -implicitDefEqProofs only [agR, Nat.reduceLeDiff, Nat.reduceSub, vaR, go_sem, ints, rows, rat, rats, q0p1, rtR, intsO, q0qa]
        simp -implicitDefEqProofs only [go_sem, evR, ints, rows, rat, rats]
        refine ⟨fun h2 => ?_, fun h2 => hr _ ?_⟩
        rotate_left
        · simp -implicitDefEqProofs only [go_sem, evR, ints, rows, rat, rats]
          rw [hno fun hok => by have := (q0ks hok).2.1; simp at h2; omega]
        have h2 : 0 <= x.a /\ x.a <= 100 := by simpa using h2
        refine q006.pure (q0f9 x.b 0 100) [] rfl Try.call110 ?_ (by first | trivial | simp [T.noSh, T.noShL, rat]) rfl ?_
        · simp -implicitDefEqProofs only [agR, Nat.reduceLeDiff, Nat.reduceSub, vaR, go_sem, ints, rows, rat, rats, q0p1, rtR, intsO, q0qa]
        simp -implicitDefEqProofs only [go_sem, evR, ints, rows, rat, rats]
        refine ⟨fun h3 => hr _ ?_, fun h3 => ⟨fun h4 => ⟨fun h5 => ?_, fun h5 => hr _ ?_⟩, fun h4 => ⟨fun h5 => ?_, fun h5 => hr _ ?_⟩⟩⟩
        · simp -implicitDefEqProofs only [go_sem, evR, ints, rows, rat, rats]
          rw [hno fun hok => by have := (q0ks hok).2.2.1; simp at h3; omega]
        · -- the end of a way
          have h3 : 0 <= x.b /\ x.b <= 100 := by simpa using h3
          have h4 : x.p = 2 := by simpa using h4
          refine q006.pure (q0f9 x.f (-1) 1) [] rfl Try.call110 ?_ (by first | trivial | simp [T.noSh, T.noShL, rat]) rfl ?_
          · simp -implicitDefEqProofs only [agR, Nat.reduceLeDiff, Nat.reduceSub, vaR, go_sem, ints, rows, rat, rats, q0p1, rtR, intsO, q0qa]
          simp -implicitDefEqProofs only [go_sem, evR, ints, rows, rat, rats]
          have hnext : ndOK l.length i x = true -> ∀ j y, j < i + 1 -> l[j]? = some y -> ndOK l.length j y = true := fun hok j y hj hy => by
            by_cases hji : j = i
            · subst hji; rw [hx] at hy; cases hy; exact hok
            · exact hOK j y (by omega) hy
          refine ⟨fun h6 => ⟨fun h7 => ⟨fun h8 => hr _ ?_, fun h8 => ?_⟩, fun h7 => ?_⟩, fun h6 => hr _ ?_⟩
          · simp -implicitDefEqProofs only [go_sem, evR, ints, rows, rat, rats]
            rw [hno fun hok => by have := ((q0ks hok).2.2.2.1 h4).2.2.2 (by simpa using h7); simp [this] at h8]
          · refine hn' _ (i + 1) (Weak.of _ _ [some 1, some 18] (by simp) (by simp) ?_ ?_) ⟨by omega, hnext (q0kr h1 h2 h3 h4 (by omega) (by simpa using h6) fun _ => by simpa using h8)⟩ (by omega)
            · simp -implicitDefEqProofs only [ints, rows, Nat.reduceBEq, wkR, Nat.reduceEqDiff, ↓reduceIte, wrR, nodes, q0lb hil (by omega)]
            · exact ⟨⟨_, rfl, .refl _⟩, rfl, ⟨_, rfl, by rw [q06n hx (List.length_eq_zero_iff.1 (by omega))]; exact .refl _⟩, rfl, trivial⟩
          · refine hn' _ (i + 1) (Weak.of _ _ [some 1, some 18] (by simp) (by simp) ?_ ?_) ⟨by omega, hnext (q0kr h1 h2 h3 h4 (by omega) (by simpa using h6) fun hf => by simp [hf] at h7)⟩ (by omega)
            · simp -implicitDefEqProofs only [ints, rows, Nat.reduceBEq, wkR, Nat.reduceEqDiff, ↓reduceIte, wrR, nodes, q0lb hil (by omega)]
            · exact ⟨⟨_, rfl, .refl _⟩, rfl, ⟨_, rfl, by rw [q06n hx (List.length_eq_zero_iff.1 (by omega))]; exact .refl _⟩, rfl, trivial⟩
          · simp -implicitDefEqProofs only [go_sem, evR, ints, rows, rat, rats]
            rw [hno fun hok => by have := (q0ks hok).2.2.2.1 h4; simp at h6; omega]
        · simp -implicitDefEqProofs only [go_sem, evR, ints, rows, rat, rats]
          rw [hno fun hok => by have := (q0ks hok).2.2.2.1 (by simpa using h4); rw [this.1] at h5; simp at h5]
        · -- a decision
          have h3 : 0 <= x.b /\ x.b <= 100 := by simpa using h3
          have h4 : ¬ x.p = 2 := by simpa using h4
          have h5 : x.f = -1 := by simpa using h5
          refine q006.pure (q0f9 x.ch.length 1 4) [] rfl Try.call110 ?_ (by first | trivial | simp [T.noSh, T.noShL, rat]) rfl ?_
          · simp -implicitDefEqProofs only [agR, Nat.reduceLeDiff, Nat.reduceSub, vaR, go_sem, ints, rows, rat, rats, q0p1, rtR, intsO, q0qa]
          simp -implicitDefEqProofs only [go_sem, evR, ints, rows, rat, rats, hwi, hwn]
          refine ⟨fun h6 => ?_, fun h6 => hr _ ?_⟩
          rotate_left
          · simp -implicitDefEqProofs only [go_sem, evR, ints, rows, rat, rats]
            rw [hno fun hok => by have := (q0ks hok).2.2.2.2.1 h4; have := (q0ks hok).2.2.2.2.2; simp at h6; omega]
          have h6 : 1 <= x.ch.length /\ x.ch.length <= 4 := by simp at h6; omega
          refine q006.pure (q0eg x.ch ((i : Int) + 1) ((l.length : Int) - 1) (by omega)) [] rfl Try.call176 ?_ (by first | trivial | simp [T.noSh, T.noShL, rat]) rfl ?_
          · simp -implicitDefEqProofs only [agR, Nat.reduceLeDiff, Nat.reduceSub, vaR, go_sem, ints, rows, rat, rats, q0p1, rtR, intsO, q0qa]
          simp -implicitDefEqProofs only [go_sem, evR, ints, rows, rat, rats]
          refine ⟨fun h7 => ?_, fun h7 => hr _ ?_⟩
          rotate_left
          · simp -implicitDefEqProofs only [go_sem, evR, ints, rows, rat, rats]
            rw [hno fun hok => by
              have hc := q0kp hok
              have : (x.ch.all fun c => decide ((i : Int) + 1 <= c /\ c <= (l.length : Int) - 1)) = true := by rw [List.all_eq_true]; intro c hcm; exact decide_eq_true (hc c hcm)
              rw [this] at h7; simp at h7]
          have h7 : (x.ch.all fun c => decide ((i : Int) + 1 <= c /\ c <= (l.length : Int) - 1)) = true := by simpa using h7
          refine q006.pure (q0en x.ch (by omega)) [] rfl Try.call212 ?_ (by first | trivial | simp [T.noSh, T.noShL, rat]) rfl ?_
          · simp -implicitDefEqProofs only [agR, Nat.reduceLeDiff, Nat.reduceSub, vaR, go_sem, ints, rows, rat, rats, q0p1, rtR, intsO, q0qa]
          simp -implicitDefEqProofs only [go_sem, evR, ints, rows, rat, rats]
          refine ⟨fun h8 => hr _ ?_, fun h8 => ?_⟩
          · simp -implicitDefEqProofs only [go_sem, evR, ints, rows, rat, rats]
            rw [hno fun hok => by rw [q0kt hok h4] at h8; simp at h8]
          have h8 : incr x.ch = true := by simpa using h8
          have hok := q0kq h1 h2 h3 h4 h5 h6 h7 h8
          have hch := q0kp hok
          have hd : l.getD i nd0 = x := by rw [List.getD_eq_getElem?_getD, hx]; rfl
          refine SemC.loopR (σ := Nat) (fun k => St.of [(1, .own 1), (3, .t (.i l.length)), (4, .own 18), (20, .t (nodes l)), (21, .t (.i l.length)), (22, .t (.i i)), (95, .t (ints x.ch)), (96, .t (.i x.ch.length)), (97, .t (.i k))] [(1, .box [nodes l]), (18, .arr 1 ((cntV l l.length i k).map T.i))]) (fun k => k <= x.ch.length) (fun k => x.ch.length - k) 0 (Weak.of _ _ [some 1, some 18] (by simp) (by simp) ?_ ?_) (by simp) fun k hk R2 hn2 hr2 he2 => ?_
          · simp -implicitDefEqProofs only [ints, rows, Nat.reduceBEq, wkR, Nat.reduceEqDiff, ↓reduceIte, wrR, nodes]
          · exact ⟨⟨_, rfl, .refl _⟩, rfl, ⟨_, rfl, .refl _⟩, rfl, trivial⟩
          · have hcl' := q06k l l.length i k
            simp -implicitDefEqProofs only [go_sem, evR, ints, rows, rat, rats, nodes]
            refine ⟨fun h9 => ⟨by omega, by omega, by omega, fun c hc => ?_⟩, fun h9 => he2 _ _ ?_⟩
            · have hcb := hch c (List.mem_of_getElem? hc)
              obtain ⟨cn, rfl⟩ : ∃ cn : Nat, c = (cn : Int) := ⟨c.toNat, by omega⟩
              have hg := q06j l (n := l.length) (i := i) (k := k) (c := cn) (by omega)
              have hset := q06m (l := l) (n := l.length) (i := i) (k := k) (c := cn) (by omega) (by rw [hd]; exact hc)
              have hocc := q0m4 cn (l.take i) fun y hy => by
                obtain ⟨j, hj, rfl⟩ := List.mem_iff_getElem.1 hy
                rw [List.length_take] at hj
                rw [List.getElem_take]
                exact (q0ks (hOK j _ (by omega) (List.getElem?_eq_getElem (by omega)))).2.2.2.2.2
              have hlt : (l.take i).length <= 60 := by rw [List.length_take]; omega
              have hcnt := List.count_le_length (a := (cn : Int)) (l := (l.getD i nd0).ch.take k)
              have hctl : ((l.getD i nd0).ch.take k).length <= 4 := by rw [List.length_take, hd]; omega
              simp only [q0ve, hcl', hg, Option.some.injEq, forall_eq']
              rw [wrap64 (n := (occ cn (l.take i) : Int) + (((l.getD i nd0).ch.take k).count (cn : Int) : Nat) + 1) (by omega) (by omega)]
              refine ⟨by omega, by omega, by omega, by omega, by omega, by omega, hn2 _ (k + 1) (Weak.of _ _ [some 1, some 18] (by simp) (by simp) ?_ ?_) (by omega) (by omega)⟩
              · simp -implicitDefEqProofs only [ints, rows, Nat.reduceBEq, wkR, Nat.reduceEqDiff, ↓reduceIte, wrR, nodes, q0lb (by omega : k < x.ch.length) (by omega)]
              · refine ⟨⟨_, rfl, .refl _⟩, rfl, ⟨_, rfl, ?_⟩, rfl, trivial⟩
                rw [← hset, List.map_set]; exact .refl _
            · simp -implicitDefEqProofs only [go_sem, evR, ints, rows, rat, rats]
              have hke : k = x.ch.length := by omega
              refine hn' _ (i + 1) (Weak.of _ _ [some 1, some 18] (by simp) (by simp) ?_ ?_) ⟨by omega, fun j y hj hy => ?_⟩ (by omega)
              · simp -implicitDefEqProofs only [ints, rows, Nat.reduceBEq, wkR, Nat.reduceEqDiff, ↓reduceIte, wrR, nodes, q0lb hil (by omega)]
              · exact ⟨⟨_, rfl, .refl _⟩, rfl, ⟨_, rfl, by rw [hke, q06l hx (fun hp => absurd hp h4)]; exact .refl _⟩, rfl, trivial⟩
              · by_cases hji : j = i
                · subst hji; rw [hx] at hy; cases hy; exact hok
                · exact hOK j y (by omega) hy
        · simp -implicitDefEqProofs only [go_sem, evR, ints, rows, rat, rats]
          rw [hno fun hok => by have := (q0ks hok).2.2.2.2.1 (by simpa using h4); simp [this.1] at h5]
      · simp -implicitDefEqProofs only [go_sem, evR, ints, rows, rat, rats]
        have hie : i = l.length := by omega
        have hnds : q0l2 l := fun j y hy => hOK j y (by have := (List.getElem?_eq_some_iff.1 hy).1; omega) hy
        have hcl' := q06k l l.length i 0
        refine ⟨by omega, by omega, ?_⟩
        refine SemC.loopR (σ := Nat) (fun k => St.of [(1, .own 1), (110, .sub 18 1 (l.length - 1)), (111, .t (.i (l.length - 1 : Nat))), (112, .t (.i k))] [(1, .box [nodes l]), (18, .arr 1 ((cntV l l.length l.length 0).map T.i))]) (fun k => k <= l.length - 1 /\ ∀ j, j < k -> occ (j + 1) l = 1) (fun k => l.length - 1 - k) 0 (Weak.of _ _ [some 1, some 18] (by simp) (by simp) ?_ ?_) ⟨by simp, fun j hj => by omega⟩ fun k hI R2 hn2 hr2 he2 => ?_
        · simp -implicitDefEqProofs only [ints, rows, Nat.reduceBEq, wkR, Nat.reduceEqDiff, ↓reduceIte, wrR, nodes, hie, q06k]
        · exact ⟨⟨_, rfl, .refl _⟩, rfl, ⟨_, rfl, by rw [hie]; exact .refl _⟩, rfl, trivial⟩
        · obtain ⟨hk, hocc⟩ := hI
          simp -implicitDefEqProofs only [go_sem, evR, ints, rows, rat, rats, nodes]
          refine ⟨fun h9 => ⟨by omega, by omega, by rw [q06k]; omega, fun a ha => ?_⟩, fun h9 => he2 _ _ ?_⟩
          · rw [q06i l l.length (1 + k) (by omega)] at ha
            cases ha
            refine ⟨fun h10 => hr2 _ ?_, fun h10 => hn2 _ (k + 1) (Weak.of _ _ [some 1, some 18] (by simp) (by simp) ?_ ?_) ⟨by omega, fun j hj => ?_⟩ (by omega)⟩
            · simp -implicitDefEqProofs only [go_sem, evR, ints, rows, rat, rats]
              have h10 : ¬ occ (1 + k) l = 1 := by simp at h10; omega
              rw [q0fz (by omega : 1 + k < l.length) (by omega) h10]
            · simp -implicitDefEqProofs only [ints, rows, Nat.reduceBEq, wkR, Nat.reduceEqDiff, ↓reduceIte, wrR, nodes, q0lb (by omega : k < l.length - 1) (by omega)]
            · exact ⟨⟨_, rfl, .refl _⟩, rfl, ⟨_, rfl, .refl _⟩, rfl, trivial⟩
            · by_cases hjk : j = k
              · have h10 : occ (1 + k) l = 1 := by
                  have : ((occ (1 + k) l : Nat) : Int) = 1 := by simpa using h10
                  omega
                rw [hjk, Nat.add_comm]; exact h10
              · exact hocc j (by omega)
          · simp -implicitDefEqProofs only [go_sem, evR, ints, rows, rat, rats, nodes]
            have hall : ∀ j, j < l.length -> j = 0 ∨ occ j l = 1 := fun j hj => by
              by_cases hj0 : j = 0
              · exact .inl hj0
              · right
                have := hocc (j - 1) (by omega)
                rwa [show j - 1 + 1 = j by omega] at this
            have hdep := q0ek hnds (by omega) l.length 0 (by omega) (by omega) (by omega)
            simp only [q0vz, nodes] at hdep
            refine q006.pure hdep [] rfl Try.call164 ?_ (by first | trivial | simp [T.noSh, T.noShL, rat]) rfl ?_
            · simp -implicitDefEqProofs only [agR, Nat.reduceLeDiff, Nat.reduceSub, vaR, go_sem, ints, rows, rat, rats, q0p1, rtR, intsO, q0qa]
            simp -implicitDefEqProofs only [go_sem, evR, ints, rows, rat, rats]
            rw [q0fw hn hnds hall]

theorem bnT {b : Bool} (h : (!b) = true) : b = false := by cases b <;> simp_all
theorem bnF {b : Bool} (h : (!b) = false) : b = true := by cases b <;> simp_all
theorem q0s9 {l : List Nd} {i : Nat} {x : Nd} (hx : l[i]? = some x) (hl : l.length <= 1000000) (hxc : x.ch.length <= 9223372036854775807) : Pure Try.prog 224 [q0vz l, .i i] (.b (ndOK l.length i x)) := by
  have hil := (List.getElem?_eq_some_iff.1 hx).1
  rw [q0kv]
  refine q0bp (by simp) ?_
  simp -implicitDefEqProofs only [go_sem, evR, ints, rows, rat, rats, q04r, q0vz, nodes, q0kw hx]
  refine ⟨by omega, by rw [q0l0]; omega, by rw [q0l0]; omega, ?_⟩
  refine q006.pure (q0s4 x.p 0 2) [] rfl Try.call148 ?_ (by first | trivial | simp [T.noSh, T.noShL, rat]) rfl ?_
  · simp -implicitDefEqProofs only [agR, Nat.reduceLeDiff, Nat.reduceSub, vaR, go_sem, ints, rows, rat, rats, q0p1, rtR, intsO, q0qa]
  simp -implicitDefEqProofs only [go_sem, evR, ints, rows, rat, rats]
  refine ⟨fun h1 => ?_, fun h1 => by rw [show decide (0 <= x.p /\ x.p <= 2) = false from bnT h1]; rfl⟩
  rw [show decide (0 <= x.p /\ x.p <= 2) = true from bnF h1]
  refine q006.pure (q0s4 x.a 0 100) [] rfl Try.call148 ?_ (by first | trivial | simp [T.noSh, T.noShL, rat]) rfl ?_
  · simp -implicitDefEqProofs only [agR, Nat.reduceLeDiff, Nat.reduceSub, vaR, go_sem, ints, rows, rat, rats, q0p1, rtR, intsO, q0qa]
  simp -implicitDefEqProofs only [go_sem, evR, ints, rows, rat, rats]
  refine ⟨fun h2 => ?_, fun h2 => by rw [show decide (0 <= x.a /\ x.a <= 100) = false from bnT h2]; simp⟩
  rw [show decide (0 <= x.a /\ x.a <= 100) = true from bnF h2]
  refine q006.pure (q0s4 x.b 0 100) [] rfl Try.call148 ?_ (by first | trivial | simp [T.noSh, T.noShL, rat]) rfl ?_
  · simp -implicitDefEqProofs only [agR, Nat.reduceLeDiff, Nat.reduceSub, vaR, go_sem, ints, rows, rat, rats, q0p1, rtR, intsO, q0qa]
  simp -implicitDefEqProofs only [go_sem, evR, ints, rows, rat, rats]
  refine ⟨fun h3 => ?_, fun h3 => by rw [show decide (0 <= x.b /\ x.b <= 100) = false from bnT h3]; simp⟩
  rw [show decide (0 <= x.b /\ x.b <= 100) = true from bnF h3]
  refine q006.pure (q0s4 x.f (-1) 1) [] rfl Try.call148 ?_ (by first | trivial | simp [T.noSh, T.noShL, rat]) rfl ?_
  · simp -implicitDefEqProofs only [agR, Nat.reduceLeDiff, Nat.reduceSub, vaR, go_sem, ints, rows, rat, rats, q0p1, rtR, intsO, q0qa]
  simp -implicitDefEqProofs only [go_sem, evR, ints, rows, rat, rats]
  refine ⟨fun h4 => by rw [show decide (-1 <= x.f /\ x.f <= 1) = false from bnT h4]; simp, fun h4 => ?_⟩
  rw [show decide (-1 <= x.f /\ x.f <= 1) = true from bnF h4]
  refine ⟨fun h5 => ?_, fun h5 => ?_⟩
  · have h5 : x.p = 2 := by simpa using h5
    rw [if_pos h5]
    refine ⟨fun h6 => ?_, fun h6 => ?_⟩
    · have h6 : x.ch.length = 0 := by
        have : (x.ch.length : Int) = 0 := by simpa using h6
        omega
      rw [decide_eq_true h6]
      refine ⟨fun h7 => ?_, fun h7 => by rw [decide_eq_true (show 0 <= x.f by omega)]; rfl⟩
      rw [decide_eq_false (show ¬ 0 <= x.f by omega)]
      by_cases h8 : x.a = x.b
      · rw [decide_eq_true h8, h8]; simp
      · rw [decide_eq_false h8]; simp [h8]
    · have h6 : ¬ x.ch.length = 0 := by
        have : ¬ (x.ch.length : Int) = 0 := by simpa using h6
        omega
      rw [decide_eq_false h6]; rfl
  · have h5 : ¬ x.p = 2 := by simpa using h5
    rw [if_neg h5]
    refine ⟨fun h6 => ?_, fun h6 => ?_⟩
    · have h6 : x.f = -1 := by simpa using h6
      rw [decide_eq_true h6]
      refine q006.pure (q0s4 x.ch.length 1 4) [] rfl Try.call148 ?_ (by first | trivial | simp [T.noSh, T.noShL, rat]) rfl ?_
      · simp -implicitDefEqProofs only [agR, Nat.reduceLeDiff, Nat.reduceSub, vaR, go_sem, ints, rows, rat, rats, q0p1, rtR, intsO, q0qa]
      simp -implicitDefEqProofs only [go_sem, evR, ints, rows, rat, rats]
      refine ⟨fun h7 => ?_, fun h7 => ?_⟩
      · have h7 : 1 <= x.ch.length /\ x.ch.length <= 4 := by
          have := bnF h7
          simp only [decide_eq_true_eq] at this; omega
        rw [decide_eq_true h7]
        refine q006.pure (q0s6 x.ch l.length (by omega) (by omega)) [] rfl Try.call228 ?_ (by first | trivial | simp [T.noSh, T.noShL, rat]) rfl ?_
        · simp -implicitDefEqProofs only [agR, Nat.reduceLeDiff, Nat.reduceSub, vaR, go_sem, ints, rows, rat, rats, q0p1, rtR, intsO, q0qa]
        simp -implicitDefEqProofs only [go_sem, evR, ints, rows, rat, rats]
        refine ⟨fun h8 => by rw [bnT h8]; rfl, fun h8 => ⟨by omega, by omega, fun c hc => ?_⟩⟩
        rw [bnF h8]
        have hhd : x.ch.headD 0 = c := by
          cases hch : x.ch with
          | nil => rw [hch] at hc; simp at hc
          | cons a as' => rw [hch] at hc; simpa using hc
        rw [hhd]; rfl
      · have h7 : ¬ (1 <= x.ch.length /\ x.ch.length <= 4) := by
          have := bnT h7
          simp only [decide_eq_false_iff_not] at this; omega
        rw [decide_eq_false h7]; rfl
    · have h6 : ¬ x.f = -1 := by simpa using h6
      rw [decide_eq_false h6]; rfl

section
attribute [-go_sem] q0i5
theorem q0s3 (l : List Nd) (hl : l.length <= 9223372036854775807) (hcl : ∀ x ∈ l, x.ch.length <= 9223372036854775807) : Pure Try.prog 194 [q0vz l] (.b (q0fv l)) := by
  refine q0bj (by simp) ?_
  simp -implicitDefEqProofs only [go_sem, evR, ints, rows, rat, rats, q04l, q0vz, nodes]
  refine q006.pure (q0s4 l.length 1 60) [] rfl Try.call148 ?_ (by first | trivial | simp [T.noSh, T.noShL, rat]) rfl ?_
  · simp -implicitDefEqProofs only [agR, Nat.reduceLeDiff, Nat.reduceSub, vaR, go_sem, ints, rows, rat, rats, q0p1, rtR, intsO, q0qa]
  simp -implicitDefEqProofs only [go_sem, evR, ints, rows, rat, rats]
  refine ⟨fun h => ?_, fun h => ?_⟩
  · rw [q0fx (by have := bnT h; simp at this; omega)]
  · have hn : 1 <= l.length /\ l.length <= 60 := by
      have := bnF h
      simp only [decide_eq_true_eq] at this; omega
    refine ⟨by omega, by omega, ?_⟩
    refine SemC.loopR (σ := Nat) (fun i => St.of [(1, .own 1), (3, .t (.i l.length)), (4, .own 15), (5, .t (.i i))] [(1, .box [nodes l]), (15, .arr 1 ((cntV l l.length i 0).map T.i))]) (fun i => i <= l.length /\ ∀ j x, j < i -> l[j]? = some x -> ndOK l.length j x = true) (fun i => l.length - i) 0 (Weak.of _ _ [some 1, some 15] (by simp) (by simp) ?_ ?_) ⟨by simp, fun j x hj => by omega⟩ fun i hI R hn' hr he => ?_
    · simp -implicitDefEqProofs only [ints, rows, Nat.reduceBEq, wkR, Nat.reduceEqDiff, ↓reduceIte, wrR, nodes]
    · exact ⟨⟨_, rfl, .refl _⟩, rfl, ⟨_, rfl, by rw [q0jc, q06o, List.map_replicate]; exact .refl _⟩, rfl, trivial⟩
    · obtain ⟨hi, hOK⟩ := hI
      simp -implicitDefEqProofs only [go_sem, evR, ints, rows, rat, rats, nodes]
      refine ⟨fun h => ?_, fun h => he _ _ ?_⟩
      · have hil : i < l.length := by omega
        obtain ⟨x, hx⟩ : ∃ x, l[i]? = some x := ⟨_, List.getElem?_eq_getElem hil⟩
        have hxc := hcl x (List.mem_of_getElem? hx)
        have hnode := q0s9 hx (by omega) hxc
        simp only [q0vz, nodes] at hnode
        refine q006.pure hnode [] rfl Try.call224 ?_ (by first | trivial | simp [T.noSh, T.noShL, rat]) rfl ?_
        · simp -implicitDefEqProofs only [agR, Nat.reduceLeDiff, Nat.reduceSub, vaR, go_sem, ints, rows, rat, rats, q0p1, rtR, intsO, q0qa]
        simp -implicitDefEqProofs only [go_sem, evR, ints, rows, rat, rats]
        refine ⟨fun h1 => hr _ ?_, fun h1 => ?_⟩
        · simp -implicitDefEqProofs only [go_sem, evR, ints, rows, rat, rats]
          rw [q0fy hx (bnT h1)]
        · have hok := bnF h1
          have hch := q0kp hok
          have hcl4 := (q0ks hok).2.2.2.2.2
          have hd : l.getD i nd0 = x := by rw [List.getD_eq_getElem?_getD, hx]; rfl
          refine SemC.loopR (σ := Nat) (fun k => St.of [(1, .own 1), (3, .t (.i l.length)), (4, .own 15), (5, .t (.i i)), (6, .t (.i k))] [(1, .box [nodes l]), (15, .arr 1 ((cntV l l.length i k).map T.i))]) (fun k => k <= x.ch.length) (fun k => x.ch.length - k) 0 (Weak.of _ _ [some 1, some 15] (by simp) (by simp) ?_ ?_) (by simp) fun k hk R2 hn2 hr2 he2 => ?_
          · simp -implicitDefEqProofs only [ints, rows, Nat.reduceBEq, wkR, Nat.reduceEqDiff, ↓reduceIte, wrR, nodes]
          · exact ⟨⟨_, rfl, .refl _⟩, rfl, ⟨_, rfl, .refl _⟩, rfl, trivial⟩
          · have hcl' := q06k l l.length i k
            rcases Nat.lt_or_ge k x.ch.length with h9 | h9
            · obtain ⟨c, hc⟩ : ∃ c, x.ch[k]? = some c := ⟨_, List.getElem?_eq_getElem h9⟩
              have hcb := hch c (List.mem_of_getElem? hc)
              obtain ⟨cn, rfl⟩ : ∃ cn : Nat, c = (cn : Int) := ⟨c.toNat, by omega⟩
              have hg := q06j l (n := l.length) (i := i) (k := k) (c := cn) (by omega)
              simp -implicitDefEqProofs only [go_sem, evR, ints, rows, rat, rats, nodes, q0kz hx, decide_eq_true (show (k : Int) < (x.ch.length : Int) by omega), hc, hg]
              have hset := q06m (l := l) (n := l.length) (i := i) (k := k) (c := cn) (by omega) (by rw [hd]; exact hc)
              refine ⟨by omega, by rw [q0l0]; omega, by rw [q0l0]; omega, by omega, by rw [q0l0]; omega, by rw [q0l0]; omega, by omega, by omega, by omega, by omega, by omega, by omega, by omega, by omega, by omega, hn2 _ (k + 1) (Weak.of _ _ [some 1, some 15] (by simp) (by simp) ?_ ?_) (by omega) (by omega)⟩
              · simp -implicitDefEqProofs only [ints, rows, Nat.reduceBEq, wkR, Nat.reduceEqDiff, ↓reduceIte, wrR, nodes, q0lb (by omega : k < x.ch.length) (by omega)]
              · refine ⟨⟨_, rfl, .refl _⟩, rfl, ⟨_, rfl, ?_⟩, rfl, trivial⟩
                have hocc := q0m4 cn (l.take i) fun y hy => by
                  obtain ⟨j, hj, rfl⟩ := List.mem_iff_getElem.1 hy
                  rw [List.length_take] at hj
                  rw [List.getElem_take]
                  exact (q0ks (hOK j _ (by omega) (List.getElem?_eq_getElem (by omega)))).2.2.2.2.2
                have hlt : (l.take i).length <= 60 := by rw [List.length_take]; omega
                have hcnt := List.count_le_length (a := (cn : Int)) (l := (l.getD i nd0).ch.take k)
                have hctl : ((l.getD i nd0).ch.take k).length <= 4 := by rw [List.length_take, hd]; omega
                rw [wrap64 (n := (occ cn (l.take i) : Int) + (((l.getD i nd0).ch.take k).count (cn : Int) : Nat) + 1) (by omega) (by omega), ← hset, List.map_set]; exact .refl _
            · simp -implicitDefEqProofs only [go_sem, evR, ints, rows, rat, rats, nodes, q0kz hx, decide_eq_false (show ¬ (k : Int) < (x.ch.length : Int) by omega)]
              refine ⟨by omega, by rw [q0l0]; omega, by rw [q0l0]; omega, he2 _ _ ?_⟩
              simp -implicitDefEqProofs only [go_sem, evR, ints, rows, rat, rats]
              have hke : k = x.ch.length := by omega
              refine hn' _ (i + 1) (Weak.of _ _ [some 1, some 15] (by simp) (by simp) ?_ ?_) ⟨by omega, fun j y hj hy => ?_⟩ (by omega)
              · simp -implicitDefEqProofs only [ints, rows, Nat.reduceBEq, wkR, Nat.reduceEqDiff, ↓reduceIte, wrR, nodes, q0lb hil (by omega)]
              · exact ⟨⟨_, rfl, .refl _⟩, rfl, ⟨_, rfl, by rw [hke, q06l hx (fun hp => ((q0ks hok).2.2.2.1 hp).1)]; exact .refl _⟩, rfl, trivial⟩
              · by_cases hji : j = i
                · subst hji; rw [hx] at hy; cases hy; exact hok
                · exact hOK j y (by omega) hy
      · simp -implicitDefEqProofs only [go_sem, evR, ints, rows, rat, rats, nodes]
        have hie : i = l.length := by omega
        have hnds : q0l2 l := fun j y hy => hOK j y (by have := (List.getElem?_eq_some_iff.1 hy).1; omega) hy
        refine SemC.loopR (σ := Nat) (fun k => St.of [(1, .own 1), (3, .t (.i l.length)), (4, .own 15), (7, .t (.i k))] [(1, .box [nodes l]), (15, .arr 1 ((cntV l l.length l.length 0).map T.i))]) (fun k => 1 <= k /\ k <= l.length /\ ∀ j, 1 <= j -> j < k -> occ j l = 1) (fun k => l.length - k) 1 (Weak.of _ _ [some 1, some 15] (by simp) (by simp) ?_ ?_) ⟨by omega, by omega, fun j h1 h2 => by omega⟩ fun k hI R2 hn2 hr2 he2 => ?_
        · simp -implicitDefEqProofs only [ints, rows, Nat.reduceBEq, wkR, Nat.reduceEqDiff, ↓reduceIte, wrR, nodes]
        · exact ⟨⟨_, rfl, .refl _⟩, rfl, ⟨_, rfl, by rw [hie]; exact .refl _⟩, rfl, trivial⟩
        · obtain ⟨hk1, hk, hocc⟩ := hI
          rcases Nat.lt_or_ge k l.length with h9 | h9
          · have hg := q06i l l.length k h9
            have hcl' := q06k l l.length l.length 0
            simp -implicitDefEqProofs only [go_sem, evR, ints, rows, rat, rats, nodes, hg, decide_eq_true (show (k : Int) < (l.length : Int) by omega)]
            refine ⟨by omega, by omega, by omega, fun h10 => hr2 _ ?_, fun h10 => hn2 _ (k + 1) (Weak.of _ _ [some 1, some 15] (by simp) (by simp) ?_ ?_) ⟨by omega, by omega, fun j h1 h2 => ?_⟩ (by omega)⟩
            · simp -implicitDefEqProofs only [go_sem, evR, ints, rows, rat, rats]
              have h10 : ¬ occ k l = 1 := by simp at h10; omega
              rw [q0fz h9 (by omega) h10]
            · simp -implicitDefEqProofs only [ints, rows, Nat.reduceBEq, wkR, Nat.reduceEqDiff, ↓reduceIte, wrR, nodes, q0lb h9 (by omega)]
            · exact ⟨⟨_, rfl, .refl _⟩, rfl, ⟨_, rfl, .refl _⟩, rfl, trivial⟩
            · by_cases hjk : j = k
              · have h10 : occ k l = 1 := by
                  have : ((occ k l : Nat) : Int) = 1 := by simpa using h10
                  omega
                rw [hjk]; exact h10
              · exact hocc j h1 (by omega)
          · simp -implicitDefEqProofs only [go_sem, evR, ints, rows, rat, rats, nodes, decide_eq_false (show ¬ (k : Int) < (l.length : Int) by omega)]
            refine he2 _ _ ?_
            simp -implicitDefEqProofs only [go_sem, evR, ints, rows, rat, rats]
            have hall : ∀ j, j < l.length -> j = 0 ∨ occ j l = 1 := fun j hj => by
              by_cases hj0 : j = 0
              · exact .inl hj0
              · exact .inr (hocc j (by omega) (by omega))
            have hdep := q0s8 hnds (by omega) l.length 0 (by omega) (by omega) (by omega)
            simp only [q0vz, nodes] at hdep
            refine q006.pure hdep [] rfl Try.call158 ?_ (by first | trivial | simp [T.noSh, T.noShL, rat]) rfl ?_
            · simp -implicitDefEqProofs only [agR, Nat.reduceLeDiff, Nat.reduceSub, vaR, go_sem, ints, rows, rat, rats, q0p1, rtR, intsO, q0qa]
            simp -implicitDefEqProofs only [go_sem, evR, ints, rows, rat, rats]
            rw [q0fw hn hnds hall]
end

theorem q0u0 : ∀ l : List Int, sumI l = l.sum
  | [] => rfl
  | x :: l => by rw [sumI, List.sum_cons, q0u0 l]
theorem q0vm (w : List (List Int)) (r : List Int) : totW (w ++ [r]) = totW w + r.sum := by
  simp only [totW, List.map_append, List.map_cons, List.map_nil]
  rw [q0u7, q0u0 r]
theorem q0vl : totW [] = 0 := rfl
def q0ry (w : List (List Int)) : Prop := w.length <= 6 /\ ∀ r ∈ w, r.length <= 6 /\ ∀ x ∈ r, 0 <= x /\ x <= 9
theorem q0s0 {w : List (List Int)} (h : q0ry w) {r : List Int} (hr : r ∈ w) : q0rv r := ⟨by have := (h.2 r hr).1; omega, fun x hx => by have := (h.2 r hr).2 x hx; omega⟩
theorem q0vk {w : List (List Int)} (h : q0ry w) (k : Nat) : 0 <= totW (w.take k) /\ totW (w.take k) <= 324 := by
  have h1 : ∀ x ∈ (w.take k).map sumI, 0 <= x := fun x hx => by
    obtain ⟨r, hr, rfl⟩ := List.mem_map.1 hx
    exact q0u4 fun y hy => ((h.2 r (List.mem_of_mem_take hr)).2 y hy).1
  have h2 : ∀ x ∈ (w.take k).map sumI, x <= 54 := fun x hx => by
    obtain ⟨r, hr, rfl⟩ := List.mem_map.1 hx
    have := q0u1 (b := 9) fun y hy => ((h.2 r (List.mem_of_mem_take hr)).2 y hy).2
    have := (h.2 r (List.mem_of_mem_take hr)).1
    omega
  refine ⟨q0u4 h1, ?_⟩
  have := q0u1 h2
  rw [List.length_map, List.length_take] at this
  have := h.1
  unfold totW; omega
theorem q0rz {w : List (List Int)} {k : Nat} (h : matK w k 0 9 = true) (hk : k <= 6) : q0ry w := by
  obtain ⟨h1, h2⟩ := q0jv h
  exact ⟨by omega, fun r hr => ⟨by have := (h2 r hr).1; omega, fun x hx => by have := (h2 r hr).2 x hx; omega⟩⟩

theorem q0la {i n : Nat} (h : i < n) (hn : n <= 9223372036854775807) : IntKind.i64.wrap ((i : Int) + 1) = ((i + 1 : Nat) : Int) := by
  rw [wrap64 (by omega) (by omega)]; omega
section
attribute [-go_sem] q0i5
theorem q0f2 (g : Gm) (h : q0ry g.w) : Pure Try.prog 177 [q0ck g] (.i (totW g.w)) := by
  have hl := h.1
  refine q0aq (by simp) ?_
  simp -implicitDefEqProofs only [go_sem, evR, ints, rows, rat, rats, q03s, q0ck, nodes]
  refine SemC.loopR (σ := Nat) (fun i => St.of [(3, .t (.i (totW (g.w.take i)))), (7, .t (rows g.w)), (8, .t (.i g.w.length)), (9, .t (.i i))] []) (fun i => i <= g.w.length) (fun i => g.w.length - i) 0 (Weak.of _ [] [] (by simp) (by simp) ?_ trivial) (by omega) fun i hi R hn hr he => ?_
  · simp -implicitDefEqProofs only [ints, rows, Nat.reduceBEq, wkR, Nat.reduceEqDiff, ↓reduceIte, wrR, List.take_zero, q0vl]
  · rcases Nat.lt_or_ge i g.w.length with h9 | h9
    · obtain ⟨r, hx⟩ : ∃ r, g.w[i]? = some r := ⟨_, List.getElem?_eq_getElem h9⟩
      simp -implicitDefEqProofs only [go_sem, evR, ints, rows, rat, rats, hx, decide_eq_true (show (i : Int) < (g.w.length : Int) by omega)]
      refine ⟨by omega, by omega, by omega, ?_⟩
      refine q006.pure (q0f1 r (q0s0 h (List.mem_of_getElem? hx))) [] rfl Try.call200 ?_ (by first | trivial | simp [T.noSh, T.noShL, rat]) rfl ?_
      · simp -implicitDefEqProofs only [agR, Nat.reduceLeDiff, Nat.reduceSub, vaR, go_sem, ints, rows, rat, rats, q0p1, rtR, intsO, q0qa]
      simp -implicitDefEqProofs only [go_sem, evR, ints, rows, rat, rats]
      have e := q0vm (g.w.take i) r
      rw [← q0uj hx] at e
      have hb := q0vk h (i + 1)
      refine hn _ (i + 1) (Weak.of _ [] [] (by simp) (by simp) ?_ trivial) (by omega) (by omega)
      simp -implicitDefEqProofs only [ints, rows, Nat.reduceBEq, wkR, Nat.reduceEqDiff, ↓reduceIte, wrR, q0lb h9 (by omega), ← e, wrap64 (n := totW (g.w.take (i + 1))) (by omega) (by omega)]
    · simp -implicitDefEqProofs only [go_sem, evR, ints, rows, rat, rats, decide_eq_false (show ¬ (i : Int) < (g.w.length : Int) by omega)]
      refine he _ _ ?_
      simp -implicitDefEqProofs only [go_sem, evR, ints, rows, rat, rats]
      rw [List.take_of_length_le (by omega)]
theorem q0sg (g : Gm) (h : q0ry g.w) : Pure Try.prog 191 [q0ck g] (.i (totW g.w)) := by
  have hl := h.1
  refine q0bv (by simp) ?_
  simp -implicitDefEqProofs only [go_sem, evR, ints, rows, rat, rats, q04x, q0ck, nodes]
  refine SemC.loopR (σ := Nat) (fun i => St.of [(1, .own 1), (3, .t (.i (totW (g.w.take i)))), (4, .t (.i i))] [(1, .box [nodes g.nd, rows g.w, rows g.v])]) (fun i => i <= g.w.length) (fun i => g.w.length - i) 0 (Weak.of _ _ [some 1] (by simp) (by simp) ?_ ?_) (by omega) fun i hi R hn hr he => ?_
  · simp -implicitDefEqProofs only [ints, rows, Nat.reduceBEq, wkR, Nat.reduceEqDiff, ↓reduceIte, wrR, List.take_zero, q0vl, nodes]
  · exact ⟨⟨_, rfl, .refl _⟩, rfl, trivial⟩
  · rcases Nat.lt_or_ge i g.w.length with h9 | h9
    · obtain ⟨r, hx⟩ : ∃ r, g.w[i]? = some r := ⟨_, List.getElem?_eq_getElem h9⟩
      simp -implicitDefEqProofs only [go_sem, evR, ints, rows, rat, rats, nodes, hx, decide_eq_true (show (i : Int) < (g.w.length : Int) by omega)]
      refine ⟨by omega, by omega, by omega, ?_⟩
      refine q006.pure (q0s7 r (q0s0 h (List.mem_of_getElem? hx))) [] rfl Try.call187 ?_ (by first | trivial | simp [T.noSh, T.noShL, rat]) rfl ?_
      · simp -implicitDefEqProofs only [agR, Nat.reduceLeDiff, Nat.reduceSub, vaR, go_sem, ints, rows, rat, rats, q0p1, rtR, intsO, q0qa]
      simp -implicitDefEqProofs only [go_sem, evR, ints, rows, rat, rats]
      have e := q0vm (g.w.take i) r
      rw [← q0uj hx] at e
      have hb := q0vk h (i + 1)
      refine hn _ (i + 1) (Weak.of _ _ [some 1] (by simp) (by simp) ?_ ?_) (by omega) (by omega)
      · simp -implicitDefEqProofs only [ints, rows, Nat.reduceBEq, wkR, Nat.reduceEqDiff, ↓reduceIte, wrR, nodes, q0lb h9 (by omega), ← e, wrap64 (n := totW (g.w.take (i + 1))) (by omega) (by omega)]
      · exact ⟨⟨_, rfl, .refl _⟩, rfl, trivial⟩
    · simp -implicitDefEqProofs only [go_sem, evR, ints, rows, rat, rats, nodes, decide_eq_false (show ¬ (i : Int) < (g.w.length : Int) by omega)]
      refine he _ _ ?_
      simp -implicitDefEqProofs only [go_sem, evR, ints, rows, rat, rats]
      rw [List.take_of_length_le (by omega)]
theorem q0js {m : List (List Int)} {k : Nat} {lo hi : Int} : matK m k lo hi = true ↔ m.length = k /\ ∀ r ∈ m, r.length = k /\ ∀ x ∈ r, lo <= x /\ x <= hi := by
  simp only [matK, Bool.and_eq_true, decide_eq_true_eq, List.all_eq_true]
theorem q0jr {m : List (List Int)} {k : Nat} {lo hi : Int} (h : ¬ (m.length = k /\ ∀ r ∈ m, r.length = k /\ ∀ x ∈ r, lo <= x /\ x <= hi)) : matK m k lo hi = false := by
  cases hc : matK m k lo hi with
  | false => rfl
  | true => exact absurd (q0js.1 hc) h
theorem q0sd (m : List (List Int)) (k : Nat) (lo hi : Int) (hm : m.length <= 9223372036854775807) (hk : k <= 6) : Pure Try.prog 195 [rows m, .i k, .i lo, .i hi] (.b (matK m k lo hi)) := by
  refine q0bs (by simp) ?_
  simp -implicitDefEqProofs only [go_sem, evR, ints, rows, rat, rats, q04u]
  refine SemC.loopR (σ := Nat) (fun i => St.of [(0, .t (rows m)), (1, .t (.i k)), (2, .t (.i lo)), (3, .t (.i hi)), (9, .t (.i i))] []) (fun i => i <= m.length /\ ∀ j r, j < i -> m[j]? = some r -> r.length = k /\ ∀ x ∈ r, lo <= x /\ x <= hi) (fun i => m.length - i) 0 (Weak.of _ [] [] (by simp) (by simp) ?_ trivial) ⟨by omega, fun j r hj => by omega⟩ fun i hI R hn hr he => ?_
  · simp -implicitDefEqProofs only [ints, rows, Nat.reduceBEq, wkR, Nat.reduceEqDiff, ↓reduceIte, wrR]
  · obtain ⟨hi', hrows⟩ := hI
    rcases Nat.lt_or_ge i m.length with h9 | h9
    · obtain ⟨r, hx⟩ : ∃ r, m[i]? = some r := ⟨_, List.getElem?_eq_getElem h9⟩
      simp -implicitDefEqProofs only [go_sem, evR, ints, rows, rat, rats, hx, decide_eq_true (show (i : Int) < (m.length : Int) by omega)]
      refine ⟨by omega, by omega, by omega, fun h1 => hr _ ?_, fun h1 => ?_⟩
      · simp -implicitDefEqProofs only [go_sem, evR, ints, rows, rat, rats]
        rw [q0jr fun h => by have := (h.2 r (List.mem_of_getElem? hx)).1; simp at h1; omega]
      · have h1 : r.length = k := by simp at h1; omega
        refine SemC.loopR (σ := Nat) (fun j => St.of [(0, .t (rows m)), (1, .t (.i k)), (2, .t (.i lo)), (3, .t (.i hi)), (9, .t (.i i)), (10, .t (.i j))] []) (fun j => j <= k /\ ∀ t x, t < j -> r[t]? = some x -> lo <= x /\ x <= hi) (fun j => k - j) 0 (Weak.of _ [] [] (by simp) (by simp) ?_ trivial) ⟨by omega, fun j x hj => by omega⟩ fun j hJ R2 hn2 hr2 he2 => ?_
        · simp -implicitDefEqProofs only [ints, rows, Nat.reduceBEq, wkR, Nat.reduceEqDiff, ↓reduceIte, wrR]
        · obtain ⟨hj, hels⟩ := hJ
          rcases Nat.lt_or_ge j k with h8 | h8
          · obtain ⟨x, hy⟩ : ∃ x, r[j]? = some x := ⟨_, List.getElem?_eq_getElem (by omega)⟩
            simp -implicitDefEqProofs only [go_sem, evR, ints, rows, rat, rats, hx, hy, decide_eq_true (show (j : Int) < (k : Int) by omega)]
            refine ⟨by omega, by omega, by omega, by omega, by omega, by omega, ?_⟩
            refine q006.pure (q0s4 x lo hi) [] rfl Try.call148 ?_ (by first | trivial | simp [T.noSh, T.noShL, rat]) rfl ?_
            · simp -implicitDefEqProofs only [agR, Nat.reduceLeDiff, Nat.reduceSub, vaR, go_sem, ints, rows, rat, rats, q0p1, rtR, intsO, q0qa]
            simp -implicitDefEqProofs only [go_sem, evR, ints, rows, rat, rats]
            refine ⟨fun h2 => hr2 _ ?_, fun h2 => hn2 _ (j + 1) (Weak.of _ [] [] (by simp) (by simp) ?_ trivial) ⟨by omega, fun t y ht hyt => ?_⟩ (by omega)⟩
            · simp -implicitDefEqProofs only [go_sem, evR, ints, rows, rat, rats]
              refine hr _ ?_
              simp -implicitDefEqProofs only [go_sem, evR, ints, rows, rat, rats]
              rw [q0jr fun h => by have := (h.2 r (List.mem_of_getElem? hx)).2 x (List.mem_of_getElem? hy); have := bnT h2; simp at this; omega]
            · simp -implicitDefEqProofs only [ints, rows, Nat.reduceBEq, wkR, Nat.reduceEqDiff, ↓reduceIte, wrR, q0lb h8 (by omega)]
            · by_cases htj : t = j
              · subst htj; rw [hy] at hyt; cases hyt
                have := bnF h2
                simpa using this
              · exact hels t y (by omega) hyt
          · simp -implicitDefEqProofs only [go_sem, evR, ints, rows, rat, rats, decide_eq_false (show ¬ (j : Int) < (k : Int) by omega)]
            refine he2 _ _ ?_
            simp -implicitDefEqProofs only [go_sem, evR, ints, rows, rat, rats]
            refine hn _ (i + 1) (Weak.of _ [] [] (by simp) (by simp) ?_ trivial) ⟨by omega, fun t y ht hyt => ?_⟩ (by omega)
            · simp -implicitDefEqProofs only [ints, rows, Nat.reduceBEq, wkR, Nat.reduceEqDiff, ↓reduceIte, wrR, q0la h9 hm]
            · by_cases htj : t = i
              · subst htj; rw [hx] at hyt; cases hyt
                refine ⟨h1, fun z hz => ?_⟩
                obtain ⟨u, hu, rfl⟩ := List.mem_iff_getElem.1 hz
                exact hels u _ (by omega) (List.getElem?_eq_getElem hu)
              · exact hrows t y (by omega) hyt
    · simp -implicitDefEqProofs only [go_sem, evR, ints, rows, rat, rats, decide_eq_false (show ¬ (i : Int) < (m.length : Int) by omega)]
      refine he _ _ ?_
      simp -implicitDefEqProofs only [go_sem, evR, ints, rows, rat, rats]
      have hall : ∀ r ∈ m, r.length = k /\ ∀ x ∈ r, lo <= x /\ x <= hi := fun r hr => by
        obtain ⟨u, hu, rfl⟩ := List.mem_iff_getElem.1 hr
        exact hrows u _ (by omega) (List.getElem?_eq_getElem hu)
      by_cases hmk : m.length = k
      · rw [q0js.2 ⟨hmk, hall⟩, hmk]; simp [T.b]
      · rw [q0jr fun h => hmk h.1]
        have e : ((m.length : Int) == (k : Int)) = false := by simp; omega
        rw [e]
theorem q0fp {g : Gm} (h : q0fv g.nd = false) : q0fl g = false := by rw [q0fl, h]; rfl
theorem q0s2 (g : Gm) (hg : q0cf g) : Pure Try.prog 139 [q0ck g] (.b (q0fl g)) := by
  obtain ⟨hg1, hg2, hg3, hg4⟩ := hg
  have ht := q0s3 g.nd hg1 hg2
  simp only [q0vz, nodes] at ht
  refine q0bi (by simp) ?_
  simp -implicitDefEqProofs only [go_sem, evR, ints, rows, rat, rats, q04k, q0ck, nodes]
  refine q006.pure ht [] rfl Try.call194 ?_ (by first | trivial | simp [T.noSh, T.noShL, rat]) rfl ?_
  · simp -implicitDefEqProofs only [agR, Nat.reduceLeDiff, Nat.reduceSub, vaR, go_sem, ints, rows, rat, rats, q0p1, rtR, intsO, q0qa]
  simp -implicitDefEqProofs only [go_sem, evR, ints, rows, rat, rats]
  refine ⟨fun h1 => ?_, fun h1 => by rw [q0fp (by simpa using h1)]⟩
  have h1 : q0fv g.nd = true := by simpa using h1
  refine q006.pure (q0s4 g.w.length 1 6) [] rfl Try.call148 ?_ (by first | trivial | simp [T.noSh, T.noShL, rat]) rfl ?_
  · simp -implicitDefEqProofs only [agR, Nat.reduceLeDiff, Nat.reduceSub, vaR, go_sem, ints, rows, rat, rats, q0p1, rtR, intsO, q0qa]
  simp -implicitDefEqProofs only [go_sem, evR, ints, rows, rat, rats]
  refine ⟨fun h2 h2' => ?_, fun h2 => ?_⟩
  rotate_left
  · have h2 : ¬ (1 <= g.w.length /\ g.w.length <= 6) := by omega
    rw [q0fl, h1, decide_eq_false h2]; rfl
  have h2 : 1 <= g.w.length /\ g.w.length <= 6 := by omega
  have hm1 := q0sd g.w g.w.length 0 9 hg3.1 h2.2
  have hm2 := q0sd g.v g.w.length (-1) 1 hg4.1 h2.2
  simp only [rows] at hm1 hm2
  refine q006.pure hm1 [] rfl Try.call195 ?_ (by first | trivial | simp [T.noSh, T.noShL, rat]) rfl ?_
  · simp -implicitDefEqProofs only [agR, Nat.reduceLeDiff, Nat.reduceSub, vaR, go_sem, ints, rows, rat, rats, q0p1, rtR, intsO, q0qa]
  simp -implicitDefEqProofs only [go_sem, evR, ints, rows, rat, rats]
  refine ⟨fun h3 => ?_, fun h3 => ?_⟩
  rotate_left
  · have h3 : matK g.w g.w.length 0 9 = false := by simpa using h3
    rw [q0fl, h3]; simp
  have h3 : matK g.w g.w.length 0 9 = true := by simpa using h3
  refine q006.pure hm2 [] rfl Try.call195 ?_ (by first | trivial | simp [T.noSh, T.noShL, rat]) rfl ?_
  · simp -implicitDefEqProofs only [agR, Nat.reduceLeDiff, Nat.reduceSub, vaR, go_sem, ints, rows, rat, rats, q0p1, rtR, intsO, q0qa]
  simp -implicitDefEqProofs only [go_sem, evR, ints, rows, rat, rats]
  refine ⟨fun h4 => ?_, fun h4 => ?_⟩
  rotate_left
  · have h4 : matK g.v g.w.length (-1) 1 = false := by simpa using h4
    rw [q0fl, h4]; simp
  have h4 : matK g.v g.w.length (-1) 1 = true := by simpa using h4
  have hw := q0sg g (q0rz h3 h2.2)
  simp only [q0ck, nodes, rows] at hw
  refine q006.pure hw [] rfl Try.call191 ?_ (by first | trivial | simp [T.noSh, T.noShL, rat]) rfl ?_
  · simp -implicitDefEqProofs only [agR, Nat.reduceLeDiff, Nat.reduceSub, vaR, go_sem, ints, rows, rat, rats, q0p1, rtR, intsO, q0qa]
  simp -implicitDefEqProofs only [go_sem, evR, ints, rows, rat, rats]
  rw [q0fl, h1, decide_eq_true h2, h3, h4]; rfl
end

section
attribute [-go_sem] q0i5
def rowK (k : Nat) (lo hi : Int) (r : List Int) : Prop := r.length = k /\ (r.all fun x => decide (lo <= x /\ x <= hi)) = true
theorem q0ju {m : List (List Int)} {k : Nat} {lo hi : Int} (hm : m.length = k) (h : ∀ i r, i < k -> m[i]? = some r -> rowK k lo hi r) : matK m k lo hi = true := by
  refine q0js.2 ⟨hm, fun r hr => ?_⟩
  obtain ⟨u, hu, rfl⟩ := List.mem_iff_getElem.1 hr
  obtain ⟨h1, h2⟩ := h u _ (by omega) (List.getElem?_eq_getElem hu)
  refine ⟨h1, fun x hx => ?_⟩
  rw [List.all_eq_true] at h2
  simpa using h2 x hx
theorem q0jt {m : List (List Int)} {k : Nat} {lo hi : Int} (h : matK m k lo hi = true) {i : Nat} {r : List Int} (hr : m[i]? = some r) : rowK k lo hi r := by
  obtain ⟨h1, h2⟩ := q0js.1 h
  obtain ⟨h3, h4⟩ := h2 r (List.mem_of_getElem? hr)
  exact ⟨h3, List.all_eq_true.2 fun x hx => decide_eq_true (h4 x hx)⟩
theorem q0fn {g : Gm} (h : q0fl g = true) : q0fv g.nd = true /\ (1 <= g.w.length /\ g.w.length <= 6) /\ matK g.w g.w.length 0 9 = true /\ matK g.v g.w.length (-1) 1 = true /\ 0 < totW g.w := by
  simp only [q0fl, Bool.and_eq_true, decide_eq_true_eq] at h
  exact ⟨h.1.1.1.1, h.1.1.1.2, h.1.1.2, h.1.2, h.2⟩
theorem q0fm {g : Gm} (h : q0fl g = true -> False) : q0fl g = false := by
  cases hc : q0fl g with
  | false => rfl
  | true => exact (h hc).elim
theorem q0ee (g : Gm) (hg : q0cf g) : Pure Try.prog 115 [q0ck g] (.b (q0fl g)) := by
  obtain ⟨hg1, hg2, hg3, hg4⟩ := hg
  have ht := q0ef g.nd hg1 hg2
  simp only [q0vz, nodes] at ht
  refine q0a9 (by simp) ?_
  simp -implicitDefEqProofs only [go_sem, evR, ints, rows, rat, rats, q03b, q0ck, nodes]
  refine q006.pure ht [] rfl Try.call175 ?_ (by first | trivial | simp [T.noSh, T.noShL, rat]) rfl ?_
  · simp -implicitDefEqProofs only [agR, Nat.reduceLeDiff, Nat.reduceSub, vaR, go_sem, ints, rows, rat, rats, q0p1, rtR, intsO, q0qa]
  simp -implicitDefEqProofs only [go_sem, evR, ints, rows, rat, rats]
  refine ⟨fun h1 => ?_, fun h1 => ?_⟩
  rotate_left
  · rw [q0fm fun h => by have := (q0fn h).1; rw [this] at h1; simp at h1]
  have h1 : q0fv g.nd = true := by simpa using h1
  refine q006.pure (q0f9 g.w.length 1 6) [] rfl Try.call110 ?_ (by first | trivial | simp [T.noSh, T.noShL, rat]) rfl ?_
  · simp -implicitDefEqProofs only [agR, Nat.reduceLeDiff, Nat.reduceSub, vaR, go_sem, ints, rows, rat, rats, q0p1, rtR, intsO, q0qa]
  simp -implicitDefEqProofs only [go_sem, evR, ints, rows, rat, rats]
  refine ⟨fun h2 => ⟨fun h3 => ?_, fun h3 => ?_⟩, fun h2 => ?_⟩
  · rw [q0fm fun h => by have := (q0fn h).2.2.2.1; have := (q0js.1 this).1; simp at h3; omega]
  rotate_left
  · rw [q0fm fun h => by have := (q0fn h).2.1; have := bnT h2; simp at this; omega]
  have h2 : 1 <= g.w.length /\ g.w.length <= 6 := by have := bnF h2; simp only [decide_eq_true_eq] at this; omega
  have h3 : g.v.length = g.w.length := by simp at h3; omega
  refine SemC.loopR (σ := Nat) (fun i => St.of [(1, .own 1), (3, .t (.i g.w.length)), (24, .t (.i g.w.length)), (25, .t (.i i))] [(1, .box [nodes g.nd, rows g.w, rows g.v])]) (fun i => i <= g.w.length /\ (∀ j r, j < i -> g.w[j]? = some r -> rowK g.w.length 0 9 r) /\ ∀ j r, j < i -> g.v[j]? = some r -> rowK g.w.length (-1) 1 r) (fun i => g.w.length - i) 0 (Weak.of _ _ [some 1] (by simp) (by simp) ?_ ?_) ⟨by omega, fun j r hj => by omega, fun j r hj => by omega⟩ fun i hI R hn hr he => ?_
  · simp -implicitDefEqProofs only [ints, rows, Nat.reduceBEq, wkR, Nat.reduceEqDiff, ↓reduceIte, wrR, nodes]
  · exact ⟨⟨_, rfl, .refl _⟩, rfl, trivial⟩
  · obtain ⟨hi, hw, hv⟩ := hI
    rcases Nat.lt_or_ge i g.w.length with h9 | h9
    · obtain ⟨r, hx⟩ : ∃ r, g.w[i]? = some r := ⟨_, List.getElem?_eq_getElem h9⟩
      obtain ⟨q, hy⟩ : ∃ q, g.v[i]? = some q := ⟨_, List.getElem?_eq_getElem (by omega)⟩
      have hbw : ¬ rowK g.w.length 0 9 r -> q0fl g = false := fun hc => q0fm fun h => hc (q0jt (q0fn h).2.2.1 hx)
      have hbv : ¬ rowK g.w.length (-1) 1 q -> q0fl g = false := fun hc => q0fm fun h => hc (q0jt (q0fn h).2.2.2.1 hy)
      simp -implicitDefEqProofs only [go_sem, evR, ints, rows, rat, rats, nodes, hx, hy, decide_eq_true (show (i : Int) < (g.w.length : Int) by omega)]
      refine ⟨by omega, by omega, by omega, fun h4 => ⟨by omega, by omega, by omega, ?_⟩, fun h4 => hr _ ?_⟩
      rotate_left
      · simp -implicitDefEqProofs only [go_sem, evR, ints, rows, rat, rats]
        rw [hbw fun h => by have := h.1; simp at h4; omega]
      have h4 : r.length = g.w.length := by simp at h4; omega
      refine ⟨fun h5 => ⟨by omega, by omega, by omega, ?_⟩, fun h5 => hr _ ?_⟩
      rotate_left
      · simp -implicitDefEqProofs only [go_sem, evR, ints, rows, rat, rats]
        rw [hbv fun h => by have := h.1; simp at h5; omega]
      have h5 : q.length = g.w.length := by simp at h5; omega
      refine q006.pure (q0eg r 0 9 (by omega)) [] rfl Try.call176 ?_ (by first | trivial | simp [T.noSh, T.noShL, rat]) rfl ?_
      · simp -implicitDefEqProofs only [agR, Nat.reduceLeDiff, Nat.reduceSub, vaR, go_sem, ints, rows, rat, rats, q0p1, rtR, intsO, q0qa]
      simp -implicitDefEqProofs only [go_sem, evR, ints, rows, rat, rats, hx, hy]
      refine ⟨fun h6 => ⟨by omega, by omega, by omega, ?_⟩, fun h6 => hr _ ?_⟩
      rotate_left
      · simp -implicitDefEqProofs only [go_sem, evR, ints, rows, rat, rats]
        rw [hbw fun h => by rw [h.2] at h6; simp at h6]
      have h6 : (r.all fun x => decide (0 <= x /\ x <= 9)) = true := by simpa using h6
      refine q006.pure (q0eg q (-1) 1 (by omega)) [] rfl Try.call176 ?_ (by first | trivial | simp [T.noSh, T.noShL, rat]) rfl ?_
      · simp -implicitDefEqProofs only [agR, Nat.reduceLeDiff, Nat.reduceSub, vaR, go_sem, ints, rows, rat, rats, q0p1, rtR, intsO, q0qa]
      simp -implicitDefEqProofs only [go_sem, evR, ints, rows, rat, rats]
      refine ⟨fun h7 => hr _ ?_, fun h7 => hn _ (i + 1) (Weak.of _ _ [some 1] (by simp) (by simp) ?_ ?_) ⟨by omega, fun j r' hj hr' => ?_, fun j r' hj hr' => ?_⟩ (by omega)⟩
      · simp -implicitDefEqProofs only [go_sem, evR, ints, rows, rat, rats]
        rw [hbv fun h => by rw [h.2] at h7; simp at h7]
      · simp -implicitDefEqProofs only [ints, rows, Nat.reduceBEq, wkR, Nat.reduceEqDiff, ↓reduceIte, wrR, nodes, q0lb h9 (by omega)]
      · exact ⟨⟨_, rfl, .refl _⟩, rfl, trivial⟩
      · by_cases hji : j = i
        · subst hji; rw [hx] at hr'; cases hr'; exact ⟨h4, h6⟩
        · exact hw j r' (by omega) hr'
      · by_cases hji : j = i
        · subst hji; rw [hy] at hr'; cases hr'; exact ⟨h5, bnF h7⟩
        · exact hv j r' (by omega) hr'
    · simp -implicitDefEqProofs only [go_sem, evR, ints, rows, rat, rats, nodes, decide_eq_false (show ¬ (i : Int) < (g.w.length : Int) by omega)]
      refine he _ _ ?_
      simp -implicitDefEqProofs only [go_sem, evR, ints, rows, rat, rats]
      have hmw : matK g.w g.w.length 0 9 = true := q0ju rfl fun j r hj hr => hw j r (by omega) hr
      have hmv : matK g.v g.w.length (-1) 1 = true := q0ju h3 fun j r hj hr => hv j r (by omega) hr
      have hW := q0f2 g (q0rz hmw h2.2)
      simp only [q0ck, nodes, rows] at hW
      refine q006.pure hW [] rfl Try.call177 ?_ (by first | trivial | simp [T.noSh, T.noShL, rat]) rfl ?_
      · simp -implicitDefEqProofs only [agR, Nat.reduceLeDiff, Nat.reduceSub, vaR, go_sem, ints, rows, rat, rats, q0p1, rtR, intsO, q0qa]
      simp -implicitDefEqProofs only [go_sem, evR, ints, rows, rat, rats]
      rw [q0fl, h1, decide_eq_true h2, hmw, hmv]; rfl
end

theorem q0e5 {l : List Nd} {i : Nat} {x : Nd} (h : l[i]? = some x) (pl : Int) : idxs l pl (i + 1) = if x.p = pl then idxs l pl i ++ [(i : Int)] else idxs l pl i := by
  rw [q0ec, List.getD_eq_getElem?_getD, h]; rfl
theorem q0e7 (l : List Nd) (pl : Int) (n : Nat) : (idxs l pl n).length <= n := by
  unfold idxs
  rw [List.length_map]
  have := List.length_filter_le (fun i => decide ((l.getD i nd0).p = pl)) (List.range n)
  simpa using this
section
attribute [-go_sem] q0i5
theorem q0sa (l : List Nd) (pl : Int) (hl : l.length <= 1000000000000) : Fun Try.prog 220 [] [.t (q0vz l), .t (.i pl)] fun o r => o = [] /\ r = intsO (idxs l pl l.length) := by
  refine q0bq (by simp) ?_
  simp -implicitDefEqProofs only [go_sem, evR, ints, rows, rat, rats, q04s, q0vz, nodes]
  refine SemC.loopR (σ := Nat) (fun i => St.of [(1, .t (.i pl)), (2, .own 2), (5, .own 77), (6, .t (.i i))] [(2, .box [nodes l]), (77, .arr 1 ((idxs l pl i).map T.i))]) (fun i => i <= l.length) (fun i => l.length - i) 0 (Weak.of _ _ [some 2, some 7] (by simp) (by simp) ?_ ?_) (by omega) fun i hi R hn hr he => ?_
  · simp -implicitDefEqProofs only [ints, rows, Nat.reduceBEq, wkR, Nat.reduceEqDiff, ↓reduceIte, wrR, nodes]
  · exact ⟨⟨_, rfl, .refl _⟩, rfl, ⟨_, rfl, .refl _⟩, rfl, trivial⟩
  · rcases Nat.lt_or_ge i l.length with h9 | h9
    · obtain ⟨x, hx⟩ : ∃ x, l[i]? = some x := ⟨_, List.getElem?_eq_getElem h9⟩
      have hil := q0e7 l pl i
      simp -implicitDefEqProofs only [go_sem, evR, ints, rows, rat, rats, nodes, q0ky hx, decide_eq_true (show (i : Int) < (l.length : Int) by omega)]
      refine ⟨by omega, by rw [q0l0]; omega, by rw [q0l0]; omega, fun h1 => ⟨by omega, ?_⟩, fun h1 => ?_⟩
      · have h1 : x.p = pl := by simpa using h1
        refine hn _ (i + 1) (Weak.of _ _ [some 2, some 26] (by simp) (by simp) ?_ ?_) (by omega) (by omega)
        · simp -implicitDefEqProofs only [ints, rows, Nat.reduceBEq, wkR, Nat.reduceEqDiff, ↓reduceIte, wrR, nodes, q0lb h9 hl]
        · refine ⟨⟨_, rfl, .refl _⟩, rfl, ⟨_, rfl, ?_⟩, rfl, trivial⟩
          rw [q0e5 hx, if_pos h1, List.map_append]; exact .refl _
      · have h1 : ¬ x.p = pl := by simpa using h1
        refine hn _ (i + 1) (Weak.of _ _ [some 2, some 77] (by simp) (by simp) ?_ ?_) (by omega) (by omega)
        · simp -implicitDefEqProofs only [ints, rows, Nat.reduceBEq, wkR, Nat.reduceEqDiff, ↓reduceIte, wrR, nodes, q0lb h9 hl]
        · refine ⟨⟨_, rfl, .refl _⟩, rfl, ⟨_, rfl, ?_⟩, rfl, trivial⟩
          rw [q0e5 hx, if_neg h1]; exact .refl _
    · simp -implicitDefEqProofs only [go_sem, evR, ints, rows, rat, rats, nodes, decide_eq_false (show ¬ (i : Int) < (l.length : Int) by omega)]
      refine he _ _ ?_
      simp -implicitDefEqProofs only [go_sem, evR, ints, rows, rat, rats]
      rw [show i = l.length by omega]; rfl
theorem q0es (l : List Nd) (pl : Int) (hl : l.length <= 1000000000000) : Fun Try.prog 181 [] [.t (q0vz l), .t (.i pl)] fun o r => o = [] /\ r = intsO (idxs l pl l.length) := by
  refine q0ak (by simp) ?_
  simp -implicitDefEqProofs only [go_sem, evR, ints, rows, rat, rats, q03m, q0vz, nodes]
  refine SemC.loopR (σ := Nat) (fun i => St.of [(1, .t (.i pl)), (5, .own 77), (9, .t (nodes l)), (10, .t (.i l.length)), (11, .t (.i i))] [(77, .arr 1 ((idxs l pl i).map T.i))]) (fun i => i <= l.length) (fun i => l.length - i) 0 (Weak.of _ _ [none] (by simp) (by simp) ?_ ?_) (by omega) fun i hi R hn hr he => ?_
  · simp -implicitDefEqProofs only [ints, rows, Nat.reduceBEq, wkR, Nat.reduceEqDiff, ↓reduceIte, wrR, nodes, q0l0]
  · exact ⟨⟨1, rfl⟩, trivial⟩
  · rcases Nat.lt_or_ge i l.length with h9 | h9
    · obtain ⟨x, hx⟩ : ∃ x, l[i]? = some x := ⟨_, List.getElem?_eq_getElem h9⟩
      have hil := q0e7 l pl i
      simp -implicitDefEqProofs only [go_sem, evR, ints, rows, rat, rats, nodes, q0kw hx, decide_eq_true (show (i : Int) < (l.length : Int) by omega)]
      refine ⟨by omega, by rw [q0l0]; omega, by rw [q0l0]; omega, fun h1 => ⟨by omega, ?_⟩, fun h1 => ?_⟩
      · have h1 : x.p = pl := by simpa using h1
        refine hn _ (i + 1) (Weak.of _ _ [some 23] (by simp) (by simp) ?_ ?_) (by omega) (by omega)
        · simp -implicitDefEqProofs only [ints, rows, Nat.reduceBEq, wkR, Nat.reduceEqDiff, ↓reduceIte, wrR, nodes, q0lb h9 hl]
        · refine ⟨⟨_, rfl, ?_⟩, rfl, trivial⟩
          rw [q0e5 hx, if_pos h1, List.map_append]; exact .refl _
      · have h1 : ¬ x.p = pl := by simpa using h1
        refine hn _ (i + 1) (Weak.of _ _ [some 77] (by simp) (by simp) ?_ ?_) (by omega) (by omega)
        · simp -implicitDefEqProofs only [ints, rows, Nat.reduceBEq, wkR, Nat.reduceEqDiff, ↓reduceIte, wrR, nodes, q0lb h9 hl]
        · refine ⟨⟨_, rfl, ?_⟩, rfl, trivial⟩
          rw [q0e5 hx, if_neg h1]; exact .refl _
    · simp -implicitDefEqProofs only [go_sem, evR, ints, rows, rat, rats, nodes, decide_eq_false (show ¬ (i : Int) < (l.length : Int) by omega)]
      refine he _ _ ?_
      simp -implicitDefEqProofs only [go_sem, evR, ints, rows, rat, rats]
      rw [show i = l.length by omega]; rfl
def q0r7 (ns : List Int) (k i c : Nat) : List (List Int) := q0r3 (ns.take i) k ++ (List.range c).map fun a : Nat => [ns.getD i 0, (a : Int)]
theorem q0rc (ns : List Int) (k i : Nat) : q0r7 ns k i 0 = q0r3 (ns.take i) k := by simp [q0r7]
theorem q0rb (ns : List Int) (k i c : Nat) : q0r7 ns k i (c + 1) = q0r7 ns k i c ++ [[ns.getD i 0, (c : Int)]] := by simp [q0r7, List.range_succ]
theorem q0ra {ns : List Int} {k i : Nat} {n : Int} (h : ns[i]? = some n) : q0r7 ns k i k = q0r7 ns k (i + 1) 0 := by
  rw [q0rc, q0uj h, q0r6, q0r7, List.getD_eq_getElem?_getD, h]; rfl
theorem q0r9 (ns : List Int) (k i c : Nat) : (q0r7 ns k i c).length <= ns.length * k + c := by
  rw [q0r7, List.length_append, q0r4, List.length_map, List.length_range, List.length_take]
  have : Nat.min i ns.length * k <= ns.length * k := Nat.mul_le_mul_right _ (Nat.min_le_right _ _)
  have e : min i ns.length = Nat.min i ns.length := rfl
  rw [e]; omega
theorem q0r8 (ns : List Int) (k : Nat) : q0r7 ns k ns.length 0 = q0r3 ns k := by rw [q0rc, List.take_length]
theorem q0sb (l : List Nd) (pl : Int) (hl : l.length <= 1000000000000) : Fun Try.prog 220 [] [.t (.agg [.sh 5 (chunk q0lu l)]), .t (.i pl)] fun o r => o = [] /\ r = intsO (idxs l pl l.length) := q0sa l pl hl
theorem q0et (l : List Nd) (pl : Int) (hl : l.length <= 1000000000000) : Fun Try.prog 181 [] [.t (.agg [.sh 5 (chunk q0lu l)]), .t (.i pl)] fun o r => o = [] /\ r = intsO (idxs l pl l.length) := q0es l pl hl
theorem q0sf (g : Gm) (pl : Int) (hl : g.nd.length <= 60) (hk : g.w.length <= 6) : Fun Try.prog 186 [] [.t (q0ck g), .t (.i pl)] fun o r => o = [] /\ r = q0qa (sets g pl) := by
  refine q0bu (by simp) ?_
  simp -implicitDefEqProofs only [go_sem, evR, ints, rows, rat, rats, q04w, q0ck, nodes]
  refine q006.res (q0sb g.nd pl (by omega)) [] rfl Try.call220 ?_ (.inl rfl) ?_
  · simp -implicitDefEqProofs only [agR, Nat.reduceLeDiff, Nat.reduceSub, vaR, go_sem, ints, rows, rat, rats, q0p1, rtR, intsO, q0qa]
  simp -implicitDefEqProofs only [clR, Nat.reduceLeDiff, go_sem, evR, rat]
  have hns := q0e7 g.nd pl g.nd.length
  have hsets : sets g pl = q0r3 (idxs g.nd pl g.nd.length) g.w.length := rfl
  rw [hsets]
  generalize idxs g.nd pl g.nd.length = ns at hns ⊢
  refine SemC.loopR (σ := Nat) (fun i => St.of [(2, .own 2), (5, .own 12), (6, .own 77), (7, .t (.i i))] [(2, .box [nodes g.nd, rows g.w, rows g.v]), (12, intsO ns), (77, .arr 1 ((q0r7 ns g.w.length i 0).map intsO))]) (fun i => i <= ns.length) (fun i => ns.length - i) 0 (Weak.of _ _ [some 2, some 12, some 13] (by simp) (by simp) ?_ ?_) (by omega) fun i hi R hn hr he => ?_
  · simp -implicitDefEqProofs only [ints, rows, Nat.reduceBEq, wkR, Nat.reduceEqDiff, ↓reduceIte, wrR, nodes]
  · exact ⟨⟨_, rfl, .refl _⟩, rfl, ⟨_, rfl, .refl _⟩, rfl, ⟨_, rfl, .refl _⟩, rfl, trivial⟩
  · rcases Nat.lt_or_ge i ns.length with h9 | h9
    · obtain ⟨n, hx⟩ : ∃ n, ns[i]? = some n := ⟨_, List.getElem?_eq_getElem h9⟩
      simp -implicitDefEqProofs only [go_sem, evR, ints, rows, rat, rats, nodes, intsO, decide_eq_true (show (i : Int) < (ns.length : Int) by omega)]
      refine SemC.loopR (σ := Nat) (fun c => St.of [(2, .own 2), (5, .own 12), (6, .own 77), (7, .t (.i i)), (8, .t (.i c))] [(2, .box [nodes g.nd, rows g.w, rows g.v]), (12, intsO ns), (77, .arr 1 ((q0r7 ns g.w.length i c).map intsO))]) (fun c => c <= g.w.length) (fun c => g.w.length - c) 0 (Weak.of _ _ [some 2, some 12, some 77] (by simp) (by simp) ?_ ?_) (by omega) fun c hc R2 hn2 hr2 he2 => ?_
      · simp -implicitDefEqProofs only [ints, rows, Nat.reduceBEq, wkR, Nat.reduceEqDiff, ↓reduceIte, wrR, nodes]
      · exact ⟨⟨_, rfl, .refl _⟩, rfl, ⟨_, rfl, .refl _⟩, rfl, ⟨_, rfl, .refl _⟩, rfl, trivial⟩
      · rcases Nat.lt_or_ge c g.w.length with h8 | h8
        · have hil := q0r9 ns g.w.length i c
          simp -implicitDefEqProofs only [go_sem, evR, ints, rows, rat, rats, nodes, intsO, hx, decide_eq_true (show (c : Int) < (g.w.length : Int) by omega)]
          have hmul : ns.length * g.w.length <= 60 * 6 := Nat.mul_le_mul (by omega) hk
          refine ⟨by omega, by omega, by omega, by omega, hn2 _ (c + 1) (Weak.of _ _ [some 2, some 12, some 35] (by simp) (by simp) ?_ ?_) (by omega) (by omega)⟩
          · simp -implicitDefEqProofs only [ints, rows, Nat.reduceBEq, wkR, Nat.reduceEqDiff, ↓reduceIte, wrR, nodes, q0lb h8 (by omega)]
          · refine ⟨⟨_, rfl, .refl _⟩, rfl, ⟨_, rfl, .refl _⟩, rfl, ⟨_, rfl, ?_⟩, rfl, trivial⟩
            rw [q0rb, List.map_append, List.getD_eq_getElem?_getD, hx]; exact .refl _
        · simp -implicitDefEqProofs only [go_sem, evR, ints, rows, rat, rats, nodes, decide_eq_false (show ¬ (c : Int) < (g.w.length : Int) by omega)]
          refine he2 _ _ ?_
          simp -implicitDefEqProofs only [go_sem, evR, ints, rows, rat, rats]
          refine hn _ (i + 1) (Weak.of _ _ [some 2, some 12, some 77] (by simp) (by simp) ?_ ?_) (by omega) (by omega)
          · simp -implicitDefEqProofs only [ints, rows, Nat.reduceBEq, wkR, Nat.reduceEqDiff, ↓reduceIte, wrR, nodes, q0lb h9 (by omega)]
          · refine ⟨⟨_, rfl, .refl _⟩, rfl, ⟨_, rfl, .refl _⟩, rfl, ⟨_, rfl, ?_⟩, rfl, trivial⟩
            rw [show c = g.w.length by omega, q0ra hx]; exact .refl _
    · simp -implicitDefEqProofs only [go_sem, evR, ints, rows, rat, rats, nodes, intsO, decide_eq_false (show ¬ (i : Int) < (ns.length : Int) by omega)]
      refine he _ _ ?_
      simp -implicitDefEqProofs only [go_sem, evR, ints, rows, rat, rats]
      rw [show i = ns.length by omega, q0r8]; rfl
theorem q0eo (g : Gm) (pl : Int) (hl : g.nd.length <= 60) (hk : g.w.length <= 6) : Fun Try.prog 152 [] [.t (q0ck g), .t (.i pl)] fun o r => o = [] /\ r = q0qa (sets g pl) := by
  refine q0ah (by simp) ?_
  simp -implicitDefEqProofs only [go_sem, evR, ints, rows, rat, rats, q03j, q0ck, nodes]
  refine q006.res (q0et g.nd pl (by omega)) [] rfl Try.call181 ?_ (.inl rfl) ?_
  · simp -implicitDefEqProofs only [agR, Nat.reduceLeDiff, Nat.reduceSub, vaR, go_sem, ints, rows, rat, rats, q0p1, rtR, intsO, q0qa]
  simp -implicitDefEqProofs only [clR, Nat.reduceLeDiff, go_sem, evR, rat, intsO]
  have hns := q0e7 g.nd pl g.nd.length
  have hsets : sets g pl = q0r3 (idxs g.nd pl g.nd.length) g.w.length := rfl
  rw [hsets]
  generalize idxs g.nd pl g.nd.length = ns at hns ⊢
  refine SemC.loopR (σ := Nat) (fun i => St.of [(2, .own 2), (5, .own 77), (12, .own 12), (13, .t (.i ns.length)), (14, .t (.i i))] [(2, .box [nodes g.nd, rows g.w, rows g.v]), (12, intsO ns), (77, .arr 1 ((q0r7 ns g.w.length i 0).map intsO))]) (fun i => i <= ns.length) (fun i => ns.length - i) 0 (Weak.of _ _ [some 2, some 12, none] (by simp) (by simp) ?_ ?_) (by omega) fun i hi R hn hr he => ?_
  · simp -implicitDefEqProofs only [ints, rows, Nat.reduceBEq, wkR, Nat.reduceEqDiff, ↓reduceIte, wrR, nodes]
  · exact ⟨⟨_, rfl, .refl _⟩, rfl, ⟨_, rfl, .refl _⟩, rfl, ⟨1, rfl⟩, trivial⟩
  · rcases Nat.lt_or_ge i ns.length with h9 | h9
    · obtain ⟨n, hx⟩ : ∃ n, ns[i]? = some n := ⟨_, List.getElem?_eq_getElem h9⟩
      simp -implicitDefEqProofs only [go_sem, evR, ints, rows, rat, rats, nodes, intsO, hx, decide_eq_true (show (i : Int) < (ns.length : Int) by omega)]
      refine ⟨by omega, by omega, by omega, ?_⟩
      refine SemC.loopR (σ := Nat) (fun c => St.of [(2, .own 2), (5, .own 77), (7, .t (.i n)), (12, .own 12), (13, .t (.i ns.length)), (14, .t (.i i)), (20, .t (.i g.w.length)), (21, .t (.i c))] [(2, .box [nodes g.nd, rows g.w, rows g.v]), (12, intsO ns), (77, .arr 1 ((q0r7 ns g.w.length i c).map intsO))]) (fun c => c <= g.w.length) (fun c => g.w.length - c) 0 (Weak.of _ _ [some 2, some 12, some 77] (by simp) (by simp) ?_ ?_) (by omega) fun c hc R2 hn2 hr2 he2 => ?_
      · simp -implicitDefEqProofs only [ints, rows, Nat.reduceBEq, wkR, Nat.reduceEqDiff, ↓reduceIte, wrR, nodes]
      · exact ⟨⟨_, rfl, .refl _⟩, rfl, ⟨_, rfl, .refl _⟩, rfl, ⟨_, rfl, .refl _⟩, rfl, trivial⟩
      · rcases Nat.lt_or_ge c g.w.length with h8 | h8
        · have hil := q0r9 ns g.w.length i c
          simp -implicitDefEqProofs only [go_sem, evR, ints, rows, rat, rats, nodes, intsO, decide_eq_true (show (c : Int) < (g.w.length : Int) by omega)]
          have hmul : ns.length * g.w.length <= 60 * 6 := Nat.mul_le_mul (by omega) hk
          refine ⟨by omega, hn2 _ (c + 1) (Weak.of _ _ [some 2, some 12, some 29] (by simp) (by simp) ?_ ?_) (by omega) (by omega)⟩
          · simp -implicitDefEqProofs only [ints, rows, Nat.reduceBEq, wkR, Nat.reduceEqDiff, ↓reduceIte, wrR, nodes, q0lb h8 (by omega)]
          · refine ⟨⟨_, rfl, .refl _⟩, rfl, ⟨_, rfl, .refl _⟩, rfl, ⟨_, rfl, ?_⟩, rfl, trivial⟩
            rw [q0rb, List.map_append, List.getD_eq_getElem?_getD, hx]; exact .refl _
        · simp -implicitDefEqProofs only [go_sem, evR, ints, rows, rat, rats, nodes, decide_eq_false (show ¬ (c : Int) < (g.w.length : Int) by omega)]
          refine he2 _ _ ?_
          simp -implicitDefEqProofs only [go_sem, evR, ints, rows, rat, rats]
          refine hn _ (i + 1) (Weak.of _ _ [some 2, some 12, some 77] (by simp) (by simp) ?_ ?_) (by omega) (by omega)
          · simp -implicitDefEqProofs only [ints, rows, Nat.reduceBEq, wkR, Nat.reduceEqDiff, ↓reduceIte, wrR, nodes, q0lb h9 (by omega)]
          · refine ⟨⟨_, rfl, .refl _⟩, rfl, ⟨_, rfl, .refl _⟩, rfl, ⟨_, rfl, ?_⟩, rfl, trivial⟩
            rw [show c = g.w.length by omega, q0ra hx]; exact .refl _
    · simp -implicitDefEqProofs only [go_sem, evR, ints, rows, rat, rats, nodes, intsO, decide_eq_false (show ¬ (i : Int) < (ns.length : Int) by omega)]
      refine he _ _ ?_
      simp -implicitDefEqProofs only [go_sem, evR, ints, rows, rat, rats]
      rw [show i = ns.length by omega, q0r8]; rfl
end

theorem q0qz {g : Gm} {pl : Int} {i : Nat} (h : i < (sets g pl).length) : ∃ (n c : Nat) (x : Nd), (sets g pl)[i]? = some [(n : Int), (c : Int)] /\ g.nd[n]? = some x /\ n < g.nd.length /\ c < g.w.length /\ x.p = pl /\ q0rh g pl i = x.ch.length := by
  have hg := List.getElem?_eq_getElem h
  obtain ⟨n0, hn0, c, hc, e⟩ := q0r5 (List.getElem_mem h)
  obtain ⟨n, rfl, hn, hp⟩ := q0ea hn0
  rw [e] at hg
  have hx : g.nd[n]? = some g.nd[n] := List.getElem?_eq_getElem hn
  have hd : g.nd.getD n nd0 = g.nd[n] := by rw [List.getD_eq_getElem?_getD, hx]; rfl
  refine ⟨n, c, g.nd[n], hg, hx, hn, hc, by rw [← hd]; exact hp, ?_⟩
  have e0 : (sets g pl).getD i [] = [(n : Int), (c : Int)] := by rw [List.getD_eq_getElem?_getD, hg]; rfl
  rw [q0rh, e0, ← hd]; rfl
theorem q0fu {g : Gm} {pl : Int} {pt : List (List Int)} : q0ft g pl pt = true ↔ pt.length = (sets g pl).length /\ ∀ i, i < (sets g pl).length -> q0nt (q0rh g pl i) (pt.getD i []) = true := by
  simp only [q0ft, Bool.and_eq_true, decide_eq_true_eq, List.all_eq_true, List.mem_range]
theorem q17m {g : Gm} {pl : Int} {pt : List (List Int)} (h : ¬ (pt.length = (sets g pl).length /\ ∀ i, i < (sets g pl).length -> q0nt (q0rh g pl i) (pt.getD i []) = true)) : q0ft g pl pt = false := by
  cases hc : q0ft g pl pt with
  | false => rfl
  | true => exact absurd (q0fu.1 hc) h
theorem q0nu {n : Nat} {l : List Int} : q0nt n l = true ↔ l.length = n /\ (l.all fun x => decide (0 <= x /\ x <= 60)) = true /\ l.sum = 60 := by
  simp only [q0nt, Bool.and_eq_true, decide_eq_true_eq, q0u0, and_assoc]
theorem q0re (g : Gm) (pl : Int) (hl : g.nd.length <= 60) (hk : g.w.length <= 6) : (sets g pl).length <= 360 := by
  rw [q0rf]
  have := q0e7 g.nd pl g.nd.length
  have : (idxs g.nd pl g.nd.length).length * g.w.length <= 60 * 6 := Nat.mul_le_mul (by omega) hk
  omega
theorem q16a {r : List Int} (h : (r.all fun x => decide (0 <= x /\ x <= 60)) = true) (hl : r.length <= 1000) : q0rv r := by
  rw [List.all_eq_true] at h
  exact ⟨hl, fun x hx => by have := h x hx; simp only [decide_eq_true_eq] at this; omega⟩
def strB (g : Gm) (s : Int × List (List Int)) : Bool := q0fl g && decide (0 <= s.1 /\ s.1 <= 1) && q0ft g s.1 s.2
theorem q0fd (g : Gm) (pl : Int) (hl : g.nd.length <= 60) (hk : g.w.length <= 6) : Fun Try.prog 152 [] [.t (.agg [.sh 5 (chunk q0lu g.nd), .sh 1 (g.w.map ints), .sh 1 (g.v.map ints)]), .t (.i pl)] fun o r => o = [] /\ r = q0qa (sets g pl) := q0eo g pl hl hk
theorem q0h9 (g : Gm) (pl : Int) (hl : g.nd.length <= 60) (hk : g.w.length <= 6) : Fun Try.prog 186 [] [.t (.agg [.sh 5 (chunk q0lu g.nd), .sh 1 (g.w.map ints), .sh 1 (g.v.map ints)]), .t (.i pl)] fun o r => o = [] /\ r = q0qa (sets g pl) := q0sf g pl hl hk
theorem q16b (m : List (List Int)) : (T.arr 1 (m.map intsO)).toSh = T.sh 1 (m.map ints) := q17t m
section
attribute [-go_sem] q0i5 q0id fldC lenC idxC q0ip
theorem q17g (g : Gm) (s : Int × List (List Int)) (hg : q0fl g = true) (hs : q0q9 s.2) : Pure Try.prog 153 [q0ck g, q0tu s] (.b (q0ft g s.1 s.2)) := by
  obtain ⟨pl, pt⟩ := s
  obtain ⟨hs1, hs2⟩ := hs
  simp only [] at hs1 hs2 ⊢
  obtain ⟨p1, p2, p3, p4, p5⟩ := q0fn hg
  obtain ⟨t1, t2, t3, t4⟩ := q0g0 p1
  have hnl : ∀ {n : Nat} {x : Nd}, g.nd[n]? = some x -> x.ch.length <= 4 := fun hx => (q0ks (t2 _ _ hx)).2.2.2.2.2
  have hsl := q0re g pl t1.2 p2.2
  refine q171 (by simp) ?_
  simp -implicitDefEqProofs only [go_sem, evR, ints, rows, rat, rats, q16j, q0ck, q0tu, nodes]
  refine q006.res (q0fd g pl t1.2 p2.2) [] rfl Try.call152 ?_ (.inl rfl) ?_
  · simp -implicitDefEqProofs only [agR, Nat.reduceLeDiff, Nat.reduceSub, vaR, go_sem, ints, rows, rat, rats, q0p1, rtR, intsO, q0qa]
  simp -implicitDefEqProofs only [clR, Nat.reduceLeDiff, go_sem, evR, rat, q0qa]
  refine ⟨fun h1 => ?_, fun h1 => ?_⟩
  · have h1 : ¬ pt.length = (sets g pl).length := by simp at h1; omega
    rw [q17m fun h => h1 h.1]
  have h1 : pt.length = (sets g pl).length := by simp at h1; omega
  refine SemC.loopR (σ := Nat) (fun i => St.of [(2, .own 2), (3, .own 3), (19, .t (rows (sets g pl))), (20, .t (.i (sets g pl).length)), (21, .t (.i i))] [(2, .box [nodes g.nd, rows g.w, rows g.v]), (3, .box [.i pl, rows pt])]) (fun i => i <= (sets g pl).length /\ ∀ j, j < i -> q0nt (q0rh g pl j) (pt.getD j []) = true) (fun i => (sets g pl).length - i) 0 (Weak.trans (Weak.share 12 rfl) (Weak.of _ _ [some 2, some 3] (by simp) (by simp) ?_ ?_)) ⟨by omega, fun j hj => by omega⟩ fun i hI R hn hr he => ?_
  · simp -implicitDefEqProofs only [ints, rows, Nat.reduceBEq, wkR, Nat.reduceEqDiff, ↓reduceIte, wrR, q0rg, q16b, nodes]
  · exact ⟨⟨_, rfl, .refl _⟩, rfl, ⟨_, rfl, .refl _⟩, rfl, trivial⟩
  · obtain ⟨hi, hok⟩ := hI
    rcases Nat.lt_or_ge i (sets g pl).length with h9 | h9
    · obtain ⟨n, c, x, hx1, hx2, hx3, hx4, hx5, hx6⟩ := q0qz h9
      obtain ⟨r, hr1⟩ : ∃ r, pt[i]? = some r := ⟨_, List.getElem?_eq_getElem (by omega)⟩
      have hrd : pt.getD i [] = r := by rw [List.getD_eq_getElem?_getD, hr1]; rfl
      have hno : ¬ q0nt x.ch.length r = true -> q0ft g pl pt = false := fun hc => q17m fun h => hc (by have := h.2 i h9; rwa [hx6, hrd] at this)
      have hxl := hnl hx2
      simp -implicitDefEqProofs only [go_sem, evR, ints, rows, rat, rats, nodes, hx1, hr1, q0kz hx2, decide_eq_true (show (i : Int) < ((sets g pl).length : Int) by omega)]
      refine ⟨by omega, by omega, by omega, by omega, by omega, by omega, by omega, by rw [q0l0]; omega, by rw [q0l0]; omega, fun h2 => ?_, fun h2 => hr _ ?_⟩
      rotate_left
      · simp -implicitDefEqProofs only [go_sem, evR, ints, rows, rat, rats]
        rw [hno fun h => by have := (q0nu.1 h).1; simp at h2; omega]
      have h2 : r.length = x.ch.length := by simp at h2; omega
      refine q004.pure (q0eg r 0 60 (by omega)) [] rfl Try.call176 (fun e R' hR => ?_) (by first | trivial | simp [T.noSh, T.noShL, rat]) (fun _ => rfl) ?_
      · simp -implicitDefEqProofs only [agR, Nat.reduceLeDiff, Nat.reduceSub, vaR, go_sem, ints, rows, rat, rats, q0p1, rtR, intsO, q0qa]
      simp -implicitDefEqProofs only [go_sem, evR, ints, rows, rat, rats]
      refine ⟨fun h3 => ?_, fun h3 => hr _ ?_⟩
      rotate_left
      · simp -implicitDefEqProofs only [go_sem, evR, ints, rows, rat, rats]
        rw [hno fun h => by rw [(q0nu.1 h).2.1] at h3; simp at h3]
      have h3 : (r.all fun x => decide (0 <= x /\ x <= 60)) = true := bnF h3
      refine q004.pure (q0f1 r (q16a h3 (by omega))) [] rfl Try.call200 (fun e R' hR => ?_) (by first | trivial | simp [T.noSh, T.noShL, rat]) (fun _ => rfl) ?_
      · simp -implicitDefEqProofs only [agR, Nat.reduceLeDiff, Nat.reduceSub, vaR, go_sem, ints, rows, rat, rats, q0p1, rtR, intsO, q0qa]
      simp -implicitDefEqProofs only [go_sem, evR, ints, rows, rat, rats]
      refine ⟨fun h4 => hr _ ?_, fun h4 => hn _ (i + 1) (Weak.of _ _ [some 2, some 3] (by simp) (by simp) ?_ ?_) ⟨by omega, fun j hj => ?_⟩ (by omega)⟩
      · simp -implicitDefEqProofs only [go_sem, evR, ints, rows, rat, rats]
        rw [hno fun h => by have := (q0nu.1 h).2.2; simp at h4; omega]
      · simp -implicitDefEqProofs only [ints, rows, Nat.reduceBEq, wkR, Nat.reduceEqDiff, ↓reduceIte, wrR, nodes, q0lb h9 (by omega)]
      · exact ⟨⟨_, rfl, .refl _⟩, rfl, ⟨_, rfl, .refl _⟩, rfl, trivial⟩
      · by_cases hji : j = i
        · subst hji; rw [hx6, hrd]; exact q0nu.2 ⟨h2, h3, by simpa using h4⟩
        · exact hok j (by omega)
    · simp -implicitDefEqProofs only [go_sem, evR, ints, rows, rat, rats, nodes, decide_eq_false (show ¬ (i : Int) < ((sets g pl).length : Int) by omega)]
      refine he _ _ ?_
      simp -implicitDefEqProofs only [go_sem, evR, ints, rows, rat, rats]
      rw [q0fu.2 ⟨h1, fun j hj => hok j (by omega)⟩]
end

section
attribute [-go_sem] q0i5 q0id fldC lenC idxC q0ip
theorem q0fq {f : FuncId} {g : Gm} {b : Bool} (h : Pure Try.prog f [q0ck g] (.b b)) : Pure Try.prog f [.agg [.sh 5 (chunk q0lu g.nd), .sh 1 (g.w.map ints), .sh 1 (g.v.map ints)]] (.b b) := h
theorem q17e (g : Gm) (s : Int × List (List Int)) (hg : q0cf g) (hs : q0q9 s.2) : Pure Try.prog 91 [q0ck g, q0tu s] (.b (strB g s)) := by
  refine q16z (by simp) ?_
  simp -implicitDefEqProofs only [go_sem, evR, ints, rows, rat, rats, q16h, q0ck, q0tu, nodes]
  refine q006.pure (q0fq (q0ee g hg)) [] rfl Try.call115 ?_ (by first | trivial | simp [T.noSh, T.noShL, rat]) rfl ?_
  · simp -implicitDefEqProofs only [agR, Nat.reduceLeDiff, Nat.reduceSub, vaR, go_sem, ints, rows, rat, rats, q0p1, rtR, intsO, q0qa]
  simp -implicitDefEqProofs only [go_sem, evR, ints, rows, rat, rats]
  refine ⟨fun h1 => ?_, fun h1 => ?_⟩
  rotate_left
  · have h1 : q0fl g = false := by simpa using h1
    rw [strB, h1]; rfl
  have h1 : q0fl g = true := by simpa using h1
  refine q006.pure (q0f9 s.1 0 1) [] rfl Try.call110 ?_ (by first | trivial | simp [T.noSh, T.noShL, rat]) rfl ?_
  · simp -implicitDefEqProofs only [agR, Nat.reduceLeDiff, Nat.reduceSub, vaR, go_sem, ints, rows, rat, rats, q0p1, rtR, intsO, q0qa]
  simp -implicitDefEqProofs only [go_sem, evR, ints, rows, rat, rats]
  refine ⟨fun h2 => ?_, fun h2 => ?_⟩
  · have h2 := bnT h2
    rw [strB, h2, Bool.and_false]; rfl
  have h2 := bnF h2
  have hst := q17g g s h1 hs
  simp only [q0ck, q0tu, nodes, rows] at hst
  refine q006.pure hst [] rfl Try.call153 ?_ (by first | trivial | simp [T.noSh, T.noShL, rat]) rfl ?_
  · simp -implicitDefEqProofs only [agR, Nat.reduceLeDiff, Nat.reduceSub, vaR, go_sem, ints, rows, rat, rats, q0p1, rtR, intsO, q0qa]
  simp -implicitDefEqProofs only [go_sem, evR, ints, rows, rat, rats]
  rw [strB, h1, h2]; rfl
end

theorem q0o4 {g : Gm} {i a b : Nat} {x : Nd} {r : List Int} {y : Int} (hx : g.nd[i]? = some x) (hr : g.v[a]? = some r) (hy : r[b]? = some y) : pay g i a b = if (if x.f = 0 then -1 else if x.f = 1 then 1 else y) = 1 then x.b else if (if x.f = 0 then -1 else if x.f = 1 then 1 else y) = -1 then -x.a else 0 := by
  have e1 : g.nd.getD i nd0 = x := by rw [List.getD_eq_getElem?_getD, hx]; rfl
  have e2 : (g.v.getD a []).getD b 0 = y := by rw [List.getD_eq_getElem?_getD, List.getD_eq_getElem?_getD, hr, Option.getD_some, hy]; rfl
  rw [pay, e1, e2]
theorem q0cl {g : Gm} (hg : q0fl g = true) {a b : Nat} (ha : a < g.w.length) (hb : b < g.w.length) : ∃ r y, g.v[a]? = some r /\ r[b]? = some y := by
  obtain ⟨h1, h2⟩ := q0js.1 (q0fn hg).2.2.2.1
  have hx := List.getElem?_eq_getElem (show a < g.v.length by omega)
  have h3 := (h2 _ (List.getElem_mem (show a < g.v.length by omega))).1
  exact ⟨_, _, hx, List.getElem?_eq_getElem (by omega)⟩
theorem q0cn {g : Gm} (hg : q0fl g = true) {a b : Nat} (ha : a < g.w.length) (hb : b < g.w.length) : ∃ r y, g.w[a]? = some r /\ r[b]? = some y /\ 0 <= y /\ y <= 9 := by
  obtain ⟨h1, h2⟩ := q0js.1 (q0fn hg).2.2.1
  have hx := List.getElem?_eq_getElem ha
  obtain ⟨h3, h4⟩ := h2 _ (List.getElem_mem ha)
  have hl : b < g.w[a].length := by omega
  exact ⟨_, _, hx, List.getElem?_eq_getElem hl, h4 _ (List.getElem_mem hl)⟩
theorem q0oi : ∀ {p q : Nat}, p <= q -> pw p <= pw q := by
  intro p q h
  induction h with
  | refl => exact Int.le_refl _
  | step h ih => rw [q0ol]; have := q0ok (p := ‹Nat›); omega
section
attribute [-go_sem] q0i5 q0id fldC lenC idxC q0ip
theorem q0ew (g : Gm) (hg : q0fl g = true) (i a b : Nat) (hi : i < g.nd.length) (ha : a < g.w.length) (hb : b < g.w.length) : Pure Try.prog 213 [q0ck g, .i i, .i a, .i b] (.i (pay g i a b)) := by
  obtain ⟨p1, p2, p3, p4, p5⟩ := q0fn hg
  obtain ⟨t1, t2, t3, t4⟩ := q0g0 p1
  obtain ⟨x, hx⟩ : ∃ x, g.nd[i]? = some x := ⟨_, List.getElem?_eq_getElem hi⟩
  obtain ⟨r, y, hr, hy⟩ := q0cl hg ha hb
  have hf := q0ks (t2 _ _ hx)
  have hal := (List.getElem?_eq_some_iff.1 hr).1
  have hbl := (List.getElem?_eq_some_iff.1 hy).1
  rw [q0o4 hx hr hy]
  refine q0am (by simp) ?_
  simp -implicitDefEqProofs only [go_sem, evR, ints, rows, rat, rats, q03o, q0ck, nodes, q0kw hx, hr, hy]
  refine ⟨by omega, by rw [q0l0]; omega, by rw [q0l0]; omega, by omega, by omega, by omega, by omega, by omega, by omega, ?_⟩
  rw [wrap64 (n := 0 - x.a) (by omega) (by omega), Int.zero_sub]
  by_cases h0 : x.f = 0
  · simp [h0]
  · by_cases h1 : x.f = 1
    · simp [h1]
    · by_cases h2 : y = 1
      · simp [h0, h1, h2]
      · by_cases h3 : y = -1 <;> simp [h0, h1, h2, h3]
theorem q0se (g : Gm) (hg : q0fl g = true) (i a b : Nat) (hi : i < g.nd.length) (ha : a < g.w.length) (hb : b < g.w.length) : Pure Try.prog 215 [q0ck g, .i i, .i a, .i b] (.i (pay g i a b)) := by
  obtain ⟨p1, p2, p3, p4, p5⟩ := q0fn hg
  obtain ⟨t1, t2, t3, t4⟩ := q0g0 p1
  obtain ⟨x, hx⟩ : ∃ x, g.nd[i]? = some x := ⟨_, List.getElem?_eq_getElem hi⟩
  obtain ⟨r, y, hr, hy⟩ := q0cl hg ha hb
  have hf := q0ks (t2 _ _ hx)
  have hal := (List.getElem?_eq_some_iff.1 hr).1
  have hbl := (List.getElem?_eq_some_iff.1 hy).1
  rw [q0o4 hx hr hy]
  refine q0bt (by simp) ?_
  simp -implicitDefEqProofs only [go_sem, evR, ints, rows, rat, rats, q04v, q0ck, nodes, q0kw hx, hr, hy]
  refine ⟨by omega, by rw [q0l0]; omega, by rw [q0l0]; omega, by omega, by omega, by omega, by omega, by omega, by omega, ?_⟩
  rw [wrap64 (n := 0 - x.a) (by omega) (by omega), Int.zero_sub]
  by_cases h0 : x.f = 0
  · simp [h0]
  · by_cases h1 : x.f = 1
    · simp [h1]
    · by_cases h2 : y = 1
      · simp [h0, h1, h2]
      · by_cases h3 : y = -1 <;> simp [h0, h1, h2, h3]
theorem q0ex (p : Nat) (hp : p <= 8) : Pure Try.prog 163 [.i 60, .i p] (.i (pw p)) := by
  refine q0an (by simp) ?_
  simp -implicitDefEqProofs only [go_sem, evR, ints, rows, rat, rats, q03p]
  refine SemC.loopR (σ := Nat) (fun i => St.of [(0, .t (.i 60)), (5, .t (.i (pw i))), (6, .t (.i p)), (7, .t (.i i))] []) (fun i => i <= p) (fun i => p - i) 0 (Weak.of _ [] [] (by simp) (by simp) ?_ trivial) (by omega) fun i hi R hn hr he => ?_
  · simp -implicitDefEqProofs only [ints, rows, Nat.reduceBEq, wkR, Nat.reduceEqDiff, ↓reduceIte, wrR, show pw 0 = 1 from rfl]
  · rcases Nat.lt_or_ge i p with h9 | h9
    · simp -implicitDefEqProofs only [go_sem, evR, ints, rows, rat, rats, decide_eq_true (show (i : Int) < (p : Int) by omega)]
      have hb := q0oi (show i + 1 <= 8 by omega)
      have hb0 := q0ok (p := i + 1)
      have hb8 : pw 8 = 167961600000000 := by decide
      have e : pw i * 60 = pw (i + 1) := by rw [q0ol, Int.mul_comm]
      refine hn _ (i + 1) (Weak.of _ [] [] (by simp) (by simp) ?_ trivial) (by omega) (by omega)
      simp -implicitDefEqProofs only [ints, rows, Nat.reduceBEq, wkR, Nat.reduceEqDiff, ↓reduceIte, wrR, q0lb h9 (by omega), e, wrap64 (n := pw (i + 1)) (by omega) (by omega)]
    · simp -implicitDefEqProofs only [go_sem, evR, ints, rows, rat, rats, decide_eq_false (show ¬ (i : Int) < (p : Int) by omega)]
      refine he _ _ ?_
      simp -implicitDefEqProofs only [go_sem, evR, ints, rows, rat, rats]
      rw [show i = p by omega]
theorem q0sl (p : Nat) (hp : p <= 8) : Pure Try.prog 157 [.i p] (.i (pw p)) := by
  refine q0bz (by simp) ?_
  simp -implicitDefEqProofs only [go_sem, evR, ints, rows, rat, rats, q051]
  refine SemC.loopR (σ := Nat) (fun i => St.of [(0, .t (.i ((p - i : Nat) : Int))), (3, .t (.i (pw i)))] []) (fun i => i <= p) (fun i => p - i) 0 (Weak.of _ [] [] (by simp) (by simp) ?_ trivial) (by omega) fun i hi R hn hr he => ?_
  · simp -implicitDefEqProofs only [ints, rows, Nat.reduceBEq, wkR, Nat.reduceEqDiff, ↓reduceIte, wrR, show pw 0 = 1 from rfl, Nat.sub_zero]
  · rcases Nat.lt_or_ge i p with h9 | h9
    · simp -implicitDefEqProofs only [go_sem, evR, ints, rows, rat, rats, decide_eq_true (show ((p - i : Nat) : Int) > 0 by omega)]
      have hb := q0oi (show i + 1 <= 8 by omega)
      have hb0 := q0ok (p := i + 1)
      have hb8 : pw 8 = 167961600000000 := by decide
      have e : pw i * 60 = pw (i + 1) := by rw [q0ol, Int.mul_comm]
      refine hn _ (i + 1) (Weak.of _ [] [] (by simp) (by simp) ?_ trivial) (by omega) (by omega)
      simp -implicitDefEqProofs only [ints, rows, Nat.reduceBEq, wkR, Nat.reduceEqDiff, ↓reduceIte, wrR, e, wrap64 (n := pw (i + 1)) (by omega) (by omega), wrap64 (n := ((p - (i + 1) : Nat) : Int)) (by omega) (by omega), show ((p - i : Nat) : Int) - 1 = ((p - (i + 1) : Nat) : Int) by omega]
    · simp -implicitDefEqProofs only [go_sem, evR, ints, rows, rat, rats, decide_eq_false (show ¬ ((p - i : Nat) : Int) > 0 by omega)]
      refine he _ _ ?_
      simp -implicitDefEqProofs only [go_sem, evR, ints, rows, rat, rats]
      rw [show i = p by omega]
theorem q080 {f : FuncId} {l : List Nd} {i n : Int} (h : Pure Try.prog f [q0vz l, .i i] (.i n)) : Pure Try.prog f [.agg [.sh 5 (chunk q0lu l)], .i i] (.i n) := h
theorem q0e6 {l : List Nd} {pl : Int} {i n : Nat} (hi : i < n) (hp : (l.getD i nd0).p = pl) {j : Nat} {y : Int} (hj : j <= (idxs l pl i).length) (hy : (idxs l pl n)[j]? = some y) : (y = i ↔ j = (idxs l pl i).length) := by
  obtain ⟨rest, e⟩ := q0eb l pl hp n hi
  rw [e] at hy
  rcases Nat.lt_or_ge j (idxs l pl i).length with h | h
  · rw [List.getElem?_append_left h] at hy
    obtain ⟨k, rfl, hk, _⟩ := q0ea (List.mem_of_getElem? hy)
    constructor
    · intro h1; omega
    · intro h1; omega
  · rw [List.getElem?_append_right h, show j - (idxs l pl i).length = 0 by omega] at hy
    have : (i : Int) = y := by simpa using hy
    constructor
    · intro; omega
    · intro; omega
theorem q0e8 {l : List Nd} {pl : Int} {i n : Nat} (hi : i < n) (hp : (l.getD i nd0).p = pl) : (idxs l pl i).length < (idxs l pl n).length := by
  obtain ⟨rest, e⟩ := q0eb l pl hp n hi
  rw [e]; simp
theorem q0sm (g : Gm) (hg : q0fl g = true) (pl : Int) (i c : Nat) (hi : i < g.nd.length) (hp : (g.nd.getD i nd0).p = pl) (hc : c < g.w.length) : Pure Try.prog 221 [q0ck g, .i pl, .i i, .i c] (.i (setI g pl i c)) := by
  obtain ⟨p1, p2, p3, p4, p5⟩ := q0fn hg
  obtain ⟨t1, t2, t3, t4⟩ := q0g0 p1
  have hlt := q0e8 hi hp
  have hbf : ∀ {j : Nat} {y : Int}, j <= (idxs g.nd pl i).length -> (idxs g.nd pl g.nd.length)[j]? = some y -> (y = i ↔ j = (idxs g.nd pl i).length) := fun hj hy => q0e6 hi hp hj hy
  have hlen := q0e7 g.nd pl g.nd.length
  refine q0c0 (by simp) ?_
  simp -implicitDefEqProofs only [go_sem, evR, ints, rows, rat, rats, q052, q0ck, nodes]
  refine q006.res (q0sb g.nd pl (by omega)) [] rfl Try.call220 ?_ (.inl rfl) ?_
  · simp -implicitDefEqProofs only [agR, Nat.reduceLeDiff, Nat.reduceSub, vaR, go_sem, ints, rows, rat, rats, q0p1, rtR, intsO, q0qa]
  simp -implicitDefEqProofs only [clR, Nat.reduceLeDiff, go_sem, evR, rat, intsO]
  unfold setI
  generalize idxs g.nd pl g.nd.length = ns at hlt hbf hlen ⊢
  generalize hm : (idxs g.nd pl i).length = m at hlt hbf ⊢
  refine SemC.loopR (σ := Nat) (fun j => St.of [(2, .t (.i i)), (3, .t (.i c)), (4, .own 4), (9, .own 14), (10, .t (.i j))] [(4, .box [nodes g.nd, rows g.w, rows g.v]), (14, intsO ns)]) (fun j => j <= m) (fun j => m - j) 0 (Weak.of _ _ [some 4, some 14] (by simp) (by simp) ?_ ?_) (by omega) fun j hj R hn hr he => ?_
  · simp -implicitDefEqProofs only [ints, rows, Nat.reduceBEq, wkR, Nat.reduceEqDiff, ↓reduceIte, wrR, nodes]
  · exact ⟨⟨_, rfl, .refl _⟩, rfl, ⟨_, rfl, .refl _⟩, rfl, trivial⟩
  · obtain ⟨y, hy⟩ : ∃ y, ns[j]? = some y := ⟨_, List.getElem?_eq_getElem (by omega)⟩
    have hiff := hbf hj hy
    have hmul : j * g.w.length <= 60 * 6 := Nat.mul_le_mul (by omega) p2.2
    have hcast : (j : Int) * (g.w.length : Int) = ((j * g.w.length : Nat) : Int) := by rw [Int.natCast_mul]
    simp -implicitDefEqProofs only [go_sem, evR, ints, rows, rat, rats, nodes, intsO, hy, decide_eq_true (show (j : Int) < (ns.length : Int) by omega)]
    refine ⟨by omega, by omega, by omega, fun h1 => hr _ ?_, fun h1 => hn _ (j + 1) (Weak.of _ _ [some 4, some 14] (by simp) (by simp) ?_ ?_) ?_ ?_⟩
    · have h1 : j = m := hiff.1 (by simpa using h1)
      simp -implicitDefEqProofs only [go_sem, evR, ints, rows, rat, rats, hcast, wrap64 (n := ((j * g.w.length : Nat) : Int)) (by omega) (by omega), wrap64 (n := ((j * g.w.length : Nat) : Int) + (c : Int)) (by omega) (by omega)]
      rw [h1]; rfl
    · simp -implicitDefEqProofs only [ints, rows, Nat.reduceBEq, wkR, Nat.reduceEqDiff, ↓reduceIte, wrR, nodes, intsO, q0lb (show j < ns.length by omega) (by omega)]
    · exact ⟨⟨_, rfl, .refl _⟩, rfl, ⟨_, rfl, .refl _⟩, rfl, trivial⟩
    · have h1 : ¬ j = m := fun h => by have := hiff.2 h; simp at h1; omega
      omega
    · have h1 : ¬ j = m := fun h => by have := hiff.2 h; simp at h1; omega
      omega
end

theorem q0u5 {G : Nat -> Int} {c : Int} : ∀ {n : Nat}, (∀ k, k < n -> -c <= G k /\ G k <= c) -> -(n * c) <= sumI ((List.range n).map G) /\ sumI ((List.range n).map G) <= n * c
  | 0, _ => by simp [sumI]
  | n + 1, h => by
    have ih := q0u5 (n := n) fun k hk => h k (by omega)
    have h1 := h n (by omega)
    rw [List.range_succ, List.map_append, List.map_cons, List.map_nil, q0u7]
    have e : ((n + 1 : Nat) : Int) * c = n * c + c := by rw [Int.natCast_add, Int.add_mul]; simp
    omega
def nilO (r : Nat) (K : A -> Prop) : Root -> Prop
  | .live (.box _) _ => K (.own r)
  | _ => False
theorem q0lr {r : Nat} {S : St} {K : A -> Prop} : q0lp (.own r) S K = nilO r K (S.roots r) := by
  show (match S.roots r with | .live (.box _) _ => K (.own r) | _ => False) = _
  cases S.roots r with
  | live t lk => cases t <;> rfl
  | _ => rfl
theorem q0lt {r off : Nat} {S : St} {K : A -> Prop} : q0lp (.ptr r off) S K = K (.ptr r off) := rfl
theorem q0ls {l : List T} {off : Nat} {S : St} {K : A -> Prop} : q0lp (.t (.pin l off)) S K = K (.t (.pin l off)) := rfl
attribute [go_sem] q0lr q0lt q0ls nilO
section
attribute [-go_sem] q0i5 q0id fldC lenC idxC q0ip q0lp
theorem q0ha {g : Gm} (hg : q0fl g = true) {pl : Int} {i c : Nat} (hi : i < g.nd.length) (hp : (g.nd.getD i nd0).p = pl) (hc : c < g.w.length) : Pure Try.prog 221 [.agg [.sh 5 (chunk q0lu g.nd), .sh 1 (g.w.map ints), .sh 1 (g.v.map ints)], .i pl, .i i, .i c] (.i (setI g pl i c)) := q0sm g hg pl i c hi hp hc
end

theorem q0o5 {g : Gm} (hg : q0fl g = true) (i a b : Nat) (hi : i < g.nd.length) (ha : a < g.w.length) (hb : b < g.w.length) : Pure Try.prog 213 [.agg [.sh 5 (chunk q0lu g.nd), .sh 1 (g.w.map ints), .sh 1 (g.v.map ints)], .i i, .i a, .i b] (.i (pay g i a b)) := q0ew g hg i a b hi ha hb
section
attribute [-go_sem] q0i5 q0id fldC lenC idxC q0ip q0lp
end

theorem q0e9 {l : List Nd} {pl : Int} {j : Nat} {y : Int} (h : (idxs l pl l.length)[j]? = some y) : ∃ i : Nat, y = i /\ i < l.length := by
  obtain ⟨i, h1, h2, _⟩ := q0ea (List.mem_of_getElem? h)
  exact ⟨i, h1, h2⟩
section
attribute [-go_sem] q0i5 q0id fldC lenC idxC q0ip q0lp
end

def q0nn (g : Gm) (s t : Int × List (List Int)) : Bool := strB g s && strB g t && decide (s.1 = 0) && decide (t.1 = 1)
theorem q0np {g : Gm} {s t : Int × List (List Int)} (h : q0nn g s t = true) : strB g s = true /\ strB g t = true /\ s.1 = 0 /\ t.1 = 1 := by
  simp only [q0nn, Bool.and_eq_true, decide_eq_true_eq] at h
  exact ⟨h.1.1.1, h.1.1.2, h.1.2, h.2⟩
theorem q0no {g : Gm} {s t : Int × List (List Int)} : q0nn g s t = true ↔ q0fl g = true /\ s.1 = 0 /\ t.1 = 1 /\ q0ft g s.1 s.2 = true /\ q0ft g t.1 t.2 = true := by
  simp only [q0nn, strB, Bool.and_eq_true, decide_eq_true_eq]
  constructor
  · rintro ⟨⟨⟨⟨⟨h1, h2⟩, h3⟩, ⟨_, h4⟩, h5⟩, h6⟩, h7⟩
    exact ⟨h1, h6, h7, h3, h5⟩
  · rintro ⟨h1, h2, h3, h4, h5⟩
    exact ⟨⟨⟨⟨⟨h1, by omega⟩, h4⟩, ⟨h1, by omega⟩, h5⟩, h2⟩, h3⟩
section
attribute [-go_sem] q0i5 q0id fldC lenC idxC q0ip q0lp
theorem q17l {f : FuncId} {g : Gm} {s : Int × List (List Int)} {b : Bool} (h : Pure Try.prog f [q0ck g, q0tu s] (.b b)) : Pure Try.prog f [.agg [.sh 5 (chunk q0lu g.nd), .sh 1 (g.w.map ints), .sh 1 (g.v.map ints)], .agg [.i s.1, .sh 1 (s.2.map ints)]] (.b b) := h
end

theorem q0dz : ∀ (f : Nat) (l : List Int), (hvd f l).length = l.length
  | 0, l => rfl
  | f + 1, l => by
    rw [hvd]
    split
    · rfl
    · rw [q0dz f, q0dl]

def tot : List (List Int) -> Nat
  | [] => 0
  | r :: m => r.length + tot m
theorem q0vn : ∀ {m : List (List Int)} {r : List Int}, r ∈ m -> r.length <= tot m
  | r' :: m, r, h => by
    rcases List.mem_cons.1 h with rfl | h
    · simp [tot]
    · have := q0vn h; simp only [tot]; omega

def q0cg (g : Gm) : T := .agg [q0m0 g.nd, q0qa g.w, q0qa g.v]
theorem q0m1 (l : List Nd) : (q0m0 l).toSh = nodes l := by
  show T.sh 5 (T.toShL (chunk q0lv l)) = T.sh 5 (chunk q0lu l)
  congr 1
  induction l with
  | nil => rfl
  | cons x l ih =>
    rw [q069, q069, T.toShL_eq_map, List.map_append, ← T.toShL_eq_map (chunk q0lv l), ih]
    congr 1
    show [T.i x.p, .i x.a, .i x.b, .i x.f, (intsO x.ch).toSh] = _
    rw [q0fi]; rfl
theorem q0vh (l : List Nd) : T.toShL (chunk q0lv l) = chunk q0lu l := by
  have := q0m1 l
  simpa [q0m0, nodes, T.toSh] using this
attribute [go_sem] q0vh
section
attribute [-go_sem] q0i5 q0id fldC lenC idxC q0ip
end

section
attribute [-go_sem] q0i5 q0id fldC lenC idxC q0ip
def q0q5 (m : List (List Int)) : Prop := m.length <= 1000000000000 /\ ∀ r ∈ m, r.length <= 1000000000000
end

def q0qc (m : List (List Int)) : Prop := m.length <= 1048576 /\ tot m <= 1048576
theorem q0qd {m : List (List Int)} (h : q0qc m) : q0q5 m := ⟨by have := h.1; omega, fun r hr => by have := q0vn hr; have := h.2; omega⟩

def q03k : CC :=
 (.seq (.reg [.o (.box 3 (sl 0)),
 .o (.box 4 (sl 1)),
 .o (.box 5 (sl 2)),
 .o (.move 6 (cv (.pointer none)))])
 ((.seq (.draw [25] [(kR, .o (.loadN 15 3 (sl 3))),
 (kR, .o (.fld 16 1 (sl 4))),
 (kR, .o (.load1 17 (sl 16))),
 (kR, .o (.fld 18 1 (sl 5))),
 (kR, .o (.load1 19 (sl 18))),
 (kR, .o (.build 20 [.v (.slice none 0 0), .v (.slice none 0 0)] [(0, 1), (1, 1)] [(0, (sl 17)), (1, (sl 19))])),
 (kR, .o (.fld 21 0 (sl 3))),
 (kR, .o (.fld 22 0 (sl 21))),
 (kR, .o (.load1 23 (sl 22))),
 (kR, .o (.lenS 24 (sl 23))),
 (kN, .o (.make 25 [.v (.int .i64 0)] 8 (sl 24) (sl 24))),
 (kR, .o (.build 26 [.v (.slice none 0 0), .v (.slice none 0 0), .v (.slice none 0 0), .v (.slice none 0 0), .v (.slice none 0 0), .v (.slice none 0 0), .v (.slice none 0 0), .v (.slice none 0 0)] [(0, 3), (3, 2), (5, 2), (7, 1)] [(0, (sl 15)), (2, (sl 20)), (3, (sl 25))])),
 (kH, .o (.box 27 (sl 26))),
 (kR, .o (.move 7 (sl 27)))])
 ((.seq (.seq (.reg [.o (.move 28 (ci 0))])
 ((.block 0 (.loop (.seq (.reg [.o (.bin 29 .lss (sl 28) (ci 2))])
 ((.seq (.cond (sl 29) .skip
 (.exit 0))
 ((.seq (.block 1 (.seq (.reg [.o (.move 30 (sl 28)),
 .o (.move 8 (sl 30))])
 ((.seq (.draw [37] [(kR, .o (.move 31 (sl 7))),
 (kR, .o (.move 32 (sl 8))),
 (kR, .o (.fld 33 0 (sl 3))),
 (kR, .o (.fld 34 0 (sl 33))),
 (kR, .o (.load1 35 (sl 34))),
 (kR, .o (.lenS 36 (sl 35))),
 (kN, .o (.make 37 [.v (.int .i64 0)] 8 (sl 36) (sl 36))),
 (.r false [37], .o (.nilc 38 (sl 31))),
 (.r false [37], .o (.fld 39 3 (sl 38))),
 (kR, .o (.idxA 40 2 1 (sl 39) (sl 32))),
 (kH, .o (.store 1 (sl 40) (sl 37)))])
 ((.seq (.reg [.o (.fld 41 0 (sl 3)),
 .o (.loadN 42 1 (sl 41)),
 .o (.move 43 (sl 8)),
 .o (.call (some 44) (cf 181) [(sl 42), (sl 43)]),
 .o (.lenS 45 (sl 44)),
 .o (.move 46 (ci 0))])
 ((.block 2 (.loop (.seq (.reg [.o (.bin 47 .lss (sl 46) (sl 45))])
 ((.seq (.cond (sl 47) .skip
 (.exit 2))
 ((.seq (.block 3 (.seq (.reg [.o (.move 48 (sl 46)),
 .o (.idx 49 1 (sl 44) (sl 46)),
 .o (.load1 50 (sl 49)),
 .o (.move 9 (sl 48)),
 .o (.move 10 (sl 50))])
 ((.weak (.draw [] [(kR, .o (.move 51 (sl 7))),
 (kR, .o (.move 52 (sl 8))),
 (kR, .o (.nilc 53 (sl 51))),
 (kR, .o (.fld 54 3 (sl 53))),
 (kR, .o (.idxA 55 2 1 (sl 54) (sl 52))),
 (kR, .o (.load1 56 (sl 55))),
 (kR, .o (.move 57 (sl 10))),
 (kR, .o (.move 58 (sl 9))),
 (kR, .o (.fld 59 1 (sl 3))),
 (kR, .o (.load1 60 (sl 59))),
 (kR, .o (.lenS 61 (sl 60))),
 (kR, .o (.bin 62 .mul (sl 58) (sl 61))),
 (kR, .o (.idx 63 1 (sl 56) (sl 57))),
 (kH, .o (.store 1 (sl 63) (sl 62)))])))))
 ((.reg [.o (.bin 64 .add (sl 46) (ci 1)),
 .o (.move 46 (sl 64))]))))))))))))))))
 ((.reg [.o (.bin 65 .add (sl 28) (ci 1)),
 .o (.move 28 (sl 65))])))))))))))
 ((.seq (.seq (.reg [.o (.fld 66 0 (sl 3)),
 .o (.fld 67 0 (sl 66)),
 .o (.load1 68 (sl 67)),
 .o (.lenS 69 (sl 68)),
 .o (.move 70 (ci 0))])
 ((.block 4 (.loop (.seq (.reg [.o (.bin 71 .lss (sl 70) (sl 69))])
 ((.seq (.cond (sl 71) .skip
 (.exit 4))
 ((.seq (.block 5 (.seq (.reg [.o (.move 72 (sl 70)),
 .o (.idx 73 5 (sl 68) (sl 70)),
 .o (.loadN 74 5 (sl 73)),
 .o (.alloc 12 [.v (.int .i64 0), .v (.int .i64 0), .v (.int .i64 0), .v (.int .i64 0), .v (.slice none 0 0)]),
 .o (.move 11 (sl 72)),
 .o (.store 5 (sl 12) (sl 74))])
 ((.seq (.reg [.o (.fld 75 4 (sl 12)),
 .o (.load1 76 (sl 75)),
 .o (.lenS 77 (sl 76)),
 .o (.move 78 (ci 0))])
 ((.block 6 (.loop (.seq (.reg [.o (.bin 79 .lss (sl 78) (sl 77))])
 ((.seq (.cond (sl 79) .skip
 (.exit 6))
 ((.seq (.block 7 (.seq (.reg [.o (.idx 80 1 (sl 76) (sl 78)),
 .o (.load1 81 (sl 80)),
 .o (.move 14 (sl 81))])
 ((.reg [.o (.move 82 (sl 7)),
 .o (.nilc 83 (sl 82)),
 .o (.fld 84 7 (sl 83)),
 .o (.load1 85 (sl 84)),
 .o (.move 86 (sl 14)),
 .o (.move 87 (sl 11)),
 .o (.idx 88 1 (sl 85) (sl 86)),
 .o (.store 1 (sl 88) (sl 87))]))))
 ((.reg [.o (.bin 89 .add (sl 78) (ci 1)),
 .o (.move 78 (sl 89))]))))))))))))))
 ((.reg [.o (.bin 90 .add (sl 70) (ci 1)),
 .o (.move 70 (sl 90))])))))))))))
 ((.seq (.reg [.o (.move 91 (sl 7)),
 .o (.move 6 (sl 91))])
 (.ret))))))))))
theorem q0ai {rin : List T} {args : List A} {Q : List T -> T -> Prop} (ha : args.length <= 92) (h : cW Try.prog 92 q03k (retP Try.prog [.tmp 6] rin.length Q) (St.of (enum 0 args) (enum 1000000000 rin))) :
    Fun Try.prog 179 rin args Q :=
  Fun.of (H := ⟨[], [9]⟩) Try.func179 rfl rfl rfl (by kernel_rfl) ha (by decide) h

def evO (g : Gm) (s t : List (List Int)) : T := .box [nodes g.nd, rows g.w, rows g.v, intsO (ownL g 0), intsO (ownL g 1), rows s, rows t, intsO (parN g.nd g.nd.length)]
def evL (g : Gm) (s t : List (List Int)) : List T := [nodes g.nd, rows g.w, rows g.v, ints (ownL g 0), ints (ownL g 1), rows s, rows t, ints (parN g.nd g.nd.length)]
def evB (g : Gm) (s t : List (List Int)) (c3 c4 : T) (par : List Int) : T := .box [nodes g.nd, rows g.w, rows g.v, c3, c4, rows s, rows t, intsO par]
def evC (g : Gm) (q : Int) (b : Bool) : T := if b = true then intsO (ownL g q) else .v (.slice none 0 0)
theorem q0ns {l : List Nd} {i : Nat} {x : Nd} (hx : l[i]? = some x) : parN l (i + 1) = x.ch.foldl (fun P (c : Int) => P.set c.toNat (i : Int)) (parN l i) := by
  rw [parN, List.getD_eq_getElem?_getD, hx]; rfl
def parK (P ch : List Int) (i k : Nat) : List Int := (ch.take k).foldl (fun P (c : Int) => P.set c.toNat (i : Int)) P
theorem q0nr {P ch : List Int} {i k m : Nat} (h : ch[k]? = some (m : Int)) : parK P ch i (k + 1) = (parK P ch i k).set m (i : Int) := by
  simp only [parK, q0uj h, List.foldl_append, List.foldl_cons, List.foldl_nil, Int.toNat_natCast]
theorem q0nq (P ch : List Int) (i k : Nat) : (parK P ch i k).length = P.length := by rw [parK, q0z9]
section
attribute [-go_sem] q0i5 q0id fldC lenC idxC q0ip q0lp
theorem q0eq (g : Gm) (s t : Int × List (List Int)) (hg : q0fl g = true) : Fun Try.prog 179 [] [.t (q0ck g), .t (q0tu s), .t (q0tu t)] fun o r => o = [] /\ r = evO g s.2 t.2 := by
  obtain ⟨p1, p2, p3, p4, p5⟩ := q0fn hg
  obtain ⟨t1, t2, t3, t4⟩ := q0g0 p1
  have hfl : ∀ q j, (q0z5 (idxs g.nd q g.nd.length) g.w.length g.nd.length j).length = g.nd.length := fun q j => q0z7 _ _ _ _
  have hfs : ∀ q j (n : Nat), (idxs g.nd q g.nd.length)[j]? = some (n : Int) -> q0z5 (idxs g.nd q g.nd.length) g.w.length g.nd.length (j + 1) = (q0z5 (idxs g.nd q g.nd.length) g.w.length g.nd.length j).set n ((j * g.w.length : Nat) : Int) := fun q j n h => by
    rw [q0z5, List.getD_eq_getElem?_getD, h]; rfl
  have hmul : ∀ n : Nat, n <= g.nd.length -> n * g.w.length <= 60 * 6 := fun n hn => Nat.mul_le_mul (by omega) p2.2
  have hoL : ∀ q, ownL g q = q0z5 (idxs g.nd q g.nd.length) g.w.length g.nd.length (idxs g.nd q g.nd.length).length := fun q => rfl
  have w1 : IntKind.i64.wrap 1 = 1 := rfl
  have w2' : IntKind.i64.wrap (1 + 1) = 2 := rfl
  refine q0ai (by simp) ?_
  simp -implicitDefEqProofs only [go_sem, evR, ints, rows, rat, rats, q03k, q0ck, q0tu, nodes, q0jc]
  refine ⟨by omega, by omega, ?_⟩
  refine SemC.loopR (σ := Nat) (fun q => St.of [(3, .own 3), (7, .own 27), (28, .t (.i q))] [(3, .box [nodes g.nd, rows g.w, rows g.v]), (27, evB g s.2 t.2 (evC g 0 (decide (0 < q))) (evC g 1 (decide (1 < q))) (List.replicate g.nd.length 0))]) (fun q => q <= 2) (fun q => 2 - q) 0 (Weak.of _ _ [some 3, some 27] (by simp) (by simp) ?_ ?_) (by omega) fun q hq R hn hr he => ?_
  · simp -implicitDefEqProofs only [ints, rows, Nat.reduceBEq, wkR, Nat.reduceEqDiff, ↓reduceIte, wrR, nodes]
  · refine ⟨⟨_, rfl, .refl _⟩, rfl, ⟨_, rfl, ?_⟩, rfl, trivial⟩
    rw [evB, intsO, List.map_replicate]; exact .refl _
  · match q, hq with
    | 0, _ =>
      simp -implicitDefEqProofs only [go_sem, evR, ints, rows, rat, rats, evB, evC, nodes, intsO, decide_eq_true (show (0 : Int) < 2 by omega), Nat.lt_irrefl, decide_false, Bool.false_eq_true, Int.natCast_zero, Int.cast_ofNat_Int, opR, Nat.reduceBEq]
      refine ⟨by omega, by omega, ?_⟩
      refine q006.res (q0et g.nd 0 (by omega)) [] rfl Try.call181 ?_ (.inl rfl) ?_
      · simp -implicitDefEqProofs only [agR, Nat.reduceLeDiff, Nat.reduceSub, vaR, go_sem, ints, rows, rat, rats, q0p1, rtR, intsO, q0qa]
      simp -implicitDefEqProofs only [clR, Nat.reduceLeDiff, go_sem, evR, rat, intsO]
      have hil := q0e7 g.nd 0 g.nd.length
      refine SemC.loopR (σ := Nat) (fun j => St.of [(3, .own 3), (7, .own 27), (8, .t (.i 0)), (28, .t (.i 0)), (44, .own 44), (45, .t (.i (idxs g.nd 0 g.nd.length).length)), (46, .t (.i j))] [(3, .box [nodes g.nd, rows g.w, rows g.v]), (27, evB g s.2 t.2 (intsO (q0z5 (idxs g.nd 0 g.nd.length) g.w.length g.nd.length j)) (.v (.slice none 0 0)) (List.replicate g.nd.length 0)), (44, intsO (idxs g.nd 0 g.nd.length))]) (fun j => j <= (idxs g.nd 0 g.nd.length).length) (fun j => (idxs g.nd 0 g.nd.length).length - j) 0 (Weak.of _ _ [some 3, some 27, some 44] (by simp) (by simp) ?_ ?_) (by omega) fun j hj R2 hn2 hr2 he2 => ?_
      · simp -implicitDefEqProofs only [ints, rows, Nat.reduceBEq, wkR, Nat.reduceEqDiff, ↓reduceIte, wrR, nodes]
      · refine ⟨⟨_, rfl, .refl _⟩, rfl, ⟨_, rfl, ?_⟩, rfl, ⟨_, rfl, .refl _⟩, rfl, trivial⟩
        simp only [evB, q0z5, q0jc, intsO, List.map_replicate]; exact .refl _
      · rcases Nat.lt_or_ge j (idxs g.nd 0 g.nd.length).length with h9 | h9
        · obtain ⟨y, hy⟩ : ∃ y, (idxs g.nd 0 g.nd.length)[j]? = some y := ⟨_, List.getElem?_eq_getElem h9⟩
          obtain ⟨n, rfl, hn1⟩ := q0e9 hy
          have hjm := hmul j (by omega)
          simp -implicitDefEqProofs only [go_sem, evR, ints, rows, rat, rats, evB, nodes, hy, intsO, decide_eq_true (show (j : Int) < ((idxs g.nd 0 g.nd.length).length : Int) by omega), hfl]
          refine ⟨by omega, by omega, by omega, ?_⟩
          refine ⟨_, Weak.open 27 3 500 rfl rfl rfl (by decide) rfl, ?_⟩
          simp -implicitDefEqProofs only [go_sem, evR, ints, rows, rat, rats, opR, Nat.reduceBEq, hfl]
          refine ⟨by omega, by omega, by omega, by omega, hn2 _ (j + 1) (Weak.trans (Weak.close1 27 3 500 rfl rfl (by decide) rfl) (Weak.of _ _ [some 3, some 27, some 44] (by simp) (by simp) ?_ ?_)) (by omega) (by omega)⟩
          · simp -implicitDefEqProofs only [ints, rows, Nat.reduceBEq, wkR, Nat.reduceEqDiff, ↓reduceIte, wrR, nodes, q0lb h9 (by omega)]
          · refine ⟨⟨_, rfl, .refl _⟩, rfl, ⟨_, rfl, ?_⟩, rfl, ⟨_, rfl, .refl _⟩, rfl, trivial⟩
            rw [hfs _ _ _ hy]; simp only [evB, intsO, List.map_set]; rw [wrap64 (n := (j : Int) * (g.w.length : Int)) (by omega) (by omega), ← Int.natCast_mul]; exact .refl _
        · have hjl : j = (idxs g.nd 0 g.nd.length).length := by omega
          subst hjl
          simp -implicitDefEqProofs only [go_sem, evR, ints, rows, rat, rats, evB, nodes, intsO, decide_eq_false (show ¬ ((idxs g.nd 0 g.nd.length).length : Int) < ((idxs g.nd 0 g.nd.length).length : Int) by omega)]
          refine he2 _ _ ?_
          simp -implicitDefEqProofs only [go_sem, evR, ints, rows, rat, rats]
          rw [← hoL]
          refine hn _ 1 (Weak.of _ _ [some 3, some 27] (by simp) (by simp) ?_ ?_) (by omega) (by omega)
          · simp -implicitDefEqProofs only [ints, rows, Nat.reduceBEq, wkR, Nat.reduceEqDiff, ↓reduceIte, wrR, nodes, Int.zero_add, w1]
          · exact ⟨⟨_, rfl, .refl _⟩, rfl, ⟨_, rfl, .refl _⟩, rfl, trivial⟩
    | 1, _ =>
      simp -implicitDefEqProofs only [go_sem, evR, ints, rows, rat, rats, evB, evC, nodes, intsO, decide_eq_true (show (1 : Int) < 2 by omega), Nat.lt_irrefl, Nat.zero_lt_one, decide_true, decide_false, Bool.false_eq_true, Int.natCast_zero, Int.cast_ofNat_Int, opR, Nat.reduceBEq]
      refine ⟨by omega, by omega, ?_⟩
      refine q006.res (q0et g.nd 1 (by omega)) [] rfl Try.call181 ?_ (.inl rfl) ?_
      · simp -implicitDefEqProofs only [agR, Nat.reduceLeDiff, Nat.reduceSub, vaR, go_sem, ints, rows, rat, rats, q0p1, rtR, intsO, q0qa]
      simp -implicitDefEqProofs only [clR, Nat.reduceLeDiff, go_sem, evR, rat, intsO]
      have hil := q0e7 g.nd 1 g.nd.length
      refine SemC.loopR (σ := Nat) (fun j => St.of [(3, .own 3), (7, .own 27), (8, .t (.i 1)), (28, .t (.i 1)), (44, .own 44), (45, .t (.i (idxs g.nd 1 g.nd.length).length)), (46, .t (.i j))] [(3, .box [nodes g.nd, rows g.w, rows g.v]), (27, evB g s.2 t.2 (intsO (ownL g 0)) (intsO (q0z5 (idxs g.nd 1 g.nd.length) g.w.length g.nd.length j)) (List.replicate g.nd.length 0)), (44, intsO (idxs g.nd 1 g.nd.length))]) (fun j => j <= (idxs g.nd 1 g.nd.length).length) (fun j => (idxs g.nd 1 g.nd.length).length - j) 0 (Weak.of _ _ [some 3, some 27, some 44] (by simp) (by simp) ?_ ?_) (by omega) fun j hj R2 hn2 hr2 he2 => ?_
      · simp -implicitDefEqProofs only [ints, rows, Nat.reduceBEq, wkR, Nat.reduceEqDiff, ↓reduceIte, wrR, nodes]
      · refine ⟨⟨_, rfl, .refl _⟩, rfl, ⟨_, rfl, ?_⟩, rfl, ⟨_, rfl, .refl _⟩, rfl, trivial⟩
        simp only [evB, q0z5, q0jc, intsO, List.map_replicate]; exact .refl _
      · rcases Nat.lt_or_ge j (idxs g.nd 1 g.nd.length).length with h9 | h9
        · obtain ⟨y, hy⟩ : ∃ y, (idxs g.nd 1 g.nd.length)[j]? = some y := ⟨_, List.getElem?_eq_getElem h9⟩
          obtain ⟨n, rfl, hn1⟩ := q0e9 hy
          have hjm := hmul j (by omega)
          simp -implicitDefEqProofs only [go_sem, evR, ints, rows, rat, rats, evB, nodes, hy, intsO, decide_eq_true (show (j : Int) < ((idxs g.nd 1 g.nd.length).length : Int) by omega), hfl]
          refine ⟨by omega, by omega, by omega, ?_⟩
          refine ⟨_, Weak.open 27 4 500 rfl rfl rfl (by decide) rfl, ?_⟩
          simp -implicitDefEqProofs only [go_sem, evR, ints, rows, rat, rats, opR, Nat.reduceBEq, hfl]
          refine ⟨by omega, by omega, by omega, by omega, hn2 _ (j + 1) (Weak.trans (Weak.close1 27 4 500 rfl rfl (by decide) rfl) (Weak.of _ _ [some 3, some 27, some 44] (by simp) (by simp) ?_ ?_)) (by omega) (by omega)⟩
          · simp -implicitDefEqProofs only [ints, rows, Nat.reduceBEq, wkR, Nat.reduceEqDiff, ↓reduceIte, wrR, nodes, q0lb h9 (by omega)]
          · refine ⟨⟨_, rfl, .refl _⟩, rfl, ⟨_, rfl, ?_⟩, rfl, ⟨_, rfl, .refl _⟩, rfl, trivial⟩
            rw [hfs _ _ _ hy]; simp only [evB, intsO, List.map_set]; rw [wrap64 (n := (j : Int) * (g.w.length : Int)) (by omega) (by omega), ← Int.natCast_mul]; exact .refl _
        · have hjl : j = (idxs g.nd 1 g.nd.length).length := by omega
          subst hjl
          simp -implicitDefEqProofs only [go_sem, evR, ints, rows, rat, rats, evB, nodes, intsO, decide_eq_false (show ¬ ((idxs g.nd 1 g.nd.length).length : Int) < ((idxs g.nd 1 g.nd.length).length : Int) by omega)]
          refine he2 _ _ ?_
          simp -implicitDefEqProofs only [go_sem, evR, ints, rows, rat, rats]
          rw [← hoL]
          refine hn _ 2 (Weak.of _ _ [some 3, some 27] (by simp) (by simp) ?_ ?_) (by omega) (by omega)
          · simp -implicitDefEqProofs only [ints, rows, Nat.reduceBEq, wkR, Nat.reduceEqDiff, ↓reduceIte, wrR, nodes, w2']
          · exact ⟨⟨_, rfl, .refl _⟩, rfl, ⟨_, rfl, .refl _⟩, rfl, trivial⟩
    | 2, _ =>
      simp -implicitDefEqProofs only [go_sem, evR, ints, rows, rat, rats, evB, evC, nodes, intsO, decide_eq_false (show ¬ (2 : Int) < 2 by omega), Nat.lt_irrefl, decide_false, Bool.false_eq_true, Int.natCast_zero, Int.cast_ofNat_Int]
      refine he _ _ ?_
      simp -implicitDefEqProofs only [go_sem, evR, ints, rows, rat, rats]
      refine SemC.loopR (σ := Nat) (fun i => St.of [(7, .own 27), (68, .t (nodes g.nd)), (69, .t (.i g.nd.length)), (70, .t (.i i))] [(27, evB g s.2 t.2 (intsO (ownL g 0)) (intsO (ownL g 1)) (parN g.nd i))]) (fun i => i <= g.nd.length) (fun i => g.nd.length - i) 0 (Weak.of _ _ [some 27] (by simp) (by simp) ?_ ?_) (by omega) fun i hi R3 hn3 hr3 he3 => ?_
      · simp -implicitDefEqProofs only [ints, rows, Nat.reduceBEq, wkR, Nat.reduceEqDiff, ↓reduceIte, wrR, nodes, q0l0]
      · exact ⟨⟨_, rfl, .refl _⟩, rfl, trivial⟩
      · rcases Nat.lt_or_ge i g.nd.length with h9 | h9
        · obtain ⟨x, hx⟩ : ∃ x, g.nd[i]? = some x := ⟨_, List.getElem?_eq_getElem h9⟩
          have hch := q0kp (t2 i _ hx)
          obtain ⟨_, _, _, _, _, hch4⟩ := q0ks (t2 i _ hx)
          simp -implicitDefEqProofs only [go_sem, evR, ints, rows, rat, rats, nodes, q0kw hx, decide_eq_true (show (i : Int) < (g.nd.length : Int) by omega), opR, Nat.reduceBEq]
          refine ⟨by omega, by rw [q0l0]; omega, by rw [q0l0]; omega, ?_⟩
          refine SemC.loopR (σ := Nat) (fun k => St.of [(7, .own 27), (11, .t (.i i)), (68, .t (nodes g.nd)), (69, .t (.i g.nd.length)), (70, .t (.i i)), (76, .t (ints x.ch)), (77, .t (.i x.ch.length)), (78, .t (.i k))] [(27, evB g s.2 t.2 (intsO (ownL g 0)) (intsO (ownL g 1)) (parK (parN g.nd i) x.ch i k))]) (fun k => k <= x.ch.length) (fun k => x.ch.length - k) 0 (Weak.of _ _ [some 27] (by simp) (by simp) ?_ ?_) (by omega) fun k hk R4 hn4 hr4 he4 => ?_
          · simp -implicitDefEqProofs only [ints, rows, Nat.reduceBEq, wkR, Nat.reduceEqDiff, ↓reduceIte, wrR, nodes]
          · exact ⟨⟨_, rfl, .refl _⟩, rfl, trivial⟩
          · rcases Nat.lt_or_ge k x.ch.length with h10 | h10
            · obtain ⟨c, hc⟩ : ∃ c, x.ch[k]? = some c := ⟨_, List.getElem?_eq_getElem h10⟩
              have hcb := hch c (List.mem_of_getElem? hc)
              obtain ⟨m, rfl⟩ : ∃ m : Nat, c = m := ⟨c.toNat, by omega⟩
              have hpl : (parK (parN g.nd i) x.ch i k).length = g.nd.length := by rw [q0nq, q112]
              simp -implicitDefEqProofs only [go_sem, evR, ints, rows, rat, rats, evB, nodes, intsO, hc, decide_eq_true (show (k : Int) < (x.ch.length : Int) by omega), hpl, opR, Nat.reduceBEq]
              refine ⟨by omega, by omega, by omega, by omega, by omega, by omega, hn4 _ (k + 1) (Weak.trans (Weak.close1 27 7 85 rfl rfl (by decide) rfl) (Weak.of _ _ [some 27] (by simp) (by simp) ?_ ?_)) (by omega) (by omega)⟩
              · simp -implicitDefEqProofs only [ints, rows, Nat.reduceBEq, wkR, Nat.reduceEqDiff, ↓reduceIte, wrR, nodes, q0lb h10 (show x.ch.length <= 1000000000000 by omega)]
              · refine ⟨⟨_, rfl, ?_⟩, rfl, trivial⟩
                rw [q0nr hc]; simp only [evB, intsO, List.map_set]; exact .refl _
            · simp -implicitDefEqProofs only [go_sem, evR, ints, rows, rat, rats, evB, nodes, intsO, decide_eq_false (show ¬ (k : Int) < (x.ch.length : Int) by omega)]
              refine he4 _ _ ?_
              simp -implicitDefEqProofs only [go_sem, evR, ints, rows, rat, rats]
              refine hn3 _ (i + 1) (Weak.of _ _ [some 27] (by simp) (by simp) ?_ ?_) (by omega) (by omega)
              · simp -implicitDefEqProofs only [ints, rows, Nat.reduceBEq, wkR, Nat.reduceEqDiff, ↓reduceIte, wrR, nodes, q0lb h9 (by omega)]
              · refine ⟨⟨_, rfl, ?_⟩, rfl, trivial⟩
                rw [q0ns hx, show k = x.ch.length by omega, parK, List.take_of_length_le (Nat.le_refl _)]; exact .refl _
        · simp -implicitDefEqProofs only [go_sem, evR, ints, rows, rat, rats, nodes, decide_eq_false (show ¬ (i : Int) < (g.nd.length : Int) by omega)]
          refine he3 _ _ ?_
          simp -implicitDefEqProofs only [go_sem, evR, ints, rows, rat, rats, evB]
          rw [show i = g.nd.length by omega]; rfl
end

def chP (g : Gm) (s t : List (List Int)) (i a b : Nat) : List Int := if (g.nd.getD i nd0).p = 0 then partsOf g s 0 i a else partsOf g t 1 i b
theorem q0ny {g : Gm} {pt : List (List Int)} {pl : Int} (hnd : q0l2 g.nd) (hpl : pl ≠ 2) (h : q0nw g pt pl) {i c : Nat} (hi : i < g.nd.length) (hc : c < g.w.length) (hp : (g.nd.getD i nd0).p = pl) : pt[setI g pl i c]? = some (partsOf g pt pl i c) := by
  obtain ⟨m1, m2, m3⟩ := h i c hi hc hp
  unfold partsOf at m3 ⊢
  rw [List.getD_eq_getElem?_getD] at m3 ⊢
  cases hx : pt[setI g pl i c]? with
  | some x => rfl
  | none => rw [hx] at m3; simp [sumI] at m3
theorem q061 {g : Gm} {s t : List (List Int)} (hnd : q0l2 g.nd) (hs : q0nw g s 0) (ht : q0nw g t 1) {i a b : Nat} (hi : i < g.nd.length) (ha : a < g.w.length) (hb : b < g.w.length) (h2 : (g.nd.getD i nd0).p ≠ 2) :
    (chP g s t i a b).length = (g.nd.getD i nd0).ch.length /\ (∀ x ∈ chP g s t i a b, 0 <= x /\ x <= 60) /\ sumI (chP g s t i a b) = 60 := by
  have hx : g.nd[i]? = some (g.nd.getD i nd0) := by rw [List.getD_eq_getElem?_getD, List.getElem?_eq_getElem hi]; rfl
  obtain ⟨⟨r1, r2⟩, _⟩ := q0ks (hnd i _ hx)
  unfold chP
  by_cases h0 : (g.nd.getD i nd0).p = 0
  · rw [if_pos h0]; exact hs i a hi ha h0
  · rw [if_neg h0]; exact ht i b hi hb (by omega)
theorem q0xb {g : Gm} {s t : List (List Int)} {f i a b p : Nat} (h2 : (g.nd.getD i nd0).p ≠ 2) {n : Nat} (hn : (g.nd.getD i nd0).ch.length <= n) : valK g s t f a b (p - 1) (chP g s t i a b) (g.nd.getD i nd0).ch n = val g s t (f + 1) i a b p := by
  rw [val]
  (try simp only [])
  rw [if_neg h2, valK, chP, List.take_of_length_le]
  rw [List.length_zipWith]; omega
theorem q0xa {g : Gm} {s t : List (List Int)} (hnd : q0l2 g.nd) (hs : q0nw g s 0) (ht : q0nw g t 1) {a b : Nat} (ha : a < g.w.length) (hb : b < g.w.length) {f p : Nat} {q ch : List Int} (hq : ∀ x ∈ q, 0 <= x /\ x <= 60) (hc : ∀ c ∈ ch, 0 <= c /\ c.toNat < g.nd.length /\ dep g.nd f c.toNat <= p) : ∀ k, k <= q.length -> k <= ch.length -> -(k * (6000 * pw p)) <= valK g s t f a b p q ch k /\ valK g s t f a b p q ch k <= k * (6000 * pw p)
  | 0, _, _ => by simp [valK, sumI]
  | k + 1, h, h' => by
    have ih := q0xa hnd hs ht ha hb hq hc k (by omega) (by omega)
    have hx := List.getElem?_eq_getElem (show k < q.length by omega)
    have hy := List.getElem?_eq_getElem (show k < ch.length by omega)
    rw [q12n hx hy]
    have h1 := hq _ (List.getElem_mem (show k < q.length by omega))
    have h2 := hc _ (List.getElem_mem (show k < ch.length by omega))
    have h3 := q12o hnd hs ht ha hb f _ p h2.2.1 h2.2.2
    obtain ⟨m1, m2⟩ := q0kl h1.1 h3.1 h3.2
    have hp := q0ok p
    have m3 : 100 * pw p * q[k] <= 100 * pw p * 60 := Int.mul_le_mul_of_nonneg_left h1.2 (by omega)
    have e : ((k + 1 : Nat) : Int) * (6000 * pw p) = (k : Int) * (6000 * pw p) + 6000 * pw p := by rw [Int.natCast_succ, Int.add_mul, Int.one_mul]
    rw [e]
    generalize (k : Int) * (6000 * pw p) = Z at ih ⊢
    generalize q[k] * val g s t f (ch[k]).toNat a b p = Y at m1 m2 ⊢
    generalize 100 * pw p * q[k] = U at m1 m2 m3
    omega
theorem q0oj {p : Nat} (h : p <= 5) : 1 <= pw p /\ pw p <= 777600000 := by
  have : p = 0 ∨ p = 1 ∨ p = 2 ∨ p = 3 ∨ p = 4 ∨ p = 5 := by omega
  rcases this with rfl | rfl | rfl | rfl | rfl | rfl <;> decide

theorem q0u6 (F : Nat -> Int) (n : Nat) : sumI ((List.range (n + 1)).map F) = sumI ((List.range n).map F) + F n := by
  rw [List.range_succ, List.map_append, List.map_cons, List.map_nil, q0u7]
section
attribute [-go_sem] q0i5 q0id fldC lenC idxC q0ip q0lp
theorem q0eu {g : Gm} {s t : List (List Int)} (hg : q0fl g = true) (hs : q0nw g s 0) (ht : q0nw g t 1) {i a b : Nat} (hi : i < g.nd.length) (ha : a < g.w.length) (hb : b < g.w.length) (h2 : (g.nd.getD i nd0).p ≠ 2) :
    Pure Try.prog 214 [.pin (evL g s t) 0, .i i, .i a, .i b] (ints (chP g s t i a b)) := by
  obtain ⟨p1, p2, p3, p4, p5⟩ := q0fn hg
  obtain ⟨t1, t2, t3, t4⟩ := q0g0 p1
  obtain ⟨x, hx⟩ : ∃ x, g.nd[i]? = some x := ⟨_, List.getElem?_eq_getElem hi⟩
  have hxd : g.nd.getD i nd0 = x := by rw [List.getD_eq_getElem?_getD, hx]; rfl
  obtain ⟨⟨r1, r2⟩, _⟩ := q0ks (t2 _ _ hx)
  rw [hxd] at h2
  refine q0a0 (by simp) ?_
  have hcase : x.p = 0 ∨ x.p = 1 := by omega
  rcases hcase with h0 | h0
  · have hpd : (g.nd.getD i nd0).p = 0 := by rw [hxd]; exact h0
    have hrow := q0ny t2 (by decide) hs hi ha hpd
    have hoi := q10y hi hpd
    have hol := q10z g 0
    have hrl := (List.getElem?_eq_some_iff.1 hrow).1
    have hset : setI g 0 i a = (idxs g.nd 0 i).length * g.w.length + a := rfl
    have hil := q0e7 g.nd 0 i
    have hm : (idxs g.nd 0 i).length * g.w.length <= 60 * 6 := Nat.mul_le_mul (by omega) p2.2
    rw [chP, if_pos hpd]
    simp -implicitDefEqProofs only [go_sem, evR, ints, rows, rat, rats, q032, evL, nodes, q0ky hx, h0, hoi, hrow, hol, show ((0 : Int) == 1) = false from rfl, show ((1 : Int) == 1) = true from rfl, show IntKind.i64.wrap ((((idxs g.nd 0 i).length * g.w.length : Nat) : Int) + (a : Int)) = ((setI g 0 i a : Nat) : Int) by rw [wrap64 (by omega) (by omega)]; omega]
    rw [q0l0]; omega
  · have hpd : (g.nd.getD i nd0).p = 1 := by rw [hxd]; exact h0
    have hrow := q0ny t2 (by decide) ht hi hb hpd
    have hoi := q10y hi hpd
    have hol := q10z g 1
    have hrl := (List.getElem?_eq_some_iff.1 hrow).1
    have hset : setI g 1 i b = (idxs g.nd 1 i).length * g.w.length + b := rfl
    have hil := q0e7 g.nd 1 i
    have hm : (idxs g.nd 1 i).length * g.w.length <= 60 * 6 := Nat.mul_le_mul (by omega) p2.2
    rw [chP, if_neg (by omega)]
    simp -implicitDefEqProofs only [go_sem, evR, ints, rows, rat, rats, q032, evL, nodes, q0ky hx, h0, hoi, hrow, hol, show ((0 : Int) == 1) = false from rfl, show ((1 : Int) == 1) = true from rfl, show IntKind.i64.wrap ((((idxs g.nd 1 i).length * g.w.length : Nat) : Int) + (b : Int)) = ((setI g 1 i b : Nat) : Int) by rw [wrap64 (by omega) (by omega)]; omega]
    rw [q0l0]; omega
theorem q0nv {g : Gm} {s t : List (List Int)} (hg : q0fl g = true) (hs : q0nw g s 0) (ht : q0nw g t 1) {i a b : Nat} (hi : i < g.nd.length) (ha : a < g.w.length) (hb : b < g.w.length) (h2 : (g.nd.getD i nd0).p ≠ 2) :
    Pure Try.prog 214 [.pin [.sh 5 (chunk q0lu g.nd), .sh 1 (g.w.map ints), .sh 1 (g.v.map ints), .sh 1 ((ownL g 0).map T.i), .sh 1 ((ownL g 1).map T.i), .sh 1 (s.map ints), .sh 1 (t.map ints), .sh 1 ((parN g.nd g.nd.length).map T.i)] 0, .i i, .i a, .i b] (ints (chP g s t i a b)) := q0eu hg hs ht hi ha hb h2
theorem q0xc {g : Gm} {s t : List (List Int)} {i a b p : Int} {r : Int} (h : Pure Try.prog 180 [.pin (evL g s t) 0, .i i, .i a, .i b, .i p] (.i r)) :
    Pure Try.prog 180 [.pin [.sh 5 (chunk q0lu g.nd), .sh 1 (g.w.map ints), .sh 1 (g.v.map ints), .sh 1 ((ownL g 0).map T.i), .sh 1 ((ownL g 1).map T.i), .sh 1 (s.map ints), .sh 1 (t.map ints), .sh 1 ((parN g.nd g.nd.length).map T.i)] 0, .i i, .i a, .i b, .i p] (.i r) := h
theorem q0f7 {g : Gm} {s t : List (List Int)} (hg : q0fl g = true) (hs : q0nw g s 0) (ht : q0nw g t 1) {a b : Nat} (ha : a < g.w.length) (hb : b < g.w.length) : ∀ (f i p : Nat), g.nd.length <= i + f -> i < g.nd.length -> dep g.nd f i <= p -> p <= 5 →
    Pure Try.prog 180 [.pin (evL g s t) 0, .i i, .i a, .i b, .i p] (.i (val g s t f i a b p)) := by
  obtain ⟨p1, p2, p3, p4, p5⟩ := q0fn hg
  obtain ⟨t1, t2, t3, t4⟩ := q0g0 p1
  have hpay := q0o0 t2
  intro f
  induction f with
  | zero => intro i p h1 h2; omega
  | succ f ih =>
    intro i p hf hi hdp hp5
    obtain ⟨x, hx⟩ : ∃ x, g.nd[i]? = some x := ⟨_, List.getElem?_eq_getElem hi⟩
    have hxd : g.nd.getD i nd0 = x := by rw [List.getD_eq_getElem?_getD, hx]; rfl
    have hxl := (q0ks (t2 _ _ hx)).2.2.2.2.2
    have hpw := q0oj hp5
    have hV2 : x.p = 2 -> val g s t (f + 1) i a b p = pay g i a b * pw p := fun h => by rw [val]; (try simp only []); rw [if_pos (by rw [hxd]; exact h)]
    have hV1 : x.p ≠ 2 -> ∀ n, x.ch.length <= n -> valK g s t f a b (p - 1) (chP g s t i a b) x.ch n = val g s t (f + 1) i a b p := fun h n hn => by
      have := q0xb (g := g) (s := s) (t := t) (f := f) (i := i) (a := a) (b := b) (p := p) (n := n) (by rw [hxd]; exact h) (by rw [hxd]; exact hn)
      rw [hxd] at this; exact this
    generalize val g s t (f + 1) i a b p = V' at hV2 hV1 ⊢
    refine q0a1 (by simp) ?_
    simp -implicitDefEqProofs only [go_sem, evR, ints, rows, rat, rats, q033, evL, nodes, q0kw hx]
    refine ⟨by omega, by rw [q0l0]; omega, by rw [q0l0]; omega, ?_⟩
    refine ⟨fun h2 => ?_, fun h2 => ?_⟩
    · have h2 : x.p = 2 := by simpa using h2
      rw [hV2 h2]
      refine q006.pure (q0o5 hg i a b hi ha hb) [] rfl Try.call213 ?_ (by first | trivial | simp [T.noSh, T.noShL, rat]) rfl ?_
      · simp -implicitDefEqProofs only [agR, Nat.reduceLeDiff, Nat.reduceSub, vaR, go_sem, ints, rows, rat, rats, q0p1, rtR, intsO, q0qa]
      simp -implicitDefEqProofs only [go_sem, evR, ints, rows, rat, rats]
      refine q006.pure (q0ex p (by omega)) [] rfl Try.call163 ?_ (by first | trivial | simp [T.noSh, T.noShL, rat]) rfl ?_
      · simp -implicitDefEqProofs only [agR, Nat.reduceLeDiff, Nat.reduceSub, vaR, go_sem, ints, rows, rat, rats, q0p1, rtR, intsO, q0qa]
      simp -implicitDefEqProofs only [go_sem, evR, ints, rows, rat, rats]
      have q1 := hpay i a b
      have m1 := Int.mul_le_mul_of_nonneg_right q1.2 (show 0 <= pw p by omega)
      have m2 := Int.mul_le_mul_of_nonneg_right q1.1 (show 0 <= pw p by omega)
      rw [wrap64 (n := pay g i a b * pw p) (by omega) (by omega)]
    · have h2 : x.p ≠ 2 := by simpa using h2
      have hp2 : (g.nd.getD i nd0).p ≠ 2 := by rw [hxd]; exact h2
      obtain ⟨d1, d2⟩ := q07w (f := f) hp2
      rw [hxd] at d2
      have hch := q0kp (t2 _ _ hx)
      obtain ⟨c1, c2, c3⟩ := q061 t2 hs ht hi ha hb hp2
      rw [hxd] at c1
      obtain ⟨p', rfl⟩ : ∃ p', p = p' + 1 := ⟨p - 1, by omega⟩
      have hpw' := q0oj (show p' <= 5 by omega)
      have hcond : ∀ c ∈ x.ch, 0 <= c /\ c.toNat < g.nd.length /\ dep g.nd f c.toNat <= p' := fun c hc => by
        have h1 := hch c hc
        have h3 := d2 c hc
        omega
      refine q006.res (q0nv hg hs ht hi ha hb hp2) [] rfl Try.call214 ?_ (.inl rfl) ?_
      · simp -implicitDefEqProofs only [agR, Nat.reduceLeDiff, Nat.reduceSub, vaR, go_sem, ints, rows, rat, rats, q0p1, rtR, intsO, q0qa]
      simp -implicitDefEqProofs only [clR, Nat.reduceLeDiff, go_sem, evR, rat, ints]
      rw [Nat.add_sub_cancel] at hV1
      generalize chP g s t i a b = q at hV1 c1 c2 c3 ⊢
      have hKA := q0xa t2 hs ht ha hb (f := f) c2 hcond
      refine SemC.loopR (σ := Nat) (fun k => St.of [(0, .t (.pin (evL g s t) 0)), (1, .t (.i i)), (2, .t (.i a)), (3, .t (.i b)), (4, .t (.i (p' + 1 : Nat))), (11, .own 11), (12, .t (.i (valK g s t f a b p' q x.ch k))), (42, .t (ints q)), (43, .t (.i q.length)), (44, .t (.i k))] [(11, .box [.i x.p, .i x.a, .i x.b, .i x.f, ints x.ch])]) (fun k => k <= q.length) (fun k => q.length - k) 0 (Weak.of _ _ [some 11] (by simp) (by simp) ?_ ?_) (by omega) fun k hk R hn hr he => ?_
      · simp -implicitDefEqProofs only [ints, rows, Nat.reduceBEq, wkR, Nat.reduceEqDiff, ↓reduceIte, wrR, evL, nodes, show valK g s t f a b p' q x.ch 0 = 0 from rfl]
      · exact ⟨⟨_, rfl, .refl _⟩, rfl, trivial⟩
      · rcases Nat.lt_or_ge k q.length with h9 | h9
        · obtain ⟨y, hy⟩ : ∃ y, q[k]? = some y := ⟨_, List.getElem?_eq_getElem h9⟩
          obtain ⟨c, hc⟩ : ∃ c, x.ch[k]? = some c := ⟨_, List.getElem?_eq_getElem (by omega)⟩
          have hyb := c2 y (List.mem_of_getElem? hy)
          have hcb := hcond c (List.mem_of_getElem? hc)
          have hcb1 := hch c (List.mem_of_getElem? hc)
          have hsu := q12n (g := g) (s := s) (t := t) (f := f) (a := a) (b := b) (p := p') hy hc
          have k1 := hKA k (by omega) (by omega)
          have k2 := hKA (k + 1) (by omega) (by omega)
          have k3 : (k : Int) * (6000 * pw p') <= 4 * 4665600000000 := Int.mul_le_mul (by omega) (by omega) (by omega) (by decide)
          have k4 : ((k + 1 : Nat) : Int) * (6000 * pw p') <= 4 * 4665600000000 := Int.mul_le_mul (by omega) (by omega) (by omega) (by decide)
          simp -implicitDefEqProofs only [go_sem, evR, ints, rows, rat, rats, evL, nodes, hy, hc, decide_eq_true (show (k : Int) < (q.length : Int) by omega), wrap64 (n := (p' : Int)) (by omega) (by omega), show ((p' + 1 : Nat) : Int) - 1 = (p' : Int) by omega]
          refine ⟨by omega, by omega, by omega, fun h5 => ⟨by omega, by omega, by omega, ?_⟩, fun h5 => ?_⟩
          · have hcall := q0xc (ih c.toNat p' (by omega) hcb.2.1 hcb.2.2 (by omega))
            rw [show ((c.toNat : Nat) : Int) = c by omega] at hcall
            have hva := q12o t2 hs ht ha hb f c.toNat p' hcb.2.1 hcb.2.2
            obtain ⟨m1, m2⟩ := q0kl hyb.1 hva.1 hva.2
            have m3 : 100 * pw p' * y <= 77760000000 * 60 := Int.mul_le_mul (by omega) hyb.2 hyb.1 (by decide)
            refine q006.pure hcall [] rfl Try.call180 ?_ (by first | trivial | simp [T.noSh, T.noShL, rat]) rfl ?_
            · simp -implicitDefEqProofs only [agR, Nat.reduceLeDiff, Nat.reduceSub, vaR, go_sem, ints, rows, rat, rats, q0p1, rtR, intsO, q0qa]
            simp -implicitDefEqProofs only [go_sem, evR, ints, rows, rat, rats]
            refine hn _ (k + 1) (Weak.of _ _ [some 11] (by simp) (by simp) ?_ ?_) (by omega) (by omega)
            · simp -implicitDefEqProofs only [ints, rows, Nat.reduceBEq, wkR, Nat.reduceEqDiff, ↓reduceIte, wrR, evL, nodes, q0lb h9 (by omega), wrap64 (n := y * val g s t f c.toNat a b p') (by omega) (by omega), ← hsu, wrap64 (n := valK g s t f a b p' q x.ch (k + 1)) (by omega) (by omega)]
            · exact ⟨⟨_, rfl, .refl _⟩, rfl, trivial⟩
          · have hy0 : y = 0 := by have : ¬ y > 0 := by simpa using h5
                                   omega
            rw [hy0, Int.zero_mul, Int.add_zero] at hsu
            refine hn _ (k + 1) (Weak.of _ _ [some 11] (by simp) (by simp) ?_ ?_) (by omega) (by omega)
            · simp -implicitDefEqProofs only [ints, rows, Nat.reduceBEq, wkR, Nat.reduceEqDiff, ↓reduceIte, wrR, evL, nodes, q0lb h9 (by omega), hsu]
            · exact ⟨⟨_, rfl, .refl _⟩, rfl, trivial⟩
        · simp -implicitDefEqProofs only [go_sem, evR, ints, rows, rat, rats, evL, nodes, decide_eq_false (show ¬ (k : Int) < (q.length : Int) by omega)]
          refine he _ _ ?_
          simp -implicitDefEqProofs only [go_sem, evR, ints, rows, rat, rats]
          rw [hV1 h2 k (by omega)]

theorem q0l4 (g : Gm) (s t : Int × List (List Int)) (hg : q0fl g = true) : Fun Try.prog 179 [] [.t (.agg [.sh 5 (chunk q0lu g.nd), .sh 1 (g.w.map ints), .sh 1 (g.v.map ints)]), .t (.agg [.i s.1, .sh 1 (s.2.map ints)]), .t (.agg [.i t.1, .sh 1 (t.2.map ints)])] fun o r => o = [] /\ r = evO g s.2 t.2 := q0eq g s t hg
theorem q0sk {g : Gm} {s t : Int × List (List Int)} (hg : q0fl g = true) (hs : q0nw g s.2 0) (ht : q0nw g t.2 1) {i a b : Nat} (hi : i < g.nd.length) (ha : a < g.w.length) (hb : b < g.w.length) (h2 : (g.nd.getD i nd0).p ≠ 2) :
    Pure Try.prog 216 [q0ck g, q0tu s, q0tu t, .i i, .i a, .i b] (ints (chP g s.2 t.2 i a b)) := by
  obtain ⟨p1, p2, p3, p4, p5⟩ := q0fn hg
  obtain ⟨t1, t2, t3, t4⟩ := q0g0 p1
  obtain ⟨x, hx⟩ : ∃ x, g.nd[i]? = some x := ⟨_, List.getElem?_eq_getElem hi⟩
  have hxd : g.nd.getD i nd0 = x := by rw [List.getD_eq_getElem?_getD, hx]; rfl
  obtain ⟨⟨r1, r2⟩, _⟩ := q0ks (t2 _ _ hx)
  rw [hxd] at h2
  refine q0by (by simp) ?_
  have hcase : x.p = 0 ∨ x.p = 1 := by omega
  rcases hcase with h0 | h0
  · have hpd : (g.nd.getD i nd0).p = 0 := by rw [hxd]; exact h0
    have hrow := q0ny t2 (by decide) hs hi ha hpd
    have hrl := (List.getElem?_eq_some_iff.1 hrow).1
    rw [chP, if_pos hpd]
    simp -implicitDefEqProofs only [go_sem, evR, ints, rows, rat, rats, q050, q0ck, q0tu, nodes, q0ky hx, h0, show ((0 : Int) == 0) = true from rfl]
    refine ⟨by omega, by rw [q0l0]; omega, by rw [q0l0]; omega, ?_⟩
    refine q004.pure (q0ha hg hi hpd ha) [] rfl Try.call221 (fun e R' hR => ?_) (by first | trivial | simp [T.noSh, T.noShL, rat]) (fun _ => rfl) ?_
    · simp -implicitDefEqProofs only [agR, Nat.reduceLeDiff, Nat.reduceSub, vaR, go_sem, ints, rows, rat, rats, q0p1, rtR, intsO, q0qa]
    simp -implicitDefEqProofs only [go_sem, evR, ints, rows, rat, rats, hrow]
    omega
  · have hpd : (g.nd.getD i nd0).p = 1 := by rw [hxd]; exact h0
    have hrow := q0ny t2 (by decide) ht hi hb hpd
    have hrl := (List.getElem?_eq_some_iff.1 hrow).1
    rw [chP, if_neg (by omega)]
    simp -implicitDefEqProofs only [go_sem, evR, ints, rows, rat, rats, q050, q0ck, q0tu, nodes, q0ky hx, h0, show ((1 : Int) == 0) = false from rfl]
    refine ⟨by omega, by rw [q0l0]; omega, by rw [q0l0]; omega, ?_⟩
    refine q004.pure (q0ha hg hi hpd hb) [] rfl Try.call221 (fun e R' hR => ?_) (by first | trivial | simp [T.noSh, T.noShL, rat]) (fun _ => rfl) ?_
    · simp -implicitDefEqProofs only [agR, Nat.reduceLeDiff, Nat.reduceSub, vaR, go_sem, ints, rows, rat, rats, q0p1, rtR, intsO, q0qa]
    simp -implicitDefEqProofs only [go_sem, evR, ints, rows, rat, rats, hrow]
    omega
theorem q063 {g : Gm} {s t : Int × List (List Int)} (hg : q0fl g = true) (hs : q0nw g s.2 0) (ht : q0nw g t.2 1) {i a b : Nat} (hi : i < g.nd.length) (ha : a < g.w.length) (hb : b < g.w.length) (h2 : (g.nd.getD i nd0).p ≠ 2) :
    Pure Try.prog 216 [.agg [.sh 5 (chunk q0lu g.nd), .sh 1 (g.w.map ints), .sh 1 (g.v.map ints)], .agg [.i s.1, .sh 1 (s.2.map ints)], .agg [.i t.1, .sh 1 (t.2.map ints)], .i i, .i a, .i b] (ints (chP g s.2 t.2 i a b)) := q0sk hg hs ht hi ha hb h2
theorem q0h8 {g : Gm} (hg : q0fl g = true) (i a b : Nat) (hi : i < g.nd.length) (ha : a < g.w.length) (hb : b < g.w.length) : Pure Try.prog 215 [.agg [.sh 5 (chunk q0lu g.nd), .sh 1 (g.w.map ints), .sh 1 (g.v.map ints)], .i i, .i a, .i b] (.i (pay g i a b)) := q0se g hg i a b hi ha hb
theorem q0ue {g : Gm} {s t : Int × List (List Int)} {i a b p r : Int} (h : Pure Try.prog 183 [q0ck g, q0tu s, q0tu t, .i i, .i a, .i b, .i p] (.i r)) :
    Pure Try.prog 183 [.agg [.sh 5 (chunk q0lu g.nd), .sh 1 (g.w.map ints), .sh 1 (g.v.map ints)], .agg [.i s.1, .sh 1 (s.2.map ints)], .agg [.i t.1, .sh 1 (t.2.map ints)], .i i, .i a, .i b, .i p] (.i r) := h
theorem q0sn {g : Gm} {s t : Int × List (List Int)} (hg : q0fl g = true) (hs : q0nw g s.2 0) (ht : q0nw g t.2 1) {a b : Nat} (ha : a < g.w.length) (hb : b < g.w.length) : ∀ (f i p : Nat), g.nd.length <= i + f -> i < g.nd.length -> dep g.nd f i <= p -> p <= 5 →
    Pure Try.prog 183 [q0ck g, q0tu s, q0tu t, .i i, .i a, .i b, .i p] (.i (val g s.2 t.2 f i a b p)) := by
  obtain ⟨p1, p2, p3, p4, p5⟩ := q0fn hg
  obtain ⟨t1, t2, t3, t4⟩ := q0g0 p1
  have hpay := q0o0 t2
  intro f
  induction f with
  | zero => intro i p h1 h2; omega
  | succ f ih =>
    intro i p hf hi hdp hp5
    obtain ⟨x, hx⟩ : ∃ x, g.nd[i]? = some x := ⟨_, List.getElem?_eq_getElem hi⟩
    have hxd : g.nd.getD i nd0 = x := by rw [List.getD_eq_getElem?_getD, hx]; rfl
    have hxl := (q0ks (t2 _ _ hx)).2.2.2.2.2
    have hpw := q0oj hp5
    have hV2 : x.p = 2 -> val g s.2 t.2 (f + 1) i a b p = pay g i a b * pw p := fun h => by rw [val]; (try simp only []); rw [if_pos (by rw [hxd]; exact h)]
    have hV1 : x.p ≠ 2 -> ∀ n, x.ch.length <= n -> valK g s.2 t.2 f a b (p - 1) (chP g s.2 t.2 i a b) x.ch n = val g s.2 t.2 (f + 1) i a b p := fun h n hn => by
      have := q0xb (g := g) (s := s.2) (t := t.2) (f := f) (i := i) (a := a) (b := b) (p := p) (n := n) (by rw [hxd]; exact h) (by rw [hxd]; exact hn)
      rw [hxd] at this; exact this
    generalize val g s.2 t.2 (f + 1) i a b p = V' at hV2 hV1 ⊢
    refine q0c1 (by simp) ?_
    simp -implicitDefEqProofs only [go_sem, evR, ints, rows, rat, rats, q053, q0ck, q0tu, nodes, q0kw hx]
    refine ⟨by omega, by rw [q0l0]; omega, by rw [q0l0]; omega, ?_⟩
    refine ⟨fun h2 => ?_, fun h2 => ?_⟩
    · have h2 : x.p = 2 := by simpa using h2
      rw [hV2 h2]
      refine q006.pure (q0h8 hg i a b hi ha hb) [] rfl Try.call215 ?_ (by first | trivial | simp [T.noSh, T.noShL, rat]) rfl ?_
      · simp -implicitDefEqProofs only [agR, Nat.reduceLeDiff, Nat.reduceSub, vaR, go_sem, ints, rows, rat, rats, q0p1, rtR, intsO, q0qa]
      simp -implicitDefEqProofs only [go_sem, evR, ints, rows, rat, rats]
      refine q006.pure (q0sl p (by omega)) [] rfl Try.call157 ?_ (by first | trivial | simp [T.noSh, T.noShL, rat]) rfl ?_
      · simp -implicitDefEqProofs only [agR, Nat.reduceLeDiff, Nat.reduceSub, vaR, go_sem, ints, rows, rat, rats, q0p1, rtR, intsO, q0qa]
      simp -implicitDefEqProofs only [go_sem, evR, ints, rows, rat, rats]
      have q1 := hpay i a b
      have m1 := Int.mul_le_mul_of_nonneg_right q1.2 (show 0 <= pw p by omega)
      have m2 := Int.mul_le_mul_of_nonneg_right q1.1 (show 0 <= pw p by omega)
      rw [wrap64 (n := pay g i a b * pw p) (by omega) (by omega)]
    · have h2 : x.p ≠ 2 := by simpa using h2
      have hp2 : (g.nd.getD i nd0).p ≠ 2 := by rw [hxd]; exact h2
      obtain ⟨d1, d2⟩ := q07w (f := f) hp2
      rw [hxd] at d2
      have hch := q0kp (t2 _ _ hx)
      obtain ⟨c1, c2, c3⟩ := q061 t2 hs ht hi ha hb hp2
      rw [hxd] at c1
      obtain ⟨p', rfl⟩ : ∃ p', p = p' + 1 := ⟨p - 1, by omega⟩
      have hpw' := q0oj (show p' <= 5 by omega)
      have hcond : ∀ c ∈ x.ch, 0 <= c /\ c.toNat < g.nd.length /\ dep g.nd f c.toNat <= p' := fun c hc => by
        have h1 := hch c hc
        have h3 := d2 c hc
        omega
      refine q006.res (q063 hg hs ht hi ha hb hp2) [] rfl Try.call216 ?_ (.inl rfl) ?_
      · simp -implicitDefEqProofs only [agR, Nat.reduceLeDiff, Nat.reduceSub, vaR, go_sem, ints, rows, rat, rats, q0p1, rtR, intsO, q0qa]
      simp -implicitDefEqProofs only [clR, Nat.reduceLeDiff, go_sem, evR, rat, ints]
      rw [Nat.add_sub_cancel] at hV1
      generalize chP g s.2 t.2 i a b = q at hV1 c1 c2 c3 ⊢
      have hKA := q0xa t2 hs ht ha hb (f := f) c2 hcond
      refine SemC.loopR (σ := Nat) (fun k => St.of [(3, .t (.i i)), (4, .t (.i a)), (5, .t (.i b)), (6, .t (.i (p' + 1 : Nat))), (7, .own 7), (8, .own 8), (9, .own 9), (15, .own 15), (16, .t (ints q)), (17, .t (.i (valK g s.2 t.2 f a b p' q x.ch k))), (18, .t (.i k))] [(7, .box [nodes g.nd, rows g.w, rows g.v]), (8, .box [.i s.1, rows s.2]), (9, .box [.i t.1, rows t.2]), (15, .box [.i x.p, .i x.a, .i x.b, .i x.f, ints x.ch])]) (fun k => k <= q.length) (fun k => q.length - k) 0 (Weak.of _ _ [some 7, some 8, some 9, some 15] (by simp) (by simp) ?_ ?_) (by omega) fun k hk R hn hr he => ?_
      · simp -implicitDefEqProofs only [ints, rows, Nat.reduceBEq, wkR, Nat.reduceEqDiff, ↓reduceIte, wrR, nodes, show valK g s.2 t.2 f a b p' q x.ch 0 = 0 from rfl]
      · exact ⟨⟨_, rfl, .refl _⟩, rfl, ⟨_, rfl, .refl _⟩, rfl, ⟨_, rfl, .refl _⟩, rfl, ⟨_, rfl, .refl _⟩, rfl, trivial⟩
      · rcases Nat.lt_or_ge k q.length with h9 | h9
        · obtain ⟨y, hy⟩ : ∃ y, q[k]? = some y := ⟨_, List.getElem?_eq_getElem h9⟩
          obtain ⟨c, hc⟩ : ∃ c, x.ch[k]? = some c := ⟨_, List.getElem?_eq_getElem (by omega)⟩
          have hyb := c2 y (List.mem_of_getElem? hy)
          have hcb := hcond c (List.mem_of_getElem? hc)
          have hcb1 := hch c (List.mem_of_getElem? hc)
          have hsu := q12n (g := g) (s := s.2) (t := t.2) (f := f) (a := a) (b := b) (p := p') hy hc
          have k1 := hKA k (by omega) (by omega)
          have k2 := hKA (k + 1) (by omega) (by omega)
          have k3 : (k : Int) * (6000 * pw p') <= 4 * 4665600000000 := Int.mul_le_mul (by omega) (by omega) (by omega) (by decide)
          have k4 : ((k + 1 : Nat) : Int) * (6000 * pw p') <= 4 * 4665600000000 := Int.mul_le_mul (by omega) (by omega) (by omega) (by decide)
          have hcall := q0ue (ih c.toNat p' (by omega) hcb.2.1 hcb.2.2 (by omega))
          rw [show ((c.toNat : Nat) : Int) = c by omega] at hcall
          have hva := q12o t2 hs ht ha hb f c.toNat p' hcb.2.1 hcb.2.2
          obtain ⟨m1, m2⟩ := q0kl hyb.1 hva.1 hva.2
          have m3 : 100 * pw p' * y <= 77760000000 * 60 := Int.mul_le_mul (by omega) hyb.2 hyb.1 (by decide)
          simp -implicitDefEqProofs only [go_sem, evR, ints, rows, rat, rats, nodes, hy, hc, decide_eq_true (show (k : Int) < (x.ch.length : Int) by omega), wrap64 (n := (p' : Int)) (by omega) (by omega), show ((p' + 1 : Nat) : Int) - 1 = (p' : Int) by omega]
          refine ⟨by omega, by omega, by omega, by omega, by omega, by omega, ?_⟩
          refine q004.pure hcall [] rfl Try.call183 (fun e R' hR => ?_) (by first | trivial | simp [T.noSh, T.noShL, rat]) (fun _ => rfl) ?_
          · simp -implicitDefEqProofs only [agR, Nat.reduceLeDiff, Nat.reduceSub, vaR, go_sem, ints, rows, rat, rats, q0p1, rtR, intsO, q0qa]
          simp -implicitDefEqProofs only [go_sem, evR, ints, rows, rat, rats]
          refine hn _ (k + 1) (Weak.of _ _ [some 7, some 8, some 9, some 15] (by simp) (by simp) ?_ ?_) (by omega) (by omega)
          · simp -implicitDefEqProofs only [ints, rows, Nat.reduceBEq, wkR, Nat.reduceEqDiff, ↓reduceIte, wrR, nodes, q0lb h9 (by omega), wrap64 (n := y * val g s.2 t.2 f c.toNat a b p') (by omega) (by omega), ← hsu, wrap64 (n := valK g s.2 t.2 f a b p' q x.ch (k + 1)) (by omega) (by omega)]
          · exact ⟨⟨_, rfl, .refl _⟩, rfl, ⟨_, rfl, .refl _⟩, rfl, ⟨_, rfl, .refl _⟩, rfl, ⟨_, rfl, .refl _⟩, rfl, trivial⟩
        · simp -implicitDefEqProofs only [go_sem, evR, ints, rows, rat, rats, nodes, decide_eq_false (show ¬ (k : Int) < (x.ch.length : Int) by omega)]
          refine he _ _ ?_
          simp -implicitDefEqProofs only [go_sem, evR, ints, rows, rat, rats]
          rw [hV1 h2 k (by omega)]

end
end Go.Ab

/- Games as data: counts, regrets and sums of the iterations. -/
namespace Go.Ab

/-! Lists that are made new from the left. -/
def mixL {α : Type} (new old : List α) (i : Nat) : List α := new.take i ++ old.drop i
theorem q14w {α : Type} (new old : List α) : mixL new old 0 = old := by simp [mixL]
theorem q14s {α : Type} {new old : List α} (h : new.length = old.length) : mixL new old old.length = new := by simp [mixL, ← h]
theorem q14u {α : Type} {new old : List α} (h : new.length = old.length) {i : Nat} (hi : i <= old.length) : (mixL new old i).length = old.length := by simp [mixL]; omega
theorem q14t {α : Type} {new old : List α} (h : new.length = old.length) {i : Nat} (hi : i < old.length) : (mixL new old i)[i]? = old[i]? := by
  rw [mixL, List.getElem?_append_right (by simp; omega)]
  simp [List.length_take, h, Nat.min_eq_left (Nat.le_of_lt hi)]
theorem q14v {α : Type} {new old : List α} (h : new.length = old.length) {i : Nat} {y : α} (hy : new[i]? = some y) : (mixL new old i).set i y = mixL new old (i + 1) := by
  obtain ⟨hi, rfl⟩ := List.getElem?_eq_some_iff.1 hy
  have hl : (new.take i).length = i := by rw [List.length_take]; omega
  rw [mixL, mixL, List.set_append_right _ _ (by omega), hl, Nat.sub_self, List.drop_eq_getElem_cons (show i < old.length by omega), List.set_cons_zero, List.take_add_one, hy, Option.toList_some, List.append_assoc]; rfl
def sgn (pl : Int) : Int := if pl = 0 then 1 else -1
def wAt (g : Gm) (pl : Int) (c o : Nat) : Int := if pl = 0 then (g.w.getD c []).getD o 0 else (g.w.getD o []).getD c 0
def vAt (g : Gm) (s t : List (List Int)) (pl : Int) (kid c o p : Nat) : Int := if pl = 0 then val g s t g.nd.length kid c o p else val g s t g.nd.length kid o c p
def q144 (g : Gm) (n : Nat) : Nat := (dep g.nd g.nd.length n).toNat - 1
def rchW (g : Gm) (s t : List (List Int)) (pl : Int) (n c o : Nat) : Int := sgn pl * wAt g pl c o * wayP g (otOf pl s t) (1 - pl) o n
def cntF (g : Gm) (s t : List (List Int)) (pl : Int) (n c kid o : Nat) : Int := rchW g s t pl n c o * vAt g s t pl kid c o (q144 g n)
def cntN (g : Gm) (s t : List (List Int)) (pl : Int) (n c kid m : Nat) : Int := sumI ((List.range m).map (cntF g s t pl n c kid))
def cnts (g : Gm) (s t : List (List Int)) (pl : Int) (n c : Nat) : List Int := (g.nd.getD n nd0).ch.map fun k => cntN g s t pl n c k.toNat g.w.length
theorem q148 (g : Gm) (s t : List (List Int)) (pl : Int) (n c kid m : Nat) : cntN g s t pl n c kid (m + 1) = cntN g s t pl n c kid m + cntF g s t pl n c kid m := q0u6 _ _
theorem q14b (g : Gm) (s t : List (List Int)) (pl : Int) (n c : Nat) : (cnts g s t pl n c).length = (g.nd.getD n nd0).ch.length := by simp [cnts]
theorem q14a {g : Gm} {s t : List (List Int)} {pl : Int} {n c k : Nat} {x : Int} (h : (g.nd.getD n nd0).ch[k]? = some x) : (cnts g s t pl n c)[k]? = some (cntN g s t pl n c x.toNat g.w.length) := by rw [cnts, List.getElem?_map, h]; rfl
def q14m (q C : List Int) (k : Nat) : Int := sumI ((List.zipWith (fun x y => x * y) q C).take k)
theorem q14p (q C : List Int) : q14m q C 0 = 0 := rfl
theorem q14o {q C : List Int} {k : Nat} {x y : Int} (hx : q[k]? = some x) (hy : C[k]? = some y) : q14m q C (k + 1) = q14m q C k + x * y := by
  unfold q14m
  have h : (List.zipWith (fun x y => x * y) q C)[k]? = some (x * y) := by rw [List.getElem?_zipWith, hx, hy]
  rw [List.take_add_one, h, Option.toList_some, q0u7]
def q14l (q C : List Int) : Int := q14m q C C.length
def updR (r C : List Int) (M : Int) : List Int := List.zipWith (fun x y => x + (60 * y - M)) r C
def updW (s q : List Int) (w : Int) : List Int := List.zipWith (fun x y => x + w * y) s q
theorem q15t {r C : List Int} {M : Int} {k : Nat} {x y : Int} (hx : r[k]? = some x) (hy : C[k]? = some y) : (updR r C M)[k]? = some (x + (60 * y - M)) := by rw [updR, List.getElem?_zipWith, hx, hy]
theorem q15v {s q : List Int} {w : Int} {k : Nat} {x y : Int} (hx : s[k]? = some x) (hy : q[k]? = some y) : (updW s q w)[k]? = some (x + w * y) := by rw [updW, List.getElem?_zipWith, hx, hy]
theorem q15u {r C : List Int} {M : Int} (h : r.length = C.length) : (updR r C M).length = r.length := by rw [updR, List.length_zipWith]; omega
theorem q15w {s q : List Int} {w : Int} (h : s.length = q.length) : (updW s q w).length = s.length := by rw [updW, List.length_zipWith]; omega
def setN (g : Gm) (pl : Int) (i : Nat) : Nat := (((sets g pl).getD i []).getD 0 0).toNat
def setC (g : Gm) (pl : Int) (i : Nat) : Nat := (((sets g pl).getD i []).getD 1 0).toNat
theorem q15l {g : Gm} {pl : Int} {i : Nat} (h : i < (sets g pl).length) : (sets g pl)[i]? = some [(setN g pl i : Int), (setC g pl i : Int)] /\ setN g pl i < g.nd.length /\ setC g pl i < g.w.length /\ (g.nd.getD (setN g pl i) nd0).p = pl /\ q0rh g pl i = (g.nd.getD (setN g pl i) nd0).ch.length /\ setI g pl (setN g pl i) (setC g pl i) = i := by
  obtain ⟨n, c, x, h1, h2, h3, h4, h5, h6⟩ := q0qz h
  have e1 : setN g pl i = n := by unfold setN; rw [List.getD_eq_getElem?_getD (l := sets g pl), h1]; simp
  have e2 : setC g pl i = c := by unfold setC; rw [List.getD_eq_getElem?_getD (l := sets g pl), h1]; simp
  have e3 : g.nd.getD n nd0 = x := by rw [List.getD_eq_getElem?_getD, h2]; rfl
  rw [e1, e2, e3]
  refine ⟨h1, h3, h4, h5, h6, ?_⟩
  have hg := q0rd (g := g) (pl := pl) h3 h4 (by rw [e3]; exact h5)
  obtain ⟨n', c', hn', hc', hp', he, _⟩ := q11p h
  have hg' := q0rd (g := g) (pl := pl) hn' hc' hp'
  rw [← he, h1] at hg'
  simp at hg'
  obtain ⟨a1, a2⟩ := hg'
  have a1 : n = n' := by omega
  have a2 : c = c' := by omega
  rw [a1, a2]; exact he.symm
def rowR (g : Gm) (s t : List (List Int)) (pl : Int) (R : List (List Int)) (i : Nat) : List Int :=
  updR (R.getD i []) (cnts g s t pl (setN g pl i) (setC g pl i)) (q14l ((q10l pl s t).getD i []) (cnts g s t pl (setN g pl i) (setC g pl i)))
def rowS (g : Gm) (s t : List (List Int)) (pl : Int) (S : List (List Int)) (i : Nat) : List Int :=
  updW (S.getD i []) ((q10l pl s t).getD i []) (wayP g (q10l pl s t) pl (setC g pl i) (setN g pl i))
def q14y (g : Gm) (s t : List (List Int)) (pl : Int) (R : List (List Int)) : List (List Int) := (List.range (sets g pl).length).map (rowR g s t pl R)
def q14z (g : Gm) (s t : List (List Int)) (pl : Int) (S : List (List Int)) : List (List Int) := (List.range (sets g pl).length).map (rowS g s t pl S)
def posL (l : List Int) : List Int := l.map fun x => max 0 x
def rowP (l : List Int) : List Int := ham (hvd 34 (posL l))
def stM (m : List (List Int)) : List (List Int) := m.map rowP
structure RS where
  r0 : List (List Int)
  r1 : List (List Int)
  s0 : List (List Int)
  s1 : List (List Int)
def q15q (g : Gm) (x : RS) : RS := ⟨q14y g (stM x.r0) (stM x.r1) 0 x.r0, q14y g (stM x.r0) (stM x.r1) 1 x.r1, q14z g (stM x.r0) (stM x.r1) 0 x.s0, q14z g (stM x.r0) (stM x.r1) 1 x.s1⟩
def q15z (g : Gm) (pl : Int) : List (List Int) := (List.range (sets g pl).length).map fun i => List.replicate (q0rh g pl i) 0
def q15i (g : Gm) : Nat -> RS
  | 0 => ⟨q15z g 0, q15z g 1, q15z g 0, q15z g 1⟩
  | n + 1 => q15q g (q15i g n)
def okM (g : Gm) (pl : Int) (B : Int) (m : List (List Int)) : Prop := m.length = (sets g pl).length /\ ∀ i r, m[i]? = some r -> r.length = q0rh g pl i /\ ∀ x ∈ r, -B <= x /\ x <= B
theorem q150 {g : Gm} {pl B : Int} {m : List (List Int)} (h : okM g pl B m) {i : Nat} (hi : i < (sets g pl).length) : ∃ r, m[i]? = some r /\ m.getD i [] = r /\ r.length = q0rh g pl i /\ ∀ x ∈ r, -B <= x /\ x <= B := by
  have hx : m[i]? = some (m[i]'(by rw [h.1]; exact hi)) := List.getElem?_eq_getElem _
  exact ⟨_, hx, by rw [List.getD_eq_getElem?_getD, hx]; rfl, h.2 i _ hx⟩
theorem q151 {g : Gm} {pl B : Int} {F : Nat -> List Int} (h : ∀ i, i < (sets g pl).length -> (F i).length = q0rh g pl i /\ ∀ x ∈ F i, -B <= x /\ x <= B) : okM g pl B ((List.range (sets g pl).length).map F) := by
  refine ⟨by simp, fun i r hr => ?_⟩
  have hi : i < (sets g pl).length := by have := (List.getElem?_eq_some_iff.1 hr).1; simpa using this
  rw [List.getElem?_map, List.getElem?_range hi, Option.map_some, Option.some.injEq] at hr
  rw [← hr]; exact h i hi
theorem q160 (g : Gm) (pl : Int) : okM g pl 0 (q15z g pl) := q151 fun i _ => ⟨by simp, fun x hx => by rw [List.eq_of_mem_replicate hx]; omega⟩

/-! Bounds. -/
theorem q156 (a b : Nat) : pw (a + b) = pw a * pw b := by rw [pw, pw, pw, Int.pow_add]
theorem q145 {g : Gm} (hg : q0fl g = true) {n : Nat} (hn : n < g.nd.length) (h2 : (g.nd.getD n nd0).p ≠ 2) : (wayL g.nd n).length + q144 g n <= 4 /\ dep g.nd g.nd.length n = (q144 g n : Int) + 1 /\ ∀ k, k ∈ (g.nd.getD n nd0).ch -> 0 <= k /\ k.toNat < g.nd.length /\ dep g.nd g.nd.length k.toNat <= q144 g n := by
  obtain ⟨p1, p2, p3, p4, p5⟩ := q0fn hg
  obtain ⟨t1, t2, t3, t4⟩ := q0g0 p1
  have hx : g.nd[n]? = some (g.nd.getD n nd0) := by rw [List.getD_eq_getElem?_getD, List.getElem?_eq_getElem hn]; rfl
  have hch := q0kp (t2 n _ hx)
  obtain ⟨F, hF⟩ : ∃ F, g.nd.length = F + 1 := ⟨g.nd.length - 1, by omega⟩
  obtain ⟨d1, d2⟩ := q07w (l := g.nd) (f := F) (i := n) h2
  rw [← hF] at d1 d2
  have hw := q12u t2 t3 n n (Nat.le_refl _) hn
  have hb : dep g.nd g.nd.length n = (q144 g n : Int) + 1 := by unfold q144; omega
  refine ⟨by omega, hb, fun k hk => ?_⟩
  have h1 := hch k hk
  have h3 := d2 k hk
  rw [q07y t2 F g.nd.length k.toNat (by omega) (by omega)] at h3
  exact ⟨by omega, by omega, by omega⟩
theorem q15y {g : Gm} (hg : q0fl g = true) (pl : Int) (c o : Nat) : 0 <= wAt g pl c o /\ wAt g pl c o <= 9 := by
  obtain ⟨_, _, h3, _⟩ := q0fo hg
  unfold wAt
  split
  · exact q0xh h3 c o
  · exact q0xh h3 o c
theorem q159 {g : Gm} {s t : List (List Int)} {pl : Int} {n c o : Nat} (h : wAt g pl c o = 0) : rchW g s t pl n c o = 0 := by rw [rchW, h, Int.mul_zero, Int.zero_mul]
theorem q153 {g : Gm} {s t : List (List Int)} (hs : q0nw g s 0) (ht : q0nw g t 1) {pl : Int} (hpl : pl = 0 ∨ pl = 1) : q0nw g (q10l pl s t) pl /\ q0nw g (otOf pl s t) (1 - pl) := by
  rcases hpl with rfl | rfl
  · exact ⟨hs, ht⟩
  · exact ⟨ht, hs⟩
theorem q158 {g : Gm} (hg : q0fl g = true) {s t : List (List Int)} (hs : q0nw g s 0) (ht : q0nw g t 1) {pl : Int} (hpl : pl = 0 ∨ pl = 1) {n c o : Nat} (hn : n < g.nd.length) (ho : o < g.w.length) :
    -(9 * pw (wayL g.nd n).length) <= rchW g s t pl n c o /\ rchW g s t pl n c o <= 9 * pw (wayL g.nd n).length := by
  obtain ⟨p1, p2, p3, p4, p5⟩ := q0fn hg
  obtain ⟨t1, t2, t3, t4⟩ := q0g0 p1
  obtain ⟨w1, w2⟩ := q15y hg pl c o
  obtain ⟨b1, b2⟩ := q12q (c := o) t2 t3 (q153 hs ht hpl).2 ho n n (Nat.le_refl _) hn
  have hm : wAt g pl c o * wayP g (otOf pl s t) (1 - pl) o n <= 9 * pw (wayL g.nd n).length := Int.mul_le_mul w2 b2 b1 (by decide)
  have hm0 := Int.mul_nonneg w1 b1
  unfold rchW sgn
  split
  · rw [Int.one_mul]; omega
  · rw [Int.neg_one_mul, Int.neg_mul]; omega
theorem q141 {x y a b : Int} (hx : -a <= x /\ x <= a) (hy : -b <= y /\ y <= b) : -(a * b) <= x * y /\ x * y <= a * b := by
  have hb : 0 <= b := by omega
  rcases Int.le_total 0 x with h | h
  · obtain ⟨m1, m2⟩ := q0kl h hy.1 hy.2
    have m3 : b * x <= b * a := Int.mul_le_mul_of_nonneg_left hx.2 hb
    rw [Int.mul_comm a b]; omega
  · obtain ⟨m1, m2⟩ := q0kl (x := -x) (by omega) hy.1 hy.2
    have m3 : b * -x <= b * a := Int.mul_le_mul_of_nonneg_left (by omega) hb
    rw [Int.neg_mul] at m1 m2
    rw [Int.mul_comm a b]; omega
theorem q15x {g : Gm} (hg : q0fl g = true) {s t : List (List Int)} (hs : q0nw g s 0) (ht : q0nw g t 1) {pl : Int} {k c o p : Nat} (hc : c < g.w.length) (ho : o < g.w.length) (hk : k < g.nd.length) (hd : dep g.nd g.nd.length k <= p) : -(100 * pw p) <= vAt g s t pl k c o p /\ vAt g s t pl k c o p <= 100 * pw p := by
  obtain ⟨p1, p2, p3, p4, p5⟩ := q0fn hg
  obtain ⟨t1, t2, t3, t4⟩ := q0g0 p1
  unfold vAt
  split
  · exact q12o t2 hs ht hc ho _ _ _ hk hd
  · exact q12o t2 hs ht ho hc _ _ _ hk hd
theorem q157 {p : Nat} (h : p <= 4) : 1 <= pw p /\ pw p <= 12960000 := by
  have : p = 0 ∨ p = 1 ∨ p = 2 ∨ p = 3 ∨ p = 4 := by omega
  rcases this with rfl | rfl | rfl | rfl | rfl <;> decide
theorem q146 {g : Gm} (hg : q0fl g = true) {s t : List (List Int)} (hs : q0nw g s 0) (ht : q0nw g t 1) {pl : Int} (hpl : pl = 0 ∨ pl = 1) {n c o : Nat} (hn : n < g.nd.length) (h2 : (g.nd.getD n nd0).p ≠ 2) (hc : c < g.w.length) (ho : o < g.w.length) {k : Int} (hk : k ∈ (g.nd.getD n nd0).ch) :
    -11664000000 <= cntF g s t pl n c k.toNat o /\ cntF g s t pl n c k.toNat o <= 11664000000 := by
  obtain ⟨e1, e2, e3⟩ := q145 hg hn h2
  obtain ⟨k1, k2, k3⟩ := e3 k hk
  have h := q141 (q158 (c := c) hg hs ht hpl hn ho) (q15x (pl := pl) hg hs ht hc ho k2 k3)
  have hp : 9 * pw (wayL g.nd n).length * (100 * pw (q144 g n)) = 900 * pw ((wayL g.nd n).length + q144 g n) := by
    rw [q156]; grind
  have hq := q157 e1
  rw [hp] at h
  unfold cntF; omega
theorem q147 {g : Gm} (hg : q0fl g = true) {s t : List (List Int)} (hs : q0nw g s 0) (ht : q0nw g t 1) {pl : Int} (hpl : pl = 0 ∨ pl = 1) {n c : Nat} (hn : n < g.nd.length) (h2 : (g.nd.getD n nd0).p ≠ 2) (hc : c < g.w.length) {k : Int} (hk : k ∈ (g.nd.getD n nd0).ch) {m : Nat} (hm : m <= g.w.length) :
    -69984000000 <= cntN g s t pl n c k.toNat m /\ cntN g s t pl n c k.toNat m <= 69984000000 := by
  obtain ⟨p1, p2, p3, p4, p5⟩ := q0fn hg
  have h := q0u5 (G := cntF g s t pl n c k.toNat) (n := m) (c := 11664000000) fun o ho => q146 hg hs ht hpl hn h2 hc (by omega) hk
  unfold cntN; omega
theorem q149 {g : Gm} (hg : q0fl g = true) {s t : List (List Int)} (hs : q0nw g s 0) (ht : q0nw g t 1) {pl : Int} (hpl : pl = 0 ∨ pl = 1) {n c : Nat} (hn : n < g.nd.length) (h2 : (g.nd.getD n nd0).p ≠ 2) (hc : c < g.w.length) : ∀ y ∈ cnts g s t pl n c, -69984000000 <= y /\ y <= 69984000000 := by
  intro y hy
  obtain ⟨k, hk, rfl⟩ := List.mem_map.1 hy
  exact q147 hg hs ht hpl hn h2 hc hk (Nat.le_refl _)
theorem q14n {q C : List Int} (hq : ∀ x ∈ q, 0 <= x /\ x <= 60) (hC : ∀ y ∈ C, -69984000000 <= y /\ y <= 69984000000) : ∀ k, -(k * 4199040000000) <= q14m q C k /\ q14m q C k <= k * 4199040000000
  | 0 => by simp [q14m, sumI]
  | k + 1 => by
    have ih := q14n hq hC k
    cases hx : q[k]? with
    | none =>
      have : q14m q C (k + 1) = q14m q C k := by
        unfold q14m
        have h : (List.zipWith (fun x y => x * y) q C)[k]? = none := by rw [List.getElem?_zipWith, hx]
        rw [List.take_add_one, h]; simp
      rw [this]; omega
    | some x =>
      cases hy : C[k]? with
      | none =>
        have : q14m q C (k + 1) = q14m q C k := by
          unfold q14m
          have h : (List.zipWith (fun x y => x * y) q C)[k]? = none := by rw [List.getElem?_zipWith, hx, hy]
          rw [List.take_add_one, h]; simp
        rw [this]; omega
      | some y =>
        rw [q14o hx hy]
        have h1 := hq x (List.mem_of_getElem? hx)
        have h2 := hC y (List.mem_of_getElem? hy)
        obtain ⟨m1, m2⟩ := q0kl h1.1 h2.1 h2.2
        omega
end Go.Ab

/- Contracts: where a number stands first; products along a way. -/
namespace Go.Ab
open Go.Proofs
theorem q0rr (r : List Int) (hr : r.length <= 1000000) (x : Int) (hx : x ∈ r) : Pure Try.prog 117 [ints r, .i x] (.i (ixOf x r : Nat)) := by
  refine q0be (by simp) ?_
  simp -implicitDefEqProofs only [go_sem, evR, ints, rows, rat, rats, q04g]
  refine SemC.loopR (σ := Nat) (fun i => St.of [(0, .t (ints r)), (1, .t (.i x)), (7, .t (.i r.length)), (8, .t (.i i))] []) (fun i => i <= ixOf x r) (fun i => r.length - i) 0 (Weak.of _ [] [] (by simp) (by simp) ?_ trivial) (by omega) fun i hi R hn hr' he => ?_
  · simp -implicitDefEqProofs only [ints, rows, Nat.reduceBEq, wkR, Nat.reduceEqDiff, ↓reduceIte, wrR]
  · simp -implicitDefEqProofs only [go_sem, evR, ints, rows, rat, rats]
    have hg := q109 hx
    have hml := (List.getElem?_eq_some_iff.1 hg).1
    refine ⟨fun h => ⟨by omega, by omega, by omega, fun y hy => ⟨fun hc => hr' _ ?_, fun hc => ?_⟩⟩, fun h => by omega⟩
    · have hc : x = y := by simpa using hc
      have e : i = ixOf x r := by
        have := q10a (hc ▸ hy : r[i]? = some x)
        omega
      simp -implicitDefEqProofs only [go_sem, evR, ints, rows, rat, rats]
      rw [← e]
    · have hne : i ≠ ixOf x r := by
        intro e
        rw [← e, hy] at hg
        injection hg with hg
        simp [hg] at hc
      refine hn _ (i + 1) (Weak.of _ [] [] (by simp) (by simp) ?_ trivial) (by omega) (by omega)
      simp -implicitDefEqProofs only [ints, rows, Nat.reduceBEq, wkR, Nat.reduceEqDiff, ↓reduceIte, wrR, q0lb (by omega : i < r.length) (by omega)]
section
attribute [-go_sem] q0i5 q0id fldC lenC idxC q0ip q0lp
theorem q0sc {l : List Nd} (h : q0l2 l) (ho : q10t l) (hl : l.length <= 60) : ∀ (f n : Nat), n <= f -> n < l.length -> Fun Try.prog 225 [] [.t (.agg [.sh 5 (chunk q0lu l)]), .t (.i n)] fun o r => o = [] /\ r = intsO (wayL l n) := by
  intro f
  induction f with
  | zero =>
    intro n h1 hn
    obtain rfl : n = 0 := by omega
    refine q0br (by simp) ?_
    simp -implicitDefEqProofs only [go_sem, evR, ints, rows, rat, rats, q04t, nodes, show (((0 : Nat) : Int) == 0) = true from rfl]
    rfl
  | succ f ih =>
    intro n h1 hn
    by_cases hz : n = 0
    · subst hz
      refine q0br (by simp) ?_
      simp -implicitDefEqProofs only [go_sem, evR, ints, rows, rat, rats, q04t, nodes, show (((0 : Nat) : Int) == 0) = true from rfl]
      rfl
    · have hu := q12k h ho (by omega) hn
      have hpg := q118 h ho (by omega) hn
      have hku := q10e h ho (j := n) (by omega) hn
      have hwu := q12v h ho (j := n) (by omega) hn
      have hpl := (List.getElem?_eq_some_iff.1 hpg).1
      refine q0br (by simp) ?_
      simp -implicitDefEqProofs only [go_sem, evR, ints, rows, rat, rats, q04t, nodes, show ((n : Int) == 0) = false by simp; omega]
      refine SemC.loopR (σ := Nat) (fun i => St.of [(1, .t (.i n)), (2, .own 2), (5, .t (.i i))] [(2, .box [nodes l])]) (fun i => i <= upN l n) (fun i => n - i) 0 (Weak.of _ _ [some 2] (by simp) (by simp) ?_ ?_) (by omega) fun i hi R hn1 hr he => ?_
      · simp -implicitDefEqProofs only [ints, rows, Nat.reduceBEq, wkR, Nat.reduceEqDiff, ↓reduceIte, wrR, nodes]
      · exact ⟨⟨_, rfl, .refl _⟩, rfl, trivial⟩
      obtain ⟨x, hx⟩ : ∃ x, l[i]? = some x := ⟨_, List.getElem?_eq_getElem (by omega)⟩
      have hxd : l.getD i nd0 = x := by rw [List.getD_eq_getElem?_getD, hx]; rfl
      have hxl := (q0ks (h _ _ hx)).2.2.2.2.2
      simp -implicitDefEqProofs only [go_sem, evR, ints, rows, rat, rats, nodes, decide_eq_true (show (i : Int) < (n : Int) by omega)]
      refine SemC.loopR (σ := Nat) (fun k => St.of [(1, .t (.i n)), (2, .own 2), (5, .t (.i i)), (6, .t (.i k))] [(2, .box [nodes l])]) (fun k => k <= x.ch.length /\ (i = upN l n -> k <= plc l n)) (fun k => x.ch.length - k) 0 (Weak.of _ _ [some 2] (by simp) (by simp) ?_ ?_) ⟨by omega, fun _ => by omega⟩ fun k hk R2 hn2 hr2 he2 => ?_
      · simp -implicitDefEqProofs only [ints, rows, Nat.reduceBEq, wkR, Nat.reduceEqDiff, ↓reduceIte, wrR, nodes]
      · exact ⟨⟨_, rfl, .refl _⟩, rfl, trivial⟩
      rcases Nat.lt_or_ge k x.ch.length with h9 | h9
      · obtain ⟨y, hy⟩ : ∃ y, x.ch[k]? = some y := ⟨_, List.getElem?_eq_getElem h9⟩
        by_cases hyn : y = n
        · have hki : q107 l i n := q10c h (by omega) (by rw [hxd]; exact hyn ▸ List.mem_of_getElem? hy)
          have hiu : i = upN l n := (q12j h ho hki).symm
          have hkp : k = plc l n := by
            have a := hk.2 hiu
            have b : plc l n <= k := q10a (by rw [← hiu, hxd, hy, hyn])
            omega
          have hp := ih i (by omega) (by omega)
          simp only [intsO] at hp
          simp -implicitDefEqProofs only [go_sem, evR, ints, rows, rat, rats, nodes, q0kz hx, hy, decide_eq_true (show (k : Int) < (x.ch.length : Int) by omega), show (y == (n : Int)) = true by simp [hyn]]
          repeat (first | refine ⟨by omega, ?_⟩ | refine ⟨by rw [q0l0]; omega, ?_⟩)
          have hwd := q12u h ho i i (Nat.le_refl _) (by omega)
          have hd0 := (q07x (l := l) l.length 0).2
          have hdi := (q07x (l := l) l.length i).1
          refine q006.res hp [] rfl Try.call225 ?_ (.inl rfl) ?_
          · simp -implicitDefEqProofs only [agR, Nat.reduceLeDiff, Nat.reduceSub, vaR, go_sem, ints, rows, rat, rats, q0p1, rtR, intsO, q0qa]
          simp -implicitDefEqProofs only [clR, Nat.reduceLeDiff, go_sem, evR, rat]
          refine ⟨by omega, hr2 _ (hr _ ?_)⟩
          simp -implicitDefEqProofs only [go_sem, evR, ints, rows, rat, rats]
          rw [hwu, ← hiu, ← hkp, intsO, List.map_append]
          rfl
        · simp -implicitDefEqProofs only [go_sem, evR, ints, rows, rat, rats, nodes, q0kz hx, hy, decide_eq_true (show (k : Int) < (x.ch.length : Int) by omega), show (y == (n : Int)) = false by simp [hyn]]
          repeat (first | refine ⟨by omega, ?_⟩ | refine ⟨by rw [q0l0]; omega, ?_⟩)
          refine hn2 _ (k + 1) (Weak.of _ _ [some 2] (by simp) (by simp) ?_ ?_) ⟨by omega, fun e => ?_⟩ (by omega)
          · simp -implicitDefEqProofs only [ints, rows, Nat.reduceBEq, wkR, Nat.reduceEqDiff, ↓reduceIte, wrR, nodes, q0lb h9 (by omega)]
          · exact ⟨⟨_, rfl, .refl _⟩, rfl, trivial⟩
          · have a := hk.2 e
            rcases Nat.lt_or_ge k (plc l n) with b | b
            · omega
            · have : k = plc l n := by omega
              rw [← e, hxd, ← this, hy] at hpg
              injection hpg with hpg
              exact absurd hpg hyn
      · simp -implicitDefEqProofs only [go_sem, evR, ints, rows, rat, rats, nodes, q0kz hx, decide_eq_false (show ¬ (k : Int) < (x.ch.length : Int) by omega)]
        repeat (first | refine ⟨by omega, ?_⟩ | refine ⟨by rw [q0l0]; omega, ?_⟩)
        refine he2 _ _ ?_
        simp -implicitDefEqProofs only [go_sem, evR, ints, rows, rat, rats]
        have hne : i ≠ upN l n := fun e => by
          have a := hk.2 e
          rw [← e, hxd] at hpl
          omega
        refine hn1 _ (i + 1) (Weak.of _ _ [some 2] (by simp) (by simp) ?_ ?_) (by omega) (by omega)
        · simp -implicitDefEqProofs only [ints, rows, Nat.reduceBEq, wkR, Nat.reduceEqDiff, ↓reduceIte, wrR, nodes, q0lb (show i < l.length by omega) (by omega)]
        · exact ⟨⟨_, rfl, .refl _⟩, rfl, trivial⟩
theorem q0sy {g : Gm} (hg : q0fl g = true) {S : List (List Int)} {pl : Int} (hpl : pl = 0 ∨ pl = 1) (hS : q0nw g S pl) {c n : Nat} (hc : c < g.w.length) (hn : n < g.nd.length) : Pure Try.prog 209 [.agg [.sh 5 (chunk q0lu g.nd), .sh 1 (g.w.map ints), .sh 1 (g.v.map ints)], .agg [.i pl, .sh 1 (S.map ints)], .i n, .i c] (.i (wayP g S pl c n)) := by
  obtain ⟨p1, p2, p3, p4, p5⟩ := q0fn hg
  obtain ⟨t1, t2, t3, t4⟩ := q0g0 p1
  obtain ⟨a1, a2, a3, a4⟩ := q0y3 t2 t3 n n (Nat.le_refl _) hn
  have hwd := q12u t2 t3 n n (Nat.le_refl _) hn
  have hdn := (q07x (l := g.nd) g.nd.length n).1
  refine q0cb (by simp) ?_
  simp -implicitDefEqProofs only [go_sem, evR, ints, rows, rat, rats, q05d]
  have hp := q0sc t2 t3 t1.2 n n (Nat.le_refl _) hn
  simp only [intsO] at hp
  refine q006.res hp [] rfl Try.call225 ?_ (.inl rfl) ?_
  · simp -implicitDefEqProofs only [agR, Nat.reduceLeDiff, Nat.reduceSub, vaR, go_sem, ints, rows, rat, rats, q0p1, rtR, intsO, q0qa]
  simp -implicitDefEqProofs only [clR, Nat.reduceLeDiff, go_sem, evR, rat]
  refine SemC.loopR (σ := Nat × Nat) (fun s => St.of [(3, .t (.i c)), (4, .own 4), (5, .own 5), (9, .own 16), (10, .t (.i s.2)), (11, .t (.i (wayP g S pl c s.2))), (12, .t (.i s.1))] [(4, .box [nodes g.nd, rows g.w, rows g.v]), (5, .box [.i pl, rows S]), (16, intsO (wayL g.nd n))]) (fun s => s.1 <= (wayL g.nd n).length /\ (ancL g.nd n)[s.1]? = some s.2 /\ s.2 < g.nd.length) (fun s => (wayL g.nd n).length - s.1) (0, 0) (Weak.of _ _ [some 4, some 5, some 16] (by simp) (by simp) ?_ ?_) ⟨by omega, a2, by omega⟩ fun s hI R hn1 hr he => ?_
  · simp -implicitDefEqProofs only [ints, rows, Nat.reduceBEq, wkR, Nat.reduceEqDiff, ↓reduceIte, wrR, nodes, q12s]
  · exact ⟨⟨_, rfl, .refl _⟩, rfl, ⟨_, rfl, .refl _⟩, rfl, ⟨_, rfl, .refl _⟩, rfl, trivial⟩
  obtain ⟨i, u⟩ := s
  obtain ⟨hi, hau, hul⟩ := hI
  (try simp only [] at hi hau hul)
  (try simp only [])
  rcases Nat.lt_or_ge i (wayL g.nd n).length with h9 | h9
  · obtain ⟨m, m1, m2, m3, m4, m5⟩ := a4 i h9
    have hum : u = upN g.nd m := by rw [hau] at m4; exact Option.some.inj m4
    obtain ⟨x, hx⟩ : ∃ x, g.nd[u]? = some x := ⟨_, List.getElem?_eq_getElem hul⟩
    have hxd : g.nd.getD u nd0 = x := by rw [List.getD_eq_getElem?_getD, hx]; rfl
    have hku := q10e t2 t3 m2 m3
    have hpg := q118 t2 t3 m2 m3
    rw [← hum, hxd] at hpg
    have hwp := q12r (S := S) (pl := pl) (c := c) t2 t3 m2 m3
    rw [← hum, hxd] at hwp
    obtain ⟨b1, b2⟩ := q12q t2 t3 hS hc m m (Nat.le_refl _) m3
    have hwm := q12u t2 t3 m m (Nat.le_refl _) m3
    have hdm := (q07x (l := g.nd) g.nd.length m).1
    have hpw := q0oj (p := (wayL g.nd m).length) (by omega)
    by_cases hxp : x.p = pl
    · have hpd : (g.nd.getD u nd0).p = pl := by rw [hxd]; exact hxp
      have hrow := q0ny t2 (by omega) hS hul hc hpd
      have hrl := (hS u c hul hc hpd).1
      have hrl2 := (List.getElem?_eq_some_iff.1 hrow).1
      rw [hxd] at hrl
      have hpl1 := (List.getElem?_eq_some_iff.1 hpg).1
      obtain ⟨y, hy⟩ : ∃ y, (partsOf g S pl u c)[plc g.nd m]? = some y := ⟨_, List.getElem?_eq_getElem (by omega)⟩
      rw [if_pos hxp, List.getD_eq_getElem?_getD, hy, Option.getD_some] at hwp
      simp -implicitDefEqProofs only [go_sem, evR, ints, rows, rat, rats, nodes, intsO, q0ky hx, m5, decide_eq_true (show (i : Int) < ((wayL g.nd n).length : Int) by omega), show (x.p == pl) = true by simp [hxp]]
      repeat (first | refine ⟨by omega, ?_⟩ | refine ⟨by rw [q0l0]; omega, ?_⟩)
      refine q004.pure (q0ha hg hul hpd hc) [] rfl Try.call221 (fun e R' hR => ?_) (by first | trivial | simp [T.noSh, T.noShL, rat]) (fun _ => rfl) ?_
      · simp -implicitDefEqProofs only [agR, Nat.reduceLeDiff, Nat.reduceSub, vaR, go_sem, ints, rows, rat, rats, q0p1, rtR, intsO, q0qa]
      simp -implicitDefEqProofs only [go_sem, evR, ints, rows, rat, rats, nodes, intsO, hrow, m5, hy, q0kz hx, hpg]
      repeat (first | refine ⟨by omega, ?_⟩ | refine ⟨by rw [q0l0]; omega, ?_⟩)
      refine hn1 _ (i + 1, m) (Weak.of _ _ [some 4, some 5, some 16] (by simp) (by simp) ?_ ?_) ⟨by show i + 1 <= _; omega, m1, m3⟩ (by show _ - (i + 1) < _ - i; omega)
      · simp -implicitDefEqProofs only [ints, rows, Nat.reduceBEq, wkR, Nat.reduceEqDiff, ↓reduceIte, wrR, nodes, q0lb h9 (by omega), ← hwp, wrap64 (n := wayP g S pl c m) (by omega) (by omega)]
      · exact ⟨⟨_, rfl, .refl _⟩, rfl, ⟨_, rfl, .refl _⟩, rfl, ⟨_, rfl, .refl _⟩, rfl, trivial⟩
    · rw [if_neg hxp, Int.mul_one] at hwp
      have hpl1 := (List.getElem?_eq_some_iff.1 hpg).1
      simp -implicitDefEqProofs only [go_sem, evR, ints, rows, rat, rats, nodes, intsO, q0ky hx, q0kz hx, hpg, m5, decide_eq_true (show (i : Int) < ((wayL g.nd n).length : Int) by omega), show (x.p == pl) = false by simp [hxp]]
      repeat (first | refine ⟨by omega, ?_⟩ | refine ⟨by rw [q0l0]; omega, ?_⟩)
      refine hn1 _ (i + 1, m) (Weak.of _ _ [some 4, some 5, some 16] (by simp) (by simp) ?_ ?_) ⟨by show i + 1 <= _; omega, m1, m3⟩ (by show _ - (i + 1) < _ - i; omega)
      · simp -implicitDefEqProofs only [ints, rows, Nat.reduceBEq, wkR, Nat.reduceEqDiff, ↓reduceIte, wrR, nodes, q0lb h9 (by omega), hwp]
      · exact ⟨⟨_, rfl, .refl _⟩, rfl, ⟨_, rfl, .refl _⟩, rfl, ⟨_, rfl, .refl _⟩, rfl, trivial⟩
  · have hil : i = (wayL g.nd n).length := by omega
    have hun : u = n := by rw [hil, a3] at hau; exact (Option.some.inj hau).symm
    simp -implicitDefEqProofs only [go_sem, evR, ints, rows, rat, rats, nodes, intsO, decide_eq_false (show ¬ (i : Int) < ((wayL g.nd n).length : Int) by omega)]
    refine he _ _ ?_
    simp -implicitDefEqProofs only [go_sem, evR, ints, rows, rat, rats]
    rw [hun]
theorem q0f8 {g : Gm} {s t : List (List Int)} (hg : q0fl g = true) (hs : q0nw g s 0) (ht : q0nw g t 1) {pl : Int} (hpl : pl = 0 ∨ pl = 1) {n a b : Nat} (hn : n < g.nd.length) (ha : a < g.w.length) (hb : b < g.w.length) :
    Pure Try.prog 226 [.pin [.sh 5 (chunk q0lu g.nd), .sh 1 (g.w.map ints), .sh 1 (g.v.map ints), .sh 1 ((ownL g 0).map T.i), .sh 1 ((ownL g 1).map T.i), .sh 1 (s.map ints), .sh 1 (t.map ints), .sh 1 ((parN g.nd g.nd.length).map T.i)] 0, .i n, .i pl, .i a, .i b] (.i (wayP g (q10l pl s t) pl (if pl = 0 then a else b) n)) := by
  obtain ⟨p1, p2, p3, p4, p5⟩ := q0fn hg
  obtain ⟨t1, t2, t3, t4⟩ := q0g0 p1
  have hm := (q153 hs ht hpl).1
  have hcc : (if pl = 0 then a else b) < g.w.length := by split <;> assumption
  have hrow : ∀ u, (g.nd.getD u nd0).p = pl -> chP g s t u a b = partsOf g (q10l pl s t) pl u (if pl = 0 then a else b) := fun u hu => by
    unfold chP q10l
    rcases hpl with rfl | rfl
    · rw [if_pos hu, if_pos rfl, if_pos rfl]
    · rw [if_neg (by omega), if_neg (by omega), if_neg (by omega)]
  generalize (if pl = 0 then a else b) = c at hcc hrow ⊢
  generalize hS : q10l pl s t = S at hm hrow ⊢
  have hwn := q12u t2 t3 n n (Nat.le_refl _) hn
  have hdn := (q07x (l := g.nd) g.nd.length n).1
  refine q0a2 (by simp) ?_
  simp -implicitDefEqProofs only [go_sem, evR, ints, rows, rat, rats, q034]
  refine SemC.loopR (σ := Nat × Int) (fun q => St.of [(0, .t (.pin (evL g s t) 0)), (1, .t (.i q.1)), (2, .t (.i pl)), (3, .t (.i a)), (4, .t (.i b)), (11, .t (.i q.2))] []) (fun q => q.1 < g.nd.length /\ q.2 * wayP g S pl c q.1 = wayP g S pl c n /\ ∃ d, (wayL g.nd q.1).length + d <= (wayL g.nd n).length /\ 0 <= q.2 /\ q.2 <= pw d) (fun q => q.1) (n, 1) (Weak.of _ [] [] (by simp) (by simp) ?_ trivial) ⟨hn, by show (1 : Int) * _ = _; rw [Int.one_mul], 0, by show (wayL g.nd n).length + 0 <= _; omega, by show (0 : Int) <= 1; decide, by show (1 : Int) <= pw 0; decide⟩ fun q hI R hn1 hr he => ?_
  · simp -implicitDefEqProofs only [ints, rows, Nat.reduceBEq, wkR, Nat.reduceEqDiff, ↓reduceIte, wrR, evL, nodes]
  obtain ⟨j, z⟩ := q
  obtain ⟨hj, hz, d, hd, z0, z1⟩ := hI
  (try simp only [] at hj hz hd z0 z1)
  (try simp only [])
  by_cases hj0 : j = 0
  · subst hj0
    rw [q12s, Int.mul_one] at hz
    simp -implicitDefEqProofs only [go_sem, evR, ints, rows, rat, rats, decide_eq_false (show ¬ ((0 : Nat) : Int) > 0 by omega)]
    refine he _ _ ?_
    simp -implicitDefEqProofs only [go_sem, evR, ints, rows, rat, rats]
    rw [hz]
  · have hku := q10e t2 t3 (j := j) (by omega) hj
    have huj := q12k t2 t3 (j := j) (by omega) hj
    have hup := q113 t2 t3 (j := j) (by omega) hj
    have hpg := q118 t2 t3 (j := j) (by omega) hj
    have hwp := q12r (S := S) (pl := pl) (c := c) t2 t3 (j := j) (by omega) hj
    have hwu := q12v t2 t3 (j := j) (by omega) hj
    have hpl2 := q112 g.nd g.nd.length
    rw [hwu, List.length_append, List.length_cons, List.length_nil] at hd
    have hplc : plc g.nd j = ixOf (j : Int) (g.nd.getD (upN g.nd j) nd0).ch := rfl
    generalize upN g.nd j = u at hku huj hup hpg hwp hwu hd hplc
    obtain ⟨x, hx⟩ : ∃ x, g.nd[u]? = some x := ⟨_, List.getElem?_eq_getElem hku.1⟩
    have hxd : g.nd.getD u nd0 = x := by rw [List.getD_eq_getElem?_getD, hx]; rfl
    have hxl := (q0ks (t2 _ _ hx)).2.2.2.2.2
    rw [hxd] at hpg hwp hplc
    have hpl1 := (List.getElem?_eq_some_iff.1 hpg).1
    by_cases hxp : x.p = pl
    · have hpd : (g.nd.getD u nd0).p = pl := by rw [hxd]; exact hxp
      have hc2 := hrow u hpd
      have hb2 := q114 hm hku.1 hcc hpd (plc g.nd j)
      have hrl := (hm u c hku.1 hcc hpd).1
      rw [hxd] at hrl
      obtain ⟨y, hy⟩ : ∃ y, (partsOf g S pl u c)[plc g.nd j]? = some y := ⟨_, List.getElem?_eq_getElem (by omega)⟩
      rw [if_pos hxp, List.getD_eq_getElem?_getD, hy, Option.getD_some] at hwp
      rw [List.getD_eq_getElem?_getD, hy, Option.getD_some] at hb2
      have hmem : (j : Int) ∈ x.ch := List.mem_of_getElem? hpg
      have hix := q0rr x.ch (by omega) (j : Int) hmem
      have zb : z * y <= pw d * 60 := Int.mul_le_mul z1 hb2.2 hb2.1 (by have := q0ok d; omega)
      have zc := Int.mul_nonneg z0 hb2.1
      have hpw := q0oj (p := d + 1) (by omega)
      rw [q0ol] at hpw
      have hpa := q0nv hg hs ht (i := u) (a := a) (b := b) hku.1 ha hb (by omega)
      rw [hc2] at hpa
      simp -implicitDefEqProofs only [go_sem, evR, ints, rows, rat, rats, evL, nodes, hup, q0ky hx, hpl2, decide_eq_true (show (j : Int) > 0 by omega), show (x.p == pl) = true by simp [hxp]]
      repeat (first | refine ⟨by omega, ?_⟩ | refine ⟨by rw [q0l0]; omega, ?_⟩)
      refine q002.ref hpa [] [] rfl Try.call214 (by simp) ?_ (by simp) (fun e R' hR => ?_) (.inl rfl) ?_
      · simp -implicitDefEqProofs only [srR, Nat.reduceEqDiff, ↓reduceIte, ints, rows, intsO, q0qa]
      · simp -implicitDefEqProofs only [agR, Nat.reduceLeDiff, Nat.reduceSub, vaR, go_sem, ints, rows, rat, rats, q0p1, rtR, intsO, q0qa]
      simp -implicitDefEqProofs only [clR, Nat.reduceLeDiff, go_sem, evR, rat, evL, nodes, rows, ints, q0kz hx]
      repeat (first | refine ⟨by omega, ?_⟩ | refine ⟨by rw [q0l0]; omega, ?_⟩)
      rw [← hplc] at hix
      refine q004.pure hix [] rfl Try.call117 (fun e R' hR => ?_) (by first | trivial | simp [T.noSh, T.noShL, rat]) (fun _ => rfl) ?_
      · simp -implicitDefEqProofs only [agR, Nat.reduceLeDiff, Nat.reduceSub, vaR, go_sem, ints, rows, rat, rats, q0p1, rtR, intsO, q0qa]
      simp -implicitDefEqProofs only [go_sem, evR, ints, rows, rat, rats, hy]
      repeat (first | refine ⟨by omega, ?_⟩ | refine ⟨by rw [q0l0]; omega, ?_⟩)
      refine hn1 _ (u, z * y) (Weak.of _ [] [] (by simp) (by simp) ?_ trivial) ⟨hku.1, by show z * y * wayP g S pl c u = _; rw [← hz, hwp, Int.mul_assoc, Int.mul_comm y], d + 1, by show (wayL g.nd u).length + (d + 1) <= _; omega, zc, by show z * y <= pw (d + 1); rw [q0ol]; omega⟩ (by show u < j; omega)
      simp -implicitDefEqProofs only [ints, rows, Nat.reduceBEq, wkR, Nat.reduceEqDiff, ↓reduceIte, wrR, evL, nodes, wrap64 (n := z * y) (by omega) (by omega)]
    · rw [if_neg hxp, Int.mul_one] at hwp
      simp -implicitDefEqProofs only [go_sem, evR, ints, rows, rat, rats, evL, nodes, hup, q0ky hx, hpl2, decide_eq_true (show (j : Int) > 0 by omega), show (x.p == pl) = false by simp [hxp]]
      repeat (first | refine ⟨by omega, ?_⟩ | refine ⟨by rw [q0l0]; omega, ?_⟩)
      refine hn1 _ (u, z) (Weak.of _ [] [] (by simp) (by simp) ?_ trivial) ⟨hku.1, by rw [← hwp]; exact hz, d, by show (wayL g.nd u).length + d <= _; omega, z0, z1⟩ (by show u < j; omega)
      simp -implicitDefEqProofs only [ints, rows, Nat.reduceBEq, wkR, Nat.reduceEqDiff, ↓reduceIte, wrR, evL, nodes]
end

section
attribute [-go_sem] q0i5 q0id fldC lenC idxC q0ip q0lp
theorem q185 : Le (.agg [.i 0, .v (.slice none 0 0)]) (.agg [.i 0, q0qa []]) := .agg rfl fun i h h' => by
  match i with
  | 0 => exact .refl _
  | 1 => exact .nilArr 1
def ritO (r : (Int × List (List Int)) × (Int × List (List Int)) × Int) : T := .tup [.agg [.i r.1.1, q0qa r.1.2], .agg [.i r.2.1.1, q0qa r.2.1.2], .i r.2.2]
end
end Go.Ab

/- The bridge, part 5: bytes. -/
namespace Go.Ab

def bytes (cs : List Int) : T := .sh 1 (cs.map fun x => .v (.int .u8 x))
def q161 (cs : List Int) : Prop := ∀ c ∈ cs, 0 <= c /\ c <= 255
def q168 : Ty := .sl 1 (.int .u8)
theorem wf8 {n : Int} (h : (Lit.int .u8 n).wf = true) : 0 <= n /\ n <= 255 := by
  simp [Lit.wf, IntKind.min, IntKind.max, IntKind.signed, IntKind.bits] at h
  omega
theorem q166 : ∀ {xs : List (List T)}, (∀ x ∈ xs, x.length = 1 /\ (Ty.int .u8).wt x) -> ∃ l : List Int, xs.flatten = (l.map fun x => T.v (.int .u8 x)) /\ l.length = xs.length /\ q161 l
  | [], _ => ⟨[], rfl, rfl, fun x hx => by simp at hx⟩
  | x :: xs, h => by
    obtain ⟨l, hl, hlen, hf⟩ := q166 (xs := xs) fun y hy => h y (by simp [hy])
    obtain ⟨_, n, rfl, hw⟩ := h x (by simp)
    refine ⟨n :: l, by simp [hl], by simp [hlen], fun y hy => ?_⟩
    rcases List.mem_cons.1 hy with rfl | hy
    · exact wf8 hw
    · exact hf y hy
theorem q169 {x : T} (h : q168.wt [x]) : ∃ l : List Int, x = bytes l /\ l.length <= 9223372036854775807 /\ q161 l := by
  obtain ⟨xs, hx, hlen, hall⟩ := h
  obtain ⟨l, hl, hll, hf⟩ := q166 hall
  simp only [List.cons.injEq, and_true] at hx
  exact ⟨l, by rw [hx, hl]; rfl, by rw [hll]; exact hlen, hf⟩
end Go.Ab

/- Contracts: the source of drawn numbers. -/
namespace Go.Ab
open Go.Proofs

def srcT (cs : List Int) (a : Nat × Int) : T := .box [bytes cs, .i a.1, .i a.2]
def q0qx (a : Nat × Int) : Prop := 0 <= a.2 /\ a.2 < 2147483647 /\ a.1 <= 1000000000000
def q0za (l : List Int) : Int := l.foldl (fun s c => (s * 61 + c) % 2147483647) 45007
theorem q0zc (l : List Int) (c : Int) : q0za (l ++ [c]) = (q0za l * 61 + c) % 2147483647 := by simp [q0za, List.foldl_append]
theorem q0zb (l : List Int) : 0 <= q0za l /\ q0za l < 2147483647 := by
  rcases List.eq_nil_or_concat l with rfl | ⟨l, c, rfl⟩
  · decide
  · rw [List.concat_eq_append, q0zc]
    omega
def q10m (cs : List Int) (a : Nat × Int) (n : Int) : Int × (Nat × Int) :=
  if n <= 1 then (0, a) else
  let s := (a.2 * 48271 + 29) % 2147483647
  if a.1 < cs.length then ((if n <= 256 /\ (a.1 + 1) % 2 = 0 then cs.getD a.1 0 else s / 31 + cs.getD a.1 0) % n, (a.1 + 1, s)) else ((s / 31) % n, (a.1, s))
theorem q10n {cs : List Int} {a : Nat × Int} {n : Int} (hn : 1 <= n) : 0 <= (q10m cs a n).1 /\ (q10m cs a n).1 < n := by
  unfold q10m
  split
  · omega
  · split
    · exact ⟨Int.emod_nonneg _ (by omega), Int.emod_lt_of_pos _ (by omega)⟩
    · exact ⟨Int.emod_nonneg _ (by omega), Int.emod_lt_of_pos _ (by omega)⟩

theorem q11z (cs : List Int) (hc : q161 cs) (hl : cs.length <= 1000000000000) : Fun Try.prog 119 [] [.t (bytes cs)] fun o r => o = [] /\ r = srcT cs (0, q0za (cs.take 64)) := by
  refine q0zm (by simp) ?_
  simp -implicitDefEqProofs only [go_sem, evR, ints, rows, rat, rats, q0yh, bytes]
  refine SemC.loopR (σ := Nat) (fun i => St.of [(0, .t (bytes cs)), (3, .own 7), (4, .t (.i i))] [(7, .box [bytes cs, .i 0, .i (q0za (cs.take i))])]) (fun i => i <= 64 /\ i <= cs.length) (fun i => 64 - i) 0 (Weak.of _ _ [some 7] (by simp) (by simp) ?_ ?_) ⟨by omega, by omega⟩ fun i hi R hn hr he => ?_
  · simp -implicitDefEqProofs only [ints, rows, Nat.reduceBEq, wkR, Nat.reduceEqDiff, ↓reduceIte, wrR, bytes]
  · exact ⟨⟨_, rfl, .refl _⟩, rfl, trivial⟩
  · simp -implicitDefEqProofs only [go_sem, evR, ints, rows, rat, rats, bytes]
    refine ⟨fun h1 => ⟨fun h2 => ⟨by omega, by omega, by omega, fun c hcc => ⟨by decide, ?_⟩⟩, fun h2 => he _ _ ?_⟩, fun h1 => he _ _ ?_⟩
    · have hb := hc c (List.mem_of_getElem? hcc)
      have hf := q0zb (cs.take i)
      have e := q0zc (cs.take i) c
      rw [← q0uj hcc] at e
      have hw : (IntKind.i64.wrap (IntKind.i64.wrap (q0za (cs.take i) * 61) + IntKind.i64.wrap c)).tmod 2147483647 = q0za (cs.take (i + 1)) := by
        rw [wrap64 (n := c) (by omega) (by omega), wrap64 (n := q0za (cs.take i) * 61) (by omega) (by omega), wrap64 (n := q0za (cs.take i) * 61 + c) (by omega) (by omega), Int.tmod_eq_emod_of_nonneg (by omega), e]
      rw [hw]
      refine hn _ (i + 1) (Weak.of _ _ [some 7] (by simp) (by simp) ?_ ?_) ⟨by omega, by omega⟩ (by omega)
      · simp -implicitDefEqProofs only [ints, rows, Nat.reduceBEq, wkR, Nat.reduceEqDiff, ↓reduceIte, wrR, bytes, q0lb (by omega : i < cs.length) (by omega)]
      · exact ⟨⟨_, rfl, .refl _⟩, rfl, trivial⟩
    · simp -implicitDefEqProofs only [go_sem, evR, ints, rows, rat, rats, srcT, bytes]
      rw [show i = 64 by omega]; rfl
    · simp -implicitDefEqProofs only [go_sem, evR, ints, rows, rat, rats, srcT, bytes]
      have e : cs.take i = cs.take 64 := by rw [List.take_of_length_le (by omega), List.take_of_length_le (by omega)]
      rw [e]; rfl
set_option maxRecDepth 10000 in
theorem q120 (cs : List Int) (hc : q161 cs) (hl : cs.length <= 100000000000) (a : Nat × Int) (ha : q0qx a) (n : Int) (hn : n <= 1000000000000) : Fun Try.prog 126 [srcT cs a] [.own 1000000000, .t (.i n)] fun o r => o = [srcT cs (q10m cs a n).2] /\ r = .i (q10m cs a n).1 := by
  refine q0zn (by simp) ?_
  simp -implicitDefEqProofs only [go_sem, evR, ints, rows, rat, rats, q0yi, srcT, bytes]
  obtain ⟨a1, a2⟩ := a
  obtain ⟨h1, h2, h3⟩ := ha
  simp only [] at h1 h2 h3
  have hs : (IntKind.i64.wrap (IntKind.i64.wrap (a2 * 48271) + 29)).tmod 2147483647 = (a2 * 48271 + 29) % 2147483647 := by
    rw [wrap64 (n := a2 * 48271) (by omega) (by omega), wrap64 (n := a2 * 48271 + 29) (by omega) (by omega), Int.tmod_eq_emod_of_nonneg (by omega)]
  have hs1 := Int.emod_nonneg (a2 * 48271 + 29) (show (2147483647 : Int) ≠ 0 by decide)
  have hs2 := Int.emod_lt_of_pos (a2 * 48271 + 29) (show (0 : Int) < 2147483647 by decide)
  have hw1 : IntKind.i64.wrap ((a1 : Int) + 1) = ((a1 + 1 : Nat) : Int) := by rw [wrap64 (by omega) (by omega)]; omega
  have hw2 : IntKind.i64.wrap (((a1 + 1 : Nat) : Int) - 1) = (a1 : Int) := by rw [wrap64 (by omega) (by omega)]; omega
  simp only [hs, hw1, hw2, Int.toNat_natCast]
  have hnx : q10m cs (a1, a2) n = if n <= 1 then (0, (a1, a2)) else if a1 < cs.length then ((if n <= 256 /\ (a1 + 1) % 2 = 0 then cs.getD a1 0 else (a2 * 48271 + 29) % 2147483647 / 31 + cs.getD a1 0) % n, (a1 + 1, (a2 * 48271 + 29) % 2147483647)) else (((a2 * 48271 + 29) % 2147483647 / 31) % n, (a1, (a2 * 48271 + 29) % 2147483647)) := rfl
  generalize (a2 * 48271 + 29) % 2147483647 = s at hs1 hs2 hnx ⊢
  have hq : IntKind.i64.wrap (s.tdiv 31) = s / 31 := by rw [Int.tdiv_eq_ediv_of_nonneg hs1, wrap64 (by omega) (by omega)]
  have hq' : s.tdiv 31 = s / 31 := Int.tdiv_eq_ediv_of_nonneg hs1
  have hqs : IntKind.i64.wrap (s / 31) = s / 31 := wrap64 (by omega) (by omega)
  rw [hnx]
  by_cases hn1 : n <= 1
  · simp only [if_pos hn1]
    exact ⟨fun _ => by simp, fun h => absurd hn1 h⟩
  · simp only [if_neg hn1]
    refine ⟨fun h => absurd h hn1, fun _ => ⟨by decide, by decide, fun hl1 => ?_, fun hl1 => ?_⟩⟩
    · have hl2 : a1 < cs.length := by omega
      obtain ⟨c, hcc⟩ : ∃ c, cs[a1]? = some c := ⟨_, List.getElem?_eq_getElem hl2⟩
      have hcb := hc c (List.mem_of_getElem? hcc)
      have hg : cs.getD a1 0 = c := by rw [List.getD_eq_getElem?_getD, hcc]; rfl
      have hwc : IntKind.i64.wrap c = c := wrap64 (by omega) (by omega)
      simp only [if_pos hl2, hcc, hg, Option.some.injEq, forall_eq', hwc]
      have hws : IntKind.i64.wrap (s / 31 + c) = s / 31 + c := wrap64 (by omega) (by omega)
      simp only [hq', hqs, hws]
      refine ⟨by omega, by omega, by omega, fun h256 => ⟨by decide, fun he => ⟨by omega, by omega, by omega, by omega, by first | trivial | rfl, ?_⟩, fun he => ⟨by omega, by first | trivial | rfl, ?_⟩⟩, fun h256 => ⟨by omega, by first | trivial | rfl, ?_⟩⟩
      · rw [beq_iff_eq, Int.tmod_eq_emod_of_nonneg (by omega)] at he
        rw [if_pos ⟨h256, by omega⟩, Int.tmod_eq_emod_of_nonneg (by omega)]
      · rw [beq_eq_false_iff_ne, Int.tmod_eq_emod_of_nonneg (by omega)] at he
        rw [if_neg (by omega), Int.tmod_eq_emod_of_nonneg (by omega)]
      · rw [if_neg (by omega), Int.tmod_eq_emod_of_nonneg (by omega)]
    · have hl2 : ¬ a1 < cs.length := by omega
      simp only [if_neg hl2, hq', hqs]
      refine ⟨by omega, by first | trivial | rfl, ?_⟩
      rw [Int.tmod_eq_emod_of_nonneg (by omega)]

theorem q10o {cs : List Int} {a : Nat × Int} (hl : cs.length <= 100000000000) (ha : q0qx a) (n : Int) : q0qx (q10m cs a n).2 := by
  obtain ⟨h1, h2, h3⟩ := ha
  have hs1 := Int.emod_nonneg (a.2 * 48271 + 29) (show (2147483647 : Int) ≠ 0 by decide)
  have hs2 := Int.emod_lt_of_pos (a.2 * 48271 + 29) (show (0 : Int) < 2147483647 by decide)
  unfold q10m
  split
  · exact ⟨h1, h2, h3⟩
  · split
    · exact ⟨hs1, hs2, by show a.1 + 1 <= _; omega⟩
    · exact ⟨hs1, hs2, h3⟩
theorem q11l (l : List Int) : q0qx (0, q0za l) := ⟨(q0zb l).1, (q0zb l).2, Nat.zero_le _⟩
def q115 (cs : List Int) (a : Nat × Int) (l : List Int) : Int × (Nat × Int) := (l.getD (q10m cs a l.length).1.toNat 0, (q10m cs a l.length).2)
theorem q10p (cs : List Int) (hc : q161 cs) (hl : cs.length <= 100000000000) (a : Nat × Int) (ha : q0qx a) (n : Int) (hn : n <= 1000000000000) : Fun Try.prog 126 [.box [bytes cs, .i a.1, .i a.2]] [.own 1000000000, .t (.i n)] fun o r => o = [.box [bytes cs, .i (q10m cs a n).2.1, .i (q10m cs a n).2.2]] /\ r = .i (q10m cs a n).1 := q120 cs hc hl a ha n hn
theorem q116 {cs : List Int} {a : Nat × Int} (hl : cs.length <= 100000000000) (ha : q0qx a) (l : List Int) : q0qx (q115 cs a l).2 := q10o hl ha _
theorem q117 (cs : List Int) (hc : q161 cs) (hl : cs.length <= 100000000000) (a : Nat × Int) (ha : q0qx a) (l : List Int) (h1 : 1 <= l.length) (h2 : l.length <= 1000000) : Fun Try.prog 147 [.box [bytes cs, .i a.1, .i a.2], intsO l] [.own 1000000000, .own 1000000001] fun o r => o = [.box [bytes cs, .i (q115 cs a l).2.1, .i (q115 cs a l).2.2], intsO l] /\ r = .i (q115 cs a l).1 := by
  have hb := q10n (cs := cs) (a := a) (show (1 : Int) <= l.length by omega)
  obtain ⟨x, hx⟩ : ∃ x, l[(q10m cs a l.length).1.toNat]? = some x := ⟨_, List.getElem?_eq_getElem (show (q10m cs a l.length).1.toNat < l.length by omega)⟩
  have hg : (q115 cs a l).1 = x := by rw [q115, List.getD_eq_getElem?_getD, hx]; rfl
  refine q0zo (by simp) ?_
  simp -implicitDefEqProofs only [go_sem, evR, ints, rows, rat, rats, q0yj, intsO]
  refine q006.ref (q10p cs hc hl a ha l.length (by omega)) [1000000000] [] rfl Try.call126 (by simp) ?_ (by simp) ?_ (.inl rfl) ?_
  · simp -implicitDefEqProofs only [srR, Nat.reduceEqDiff, ↓reduceIte, ints, rows, intsO, q0qa]
  · simp -implicitDefEqProofs only [agR, Nat.reduceLeDiff, Nat.reduceSub, vaR, go_sem, ints, rows, rat, rats, q0p1, rtR, intsO, q0qa]
  simp -implicitDefEqProofs only [clR, Nat.reduceLeDiff, go_sem, evR, rat]
  refine ⟨by omega, by omega, by omega, fun y hy => ?_⟩
  rw [hx] at hy; cases hy
  exact ⟨rfl, by rw [hg]⟩
def LeL (l l' : List T) : Prop := l.length = l'.length /\ ∀ i (h : i < l.length) (h' : i < l'.length), Le l[i] l'[i]
theorem LeL.refl (l : List T) : LeL l l := ⟨rfl, fun _ _ _ => .refl _⟩
theorem LeL.cons {a a' : T} {l l' : List T} (h : Le a a') (h' : LeL l l') : LeL (a :: l) (a' :: l') := by
  refine ⟨by simp [h'.1], fun i q q' => ?_⟩
  cases i with
  | zero => exact h
  | succ i => simpa using h'.2 i (by simpa using q) (by simpa using q')
theorem LeL.append : ∀ {l l' m m' : List T}, LeL l l' -> LeL m m' -> LeL (l ++ m) (l' ++ m')
  | [], [], _, _, _, h => h
  | [], _ :: _, _, _, h, _ => absurd h.1 (by simp)
  | _ :: _, [], _, _, h, _ => absurd h.1 (by simp)
  | a :: l, a' :: l', m, m', h, h2 => LeL.cons (h.2 0 (by simp) (by simp)) (LeL.append ⟨by have := h.1; simpa using this, fun i q q' => by have := h.2 (i + 1) (by simpa using q) (by simpa using q'); simpa using this⟩ h2)
theorem LeL.arr {s : Nat} {l l' : List T} (h : LeL l l') : Le (.arr s l) (.arr s l') := .arr s h.1 h.2
def q0rx (b : Nat) (l : List Nd) : Prop := l.length <= b /\ ∀ x ∈ l, x.ch.length <= 8
theorem q0yv : ∀ (l : List Nd) (i : Nat) (x : Nd) (ch : List Int), l[i]? = some x -> (chunk q0lv l).set (i * 5 + 4) (intsO ch) = chunk q0lv (l.set i ⟨x.p, x.a, x.b, x.f, ch⟩)
  | [], i, x, ch, h => by simp at h
  | a :: l, 0, x, ch, h => by
    simp at h; subst h
    rw [q069, List.set_cons_zero, q069]; rfl
  | a :: l, i + 1, x, ch, h => by
    rw [q069, List.set_append_right _ _ (by rw [q0lw]; omega), q0lw, show (i + 1) * 5 + 4 - 5 = i * 5 + 4 by omega, q0yv l i x ch (by simpa using h), List.set_cons_succ, q069]
theorem q11s {b : Nat} {l : List Nd} (h : q0rx b l) (i : Nat) (x : Nd) (hx : x.ch.length <= 8) : q0rx b (l.set i x) := by
  refine ⟨by rw [List.length_set]; exact h.1, fun y hy => ?_⟩
  rcases List.mem_or_eq_of_mem_set hy with hy | rfl
  · exact h.2 y hy
  · exact hx
section
attribute [-go_sem] q0i5 q0id fldC lenC idxC q0ip
theorem q125 (bet : Int) (hb : 1 <= bet /\ bet <= 1000) (B : Nat) (hB : B <= 1000) (M : Int) (hM : M <= 10000) : ∀ (r : Nat), r <= 2 -> ∀ (l : List Nd) (pl p0 p1 : Int) (ck : Bool), q0rx B l -> l.length + 3 * (r + 1) <= B -> (pl = 0 /\ p0 < p1 ∨ pl = 1 /\ p1 < p0) -> 0 <= p0 -> 0 <= p1 -> p0 + 1000 * (r : Int) <= M -> p1 + 1000 * (r : Int) <= M →
    ∃ l' : List Nd, q0rx (l.length + 3 * (r + 1)) l' /\ l.length < l'.length /\ Fun Try.prog 217 [q0m0 l] [.own 1000000000, .t (.i pl), .t (.i p0), .t (.i p1), .t (.i bet), .t (.i r), .t (.b ck)] fun o res => o = [.any] /\ res = q0m0 l'
  | 0, hr, l, pl, p0, p1, ck, hl, hlB, hp, q0, q1, q2, q3 => by
    have hfin : ∀ (a b : Int) (ch : List Int), ch.length <= 8 -> Fun Try.prog 217 [q0m0 l] [.own 1000000000, .t (.i pl), .t (.i p0), .t (.i p1), .t (.i bet), .t (.i (0 : Nat)), .t (.b ck)] (fun o res => o = [.any] /\ res = .arr 5 (chunk q0lv l ++ [.i pl, .i p0, .i p1, .i (-1), intsO ch] ++ [.i 2, .i p0, .i p1, .i pl, .v (.slice none 0 0)] ++ [.i 2, .i a, .i b, .i (-1), .v (.slice none 0 0)])) →
        ∃ l' : List Nd, q0rx (l.length + 3 * (0 + 1)) l' /\ l.length < l'.length /\ Fun Try.prog 217 [q0m0 l] [.own 1000000000, .t (.i pl), .t (.i p0), .t (.i p1), .t (.i bet), .t (.i (0 : Nat)), .t (.b ck)] fun o res => o = [.any] /\ res = q0m0 l' := fun a b ch hch hF => by
      refine ⟨l ++ [⟨pl, p0, p1, -1, ch⟩, ⟨2, p0, p1, pl, []⟩, ⟨2, a, b, -1, []⟩], ⟨by simp, fun x hx => ?_⟩, by simp, Fun.le hF ?_⟩
      · simp only [List.mem_append, List.mem_cons, List.not_mem_nil, or_false] at hx
        rcases hx with hx | rfl | rfl | rfl
        · exact hl.2 x hx
        · exact hch
        · simp
        · simp
      · rintro o res ⟨rfl, rfl⟩
        refine ⟨_, ?_, rfl, rfl⟩
        rw [q0m0, q067]
        refine LeL.arr ?_
        rw [List.append_assoc, List.append_assoc]
        refine LeL.append (.refl _) ?_
        exact LeL.cons (.refl _) (LeL.cons (.refl _) (LeL.cons (.refl _) (LeL.cons (.refl _) (LeL.cons (.refl _) (LeL.cons (.refl _) (LeL.cons (.refl _) (LeL.cons (.refl _) (LeL.cons (.refl _) (LeL.cons (.nilArr 1) (LeL.cons (.refl _) (LeL.cons (.refl _) (LeL.cons (.refl _) (LeL.cons (.refl _) (LeL.cons (.nilArr 1) (.refl _)))))))))))))))
    have hnl : (chunk q0lv l).length / 5 = l.length := q06a q0lw (by decide) l
    have hnl5 : (chunk q0lv l).length = l.length * 5 := q06d q0lw l
    have hl1 := hl.1
    have hset : ∀ (x y : List T) (c d : T) (z : List T), x.length = l.length * 5 -> y.length = 4 -> (x ++ (y ++ c :: z)).set (l.length * 5 + 4) d = x ++ (y ++ d :: z) := fun x y c d z h1 h2 => by
      rw [List.set_append_right _ _ (by omega), List.set_append_right _ _ (by omega), show l.length * 5 + 4 - x.length - y.length = 0 by omega, List.set_cons_zero]
    rcases hp with ⟨rfl, hp⟩ | ⟨rfl, hp⟩
    · refine hfin p1 p1 [((l.length * 5 + 5) / 5 : Nat), ((l.length * 5 + 5 + 5) / 5 : Nat)] (by simp) ?_
      refine q0zr (by simp) ?_
      simp -implicitDefEqProofs only [go_sem, evR, ints, rows, rat, rats, q0ym, q0m0, hnl, hnl5, decide_eq_true hp, (show ((0 : Int) == 1) = false from rfl), (show (((0 : Nat) : Int) == 0) = true from rfl), List.length_append, List.length_cons, List.length_nil, Bool.false_eq_true, false_implies, forall_const, true_and]
      refine ⟨by omega, by omega, by omega, by omega, by omega, by omega, ?_⟩
      rw [show l.length * 5 / 5 * 5 + 4 = l.length * 5 + 4 by omega, List.append_assoc, List.append_assoc, List.append_assoc, List.append_assoc]
      congr 1
      exact hset (chunk q0lv l) [T.i 0, T.i p0, T.i p1, T.i (-1)] _ _ _ hnl5 rfl
    · refine hfin p0 p0 [((l.length * 5 + 5) / 5 : Nat), ((l.length * 5 + 5 + 5) / 5 : Nat)] (by simp) ?_
      refine q0zr (by simp) ?_
      simp -implicitDefEqProofs only [go_sem, evR, ints, rows, rat, rats, q0ym, q0m0, hnl, hnl5, decide_eq_true hp, (show ((1 : Int) == 1) = true from rfl), (show (((0 : Nat) : Int) == 0) = true from rfl), List.length_append, List.length_cons, List.length_nil, Bool.false_eq_true, false_implies, forall_const, true_and]
      refine ⟨by omega, by omega, by omega, by omega, by omega, by omega, ?_⟩
      rw [show l.length * 5 / 5 * 5 + 4 = l.length * 5 + 4 by omega, List.append_assoc, List.append_assoc, List.append_assoc, List.append_assoc]
      congr 1
      exact hset (chunk q0lv l) [T.i 1, T.i p0, T.i p1, T.i (-1)] _ _ _ hnl5 rfl
  | r + 1, hr, l, pl, p0, p1, ck, hl, hlB, hp, q0, q1, q2, q3 => by
    have hnl : (chunk q0lv l).length / 5 = l.length := q06a q0lw (by decide) l
    have hnl5 : (chunk q0lv l).length = l.length * 5 := q06d q0lw l
    have hl1 := hl.1
    have hr0 : (((r + 1 : Nat) : Int) == 0) = false := by simp; omega
    rcases hp with ⟨rfl, hp⟩ | ⟨rfl, hp⟩
    · obtain ⟨l', hl2, hl3, hrec⟩ := q125 bet hb B hB M hM r (by omega) (l ++ [⟨0, p0, p1, -1, []⟩, ⟨2, p0, p1, 0, []⟩, ⟨2, p1, p1, -1, []⟩]) 1 (p1 + bet) p1 false ⟨by simp; omega, fun x hx => by
        simp only [List.mem_append, List.mem_cons, List.not_mem_nil, or_false] at hx
        rcases hx with hx | rfl | rfl | rfl
        · exact hl.2 x hx
        all_goals simp⟩ (by simp; omega) (.inr ⟨rfl, by omega⟩) (by omega) q1 (by omega) (by omega)
      simp only [List.length_append, List.length_cons, List.length_nil] at hl2 hl3
      have hnl' : (chunk q0lv l').length = l'.length * 5 := q06d q0lw l'
      obtain ⟨z, hz⟩ : ∃ z, l'[l.length]? = some z := ⟨_, List.getElem?_eq_getElem (by omega)⟩
      refine ⟨l'.set l.length ⟨z.p, z.a, z.b, z.f, [((l.length * 5 + 5) / 5 : Nat), ((l.length * 5 + 5 + 5) / 5 : Nat), ((l.length * 5 + 5 + 5 + 5) / 5 : Nat)]⟩, q11s ⟨by have := hl2.1; omega, hl2.2⟩ _ _ (by simp), by rw [List.length_set]; omega, ?_⟩
      refine q0zr (by simp) ?_
      simp -implicitDefEqProofs only [go_sem, evR, ints, rows, rat, rats, q0ym, q0m0, hnl, hnl5, decide_eq_true hp, (show ((0 : Int) == 1) = false from rfl), (show ((0 : Int) == 0) = true from rfl), hr0, List.length_append, List.length_cons, List.length_nil, Bool.false_eq_true, false_implies, forall_const, true_and]
      have hq : l.length * 5 / 5 = l.length := by omega
      have hw0 : IntKind.i64.wrap (1 - 0) = 1 := by decide
      have hw1 : IntKind.i64.wrap (p1 + bet) = p1 + bet := wrap64 (by omega) (by omega)
      have hw2 : IntKind.i64.wrap (((r + 1 : Nat) : Int) - 1) = (r : Int) := by rw [wrap64 (by omega) (by omega)]; omega
      refine ⟨by omega, by omega, by omega, ?_⟩
      simp only [hw0, hw1, hw2, hq]
      refine q006.weak (Weak.le 66 (t' := q0m0 (l ++ [⟨0, p0, p1, -1, []⟩, ⟨2, p0, p1, 0, []⟩, ⟨2, p1, p1, -1, []⟩])) rfl ?_ rfl) ?_
      · rw [q0m0, q067, List.append_assoc, List.append_assoc]
        refine LeL.arr (LeL.append (.refl _) ?_)
        exact LeL.cons (.refl _) (LeL.cons (.refl _) (LeL.cons (.refl _) (LeL.cons (.refl _) (LeL.cons (.nilArr 1) (LeL.cons (.refl _) (LeL.cons (.refl _) (LeL.cons (.refl _) (LeL.cons (.refl _) (LeL.cons (.nilArr 1) (LeL.cons (.refl _) (LeL.cons (.refl _) (LeL.cons (.refl _) (LeL.cons (.refl _) (LeL.cons (.nilArr 1) (.refl _)))))))))))))))
      refine q006.ref hrec [66] [] rfl Try.call217 (by simp) ?_ (by simp) ?_ (.inl rfl) ?_
      · simp -implicitDefEqProofs only [srR, Nat.reduceEqDiff, ↓reduceIte, ints, rows, intsO, q0qa]
      · simp -implicitDefEqProofs only [agR, Nat.reduceLeDiff, Nat.reduceSub, vaR, go_sem, ints, rows, rat, rats, q0p1, rtR, intsO, q0qa]
      simp -implicitDefEqProofs only [clR, Nat.reduceLeDiff, go_sem, evR, rat, q0m0]
      refine ⟨by omega, by omega, by omega, ?_⟩
      rw [← q0yv l' l.length z _ hz]; rfl
    · obtain ⟨l', hl2, hl3, hrec⟩ := q125 bet hb B hB M hM r (by omega) (l ++ [⟨1, p0, p1, -1, []⟩, ⟨2, p0, p1, 1, []⟩, ⟨2, p0, p0, -1, []⟩]) 0 p0 (p0 + bet) false ⟨by simp; omega, fun x hx => by
        simp only [List.mem_append, List.mem_cons, List.not_mem_nil, or_false] at hx
        rcases hx with hx | rfl | rfl | rfl
        · exact hl.2 x hx
        all_goals simp⟩ (by simp; omega) (.inl ⟨rfl, by omega⟩) q0 (by omega) (by omega) (by omega)
      simp only [List.length_append, List.length_cons, List.length_nil] at hl2 hl3
      have hnl' : (chunk q0lv l').length = l'.length * 5 := q06d q0lw l'
      obtain ⟨z, hz⟩ : ∃ z, l'[l.length]? = some z := ⟨_, List.getElem?_eq_getElem (by omega)⟩
      refine ⟨l'.set l.length ⟨z.p, z.a, z.b, z.f, [((l.length * 5 + 5) / 5 : Nat), ((l.length * 5 + 5 + 5) / 5 : Nat), ((l.length * 5 + 5 + 5 + 5) / 5 : Nat)]⟩, q11s ⟨by have := hl2.1; omega, hl2.2⟩ _ _ (by simp), by rw [List.length_set]; omega, ?_⟩
      refine q0zr (by simp) ?_
      simp -implicitDefEqProofs only [go_sem, evR, ints, rows, rat, rats, q0ym, q0m0, hnl, hnl5, decide_eq_true hp, (show ((1 : Int) == 1) = true from rfl), (show ((1 : Int) == 0) = false from rfl), hr0, List.length_append, List.length_cons, List.length_nil, Bool.false_eq_true, false_implies, forall_const, true_and]
      have hq : l.length * 5 / 5 = l.length := by omega
      have hw0 : IntKind.i64.wrap (1 - 1) = 0 := by decide
      have hw1 : IntKind.i64.wrap (p0 + bet) = p0 + bet := wrap64 (by omega) (by omega)
      have hw2 : IntKind.i64.wrap (((r + 1 : Nat) : Int) - 1) = (r : Int) := by rw [wrap64 (by omega) (by omega)]; omega
      refine ⟨by omega, by omega, by omega, ?_⟩
      simp only [hw0, hw1, hw2, hq]
      refine q006.weak (Weak.le 66 (t' := q0m0 (l ++ [⟨1, p0, p1, -1, []⟩, ⟨2, p0, p1, 1, []⟩, ⟨2, p0, p0, -1, []⟩])) rfl ?_ rfl) ?_
      · rw [q0m0, q067, List.append_assoc, List.append_assoc]
        refine LeL.arr (LeL.append (.refl _) ?_)
        exact LeL.cons (.refl _) (LeL.cons (.refl _) (LeL.cons (.refl _) (LeL.cons (.refl _) (LeL.cons (.nilArr 1) (LeL.cons (.refl _) (LeL.cons (.refl _) (LeL.cons (.refl _) (LeL.cons (.refl _) (LeL.cons (.nilArr 1) (LeL.cons (.refl _) (LeL.cons (.refl _) (LeL.cons (.refl _) (LeL.cons (.refl _) (LeL.cons (.nilArr 1) (.refl _)))))))))))))))
      refine q006.ref hrec [66] [] rfl Try.call217 (by simp) ?_ (by simp) ?_ (.inl rfl) ?_
      · simp -implicitDefEqProofs only [srR, Nat.reduceEqDiff, ↓reduceIte, ints, rows, intsO, q0qa]
      · simp -implicitDefEqProofs only [agR, Nat.reduceLeDiff, Nat.reduceSub, vaR, go_sem, ints, rows, rat, rats, q0p1, rtR, intsO, q0qa]
      simp -implicitDefEqProofs only [clR, Nat.reduceLeDiff, go_sem, evR, rat, q0m0]
      refine ⟨by omega, by omega, by omega, ?_⟩
      rw [← q0yv l' l.length z _ hz]; rfl
theorem q124 (bet : Int) (hb : 1 <= bet /\ bet <= 1000) (r : Nat) (hr : r <= 2) (l : List Nd) (pl p : Int) (hl : q0rx 900 l) (hp : pl = 0 ∨ pl = 1) (q0 : 0 <= p) (q1 : p <= 1000) :
    ∃ l' : List Nd, q0rx (l.length + 2 + 3 * (r + 1)) l' /\ l.length < l'.length /\ Fun Try.prog 217 [q0m0 l] [.own 1000000000, .t (.i pl), .t (.i p), .t (.i p), .t (.i bet), .t (.i r), .t (.b true)] fun o res => o = [.any] /\ res = q0m0 l' := by
  have hnl : (chunk q0lv l).length / 5 = l.length := q06a q0lw (by decide) l
  have hnl5 : (chunk q0lv l).length = l.length * 5 := q06d q0lw l
  have hl1 := hl.1
  have hq : l.length * 5 / 5 = l.length := by omega
  have hw1 : IntKind.i64.wrap (p + bet) = p + bet := wrap64 (by omega) (by omega)
  rcases hp with rfl | rfl
  · obtain ⟨l', hl2, hl3, hrec⟩ := q125 bet hb 1000 (by omega) 10000 (by omega) r hr (l ++ [⟨0, p, p, -1, []⟩, ⟨2, p, p, -1, []⟩]) 1 (p + bet) p false ⟨by simp; omega, fun x hx => by
      simp only [List.mem_append, List.mem_cons, List.not_mem_nil, or_false] at hx
      rcases hx with hx | rfl | rfl
      · exact hl.2 x hx
      all_goals simp⟩ (by simp; omega) (.inr ⟨rfl, by omega⟩) (by omega) q0 (by omega) (by omega)
    simp only [List.length_append, List.length_cons, List.length_nil] at hl2 hl3
    have hnl' : (chunk q0lv l').length = l'.length * 5 := q06d q0lw l'
    obtain ⟨z, hz⟩ : ∃ z, l'[l.length]? = some z := ⟨_, List.getElem?_eq_getElem (by omega)⟩
    refine ⟨l'.set l.length ⟨z.p, z.a, z.b, z.f, [((l.length * 5 + 5) / 5 : Nat), ((l.length * 5 + 5 + 5) / 5 : Nat)]⟩, q11s ⟨by have := hl2.1; omega, hl2.2⟩ _ _ (by simp), by rw [List.length_set]; omega, ?_⟩
    refine q0zr (by simp) ?_
    have hw0 : IntKind.i64.wrap (1 - 0) = 1 := by decide
    simp -implicitDefEqProofs only [go_sem, evR, ints, rows, rat, rats, q0ym, q0m0, hnl, hnl5, decide_eq_false (show ¬ p < p by omega), (show ((0 : Int) == 1) = false from rfl), (show ((0 : Int) == 0) = true from rfl), List.length_append, List.length_cons, List.length_nil, Bool.false_eq_true, false_implies, forall_const, true_and]
    refine ⟨by omega, by omega, ?_⟩
    simp only [hw0, hw1, hq]
    refine q006.weak (Weak.le 84 (t' := q0m0 (l ++ [⟨0, p, p, -1, []⟩, ⟨2, p, p, -1, []⟩])) rfl ?_ rfl) ?_
    · rw [q0m0, q067, List.append_assoc]
      refine LeL.arr (LeL.append (.refl _) ?_)
      exact LeL.cons (.refl _) (LeL.cons (.refl _) (LeL.cons (.refl _) (LeL.cons (.refl _) (LeL.cons (.nilArr 1) (LeL.cons (.refl _) (LeL.cons (.refl _) (LeL.cons (.refl _) (LeL.cons (.refl _) (LeL.cons (.nilArr 1) (.refl _))))))))))
    refine q006.ref hrec [84] [] rfl Try.call217 (by simp) ?_ (by simp) ?_ (.inl rfl) ?_
    · simp -implicitDefEqProofs only [srR, Nat.reduceEqDiff, ↓reduceIte, ints, rows, intsO, q0qa]
    · simp -implicitDefEqProofs only [agR, Nat.reduceLeDiff, Nat.reduceSub, vaR, go_sem, ints, rows, rat, rats, q0p1, rtR, intsO, q0qa]
    simp -implicitDefEqProofs only [clR, Nat.reduceLeDiff, go_sem, evR, rat, q0m0]
    refine ⟨by omega, by omega, by omega, ?_⟩
    rw [← q0yv l' l.length z _ hz]; rfl
  · obtain ⟨l', hl2, hl3, hrec⟩ := q125 bet hb 1000 (by omega) 10000 (by omega) r hr (l ++ [⟨1, p, p, -1, []⟩, ⟨2, p, p, -1, []⟩]) 0 p (p + bet) false ⟨by simp; omega, fun x hx => by
      simp only [List.mem_append, List.mem_cons, List.not_mem_nil, or_false] at hx
      rcases hx with hx | rfl | rfl
      · exact hl.2 x hx
      all_goals simp⟩ (by simp; omega) (.inl ⟨rfl, by omega⟩) q0 (by omega) (by omega) (by omega)
    simp only [List.length_append, List.length_cons, List.length_nil] at hl2 hl3
    have hnl' : (chunk q0lv l').length = l'.length * 5 := q06d q0lw l'
    obtain ⟨z, hz⟩ : ∃ z, l'[l.length]? = some z := ⟨_, List.getElem?_eq_getElem (by omega)⟩
    refine ⟨l'.set l.length ⟨z.p, z.a, z.b, z.f, [((l.length * 5 + 5) / 5 : Nat), ((l.length * 5 + 5 + 5) / 5 : Nat)]⟩, q11s ⟨by have := hl2.1; omega, hl2.2⟩ _ _ (by simp), by rw [List.length_set]; omega, ?_⟩
    refine q0zr (by simp) ?_
    have hw0 : IntKind.i64.wrap (1 - 1) = 0 := by decide
    simp -implicitDefEqProofs only [go_sem, evR, ints, rows, rat, rats, q0ym, q0m0, hnl, hnl5, decide_eq_false (show ¬ p < p by omega), (show ((1 : Int) == 1) = true from rfl), (show ((1 : Int) == 0) = false from rfl), List.length_append, List.length_cons, List.length_nil, Bool.false_eq_true, false_implies, forall_const, true_and]
    refine ⟨by omega, by omega, ?_⟩
    simp only [hw0, hw1, hq]
    refine q006.weak (Weak.le 84 (t' := q0m0 (l ++ [⟨1, p, p, -1, []⟩, ⟨2, p, p, -1, []⟩])) rfl ?_ rfl) ?_
    · rw [q0m0, q067, List.append_assoc]
      refine LeL.arr (LeL.append (.refl _) ?_)
      exact LeL.cons (.refl _) (LeL.cons (.refl _) (LeL.cons (.refl _) (LeL.cons (.refl _) (LeL.cons (.nilArr 1) (LeL.cons (.refl _) (LeL.cons (.refl _) (LeL.cons (.refl _) (LeL.cons (.refl _) (LeL.cons (.nilArr 1) (.refl _))))))))))
    refine q006.ref hrec [84] [] rfl Try.call217 (by simp) ?_ (by simp) ?_ (.inl rfl) ?_
    · simp -implicitDefEqProofs only [srR, Nat.reduceEqDiff, ↓reduceIte, ints, rows, intsO, q0qa]
    · simp -implicitDefEqProofs only [agR, Nat.reduceLeDiff, Nat.reduceSub, vaR, go_sem, ints, rows, rat, rats, q0p1, rtR, intsO, q0qa]
    simp -implicitDefEqProofs only [clR, Nat.reduceLeDiff, go_sem, evR, rat, q0m0]
    refine ⟨by omega, by omega, by omega, ?_⟩
    rw [← q0yv l' l.length z _ hz]; rfl
theorem q123 (bet : Int) (hb : 1 <= bet /\ bet <= 1000) (r : Nat) (hr : r <= 2) (p : Int) (q0 : 0 <= p) (q1 : p <= 1000) :
    ∃ l' : List Nd, q0rx 100 l' /\ 0 < l'.length /\ Fun Try.prog 217 [] [.t (.v (.slice none 0 0)), .t (.i 0), .t (.i p), .t (.i p), .t (.i bet), .t (.i r), .t (.b false)] fun o res => o = [] /\ res = q0m0 l' := by
  obtain ⟨l1, hl2, hl3, hC⟩ := q124 bet hb r hr [⟨0, p, p, -1, []⟩] 1 p ⟨by simp, by simp⟩ (.inr rfl) q0 q1
  simp only [List.length_cons, List.length_nil] at hl2 hl3
  have h1 := hl2.1
  obtain ⟨l2, hl5, hl6, hrec⟩ := q125 bet hb 1000 (by omega) 10000 (by omega) r hr l1 1 (p + bet) p false ⟨by omega, hl2.2⟩ (by omega) (.inr ⟨rfl, by omega⟩) (by omega) q0 (by omega) (by omega)
  have hnl' : (chunk q0lv l2).length = l2.length * 5 := q06d q0lw l2
  obtain ⟨z, hz⟩ : ∃ z, l2[0]? = some z := ⟨_, List.getElem?_eq_getElem (by omega)⟩
  refine ⟨l2.set 0 ⟨z.p, z.a, z.b, z.f, [1, ((chunk q0lv l1).length / 5 : Nat)]⟩, q11s ⟨by have := hl5.1; omega, hl5.2⟩ _ _ (by simp), by rw [List.length_set]; omega, ?_⟩
  refine q0zr (by simp) ?_
  have hw1 : IntKind.i64.wrap (p + bet) = p + bet := wrap64 (by omega) (by omega)
  have hw0 : IntKind.i64.wrap (1 - 0) = 1 := by decide
  simp -implicitDefEqProofs only [go_sem, evR, ints, rows, rat, rats, q0ym, q0m0, decide_eq_false (show ¬ p < p by omega), (show ((0 : Int) == 1) = false from rfl), (show ((0 : Int) == 0) = true from rfl), List.length_append, List.length_cons, List.length_nil, Bool.false_eq_true, false_implies, forall_const, true_and]
  simp only [hw0]
  refine q006.weak (Weak.le 27 (t' := q0m0 [⟨0, p, p, -1, []⟩]) rfl ?_ rfl) ?_
  · exact LeL.arr (LeL.cons (.refl _) (LeL.cons (.refl _) (LeL.cons (.refl _) (LeL.cons (.refl _) (LeL.cons (.nilArr 1) (.refl _))))))
  refine q006.ref hC [27] [] rfl Try.call217 (by simp) ?_ (by simp) ?_ (.inl rfl) ?_
  · simp -implicitDefEqProofs only [srR, Nat.reduceEqDiff, ↓reduceIte, ints, rows, intsO, q0qa]
  · simp -implicitDefEqProofs only [agR, Nat.reduceLeDiff, Nat.reduceSub, vaR, go_sem, ints, rows, rat, rats, q0p1, rtR, intsO, q0qa]
  simp -implicitDefEqProofs only [clR, Nat.reduceLeDiff, go_sem, evR, rat, q0m0, (show ((0 : Int) == 0) = true from rfl), forall_const, Bool.false_eq_true, false_implies, true_and]
  simp only [hw0, hw1]
  simp only [q0m0] at hrec
  refine q006.ref hrec [44] [] rfl Try.call217 (by simp) ?_ (by simp) ?_ (.inl rfl) ?_
  · simp -implicitDefEqProofs only [srR, Nat.reduceEqDiff, ↓reduceIte, ints, rows, intsO, q0qa]
  · simp -implicitDefEqProofs only [agR, Nat.reduceLeDiff, Nat.reduceSub, vaR, go_sem, ints, rows, rat, rats, q0p1, rtR, intsO, q0qa]
  simp -implicitDefEqProofs only [clR, Nat.reduceLeDiff, go_sem, evR, rat]
  refine ⟨by omega, by omega, ?_⟩
  rw [← q0yv l2 0 z _ hz]; rfl
theorem q11u (ante bet : Int) (r : Nat) (h0 : 0 <= ante) (h1 : ante <= 20) (b0 : 1 <= bet) (b1 : bet <= 20) (hr : r <= 1) :
    ∃ l' : List Nd, q0rx 100 l' /\ 0 < l'.length /\ Fun Try.prog 184 [] [.t (.i ante), .t (.i bet), .t (.i r)] fun o res => o = [] /\ res = .tup [.agg [q0m0 l'], .i 0] := by
  obtain ⟨l', h1', h2', hG⟩ := q123 bet (by omega) r (by omega) ante h0 (by omega)
  refine ⟨l', h1', h2', ?_⟩
  refine q0zh (by simp) ?_
  simp -implicitDefEqProofs only [go_sem, evR, ints, rows, rat, rats, q0yc]
  have e1 : decide (0 <= ante /\ ante <= 100) = true := decide_eq_true (by omega)
  have e2 : decide (1 <= bet /\ bet <= 100) = true := decide_eq_true (by omega)
  have e3 : decide ((0 : Int) <= (r : Int) /\ (r : Int) <= 2) = true := decide_eq_true (by omega)
  refine q006.pure (q0s4 ante 0 100) [] rfl Try.call148 ?_ (by first | trivial | simp [T.noSh, T.noShL, rat]) rfl ?_
  · simp -implicitDefEqProofs only [agR, Nat.reduceLeDiff, Nat.reduceSub, vaR, go_sem, ints, rows, rat, rats, q0p1, rtR, intsO, q0qa]
  simp -implicitDefEqProofs only [go_sem, evR, ints, rows, rat, rats, e1, Bool.not_true]
  refine q006.pure (q0s4 bet 1 100) [] rfl Try.call148 ?_ (by first | trivial | simp [T.noSh, T.noShL, rat]) rfl ?_
  · simp -implicitDefEqProofs only [agR, Nat.reduceLeDiff, Nat.reduceSub, vaR, go_sem, ints, rows, rat, rats, q0p1, rtR, intsO, q0qa]
  simp -implicitDefEqProofs only [go_sem, evR, ints, rows, rat, rats, e2, Bool.not_true]
  refine q006.pure (q0s4 r 0 2) [] rfl Try.call148 ?_ (by first | trivial | simp [T.noSh, T.noShL, rat]) rfl ?_
  · simp -implicitDefEqProofs only [agR, Nat.reduceLeDiff, Nat.reduceSub, vaR, go_sem, ints, rows, rat, rats, q0p1, rtR, intsO, q0qa]
  simp -implicitDefEqProofs only [go_sem, evR, ints, rows, rat, rats, e3, Bool.not_true]
  have hm : 0 <= bet * ((r : Int) + 1) /\ bet * ((r : Int) + 1) <= 40 := by
    have : (r : Int) = 0 ∨ (r : Int) = 1 := by omega
    rcases this with h | h <;> rw [h] <;> omega
  have hw1 : IntKind.i64.wrap ((r : Int) + 1) = (r : Int) + 1 := wrap64 (by omega) (by omega)
  have hw2 : IntKind.i64.wrap (bet * ((r : Int) + 1)) = bet * ((r : Int) + 1) := wrap64 (by omega) (by omega)
  have hw3 : IntKind.i64.wrap (ante + bet * ((r : Int) + 1)) = ante + bet * ((r : Int) + 1) := wrap64 (by omega) (by omega)
  simp only [hw1, hw2, hw3]
  refine ⟨fun h => by omega, fun _ => ?_⟩
  refine q006.res hG [] rfl Try.call217 ?_ (.inl rfl) ?_
  · simp -implicitDefEqProofs only [agR, Nat.reduceLeDiff, Nat.reduceSub, vaR, go_sem, ints, rows, rat, rats, q0p1, rtR, intsO, q0qa]
  simp -implicitDefEqProofs only [clR, Nat.reduceLeDiff, go_sem, evR, rat, q0m0]
end
end Go.Ab
