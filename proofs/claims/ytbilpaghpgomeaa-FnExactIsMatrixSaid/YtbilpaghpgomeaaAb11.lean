/- The abstract layer, part 11: append on an owned slice. -/
import Derived.Test.YtbilpaghpgomeaaAb10
set_option linter.unusedSimpArgs false
set_option linter.unusedVariables false
namespace Go.Ab

/-- The slice that is appended to: nil, or the whole of a root, which is spent. -/
def baseW (S : St) (x : A) (z : Nat) (K : List T → St → Prop) : Prop :=
  match x with
  | .t (.v (.slice none 0 0)) => K [] S
  | .own r => (match S.roots r with
    | .live (.arr s l) [] => s = z ∧ K l { S with roots := upd S.roots r .dead }
    | _ => False)
  | _ => False

/-- What is appended: the cells of a slice; of an owned one whose cells own something, its content. -/
def srcW (S : St) (x : A) (z : Nat) (K : List T → St → Prop) : Prop :=
  match x with
  | .t (.v (.slice none 0 0)) => K [] S
  | .t (.sh s l) => (s = z ∨ (l = [] ∧ 0 < s)) ∧ l.all T.cell = true ∧ K l S
  | .own q => (match S.roots q with
    | .live (.arr s l) [] => (s = z ∨ (l = [] ∧ 0 < s)) ∧ l.all T.cell = true ∧ K l (if l.all T.flat then S else { S with roots := upd S.roots q .dead })
    | _ => False)
  | .sub q off m => (match S.roots q with
    | .live (.arr s l) [] => s = z ∧ off + m * z ≤ l.length ∧ ((l.drop off).take (m * z)).all T.cell = true ∧ ((l.drop off).take (m * z)).all T.flat = true ∧ K ((l.drop off).take (m * z)) S
    | _ => False)
  | _ => False

def appendK2 (d z eb : Nat) (K : St → Prop) (olds : List T) (news : List T) (S : St) : Prop :=
  (olds.length + news.length) * eb ≤ z * 140737488355328 ∧ newK d (.arr z) K (olds ++ news) S
def appendK1 (x : A) (d z eb : Nat) (K : St → Prop) (olds : List T) (S : St) : Prop := srcW S x z (appendK2 d z eb K olds)

def appendW (P : Program) (t : TypeId) (b x : A) (d : Nat) (S : St) (K : St → Prop) : Prop :=
  match tyEs P t, tyEb P t with
  | some z, some eb => 0 < z ∧ 0 < eb ∧ baseW S b z (appendK1 x d z eb K)
  | _, _ => False

section
variable {P : Program} {n : Nat} {S : St} {K : St → Prop} {X : Nat → Prop} {w0 : World} {O0 : Fr} {a : Act} {w : World} {hs : Nat → Option Value} {fp : Nat → List Nat}

theorem base_spec (g : Good X w0 O0 n S a w hs fp) {x : A} {v : Value} {z : Nat} {K : List T → St → Prop} (hz : 0 < z) (hx : Is w (Ob X fp) hs x v) (h : baseW S x z K) :
    ∃ (olds : List T) (S1 : St) (fp1 : Nat → List Nat) (ovs : List Value) (ofs : List (List Nat)) (k : Nat), Inter S fp S1 fp1 ∧ K olds S1 ∧ olds.length = k * z ∧ ovs.length = olds.length ∧ ofs.length = olds.length ∧
      (∀ i (h : i < olds.length), Ow w (Ob X fp) olds[i] (ovs.getD i undef) (ofs.getD i [])) ∧ ofs.flatten.Nodup ∧ (∀ b ∈ ofs.flatten, ∃ q, b ∈ fp q ∧ fp1 q = []) ∧
      ((v = .slice none 0 0 ∧ k = 0) ∨ ∃ g cap cur e0, v = .slice (some ⟨g, 0, none⟩) k cap ∧ w.heap[g]? = some (.cells cur e0 (0, 0)) ∧ k ≤ cap ∧ cap ≤ maxLen ∧ cur.size = cap * z ∧ cur.toList.take (k * z) = ovs ∧
        (∃ q, g ∈ fp q ∧ fp1 q = []) ∧ g ∉ ofs.flatten) := by
  unfold baseW at h
  split at h
  · have hv := hx.v_inv
    exact ⟨[], S, fp, [], [], 0, Inter.refl S fp, h, by simp, rfl, rfl, fun i h => absurd h (by simp), by simp, by simp, .inl ⟨hv, rfl⟩⟩
  · rename_i r
    split at h
    · rename_i s l hr
      obtain ⟨hs, hK⟩ := h
      have hI : Inter S fp { S with roots := upd S.roots r .dead } (upd fp r []) := ⟨rfl, fun q => by
        by_cases hq : q = r
        · subst hq; exact .inr ⟨upd_self _ _ _, upd_self _ _ _, _, _, hr⟩
        · exact .inl ⟨upd_other _ _ _ _ hq, upd_other _ _ _ _ hq⟩⟩
      have hown := hx.own_inv
      rcases g.arr hr with ⟨hv, rfl, hfp, _⟩ | ⟨b, len, cap, cs, e, fps, hv, hb, hl, hc, hm, hsz, hf, hro, hfp, hle, _⟩
      · rw [hv, Option.some.injEq] at hown
        exact ⟨[], _, _, [], [], 0, hI, hK, by simp, rfl, rfl, fun i h => absurd h (by simp), by simp, by simp, .inl ⟨hown.symm, rfl⟩⟩
      · rw [hv, Option.some.injEq] at hown
        have hnd := g.nodup r; rw [hfp] at hnd
        subst hs
        refine ⟨l, _, _, cs.toList.take (len * s), fps, len, hI, hK, hl, by simp; omega, hf, fun i h => ?_, (List.nodup_cons.1 hnd).2, fun b' hb' => ⟨r, by rw [hfp]; exact List.mem_cons_of_mem _ hb', upd_self _ _ _⟩,
          .inr ⟨b, cap, cs, e, hown.symm, hb, hc, hm, hsz, rfl, ⟨r, by rw [hfp]; simp, upd_self _ _ _⟩, (List.nodup_cons.1 hnd).1⟩⟩
        have := hro i h
        rw [List.getD_eq_getElem?_getD, List.getElem?_take_of_lt (by omega)]
        simpa [Array.getD_eq_getD_getElem?] using this
    · exact h.elim
  · exact h.elim

theorem src_spec (g : Good X w0 O0 n S a w hs fp) {S1 : St} {fp1 : Nat → List Nat} (I : Inter S fp S1 fp1) {x : A} {u : Value} {z : Nat} {K : List T → St → Prop} (hz : 0 < z) (hx : Is w (Ob X fp) hs x u) (h : srcW S1 x z K) :
    ∃ (news : List T) (S2 : St) (fp2 : Nat → List Nat) (nvs : List Value) (gs : List (List Nat)) (m : Nat), Inter S fp S2 fp2 ∧ K news S2 ∧ news.length = m * z ∧ nvs.length = news.length ∧ gs.length = news.length ∧
      (∀ i (h : i < news.length), Ow w (Ob X fp) news[i] (nvs.getD i undef) (gs.getD i [])) ∧ gs.flatten.Nodup ∧ (∀ b ∈ gs.flatten, ∃ q, b ∈ fp1 q ∧ fp2 q = []) ∧ (∀ r, fp1 r = [] → fp2 r = []) ∧ (∀ c ∈ news, c.cell = true) ∧
      ((u = .slice none 0 0 ∧ m = 0) ∨ ∃ ad c, u = .slice (some ad) m c ∧ ∀ j y, nvs[j]? = some y → w.cell? (ad.add j) = some y) := by
  -- cells of a row that are copied
  have copy : ∀ (news : List T) (b off m c : Nat) (cs : Array Value) (e : TypeId) (fz : Nat × Nat), u = .slice (some ⟨b, off, none⟩) m c → w.heap[b]? = some (.cells cs e fz) → off + news.length ≤ cs.size → news.length = m * z →
      (∀ i (h : i < news.length), Rd w (Ob X fp) news[i] (cs.getD (off + i) undef)) → news.all T.cell = true → K news S1 → ∃ (news : List T) (S2 : St) (fp2 : Nat → List Nat) (nvs : List Value) (gs : List (List Nat)) (m : Nat), Inter S fp S2 fp2 ∧ K news S2 ∧ news.length = m * z ∧ nvs.length = news.length ∧ gs.length = news.length ∧
      (∀ i (h : i < news.length), Ow w (Ob X fp) news[i] (nvs.getD i undef) (gs.getD i [])) ∧ gs.flatten.Nodup ∧ (∀ b ∈ gs.flatten, ∃ q, b ∈ fp1 q ∧ fp2 q = []) ∧ (∀ r, fp1 r = [] → fp2 r = []) ∧ (∀ c ∈ news, c.cell = true) ∧
      ((u = .slice none 0 0 ∧ m = 0) ∨ ∃ ad c, u = .slice (some ad) m c ∧ ∀ j y, nvs[j]? = some y → w.cell? (ad.add j) = some y) := by
    intro news b off m c cs e fz hu hb hsz hl hr hc hK
    refine ⟨news, S1, fp1, (List.range news.length).map fun i => cs.getD (off + i) undef, List.replicate news.length [], m, I, hK, hl, by simp, by simp, fun i h => ?_, by simp, by simp, fun _ h => h, fun c hc' => List.all_eq_true.1 hc c hc', .inr ⟨_, c, hu, fun j y hy => ?_⟩⟩
    · rw [List.getD_eq_getElem?_getD, List.getElem?_map, List.getElem?_range h, List.getD_eq_getElem?_getD, List.getElem?_replicate, if_pos h]
      exact .rd (hr i h)
    · rw [List.getElem?_map] at hy
      by_cases hj : j < news.length
      · rw [List.getElem?_range hj] at hy
        simp only [Option.map_some, Option.some.injEq] at hy
        rw [addr_add, ← hy]; exact cells_at hb (by omega)
      · rw [List.getElem?_eq_none (by simpa using hj)] at hy; simp at hy
  have none : ∀ (news : List T), news = [] → u = .slice none 0 0 → K news S1 → ∃ (news : List T) (S2 : St) (fp2 : Nat → List Nat) (nvs : List Value) (gs : List (List Nat)) (m : Nat), Inter S fp S2 fp2 ∧ K news S2 ∧ news.length = m * z ∧ nvs.length = news.length ∧ gs.length = news.length ∧
      (∀ i (h : i < news.length), Ow w (Ob X fp) news[i] (nvs.getD i undef) (gs.getD i [])) ∧ gs.flatten.Nodup ∧ (∀ b ∈ gs.flatten, ∃ q, b ∈ fp1 q ∧ fp2 q = []) ∧ (∀ r, fp1 r = [] → fp2 r = []) ∧ (∀ c ∈ news, c.cell = true) ∧
      ((u = .slice none 0 0 ∧ m = 0) ∨ ∃ ad c, u = .slice (some ad) m c ∧ ∀ j y, nvs[j]? = some y → w.cell? (ad.add j) = some y) := by
    rintro _ rfl hu hK
    exact ⟨[], S1, fp1, [], [], 0, I, hK, by simp, rfl, rfl, fun i h => absurd h (by simp), by simp, by simp, fun _ h => h, by simp, .inl ⟨hu, rfl⟩⟩
  have same : ∀ q t lk, S1.roots q = .live t lk → S.roots q = .live t lk ∧ fp1 q = fp q := fun q t lk hq => by
    rcases I.root q with ⟨h1, h2⟩ | ⟨h1, _⟩ <;> rw [hq] at h1
    · exact ⟨h1.symm, h2⟩
    · cases h1
  have zlen : ∀ {l : List T} {len s : Nat}, l.length = len * s → (s = z ∨ (l = [] ∧ 0 < s)) → l.length = len * z := by
    intro l len s hl h
    rcases h with rfl | ⟨rfl, h0⟩
    · exact hl
    · have : 0 = len * s := by simpa using hl
      rcases Nat.mul_eq_zero.1 this.symm with h | h
      · subst h; simp
      · omega
  unfold srcW at h
  split at h
  · exact none _ rfl hx.v_inv h
  · rename_i s l
    obtain ⟨hs', hc, hK⟩ := h
    rcases hx.sh_inv with ⟨hv, rfl⟩ | ⟨ad, cap, hv, rfl⟩ | ⟨b, off, len, cap, cs, e, fz, hv, hO, hb, hsz, hl, hcap, hr⟩
    · exact none _ rfl hv hK
    · exact ⟨[], S1, fp1, [], [], 0, I, hK, by simp, rfl, rfl, fun i h => absurd h (by simp), by simp, by simp, fun _ h => h, by simp, .inr ⟨ad, cap, hv, fun j y hy => by simp at hy⟩⟩
    · exact copy l b off len cap cs e fz hv hb hsz (zlen hl hs') hr hc hK
  · rename_i q
    split at h
    · rename_i s l hq
      obtain ⟨hs', hc, hK⟩ := h
      obtain ⟨hqS, hqf⟩ := same q _ _ hq
      have hown := hx.own_inv
      rcases g.arr hqS with ⟨hv, rfl, hfp, _⟩ | ⟨b, len, cap, cs, e, fps, hv, hb, hl, hcap, hm, hsz, hf, hro, hfp, hle, _⟩
      · rw [hv, Option.some.injEq] at hown
        exact none _ rfl hown.symm (by simpa using hK)
      · rw [hv, Option.some.injEq] at hown
        by_cases hfl : l.all T.flat = true
        · rw [if_pos hfl] at hK
          refine copy l b 0 len cap cs e (0, 0) hown.symm hb (by omega) (zlen hl hs') (fun i h => ?_) hc hK
          have := (hro i h).flat_rd (List.all_eq_true.1 hfl _ (List.getElem_mem _))
          rw [Nat.zero_add]; exact this.1
        · rw [if_neg hfl] at hK
          have hnd := g.nodup q; rw [hfp] at hnd
          refine ⟨l, { S1 with roots := upd S1.roots q .dead }, upd fp1 q [], cs.toList.take l.length, fps, len, ⟨I.env, fun r => ?_⟩, hK, zlen hl hs', by simp; omega, hf, fun i h => ?_, (List.nodup_cons.1 hnd).2, fun b' hb' => ⟨q, by rw [hqf, hfp]; exact List.mem_cons_of_mem _ hb', upd_self _ _ _⟩,
            fun r hr => ?_, fun c hc' => List.all_eq_true.1 hc c hc', .inr ⟨_, cap, hown.symm, fun j y hy => ?_⟩⟩
          · by_cases hr : r = q
            · subst hr; exact .inr ⟨upd_self _ _ _, upd_self _ _ _, _, _, hqS⟩
            · simp only [upd_other _ _ _ _ hr]; exact I.root r
          · have := hro i h
            rw [List.getD_eq_getElem?_getD, List.getElem?_take_of_lt h]
            simpa [Array.getD_eq_getD_getElem?] using this
          · by_cases h : r = q
            · subst h; exact upd_self _ _ _
            · rw [upd_other _ _ _ _ h]; exact hr
          · rw [List.getElem?_take] at hy
            split at hy
            · rw [addr_add, Nat.zero_add, cell_of_row w b j cs e (0, 0) hb]; simpa using hy
            · cases hy
    · exact h.elim
  · rename_i q off m
    split at h
    · rename_i s l hq
      obtain ⟨rfl, hle', hc, hfl, hK⟩ := h
      obtain ⟨hqS, hqf⟩ := same q _ _ hq
      obtain ⟨u', hu⟩ : ∃ u', u = u' := ⟨_, rfl⟩
      rw [hu] at hx
      rcases g.arr hqS with ⟨hv, rfl, hfp, _⟩ | ⟨b, len, cap, cs, e, fps, hv, hb, hl, hcap, hm, hsz, hf, hro, hfp, hle, _⟩
      · cases hx with
        | sub hr _ => rw [hv] at hr; cases hr
        | subZ hr => rw [hv] at hr; cases hr
        | subNil _ => exact none _ (by simp) hu hK
      · cases hx with
        | sub hr _ =>
          rw [hv] at hr; cases hr
          refine copy _ b off m _ cs e (0, 0) hu hb (by simp; omega) (by simp; omega) (fun i h => ?_) hc hK
          have h' : off + i < l.length := by simp at h; omega
          have e1 : ((l.drop off).take (m * s))[i] = l[off + i] := by simp
          have := (hro (off + i) h').flat_rd (by rw [← e1]; exact List.all_eq_true.1 hfl _ (List.getElem_mem _))
          rw [e1]; exact this.1
        | subZ hr =>
          refine ⟨[], S1, fp1, [], [], 0, I, by simpa using hK, by simp, rfl, rfl, fun i h => absurd h (by simp), by simp, by simp, fun _ h => h, by simp, .inr ⟨_, _, hu, fun j y hy => by simp at hy⟩⟩
        | subNil hr => rw [hv] at hr; cases hr
    · exact h.elim
  · exact h.elim

theorem opW_append {o : Oper} {t u : TypeId} {d : Nat} {b x : Operand} (ho : o.op = .call { callee := .builtin .append, args := #[b, x], argTypes := #[t, t] }) (hdst : o.dst = some d) (hd : d < n)
    {e : TypeId} (he : tyElem P t = some e) (hze : ∃ zs, tyZero P e = some zs ∧ tySize P e = some zs.length) (k : appendW P t (S.ev b) (S.ev x) d S K) : OpW P n o S K := by
  unfold appendW at k
  split at k
  · rename_i z eb hz heb
    obtain ⟨hz0, heb0, k⟩ := k
    intro X w0 O0 a w hs fp g Q
    obtain ⟨e', ie, hu, hi, hiz⟩ := tyEs_spec hz
    have hee : e' = e := by have := tyElem_spec he; rw [hu] at this; cases this; rfl
    subst hee
    obtain ⟨zs, hzs, hzl⟩ := hze
    obtain ⟨i1, zv, hi1, hizv, hzsv⟩ := tyZero_spec hzs
    have : i1 = ie := by rw [hi] at hi1; cases hi1; rfl
    subst this
    have hzvs : zv.cells.size = i1.size := by
      obtain ⟨i2, hi2, hs2⟩ := tySize_spec hzl
      have : i2 = i1 := by rw [hi] at hi2; cases hi2; rfl
      subst this
      rw [hs2, hzsv]; simp
    have hbytes : i1.bytes = eb := by
      unfold tyEb at heb
      rw [he] at heb
      obtain ⟨i2, hi2, hs2⟩ := tyBytes_spec (by simpa using heb)
      have : i2 = i1 := by rw [hi] at hi2; cases hi2; rfl
      subst this; exact hs2
    obtain ⟨olds, S1, fp1, ovs, ofs, kk, I1, hK1, hol, hovl, hofl, hoo, hon, hos, hv⟩ := base_spec g hz0 (g.ev b) k
    obtain ⟨news, S2, fp2, nvs, gs, m, I2, hK2, hnl, hnvl, hgl, hno, hgn, hgs, hmono, hcell, huu⟩ := src_spec g I1 hz0 (g.ev x) hK1
    obtain ⟨hle, hfree, hK⟩ := hK2
    have hle' : (kk + m) * eb ≤ 140737488355328 := by
      rw [hol, hnl, ← Nat.add_mul, Nat.mul_right_comm] at hle
      rw [Nat.mul_comm z] at hle
      exact Nat.le_of_mul_le_mul_right hle hz0
    have h63 : kk + m ≤ maxLen := by
      have := Nat.le_mul_of_pos_right (kk + m) heb0
      unfold maxLen; omega
    have hone : ∀ y ∈ nvs, y.oneCell' = true := by
      intro y hy
      obtain ⟨j, hj, rfl⟩ := List.mem_iff_getElem.1 hy
      have h1 := (hno j (by omega)).oneCell (hcell _ (List.getElem_mem _))
      rwa [List.getD_eq_getElem?_getD, List.getElem?_eq_getElem hj] at h1
    obtain ⟨v', w', hr, hw1, hw2, hw3, hcase⟩ := run_append_any (P := P) w t o.type e' i1 zv hu hi hizv hzvs (a.eval b) kk ovs (by rw [hovl, hol, hiz]) (by
        rcases hv with h | ⟨g', cap, cur, e0, h1, h2, h3, h4, h5, h6, _⟩
        · exact .inl h
        · exact .inr ⟨g', cap, cur, e0, h1, h2, h3, h4, by rw [hiz]; exact h5, by rw [hiz]; exact h6⟩) (a.eval x) m nvs (by rw [hnvl, hnl, hiz]) hone huu h63 (by rw [hbytes]; exact hle')
    have hrun : (execOp a.eval o).run P w = .ok (.value v') w' := by
      simp [execOp, ho, resolve, invoke, builtin, hr]
    -- the joined cells
    have hall : ∀ i (h : i < (olds ++ news).length), Ow w (Ob X fp) (olds ++ news)[i] ((ovs ++ nvs).getD i undef) ((ofs ++ gs).getD i []) := by
      intro i h
      by_cases hi' : i < olds.length
      · rw [List.getElem_append_left hi', List.getD_eq_getElem?_getD, List.getElem?_append_left (by omega), List.getD_eq_getElem?_getD, List.getElem?_append_left (by omega)]
        have := hoo i hi'
        rwa [List.getD_eq_getElem?_getD, List.getD_eq_getElem?_getD] at this
      · have hlt : i - olds.length < news.length := by simp at h; omega
        rw [List.getElem_append_right (by omega), List.getD_eq_getElem?_getD, List.getElem?_append_right (by omega), List.getD_eq_getElem?_getD, List.getElem?_append_right (by omega), hovl, hofl]
        have := hno (i - olds.length) hlt
        rwa [List.getD_eq_getElem?_getD, List.getD_eq_getElem?_getD] at this
    have hold2 : ∀ b ∈ ofs.flatten, ∃ q, b ∈ fp q ∧ fp1 q = [] ∧ fp2 q = [] := fun b hb => by obtain ⟨q, h1, h2⟩ := hos b hb; exact ⟨q, h1, h2, hmono q h2⟩
    have fsub1 : ∀ q b, b ∈ fp1 q → b ∈ fp q := fun q b hq => by
      rcases I1.root q with ⟨_, h⟩ | ⟨_, h, _⟩ <;> rw [h] at hq
      · exact hq
      · simp at hq
    have hfn : (ofs ++ gs).flatten.Nodup := by
      rw [List.flatten_append, List.nodup_append]
      refine ⟨hon, hgn, fun b hb b' hb' e => ?_⟩
      subst e
      obtain ⟨q, h1, h2, _⟩ := hold2 b hb
      obtain ⟨q', h3, _⟩ := hgs b hb'
      have := g.disj q q' b h1 (fsub1 _ _ h3)
      subst this
      rw [h2] at h3; simp at h3
    have hfsall : ∀ b ∈ (ofs ++ gs).flatten, ∃ q, b ∈ fp q ∧ fp2 q = [] := by
      intro b hb
      rw [List.flatten_append, List.mem_append] at hb
      rcases hb with hb | hb
      · obtain ⟨q, h1, _, h3⟩ := hold2 b hb; exact ⟨q, h1, h3⟩
      · obtain ⟨q, h1, h2⟩ := hgs b hb; exact ⟨q, fsub1 _ _ h1, h2⟩
    have hlen : (olds ++ news).length = (kk + m) * z := by rw [List.length_append, hol, hnl, Nat.add_mul]
    have hvl : (ovs ++ nvs).length = (olds ++ news).length := by simp [hovl, hnvl]
    have hfl' : (ofs ++ gs).length = (olds ++ news).length := by simp [hofl, hgl]
    have hcells : ∀ (cs' : Array Value), cs'.toList.take ((kk + m) * i1.size) = ovs ++ nvs → ∀ i, i < (olds ++ news).length → cs'.getD i undef = (ovs ++ nvs).getD i undef := by
      intro cs' h i hi'
      rw [← h, List.getD_eq_getElem?_getD, List.getElem?_take_of_lt (by rw [hiz]; omega)]
      simp [Array.getD_eq_getD_getElem?]
    have hnone : hs d = none := by
      have := g.root d
      rcases I2.root d with ⟨h1, _⟩ | ⟨h1, _⟩ <;> rw [h1] at hfree
      · rw [hfree] at this; exact this.1
      · cases hfree
    unfold Oper.wp
    rw [hrun, Oper.upon_value, hdst]
    rcases hcase with ⟨cap', cs', rfl, hwh, hkc, hcm, hcs, htk⟩ | ⟨g0, cap, cur, e0, cs', hbv, hg0, rfl, hwsz, hwg, hwo, hkc, hcs, htk⟩ | ⟨rfl, hww, hm0⟩
    · have g2 := g.newRow I2 hfl' hall hfn hfsall hfree hd cs' e' (hcells cs' htk) (.arr z (olds ++ news)) (.slice (some ⟨w.heap.size, 0, none⟩) (kk + m) cap') rfl w' hwh hw1 hw2 hw3
        (fun w'' O' hb hr' => .arr z _ _ _ cap' cs' e' _ hb hlen hkc hcm (by rw [hcs, hiz]) hfl' hr')
      exact ⟨_, _, _, g2, hK⟩
    · -- the old row was written on
      have hgb : (∃ q, g0 ∈ fp q ∧ fp1 q = []) ∧ g0 ∉ ofs.flatten ∧ cap ≤ maxLen := by
        rcases hv with ⟨h, _⟩ | ⟨g', cap2, cur2, e2, h1, _, _, h4, _, _, h7, h8⟩
        · rw [h] at hbv; cases hbv
        · rw [h1] at hbv; cases hbv; exact ⟨h7, h8, h4⟩
      obtain ⟨⟨q0, hq0, hq1⟩, hgof, hcm⟩ := hgb
      have hgng : g0 ∉ (ofs ++ gs).flatten := by
        rw [List.flatten_append, List.mem_append]
        rintro (h | h)
        · exact hgof h
        · obtain ⟨q', h3, _⟩ := hgs g0 h
          have := g.disj q0 q' g0 hq0 (fsub1 _ _ h3)
          subst this
          rw [hq1] at h3; simp at h3
      have g2 := g.lay I2 d (.arr z (olds ++ news)) [] (.slice (some ⟨g0, 0, none⟩) (kk + m) cap) (g0 :: (ofs ++ gs).flatten) w' (.inl ⟨hnone, by have := g.small; omega⟩) rfl hw1 hw2 hw3 (by omega)
        (fun b' hb' hq => hwo b' fun h => by subst h; exact (hq q0 hq0).2 (hmono q0 hq1))
        (List.nodup_cons.2 ⟨hgng, hfn⟩)
        (fun b' hb' => by
          left
          rcases List.mem_cons.1 hb' with rfl | hb'
          · exact ⟨q0, hq0, .inr (hmono q0 hq1)⟩
          · obtain ⟨q, h1, h2⟩ := hfsall b' hb'; exact ⟨q, h1, .inr h2⟩)
        (fun O' hO => .arr z _ _ _ cap cs' e0 _ hwg hlen hkc hcm (by rw [hcs, hiz]) hfl' fun i hi' => by
          rw [hcells cs' htk i hi']
          have hne : ∀ b', ¬ Ob X fp b' → b' ≠ g0 := fun b' h1 h2 => h1 (.inr ⟨q0, h2 ▸ hq0⟩)
          exact (hall i hi').mono (fun b' cs e fz h1 h2 => by rw [hwo b' (hne b' h1)]; exact h2) hO
            (fun b' cs e fz h1 h2 => by rw [hwo b' (fun h => hgng (h ▸ mem_flatten_getD h1))]; exact h2))
        (fun p hp => by simp at hp)
      exact ⟨_, _, _, g2.put hd (.own (upd_self _ _ _)), hK⟩
    · -- nothing was appended
      rw [hww]
      subst hm0
      have hnews : news = [] := List.eq_nil_of_length_eq_zero (by rw [hnl]; simp)
      have hgs0 : gs = [] := List.eq_nil_of_length_eq_zero (by rw [hgl, hnews]; rfl)
      rw [hnews, List.append_nil] at hK
      rcases hv with ⟨h, hk0⟩ | ⟨g', cap2, cur2, e2, h1, h2, h3, h4, h5, h6, ⟨q0, h7, h7'⟩, h8⟩
      · have holds : olds = [] := List.eq_nil_of_length_eq_zero (by rw [hol, hk0]; simp)
        rw [holds] at hK
        have g2 := g.lay I2 d (.arr z []) [] (a.eval b) [] w (.inl ⟨hnone, by have := g.small; omega⟩) rfl rfl rfl rfl (Nat.le_refl _) (fun _ _ _ => rfl) (by simp) (by simp) (fun O' hO => by rw [h]; exact .arrNil z) (fun p hp => by simp at hp)
        exact ⟨_, _, _, g2.put hd (.own (upd_self _ _ _)), hK⟩
      · have g2 := g.lay I2 d (.arr z olds) [] (a.eval b) (g' :: ofs.flatten) w (.inl ⟨hnone, by have := g.small; omega⟩) rfl rfl rfl rfl (Nat.le_refl _) (fun _ _ _ => rfl) (List.nodup_cons.2 ⟨h8, hon⟩)
          (fun b' hb' => by
            left
            rcases List.mem_cons.1 hb' with rfl | hb'
            · exact ⟨q0, h7, .inr (hmono q0 h7')⟩
            · obtain ⟨q, h1, _, h2⟩ := hold2 b' hb'; exact ⟨q, h1, .inr h2⟩)
          (fun O' hO => by
            rw [h1]
            refine .arr z _ _ _ cap2 cur2 e2 _ h2 hol h3 h4 h5 hofl fun i hi' => ?_
            have := hoo i hi'
            rw [← h6, List.getD_eq_getElem?_getD, List.getElem?_take_of_lt (by omega)] at this
            exact (by simpa [Array.getD_eq_getD_getElem?] using this : Ow w (Ob X fp) olds[i] (cur2.getD i undef) (ofs.getD i [])).mono (fun _ _ _ _ _ h => h) hO (fun _ _ _ _ _ h => h)) (fun p hp => by simp at hp)
        exact ⟨_, _, _, g2.put hd (.own (upd_self _ _ _)), hK⟩
  · exact k.elim
end
end Go.Ab
