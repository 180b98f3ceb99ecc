/-
  Own layer 'SV' (8): aggregates, slices of slices and strings, interface values, closures, nil checks.
-/
import Derived.Test.YtmacpjddafcjcaaDoorSvPure3
set_option linter.all false
namespace Go.Sv
open M

def RelA (D : Dat) (ρ : Rho) (l : List Cell) (us : Array Value) : Prop := us.size = l.length ∧ ∀ (j : Nat) (x : Cell), l[j]? = some x → ∃ u, us[j]? = some u ∧ Den D ρ x u

theorem DenV.cells {D : Dat} {ρ : Rho} {x : V1} {v : Value} (h : DenV D ρ x v) : RelA D ρ x.cells v.cells := by
  cases x with
  | c x =>
    have h : Den D ρ x v := h
    rw [h.one.cells]
    refine ⟨rfl, fun j y hj => ?_⟩
    cases j with
    | zero => simp [V1.cells] at hj; subst hj; exact ⟨v, rfl, h⟩
    | succ j => simp [V1.cells] at hj
  | agg l => obtain ⟨us, e, h1, h2⟩ := h; subst e; exact ⟨h1, h2⟩

theorem V1.cells_inS {S : Nat → Prop} {x : V1} (h : x.inS S) : ∀ (j : Nat) (y : Cell), x.cells[j]? = some y → y.inS S := by
  cases x with
  | c x => intro j y hj; cases j <;> simp [V1.cells] at hj; subst hj; exact h
  | agg l => exact h

theorem spliceL_len : ∀ (l : List Cell) (n : Nat) (ys : List Cell), (spliceL l n ys).length = l.length
  | l, n, [] => by unfold spliceL; cases l <;> cases n <;> rfl
  | [], n, _ :: _ => by unfold spliceL; rfl
  | x :: r, 0, y :: ys => by simp [spliceL, spliceL_len r 0 ys]
  | x :: r, n + 1, y :: ys => by simp [spliceL, spliceL_len r n (y :: ys)]
theorem spliceL_get : ∀ (l : List Cell) (n : Nat) (ys : List Cell) (k : Nat), n + ys.length ≤ l.length → (spliceL l n ys)[k]? = if n ≤ k ∧ k < n + ys.length then ys[k - n]? else l[k]?
  | l, n, [], k, h => by
    have : spliceL l n [] = l := by unfold spliceL; cases l <;> cases n <;> rfl
    rw [this, if_neg (by simp)]
  | [], n, _ :: _, k, h => by simp at h
  | x :: r, 0, y :: ys, k, h => by
    simp only [spliceL]
    cases k with
    | zero => simp
    | succ k =>
      simp only [List.getElem?_cons_succ]
      rw [spliceL_get r 0 ys k (by simp at h ⊢; omega)]
      simp only [Nat.zero_le, true_and, Nat.zero_add, List.length_cons, Nat.sub_zero, Nat.add_lt_add_iff_right, List.getElem?_cons_succ]
  | x :: r, n + 1, y :: ys, k, h => by
    simp only [spliceL]
    cases k with
    | zero => simp
    | succ k =>
      simp only [List.getElem?_cons_succ]
      rw [spliceL_get r n (y :: ys) k (by simp at h ⊢; omega)]
      simp only [Nat.add_le_add_iff_right, Nat.add_sub_add_right]
      congr 1
      simp only [List.length_cons, eq_iff_iff]
      omega

theorem fold_set (off : Nat) : ∀ (l : List Value) (j : Nat) (cs : Array Value), (∀ k, ((l.zipIdx j).foldl (fun cs (p : Value × Nat) => cs.setIfInBounds (off + p.2) p.1) cs)[k]? =
      if off + j ≤ k ∧ k < off + j + l.length ∧ k < cs.size then l[k - (off + j)]? else cs[k]?) ∧ ((l.zipIdx j).foldl (fun cs (p : Value × Nat) => cs.setIfInBounds (off + p.2) p.1) cs).size = cs.size
  | [], j, cs => by simp; intro k h1 h2; omega
  | v :: l, j, cs => by
    simp only [List.zipIdx_cons, List.foldl_cons]
    obtain ⟨h1, h2⟩ := fold_set off l (j + 1) (cs.setIfInBounds (off + j) v)
    refine ⟨fun k => ?_, by rw [h2]; simp⟩
    rw [h1, Array.getElem?_setIfInBounds]
    simp only [Array.size_setIfInBounds, List.length_cons]
    by_cases e : off + j = k
    · subst e
      rw [if_neg (by omega), if_pos rfl]
      by_cases hk : off + j < cs.size
      · rw [if_pos hk, if_pos ⟨by omega, by omega, hk⟩]; simp
      · rw [if_neg hk, if_neg (by omega)]; simp; omega
    · by_cases hr : off + (j + 1) ≤ k ∧ k < off + (j + 1) + l.length ∧ k < cs.size
      · rw [if_pos hr, if_pos ⟨by omega, by omega, hr.2.2⟩]
        have : k - (off + j) = (k - (off + (j + 1))) + 1 := by omega
        rw [this]; simp
      · rw [if_neg hr, if_neg e, if_neg (by omega)]

section
variable {Γ : Ctx} {S W : Nat → Prop} {D : Dat} {ρ : Rho} {st : St} {a : Act} {w : World} {E : Env} {i d : Nat} {g : OG} {eff : Eff}

theorem parts_den (hG : E.G = Γ.G) (h : Sat Γ S W D ρ st a w) (hg : GdOk W g a) (he : Exec g a) {place : Nat → Option (Nat × Nat)} : ∀ {ps : List (Nat × Operand)} {l l' : List Cell} {us : Array Value},
    (partsM E g place l ps).Ev st.get l' → RelA D ρ l us → ∃ us', Instr.fill place us (ps.map fun p => (p.1, a.eval p.2)) = some us' ∧ RelA D ρ l' us' := by
  intro ps
  induction ps with
  | nil => intro l l' us hp hr; simp only [partsM, ev_ret] at hp; subst hp; exact ⟨us, rfl, hr⟩
  | cons p ps ih =>
    obtain ⟨k, x⟩ := p
    intro l l' us hp hr
    simp only [partsM, ev_bind, ev_opt, ev_guard] at hp
    obtain ⟨v, hv, pl, hpl, _, hgd, hp⟩ := hp
    obtain ⟨h1, h2⟩ := bAnd_eq hgd
    have h1 := (beq_eq _ _).1 h1
    have h2 := Nat.le_of_ble_eq_true h2
    rw [len_eq] at h1 h2
    have hd := (opd_den hG h hg he hv).cells
    simp only [List.map_cons, Instr.fill, hpl]
    have e1 : (a.eval x).cells.size = pl.2 := by rw [hd.1, h1]
    rw [if_neg (by rw [hr.1]; simp only [e1, bne_self_eq_false, Bool.false_or, decide_eq_true_eq]; simp; omega)]
    refine ih hp ?_
    obtain ⟨f1, f2⟩ := fold_set pl.1 (a.eval x).cells.toList 0 us
    have eqf : (a.eval x).cells.zipIdx.foldl (fun cs (p : Value × Nat) => cs.setIfInBounds (pl.1 + p.2) p.1) us = ((a.eval x).cells.toList.zipIdx 0).foldl (fun cs (p : Value × Nat) => cs.setIfInBounds (pl.1 + p.2) p.1) us := by
      rw [← Array.foldl_toList]; simp
    have eqf' : (a.eval x).cells.zipIdx.foldl (fun cs x_1 => match x_1 with | (c, j) => cs.setIfInBounds (pl.1 + j) c) us = ((a.eval x).cells.toList.zipIdx 0).foldl (fun cs (p : Value × Nat) => cs.setIfInBounds (pl.1 + p.2) p.1) us := eqf
    rw [eqf']
    refine ⟨by rw [f2, hr.1, spliceL_len], fun j y hj => ?_⟩
    rw [spliceL_get _ _ _ _ (by rw [h1]; exact h2)] at hj
    rw [f1]
    simp only [Nat.add_zero, Array.length_toList, e1, h1] at hj ⊢
    by_cases hc : pl.1 ≤ j ∧ j < pl.1 + pl.2
    · rw [if_pos hc] at hj
      rw [if_pos ⟨hc.1, hc.2, by rw [hr.1]; omega⟩]
      obtain ⟨u, hu, hdd⟩ := hd.2 _ _ hj
      exact ⟨u, by simpa using hu, hdd⟩
    · rw [if_neg hc] at hj
      rw [if_neg (fun hh => hc ⟨hh.1, hh.2.1⟩)]
      exact hr.2 j y hj

theorem parts_inS (hG : E.G = Γ.G) (h : Sat Γ S W D ρ st a w) {place : Nat → Option (Nat × Nat)} : ∀ {ps : List (Nat × Operand)} {l l' : List Cell},
    (partsM E g place l ps).Ev st.get l' → (∀ (j : Nat) (x : Cell), l[j]? = some x → x.inS S) → l'.length = l.length ∧ ∀ (j : Nat) (x : Cell), l'[j]? = some x → x.inS S := by
  intro ps
  induction ps with
  | nil => intro l l' hp hr; simp only [partsM, ev_ret] at hp; subst hp; exact ⟨rfl, hr⟩
  | cons p ps ih =>
    obtain ⟨k, x⟩ := p
    intro l l' hp hr
    simp only [partsM, ev_bind, ev_opt, ev_guard] at hp
    obtain ⟨v, hv, pl, hpl, _, hgd, hp⟩ := hp
    obtain ⟨h1, h2⟩ := bAnd_eq hgd
    have h1 := (beq_eq _ _).1 h1
    have h2 := Nat.le_of_ble_eq_true h2
    rw [len_eq] at h1 h2
    have hd := V1.cells_inS (opd_inS hG h hv)
    obtain ⟨q1, q2⟩ := ih hp (fun j y hj => by
      rw [spliceL_get _ _ _ _ (by rw [h1]; exact h2)] at hj
      split at hj
      · exact hd _ _ hj
      · exact hr _ _ hj)
    exact ⟨by rw [q1, spliceL_len], q2⟩

theorem zero_run {P : Program} {t : TypeId} {z : List Cell} (h : tZero P t = some z) (D : Dat) (ρ : Rho) (w : World) : ∃ u, (zeroValue t).run P w = .ok u w ∧ RelA D ρ z u.cells ∧ ∀ (S : Nat → Prop) (j : Nat) (x : Cell), z[j]? = some x → x.inS S := by
  unfold tZero at h
  cases hi : P.info? t with
  | none => simp [hi] at h
  | some i =>
    simp only [hi] at h
    cases hz : i.zero with
    | none => simp [hz] at h
    | some v =>
      simp only [hz] at h
      obtain ⟨h1, h2⟩ := cstL_den h D ρ
      refine ⟨v, by simp [zeroValue, typeInfo, program, Sem.run, hi, hz], ⟨by simpa using h1.symm, fun j x hj => by simpa using h2 j x hj⟩, fun S j x hj => cstL_inS h S j x hj⟩

theorem mapM_places {P : Program} (w : World) : ∀ (fs : List Field), allSized P fs = true →
    (fs.mapM (fun (f : Field) => (do pure (f.offset, ← sizeOf f.type) : Sem (Nat × Nat)))).run P w = .ok (fs.map fun f => (f.offset, (tSize P f.type).getD 0)) w := by
  intro fs
  induction fs with
  | nil => intro _; rfl
  | cons f r ih =>
    intro h
    simp only [allSized] at h
    cases hs : tSize P f.type with
    | none => simp [hs] at h
    | some n =>
      simp only [hs] at h
      simp only [List.mapM_cons, Sem.run_bind, tSize_run hs, Result.andThen_ok, Sem.run_pure, ih h, List.map_cons, hs, Option.getD_some]

theorem fieldPl_eq {P : Program} : ∀ (fs : List Field), allSized P fs = true → ∀ i, fieldPl P fs i = (fs.map fun f => (f.offset, (tSize P f.type).getD 0))[i]? := by
  intro fs h i
  unfold fieldPl
  rw [nth_eq]
  simp only [List.getElem?_map]
  cases hf : fs[i]? with
  | none => rfl
  | some f =>
    have : ∀ (fs : List Field), allSized P fs = true → ∀ (i : Nat) (f : Field), fs[i]? = some f → ∃ n, tSize P f.type = some n := by
      intro fs
      induction fs with
      | nil => intro _ i f h; simp at h
      | cons g r ih =>
        intro h i f hf
        simp only [allSized] at h
        cases hs : tSize P g.type with
        | none => simp [hs] at h
        | some n =>
          simp only [hs] at h
          cases i with
          | zero => simp at hf; subst hf; exact ⟨n, hs⟩
          | succ i => simp at hf; exact ih h i f hf
    obtain ⟨n, hn⟩ := this fs h i f hf
    simp [hn]

theorem build_ok (hP : E.P = Γ.P) (hG : E.G = Γ.G) (h : Sat Γ S W D ρ st a w) (hg : GdOk W g a) (hd : d < Γ.N) (hnd : ¬ W d) {t : TypeId} {ps : Array (Nat × Operand)}
    (hf : (buildM E i g d t ps.toList).Ev st.get eff) (hvc : ∀ p ∈ eff.vc, p) : PureOk Γ S W D ρ st a w g d eff (Instr.build t (ps.map fun (i, x) => (i, a.eval x))) := by
  simp only [buildM, ev_bind, ev_opt] at hf
  obtain ⟨z, hz, hf⟩ := hf
  rw [hP] at hz hf
  obtain ⟨u, hzr, hzd, hzi⟩ := zero_run hz D ρ w
  split at hf
  · rename_i fs hu
    simp only [ev_bind, ev_guard] at hf
    obtain ⟨_, hsz, l, hl, hf⟩ := hf
    refine fin_ok h hg hd hnd hf hvc (parts_inS hG h hl (hzi S)).2 (fun he _ => ?_)
    obtain ⟨us', h1, h2⟩ := parts_den hG h hg he hl hzd
    refine ⟨.agg us', ?_, us', rfl, h2⟩
    have hm : (Array.mapM (fun (f : Field) => (do pure (f.offset, ← sizeOf f.type) : Sem (Nat × Nat))) fs).run Γ.P w = .ok (fs.toList.map fun (f : Field) => (f.offset, (tSize Γ.P f.type).getD 0)).toArray w := by
      rw [Array.mapM_eq_mapM_toList]
      simp only [Sem.run_map, mapM_places w fs.toList hsz, Result.andThen_ok]
    have hpl : (fun i => (fs.toList.map fun (f : Field) => (f.offset, (tSize Γ.P f.type).getD 0)).toArray[i]?) = fieldPl Γ.P fs.toList := by
      funext i
      rw [fieldPl_eq fs.toList hsz]
      simp
    simp only [Instr.build, Sem.run_bind, hzr, Result.andThen_ok, under_run hu, hm, hpl, Array.toList_map]
    rw [h1]
    rfl
  · rename_i n el hu
    simp only [ev_bind, ev_opt] at hf
    obtain ⟨sz, hsz, l, hl, hf⟩ := hf
    refine fin_ok h hg hd hnd hf hvc (parts_inS hG h hl (hzi S)).2 (fun he _ => ?_)
    obtain ⟨us', h1, h2⟩ := parts_den hG h hg he hl hzd
    refine ⟨.agg us', ?_, us', rfl, h2⟩
    simp only [Instr.build, Sem.run_bind, hzr, Result.andThen_ok, under_run hu, tSize_run hsz, Array.toList_map]
    rw [h1]
    rfl
  · simp [ev_fail] at hf


theorem nilChk_ok (hG : E.G = Γ.G) (h : Sat Γ S W D ρ st a w) (hg : GdOk W g a) (hd : d < Γ.N) (hnd : ¬ W d) {x : Operand}
    (hf : (nilChkM E i g d x).Ev st.get eff) (hvc : ∀ p ∈ eff.vc, p) : PureOk Γ S W D ρ st a w g d eff (pure (a.eval x)) ∧
      (Exec g a → (∃ ad, a.eval x = .pointer (some ad)) ∨ ∃ f k c, a.eval x = .func (.func f) k c) := by
  simp only [nilChkM, ev_bind] at hf
  obtain ⟨u, hu, hf⟩ := hf
  have hx := fun he => opd_den hG h hg he hu
  have hS := opd_inS hG h hu
  split at hf
  · refine ⟨fin_ok h hg hd hnd hf hvc hS (fun he _ => ⟨a.eval x, rfl, hx he⟩), fun he => ?_⟩
    have e := hx he
    simp only [DenV, Den] at e
    exact .inl ⟨_, e⟩
  · refine ⟨fin_ok h hg hd hnd hf hvc hS (fun he _ => ⟨a.eval x, rfl, hx he⟩), fun he => ?_⟩
    obtain ⟨b, o, e, _⟩ := hx he
    exact .inl ⟨_, e⟩
  · refine ⟨fin_ok h hg hd hnd hf hvc hS (fun he _ => ⟨a.eval x, rfl, hx he⟩), fun he => ?_⟩
    have e := hx he
    simp only [DenV, Den] at e
    exact .inl ⟨_, e⟩
  · refine ⟨fin_ok h hg hd hnd hf hvc hS (fun he _ => ⟨a.eval x, rfl, hx he⟩), fun he => ?_⟩
    obtain ⟨b, e, _⟩ := hx he
    exact .inr ⟨_, _, _, e⟩
  · simp [ev_fail] at hf

theorem mkIfc_ok (hP : E.P = Γ.P) (hG : E.G = Γ.G) (h : Sat Γ S W D ρ st a w) (hg : GdOk W g a) (hd : d < Γ.N) (hnd : ¬ W d) {t : TypeId} {x : Operand}
    (hf : (mkIfcM E i g d t x).Ev st.get eff) (hvc : ∀ p ∈ eff.vc, p) : PureOk Γ S W D ρ st a w g d eff (Instr.makeInterface t (a.eval x)) := by
  simp only [mkIfcM, ev_bind, ev_guard] at hf
  obtain ⟨u, hu, _, hc, hf⟩ := hf
  rw [hP] at hc
  have hx := fun he => opd_den hG h hg he hu
  have hS := opd_inS hG h hu
  have run : (Instr.makeInterface t (a.eval x)).run Γ.P w = .ok (.iface t (a.eval x)) w := by
    unfold isConc at hc
    cases hu : Γ.P.underlying t with
    | none => simp [hu] at hc
    | some dd =>
      simp only [hu] at hc
      simp only [Instr.makeInterface, Sem.run_bind, under_run hu, Result.andThen_ok]
      cases dd <;> first | rfl | (simp at hc)
  split at hf
  · exact fin_ok h hg hd hnd hf hvc hS (fun he _ => ⟨_, run, _, rfl, hx he⟩)
  · rename_i l
    refine fin_ok h hg hd hnd hf hvc ?_ (fun he _ => ⟨_, run, _, rfl, ?_⟩)
    · intro j hj
      rw [len_eq] at hj
      simp only [nthD, nth_eq]
      have : l[j]? = some l[j] := by simp [hj]
      rw [this]; exact hS j _ this
    · obtain ⟨us, e, h1, h2⟩ := hx he
      refine ⟨us, e, by rw [len_eq]; exact h1, fun j hj => ?_⟩
      rw [len_eq] at hj
      have : l[j]? = some l[j] := by simp [hj]
      obtain ⟨y, hy, hdy⟩ := h2 j _ this
      exact ⟨y, hy, by simp only [nthD, nth_eq, this]; exact hdy⟩

theorem opds_den (hG : E.G = Γ.G) (h : Sat Γ S W D ρ st a w) (hg : GdOk W g a) : ∀ {xs : List Operand} {l : List V1}, (opdsM E g xs).Ev st.get l →
    (∀ (j : Nat) (v : V1), l[j]? = some v → v.inS S) ∧ l.length = xs.length ∧ (Exec g a → ∀ (j : Nat) (v : V1), l[j]? = some v → ∃ x, xs[j]? = some x ∧ DenV D ρ v (a.eval x)) := by
  intro xs
  induction xs with
  | nil => intro l hl; simp only [opdsM, ev_ret] at hl; subst hl; simp
  | cons x xs ih =>
    intro l hl
    simp only [opdsM, ev_bind, ev_ret] at hl
    obtain ⟨v, hv, r, hr, rfl⟩ := hl
    obtain ⟨h1, h2, h3⟩ := ih hr
    refine ⟨fun j y hj => ?_, by simp [h2], fun he j y hj => ?_⟩
    · cases j with
      | zero => simp at hj; subst hj; exact opd_inS hG h hv
      | succ j => simp at hj; exact h1 j y hj
    · cases j with
      | zero => simp at hj; subst hj; exact ⟨x, rfl, opd_den hG h hg he hv⟩
      | succ j => simp at hj ⊢; exact h3 he j y hj

theorem mkFn_ok (hG : E.G = Γ.G) (h : Sat Γ S W D ρ st a w) (hg : GdOk W g a) (hd : d < Γ.N) (hnd : ¬ W d) {fn : Fn} {first cap : Array Operand}
    (hf : (mkFnM E i g d fn first.toList cap.toList).Ev st.get eff) (hvc : ∀ p ∈ eff.vc, p) : PureOk Γ S W D ρ st a w g d eff (Instr.makeFunc fn (first.map a.eval) (cap.map a.eval)) := by
  unfold mkFnM at hf
  split at hf
  · rename_i f hfi
    simp only [ev_bind] at hf
    obtain ⟨l, hl, hf⟩ := hf
    obtain ⟨h1, h2, h3⟩ := opds_den hG h hg hl
    have hlt : ∀ i (hi : i < len l), nth l i = some (l[i]'(by rwa [len_eq] at hi)) := by
      intro i hi; rw [nth_eq]; rw [len_eq] at hi; simp [hi]
    refine fin_ok h hg hd hnd hf hvc ?_ (fun he _ => ⟨_, rfl, ?_⟩)
    · intro i hi
      simp only [hlt i hi]
      have hv := h1 i (l[i]'(by rwa [len_eq] at hi)) (by rw [len_eq] at hi; simp [hi])
      generalize l[i]'(by rwa [len_eq] at hi) = v at hv
      cases v with
      | c x => exact hv
      | agg k =>
        intro j hj
        rw [len_eq] at hj
        simp only [V1.cells, nthD, nth_eq]
        have : k[j]? = some k[j] := by simp [hj]
        rw [this]; exact hv j _ this
    · have hfe : first = #[] := by
        cases first with
        | mk l => simp at hfi; subst hfi; rfl
      subst hfe
      refine ⟨cap.map a.eval, by simp, by simp [len_eq, h2], fun i hi => ?_⟩
      have hi' := hi
      rw [len_eq] at hi'
      obtain ⟨x, hx, hdx⟩ := h3 he i (l[i]) (by simp [hi'])
      refine ⟨a.eval x, by simp at hx; simp [hx], ?_⟩
      simp only [hlt i hi]
      generalize l[i] = v at hdx
      cases v with
      | c y => exact hdx
      | agg k =>
        obtain ⟨us, e, q1, q2⟩ := hdx
        refine ⟨us, e, by rw [len_eq]; exact q1, fun j hj => ?_⟩
        rw [len_eq] at hj
        have : k[j]? = some k[j] := by simp [hj]
        obtain ⟨y, hy, hdy⟩ := q2 j _ this
        exact ⟨y, hy, by simp only [V1.cells, nthD, nth_eq, this]; exact hdy⟩
  · simp [ev_fail] at hf

theorem optInt_ev {lo : Option Operand} {l : Option Int} (hG : E.G = Γ.G) (h : Sat Γ S W D ρ st a w) (hg : GdOk W g a)
    (hl : (optIM E g lo).Ev st.get l) (he : Exec g a) :
    (lo.map a.eval = none ∧ l = none) ∨ ∃ k m, lo.map a.eval = some (.int k m) ∧ l = some m := by
  cases lo with
  | none => simp only [optIM, ev_ret] at hl; exact .inl ⟨rfl, hl.symm⟩
  | some o =>
    simp only [optIM, ev_bind, ev_ret] at hl
    obtain ⟨v, hv, n, hn, rfl⟩ := hl
    have hn := int_ev hn
    subst hn
    have e : a.eval o = .int n.1 n.2 := opd_den hG h hg he hv
    exact .inr ⟨n.1, n.2, by simp [e], rfl⟩

theorem bounds_run {P : Program} {w : World} {lo hi : Option Value} {l h : Option Int} {isS : Bool} {n cp : Nat}
    (hl : (lo = none ∧ l = none) ∨ ∃ k m, lo = some (.int k m) ∧ l = some m) (hh : (hi = none ∧ h = none) ∨ ∃ k m, hi = some (.int k m) ∧ h = some m)
    (hb : 0 ≤ loI l ∧ loI l ≤ hiI n h ∧ hiI n h ≤ (n : Int)) (hcp : n ≤ cp) :
    (Instr.sliceBounds isS n cp lo hi none).run P w = .ok ((loI l).toNat, (hiI n h).toNat, cp) w := by
  obtain ⟨h0, h1, h2⟩ := hb
  rcases hl with ⟨rfl, rfl⟩ | ⟨k, m, rfl, rfl⟩ <;> rcases hh with ⟨rfl, rfl⟩ | ⟨k', m', rfl, rfl⟩ <;> simp only [loI, hiI] at h0 h1 h2 ⊢
  · simp [Instr.sliceBounds]
  · simp only [Instr.sliceBounds, Instr.sliceBound, asIntOf, Sem.run_bind, Sem.run_pure, Result.andThen_ok]
    rw [Sem.run_ite, if_pos (by omega)]
    simp
  · simp only [Instr.sliceBounds, Instr.sliceBound, asIntOf, Sem.run_bind, Sem.run_pure, Result.andThen_ok]
    rw [Sem.run_ite, if_pos (by omega)]
    simp
  · simp only [Instr.sliceBounds, Instr.sliceBound, asIntOf, Sem.run_bind, Sem.run_pure, Result.andThen_ok]
    rw [Sem.run_ite, if_pos (by omega)]
    simp only [Sem.run_pure, Result.andThen_ok]
    rw [Sem.run_ite, if_pos (by omega)]
    simp

theorem slice_ok (hP : E.P = Γ.P) (hG : E.G = Γ.G) (h : Sat Γ S W D ρ st a w) (hg : GdOk W g a) (hd : d < Γ.N) (hnd : ¬ W d) {t : TypeId} {x : Operand} {lo hi mx : Option Operand}
    (hf : (sliceM E i g d t x lo hi mx).Ev st.get eff) (hvc : ∀ p ∈ eff.vc, p) : PureOk Γ S W D ρ st a w g d eff (Instr.sliceAt t (a.eval x) (lo.map a.eval) (hi.map a.eval) (mx.map a.eval)) := by
  simp only [sliceM, ev_bind] at hf
  obtain ⟨u, hu, l, hl, hh, hhh, hf⟩ := hf
  have hx := fun he => opd_den hG h hg he hu
  have hS := opd_inS hG h hu
  have bl := fun he => optInt_ev hG h hg hl he
  have bh := fun he => optInt_ev hG h hg hhh he
  rw [hP] at hf
  cases mx with
  | some m => simp [ev_fail] at hf
  | none =>
  simp only at hf
  split at hf
  · rename_i s hu2
    refine fin_ok h hg hd hnd hf hvc trivial (fun he hvs => ?_)
    have hb := under_exec (hvs _ (List.mem_singleton.2 rfl)) hg he
    have e : a.eval x = .string ⟨s.toArray⟩ := hx he
    have hr := bounds_run (P := Γ.P) (w := w) (isS := false) (n := s.length) (cp := s.length) (bl he) (bh he) hb (Nat.le_refl _)
    refine ⟨_, ?_, rfl⟩
    simp only [Instr.sliceAt, Sem.run_bind, under_run hu2, Result.andThen_ok, Instr.slice, e, Option.map_none, size_mk, Option.isSome_none, Bool.false_eq_true, if_false, Sem.run_pure]
    simp only [hr, Result.andThen_ok, Sem.run_pure]
    congr 2
    apply ByteArray.ext
    simp only [ByteArray.data_extract]
    apply Array.ext'
    simp [List.extract_eq_take_drop, List.drop_take]
  · rename_i el sz n f hu2
    simp only [ev_bind, ev_opt, ev_guard] at hf
    obtain ⟨z, hz, _, hzs, hf⟩ := hf
    have hzs := (beq_eq _ _).1 hzs
    subst hzs
    refine fin_ok h hg hd hnd hf hvc trivial (fun he hvs => ?_)
    have hb := under_exec (hvs _ (List.mem_singleton.2 rfl)) hg he
    obtain ⟨ad, cp, e, h1, h2, h3⟩ := hx he
    have hr := bounds_run (P := Γ.P) (w := w) (isS := true) (n := n) (cp := cp) (bl he) (bh he) hb h1
    generalize hL : (loI l).toNat = L at hr ⊢
    generalize hH : (hiI n hh).toNat = H at hr ⊢
    refine ⟨.slice (if cp = L then ad else ad.map (·.add (L * z))) (H - L) (cp - L), ?_, _, _, rfl, by omega, by omega, ?_⟩
    · simp only [Instr.sliceAt, Sem.run_bind, under_run hu2, Result.andThen_ok, Instr.slice, e, Option.map_none, Option.isSome_none, Bool.false_eq_true, if_false, Sem.run_pure]
      simp only [hr, Result.andThen_ok, Sem.run_pure, tSize_run hz]
    · rcases h3 with ⟨rfl, rfl⟩ | ⟨b, o, rfl, h3⟩
      · left
        refine ⟨by split <;> rfl, by omega⟩
      · right
        split
        · exact ⟨b, o, rfl, fun i hi => by omega⟩
        · refine ⟨b, o + L * z, by simp [addr_add], fun i hi j hj => ?_⟩
          obtain ⟨u, hu, hdd⟩ := h3 (L + i) (by omega) j hj
          exact ⟨u, by rw [← hu, Nat.add_mul, Nat.add_assoc o], hdd⟩
  · rename_i el sz id off n hu2
    simp only [ev_bind, ev_opt, ev_guard] at hf
    obtain ⟨z, hz, _, hzs, hf⟩ := hf
    have hzs := (beq_eq _ _).1 hzs
    subst hzs
    refine fin_ok h hg hd hnd hf hvc hS (fun he hvs => ?_)
    have hb := under_exec (hvs _ (List.mem_singleton.2 rfl)) hg he
    rcases (hx he : Den D ρ (.row z id off n) (a.eval x)) with ⟨o, e, h1, h2⟩ | ⟨z1, z2, z3, ad, hsp, e⟩
    rotate_left
    · subst z2 z3
      have hr := bounds_run (P := Γ.P) (w := w) (isS := true) (n := 0) (cp := 0) (bl he) (bh he) hb (by omega)
      have hL : (loI l).toNat = 0 := by omega
      have hH : (hiI 0 hh).toNat = 0 := by omega
      rw [hL, hH] at hr ⊢
      refine ⟨.slice ad 0 0, ?_, .inr ⟨z1, by simp, by simp, ad, hsp, rfl⟩⟩
      simp only [Instr.sliceAt, Sem.run_bind, under_run hu2, Result.andThen_ok, Instr.slice, e, Option.map_none, Option.isSome_none, Bool.false_eq_true, if_false, Sem.run_pure]
      simp only [hr, Result.andThen_ok, Sem.run_pure, tSize_run hz, if_true]
    have hr := bounds_run (P := Γ.P) (w := w) (isS := true) (n := n) (cp := (ρ id).2 - off) (bl he) (bh he) hb (by omega)
    generalize hL : (loI l).toNat = L at hr ⊢
    generalize hH : (hiI n hh).toNat = H at hr ⊢
    refine ⟨.slice (if (ρ id).2 - off = L then some ⟨(ρ id).1, o, none⟩ else some ⟨(ρ id).1, o + L * z, none⟩) (H - L) ((ρ id).2 - off - L), ?_, ?_⟩
    · simp only [Instr.sliceAt, Sem.run_bind, under_run hu2, Result.andThen_ok, Instr.slice, e, Option.map_none, Option.isSome_none, Bool.false_eq_true, if_false, Sem.run_pure]
      simp only [hr, Result.andThen_ok, Sem.run_pure, tSize_run hz, Option.map_some, addr_add]
    · left
      split
      · exact ⟨o, by rw [Nat.sub_sub], by omega, .inr (by omega)⟩
      · refine ⟨o + L * z, by rw [Nat.sub_sub], by omega, ?_⟩
        rcases h2 with rfl | h2
        · left; rw [Nat.add_mul]
        · right; omega
  · simp [ev_fail] at hf

end
end Go.Sv
