/-
  Own layer 'SV' (17): one state entails another; a function's contract out of its body.
-/
import Derived.Test.YtmacpjddafcjcaaDoorSvCode
set_option linter.all false
namespace Go.Sv
open M

/-! checks on ids -/
def idLt (nx : Nat) : Cell → Bool
  | .ptr id _ | .row _ id _ _ | .rp _ id _ _ | .map id => Nat.blt id nx
  | x => x.flat
def idLtL (nx : Nat) : List Cell → Bool
  | [] => true
  | x :: r => bAnd (idLt nx x) (idLtL nx r)
def idLtV (nx : Nat) : V1 → Bool
  | .c (.clo _ k sh c) => cloOk nx sh c k
  | .c x => idLt nx x
  | .agg l => idLtL nx l
where
  cloOk (nx : Nat) (sh : Nat → Option Nat) (c : Nat → Nat → Cell) : Nat → Bool
    | 0 => true
    | i + 1 => bAnd (match sh i with | none => idLt nx (c i 0) | some m => idLtL nx (upL (c i) 0 m)) (cloOk nx sh c i)
def idLtVs (nx : Nat) : List V1 → Bool
  | [] => true
  | x :: r => bAnd (idLtV nx x) (idLtVs nx r)
def idLtT (nx : Nat) : TV → Bool
  | .v x => idLtV nx x
  | .tup l => idLtVs nx l
  | .cnd _ _ _ => false
  | .junk => true
def idLtTs (nx : Nat) : List (Nat × TV) → Bool
  | [] => true
  | (_, v) :: r => bAnd (idLtT nx v) (idLtTs nx r)
def idLtB (nx : Nat) : List (Nat × Blk) → Bool
  | [] => true
  | (id, .box _ cs) :: r => bAnd (Nat.blt id nx) (bAnd (idLtL nx cs) (idLtB nx r))
  | (id, .row _ _ _ _) :: r => bAnd (Nat.blt id nx) (idLtB nx r)
  | (id, .ob _) :: r => bAnd (Nat.blt id nx) (idLtB nx r)
def RowsIn (S : Nat → Prop) : List (Nat × Blk) → Prop
  | [] => True
  | (_, .box _ _) :: r => RowsIn S r
  | (_, .ob _) :: r => RowsIn S r
  | (_, .row e sz n f) :: r => (∀ i, i < n → ∀ j, j < sz → (f i j).inS S) ∧ RowsIn S r

theorem idLt_inS {nx : Nat} {x : Cell} (h : idLt nx x = true) : x.inS (fun i => i < nx) := by
  cases x <;> simp only [idLt] at h <;> first | exact Nat.le_of_ble_eq_true h | exact Cell.inS_flat h
theorem idLtL_inS {nx : Nat} : ∀ {l : List Cell}, idLtL nx l = true → ∀ (j : Nat) (x : Cell), l[j]? = some x → x.inS (fun i => i < nx)
  | [], _, j, x, hj => by simp at hj
  | y :: r, h, 0, x, hj => by obtain ⟨h1, _⟩ := bAnd_eq h; simp at hj; subst hj; exact idLt_inS h1
  | y :: r, h, j + 1, x, hj => by obtain ⟨_, h2⟩ := bAnd_eq h; simp at hj; exact idLtL_inS h2 j x hj
theorem idLtV_inS {nx : Nat} {x : V1} (h : idLtV nx x = true) : x.inS (fun i => i < nx) := by
  cases x with
  | agg l => exact idLtL_inS h
  | c x =>
    cases x with
    | clo f k sh c =>
      have h : idLtV.cloOk nx sh c k = true := h
      have : ∀ k, idLtV.cloOk nx sh c k = true → ∀ i, i < k → match sh i with | none => (c i 0).inS (fun i => i < nx) | some m => ∀ j, j < m → (c i j).inS (fun i => i < nx) := by
        intro k
        induction k with
        | zero => intro _ i hi; omega
        | succ k ih =>
          intro h i hi
          obtain ⟨h1, h2⟩ := bAnd_eq h
          rcases Nat.lt_or_ge i k with hlt | hge
          · exact ih h2 i hlt
          · have : i = k := by omega
            subst this
            cases hsh : sh i with
            | none => rw [hsh] at h1; exact idLt_inS h1
            | some m =>
              rw [hsh] at h1
              intro j hj
              exact idLtL_inS h1 j _ (by rw [upL_get, if_pos hj]; simp)
      exact this k h
    | _ => exact idLt_inS h
theorem idLtVs_inS {nx : Nat} : ∀ {l : List V1}, idLtVs nx l = true → ∀ (j : Nat) (x : V1), l[j]? = some x → x.inS (fun i => i < nx)
  | [], _, j, x, hj => by simp at hj
  | y :: r, h, 0, x, hj => by obtain ⟨h1, _⟩ := bAnd_eq h; simp at hj; subst hj; exact idLtV_inS h1
  | y :: r, h, j + 1, x, hj => by obtain ⟨_, h2⟩ := bAnd_eq h; simp at hj; exact idLtVs_inS h2 j x hj
theorem idLtT_inS {nx : Nat} {v : TV} (h : idLtT nx v = true) : v.inS (fun i => i < nx) := by
  cases v with
  | v x => exact idLtV_inS h
  | tup l => exact idLtVs_inS h
  | cnd t w x => simp [idLtT] at h
  | junk => trivial
theorem idLtTs_inS {nx : Nat} : ∀ {l : List (Nat × TV)}, idLtTs nx l = true → ∀ t v, look l t = some v → v.inS (fun i => i < nx)
  | [], _, t, v, h => by simp [look] at h
  | (k, y) :: r, h, t, v, hl => by
    obtain ⟨h1, h2⟩ := bAnd_eq h
    simp only [look] at hl
    split at hl
    · simp only [Option.some.injEq] at hl; subst hl; exact idLtT_inS h1
    · exact idLtTs_inS h2 t v hl
theorem idLtB_inS {nx : Nat} : ∀ {l : List (Nat × Blk)}, idLtB nx l = true → RowsIn (fun i => i < nx) l → ∀ id b, look l id = some b → id < nx ∧ b.inS (fun i => i < nx)
  | [], _, _, t, v, h => by simp [look] at h
  | (k, .box e cs) :: r, h, hr, t, v, hl => by
    obtain ⟨h1, h2⟩ := bAnd_eq h
    obtain ⟨h2, h3⟩ := bAnd_eq h2
    simp only [look] at hl
    split at hl
    · rename_i hb
      simp only [Option.some.injEq] at hl; subst hl
      rw [← (beq_eq _ _).1 hb]
      exact ⟨Nat.le_of_ble_eq_true h1, idLtL_inS h2⟩
    · exact idLtB_inS h3 hr t v hl
  | (k, .ob o) :: r, h, hr, t, v, hl => by
    obtain ⟨h1, h2⟩ := bAnd_eq h
    simp only [look] at hl
    split at hl
    · rename_i hb
      simp only [Option.some.injEq] at hl; subst hl
      rw [← (beq_eq _ _).1 hb]
      exact ⟨Nat.le_of_ble_eq_true h1, trivial⟩
    · exact idLtB_inS h2 hr t v hl
  | (k, .row e sz n f) :: r, h, hr, t, v, hl => by
    obtain ⟨h1, h2⟩ := bAnd_eq h
    simp only [look] at hl
    split at hl
    · rename_i hb
      simp only [Option.some.injEq] at hl; subst hl
      rw [← (beq_eq _ _).1 hb]
      exact ⟨Nat.le_of_ble_eq_true h1, hr.1⟩
    · exact idLtB_inS h2 hr.2 t v hl

/-! one state entails another -/
def TV.ren (σ : Nat → Nat) : TV → TV
  | .v x => .v (x.ren σ)
  | .tup l => .tup (mapL (V1.ren σ) l)
  | .cnd t w x => .cnd t w (x.ren σ)
  | .junk => .junk
def sigA (m : List (Nat × Nat)) (i : Nat) : Nat := match look m i with
  | some j => j
  | none => i
def entT (st : St) : List (Nat × TV) → Option (List TV)
  | [] => some []
  | (t, _) :: r => match look st.tm t with
    | none => none
    | some v => match entT st r with
      | none => none
      | some l => some (v :: l)
def renT (m : List (Nat × Nat)) : List (Nat × TV) → List TV
  | [] => []
  | (_, v) :: r => v.ren (sigA m) :: renT m r
def entB (m : List (Nat × Nat)) (st : St) : List (Nat × Blk) → Option (List Blk)
  | [] => some []
  | (id, _) :: r => match look st.hp (sigA m id) with
    | none => none
    | some v => match entB m st r with
      | none => none
      | some l => some (v :: l)
def renB (m : List (Nat × Nat)) : List (Nat × Blk) → List Blk
  | [] => []
  | (_, b) :: r => b.ren (sigA m) :: renB m r
def keysGe (kn : Nat) : List (Nat × Nat) → Bool
  | [] => true
  | (a, _) :: r => bAnd (Nat.ble kn a) (keysGe kn r)
def sigL (m : List (Nat × Nat)) : List (Nat × Blk) → List Nat
  | [] => []
  | (id, _) :: r => sigA m id :: sigL m r
def entOk (kn : Nat) (m : List (Nat × Nat)) (st' : St) : Bool :=
  bAnd (Nat.ble kn st'.nx) (bAnd (keysGe kn m) (bAnd (nodupB (sigL m st'.hp)) (bAnd (idLtTs st'.nx st'.tm) (idLtB st'.nx st'.hp))))

theorem entT_spec {st : St} {m : List (Nat × Nat)} : ∀ {l : List (Nat × TV)}, entT st l = some (renT m l) → ∀ t v, look l t = some v → look st.tm t = some (v.ren (sigA m))
  | [], _, t, v, h => by simp [look] at h
  | (k, y) :: r, h, t, v, hl => by
    simp only [entT, renT] at h
    cases h1 : look st.tm k with
    | none => simp [h1] at h
    | some v0 =>
      simp only [h1] at h
      cases h2 : entT st r with
      | none => simp [h2] at h
      | some l0 =>
        simp only [h2, Option.some.injEq, List.cons.injEq] at h
        simp only [look] at hl
        split at hl
        · rename_i hb
          simp only [Option.some.injEq] at hl; subst hl
          rw [← (beq_eq _ _).1 hb, h1, h.1]
        · exact entT_spec (l := r) (by rw [h2, h.2]) t v hl
theorem entB_spec {st : St} {m : List (Nat × Nat)} : ∀ {l : List (Nat × Blk)}, entB m st l = some (renB m l) → ∀ id b, look l id = some b → look st.hp (sigA m id) = some (b.ren (sigA m))
  | [], _, t, v, h => by simp [look] at h
  | (k, y) :: r, h, t, v, hl => by
    simp only [entB, renB] at h
    cases h1 : look st.hp (sigA m k) with
    | none => simp [h1] at h
    | some v0 =>
      simp only [h1] at h
      cases h2 : entB m st r with
      | none => simp [h2] at h
      | some l0 =>
        simp only [h2, Option.some.injEq, List.cons.injEq] at h
        simp only [look] at hl
        split at hl
        · rename_i hb
          simp only [Option.some.injEq] at hl; subst hl
          rw [← (beq_eq _ _).1 hb, h1, h.1]
        · exact entB_spec (l := r) (by rw [h2, h.2]) t v hl
theorem sigL_inj {m : List (Nat × Nat)} : ∀ {l : List (Nat × Blk)}, (sigL m l).Nodup → ∀ i j bi bj, look l i = some bi → look l j = some bj → sigA m i = sigA m j → i = j := by
  have mem : ∀ {l : List (Nat × Blk)} {i : Nat} {b : Blk}, look l i = some b → sigA m i ∈ sigL m l := by
    intro l
    induction l with
    | nil => intro i b h; simp [look] at h
    | cons p r ih =>
      obtain ⟨k, y⟩ := p
      intro i b h
      simp only [look] at h
      simp only [sigL, List.mem_cons]
      split at h
      · rename_i hb; rw [(beq_eq _ _).1 hb]; exact .inl rfl
      · exact .inr (ih h)
  intro l
  induction l with
  | nil => intro _ i j bi bj h; simp [look] at h
  | cons p r ih =>
    obtain ⟨k, y⟩ := p
    intro hn i j bi bj hi hj e
    simp only [sigL, List.nodup_cons] at hn
    simp only [look] at hi hj
    cases h1 : Nat.beq k i <;> cases h2 : Nat.beq k j <;> simp only [h1, h2] at hi hj
    · exact ih hn.2 i j bi bj hi hj e
    · rw [← (beq_eq _ _).1 h2] at e
      exact (hn.1 (e ▸ mem hi)).elim
    · rw [← (beq_eq _ _).1 h1] at e
      exact (hn.1 (e ▸ mem hj)).elim
    · rw [← (beq_eq _ _).1 h1, ← (beq_eq _ _).1 h2]
theorem keysGe_sig {kn : Nat} : ∀ {m : List (Nat × Nat)}, keysGe kn m = true → ∀ i, i < kn → sigA m i = i
  | [], _, i, _ => rfl
  | (a, b) :: r, h, i, hi => by
    obtain ⟨h1, h2⟩ := bAnd_eq h
    have h1 := Nat.le_of_ble_eq_true h1
    have hne : a ≠ i := by omega
    have := keysGe_sig h2 i hi
    simp only [sigA, look] at this ⊢
    rw [(beq_ne _ _).2 hne]
    exact this
theorem DenT.ren_no {D : Dat} {σ : Nat → Nat} {ρ : Rho} {tm : Array Value} {v : TV} {u : Value} (h : DenT D ρ (fun _ => False) tm (v.ren σ) u) : DenT D (fun i => ρ (σ i)) (fun _ => False) tm v u := by
  cases v with
  | v x => exact DenV.ren.1 h
  | tup l => obtain ⟨vs, e, hl⟩ := h; rw [mapL_eq] at hl; exact ⟨vs, e, DenL.map_ren.1 hl⟩
  | cnd t w x => exact h.1.elim
  | junk => trivial

theorem Ent.of {kn : Nat} {st st' : St} (m : List (Nat × Nat)) (hok : entOk kn m st' = true) (hT : entT st st'.tm = some (renT m st'.tm)) (hB : entB m st st'.hp = some (renB m st'.hp)) (hR : RowsIn (fun i => i < st'.nx) st'.hp) : Ent kn st st' := by
  intro Γ a w hk hs
  obtain ⟨k1, hok⟩ := bAnd_eq hok
  obtain ⟨k2, hok⟩ := bAnd_eq hok
  obtain ⟨k3, hok⟩ := bAnd_eq hok
  obtain ⟨k4, k5⟩ := bAnd_eq hok
  have k1 := Nat.le_of_ble_eq_true k1
  have k3 := nodupB_nodup k3
  obtain ⟨D, ρ, h⟩ := hs
  have sT := entT_spec hT
  have sB := entB_spec hB
  refine ⟨D, fun i => ρ (sigA m i), { h with tm := ?_, hp := ?_, inj := ?_, sep := ?_, own := ?_, kin := ?_, idT := idLtTs_inS k4, idH := idLtB_inS k5 hR, kinS := fun i hi => by rw [hk] at hi; omega }⟩
  · intro t v hv
    obtain ⟨u, hu, hd⟩ := h.tm t _ (sT t v hv)
    exact ⟨u, hu, hd.ren_no⟩
  · intro id b hb
    exact BlkSat.ren.1 (h.hp _ _ (sB id b hb))
  · intro i j bi bj hi hj li lj e
    exact sigL_inj k3 i j bi bj hi hj (h.inj _ _ _ _ (sB i bi hi) (sB j bj hj) li lj e)
  · intro id b hb lv o
    exact h.sep _ _ (sB id b hb) lv o
  · intro id b hb lv
    exact h.own _ _ (sB id b hb) lv
  · intro i hi
    show ρ (sigA m i) = _
    rw [keysGe_sig k2 i (by omega)]
    exact h.kin i hi

/-! results -/
def resM (P : Program) : List ResultVar → M (List V1)
  | [] => ret []
  | .tmp t :: r => bind (rd (.tm t)) fun
    | .tv (.v x) => bind (resM P r) fun l => ret (x :: l)
    | _ => fail
  | .cell t ty :: r => bind (rd (.tm t)) fun
    | .tv (.v (.c (.ptr id off))) => bind (opt (tSize P ty)) fun sz => bind (opt (tAgg P ty)) fun ag => bind (cellsM id off sz) fun l => bind (mkV ag l) fun x => bind (resM P r) fun l => ret (x :: l)
    | _ => fail
def resV (P : Program) (rv : List ResultVar) (st : St) : Option (List V1) := match resM P rv st.get with
  | some (l, _) => some l
  | none => none

theorem res_den {Γ : Ctx} {S W : Nat → Prop} {D : Dat} {ρ : Rho} {st : St} {a : Act} {w : World} (h : Sat Γ S W D ρ st a w) : ∀ {rv : List ResultVar} {l : List V1}, (resM Γ.P rv).Ev st.get l →
    (∀ (j : Nat) (x : V1), l[j]? = some x → x.inS S) ∧ ∃ vs : List Value, (rv.mapM (fun
      | ResultVar.tmp t => pure (a.tmps.getD t undef)
      | .cell ad t => do loadVar t (← asAddr (a.tmps.getD ad undef)) : ResultVar → Sem Value)).run Γ.P w = .ok vs w ∧ vs.length = l.length ∧ ∀ (j : Nat) (x : V1), l[j]? = some x → ∃ u, vs[j]? = some u ∧ DenV D ρ x u
  | [], l, hl => by simp only [resM, ev_ret] at hl; subst hl; exact ⟨by simp, [], rfl, rfl, by simp⟩
  | .tmp t :: r, l, hl => by
    simp only [resM, ev_bind, ev_rd] at hl
    obtain ⟨kv, hk, hl⟩ := hl
    obtain ⟨tv, rfl, hlk⟩ := get_tm hk
    split at hl
    · rename_i x e
      simp only [KV.tv.injEq] at e
      subst e
      simp only [ev_bind, ev_ret] at hl
      obtain ⟨l', hl', rfl⟩ := hl
      obtain ⟨i1, vs, h1, h2, h3⟩ := res_den h hl'
      obtain ⟨u, hu, hd⟩ := h.tm t _ hlk
      have hin := h.idT t _ hlk
      refine ⟨fun j y hj => ?_, u :: vs, ?_, by simp [h2], fun j y hj => ?_⟩
      · cases j with
        | zero => simp at hj; subst hj; exact hin
        | succ j => simp at hj; exact i1 j y hj
      · simp only [List.mapM_cons, Sem.run_bind, Sem.run_pure, Result.andThen_ok, h1]
        simp [Array.getD_eq_getD_getElem?, hu]
      · cases j with
        | zero => simp at hj; subst hj; exact ⟨u, rfl, hd⟩
        | succ j => simp at hj ⊢; exact h3 j y hj
    · simp [ev_fail] at hl
  | .cell t ty :: r, l, hl => by
    simp only [resM, ev_bind, ev_rd] at hl
    obtain ⟨kv, hk, hl⟩ := hl
    obtain ⟨tv, rfl, hlk⟩ := get_tm hk
    split at hl
    · rename_i id off e
      simp only [KV.tv.injEq] at e
      subst e
      simp only [ev_bind, ev_opt, ev_ret] at hl
      obtain ⟨sz, hsz, ag, hag, cl, hcl, x, hx, l', hl', rfl⟩ := hl
      obtain ⟨i1, vs, h1, h2, h3⟩ := res_den h hl'
      obtain ⟨u, hu, hd⟩ := h.tm t _ hlk
      have hd : u = .pointer (some ⟨(ρ id).1, off, none⟩) := hd
      obtain ⟨c1, c2⟩ := cells_den h hcl
      obtain ⟨y, hy, hdy⟩ := loadVar_den (D := D) (ρ := ρ) (w := w) (b := (ρ id).1) (o := off) hsz hag c1 (fun j x hj => (c2 j x hj).2) hx
      have hin : x.inS S := by
        rcases mkV_ev hx with ⟨_, rfl⟩ | ⟨_, z, rfl, rfl⟩
        · exact fun j x hj => (c2 j x hj).1
        · exact (c2 0 z (by simp)).1
      refine ⟨fun j z hj => ?_, y :: vs, ?_, by simp [h2], fun j z hj => ?_⟩
      · cases j with
        | zero => simp at hj; subst hj; exact hin
        | succ j => simp at hj; exact i1 j z hj
      · have hg : a.tmps.getD t undef = .pointer (some ⟨(ρ id).1, off, none⟩) := by simp [Array.getD_eq_getD_getElem?, hu, hd]
        simp only [List.mapM_cons, Sem.run_bind, hg, asAddr, Sem.run_pure, Result.andThen_ok, hy]
        erw [h1]
        rfl
      · cases j with
        | zero => simp at hj; subst hj; exact ⟨y, rfl, hdy⟩
        | succ j => simp at hj ⊢; exact h3 j z hj
    · simp [ev_fail] at hl

/-- How a function's end must stand: what it hands back, what the blocks hold (ids below 'kn': handed over; from 'kn' on: new ones, 'm' says which). -/
def sigF (kn : Nat) (m : List Nat) (i : Nat) : Nat := match Nat.blt i kn with
  | true => i
  | false => match nth m (i - kn) with
    | some j => j
    | none => i
def FinQ (P : Program) (rv : List ResultVar) (kn : Nat) (R : List V1 → List (Nat × Blk) → Prop) (st : St) : Prop :=
  ∃ rs hout m, R rs hout ∧ (resM P rv).Ev st.get (rs.map (V1.ren (sigF kn m))) ∧ (∀ id b, look hout id = some b → look st.hp (sigF kn m id) = some (b.ren (sigF kn m))) ∧
    (∀ i j bi bj, look hout i = some bi → look hout j = some bj → sigF kn m i = sigF kn m j → i = j) ∧
    (∀ (j : Nat) (x : V1), rs[j]? = some x → x.inS (fun i => ∃ c, look hout i = some c)) ∧ ∀ id b, look hout id = some b → b.inS (fun i => ∃ c, look hout i = some c)

theorem flatV_ren {x : V1} (h : x.flat = true) (σ : Nat → Nat) : x.ren σ = x := by
  have fl : ∀ {c : Cell}, c.flat = true → c.ren σ = c := by
    intro c hc
    cases c <;> simp only [Cell.flat, Bool.false_eq_true] at hc <;> rfl
  cases x with
  | c y => simp only [V1.ren]; rw [fl h]
  | agg l =>
    simp only [V1.ren]
    congr 1
    have : ∀ {l : List Cell}, flats l = true → l.map (Cell.ren σ) = l := by
      intro l
      induction l with
      | nil => intro _; rfl
      | cons y r ih => intro h; obtain ⟨h1, h2⟩ := bAnd_eq h; simp [fl h1, ih h2]
    exact this h
theorem flatsV_ren {σ : Nat → Nat} : ∀ {l : List V1}, flatsV l = true → l.map (V1.ren σ) = l
  | [], _ => rfl
  | x :: r, h => by obtain ⟨h1, h2⟩ := bAnd_eq h; simp [flatV_ren h1, flatsV_ren h2]
theorem flatV_inS {x : V1} (h : x.flat = true) (S : Nat → Prop) : x.inS S := by
  cases x with
  | c y => exact Cell.inS_flat h
  | agg l => exact fun j y hj => Cell.inS_flat (flats_get h hj)
theorem flatsV_inS {S : Nat → Prop} : ∀ {l : List V1}, flatsV l = true → ∀ (j : Nat) (x : V1), l[j]? = some x → x.inS S
  | [], _, j, x, hj => by simp at hj
  | y :: r, h, 0, x, hj => by obtain ⟨h1, _⟩ := bAnd_eq h; simp at hj; subst hj; exact flatV_inS h1 S
  | y :: r, h, j + 1, x, hj => by obtain ⟨_, h2⟩ := bAnd_eq h; simp at hj; exact flatsV_inS h2 j x hj

/-- A plain end. -/
theorem FinQ.pure {P : Program} {rv : List ResultVar} {kn : Nat} {st : St} {rs rs' : List V1} (h : resV P rv st = some rs') (e : rs' = rs) (hf : flatsV rs' = true) : FinQ P rv kn (fun r h => r = rs ∧ h = []) st := by
  subst e
  refine ⟨rs', [], [], ⟨rfl, rfl⟩, ?_, by intro id b h; simp [look] at h, by intro i j bi bj h; simp [look] at h, flatsV_inS hf, by intro id b h; simp [look] at h⟩
  rw [flatsV_ren hf]
  unfold resV at h
  cases hh : resM P rv st.get with
  | none => simp [hh] at h
  | some p => obtain ⟨l, r⟩ := p; simp only [hh, Option.some.injEq] at h; subst h; exact ⟨r, hh⟩

/-! a function -/
def argT : Nat → List V1 → List (Nat × TV)
  | _, [] => []
  | i, x :: r => (i, .v x) :: argT (i + 1) r
def hinB : Nat → List Blk → List (Nat × Blk)
  | _, [] => []
  | i, b :: r => (i, b) :: hinB (i + 1) r
def st0 (args : List V1) (hin : List Blk) : St := ⟨argT 0 args, hinB 0 hin, len hin⟩
theorem argT_look : ∀ (l : List V1) (k t : Nat), look (argT k l) t = if k ≤ t then (l[t - k]?).map TV.v else none
  | [], k, t => by simp [argT, look]
  | x :: r, k, t => by
    simp only [argT, look]
    cases hb : Nat.beq k t with
    | true => have := (beq_eq _ _).1 hb; subst this; simp
    | false =>
      have hne := (beq_ne _ _).1 hb
      simp only [argT_look r (k + 1) t]
      by_cases h : k ≤ t
      · rw [if_pos h, if_pos (by omega)]
        have : t - k = (t - (k + 1)) + 1 := by omega
        rw [this]; simp
      · rw [if_neg h, if_neg (by omega)]
theorem hinB_look : ∀ (l : List Blk) (k t : Nat), look (hinB k l) t = if k ≤ t then l[t - k]? else none
  | [], k, t => by simp [hinB, look]
  | x :: r, k, t => by
    simp only [hinB, look]
    cases hb : Nat.beq k t with
    | true => have := (beq_eq _ _).1 hb; subst this; simp
    | false =>
      have hne := (beq_ne _ _).1 hb
      simp only [hinB_look r (k + 1) t]
      by_cases h : k ≤ t
      · rw [if_pos h, if_pos (by omega)]
        have : t - k = (t - (k + 1)) + 1 := by omega
        rw [this]; simp
      · rw [if_neg h, if_neg (by omega)]

theorem ResDen.of {D : Dat} {ρ : Rho} {rs : List V1} {vs : Array Value} (h : DenL D ρ rs vs) : ResDen D ρ rs (if h : vs.size = 1 then vs[0] else .tuple vs) := by
  unfold ResDen
  split
  · rename_i x
    have hs : vs.size = 1 := h.1
    rw [dif_pos hs]
    obtain ⟨u, hu, hd⟩ := h.2 0 x rfl
    have : vs[0]'(by omega) = u := by
      rw [Array.getElem?_eq_getElem (by omega)] at hu
      simpa using hu
    rw [this]; exact hd
  · rename_i rs' hne
    have hs : vs.size ≠ 1 := by
      rw [h.1]
      intro e
      match rs, hne, e with
      | [x], hne, _ => exact hne x rfl
    rw [dif_neg hs]
    exact ⟨vs, rfl, h⟩

theorem Fn.of {P : Program} {G : Nat → Option (List Cell)} {f : FuncId} {fn : Func} {c : Code} {hin : List Blk} {args : List V1} {R : List V1 → List (Nat × Blk) → Prop}
    (hf : P.funcs[f]? = some fn) (hb : fn.body = some c) (hN : args.length ≤ fn.ntmps) (ha : ∀ (j : Nat) (x : V1), args[j]? = some x → x.inS (fun i => i < hin.length)) (hh : ∀ (i : Nat) (b : Blk), hin[i]? = some b → b.inS (fun i => i < hin.length))
    (h : Wp P G fn.ntmps hin.length [.code c] (FinQ P fn.results.toList hin.length R) (st0 args hin)) : Fn P G f hin args R := by
  intro D ρ w vs h1 h2 hgw h3 h4 h5
  refine calls_of_wp hf hb ?_
  let Γ : Ctx := ⟨P, G, D, ρ, hin.length, w, fn.ntmps⟩
  have hsat : Sat0 Γ (st0 args hin) { tmps := vs ++ Array.replicate (fn.ntmps - vs.size) undef, defers := [] } w := by
    have lookH : ∀ id b, look (st0 args hin).hp id = some b → hin[id]? = some b := by
      intro id b hb
      have hb : look (hinB 0 hin) id = some b := hb
      rw [hinB_look] at hb
      simpa using hb
    have lookT : ∀ t v, look (st0 args hin).tm t = some v → ∃ x, args[t]? = some x ∧ v = .v x := by
      intro t v hv
      have hv : look (argT 0 args) t = some v := hv
      rw [argT_look] at hv
      simp at hv
      obtain ⟨x, h1, h2⟩ := hv
      exact ⟨x, h1, h2.symm⟩
    have nxe : (st0 args hin).nx = hin.length := len_eq _
    have idlt : ∀ id b, hin[id]? = some b → id < hin.length := by
      intro id b hb
      rcases Nat.lt_or_ge id hin.length with h | h
      · exact h
      · simp [List.getElem?_eq_none h] at hb
    have glk : ∀ g cs, G g = some cs → cs ≠ [] → ∀ i, i < hin.length → (ρ i).2 ≠ 0 → (ρ i).1 ≠ g := by
      intro g cs hg hne i hi li e
      obtain ⟨x, r, rfl⟩ := List.exists_cons_of_ne_nil hne
      obtain ⟨u, hu, _⟩ := h2 g _ hg 0 x rfl
      have := (h4 i hin[i] (by simp [hi])).2 li 0
      rw [e, hu] at this
      cases this
    refine ⟨D, ρ, { defers := rfl, size := ?_, tm := ?_, hp := fun id b hb => (h4 id b (lookH id b hb)).1, inj := ?_, agree := h3, sep := fun id b hb => (h4 id b (lookH id b hb)).2, le := DatLe.refl _, glob := h2, gl := ⟨hgw, glk⟩, own := ?_, kin := fun i _ => rfl, newD := fun b o v h => .inl h, frame := fun b _ _ => rfl, os := rfl, tape := rfl, output := rfl, grow := Nat.le_refl _, idT := ?_, idH := ?_, kinS := fun i hi => by rw [nxe]; exact hi }⟩
    · show (vs ++ Array.replicate (fn.ntmps - vs.size) undef).size = fn.ntmps
      have := h1.1
      simp only [Array.size_append, Array.size_replicate]
      omega
    · intro t v hv
      obtain ⟨x, hx, rfl⟩ := lookT t v hv
      obtain ⟨u, hu, hd⟩ := h1.2 t x hx
      refine ⟨u, ?_, hd⟩
      rw [Array.getElem?_append]
      have : t < vs.size := by
        rcases Nat.lt_or_ge t vs.size with h | h
        · exact h
        · simp [Array.getElem?_eq_none h] at hu
      rw [if_pos this]; exact hu
    · intro i j bi bj hi hj li lj e
      exact h5 i j bi bj (lookH i bi hi) (lookH j bj hj) li lj e
    · intro id b hb lv
      exact .inr ⟨id, idlt id b (lookH id b hb), lv, rfl⟩
    · intro t v hv
      obtain ⟨x, hx, rfl⟩ := lookT t v hv
      rw [nxe]
      exact ha t x hx
    · intro id b hb
      have := lookH id b hb
      rw [nxe]
      exact ⟨idlt id b this, hh id b this⟩
  have hw := h Γ rfl rfl rfl rfl _ w hsat
  refine Go.wp_mono hw ?_
  have fin : ∀ (st' : St) (a' : Act) (w' : World), FinQ P fn.results.toList hin.length R st' → Sat0 Γ st' a' w' →
      a'.defers = [] ∧ ∃ v, (results fn a'.tmps).run P w' = .ok v w' ∧ ∃ rs hout D' ρ' v', Ending.returned v = .returned v' ∧ R rs hout ∧ ResDen D' ρ' rs v' ∧ (∀ (j : Nat) (x : V1), rs[j]? = some x → x.inS (fun i => ∃ c, look hout i = some c)) ∧ After hin.length D ρ w D' ρ' w' hout := by
    rintro st' a' w' ⟨rs, hout, m, hR, hres, hblk, hinj, hrs, hho⟩ ⟨D', ρ', hs⟩
    refine ⟨hs.defers, ?_⟩
    obtain ⟨i1, vs', r1, r2, r3⟩ := res_den hs hres
    have hden : DenL D' ρ' (rs.map (V1.ren (sigF hin.length m))) vs'.toArray := ⟨by simp [r2], fun j x hj => by simpa using r3 j x hj⟩
    have hden := DenL.map_ren.1 hden
    have sk : ∀ i, i < hin.length → sigF hin.length m i = i := by
      intro i hi
      unfold sigF
      rw [show Nat.blt i hin.length = true from Nat.ble_eq_true_of_le hi]
    refine ⟨_, ?_, rs, hout, D', fun i => ρ' (sigF hin.length m i), _, rfl, hR, ResDen.of hden, hrs, ?_⟩
    · simp only [results, Sem.run_bind]
      rw [Array.mapM_eq_mapM_toList]
      have r1' : (fn.results.toList.mapM (fun
        | ResultVar.tmp t => pure (a'.tmps.getD t undef)
        | .cell ad t => do loadVar t (← asAddr (a'.tmps.getD ad undef)) : ResultVar → Sem Value)).run P w' = .ok vs' w' := r1
      simp only [Sem.run_map]
      erw [r1']
      rfl
    · refine { hp := fun id b hb => BlkSat.ren.1 (hs.hp _ _ (hblk id b hb)), inj := fun i j bi bj hi hj li lj e => hinj i j bi bj hi hj (hs.inj _ _ _ _ (hblk i bi hi) (hblk j bj hj) li lj e), sep := fun id b hb lv o => hs.sep _ _ (hblk id b hb) lv o, agree := hs.agree, le := hs.le, kin := ?_, own := ?_, newD := hs.newD, frame := hs.frame, os := hs.os, tape := hs.tape, output := hs.output, grow := hs.grow, ids := hho }
      · intro i hi
        show ρ' (sigF hin.length m i) = ρ i
        rw [sk i hi]
        exact hs.kin i hi
      · intro id b hb lv
        exact hs.own _ _ (hblk id b hb) lv
  rintro e a' w' ⟨st', q, s⟩
  cases e with
  | normal => exact fin st' a' w' q s
  | ret => exact fin st' a' w' q s
  | exit id => exact q.elim
  | goto l => exact q.elim
  | panic ch => exact q.elim
  | outgrown => exact q.elim
end Go.Sv
