/-
  Own layer 'SV' (5): operations that leave memory alone: what the executor says of them holds.
-/
import Derived.Test.YtmacpjddafcjcaaDoorSvSat
set_option linter.all false
namespace Go.Sv
open M

def wPlus (W : Nat → Prop) (d : Nat) : Nat → Prop := fun t => W t ∨ t = d

def PureOk (Γ : Ctx) (S W : Nat → Prop) (D : Dat) (ρ : Rho) (st : St) (a : Act) (w : World) (g : OG) (d : Nat) (eff : Eff) (sem : Sem Value) : Prop :=
  (Exec g a → ∃ u, sem.run Γ.P w = .ok u w ∧ Sat Γ S (wPlus W d) D ρ (st.sets eff.wr) (a.put (some d) u) w) ∧
  (¬ Exec g a → Sat Γ S (wPlus W d) D ρ (st.sets eff.wr) (a.put (some d) undef) w)

theorem under_exec {W : Nat → Prop} {a : Act} {g : OG} {p : Prop} (h : under g p) (hg : GdOk W g a) (he : Exec g a) : p := by
  cases g with
  | none => exact h
  | some gd => exact h ((hg gd rfl).p (he gd rfl))

section
variable {Γ : Ctx} {S W : Nat → Prop} {D : Dat} {ρ : Rho} {st : St} {a : Act} {w : World} {E : Env} {i d : Nat} {g : OG} {eff : Eff}

theorem fin_wr (h : Sat Γ S W D ρ st a w) (hg : GdOk W g a) (hd : d < Γ.N) (hnd : ¬ W d) {v' : V1} {sem : Sem Value}
    (hwr : eff.wr = [(.tm d, .tv (wrTV g v'))]) (hin' : v'.inS S) (hex' : Exec g a → ∃ u, sem.run Γ.P w = .ok u w ∧ DenV D ρ v' u) : PureOk Γ S W D ρ st a w g d eff sem := by
  have hW : ∀ t, W t → wPlus W d t := fun t ht => .inl ht
  rw [PureOk, hwr]
  simp only [St.sets]
  have keep : ∀ (gd : Gd), g = some gd → ∀ {u : Value}, (a.put (some d) u).tmps[gd.t]? = a.tmps[gd.t]? := by
    intro gd e u
    have hne : d ≠ gd.t := fun e' => hnd (e' ▸ (hg gd e).wr)
    simp only [Act.put]
    rw [Array.getElem?_setIfInBounds, if_neg hne]
  constructor
  · intro he
    obtain ⟨u, hu, hdn⟩ := hex' he
    refine ⟨u, hu, h.put hd hnd hW ?_ ?_⟩
    · cases g with
      | none => exact hdn
      | some gd => exact ⟨hW _ (hg gd rfl).wr, fun _ => hdn, fun hn => (hn (keep gd rfl ▸ he gd rfl)).elim⟩
    · cases g <;> exact hin'
  · intro he
    refine h.put hd hnd hW ?_ ?_
    · cases g with
      | none => exact (he (fun gd hh => by cases hh)).elim
      | some gd =>
        refine ⟨hW _ (hg gd rfl).wr, fun ht => ?_, fun _ => rfl⟩
        rw [keep gd rfl] at ht
        exact (he (fun gd' hh => by cases hh; exact ht)).elim
    · cases g <;> exact hin'

theorem fin_ok (h : Sat Γ S W D ρ st a w) (hg : GdOk W g a) (hd : d < Γ.N) (hnd : ¬ W d) {vc : List Prop} {v : V1} {sem : Sem Value} {L : Key → Option KV}
    (hf : (finM E i g d vc v).Ev L eff) (hvc : ∀ p ∈ eff.vc, p) (hin : v.inS S)
    (hex : Exec g a → (∀ p ∈ vc, p) → ∃ u, sem.run Γ.P w = .ok u w ∧ DenV D ρ v u) : PureOk Γ S W D ρ st a w g d eff sem := by
  unfold finM at hf
  have key : ∃ v', eff.wr = [(.tm d, .tv (wrTV g v'))] ∧ v'.inS S ∧ (Exec g a → ∃ u, sem.run Γ.P w = .ok u w ∧ DenV D ρ v' u) := by
    cases hl : look E.as i with
    | none =>
      simp only [hl, ev_ret] at hf
      subst hf
      exact ⟨v, rfl, hin, fun he => hex he hvc⟩
    | some v' =>
      simp only [hl, ev_ret] at hf
      subst hf
      have h1 : EqvI v v' := hvc _ (by simp)
      have h2 : under g (EqvD v v') := hvc _ (by simp)
      refine ⟨v', rfl, h1 _ hin, fun he => ?_⟩
      obtain ⟨u, hu, hd⟩ := hex he (fun p hp => hvc p (by simp [hp]))
      exact ⟨u, hu, under_exec h2 hg he _ _ _ hd⟩
  obtain ⟨v', hwr, hin', hex'⟩ := key
  exact fin_wr h hg hd hnd hwr hin' hex'

/-! memory that is read -/
theorem cells_den (h : Sat Γ S W D ρ st a w) {id : Nat} : ∀ {n off : Nat} {l : List Cell}, (cellsM id off n).Ev st.get l →
    l.length = n ∧ (∀ (j : Nat) (x : Cell), l[j]? = some x → x.inS S ∧ ∃ u, w.cell? ⟨(ρ id).1, off + j, none⟩ = some u ∧ Den D ρ x u) := by
  intro n
  induction n with
  | zero => intro off l hl; simp only [cellsM, ev_ret] at hl; subst hl; simp
  | succ n ih =>
    intro off l hl
    simp only [cellsM, ev_bind, ev_rd] at hl
    obtain ⟨kv, hk, hl⟩ := hl
    obtain ⟨e, cs, x, hb, hx, rfl⟩ := get_cl hk
    simp only [ev_bind, ev_ret] at hl
    obtain ⟨r, hr, rfl⟩ := hl
    obtain ⟨h1, h2⟩ := ih hr
    refine ⟨by simp [h1], fun j y hj => ?_⟩
    cases j with
    | zero =>
      simp only [List.getElem?_cons_zero, Option.some.injEq] at hj
      subst hj
      obtain ⟨_, vs, fz, e1, e2, e3, e4⟩ := h.hp id _ hb
      obtain ⟨u, hu, hd⟩ := e4 off x hx
      refine ⟨(h.idH id _ hb).2 off x hx, u, ?_, hd⟩
      simp only [World.cell?, Nat.add_zero, e1, Option.isSome_none, Bool.false_eq_true, if_false]
      exact hu
    | succ j =>
      simp only [List.getElem?_cons_succ] at hj
      obtain ⟨q1, u, q2, q3⟩ := h2 j y hj
      exact ⟨q1, u, by rw [← q2]; congr 2; omega, q3⟩

theorem mkV_ev {ag : Bool} {l : List Cell} {v : V1} {L : Key → Option KV} (h : (mkV ag l).Ev L v) : (ag = true ∧ v = .agg l) ∨ (ag = false ∧ ∃ x, l = [x] ∧ v = .c x) := by
  cases ag with
  | true => simp only [mkV, ev_ret] at h; exact .inl ⟨rfl, h.symm⟩
  | false =>
    simp only [mkV] at h
    match l, h with
    | [], h => simp [ev_fail] at h
    | [x], h => simp only [ev_ret] at h; exact .inr ⟨rfl, x, rfl, h.symm⟩
    | _ :: _ :: _, h => simp [ev_fail] at h

theorem tSize_run {P : Program} {t : TypeId} {n : Nat} (h : tSize P t = some n) (w : World) : (sizeOf t).run P w = .ok n w := by
  unfold tSize at h
  cases hi : P.info? t with
  | none => simp [hi] at h
  | some i =>
    simp only [hi, Option.some.injEq] at h
    have : (typeInfo t).run P w = .ok i w := by simp [typeInfo, program, Sem.run, hi]
    simp [sizeOf, this, h]
theorem under_run {P : Program} {t : TypeId} {d : TypeDesc} (h : P.underlying t = some d) (w : World) : (underlying t).run P w = .ok d w := by
  simp [underlying, program, Sem.run, h]
theorem tAgg_run {P : Program} {t : TypeId} {b : Bool} (h : tAgg P t = some b) (w : World) : (isAgg t).run P w = .ok b w := by
  unfold tAgg at h
  cases hi : P.underlying t with
  | none => simp [hi] at h
  | some d =>
    simp only [hi, Option.some.injEq] at h
    subst h
    simp only [isAgg, Sem.run_bind, under_run hi, Result.andThen_ok]
    cases d <;> rfl

theorem addr_add (b o n : Nat) : (⟨b, o, none⟩ : Addr).add n = ⟨b, o + n, none⟩ := by
  unfold Addr.add
  split
  · rename_i h; subst h; rfl
  · rfl

/-- A value of one cell, or an aggregate, read out of memory. -/
theorem loadVar_den {P : Program} {t : TypeId} {sz : Nat} {ag : Bool} (hsz : tSize P t = some sz) (hag : tAgg P t = some ag) {b o : Nat} {l : List Cell} (hl : l.length = sz) {D : Dat} {ρ : Rho} {w : World}
    (hc : ∀ (j : Nat) (x : Cell), l[j]? = some x → ∃ u, w.cell? ⟨b, o + j, none⟩ = some u ∧ Den D ρ x u) {v : V1} {L : Key → Option KV} (hv : (mkV ag l).Ev L v) :
    ∃ u, (loadVar t ⟨b, o, none⟩).run P w = .ok u w ∧ DenV D ρ v u := by
  rcases mkV_ev hv with ⟨rfl, rfl⟩ | ⟨rfl, x, rfl, rfl⟩
  · have hf : ∃ f : Nat → Value, ∀ j (h : j < l.length), w.cell? ⟨b, o + j, none⟩ = some (f j) ∧ Den D ρ l[j] (f j) := by
      refine ⟨fun j => (w.cell? ⟨b, o + j, none⟩).getD undef, fun j h => ?_⟩
      obtain ⟨u, hu, hd⟩ := hc j l[j] (by simp [h])
      simp only [hu, Option.getD_some]
      exact ⟨trivial, hd⟩
    obtain ⟨f, hf⟩ := hf
    refine ⟨.agg ((List.range sz).map f).toArray, ?_, ?_⟩
    · simp only [loadVar, Sem.run_bind, tAgg_run hag, Result.andThen_ok, if_true, tSize_run hsz]
      rw [run_loadCells w ⟨b, o, none⟩ sz f (fun j hj => by rw [addr_add]; exact (hf j (by omega)).1)]
      rfl
    · refine ⟨_, rfl, by simp [hl], fun j x hj => ?_⟩
      have hlt : j < l.length := by
        rcases Nat.lt_or_ge j l.length with h | h
        · exact h
        · simp [List.getElem?_eq_none h] at hj
      have hx : l[j] = x := by simpa [hlt] using hj
      refine ⟨f j, by simp [← hl, hlt], hx ▸ (hf j hlt).2⟩
  · obtain ⟨u, hu, hd⟩ := hc 0 x (by simp)
    refine ⟨u, ?_, hd⟩
    simp only [loadVar, Sem.run_bind, tAgg_run hag, Result.andThen_ok, Bool.false_eq_true, if_false, run_load]
    simp only [Nat.add_zero] at hu
    simp [hu]

theorem upL_len {α : Type} (f : Nat → α) (n k : Nat) : (upL f k n).length = n := by
  induction n generalizing k with
  | zero => rfl
  | succ n ih => simp [upL, ih]
theorem upL_get {α : Type} (f : Nat → α) (n k j : Nat) : (upL f k n)[j]? = if j < n then some (f (k + j)) else none := by
  induction n generalizing k j with
  | zero => simp [upL]
  | succ n ih =>
    cases j with
    | zero => simp [upL]
    | succ j => simp only [upL, List.getElem?_cons_succ, ih, Nat.add_lt_add_iff_right, Nat.add_assoc, Nat.add_comm 1 j]

theorem row_ev {id : Nat} {r : TypeId × Nat × Nat × (Nat → Nat → Cell)} (h : (rowM id).Ev st.get r) : look st.hp id = some (.row r.1 r.2.1 r.2.2.1 r.2.2.2) := by
  simp only [rowM, ev_bind, ev_rd] at h
  obtain ⟨kv, hk, hl⟩ := h
  obtain ⟨b, rfl, hb⟩ := get_bk hk
  cases b with
  | box e cs => simp [ev_fail] at hl
  | row e sz n f => simp only [ev_ret] at hl; subst hl; exact hb
  | ob o => simp [ev_fail] at hl


theorem flats_get {l : List Cell} (h : flats l = true) : ∀ {j : Nat} {x : Cell}, l[j]? = some x → x.flat = true := by
  induction l with
  | nil => intro j x hj; simp at hj
  | cons y r ih =>
    intro j x hj
    obtain ⟨h1, h2⟩ := bAnd_eq h
    cases j with
    | zero => simp at hj; subst hj; exact h1
    | succ j => simp at hj; exact ih h2 hj
theorem fin_vc {vc : List Prop} {v : V1} {L : Key → Option KV} (hf : (finM E i g d vc v).Ev L eff) (hvc : ∀ p ∈ eff.vc, p) : ∀ p ∈ vc, p := by
  unfold finM at hf
  cases hl : look E.as i with
  | none => simp only [hl, ev_ret] at hf; subst hf; exact hvc
  | some v' => simp only [hl, ev_ret] at hf; subst hf; exact fun p hp => hvc p (by simp [hp])

theorem load_ok (hP : E.P = Γ.P) (hG : E.G = Γ.G) (h : Sat Γ S W D ρ st a w) (hg : GdOk W g a) (hd : d < Γ.N) (hnd : ¬ W d) {t : TypeId} {x : Operand}
    (hf : (loadM E i g d t x).Ev st.get eff) (hvc : ∀ p ∈ eff.vc, p) : PureOk Γ S W D ρ st a w g d eff (Instr.loadAt t (a.eval x)) := by
  simp only [loadM, ev_bind, ev_opt] at hf
  obtain ⟨v, hv, c, hc, sz, hsz, ag, hag, hf⟩ := hf
  cases v with
  | agg l => simp [cellM, ev_fail] at hc
  | c c' =>
  simp only [cellM, ev_ret] at hc
  subst hc
  rw [hP] at hsz hag
  have hS := opd_inS hG h hv
  cases c' with
  | ptr id off =>
    simp only [ev_bind] at hf
    obtain ⟨l, hl, v, hmk, hf⟩ := hf
    obtain ⟨hlen, hcells⟩ := cells_den h hl
    refine fin_ok h hg hd hnd hf hvc ?_ (fun he _ => ?_)
    · rcases mkV_ev hmk with ⟨_, rfl⟩ | ⟨_, x, rfl, rfl⟩
      · exact fun j x hj => (hcells j x hj).1
      · exact (hcells 0 x (by simp)).1
    · have hden := opd_den hG h hg he hv
      simp only [DenV, Den] at hden
      obtain ⟨u, hu, hdn⟩ := loadVar_den (D := D) (ρ := ρ) (w := w) (b := (ρ id).1) (o := off) hsz hag hlen (fun j x hj => (hcells j x hj).2) hmk
      exact ⟨u, by simp [Instr.loadAt, hden, Instr.sureAddr, hu], hdn⟩
  | dp m k =>
    simp only [ev_bind, ev_guard] at hf
    obtain ⟨_, hle, v, hmk, hf⟩ := hf
    have hle := Nat.le_of_ble_eq_true hle
    have hget : ∀ (j : Nat) (x : Cell), (upL k 0 sz)[j]? = some x → j < sz ∧ x = k j := by
      intro j x hj
      rw [upL_get] at hj
      split at hj
      · rename_i hlt; simp only [Option.some.injEq, Nat.zero_add] at hj; exact ⟨hlt, hj.symm⟩
      · cases hj
    have hraw : Exec g a → ∃ u, (Instr.loadAt t (a.eval x)).run Γ.P w = .ok u w ∧ DenV D rho0 v u := by
      intro he
      have hden := opd_den hG h hg he hv
      simp only [DenV, Den] at hden
      obtain ⟨b, o, hv0, hcl⟩ := hden
      obtain ⟨u, hu, hdn⟩ := loadVar_den (D := D) (ρ := rho0) (w := w) (b := b) (o := o) hsz hag (upL_len k sz 0) (fun j x hj => by
        obtain ⟨hlt, rfl⟩ := hget j x hj
        obtain ⟨u, hu, hdd⟩ := hcl j (by omega)
        exact ⟨u, h.agree _ _ _ hu, hdd⟩) hmk
      exact ⟨u, by simp [Instr.loadAt, hv0, Instr.sureAddr, hu], hdn⟩
    have flatD : ∀ {v : V1} {u : Value}, flats v.cells = true → DenV D rho0 v u → DenV D ρ v u ∧ v.inS S := by
      intro v u hfl hd
      cases v with
      | c x =>
        have hx : x.flat = true := flats_get (l := [x]) hfl (j := 0) (by simp)
        exact ⟨Den.flat hx hd, Cell.inS_flat hx⟩
      | agg l =>
        obtain ⟨us, e, hs, hx⟩ := hd
        exact ⟨⟨us, e, hs, fun j x hj => let ⟨u, hu, hd⟩ := hx j x hj; ⟨u, hu, Den.flat (flats_get hfl hj) hd⟩⟩, fun j x hj => Cell.inS_flat (flats_get hfl hj)⟩
    have flatS : ∀ {v : V1}, flats v.cells = true → v.inS S := by
      intro v hfl
      cases v with
      | c x => exact Cell.inS_flat (flats_get (l := [x]) hfl (j := 0) (by simp))
      | agg l => exact fun j x hj => Cell.inS_flat (flats_get hfl hj)
    unfold flatM at hf
    split at hf
    · simp only [ev_bind, ev_guard, ev_ret] at hf
      obtain ⟨_, hfl, rfl⟩ := hf
      refine fin_wr h hg hd hnd rfl (flatS hfl) (fun he => ?_)
      obtain ⟨u, hu, hdn⟩ := hraw he
      exact ⟨u, hu, (flatD hfl hdn).1⟩
    · rename_i v' _
      simp only [ev_bind, ev_guard, ev_ret] at hf
      obtain ⟨_, hfl, rfl⟩ := hf
      have hq : under g (EqvD v v') := hvc _ (by simp)
      refine fin_wr h hg hd hnd rfl (flatS hfl) (fun he => ?_)
      obtain ⟨u, hu, hdn⟩ := hraw he
      exact ⟨u, hu, (flatD hfl (under_exec hq hg he _ _ _ hdn)).1⟩
  | rp s id e o =>
    simp only [ev_bind, ev_guard] at hf
    obtain ⟨r, hr, _, hle, _, hfg, v, hmk, hf⟩ := hf
    obtain ⟨hle1, hle2⟩ := bAnd_eq hle
    have hle1 := (beq_eq _ _).1 hle1
    have hle2 := Nat.le_of_ble_eq_true hle2
    have hrow := row_ev hr
    have hget : ∀ (j : Nat) (x : Cell), (upL (fun j => r.2.2.2 e j) o sz)[j]? = some x → j < sz ∧ x = r.2.2.2 e (o + j) := by
      intro j x hj
      rw [upL_get] at hj
      split at hj
      · rename_i hlt; simp only [Option.some.injEq] at hj; exact ⟨hlt, hj.symm⟩
      · cases hj
    have hvc' : ∀ p ∈ eff.vc, p := hvc
    by_cases he : Exec g a
    · have hlt : e < r.2.2.1 := by
        have : under g (e < r.2.2.1) := by
          have := fin_vc hf hvc
          exact this _ (by simp)
        exact under_exec this hg he
      refine fin_ok h hg hd hnd hf hvc ?_ (fun he _ => ?_)
      · have hin := (h.idH id _ hrow).2
        rcases mkV_ev hmk with ⟨_, rfl⟩ | ⟨_, x, hx, rfl⟩
        · intro j x hj
          obtain ⟨h1, rfl⟩ := hget j x hj
          exact hin e hlt _ (by omega)
        · obtain ⟨h1, h2⟩ := hget 0 x (by simp [hx])
          rw [h2]
          exact hin e hlt _ (by omega)
      · have hden := opd_den hG h hg he hv
        simp only [DenV, Den] at hden
        obtain ⟨vs, fz, e1, e2, e3, e4, e5, e6, e7, e8⟩ := (h.hp id _ hrow).resolve_left (fun hh => by have := hh.2.1; omega)
        obtain ⟨u, hu, hdn⟩ := loadVar_den (D := D) (ρ := ρ) (w := w) (b := (ρ id).1) (o := e * s + o) hsz hag (upL_len (fun j => r.2.2.2 e j) sz o) (fun j x hj => by
          obtain ⟨h1, rfl⟩ := hget j x hj
          obtain ⟨u, hu, hdd⟩ := e8 e hlt (o + j) (by omega)
          refine ⟨u, ?_, hdd⟩
          simp only [World.cell?, e1, Option.isSome_none, Bool.false_eq_true, if_false]
          rw [← hu, hle1, Nat.add_assoc]) hmk
        exact ⟨u, by simp [Instr.loadAt, hden, Instr.sureAddr, hu], hdn⟩
    · cases g with
      | none => exact (he (fun gd hh => by cases hh)).elim
      | some gd =>
        simp only [flatG, ev_guard] at hfg
        refine fin_ok h hg hd hnd hf hvc ?_ (fun he' _ => (he he').elim)
        rcases mkV_ev hmk with ⟨_, rfl⟩ | ⟨_, x, hx, rfl⟩
        · exact fun j x hj => Cell.inS_flat (flats_get hfg hj)
        · exact Cell.inS_flat (flats_get hfg (j := 0) (x := x) (by simp [hx]))
  | _ => simp [ev_fail] at hf
end
end Go.Sv
