/-
  Own layer 'SV' (4): how 'Sat' goes on over a slot's value, a new block, a store; operands.
-/
import Derived.Test.YtmacpjddafcjcaaDoorSvOps
import Derived.Laws.Cells
import Derived.Laws.IdiomCopy
set_option linter.all false
namespace Go.Sv
open M

theorem put_size (a : Act) (d : Option Tmp) (u : Value) : (a.put d u).tmps.size = a.tmps.size := by
  cases d <;> simp [Act.put]
theorem put_defers (a : Act) (d : Option Tmp) (u : Value) : (a.put d u).defers = a.defers := by
  cases d <;> simp [Act.put]
theorem put_get (a : Act) (d t : Tmp) (u : Value) (h : d < a.tmps.size) : (a.put (some d) u).tmps[t]? = if d = t then some u else a.tmps[t]? := by
  simp only [Act.put]
  rw [Array.getElem?_setIfInBounds]
  split
  · rename_i e; subst e; simp [h]
  · rfl

theorem DenT.put {D : Dat} {ρ : Rho} {W W' : Nat → Prop} {a : Act} {d : Nat} (hnd : ¬ W d) (hW : ∀ t, W t → W' t) {u : Value} {v : TV} {x : Value}
    (h : DenT D ρ W a.tmps v x) : DenT D ρ W' (a.put (some d) u).tmps v x := by
  cases v with
  | v y => exact h
  | tup l => exact h
  | junk => trivial
  | cnd t w y =>
    have hne : d ≠ t := fun e => hnd (e ▸ h.1)
    have e : (a.put (some d) u).tmps[t]? = a.tmps[t]? := by
      simp only [Act.put]
      rw [Array.getElem?_setIfInBounds, if_neg hne]
    exact ⟨hW _ h.1, fun ht => h.2.1 (e ▸ ht), fun ht => h.2.2 (e ▸ ht)⟩

theorem set_tm_look (st : St) (d : Nat) (v : TV) (t : Nat) : look (st.set (.tm d) (.tv v)).tm t = if d = t then some v else look st.tm t := look_put _ _ _ _
theorem set_tm_hp (st : St) (d : Nat) (v : TV) : (st.set (.tm d) (.tv v)).hp = st.hp := rfl

/-- A value into a slot. -/
theorem Sat.put {Γ : Ctx} {S W W' : Nat → Prop} {D : Dat} {ρ : Rho} {st : St} {a : Act} {w : World} (h : Sat Γ S W D ρ st a w) {d : Nat} (hd : d < Γ.N) (hnd : ¬ W d)
    (hW : ∀ t, W t → W' t) {u : Value} {v : TV} (hden : DenT D ρ W' (a.put (some d) u).tmps v u) (hin : v.inS S) :
    Sat Γ S W' D ρ (st.set (.tm d) (.tv v)) (a.put (some d) u) w := by
  have hsz : d < a.tmps.size := by rw [h.size]; exact hd
  refine { h with defers := ?_, size := ?_, tm := ?_, idT := ?_ }
  · rw [put_defers]; exact h.defers
  · rw [put_size]; exact h.size
  · intro t x hx
    rw [set_tm_look] at hx
    rw [put_get _ _ _ _ hsz]
    by_cases e : d = t
    · subst e
      rw [if_pos rfl] at hx ⊢
      simp only [Option.some.injEq] at hx
      subst hx
      exact ⟨u, rfl, hden⟩
    · rw [if_neg e] at hx ⊢
      obtain ⟨y, hy, hdy⟩ := h.tm t x hx
      exact ⟨y, hy, hdy.put hnd hW⟩
  · intro t x hx
    rw [set_tm_look] at hx
    by_cases e : d = t
    · rw [if_pos e] at hx; simp only [Option.some.injEq] at hx; subst hx; exact hin
    · rw [if_neg e] at hx; exact h.idT t x hx

/-- A slot is written, the state says no more of it. -/
theorem Sat.gone {Γ : Ctx} {S W W' : Nat → Prop} {D : Dat} {ρ : Rho} {st : St} {a : Act} {w : World} (h : Sat Γ S W D ρ st a w) {d : Nat} (hd : d < Γ.N) (hnd : ¬ W d)
    (hW : ∀ t, W t → W' t) {u : Value} :
    Sat Γ S W' D ρ (st.set (.tm d) .gone) (a.put (some d) u) w := by
  have hsz : d < a.tmps.size := by rw [h.size]; exact hd
  refine { h with defers := ?_, size := ?_, tm := ?_, idT := ?_ }
  · rw [put_defers]; exact h.defers
  · rw [put_size]; exact h.size
  · intro t x hx
    have hx : look (del st.tm d) t = some x := hx
    rw [look_del] at hx
    rw [put_get _ _ _ _ hsz]
    by_cases e : d = t
    · rw [if_pos e] at hx; cases hx
    · rw [if_neg e] at hx ⊢
      obtain ⟨y, hy, hdy⟩ := h.tm t x hx
      exact ⟨y, hy, hdy.put hnd hW⟩
  · intro t x hx
    have hx : look (del st.tm d) t = some x := hx
    rw [look_del] at hx
    by_cases e : d = t
    · rw [if_pos e] at hx; cases hx
    · rw [if_neg e] at hx; exact h.idT t x hx

theorem Sat.mono {Γ : Ctx} {S S' W W' : Nat → Prop} {D : Dat} {ρ : Rho} {st : St} {a : Act} {w : World} (h : Sat Γ S W D ρ st a w) (hS : ∀ i, S i → S' i) (hW : ∀ t, W t → W' t) :
    Sat Γ S' W' D ρ st a w := by
  refine { h with tm := ?_, idT := ?_, idH := ?_, kinS := fun i hi => hS _ (h.kinS i hi) }
  · intro t v hv
    obtain ⟨u, hu, hd⟩ := h.tm t v hv
    refine ⟨u, hu, ?_⟩
    cases v with
    | v x => exact hd
    | tup l => exact hd
    | junk => trivial
    | cnd t w x => exact ⟨hW _ hd.1, hd.2⟩
  · exact fun t v hv => TV.inS_mono hS (h.idT t v hv)
  · exact fun id b hb => ⟨hS _ (h.idH id b hb).1, Blk.inS_mono hS (h.idH id b hb).2⟩

/-! operands -/
def Exec (g : OG) (a : Act) : Prop := ∀ gd, g = some gd → a.tmps[gd.t]? = some (.bool gd.w)
structure GdOk1 (W : Nat → Prop) (gd : Gd) (a : Act) : Prop where
  wr : W gd.t
  ch : a.tmps[gd.t]? = some (.bool gd.w) → ∀ t w, (t, w) ∈ gd.ch → a.tmps[t]? = some (.bool w)
  p : a.tmps[gd.t]? = some (.bool gd.w) → gd.p
def GdOk (W : Nat → Prop) (g : OG) (a : Act) : Prop := ∀ gd, g = some gd → GdOk1 W gd a

theorem bAnd_eq {a b : Bool} (h : bAnd a b = true) : a = true ∧ b = true := by cases a <;> simp_all [bAnd]
theorem inCh_mem {t : Nat} {w : Bool} : ∀ {l : List (Nat × Bool)}, inCh t w l = true → (t, w) ∈ l
  | [], h => by simp [inCh] at h
  | (t', w') :: r, h => by
    simp only [inCh] at h
    cases hb : bAnd (Nat.beq t t') (bEq w w') with
    | true =>
      obtain ⟨h1, h2⟩ := bAnd_eq hb
      rw [(beq_eq _ _).1 h1, bEq_eq h2]
      exact List.mem_cons_self ..
    | false => rw [hb] at h; exact List.mem_cons_of_mem _ (inCh_mem h)

theorem cstC_den {v : Value} {c : Cell} (h : cstC v = some c) (D : Dat) (ρ : Rho) : Den D ρ c v := by
  cases v <;> simp only [cstC, reduceCtorEq, Option.some.injEq] at h
  case int => subst h; rfl
  case bool => subst h; rfl
  case string s => subst h; simp [Den]
  case pointer a => cases a <;> simp at h; subst h; rfl
  case slice a n cp =>
    cases a <;> cases n <;> cases cp <;> simp at h
    subst h; rfl
  case map r => cases r <;> simp at h; subst h; rfl
  case nilFunc => subst h; rfl
  case nilIface => subst h; rfl
theorem cstC_inS {v : Value} {c : Cell} (h : cstC v = some c) (S : Nat → Prop) : c.inS S := by
  cases v <;> simp only [cstC, reduceCtorEq, Option.some.injEq] at h
  case int => subst h; trivial
  case bool => subst h; trivial
  case string s => subst h; trivial
  case pointer a => cases a <;> simp at h; subst h; trivial
  case slice a n cp =>
    cases a <;> cases n <;> cases cp <;> simp at h
    subst h; trivial
  case map r => cases r <;> simp at h; subst h; trivial
  case nilFunc => subst h; trivial
  case nilIface => subst h; trivial
theorem cstL_den : ∀ {l : List Value} {cs : List Cell} (h : cstL l = some cs) (D : Dat) (ρ : Rho), cs.length = l.length ∧ ∀ (j : Nat) (x : Cell), cs[j]? = some x → ∃ u, l[j]? = some u ∧ Den D ρ x u := by
  intro l
  induction l with
  | nil => intro cs h D ρ; simp [cstL] at h; subst h; simp
  | cons v r ih =>
    intro cs h D ρ
    simp only [cstL] at h
    cases hc : cstC v with
    | none => simp [hc] at h
    | some c =>
      simp only [hc] at h
      cases hl : cstL r with
      | none => simp [hl] at h
      | some l =>
        simp only [hl, Option.some.injEq] at h
        subst h
        obtain ⟨h1, h2⟩ := ih hl D ρ
        refine ⟨by simp [h1], fun j x hj => ?_⟩
        cases j with
        | zero => simp at hj; subst hj; exact ⟨v, by simp, cstC_den hc D ρ⟩
        | succ j => simp at hj ⊢; exact h2 j x hj
theorem cstL_inS : ∀ {l : List Value} {cs : List Cell} (h : cstL l = some cs) (S : Nat → Prop) (j : Nat) (x : Cell), cs[j]? = some x → x.inS S := by
  intro l
  induction l with
  | nil => intro cs h S j x hj; simp [cstL] at h; subst h; simp at hj
  | cons v r ih =>
    intro cs h S j x hj
    simp only [cstL] at h
    cases hc : cstC v with
    | none => simp [hc] at h
    | some c =>
      simp only [hc] at h
      cases hl : cstL r with
      | none => simp [hl] at h
      | some l =>
        simp only [hl, Option.some.injEq] at h
        subst h
        cases j with
        | zero => simp at hj; subst hj; exact cstC_inS hc S
        | succ j => simp at hj; exact ih hl S j x hj
theorem cstV_den {v : Value} {x : V1} (h : cstV v = some x) (D : Dat) (ρ : Rho) : DenV D ρ x v := by
  unfold cstV at h
  split at h
  · rename_i cs
    cases hl : cstL cs.toList with
    | none => simp [hl] at h
    | some l =>
      simp only [hl, Option.some.injEq] at h
      subst h
      obtain ⟨h1, h2⟩ := cstL_den hl D ρ
      exact ⟨cs, rfl, by simpa using h1.symm, fun j x hj => by simpa using h2 j x hj⟩
  · cases hc : cstC v with
    | none => simp [hc] at h
    | some c => simp only [hc, Option.some.injEq] at h; subst h; exact cstC_den hc D ρ
theorem cstV_inS {v : Value} {x : V1} (h : cstV v = some x) (S : Nat → Prop) : x.inS S := by
  unfold cstV at h
  split at h
  · rename_i cs
    cases hl : cstL cs.toList with
    | none => simp [hl] at h
    | some l =>
      simp only [hl, Option.some.injEq] at h
      subst h
      exact fun j x hj => cstL_inS hl S j x hj
  · cases hc : cstC v with
    | none => simp [hc] at h
    | some c => simp only [hc, Option.some.injEq] at h; subst h; exact cstC_inS hc S

theorem get_tm {st : St} {t : Nat} {kv : KV} (h : st.get (.tm t) = some kv) : ∃ v, kv = .tv v ∧ look st.tm t = some v := by
  simp only [St.get] at h
  cases hl : look st.tm t with
  | none => simp [hl] at h
  | some v => simp only [hl, Option.some.injEq] at h; exact ⟨v, h.symm, rfl⟩
theorem get_cl {st : St} {id off : Nat} {kv : KV} (h : st.get (.cl id off) = some kv) : ∃ e cs x, look st.hp id = some (.box e cs) ∧ cs[off]? = some x ∧ kv = .cl x := by
  simp only [St.get] at h
  cases hl : look st.hp id with
  | none => simp [hl] at h
  | some b =>
    cases b with
    | row e sz n f => simp [hl] at h
    | ob o => simp [hl] at h
    | box e cs =>
      simp only [hl] at h
      cases hn : nth cs off with
      | none => simp [hn] at h
      | some x => simp only [hn, Option.some.injEq] at h; exact ⟨e, cs, x, rfl, by rw [← nth_eq]; exact hn, h.symm⟩
theorem get_bk {st : St} {id : Nat} {kv : KV} (h : st.get (.bk id) = some kv) : ∃ b, kv = .bk b ∧ look st.hp id = some b := by
  simp only [St.get] at h
  cases hl : look st.hp id with
  | none => simp [hl] at h
  | some v => simp only [hl, Option.some.injEq] at h; exact ⟨v, h.symm, rfl⟩

section
variable {Γ : Ctx} {S W : Nat → Prop} {D : Dat} {ρ : Rho} {st : St} {a : Act} {w : World}

theorem tmps_getD {t : Nat} {u : Value} (h : a.tmps[t]? = some u) : a.eval (.tmp t) = u := by
  simp [Act.eval, Array.getD_eq_getD_getElem?, h]

/-- What an operand's symbolic value denotes is what it evaluates to: where the guard under which it is asked holds. -/
theorem opd_den {E : Env} (hE : E.G = Γ.G) (h : Sat Γ S W D ρ st a w) {g : OG} (hg : GdOk W g a) (hx : Exec g a) {x : Operand} {v : V1}
    (hv : (opdM E g x).Ev st.get v) : DenV D ρ v (a.eval x) := by
  cases x with
  | tmp t =>
    simp only [opdM, ev_bind, ev_rd] at hv
    obtain ⟨kv, hk, hv⟩ := hv
    obtain ⟨tv, rfl, hl⟩ := get_tm hk
    obtain ⟨u, hu, hd⟩ := h.tm t tv hl
    rw [tmps_getD hu]
    cases tv with
    | v y => simp only [ev_ret] at hv; subst hv; exact hd
    | tup l => simp only [ev_fail] at hv
    | junk => simp only [ev_fail] at hv
    | cnd t' w' y =>
      cases g with
      | none => simp only [ev_fail] at hv
      | some gd =>
        simp only [ev_bind, ev_guard, ev_ret] at hv
        obtain ⟨_, hgd, rfl⟩ := hv
        exact hd.2.1 ((hg gd rfl).ch (hx gd rfl) _ _ (inCh_mem hgd))
  | const c => simp only [opdM, ev_opt] at hv; exact cstV_den hv D ρ
  | global n =>
    simp only [opdM] at hv
    cases hG : E.G n with
    | none => simp only [hG, ev_fail] at hv
    | some cs =>
      simp only [hG, ev_ret] at hv
      subst hv
      refine ⟨n, 0, rfl, fun j hj => ?_⟩
      rw [len_eq] at hj
      have hc : cs[j]? = some cs[j] := by simp [hj]
      obtain ⟨u, hu, hd⟩ := h.glob n cs (hE ▸ hG) j _ hc
      refine ⟨u, by simpa using hu, ?_⟩
      simp only [nth_eq, hc]
      exact hd
  | func f =>
    simp only [opdM, ev_ret] at hv
    subst hv
    exact ⟨#[], rfl, rfl, fun i hi => by omega⟩

theorem opd_inS {E : Env} (hE : E.G = Γ.G) (h : Sat Γ S W D ρ st a w) {g : OG} {x : Operand} {v : V1} (hv : (opdM E g x).Ev st.get v) : v.inS S := by
  cases x with
  | tmp t =>
    simp only [opdM, ev_bind, ev_rd] at hv
    obtain ⟨kv, hk, hv⟩ := hv
    obtain ⟨tv, rfl, hl⟩ := get_tm hk
    have hd := h.idT t tv hl
    cases tv with
    | v y => simp only [ev_ret] at hv; subst hv; exact hd
    | tup l => simp only [ev_fail] at hv
    | junk => simp only [ev_fail] at hv
    | cnd t' w' y =>
      cases g with
      | none => simp only [ev_fail] at hv
      | some gd =>
        simp only [ev_bind, ev_guard, ev_ret] at hv
        obtain ⟨_, hgd, rfl⟩ := hv
        exact hd
  | const c => simp only [opdM, ev_opt] at hv; exact cstV_inS hv S
  | global n =>
    simp only [opdM] at hv
    cases hG : E.G n with
    | none => simp only [hG, ev_fail] at hv
    | some cs => simp only [hG, ev_ret] at hv; subst hv; trivial
  | func f => simp only [opdM, ev_ret] at hv; subst hv; exact fun i hi => by omega

theorem gdM_ok (h : Sat Γ S W D ρ st a w) : ∀ (n t : Nat) (b : Bool) (gd : Gd), (gdM n t b).Ev st.get gd → W t → gd.t = t ∧ gd.w = b ∧ GdOk1 W gd a := by
  intro n
  induction n with
  | zero => intro t b gd hg; simp [gdM, ev_fail] at hg
  | succ n ih =>
    intro t b gd hg hW
    simp only [gdM, ev_bind, ev_rd] at hg
    obtain ⟨kv, hk, hg⟩ := hg
    obtain ⟨tv, rfl, hl⟩ := get_tm hk
    obtain ⟨u, hu, hd⟩ := h.tm t tv hl
    split at hg
    · rename_i c e
      simp only [KV.tv.injEq] at e
      subst e
      simp only [ev_ret] at hg
      subst hg
      refine ⟨rfl, rfl, hW, fun he t w hm => ?_, fun he => ?_⟩
      · simp only [List.mem_singleton, Prod.mk.injEq] at hm; obtain ⟨rfl, rfl⟩ := hm; exact he
      · have hd : u = .bool c := hd
        rw [hd] at hu
        have he : a.tmps[t]? = some (.bool b) := he
        rw [hu] at he
        simpa using he
    · rename_i t' w' c e
      simp only [KV.tv.injEq] at e
      subst e
      simp only [ev_bind, ev_ret] at hg
      obtain ⟨g0, hg0, rfl⟩ := hg
      obtain ⟨e1, e2, ok⟩ := ih t' w' g0 hg0 hd.1
      have out : a.tmps[t]? = some (.bool b) → a.tmps[t']? = some (.bool w') := by
        intro he
        by_cases hh : a.tmps[t']? = some (.bool w')
        · exact hh
        · have := hd.2.2 hh
          subst this
          rw [hu] at he
          simp [undef] at he
      refine ⟨rfl, rfl, hW, fun he t w hm => ?_, fun he => ⟨?_, ?_⟩⟩
      · rcases List.mem_cons.1 hm with hm | hm
        · simp only [Prod.mk.injEq] at hm; obtain ⟨rfl, rfl⟩ := hm; exact he
        · exact ok.ch (by rw [e1, e2]; exact out he) t w hm
      · have hd : u = .bool c := hd.2.1 (out he)
        rw [hd] at hu
        have he : a.tmps[t]? = some (.bool b) := he
        rw [hu] at he
        simpa using he
      · exact ok.p (by rw [e1, e2]; exact out he)
    · simp [ev_fail] at hg
end
end Go.Sv
