/-
  Own layer 'SV' (12): what the executor says of a call holds.
-/
import Derived.Test.YtmacpjddafcjcaaDoorSvCall
set_option linter.all false
namespace Go.Sv
open M

theorem notIn_mem {x : Nat} : ∀ {l : List Nat}, notIn x l = true → x ∉ l
  | [], _ => by simp
  | y :: r, h => by
    simp only [notIn] at h
    cases hb : Nat.beq x y with
    | true => simp [hb] at h
    | false =>
      rw [hb] at h
      simp only [List.mem_cons, not_or]
      exact ⟨(beq_ne _ _).1 hb, notIn_mem h⟩
theorem nodupB_nodup : ∀ {l : List Nat}, nodupB l = true → l.Nodup
  | [], _ => List.nodup_nil
  | x :: r, h => by
    obtain ⟨h1, h2⟩ := bAnd_eq h
    exact List.nodup_cons.2 ⟨notIn_mem h1, nodupB_nodup h2⟩
theorem look_fst : ∀ {l : List (Nat × Blk)} {k : Nat} {b : Blk}, look l k = some b → k ∈ fstL l
  | [], k, b, h => by simp [look] at h
  | (i, c) :: r, k, b, h => by
    simp only [look] at h
    simp only [fstL, List.mem_cons]
    cases hb : Nat.beq i k with
    | true => exact .inl ((beq_eq _ _).1 hb).symm
    | false => rw [hb] at h; exact .inr (look_fst h)
theorem look_none : ∀ {l : List (Nat × Blk)} {k : Nat}, k ∉ fstL l → look l k = none
  | [], k, h => rfl
  | (i, c) :: r, k, h => by
    simp only [fstL, List.mem_cons, not_or] at h
    simp only [look]
    rw [(beq_ne _ _).2 (Ne.symm h.1)]
    exact look_none h.2

theorem outL_look {m : List Nat} {nid : Nat} : ∀ {ho : List (Nat × Blk)} {st : St}, (fstL ho).Nodup → (∀ i j, i ∈ fstL ho → j ∈ fstL ho → sigOut m nid i = sigOut m nid j → i = j) →
    (∀ t, look (st.sets (outL m nid ho)).tm t = look st.tm t) ∧
    (∀ k b, look ho k = some b → look (st.sets (outL m nid ho)).hp (sigOut m nid k) = some (b.ren (sigOut m nid))) ∧
    (∀ id, (∀ k b, look ho k = some b → sigOut m nid k ≠ id) → look (st.sets (outL m nid ho)).hp id = look st.hp id)
  | [], st, _, _ => ⟨fun t => rfl, fun k b h => by simp [look] at h, fun id h => rfl⟩
  | (i, c) :: r, st, hn, hinj => by
    simp only [fstL, List.nodup_cons] at hn
    obtain ⟨h1, h2, h3⟩ := outL_look (m := m) (nid := nid) (ho := r) (st := st.set (.bk (sigOut m nid i)) (.bk (c.ren (sigOut m nid)))) hn.2
      (fun x y hx hy e => hinj x y (by simp [fstL, hx]) (by simp [fstL, hy]) e)
    have hl : ∀ j, look (st.set (.bk (sigOut m nid i)) (.bk (c.ren (sigOut m nid)))).hp j = if sigOut m nid i = j then some (c.ren (sigOut m nid)) else look st.hp j := fun j => look_put _ _ _ _
    refine ⟨fun t => by simp only [outL, St.sets]; rw [h1]; rfl, fun k b hk => ?_, fun id hid => ?_⟩
    · simp only [outL, St.sets]
      simp only [look] at hk
      cases hb : Nat.beq i k with
      | true =>
        rw [hb] at hk
        simp only [Option.some.injEq] at hk
        subst hk
        have e := (beq_eq _ _).1 hb
        subst e
        rw [h3 _ (fun k b hk e => ?_), hl, if_pos rfl]
        have hm := look_fst hk
        have := hinj k i (by simp [fstL, hm]) (by simp [fstL]) e
        subst this
        exact hn.1 hm
      | false =>
        rw [hb] at hk
        exact h2 k b hk
    · simp only [outL, St.sets]
      rw [h3 id (fun k b hk => ?_), hl, if_neg (hid i c (by simp [look, Nat.beq_refl]))]
      refine hid k b ?_
      simp only [look]
      have hne : i ≠ k := by rintro rfl; exact hn.1 (look_fst hk)
      rw [(beq_ne _ _).2 hne]
      exact hk

theorem goneL_look : ∀ {m : List Nat} {st : St}, (∀ t, look (st.sets (goneL m)).tm t = look st.tm t) ∧ ∀ id, look (st.sets (goneL m)).hp id = if id ∈ m then none else look st.hp id
  | [], st => ⟨fun t => rfl, fun id => by simp [goneL, St.sets]⟩
  | x :: r, st => by
    obtain ⟨h1, h2⟩ := goneL_look (m := r) (st := st.set (.bk x) .gone)
    have hl : ∀ j, look (st.set (.bk x) .gone).hp j = if x = j then none else look st.hp j := fun j => look_del _ _ _
    refine ⟨fun t => by simp only [goneL, St.sets]; rw [h1]; rfl, fun id => ?_⟩
    simp only [goneL, St.sets]
    rw [h2, hl]
    simp only [List.mem_cons]
    by_cases e1 : id ∈ r
    · simp [e1]
    · by_cases e2 : x = id
      · simp [e1, e2]
      · simp [e1, e2, Ne.symm e2]

theorem sets_append (st : St) (l k : List (Key × KV)) : st.sets (l ++ k) = (st.sets l).sets k := by
  induction l generalizing st with
  | nil => rfl
  | cons p r ih => simp only [List.cons_append, St.sets]; exact ih _

theorem blks_ev {st : St} : ∀ {m : List Nat} {bs : List Blk}, (blksM m).Ev st.get bs → bs.length = m.length ∧ ∀ (i : Nat) (b : Blk), bs[i]? = some b → ∃ id, m[i]? = some id ∧ look st.hp id = some b
  | [], bs, h => by simp only [blksM, ev_ret] at h; subst h; simp
  | x :: r, bs, h => by
    simp only [blksM, ev_bind, ev_rd] at h
    obtain ⟨kv, hk, h⟩ := h
    obtain ⟨b, rfl, hb⟩ := get_bk hk
    simp only [ev_bind, ev_ret] at h
    obtain ⟨l, hl, rfl⟩ := h
    obtain ⟨h1, h2⟩ := blks_ev hl
    refine ⟨by simp [h1], fun i c hi => ?_⟩
    cases i with
    | zero => simp at hi; subst hi; exact ⟨x, rfl, hb⟩
    | succ i => simp at hi ⊢; exact h2 i c hi

theorem houtOk_lt {kn : Nat} : ∀ {ho : List (Nat × Blk)}, houtOk kn ho = true → ∀ k ∈ fstL ho, k < kn + 16
  | [], _, k, hk => by simp [fstL] at hk
  | (i, c) :: r, h, k, hk => by
    obtain ⟨h1, h2⟩ := bAnd_eq h
    simp only [fstL, List.mem_cons] at hk
    rcases hk with rfl | hk
    · exact Nat.le_of_ble_eq_true h1
    · exact houtOk_lt h2 k hk

theorem isGo_run {P : Program} {f : FuncId} (h : isGo P f = true) (args : Array Value) (w : World) : (callFunc f args).run P w = .ok (.enter f args) w := by
  unfold isGo at h
  cases hf : P.funcs[f]? with
  | none => simp [hf] at h
  | some fn =>
    simp only [hf] at h
    obtain ⟨h1, h2⟩ := bAnd_eq h
    have hb : ¬ fn.body = none := by cases hb : fn.body <;> simp_all
    have hn : ¬ fn.name = "runtime.NumGoroutine" := by simpa [bne] using h2
    simp [callFunc, program, Sem.run, hf, hn, hb]

section
variable {Γ : Ctx} {S W : Nat → Prop} {D : Dat} {ρ : Rho} {st : St} {a : Act} {w : World} {E : Env} {i d nid : Nat} {g : OG} {eff : Eff}

theorem callee_den (hG : E.G = Γ.G) (h : Sat Γ S W D ρ st a w) (hg : GdOk W g a) {x : Operand} {q : FuncId × List V1} (hq : (calleeM E g x).Ev st.get q) :
    (∀ (j : Nat) (v : V1), q.2[j]? = some v → v.inS S) ∧ (Exec g a → ∃ vs, a.eval x = .func (.func q.1) #[] vs ∧ DenL D ρ q.2 vs) := by
  have gen : ∀ (x : Operand), (bind (opdM E g x) fun v => (match v with
      | .c (.clo f k sh c) => ret (f, upL (fun i => match sh i with | none => V1.c (c i 0) | some m => V1.agg (upL (c i) 0 m)) 0 k)
      | _ => fail : M (FuncId × List V1))).Ev st.get q → (∀ (j : Nat) (v : V1), q.2[j]? = some v → v.inS S) ∧ (Exec g a → ∃ vs, a.eval x = .func (.func q.1) #[] vs ∧ DenL D ρ q.2 vs) := by
    intro x hq
    simp only [ev_bind] at hq
    obtain ⟨v, hv, hq⟩ := hq
    have hS := opd_inS hG h hv
    have hd := fun he => opd_den hG h hg he hv
    split at hq
    · rename_i f k sh c
      simp only [ev_ret] at hq
      subst hq
      have hS : ∀ i, i < k → match sh i with | none => (c i 0).inS S | some m => ∀ j, j < m → (c i j).inS S := hS
      refine ⟨fun j v hj => ?_, fun he => ?_⟩
      · simp only at hj
        rw [upL_get] at hj
        split at hj
        · rename_i hlt
          simp only [Option.some.injEq, Nat.zero_add] at hj
          have := hS j hlt
          subst hj
          cases hsh : sh j with
          | none => rw [hsh] at this; exact this
          | some m =>
            rw [hsh] at this
            intro l x hl
            rw [upL_get] at hl
            split at hl
            · rename_i hlt2; simp only [Option.some.injEq, Nat.zero_add] at hl; subst hl; exact this l hlt2
            · cases hl
        · cases hj
      · obtain ⟨vs, e, hs, h3⟩ := hd he
        refine ⟨vs, e, by simp [upL_len, hs], fun j v hj => ?_⟩
        simp only at hj
        rw [upL_get] at hj
        split at hj
        · rename_i hlt
          simp only [Option.some.injEq, Nat.zero_add] at hj
          obtain ⟨u, hu, hdd⟩ := h3 j hlt
          refine ⟨u, hu, ?_⟩
          subst hj
          cases hsh : sh j with
          | none => rw [hsh] at hdd; exact hdd
          | some m =>
            rw [hsh] at hdd
            obtain ⟨us, e2, hs2, h4⟩ := hdd
            refine ⟨us, e2, by simp [upL_len, hs2], fun l x hl => ?_⟩
            rw [upL_get] at hl
            split at hl
            · rename_i hlt2; simp only [Option.some.injEq, Nat.zero_add] at hl; subst hl; exact h4 l hlt2
            · cases hl
        · cases hj
    · simp [ev_fail] at hq
  cases x with
  | func f =>
    simp only [calleeM, ev_ret] at hq
    subst hq
    exact ⟨fun j v hj => by simp at hj, fun he => ⟨#[], rfl, rfl, fun j v hj => by simp at hj⟩⟩
  | tmp t => exact gen _ hq
  | const v => exact gen _ hq
  | global n => exact gen _ hq


def dPlus (W : Nat → Prop) (d : Option Nat) : Nat → Prop := fun t => W t ∨ d = some t

theorem sig_in {m : List Nat} {i id : Nat} (h : m[i]? = some id) : sigIn m i = id ∧ ∀ nid, sigOut m nid i = id := by
  simp [sigIn, sigOut, nth_eq, h]
theorem sig_out {m : List Nat} {nid i : Nat} (h : m.length ≤ i) : sigOut m nid i = nid + (i - m.length) := by
  simp [sigOut, nth_eq, h, len_eq]

/-- The state behind a call. -/
theorem Sat.after (h : Sat Γ S W D ρ st a w) (hf : Fresh S nid) {m : List Nat} (hm : m.Nodup) (hmb : ∀ (i id : Nat), m[i]? = some id → ∃ b, look st.hp id = some b)
    {ho : List (Nat × Blk)} (hh : ∀ k ∈ fstL ho, k < m.length + 16) (hn : (fstL ho).Nodup)
    {D' : Dat} {ρ' : Rho} {w' : World} (af : After m.length D (fun i => ρ (sigIn m i)) w D' ρ' w' ho) :
    ∃ ρ'', (∀ i, S i → ρ i = ρ'' i) ∧ (∀ i, i < m.length + 16 → ρ'' (sigOut m nid i) = ρ' i) ∧ Sat Γ (sPlus S nid) W D' ρ'' (st.sets (goneL m ++ outL m nid ho)) a w' := by
  let ρ'' : Rho := fun id => if nid ≤ id ∧ id < nid + 16 then ρ' (id - nid + m.length) else ρ id
  have hold : ∀ i, S i → ρ i = ρ'' i := by
    intro i hi
    show ρ i = if _ then _ else _
    rw [if_neg]
    exact fun hh => hf i hh.1 hh.2 hi
  have hmS : ∀ (i id : Nat), m[i]? = some id → S id := fun i id hi => let ⟨b, hb⟩ := hmb i id hi; (h.idH id b hb).1
  have hout : ∀ i, i < m.length + 16 → ρ'' (sigOut m nid i) = ρ' i := by
    intro i hi
    rcases Nat.lt_or_ge i m.length with hlt | hge
    · have e : m[i]? = some m[i] := by simp [hlt]
      rw [(sig_in e).2, ← hold _ (hmS i _ e)]
      rw [af.kin i hlt]
      show ρ m[i] = ρ (sigIn m i)
      rw [(sig_in e).1]
    · rw [sig_out hge]
      show (if _ then _ else _) = _
      rw [if_pos ⟨by omega, by omega⟩]
      congr 1
      omega
  have hinj : ∀ i j, i < m.length + 16 → j < m.length + 16 → sigOut m nid i = sigOut m nid j → i = j := by
    intro i j hi hj e
    rcases Nat.lt_or_ge i m.length with h1 | h1 <;> rcases Nat.lt_or_ge j m.length with h2 | h2
    · have e1 : m[i]? = some m[i] := by simp [h1]
      have e2 : m[j]? = some m[j] := by simp [h2]
      rw [(sig_in e1).2, (sig_in e2).2] at e
      exact (List.getElem_inj hm).1 e
    · have e1 : m[i]? = some m[i] := by simp [h1]
      rw [(sig_in e1).2, sig_out h2] at e
      exact (hf _ (by omega) (by omega) (hmS i _ e1)).elim
    · have e2 : m[j]? = some m[j] := by simp [h2]
      rw [(sig_in e2).2, sig_out h1] at e
      exact (hf _ (by omega) (by omega) (hmS j _ e2)).elim
    · rw [sig_out h1, sig_out h2] at e
      omega
  obtain ⟨g1, g2⟩ := goneL_look (m := m) (st := st)
  obtain ⟨o1, o2, o3⟩ := outL_look (m := m) (nid := nid) (ho := ho) (st := st.sets (goneL m)) hn (fun i j hi hj e => hinj i j (hh i hi) (hh j hj) e)
  refine ⟨ρ'', hold, hout, ?_⟩
  rw [sets_append]
  -- each block of the new state: an old one that was not handed over, or one that the call left
  have cases_ : ∀ id c, look ((st.sets (goneL m)).sets (outL m nid ho)).hp id = some c →
      (∃ k b, look ho k = some b ∧ sigOut m nid k = id ∧ c = b.ren (sigOut m nid)) ∨ (look st.hp id = some c ∧ ∀ i, i < m.length → m[i]? ≠ some id) := by
    intro id c hc
    by_cases hk : ∃ k b, look ho k = some b ∧ sigOut m nid k = id
    · obtain ⟨k, b, h1, h2⟩ := hk
      subst h2
      rw [o2 k b h1] at hc
      simp only [Option.some.injEq] at hc
      exact .inl ⟨k, b, h1, rfl, hc.symm⟩
    · rw [o3 id (fun k b h1 h2 => hk ⟨k, b, h1, h2⟩), g2] at hc
      by_cases hmem : id ∈ m
      · rw [if_pos hmem] at hc; cases hc
      · rw [if_neg hmem] at hc
        exact .inr ⟨hc, fun i _ e => hmem (List.mem_of_getElem? e)⟩
  have hk16 : ∀ k b, look ho k = some b → k < m.length + 16 := fun k b hb => hh k (look_fst hb)
  have hSp : ∀ i, S i → sPlus S nid i := fun i hi => .inl hi
  have houtS : ∀ k b, look ho k = some b → sPlus S nid (sigOut m nid k) := by
    intro k b hb
    have hk := hk16 k b hb
    rcases Nat.lt_or_ge k m.length with h1 | h1
    · have e1 : m[k]? = some m[k] := by simp [h1]
      rw [(sig_in e1).2]; exact .inl (hmS k _ e1)
    · rw [sig_out h1]; exact .inr ⟨by omega, by omega⟩
  -- the handed blocks, seen from here
  have hmblk : ∀ i, i < m.length → ∃ id b, m[i]? = some id ∧ look st.hp id = some b ∧ ρ (sigIn m i) = ρ id := by
    intro i hi
    have e1 : m[i]? = some m[i] := by simp [hi]
    obtain ⟨b, hb⟩ := hmb i _ e1
    exact ⟨m[i], b, e1, hb, by rw [(sig_in e1).1]⟩
  have hneq : ∀ id c, look st.hp id = some c → Live ρ id c → (∀ i, i < m.length → m[i]? ≠ some id) → ∀ i, i < m.length → (ρ (sigIn m i)).2 ≠ 0 → (ρ (sigIn m i)).1 ≠ (ρ id).1 := by
    intro id c hc lc hno i hi li e
    obtain ⟨id', b', e1, hb', e2⟩ := hmblk i hi
    rw [e2] at e li
    have := h.inj id' id b' c hb' hc li lc e
    subst this
    exact hno i hi e1
  refine { defers := h.defers, size := h.size, tm := ?_, hp := ?_, inj := ?_, agree := af.agree, sep := ?_, le := h.le.trans af.le, glob := ?_, gl := h.gl, own := ?_, kin := ?_, newD := ?_, frame := ?_, os := af.os.trans h.os, tape := af.tape.trans h.tape, output := af.output.trans h.output, grow := Nat.le_trans h.grow af.grow, idT := ?_, idH := ?_, kinS := fun i hi => hSp _ (h.kinS i hi) }
  · intro t v hv
    rw [o1, g1] at hv
    obtain ⟨u, hu, hd⟩ := h.tm t v hv
    exact ⟨u, hu, (hd.mono af.le).agr hold (h.idT t v hv)⟩
  · intro id c hc
    rcases cases_ id c hc with ⟨k, b, h1, rfl, rfl⟩ | ⟨h1, h2⟩
    · rw [BlkSat.ren]
      refine (af.hp k b h1).agr (S := fun i => ∃ c, look ho i = some c) (fun i hi => ?_) ⟨b, h1⟩ (af.ids k b h1)
      obtain ⟨c, hc⟩ := hi
      exact (hout i (hk16 i c hc)).symm
    · have hS := h.idH id c h1
      have hbs := ((h.hp id c h1).mono af.le).agr hold hS.1 hS.2
      by_cases lc : Live ρ id c
      · refine hbs.world ?_
        rw [← hold id hS.1]
        exact af.frame _ ((h.hp id c h1).lt lc) (fun i hi li => hneq id c h1 lc h2 i hi li)
      · exact hbs.dead (fun hh => lc ((Live.agr hold hS.1).2 hh))
  · intro i j bi bj hi hj li lj e
    rcases cases_ i bi hi with ⟨k, b, h1, rfl, rfl⟩ | ⟨h1, h2⟩ <;> rcases cases_ j bj hj with ⟨k', b', h1', rfl, rfl⟩ | ⟨h1', h2'⟩
    · simp only [Live] at li lj
      rw [hout k (hk16 k b h1)] at li e
      rw [hout k' (hk16 k' b' h1')] at lj e
      rw [af.inj k k' b b' h1 h1' li lj e]
    · simp only [Live] at li lj
      rw [hout k (hk16 k b h1)] at li e
      rw [← hold j (h.idH j bj h1').1] at lj e
      rcases af.own k b h1 li with hh | ⟨l, hl, hl2, hh⟩
      · have := (h.hp j bj h1').lt lj; omega
      · exact (hneq j bj h1' lj h2' l hl hl2 (hh.trans e)).elim
    · simp only [Live] at li lj
      rw [hout k' (hk16 k' b' h1')] at lj e
      rw [← hold i (h.idH i bi h1).1] at li e
      rcases af.own k' b' h1' lj with hh | ⟨l, hl, hl2, hh⟩
      · have := (h.hp i bi h1).lt li; omega
      · exact (hneq i bi h1 li h2 l hl hl2 (hh.trans e.symm)).elim
    · simp only [Live] at li lj
      rw [← hold i (h.idH i bi h1).1] at li e
      rw [← hold j (h.idH j bj h1').1] at lj e
      exact h.inj i j bi bj h1 h1' li lj e
  · intro id c hc lc o
    rcases cases_ id c hc with ⟨k, b, h1, rfl, rfl⟩ | ⟨h1, h2⟩
    · simp only [Live] at lc
      rw [hout k (hk16 k b h1)] at lc ⊢
      exact af.sep k b h1 lc o
    · simp only [Live] at lc
      rw [← hold id (h.idH id c h1).1] at lc ⊢
      cases hD : D' (ρ id).1 o with
      | none => rfl
      | some v =>
        rcases af.newD _ _ _ hD with hh | hh | ⟨i, hi, hi2, hh⟩
        · rw [h.sep id c h1 lc o] at hh; cases hh
        · have := (h.hp id c h1).lt lc; omega
        · exact (hneq id c h1 lc h2 i hi hi2 hh).elim
  · intro g cs hg j x hx
    obtain ⟨u, hu, hd⟩ := h.glob g cs hg j x hx
    exact ⟨u, af.le _ _ _ hu, Den.mono af.le _ _ _ hd⟩
  · intro id c hc lc
    simp only [Live] at lc
    rcases cases_ id c hc with ⟨k, b, h1, rfl, rfl⟩ | ⟨h1, h2⟩
    · rw [hout k (hk16 k b h1)] at lc ⊢
      rcases af.own k b h1 lc with hh | ⟨l, hl, hl2, hh⟩
      · exact .inl (Nat.le_trans h.grow hh)
      · obtain ⟨id', b', e1, hb', e2⟩ := hmblk l hl
        rw [e2] at hl2
        rw [← hh, e2]
        exact h.own id' b' hb' hl2
    · rw [← hold id (h.idH id c h1).1] at lc ⊢
      exact h.own id c h1 lc
  · intro i hi
    rw [← hold i (h.kinS i hi)]
    exact h.kin i hi
  · intro b o v hv
    rcases af.newD _ _ _ hv with hh | hh | ⟨l, hl, hl2, hh⟩
    · exact h.newD _ _ _ hh
    · exact .inr (.inl (Nat.le_trans h.grow hh))
    · obtain ⟨id', b', e1, hb', e2⟩ := hmblk l hl
      rw [e2] at hl2
      rw [← hh, e2]
      rcases h.own id' b' hb' hl2 with h1 | h1
      · exact .inr (.inl h1)
      · exact .inr (.inr h1)
  · intro b hb hk
    rw [af.frame b (Nat.lt_of_lt_of_le hb h.grow) (fun l hl hl2 e => ?_)]
    · exact h.frame b hb hk
    · obtain ⟨id', b', e1, hb', e2⟩ := hmblk l hl
      rw [e2] at e hl2
      rcases h.own id' b' hb' hl2 with h1 | ⟨i, hi, hi2, h1⟩
      · omega
      · exact hk i hi hi2 (h1.trans e)
  · intro t v hv
    rw [o1, g1] at hv
    exact TV.inS_mono hSp (h.idT t v hv)
  · intro id c hc
    rcases cases_ id c hc with ⟨k, b, h1, rfl, rfl⟩ | ⟨h1, h2⟩
    · refine ⟨houtS k b h1, Blk.inS_ren.2 (Blk.inS_mono (fun i hi => ?_) (af.ids k b h1))⟩
      obtain ⟨c, hc⟩ := hi
      exact houtS i c hc
    · exact ⟨hSp _ (h.idH id c h1).1, Blk.inS_mono hSp (h.idH id c h1).2⟩


theorem DenL.append {D : Dat} {ρ : Rho} {l k : List V1} {xs ys : Array Value} (h : DenL D ρ l xs) (h' : DenL D ρ k ys) : DenL D ρ (l ++ k) (xs ++ ys) := by
  refine ⟨by simp [h.1, h'.1], fun j x hj => ?_⟩
  rw [List.getElem?_append] at hj
  rw [Array.getElem?_append, h.1]
  split at hj
  · rename_i hlt; rw [if_pos hlt]; exact h.2 j x hj
  · rename_i hlt; rw [if_neg hlt]; exact h'.2 _ x hj

theorem DenL.map_ren {D : Dat} {σ : Nat → Nat} {ρ : Rho} {l : List V1} {xs : Array Value} : DenL D ρ (l.map (V1.ren σ)) xs ↔ DenL D (fun i => ρ (σ i)) l xs := by
  constructor
  · rintro ⟨h1, h2⟩
    refine ⟨by simpa using h1, fun j x hj => ?_⟩
    obtain ⟨u, hu, hd⟩ := h2 j (x.ren σ) (by simp [hj])
    exact ⟨u, hu, DenV.ren.1 hd⟩
  · rintro ⟨h1, h2⟩
    refine ⟨by simpa using h1, fun j x hj => ?_⟩
    simp only [List.getElem?_map, Option.map_eq_some_iff] at hj
    obtain ⟨y, hy, rfl⟩ := hj
    obtain ⟨u, hu, hd⟩ := h2 j y hy
    exact ⟨u, hu, DenV.ren.2 hd⟩

theorem resTV_den {D : Dat} {ρ : Rho} {W : Nat → Prop} {tm : Array Value} {rs : List V1} {v : Value} (h : ResDen D ρ rs v) : DenT D ρ W tm (resTV rs) v := by
  unfold ResDen at h
  unfold resTV
  split at h
  · exact h
  · exact h

theorem ResDen.ren {D : Dat} {σ : Nat → Nat} {ρ : Rho} {rs : List V1} {v : Value} (h : ResDen D (fun i => ρ (σ i)) rs v) : ResDen D ρ (rs.map (V1.ren σ)) v := by
  unfold ResDen at h
  split at h
  · exact DenV.ren.2 h
  · rename_i hne
    obtain ⟨vs, e, hl⟩ := h
    have : ResDen D ρ (rs.map (V1.ren σ)) v = ∃ vs : Array Value, v = .tuple vs ∧ DenL D ρ (rs.map (V1.ren σ)) vs := by
      match rs, hne with
      | [], _ => rfl
      | [x], hne => exact (hne x rfl).elim
      | _ :: _ :: _, _ => rfl
    rw [this]
    exact ⟨vs, e, DenL.map_ren.2 hl⟩

theorem resTV_inS {S : Nat → Prop} {rs : List V1} (h : ∀ (j : Nat) (x : V1), rs[j]? = some x → x.inS S) : (resTV rs).inS S := by
  unfold resTV
  split
  · rename_i x; exact h 0 x rfl
  · exact h

theorem upon_enter {Γ : Ctx} {o : Oper} {a : Act} {K : Act → World → Prop} {Q : Exit → Act → World → Prop} {w : World} {f : FuncId} {vs : Array Value} {c : Call}
    (ho : o.op = .call c) (hrun : (do let d ← resolve a.eval c o.type; invoke d.target d.args).run Γ.P w = .ok (.enter f vs) w)
    (hc : Calls Γ.P f vs w fun e w' => ∃ v, e = .returned v ∧ K (a.put o.dst v) w') : o.wp Γ.P a w K Q := by
  unfold Oper.wp
  have : (execOp a.eval o).run Γ.P w = .ok (.enter f vs) w := by
    unfold execOp; rw [ho]; exact hrun
  rw [this, Oper.upon_enter]
  refine hc.mono ?_
  rintro e w' ⟨v, rfl, hk⟩
  exact hk

theorem call_ok (hP : E.P = Γ.P) (hG : E.G = Γ.G) {cs : List (Nat × CallE E.P E.G)} (h : Sat Γ S W D ρ st a w) (hg : GdOk W g a) (hfr : Fresh S nid) {d : Option Nat} (hd : ∀ x, d = some x → x < Γ.N ∧ ¬ W x) {fo : Operand} {args : Array Operand} {eqs : Eqs}
    (hf : (callM E cs i nid g d fo args.toList).Ev st.get (eff, eqs)) (he1 : eqs.el = eqs.er) (he2 : eqs.bl = eqs.br) :
    (Exec g a → ∀ (o : Oper) (c : Call) (K : Act → World → Prop) (Q : Exit → Act → World → Prop), o.op = .call c → c.callee = .value fo → c.args = args → o.dst = d →
        (∀ a' w', SatE Γ (sPlus S nid) (dPlus W d) (st.sets eff.wr) a' w' → K a' w') → o.wp Γ.P a w K Q) ∧
    (¬ Exec g a → SatE Γ (sPlus S nid) (dPlus W d) (st.sets eff.wr) (a.put d undef) w) := by
  simp only [callM, ev_bind, ev_opt, ev_guard] at hf
  obtain ⟨c, hc, q, hq, _, hgo, vs, hvs, hf⟩ := hf
  obtain ⟨hqf, hgo⟩ := bAnd_eq hgo
  have hqf := (beq_eq _ _).1 hqf
  have hgo : isGo Γ.P c.f = true := by
    have : ∀ f, isGo E.P f = true → isGo Γ.P f = true := by rw [hP]; exact fun _ h => h
    exact this _ hgo
  have prf : Fn Γ.P Γ.G c.f c.hin c.args (fun r h => r = c.rs ∧ h = c.hout) := by
    have : ∀ f hin args R, Fn E.P E.G f hin args R → Fn Γ.P Γ.G f hin args R := by rw [hP, hG]; exact fun _ _ _ _ h => h
    exact this _ _ _ _ c.prf
  obtain ⟨qS, qD⟩ := callee_den hG h hg hq
  obtain ⟨vS, vlen, vD⟩ := opds_den hG h hg hvs
  have hWd : ∀ t, W t → dPlus W d t := fun t ht => .inl ht
  -- the run up to the callee's entry
  have run : Exec g a → ∃ ws, DenL D ρ (vs ++ q.2) ws ∧ ∀ (o : Oper) (cc : Call), cc.callee = .value fo → cc.args = args →
      (do let d ← resolve a.eval cc o.type; invoke d.target d.args).run Γ.P w = .ok (.enter c.f ws) w := by
    intro he
    obtain ⟨cap, hcap, hcd⟩ := qD he
    refine ⟨args.map a.eval ++ cap, DenL.append ⟨by simp [vlen], fun j x hj => ?_⟩ hcd, fun o cc h1 h2 => ?_⟩
    · obtain ⟨y, hy, hdy⟩ := vD he j x hj
      exact ⟨a.eval y, by simp at hy; simp [hy], hdy⟩
    · simp only [resolve, h1, h2, Deferred.ofValue, hcap, Sem.run_bind, Sem.run_pure, Result.andThen_ok, invoke, Array.empty_append]
      rw [hqf]
      exact isGo_run hgo _ _
  cases g with
  | none =>
    have he : Exec none a := by intro gd e; cases e
    refine ⟨fun _ o cc K Q ho hcal hargs hdst hK => ?_, fun hn => (hn he).elim⟩
    simp only [ev_bind, ev_guard, ev_ret, Prod.mk.injEq] at hf
    obtain ⟨bs, hbs, _, hchk, rfl, rfl⟩ := hf
    obtain ⟨k1, hchk⟩ := bAnd_eq hchk
    obtain ⟨k2, hchk⟩ := bAnd_eq hchk
    obtain ⟨k3, k4⟩ := bAnd_eq hchk
    have k1 := nodupB_nodup k1
    have k2 := (beq_eq _ _).1 k2
    rw [len_eq, len_eq] at k2
    rw [len_eq] at k3
    have k3 := houtOk_lt k3
    have k4 := nodupB_nodup k4
    obtain ⟨b1, b2⟩ := blks_ev hbs
    simp only [mapL_eq] at he1 he2
    obtain ⟨ws, hws, hrun⟩ := run he
    have hmb : ∀ (i id : Nat), c.m[i]? = some id → ∃ b, look st.hp id = some b := by
      intro i id hi
      have hlt : i < bs.length := by
        rw [b1]
        rcases Nat.lt_or_ge i c.m.length with h | h
        · exact h
        · simp [List.getElem?_eq_none h] at hi
      obtain ⟨id', e1, e2⟩ := b2 i bs[i] (by simp [hlt])
      rw [hi] at e1
      simp only [Option.some.injEq] at e1
      subst e1
      exact ⟨_, e2⟩
    have hin : ∀ (i : Nat) (b : Blk), c.hin[i]? = some b → ∃ id, c.m[i]? = some id ∧ look st.hp id = some (b.ren (sigIn c.m)) := by
      intro i b hi
      have : bs[i]? = some (b.ren (sigIn c.m)) := by rw [he2]; simp [hi]
      exact b2 i _ this
    refine upon_enter ho (hrun o cc hcal hargs) ?_
    have hcall := prf D (fun i => ρ (sigIn c.m i)) w ws (DenL.map_ren.1 (he1 ▸ hws)) h.glob h.globW h.agree ?_ ?_
    · refine hcall.mono ?_
      rintro e w' ⟨rs, ho', D', ρ', v, rfl, ⟨rfl, rfl⟩, hres, hids, af⟩
      rw [← k2] at af
      refine ⟨v, rfl, hK _ _ ?_⟩
      obtain ⟨ρ'', r1, r2, hsat⟩ := h.after hfr k1 hmb k3 k4 af
      have hidsR : ∀ (j : Nat) (x : V1), c.rs[j]? = some x → (∀ i, (∃ c_1, look c.hout i = some c_1) → ρ' i = ρ'' (sigOut c.m nid i)) := by
        intro j x hj i hi
        obtain ⟨b, hb⟩ := hi
        exact (r2 i (k3 i (look_fst hb))).symm
      have hres2 : ResDen D' ρ'' (c.rs.map (V1.ren (sigOut c.m nid))) v := by
        refine ResDen.ren ?_
        unfold ResDen at hres ⊢
        split at hres
        · rename_i x hrs
          have hx := hids 0 x (by rw [hrs]; rfl)
          exact hres.agr (fun i hi => hidsR 0 x (by rw [hrs]; rfl) i hi) hx
        · obtain ⟨us, e, hl⟩ := hres
          exact ⟨us, e, hl.1, fun j x hj => let ⟨u, hu, hdd⟩ := hl.2 j x hj; ⟨u, hu, hdd.agr (fun i hi => hidsR j x hj i hi) (hids j x hj)⟩⟩
      have hidS : ∀ (j : Nat) (x : V1), (c.rs.map (V1.ren (sigOut c.m nid)))[j]? = some x → x.inS (sPlus S nid) := by
        intro j x hj
        simp only [List.getElem?_map, Option.map_eq_some_iff] at hj
        obtain ⟨y, hy, rfl⟩ := hj
        refine V1.inS_ren.2 (V1.inS_mono (fun i hi => ?_) (hids j y hy))
        obtain ⟨b, hb⟩ := hi
        have hk := k3 i (look_fst hb)
        rcases Nat.lt_or_ge i c.m.length with h1 | h1
        · have e1 : c.m[i]? = some c.m[i] := by simp [h1]
          rw [(sig_in e1).2]
          obtain ⟨b', hb'⟩ := hmb i _ e1
          exact .inl (h.idH _ b' hb').1
        · rw [sig_out h1]; exact .inr ⟨by omega, by omega⟩
      refine ⟨D', ρ'', ?_⟩
      rw [← List.append_assoc, sets_append, hdst]
      cases d with
      | none => exact hsat.mono (fun _ h => h) hWd
      | some d =>
        simp only [St.sets, mapL_eq]
        exact hsat.put (hd d rfl).1 (hd d rfl).2 hWd (resTV_den hres2) (resTV_inS hidS)
    · intro i b hi
      obtain ⟨id, e1, e2⟩ := hin i b hi
      have e3 := (sig_in e1).1
      refine ⟨BlkSat.ren.1 ?_, fun lv o => ?_⟩
      · rw [e3]; exact h.hp id _ e2
      · have lv : (ρ (sigIn c.m i)).2 ≠ 0 := lv
        show D (ρ (sigIn c.m i)).1 o = none
        rw [e3] at lv ⊢; exact h.sep id _ e2 lv o
    · intro i j bi bj hi hj li lj e
      obtain ⟨idi, e1, hbi⟩ := hin i bi hi
      obtain ⟨idj, e2, hbj⟩ := hin j bj hj
      have li : (ρ (sigIn c.m i)).2 ≠ 0 := li
      have lj : (ρ (sigIn c.m j)).2 ≠ 0 := lj
      simp only [(sig_in e1).1, (sig_in e2).1] at e li lj
      have hid := h.inj _ _ _ _ hbi hbj li lj e
      subst hid
      have hi' : i < c.m.length := by
        rcases Nat.lt_or_ge i c.m.length with h | h
        · exact h
        · simp [List.getElem?_eq_none h] at e1
      have hj' : j < c.m.length := by
        rcases Nat.lt_or_ge j c.m.length with h | h
        · exact h
        · simp [List.getElem?_eq_none h] at e2
      have : c.m[i] = c.m[j] := by
        rw [List.getElem?_eq_getElem hi'] at e1
        rw [List.getElem?_eq_getElem hj'] at e2
        simp only [Option.some.injEq] at e1 e2
        rw [e1, e2]
      exact (List.getElem_inj k1).1 this
  | some gd =>
    simp only at hf
    split at hf
    · rename_i dd x hrs
      simp only [ev_bind, ev_guard, ev_ret, Prod.mk.injEq] at hf
      obtain ⟨_, hchk, rfl, rfl⟩ := hf
      obtain ⟨k1, hchk⟩ := bAnd_eq hchk
      obtain ⟨k2, hchk⟩ := bAnd_eq hchk
      obtain ⟨k3, k4⟩ := bAnd_eq hchk
      have k1 : c.m = [] := by cases hm : c.m <;> simp_all [isNil]
      have k2 : c.hin = [] := by cases hm : c.hin <;> simp_all [isNil]
      have k3 : c.hout = [] := by cases hm : c.hout <;> simp_all [isNil]
      have xS : ∀ S', x.inS S' := by
        intro S'
        cases x with
        | c y => exact Cell.inS_flat k4
        | agg l => exact fun j y hj => Cell.inS_flat (flats_get k4 hj)
      have gok := hg gd rfl
      simp only at he1
      refine ⟨fun he o cc K Q ho hcal hargs hdst hK => ?_, fun he => ?_⟩
      · obtain ⟨ws, hws, hrun⟩ := run he
        refine upon_enter ho (hrun o cc hcal hargs) ?_
        have hcall := prf D ρ w ws (he1 ▸ hws) h.glob h.globW h.agree (by rw [k2]; intro i b hi; simp at hi) (by rw [k2]; intro i j bi bj hi; simp at hi)
        refine hcall.mono ?_
        rintro e w' ⟨rs, ho', D', ρ', v, rfl, ⟨rfl, rfl⟩, hres, hids, af⟩
        rw [k2, k3] at af
        refine ⟨v, rfl, hK _ _ ?_⟩
        have af : After ([] : List Nat).length D (fun i => ρ (sigIn [] i)) w D' ρ' w' [] := af
        obtain ⟨ρ'', r1, r2, hsat⟩ := h.after hfr (m := []) (ho := []) List.nodup_nil (by intro i id hi; simp at hi) (by intro k hk; simp [fstL] at hk) List.nodup_nil af
        refine ⟨D', ρ'', ?_⟩
        rw [hdst]
        have hres : DenV D' ρ'' x v := by
          rw [hrs] at hres
          exact DenV.agr (S := fun _ => False) (fun i hi => hi.elim) (xS _) hres
        refine hsat.put (hd dd rfl).1 (hd dd rfl).2 hWd ?_ (xS _)
        have hne : dd ≠ gd.t := fun e => (hd dd rfl).2 (e ▸ gok.wr)
        refine ⟨hWd _ gok.wr, fun _ => hres, fun hn => ?_⟩
        simp only [Act.put] at hn
        rw [Array.getElem?_setIfInBounds, if_neg hne] at hn
        exact (hn (he gd rfl)).elim
      · refine ⟨D, ρ, ?_⟩
        simp only [St.sets]
        have h' := h.mono (S' := sPlus S nid) (fun _ h => .inl h) (W' := W) (fun _ h => h)
        refine h'.put (hd dd rfl).1 (hd dd rfl).2 hWd ?_ (xS _)
        have hne : dd ≠ gd.t := fun e => (hd dd rfl).2 (e ▸ gok.wr)
        refine ⟨hWd _ gok.wr, fun ht => ?_, fun _ => rfl⟩
        simp only [Act.put] at ht
        rw [Array.getElem?_setIfInBounds, if_neg hne] at ht
        exact (he (fun gd' e => by cases e; exact ht)).elim
    · simp [ev_fail] at hf

end
end Go.Sv
