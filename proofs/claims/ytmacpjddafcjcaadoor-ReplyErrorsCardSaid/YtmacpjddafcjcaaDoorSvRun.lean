/-
  Own layer 'SV' (15): a region in the text's order.
-/
import Derived.Test.YtmacpjddafcjcaaDoorSvLoc
set_option linter.all false
namespace Go.Sv
open M

structure Out where
  st : St
  vc : List Prop
  el : List (List V1)
  er : List (List V1)
  bl : List (List Blk)
  br : List (List Blk)
  lg : List (List Key × (Eff × Eqs))

def appL {α : Type} : List α → List α → List α
  | [], r => r
  | x :: l, r => x :: appL l r
theorem appL_mem {α : Type} {l r : List α} {x : α} : x ∈ appL l r ↔ x ∈ l ∨ x ∈ r := by
  induction l with
  | nil => simp [appL]
  | cons y l ih => simp [appL, ih, or_assoc]

def runOps (E : Env) (cs : List (Nat × CallE E.P E.G)) (base : Nat) : Nat → List Oper → St → Option Out
  | _, [], st => some ⟨st, [], [], [], [], [], []⟩
  | i, o :: r, st => match opM E cs i (base + 16 * i) o st.get with
    | none => none
    | some (e, rd) => match runOps E cs base (i + 1) r (st.sets e.1.wr) with
      | none => none
      | some out => some ⟨out.st, appL e.1.vc out.vc, e.2.el :: out.el, e.2.er :: out.er, e.2.bl :: out.bl, e.2.br :: out.br, (rd, e) :: out.lg⟩

def dstL : List Oper → List Nat
  | [] => []
  | o :: r => match o.dst with
    | some d => d :: dstL r
    | none => dstL r
def allLt (N : Nat) : List Nat → Bool
  | [] => true
  | d :: r => bAnd (Nat.blt d N) (allLt N r)
def gdOkL : Nat → List Oper → Bool
  | _, [] => true
  | i, o :: r => bAnd (match o.guard with | none => true | some (j, _) => Nat.blt j i) (gdOkL (i + 1) r)
def opsOk (N : Nat) (ops : List Oper) : Bool := bAnd (nodupB (dstL ops)) (bAnd (allLt N (dstL ops)) (gdOkL 0 ops))

theorem dst_mem : ∀ {l : List Oper} {i : Nat} {o : Oper} {d : Nat}, l[i]? = some o → o.dst = some d → d ∈ dstL l
  | [], i, o, d, h, _ => by simp at h
  | x :: r, 0, o, d, h, hd => by simp at h; subst h; simp [dstL, hd]
  | x :: r, i + 1, o, d, h, hd => by
    simp at h
    have := dst_mem h hd
    simp only [dstL]
    split
    · exact List.mem_cons_of_mem _ this
    · exact this
theorem dst_ne : ∀ {l : List Oper} (hn : (dstL l).Nodup) {i j : Nat} {o o' : Oper} {d : Nat}, l[i]? = some o → l[j]? = some o' → o.dst = some d → o'.dst = some d → i = j
  | [], _, i, j, o, o', d, h, _, _, _ => by simp at h
  | x :: r, hn, 0, 0, o, o', d, _, _, _, _ => rfl
  | x :: r, hn, 0, j + 1, o, o', d, h, h', hd, hd' => by
    simp at h h'
    subst h
    simp only [dstL, hd, List.nodup_cons] at hn
    exact (hn.1 (dst_mem h' hd')).elim
  | x :: r, hn, i + 1, 0, o, o', d, h, h', hd, hd' => by
    simp at h h'
    subst h'
    simp only [dstL, hd', List.nodup_cons] at hn
    exact (hn.1 (dst_mem h hd)).elim
  | x :: r, hn, i + 1, j + 1, o, o', d, h, h', hd, hd' => by
    simp at h h'
    have hn' : (dstL r).Nodup := by
      simp only [dstL] at hn
      split at hn
      · exact (List.nodup_cons.1 hn).2
      · exact hn
    rw [dst_ne hn' h h' hd hd']
theorem allLt_lt {N : Nat} : ∀ {l : List Nat}, allLt N l = true → ∀ d ∈ l, d < N
  | [], _, d, h => by simp at h
  | x :: r, h, d, hd => by
    obtain ⟨h1, h2⟩ := bAnd_eq h
    rcases List.mem_cons.1 hd with rfl | hd
    · exact Nat.le_of_ble_eq_true h1
    · exact allLt_lt h2 d hd
theorem gdOkL_lt : ∀ {l : List Oper} {k : Nat}, gdOkL k l = true → ∀ {i : Nat} {o : Oper} {j : Nat} {b : Bool}, l[i]? = some o → o.guard = some (j, b) → j < k + i
  | [], _, _, i, o, j, b, h, _ => by simp at h
  | x :: r, k, h, 0, o, j, b, hi, hg => by
    obtain ⟨h1, h2⟩ := bAnd_eq h
    simp at hi
    subst hi
    rw [hg] at h1
    exact Nat.le_of_ble_eq_true h1
  | x :: r, k, h, i + 1, o, j, b, hi, hg => by
    obtain ⟨h1, h2⟩ := bAnd_eq h
    simp at hi
    have := gdOkL_lt h2 hi hg
    omega

def wSet (ops : List Oper) (i : Nat) : Nat → Prop := fun t => ∃ j, j < i ∧ ∃ o : Oper, ops[j]? = some o ∧ o.dst = some t
def sSet (base i : Nat) : Nat → Prop := fun id => id < base + 16 * i

section
variable {Γ : Ctx} {E : Env}

theorem run_text (hP : E.P = Γ.P) (hG : E.G = Γ.G) {cs : List (Nat × CallE E.P E.G)} {ops : Array Oper} (hall : E.all = ops.toList) (hok : opsOk Γ.N ops.toList = true) {base : Nat} {Q : Exit → Act → World → Prop} :
    ∀ (suf : List Oper) (i : Nat) (st : St) (a : Act) (w : World) (out : Out), ops.toList.drop i = suf → runOps E cs base i suf st = some out → (∀ p ∈ out.vc, p) → out.el = out.er → out.bl = out.br →
      SatE Γ (sSet base i) (wSet ops.toList i) st a w → (∀ a' w', SatE Γ (sSet base (i + suf.length)) (wSet ops.toList (i + suf.length)) out.st a' w' → Q .normal a' w') →
      wpOps Γ.P ops Q (List.range' i suf.length) a w := by
  obtain ⟨ok1, ok23⟩ := bAnd_eq hok
  obtain ⟨ok2, ok3⟩ := bAnd_eq ok23
  have ok1 := nodupB_nodup ok1
  intro suf
  induction suf with
  | nil =>
    intro i st a w out hd hr hvc he hb hs hQ
    simp only [runOps, Option.some.injEq] at hr
    subst hr
    simp only [List.length_nil, List.range'_zero, wpOps]
    exact hQ a w hs
  | cons o r ih =>
    intro i st a w out hd hr hvc he hb hs hQ
    simp only [runOps] at hr
    cases hm : opM E cs i (base + 16 * i) o st.get with
    | none => simp [hm] at hr
    | some p =>
      obtain ⟨e, rd⟩ := p
      simp only [hm] at hr
      cases hr2 : runOps E cs base (i + 1) r (st.sets e.1.wr) with
      | none => simp [hr2] at hr
      | some out2 =>
        simp only [hr2, Option.some.injEq] at hr
        subst hr
        simp only [List.cons.injEq] at he hb
        have hi : ops.toList[i]? = some o := by
          have := congrArg (fun l => l[0]?) hd
          simpa using this
        have hi' : ops[i]? = some o := by simpa using hi
        have hdr : ops.toList.drop (i + 1) = r := by
          have := congrArg (fun l => l.drop 1) hd
          simpa [List.drop_drop] using this
        simp only [List.length_cons, List.range'_succ]
        rw [wpOps_cons]
        obtain ⟨D, ρ, hsat⟩ := hs
        refine op_ok hP hG (cs := cs) (nid := base + 16 * i) hall hsat ?_ hi' ?_ ?_ (eff := e.1) (eqs := e.2) ⟨rd, hm⟩ (fun p hp => hvc p (appL_mem.2 (.inl hp))) he.1 hb.1 ?_
        · intro id h1 h2 h3
          unfold sSet at h3; omega
        · intro x hx
          refine ⟨allLt_lt ok2 x (dst_mem hi hx), ?_⟩
          rintro ⟨j, hj, o', ho', hd'⟩
          have := dst_ne ok1 hi ho' hx hd'
          omega
        · intro j b oj t hg hoj ht
          have := gdOkL_lt ok3 hi hg
          exact ⟨j, by omega, oj, by simpa using hoj, ht⟩
        · intro a' w' hs'
          refine ih (i + 1) _ a' w' out2 hdr hr2 (fun p hp => hvc p (appL_mem.2 (.inr hp))) he.2 hb.2 ?_ ?_
          · obtain ⟨D', ρ', hs'⟩ := hs'
            refine ⟨D', ρ', hs'.mono (fun id h => ?_) (fun t h => ?_)⟩
            · unfold sPlus sSet at h; unfold sSet; omega
            · rcases h with ⟨j, hj, o', ho'⟩ | h
              · exact ⟨j, by omega, o', ho'⟩
              · exact ⟨i, by omega, o, hi, h⟩
          · intro a'' w'' h
            refine hQ a'' w'' ?_
            have : i + 1 + r.length = i + (o :: r).length := by simp; omega
            rw [this] at h
            exact h
end

/-! the state behind a region -/
def purge1 : TV → TV
  | .v x => .v x
  | .tup l => .tup l
  | .cnd _ _ _ => .junk
  | .junk => .junk
def purgeL : List (Nat × TV) → List (Nat × TV)
  | [] => []
  | (t, v) :: r => (t, purge1 v) :: purgeL r
def hasGd : List Oper → Bool
  | [] => false
  | o :: r => match o.guard with
    | some _ => true
    | none => hasGd r
def St.done (st : St) (ops : List Oper) (base n : Nat) : St := match hasGd ops with
  | true => ⟨purgeL st.tm, st.hp, base + 16 * n⟩
  | false => ⟨purgeL st.tm, st.hp, base + 16 * n⟩
theorem look_purge (l : List (Nat × TV)) (t : Nat) : look (purgeL l) t = (look l t).map purge1 := by
  induction l with
  | nil => rfl
  | cons p r ih =>
    obtain ⟨k, v⟩ := p
    simp only [purgeL, look]
    cases Nat.beq k t
    · exact ih
    · rfl
def Sat0 (Γ : Ctx) (st : St) (a : Act) (w : World) : Prop := SatE Γ (fun id => id < st.nx) (fun _ => False) st a w

theorem SatE.done {Γ : Ctx} {S W : Nat → Prop} {st : St} {a : Act} {w : World} {ops : List Oper} {base n : Nat} (hS : ∀ id, S id → id < base + 16 * n) (h : SatE Γ S W st a w) : Sat0 Γ (st.done ops base n) a w := by
  obtain ⟨D, ρ, h⟩ := h
  have e : st.done ops base n = ⟨purgeL st.tm, st.hp, base + 16 * n⟩ := by unfold St.done; split <;> rfl
  rw [e]
  refine ⟨D, ρ, { h with tm := ?_, idT := ?_, idH := fun id b hb => ⟨hS _ (h.idH id b hb).1, Blk.inS_mono hS (h.idH id b hb).2⟩, kinS := fun i hi => hS _ (h.kinS i hi) }⟩
  · intro t v hv
    simp only at hv
    rw [look_purge] at hv
    cases hl : look st.tm t with
    | none => simp [hl] at hv
    | some v0 =>
      simp only [hl, Option.map_some, Option.some.injEq] at hv
      subst hv
      obtain ⟨u, hu, hd⟩ := h.tm t v0 hl
      refine ⟨u, hu, ?_⟩
      cases v0 with
      | v x => exact hd
      | tup l => exact hd
      | cnd t w x => trivial
      | junk => trivial
  · intro t v hv
    simp only at hv
    rw [look_purge] at hv
    cases hl : look st.tm t with
    | none => simp [hl] at hv
    | some v0 =>
      simp only [hl, Option.map_some, Option.some.injEq] at hv
      subst hv
      have := TV.inS_mono hS (h.idT t v0 hl)
      cases v0 with
      | v x => exact this
      | tup l => exact this
      | cnd t w x => trivial
      | junk => trivial
end Go.Sv
