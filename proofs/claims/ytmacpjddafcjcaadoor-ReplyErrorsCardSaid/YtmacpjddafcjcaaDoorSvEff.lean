/-
  Own layer 'SV' (9): operations that make or write memory.
-/
import Derived.Test.YtmacpjddafcjcaaDoorSvPure4
set_option linter.all false
namespace Go.Sv
open M

def sPlus (S : Nat → Prop) (nid : Nat) : Nat → Prop := fun id => S id ∨ (nid ≤ id ∧ id < nid + 16)
def Fresh (S : Nat → Prop) (nid : Nat) : Prop := ∀ id, nid ≤ id → id < nid + 16 → ¬ S id
def rhoSet (ρ : Rho) (id : Nat) (p : Nat × Nat) : Rho := fun i => if i = id then p else ρ i

theorem heap_of_cell {w : World} {b o : Nat} {v : Value} (h : w.cell? ⟨b, o, none⟩ = some v) : b < w.heap.size := by
  simp only [World.cell?] at h
  rcases Nat.lt_or_ge b w.heap.size with hb | hb
  · exact hb
  · simp [Array.getElem?_eq_none hb] at h
theorem BlkSat.lt {D : Dat} {ρ : Rho} {id : Nat} {w : World} {b : Blk} (h : BlkSat D ρ id w b) (hl : Live ρ id b) : (ρ id).1 < w.heap.size := by
  rcases Nat.lt_or_ge (ρ id).1 w.heap.size with hb | hb
  · exact hb
  · cases b with
    | box e cs => obtain ⟨_, vs, fz, h1, _⟩ := h; simp [Array.getElem?_eq_none hb] at h1
    | row e sz n f =>
      rcases h with h | ⟨vs, fz, h1, _⟩
      · exact (hl h.1).elim
      · simp [Array.getElem?_eq_none hb] at h1
    | ob o => obtain ⟨_, x, h1, _⟩ := h; simp [Array.getElem?_eq_none hb] at h1
theorem BlkSat.dead {D : Dat} {ρ : Rho} {id : Nat} {w w' : World} {b : Blk} (h : BlkSat D ρ id w b) (hl : ¬ Live ρ id b) : BlkSat D ρ id w' b := by
  cases b with
  | box e cs => exact (hl h.1).elim
  | row e sz n f =>
    have h0 : (ρ id).2 = 0 := by
      by_cases h : (ρ id).2 = 0
      · exact h
      · exact (hl h).elim
    rcases h with h | ⟨vs, fz, h1, h2, h3, h4, h5, h6, _⟩
    · exact .inl h
    · exact .inl ⟨h0, by omega, h6⟩
  | ob o => exact (hl h.1).elim
theorem push_old (w : World) (o : Obj) (b : Nat) (h : b < w.heap.size) : ({ w with heap := w.heap.push o } : World).heap[b]? = w.heap[b]? := by
  show (w.heap.push o)[b]? = _
  rw [Array.getElem?_push, if_neg (by omega)]
theorem push_new (w : World) (o : Obj) : ({ w with heap := w.heap.push o } : World).heap[w.heap.size]? = some o := by
  show (w.heap.push o)[_]? = _
  simp
theorem cell_block {w w' : World} {b : Nat} (h : w'.heap[b]? = w.heap[b]?) (o : Nat) : w'.cell? ⟨b, o, none⟩ = w.cell? ⟨b, o, none⟩ := by
  simp only [World.cell?, h]

section
variable {Γ : Ctx} {S W : Nat → Prop} {D : Dat} {ρ : Rho} {st : St} {a : Act} {w : World} {E : Env} {i d nid : Nat} {g : OG} {eff : Eff}

/-- A new block. -/
theorem Sat.new (h : Sat Γ S W D ρ st a w) (hf : Fresh S nid) {o : Obj} {n : Nat} {b : Blk}
    (hb : BlkSat D (rhoSet ρ nid (w.heap.size, n)) nid { w with heap := w.heap.push o } b) (hin : b.inS S) :
    Sat Γ (sPlus S nid) W D (rhoSet ρ nid (w.heap.size, n)) (st.set (.bk nid) (.bk b)) a { w with heap := w.heap.push o } := by
  have hnS : ¬ S nid := hf nid (Nat.le_refl _) (by omega)
  have hr : ∀ i, S i → ρ i = rhoSet ρ nid (w.heap.size, n) i := by
    intro i hi; unfold rhoSet; rw [if_neg]; rintro rfl; exact hnS hi
  have hlt : ∀ i bi, look st.hp i = some bi → Live ρ i bi → (ρ i).1 < w.heap.size := fun i bi hi hl => (h.hp i bi hi).lt hl
  have hlv : ∀ i bi, look st.hp i = some bi → (Live ρ i bi ↔ Live (rhoSet ρ nid (w.heap.size, n)) i bi) := fun i bi hi => Live.agr hr (h.idH i bi hi).1
  have hSp : ∀ i, S i → sPlus S nid i := fun i hi => .inl hi
  have hne : ∀ i bi, look st.hp i = some bi → i ≠ nid := fun i bi hi e => hnS (e ▸ (h.idH i bi hi).1)
  have hlook : ∀ i, look (st.set (.bk nid) (.bk b)).hp i = if nid = i then some b else look st.hp i := fun i => look_put _ _ _ _
  have hrn : rhoSet ρ nid (w.heap.size, n) nid = (w.heap.size, n) := by simp [rhoSet]
  refine { defers := h.defers, size := h.size, tm := ?_, hp := ?_, inj := ?_, agree := ?_, sep := ?_, le := h.le, glob := h.glob, gl := h.gl, own := ?_, kin := ?_, newD := h.newD, frame := ?_, os := h.os, tape := h.tape, output := h.output, grow := ?_, idT := ?_, idH := ?_, kinS := fun i hi => hSp _ (h.kinS i hi) }
  · intro t v hv
    obtain ⟨u, hu, hd⟩ := h.tm t v hv
    exact ⟨u, hu, hd.agr hr (h.idT t v hv)⟩
  · intro id c hc
    rw [hlook] at hc
    by_cases e : nid = id
    · subst e; rw [if_pos rfl] at hc; simp only [Option.some.injEq] at hc; subst hc; exact hb
    · rw [if_neg e] at hc
      have := (h.hp id c hc).agr hr (h.idH id c hc).1 (h.idH id c hc).2
      by_cases hl : Live ρ id c
      · refine this.world ?_
        rw [← hr id (h.idH id c hc).1]
        exact push_old _ _ _ (hlt id c hc hl)
      · exact this.dead (fun hh => hl ((hlv id c hc).2 hh))
  · intro i j bi bj hi hj li lj hij
    rw [hlook] at hi hj
    by_cases e1 : nid = i <;> by_cases e2 : nid = j
    · rw [← e1, ← e2]
    · rw [if_neg e2] at hj
      subst e1
      rw [hrn, ← hr j (h.idH j bj hj).1] at hij
      have := hlt j bj hj ((hlv j bj hj).2 lj)
      omega
    · rw [if_neg e1] at hi
      subst e2
      rw [hrn, ← hr i (h.idH i bi hi).1] at hij
      have := hlt i bi hi ((hlv i bi hi).2 li)
      omega
    · rw [if_neg e1] at hi; rw [if_neg e2] at hj
      rw [← hr i (h.idH i bi hi).1, ← hr j (h.idH j bj hj).1] at hij
      exact h.inj i j bi bj hi hj ((hlv i bi hi).2 li) ((hlv j bj hj).2 lj) hij
  · intro b' o' v hv
    have := h.agree b' o' v hv
    rw [← this]
    exact cell_block (push_old _ _ _ (heap_of_cell this)) o'
  · intro id c hc lv o'
    rw [hlook] at hc
    by_cases e : nid = id
    · subst e
      rw [hrn]
      cases hD : D w.heap.size o' with
      | none => rfl
      | some v => exact absurd (heap_of_cell (h.agree _ _ _ hD)) (Nat.lt_irrefl _)
    · rw [if_neg e] at hc
      rw [← hr id (h.idH id c hc).1]
      exact h.sep id c hc ((hlv id c hc).2 lv) o'
  · intro id c hc lv
    rw [hlook] at hc
    by_cases e : nid = id
    · subst e; rw [hrn]; exact .inl h.grow
    · rw [if_neg e] at hc
      rw [← hr id (h.idH id c hc).1]
      exact h.own id c hc ((hlv id c hc).2 lv)
  · intro i hi
    rw [← hr i (h.kinS i hi)]
    exact h.kin i hi
  · intro b' hb' hk
    rw [push_old _ _ _ (Nat.lt_of_lt_of_le hb' h.grow)]
    exact h.frame b' hb' hk
  · exact Nat.le_trans h.grow (by simp)
  · exact fun t v hv => TV.inS_mono hSp (h.idT t v hv)
  · intro id c hc
    rw [hlook] at hc
    by_cases e : nid = id
    · subst e
      rw [if_pos rfl] at hc
      simp only [Option.some.injEq] at hc
      subst hc
      exact ⟨.inr ⟨Nat.le_refl _, by omega⟩, Blk.inS_mono hSp hin⟩
    · rw [if_neg e] at hc
      exact ⟨hSp _ (h.idH id c hc).1, Blk.inS_mono hSp (h.idH id c hc).2⟩

theorem clear00 (n : Nat) : clear (0, 0) n := fun o _ h => by omega

theorem nth_rel {D : Dat} {ρ : Rho} {l : List Cell} {us : Array Value} (h : RelA D ρ l us) {j : Nat} (hj : j < l.length) : ∃ u, us[j]? = some u ∧ Den D ρ (nthD l j) u := by
  have e : l[j]? = some l[j] := by simp [hj]
  obtain ⟨u, hu, hd⟩ := h.2 j _ e
  exact ⟨u, hu, by simp only [nthD, nth_eq, e]; exact hd⟩

/-- A new box with what a value's cells denote. -/
theorem Sat.box (h : Sat Γ S W D ρ st a w) (hf : Fresh S nid) {t : TypeId} {l : List Cell} {us : Array Value} (hr : RelA D ρ l us) (hin : ∀ (j : Nat) (x : Cell), l[j]? = some x → x.inS S) :
    Sat Γ (sPlus S nid) W D (rhoSet ρ nid (w.heap.size, 1)) (st.set (.bk nid) (.bk (.box t l))) a { w with heap := w.heap.push (.cells us t) } := by
  have hnS : ¬ S nid := hf nid (Nat.le_refl _) (by omega)
  have hrn : rhoSet ρ nid (w.heap.size, 1) nid = (w.heap.size, 1) := by simp [rhoSet]
  refine h.new hf ⟨by rw [hrn]; simp, us, (0, 0), ?_, hr.1, clear00 _, fun j x hj => ?_⟩ hin
  · rw [hrn]; exact push_new _ _
  · obtain ⟨u, hu, hd⟩ := hr.2 j x hj
    refine ⟨u, hu, Den.agr (Agr.of_inS (S := S) (fun i hi => ?_) (hin j x hj)) hd⟩
    unfold rhoSet; rw [if_neg]; rintro rfl; exact hnS hi

theorem Sat.row (h : Sat Γ S W D ρ st a w) (hf : Fresh S nid) {t : TypeId} {sz n : Nat} {l : List Cell} {us : Array Value} (hr : RelA D ρ l us) (hin : ∀ (j : Nat) (x : Cell), l[j]? = some x → x.inS S)
    (hlen : l.length = n * sz) (hsz : 0 < sz) (hmax : n ≤ maxLen) :
    Sat Γ (sPlus S nid) W D (rhoSet ρ nid (w.heap.size, n)) (st.set (.bk nid) (.bk (.row t sz n (fun i j => nthD l (i * sz + j))))) a { w with heap := w.heap.push (.cells us t) } := by
  have hnS : ¬ S nid := hf nid (Nat.le_refl _) (by omega)
  have hrn : rhoSet ρ nid (w.heap.size, n) nid = (w.heap.size, n) := by simp [rhoSet]
  have hag : ∀ i, S i → ρ i = rhoSet ρ nid (w.heap.size, n) i := by
    intro i hi; unfold rhoSet; rw [if_neg]; rintro rfl; exact hnS hi
  have hlt : ∀ i, i < n → ∀ j, j < sz → i * sz + j < l.length := by
    intro i hi j hj
    have : (i + 1) * sz ≤ n * sz := Nat.mul_le_mul_right _ hi
    rw [Nat.add_mul] at this
    omega
  refine h.new hf (.inr ⟨us, (0, 0), ?_, ?_, clear00 _, ?_, ?_, hsz, ?_, fun i hi j hj => ?_⟩) ?_
  · rw [hrn]; exact push_new _ _
  · rw [hrn, hr.1, hlen]
  · rw [hrn]; exact Nat.le_refl _
  · rw [hrn]; exact hmax
  · intro j u hu
    have hj : j < l.length := by
      rw [← hr.1]
      rcases Nat.lt_or_ge j us.size with h | h
      · exact h
      · simp [Array.getElem?_eq_none h] at hu
    obtain ⟨u', hu', hd⟩ := nth_rel hr hj
    rw [hu] at hu'
    simp only [Option.some.injEq] at hu'
    subst hu'
    exact hd.one
  · obtain ⟨u, hu, hd⟩ := nth_rel hr (hlt i hi j hj)
    refine ⟨u, hu, Den.agr (Agr.of_inS hag ?_) hd⟩
    have e : l[i * sz + j]? = some (l[i * sz + j]'(hlt i hi j hj)) := by simp [hlt i hi j hj]
    simp only [nthD, nth_eq, e]
    exact hin _ _ e
  · intro i hi j hj
    have e : l[i * sz + j]? = some (l[i * sz + j]'(hlt i hi j hj)) := by simp [hlt i hi j hj]
    simp only [nthD, nth_eq, e]
    exact hin _ _ e

/-- What an operation that makes or writes memory comes to. -/
def EffOk (Γ : Ctx) (S W : Nat → Prop) (st : St) (a : Act) (w : World) (dst : Option Nat) (nid : Nat) (eff : Eff) (sem : Sem Value) : Prop :=
  ∃ u w', sem.run Γ.P w = .ok u w' ∧ SatE Γ (sPlus S nid) (fun t => W t ∨ dst = some t) (st.sets eff.wr) (a.put dst u) w'

theorem alloc_ok (hP : E.P = Γ.P) (h : Sat Γ S W D ρ st a w) (hf : Fresh S nid) (hd : d < Γ.N) (hnd : ¬ W d) {t : TypeId} {z : List Cell} (hz : tZero E.P t = some z) :
    EffOk Γ S W st a w (some d) nid ⟨[(.bk nid, .bk (.box t z)), (.tm d, .tv (.v (.c (.ptr nid 0))))], []⟩ (Instr.alloc t true (.tuple #[])) := by
  rw [hP] at hz
  obtain ⟨u, h1, h2, h3⟩ := zero_run hz D ρ w
  refine ⟨.pointer (some ⟨w.heap.size, 0, none⟩), { w with heap := w.heap.push (.cells u.cells t) }, ?_, ?_⟩
  · simp only [Instr.alloc, Sem.run_bind, h1, Result.andThen_ok]
    rfl
  · refine ⟨D, _, (h.box hf (t := t) h2 (h3 S)).put (W' := fun t => W t ∨ some d = some t) hd hnd (fun t ht => .inl ht) ?_ ?_⟩
    · simp [DenT, DenV, Den, rhoSet]
    · exact .inr ⟨Nat.le_refl _, by omega⟩

theorem box_ok (hG : E.G = Γ.G) (h : Sat Γ S W D ρ st a w) (hf : Fresh S nid) (hd : d < Γ.N) (hnd : ¬ W d) {t : TypeId} {x : Operand} {v : V1} (hv : (opdM E none x).Ev st.get v) :
    EffOk Γ S W st a w (some d) nid ⟨[(.bk nid, .bk (.box t v.cells)), (.tm d, .tv (.v (.c (.ptr nid 0))))], []⟩ (Instr.box t (a.eval x)) := by
  have hden := opd_den hG h (g := none) (by intro gd e; cases e) (by intro gd e; cases e) hv
  refine ⟨.pointer (some ⟨w.heap.size, 0, none⟩), { w with heap := w.heap.push (.cells (a.eval x).cells t) }, rfl, ?_⟩
  refine ⟨D, _, (h.box hf (t := t) hden.cells (V1.cells_inS (opd_inS hG h hv))).put (W' := fun t => W t ∨ some d = some t) hd hnd (fun t ht => .inl ht) ?_ ?_⟩
  · simp [DenT, DenV, Den, rhoSet]
  · exact .inr ⟨Nat.le_refl _, by omega⟩

theorem repL_len (n : Nat) (l : List Cell) : (repL n l).length = n * l.length := by
  induction n with
  | zero => simp [repL]
  | succ n ih => simp only [repL, List.length_append, ih, Nat.add_mul]; omega
theorem repL_get : ∀ (n : Nat) (l : List Cell) (k : Nat), k < n * l.length → (repL n l)[k]? = l[k % l.length]?
  | 0, l, k, h => by simp at h
  | n + 1, l, k, h => by
    simp only [repL]
    rw [List.getElem?_append]
    split
    · rename_i hk; rw [Nat.mod_eq_of_lt hk]
    · rename_i hk
      have hk : l.length ≤ k := by omega
      rw [repL_get n l _ (by rw [Nat.add_mul] at h; omega), Nat.mod_eq_sub_mod hk]

theorem buildSl_ok (hP : E.P = Γ.P) (hG : E.G = Γ.G) (h : Sat Γ S W D ρ st a w) (hfr : Fresh S nid) (hd : d < Γ.N) (hnd : ¬ W d) {t : TypeId} {n : Nat} {ps : Array (Nat × Operand)} {g : OG}
    (hf : (buildSlM E i nid g d t n ps.toList).Ev st.get eff) : EffOk Γ S W st a w (some d) nid eff (Instr.buildSlice t n (ps.map fun (i, x) => (i, a.eval x))) := by
  simp only [buildSlM, ev_bind, ev_opt, ev_guard, ev_ret] at hf
  obtain ⟨_, hg1, el, hel, sz, hsz, z, hz, _, hb, l, hl, rfl⟩ := hf
  have hg0 : g = none := by cases g with
    | none => rfl
    | some gd => simp [pure1, ev_fail] at hg1
  subst hg0
  rw [hP] at hel hsz hz
  obtain ⟨hb1, hb⟩ := bAnd_eq hb
  obtain ⟨hb2, hb3⟩ := bAnd_eq hb
  have hb1 : 0 < sz := Nat.le_of_ble_eq_true hb1
  have hb2 : n * sz ≤ 16777216 := Nat.le_of_ble_eq_true hb2
  have hb3 := (beq_eq _ _).1 hb3
  rw [len_eq] at hb3
  have hu : Γ.P.underlying t = some (.slice el) := by
    unfold tElem at hel
    split at hel
    · rename_i e hh; simp only [Option.some.injEq] at hel; subst hel; exact hh
    · cases hel
  obtain ⟨u, hzr, hzd, hzi⟩ := zero_run hz D ρ w
  have he : Exec none a := by intro gd e; cases e
  have hg : GdOk W none a := by intro gd e; cases e
  have zsz : u.cells.size = sz := by rw [hzd.1, hb3]
  have hrel : RelA D ρ (repL n z) ((Array.range (n * sz)).map (u.cells[· % u.cells.size]!)) := by
    refine ⟨by simp [repL_len, hb3], fun j x hj => ?_⟩
    have hjl : j < n * z.length := by
      rw [← repL_len]
      rcases Nat.lt_or_ge j (repL n z).length with h | h
      · exact h
      · simp [List.getElem?_eq_none h] at hj
    rw [repL_get _ _ _ hjl] at hj
    obtain ⟨y, hy, hdy⟩ := hzd.2 _ _ hj
    refine ⟨y, ?_, hdy⟩
    have hjn : j < n * sz := by rw [← hb3]; exact hjl
    simp only [Array.getElem?_map, Array.getElem?_range, hjn, if_true, Option.map_some, zsz, Option.some.injEq]
    rw [hb3] at hy
    rw [getElem!_def, hy]
  obtain ⟨us', h1, h2⟩ := parts_den hG h hg he hl hrel
  obtain ⟨q1, q2⟩ := parts_inS hG h hl (fun j x hj => by
    have hjl : j < n * z.length := by
      rw [← repL_len]
      rcases Nat.lt_or_ge j (repL n z).length with h | h
      · exact h
      · simp [List.getElem?_eq_none h] at hj
    rw [repL_get _ _ _ hjl] at hj
    exact hzi S _ _ hj)
  have hlen : l.length = n * sz := by rw [q1, repL_len, hb3]
  have hn : n ≤ n * sz := Nat.le_mul_of_pos_right n hb1
  refine ⟨.slice (some ⟨w.heap.size, 0, none⟩) n n, { w with heap := w.heap.push (.cells us' el) }, ?_, ?_⟩
  · simp only [Instr.buildSlice, Sem.run_bind, under_run hu, Result.andThen_ok, tSize_run hsz]
    rw [if_neg (by omega)]
    by_cases hz0 : n * sz = 0
    · have hn0 : n = 0 := by omega
      simp only [hz0, if_true, Sem.run_bind, Sem.run_pure, Result.andThen_ok]
      rw [hz0] at h1
      simp only [Array.toList_map] at h1 ⊢
      rw [show (Array.map (fun x => (#[] : Array Value)[x % (#[] : Array Value).size]!) (Array.range 0)) = Array.map (u.cells[· % u.cells.size]!) (Array.range 0) from by simp, h1]
      rfl
    · simp only [hz0, if_false, Sem.run_bind, hzr, Sem.run_pure, Result.andThen_ok, Array.toList_map]
      rw [h1]
      rfl
  · refine ⟨D, _, (h.row hfr (t := el) h2 q2 hlen hb1 (by unfold maxLen; omega)).put (W' := fun t => W t ∨ some d = some t) hd hnd (fun t ht => .inl ht) ?_ ?_⟩
    · simp only [DenT, DenV, Den]
      refine .inl ⟨0, ?_, ?_, .inl (by simp)⟩
      · simp [rhoSet]
      · simp [rhoSet]
    · exact .inr ⟨Nat.le_refl _, by omega⟩
end
end Go.Sv
