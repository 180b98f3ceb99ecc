/-
  Own layer 'SV': append.
-/
import Derived.Test.YtmacpjddafcjcaaDoorSvStore
import Derived.Laws.Append
import Derived.Laws.NewFold
set_option linter.all false
namespace Go.Sv
open M

/-! the executor -/
def tBytes (P : Program) (t : TypeId) : Option Nat := match P.info? t with
  | some i => some i.bytes
  | none => none
def notInt (P : Program) (t : TypeId) : Bool := match P.underlying t with
  | some (.slice _) => true
  | some .string => true
  | _ => false
structure Els where
  id : Option Nat
  n : Nat
  f : Nat → Nat → Cell
  vc : List Prop
def baseM (el sz : Nat) : Cell → M Els
  | .nilsl => ret ⟨none, 0, fun _ _ => .nilif, []⟩
  | .row s id off m => bind (guard (bAnd (Nat.beq s sz) (Nat.beq off 0))) fun _ => bind (rowM id) fun r =>
      bind (guard (bAnd (Nat.beq r.1 el) (Nat.beq r.2.1 sz))) fun _ => ret ⟨some id, m, r.2.2.2, [m ≤ r.2.2.1]⟩
  | _ => fail
def notId (o : Option Nat) (id : Nat) : Bool := match o with
  | none => true
  | some j => match Nat.beq j id with
    | true => false
    | false => true
def srcM (sz : Nat) (no : Option Nat) : Cell → M Els
  | .nilsl => ret ⟨none, 0, fun _ _ => .nilif, []⟩
  | .sl s m f => bind (guard (Nat.beq s sz)) fun _ => ret ⟨none, m, f, [∀ i, i < m → ∀ j, j < sz → (f i j).flat = true]⟩
  | .row s id off m => bind (guard (bAnd (Nat.beq s sz) (notId no id))) fun _ => bind (rowM id) fun r =>
      bind (guard (Nat.beq r.2.1 sz)) fun _ => ret ⟨some id, m, fun i j => r.2.2.2 (off + i) j, [off + m ≤ r.2.2.1]⟩
  | .str s => bind (guard (Nat.beq sz 1)) fun _ => ret ⟨none, s.length, fun i _ => .int .u8 ((s.getD i 0).toNat : Int), []⟩
  | _ => fail
def catF (n : Nat) (f g : Nat → Nat → Cell) : Nat → Nat → Cell := fun i j => if i < n then f i j else g (i - n) j
def goneW : Option Nat → List (Key × KV) → List (Key × KV)
  | none, l => l
  | some id, l => (.bk id, .gone) :: l
def blkOf (E : Env) (i : Nat) (b : Blk) : Blk × List Prop := match look E.bs i with
  | none => (b, [])
  | some b' => (b', [BlkEqv b b'])
def appB (E : Env) (i el sz bytes nid d : Nat) (p q : Els) : Eff :=
  ⟨goneW p.id [(.bk nid, .bk (blkOf E i (.row el sz (p.n + q.n) (catF p.n p.f q.f))).1), (.tm d, .tv (.v (.c (.row sz nid 0 (p.n + q.n)))))],
    ((p.n + q.n) * bytes ≤ 140737488355328) :: ((blkOf E i (.row el sz (p.n + q.n) (catF p.n p.f q.f))).2 ++ (p.vc ++ q.vc))⟩
def appendM (E : Env) (i nid : Nat) (g : OG) (d : Nat) (t t2 : TypeId) (x y : Operand) : M Eff :=
  bind (pure1 g) fun _ => bind (opdM E none x) fun v => bind (cellM v) fun a => bind (opdM E none y) fun u => bind (cellM u) fun b =>
  bind (opt (tElem E.P t)) fun el => bind (opt (tSize E.P el)) fun sz => bind (opt (tBytes E.P el)) fun bytes => bind (opt (tZero E.P el)) fun z =>
  bind (guard (bAnd (Nat.blt 0 sz) (bAnd (Nat.blt 0 bytes) (bAnd (Nat.beq (len z) sz) (notInt E.P t2))))) fun _ =>
  bind (baseM el sz a) fun p => bind (srcM sz p.id b) fun q => ret (appB E i el sz bytes nid d p q)

/-! the model's append -/
section
variable {P : Program} {w : World}
theorem notInt_ev {t2 : TypeId} (h2 : notInt P t2 = true) : (∃ e, P.underlying t2 = some (.slice e)) ∨ P.underlying t2 = some .string := by
  unfold notInt at h2
  split at h2
  · rename_i e h; exact .inl ⟨e, h⟩
  · rename_i h; exact .inr h
  · cases h2

def roomS (b : Option Addr) (k need cap : Nat) (news : List Value) : Sem Value := do
  if let some a := b then storeCells (a.add k) news
  pure (.slice b need cap)
theorem app_room {t t2 ty el : TypeId} {i : TypeInfo} (ht : P.underlying t = some (.slice el)) (h2 : notInt P t2 = true) (hi : P.info? el = some i) {n m cap : Nat} {x : Value} {news : Array Value} {b : Option Addr}
    (hl : (Builtin.lenOf x).run P w = .ok m w) (hf : (Builtin.firstCells i.size m x).run P w = .ok news w) (hr : n + m ≤ cap) :
    (Builtin.append_ #[t, t2] ty #[.slice b n cap, x]).run P w = (roomS b (n * i.size) (n + m) cap news.toList).run P w := by
  rcases notInt_ev h2 with ⟨e, hd2⟩ | hd2 <;> simp [Builtin.append_, roomS, run_underlying ht, run_underlying hd2, sizeOf, typeInfo, hi, hl, hf, hr] <;> rfl

theorem app_grow {t t2 ty el : TypeId} {i : TypeInfo} {z : Value} (ht : P.underlying t = some (.slice el)) (h2 : notInt P t2 = true) (hi : P.info? el = some i) (hz : i.zero = some z) {n m cap : Nat} {x : Value} {olds news : Array Value} {b : Option Addr}
    (hl : (Builtin.lenOf x).run P w = .ok m w) (hf : (Builtin.firstCells i.size m x).run P w.drew = .ok news w.drew) (ho : (Builtin.firstCells i.size n (.slice b n cap)).run P w.drew = .ok olds w.drew) (hg : cap < n + m)
    (h63 : n + m ≤ maxLen) (hb : (n + m) * i.bytes ≤ 140737488355328) :
    (Builtin.append_ #[t, t2] ty #[.slice b n cap, x]).run P w = .ok (.slice (some ⟨w.heap.size, 0, none⟩) (n + m) (grownCap w (n + m) cap el))
      { w.drew with heap := w.heap.push (.cells (olds ++ news ++ Builtin.zeroCells z.cells (grownCap w (n + m) cap el - (n + m))) el) } := by
  have h48 := growslice_fits hg hb
  have hn : ¬ (n + m ≤ cap) := by omega
  have h63' : ¬ (9223372036854775807 < ((n : Int) + (m : Int))) := by simp only [maxLen] at h63; omega
  have h48' : ¬ (281474976710656 < Builtin.nextslicecap (n + m) cap * i.bytes) := by omega
  rcases notInt_ev h2 with ⟨e, hd2⟩ | hd2 <;>
    (simp [Builtin.append_, run_underlying ht, run_underlying hd2, sizeOf, typeInfo, zeroValue, hi, hz, hl, hf, ho, hn, h63', h48', Question.forced, newRow, grownCap]; try rfl)
end

/-! what elements there are -/
def EA (D : Dat) (ρ : Rho) (sz n : Nat) (f : Nat → Nat → Cell) (us : Array Value) : Prop := us.size = n * sz ∧ ∀ i, i < n → ∀ j, j < sz → ∃ u, us[i * sz + j]? = some u ∧ Den D ρ (f i j) u
theorem div_lt {sz n k : Nat} (hk : k < n * sz) : 0 < sz ∧ k / sz < n ∧ k % sz < sz ∧ k / sz * sz + k % sz = k := by
  have h0 : 0 < sz := by
    rcases Nat.eq_zero_or_pos sz with rfl | h
    · simp at hk
    · exact h
  refine ⟨h0, (Nat.div_lt_iff_lt_mul h0).2 hk, Nat.mod_lt _ h0, ?_⟩
  rw [Nat.mul_comm]; exact Nat.div_add_mod k sz
theorem EA.one {D : Dat} {ρ : Rho} {sz n : Nat} {f : Nat → Nat → Cell} {us : Array Value} (h : EA D ρ sz n f us) : ∀ v ∈ us.toList, one v := by
  intro v hv
  obtain ⟨k, hk, e⟩ := List.getElem_of_mem hv
  have hk : k < n * sz := by rw [← h.1]; simpa using hk
  obtain ⟨_, h2, h3, h4⟩ := div_lt hk
  obtain ⟨u, hu, hd⟩ := h.2 _ h2 _ h3
  rw [h4] at hu
  have : us[k]? = some v := by rw [← e]; simp
  rw [hu] at this
  simp only [Option.some.injEq] at this
  subst this
  exact hd.one
theorem mul_lt {sz n i j : Nat} (hi : i < n) (hj : j < sz) : i * sz + j < n * sz := by
  have : (i + 1) * sz ≤ n * sz := Nat.mul_le_mul_right _ hi
  rw [Nat.add_mul] at this
  omega
/-- Cells that stand in the memory are read. -/
theorem cells_run {P : Program} {D : Dat} {ρ : Rho} {w : World} {sz n b o : Nat} {f : Nat → Nat → Cell} (h : ∀ i, i < n → ∀ j, j < sz → ∃ u, w.cell? ⟨b, o + i * sz + j, none⟩ = some u ∧ Den D ρ (f i j) u) :
    ∃ us : Array Value, EA D ρ sz n f us ∧ (∀ k u, us[k]? = some u → w.cell? ⟨b, o + k, none⟩ = some u) ∧ ∀ w' : World, w'.heap = w.heap → (loadCells ⟨b, o, none⟩ (n * sz)).run P w' = .ok us w' := by
  have hk : ∀ k, k < n * sz → ∃ u, w.cell? ⟨b, o + k, none⟩ = some u ∧ Den D ρ (f (k / sz) (k % sz)) u := by
    intro k hk
    obtain ⟨_, h2, h3, h4⟩ := div_lt hk
    obtain ⟨u, hu, hd⟩ := h _ h2 _ h3
    rw [Nat.add_assoc, h4] at hu
    exact ⟨u, hu, hd⟩
  let F : Nat → Value := fun k => if hh : k < n * sz then (hk k hh).choose else undef
  have hF : ∀ k, k < n * sz → w.cell? ⟨b, o + k, none⟩ = some (F k) ∧ Den D ρ (f (k / sz) (k % sz)) (F k) := by
    intro k h; simp only [F, dif_pos h]; exact (hk k h).choose_spec
  refine ⟨((List.range (n * sz)).map F).toArray, ⟨by simp, fun i hi j hj => ⟨F (i * sz + j), ?_, ?_⟩⟩, fun k u hu => ?_, fun w' hw => ?_⟩
  · simp [mul_lt hi hj]
  · have h0 : 0 < sz := by omega
    have := (hF _ (mul_lt hi hj)).2
    rw [Nat.add_comm (i * sz), Nat.add_mul_mod_self_right, Nat.mod_eq_of_lt hj, Nat.add_mul_div_right _ _ h0, Nat.div_eq_of_lt hj, Nat.zero_add] at this
    rw [Nat.add_comm]; exact this
  · simp only [List.getElem?_toArray, List.getElem?_map, Option.map_eq_some_iff] at hu
    obtain ⟨k', hk', rfl⟩ := hu
    have hlt : k < n * sz := by
      rcases Nat.lt_or_ge k (n * sz) with h | h
      · exact h
      · rw [List.getElem?_eq_none (by simpa using h)] at hk'; cases hk'
    rw [List.getElem?_range hlt] at hk'
    simp only [Option.some.injEq] at hk'
    subst hk'
    exact (hF _ hlt).1
  · exact run_loadCells w' ⟨b, o, none⟩ (n * sz) F (fun j hj => by rw [addr_add, ← (hF j hj).1]; simp only [World.cell?, hw])

section
variable {Γ : Ctx} {S W : Nat → Prop} {D : Dat} {ρ : Rho} {st : St} {a : Act} {w : World} {E : Env} {i d nid : Nat} {g : OG} {eff : Eff}

/-- What is appended. -/
theorem src_run (h : Sat Γ S W D ρ st a w) {sz : Nat} {no : Option Nat} {c : Cell} {q : Els} (hq : (srcM sz no c).Ev st.get q) (hvc : ∀ p ∈ q.vc, p) {v : Value} (hd : Den D ρ c v) (hin : c.inS S) :
    (Builtin.lenOf v).run Γ.P w = .ok q.n w ∧ (∃ us, EA D ρ sz q.n q.f us ∧ ∀ w' : World, w'.heap = w.heap → (Builtin.firstCells sz q.n v).run Γ.P w' = .ok us w') ∧ (∀ i, i < q.n → ∀ j, j < sz → (q.f i j).inS S) := by
  cases c with
  | nilsl =>
    simp only [srcM, ev_ret] at hq
    subst hq
    simp only [Den] at hd
    subst hd
    exact ⟨by simp [Builtin.lenOf], ⟨#[], ⟨by simp, fun i hi => by simp at hi⟩, fun w' _ => by simp [Builtin.firstCells]⟩, fun i hi => by simp at hi⟩
  | sl s m f =>
    simp only [srcM, ev_bind, ev_guard, ev_ret] at hq
    obtain ⟨_, hs, rfl⟩ := hq
    have hs := (beq_eq _ _).1 hs
    subst hs
    simp only [Den] at hd
    obtain ⟨ad, cap, rfl, h1, h2, h3⟩ := hd
    have hfl : ∀ i, i < m → ∀ j, j < s → (f i j).flat = true := hvc _ (by simp)
    refine ⟨by simp [Builtin.lenOf], ?_, fun i hi j hj => Cell.inS_flat (hfl i hi j hj)⟩
    rcases h3 with ⟨rfl, h3⟩ | ⟨b, o, rfl, h3⟩
    · have : m = 0 := by omega
      subst this
      exact ⟨#[], ⟨by simp, fun i hi => by simp at hi⟩, fun w' _ => by simp [Builtin.firstCells]⟩
    · obtain ⟨us, h4, _, h5⟩ := cells_run (P := Γ.P) (D := D) (ρ := ρ) (w := w) (sz := s) (n := m) (b := b) (o := o) (f := f) (fun i hi j hj => by
        obtain ⟨u, hu, hdn⟩ := h3 i hi j hj
        exact ⟨u, h.agree _ _ _ hu, Den.flat (hfl i hi j hj) hdn⟩)
      exact ⟨us, h4, fun w' hw => by simp only [Builtin.firstCells]; exact h5 w' hw⟩
  | row s id off m =>
    simp only [srcM, ev_bind, ev_guard, ev_ret] at hq
    obtain ⟨_, hs, r, hr, _, hz, rfl⟩ := hq
    have hs := (beq_eq _ _).1 (bAnd_eq hs).1
    subst hs
    have hz := (beq_eq _ _).1 hz
    have hrow := row_ev hr
    have hle : off + m ≤ r.2.2.1 := hvc _ (by simp)
    have hin2 := (h.idH id _ hrow).2
    refine ⟨?_, ?_, fun i hi j hj => hin2 (off + i) (by simp only at hi; omega) j (by rw [hz]; exact hj)⟩
    · simp only [Den] at hd
      rcases hd with ⟨o, rfl, _⟩ | ⟨_, _, rfl, ad, _, rfl⟩ <;> simp [Builtin.lenOf]
    · have none0 : m = 0 → ∃ us, EA D ρ s m (fun i j => r.2.2.2 (off + i) j) us ∧ ∀ w' : World, w'.heap = w.heap → (Builtin.firstCells s m v).run Γ.P w' = .ok us w' := by
        intro hm
        subst hm
        refine ⟨#[], ⟨by simp, fun i hi => by simp at hi⟩, fun w' _ => ?_⟩
        simp only [Den] at hd
        rcases hd with ⟨o, rfl, _⟩ | ⟨_, _, _, ad, _, rfl⟩
        · simp [Builtin.firstCells, loadCells, loadCellsFrom]
        · cases ad <;> simp [Builtin.firstCells, loadCells, loadCellsFrom]
      by_cases hm : m = 0
      · exact none0 hm
      · rcases h.hp id _ hrow with hb | ⟨vs, fz, e1, e2, e3, e4, e5, e6, e7, e8⟩
        · exact none0 (by have := hb.2.1; omega)
        · simp only [Den] at hd
          rcases hd with ⟨o, rfl, h1, h2⟩ | ⟨_, _, h2, _⟩
          · have ho : o = off * s := h2.resolve_right (by omega)
            subst ho
            obtain ⟨us, h4, _, h5⟩ := cells_run (P := Γ.P) (D := D) (ρ := ρ) (w := w) (sz := s) (n := m) (b := (ρ id).1) (o := off * s) (f := fun i j => r.2.2.2 (off + i) j) (fun i hi j hj => by
              obtain ⟨u, hu, hdn⟩ := e8 (off + i) (by omega) j (by rw [hz]; exact hj)
              refine ⟨u, ?_, hdn⟩
              simp only [World.cell?, e1, Option.isSome_none, Bool.false_eq_true, if_false]
              rw [← hu, hz, Nat.add_mul])
            exact ⟨us, h4, fun w' hw => by simp only [Builtin.firstCells]; exact h5 w' hw⟩
          · exact none0 h2
  | str s =>
    simp only [srcM, ev_bind, ev_guard, ev_ret] at hq
    obtain ⟨_, hs, rfl⟩ := hq
    have hs := (beq_eq _ _).1 hs
    subst hs
    simp only [Den] at hd
    subst hd
    refine ⟨by simp [Builtin.lenOf, size_mk], ⟨(s.map fun b => Value.int .u8 (b.toNat : Int)).toArray, ⟨by simp, fun i hi j hj => ?_⟩, fun w' _ => ?_⟩, fun i hi j hj => trivial⟩
    · have : j = 0 := by omega
      subst this
      simp only at hi
      simp [Den, hi, List.getD]
    · simp only [Builtin.firstCells, Sem.run_pure, Result.ok.injEq, and_true]
      have : (⟨s.toArray⟩ : ByteArray).extract 0 s.length = ⟨s.toArray⟩ := by
        rw [← size_mk s]; exact ByteArray.extract_zero_size
      rw [this]
      simp
  | _ => simp [srcM, ev_fail] at hq

theorem Sat.del (h : Sat Γ S W D ρ st a w) (id : Nat) : Sat Γ S W D ρ (st.set (.bk id) .gone) a w := by
  have key : ∀ i c, look (st.set (.bk id) .gone).hp i = some c → look st.hp i = some c := by
    intro i c hc
    have e : look (st.set (.bk id) .gone).hp i = if id = i then none else look st.hp i := look_del _ _ _
    rw [e] at hc
    split at hc
    · cases hc
    · exact hc
  exact { h with
    tm := h.tm
    hp := fun i b hb => h.hp i b (key i b hb)
    inj := fun i j bi bj hi hj => h.inj i j bi bj (key i bi hi) (key j bj hj)
    sep := fun i b hb => h.sep i b (key i b hb)
    own := fun i b hb => h.own i b (key i b hb)
    idT := h.idT
    idH := fun i b hb => h.idH i b (key i b hb) }
theorem Sat.drewn (h : Sat Γ S W D ρ st a w) : Sat Γ S W D ρ st a w.drew :=
  { h with
    hp := fun i b hb => (h.hp i b hb).world rfl
    agree := h.agree
    frame := h.frame
    os := h.os
    tape := h.tape
    output := h.output
    grow := h.grow }

/-- A block by a new id, the world as it is. -/
theorem Sat.alias (h : Sat Γ S W D ρ st a w) (hf : Fresh S nid) {p : Nat × Nat} {b : Blk} (hb : BlkSat D (rhoSet ρ nid p) nid w b) (hin : b.inS S)
    (hl : p.2 ≠ 0 → (∀ i bi, look st.hp i = some bi → Live ρ i bi → (ρ i).1 ≠ p.1) ∧ (∀ o, D p.1 o = none) ∧ (Γ.w0.heap.size ≤ p.1 ∨ ∃ i, i < Γ.kin ∧ (Γ.ρ0 i).2 ≠ 0 ∧ (Γ.ρ0 i).1 = p.1)) :
    Sat Γ (sPlus S nid) W D (rhoSet ρ nid p) (st.set (.bk nid) (.bk b)) a w := by
  have hnS : ¬ S nid := hf nid (Nat.le_refl _) (by omega)
  have hr : ∀ i, S i → ρ i = rhoSet ρ nid p i := by
    intro i hi; unfold rhoSet; rw [if_neg]; rintro rfl; exact hnS hi
  have hlv : ∀ i bi, look st.hp i = some bi → (Live ρ i bi ↔ Live (rhoSet ρ nid p) i bi) := fun i bi hi => Live.agr hr (h.idH i bi hi).1
  have hSp : ∀ i, S i → sPlus S nid i := fun i hi => .inl hi
  have hlook : ∀ i, look (st.set (.bk nid) (.bk b)).hp i = if nid = i then some b else look st.hp i := fun i => look_put _ _ _ _
  have hrn : rhoSet ρ nid p nid = p := by simp [rhoSet]
  have hln : ∀ c, Live (rhoSet ρ nid p) nid c → p.2 ≠ 0 := fun c hc => by have := hc; simp only [Live, hrn] at this; exact this
  refine { defers := h.defers, size := h.size, tm := ?_, hp := ?_, inj := ?_, agree := h.agree, sep := ?_, le := h.le, glob := h.glob, gl := h.gl, own := ?_, kin := ?_, newD := h.newD, frame := h.frame, os := h.os, tape := h.tape, output := h.output, grow := h.grow, idT := ?_, idH := ?_, kinS := fun i hi => hSp _ (h.kinS i hi) }
  · intro t v hv
    obtain ⟨u, hu, hd⟩ := h.tm t v hv
    exact ⟨u, hu, hd.agr hr (h.idT t v hv)⟩
  · intro id c hc
    rw [hlook] at hc
    by_cases e : nid = id
    · subst e; rw [if_pos rfl] at hc; simp only [Option.some.injEq] at hc; subst hc; exact hb
    · rw [if_neg e] at hc
      exact (h.hp id c hc).agr hr (h.idH id c hc).1 (h.idH id c hc).2
  · intro i j bi bj hi hj li lj hij
    rw [hlook] at hi hj
    by_cases e1 : nid = i <;> by_cases e2 : nid = j
    · rw [← e1, ← e2]
    · rw [if_neg e2] at hj
      subst e1
      rw [hrn, ← hr j (h.idH j bj hj).1] at hij
      exact ((hl (hln _ li)).1 j bj hj ((hlv j bj hj).2 lj) hij.symm).elim
    · rw [if_neg e1] at hi
      subst e2
      rw [hrn, ← hr i (h.idH i bi hi).1] at hij
      exact ((hl (hln _ lj)).1 i bi hi ((hlv i bi hi).2 li) hij).elim
    · rw [if_neg e1] at hi; rw [if_neg e2] at hj
      rw [← hr i (h.idH i bi hi).1, ← hr j (h.idH j bj hj).1] at hij
      exact h.inj i j bi bj hi hj ((hlv i bi hi).2 li) ((hlv j bj hj).2 lj) hij
  · intro id c hc lv o'
    rw [hlook] at hc
    by_cases e : nid = id
    · subst e
      rw [hrn]
      exact (hl (hln _ lv)).2.1 o'
    · rw [if_neg e] at hc
      rw [← hr id (h.idH id c hc).1]
      exact h.sep id c hc ((hlv id c hc).2 lv) o'
  · intro id c hc lv
    rw [hlook] at hc
    by_cases e : nid = id
    · subst e; rw [hrn]; exact (hl (hln _ lv)).2.2
    · rw [if_neg e] at hc
      rw [← hr id (h.idH id c hc).1]
      exact h.own id c hc ((hlv id c hc).2 lv)
  · intro i hi
    rw [← hr i (h.kinS i hi)]
    exact h.kin i hi
  · exact fun t v hv => TV.inS_mono hSp (h.idT t v hv)
  · intro id c hc
    rw [hlook] at hc
    by_cases e : nid = id
    · subst e
      rw [if_pos rfl] at hc
      simp only [Option.some.injEq] at hc
      subst hc
      exact ⟨.inr ⟨Nat.le_refl _, by omega⟩, Blk.inS_mono hSp hin⟩
    · rw [if_neg e] at hc
      exact ⟨hSp _ (h.idH id c hc).1, Blk.inS_mono hSp (h.idH id c hc).2⟩

/-- What is appended to. -/
theorem base_ev {el sz : Nat} {c : Cell} {p : Els} (hp : (baseM el sz c).Ev st.get p) :
    (c = .nilsl ∧ p = ⟨none, 0, fun _ _ => .nilif, []⟩) ∨ ∃ id m n f, c = .row sz id 0 m ∧ look st.hp id = some (.row el sz n f) ∧ p = ⟨some id, m, f, [m ≤ n]⟩ := by
  cases c with
  | nilsl => simp only [baseM, ev_ret] at hp; exact .inl ⟨rfl, hp.symm⟩
  | row s id off m =>
    simp only [baseM, ev_bind, ev_guard, ev_ret] at hp
    obtain ⟨_, hs, r, hr, _, hz, rfl⟩ := hp
    have h1 := (beq_eq _ _).1 (bAnd_eq hs).1
    have h2 := (beq_eq _ _).1 (bAnd_eq hs).2
    have h3 := (beq_eq _ _).1 (bAnd_eq hz).1
    have h4 := (beq_eq _ _).1 (bAnd_eq hz).2
    subst h1 h2
    refine .inr ⟨id, m, r.2.2.1, r.2.2.2, rfl, ?_, rfl⟩
    have := row_ev hr
    rw [h3, h4] at this
    exact this
  | _ => simp [baseM, ev_fail] at hp

theorem blkOf_sat {b : Blk} (hvc : ∀ p ∈ (blkOf E i b).2, p) : (∀ D ρ id w, BlkSat D ρ id w b → BlkSat D ρ id w (blkOf E i b).1) ∧ (∀ S, b.inS S → (blkOf E i b).1.inS S) := by
  unfold blkOf at hvc ⊢
  split
  · exact ⟨fun _ _ _ _ h => h, fun _ h => h⟩
  · rename_i b' hb
    rw [hb] at hvc
    have : BlkEqv b b' := hvc _ (by simp)
    exact this

theorem zeroCells_one {z : Array Value} (hz : ∀ v ∈ z.toList, one v) (n : Nat) : ∀ (k : Nat) (u : Value), (Builtin.zeroCells z n)[k]? = some u → one u := by
  intro k u hu
  simp only [Builtin.zeroCells, Array.getElem?_map, Option.map_eq_some_iff] at hu
  obtain ⟨j, hj, rfl⟩ := hu
  have hj' : j < n * z.size := by
    rw [Array.getElem?_range] at hj
    split at hj
    · simp only [Option.some.injEq] at hj; omega
    · cases hj
  have h0 : 0 < z.size := by
    rcases Nat.eq_zero_or_pos z.size with h | h
    · rw [h] at hj'; simp at hj'
    · exact h
  have hm : j % z.size < z.size := Nat.mod_lt _ h0
  rw [getElem!_pos z _ hm]
  exact hz _ (by simp)

end

theorem catF_get {D : Dat} {ρ : Rho} {sz n m : Nat} {f g : Nat → Nat → Cell} {us vs : Array Value} (h1 : EA D ρ sz n f us) (h2 : EA D ρ sz m g vs) {arr : Array Value}
    (ha : ∀ k, k < n * sz → arr[k]? = us[k]?) (hb : ∀ k, k < m * sz → arr[n * sz + k]? = vs[k]?) : ∀ i, i < n + m → ∀ j, j < sz → ∃ u, arr[i * sz + j]? = some u ∧ Den D ρ (catF n f g i j) u := by
  intro i hi j hj
  by_cases hn : i < n
  · obtain ⟨u, hu, hd⟩ := h1.2 i hn j hj
    exact ⟨u, by rw [ha _ (mul_lt hn hj)]; exact hu, by simp only [catF, hn, if_true]; exact hd⟩
  · obtain ⟨u, hu, hd⟩ := h2.2 (i - n) (by omega) j hj
    refine ⟨u, ?_, by simp only [catF, hn, if_false]; exact hd⟩
    rw [← hu, ← hb _ (mul_lt (by omega) hj)]
    congr 1
    have : i * sz = n * sz + (i - n) * sz := by rw [← Nat.add_mul]; congr 1; omega
    omega
theorem catF_inS {S : Nat → Prop} {sz n m : Nat} {f g : Nat → Nat → Cell} (h1 : ∀ i, i < n → ∀ j, j < sz → (f i j).inS S) (h2 : ∀ i, i < m → ∀ j, j < sz → (g i j).inS S) : ∀ i, i < n + m → ∀ j, j < sz → (catF n f g i j).inS S := by
  intro i hi j hj
  simp only [catF]
  split
  · exact h1 i (by assumption) j hj
  · exact h2 _ (by omega) j hj

section
variable {Γ : Ctx} {S W : Nat → Prop} {D : Dat} {ρ : Rho} {st : St} {a : Act} {w : World} {E : Env} {i d nid : Nat} {g : OG} {eff : Eff}
theorem Sat.goneO (h : Sat Γ S W D ρ st a w) (o : Option Nat) : Sat Γ S W D ρ (st.sets (goneW o [])) a w := by
  cases o with
  | none => exact h
  | some id => exact h.del id
theorem goneW_sets (o : Option Nat) (l : List (Key × KV)) : st.sets (goneW o l) = (st.sets (goneW o [])).sets l := by cases o <;> rfl

theorem append_ok (hP : E.P = Γ.P) (hG : E.G = Γ.G) (h : Sat Γ S W D ρ st a w) (hfr : Fresh S nid) (hd : d < Γ.N) (hnd : ¬ W d) {t t2 ty : TypeId} {x y : Operand}
    (hf : (appendM E i nid g d t t2 x y).Ev st.get eff) (hvc : ∀ p ∈ eff.vc, p) : g = none ∧ EffOk Γ S W st a w (some d) nid eff (Builtin.append_ #[t, t2] ty #[a.eval x, a.eval y]) := by
  simp only [appendM, ev_bind, ev_opt, ev_guard, ev_ret] at hf
  obtain ⟨_, hg1, v, hv, c, hc, v2, hv2, c2, hc2, el, hel, sz, hsz, bytes, hby, z, hz, _, hb, p, hp, q, hq, rfl⟩ := hf
  have hg0 : g = none := by cases g with
    | none => rfl
    | some gd => simp [pure1, ev_fail] at hg1
  refine ⟨hg0, ?_⟩
  have := cell_ev hc
  subst this
  have := cell_ev hc2
  subst this
  rw [hP] at hel hsz hz hby hb
  obtain ⟨hb1, hb⟩ := bAnd_eq hb
  obtain ⟨hb2, hb⟩ := bAnd_eq hb
  obtain ⟨hb3, hb4⟩ := bAnd_eq hb
  have hb1 : 0 < sz := Nat.le_of_ble_eq_true hb1
  have hb2 : 0 < bytes := Nat.le_of_ble_eq_true hb2
  have hb3 := (beq_eq _ _).1 hb3
  rw [len_eq] at hb3
  have hu : Γ.P.underlying t = some (.slice el) := by
    unfold tElem at hel
    split at hel
    · rename_i e hh; simp only [Option.some.injEq] at hel; subst hel; exact hh
    · cases hel
  obtain ⟨inf, hinf, rfl⟩ : ∃ inf, Γ.P.info? el = some inf ∧ inf.size = sz := by
    unfold tSize at hsz
    split at hsz
    · rename_i inf hh; simp only [Option.some.injEq] at hsz; exact ⟨inf, hh, hsz⟩
    · cases hsz
  have hby : inf.bytes = bytes := by unfold tBytes at hby; rw [hinf] at hby; simpa using hby
  subst hby
  obtain ⟨zv, hzr, hzd, hzi⟩ := zero_run hz D ρ w
  have hzv : inf.zero = some zv := by
    unfold tZero at hz
    rw [hinf] at hz
    simp only at hz
    cases hh : inf.zero with
    | none => rw [hh] at hz; cases hz
    | some z' => simp [zeroValue, typeInfo, hinf, hh] at hzr; rw [hzr]
  have zsz : zv.cells.size = inf.size := by rw [hzd.1, hb3]
  have zone : ∀ v ∈ zv.cells.toList, one v := by
    intro v hv
    obtain ⟨k, hk, e⟩ := List.getElem_of_mem hv
    have hk' : k < z.length := by rw [← hzd.1]; simpa using hk
    obtain ⟨u, hu, hdn⟩ := hzd.2 k _ (by simp [hk'] : z[k]? = some z[k])
    have : zv.cells[k]? = some v := by rw [← e]; simp
    rw [hu] at this
    simp only [Option.some.injEq] at this
    subst this
    exact hdn.one
  have hex : Exec none a := by intro gd e; cases e
  have hgo : GdOk W none a := by intro gd e; cases e
  have d1 := opd_den hG h hgo hex hv
  have d2 := opd_den hG h hgo hex hv2
  have i1 := opd_inS hG h hv
  have i2 := opd_inS hG h hv2
  simp only [appB] at hvc
  have vb : (p.n + q.n) * inf.bytes ≤ 140737488355328 := hvc _ (by simp)
  have vp : ∀ x ∈ p.vc, x := fun x hx => hvc x (by simp [hx])
  have vq : ∀ x ∈ q.vc, x := fun x hx => hvc x (by simp [hx])
  have vk : ∀ x ∈ (blkOf E i (.row el inf.size (p.n + q.n) (catF p.n p.f q.f))).2, x := fun x hx => hvc x (by simp [hx])
  obtain ⟨k1, k2⟩ := blkOf_sat vk
  obtain ⟨hl, ⟨news, hea, hfc⟩, hin2⟩ := src_run h hq vq d2 i2
  have h63 : p.n + q.n ≤ maxLen := by
    have : p.n + q.n ≤ (p.n + q.n) * inf.bytes := Nat.le_mul_of_pos_right _ hb2
    unfold maxLen; omega
  -- what the base is
  have hbase : (∃ ad : Option Addr, (ad = none ∨ ∃ b o, ad = some ⟨b, o, none⟩) ∧ a.eval x = .slice ad 0 0 ∧ p.n = 0) ∨ ∃ id m n f vs fz, p = ⟨some id, m, f, [m ≤ n]⟩ ∧ look st.hp id = some (.row el inf.size n f) ∧ m ≤ n ∧ a.eval x = .slice (some ⟨(ρ id).1, 0, none⟩) m (ρ id).2 ∧ (ρ id).2 ≠ 0 ∧
      w.heap[(ρ id).1]? = some (.cells vs el fz) ∧ vs.size = (ρ id).2 * inf.size ∧ clear fz vs.size ∧ n ≤ (ρ id).2 ∧ (ρ id).2 ≤ maxLen ∧ (∀ (j : Nat) (u : Value), vs[j]? = some u → one u) ∧
      ∀ i, i < n → ∀ j, j < inf.size → ∃ u, vs[i * inf.size + j]? = some u ∧ Den D ρ (f i j) u := by
    rcases base_ev hp with ⟨rfl, rfl⟩ | ⟨id, m, n, f, rfl, hrow, rfl⟩
    · simp only [DenV, Den] at d1; exact .inl ⟨none, .inl rfl, d1, rfl⟩
    · have hmn : m ≤ n := vp _ (by simp)
      simp only [DenV, Den] at d1
      rcases d1 with ⟨o, e1, e2, e3⟩ | ⟨e1, _, e3, ad, hsp, e4⟩
      · by_cases h0 : (ρ id).2 = 0
        · have : m = 0 := by omega
          subst this
          exact .inl ⟨some ⟨(ρ id).1, o, none⟩, .inr ⟨_, _, rfl⟩, by rw [e1, h0], rfl⟩
        · have : o = 0 := by rcases e3 with e3 | e3 <;> omega
          subst this
          rcases h.hp id _ hrow with hbk | ⟨vs, fz, q1, q2, q3, q4, q5, q6, q7, q8⟩
          · exact (h0 hbk.1).elim
          · exact .inr ⟨id, m, n, f, vs, fz, rfl, hrow, hmn, e1, h0, q1, q2, q3, q4, q5, q7, q8⟩
      · exact .inl ⟨ad, hsp, by rw [e4], e3⟩
  -- the base's elements lie in S
  have inp : ∀ i, i < p.n → ∀ j, j < inf.size → (p.f i j).inS S := by
    rcases base_ev hp with ⟨_, rfl⟩ | ⟨id, m, n, f, _, hrow, rfl⟩
    · intro i hi; simp at hi
    · have hmn : m ≤ n := vp _ (by simp)
      intro i hi j hj
      exact (h.idH id _ hrow).2 i (Nat.lt_of_lt_of_le hi hmn) j hj
  have inB : (Blk.row el inf.size (p.n + q.n) (catF p.n p.f q.f)).inS S := catF_inS inp hin2
  have hnS : ¬ S nid := hfr nid (Nat.le_refl _) (by omega)
  have hag : ∀ pr : Nat × Nat, ∀ i, S i → ρ i = rhoSet ρ nid pr i := by
    intro pr i hi; unfold rhoSet; rw [if_neg]; rintro rfl; exact hnS hi
  have hrn : ∀ pr : Nat × Nat, rhoSet ρ nid pr nid = pr := by intro pr; simp [rhoSet]
  -- the block, of cells that hold what is wanted
  have mkB : ∀ (pr : Nat × Nat) (w' : World) (arr : Array Value) (fz : Nat × Nat), w'.heap[pr.1]? = some (.cells arr el fz) → arr.size = pr.2 * inf.size → clear fz arr.size → p.n + q.n ≤ pr.2 → pr.2 ≤ maxLen → (∀ (j : Nat) (u : Value), arr[j]? = some u → one u) →
      (∀ i, i < p.n + q.n → ∀ j, j < inf.size → ∃ u, arr[i * inf.size + j]? = some u ∧ Den D ρ (catF p.n p.f q.f i j) u) → BlkSat D (rhoSet ρ nid pr) nid w' (blkOf E i (.row el inf.size (p.n + q.n) (catF p.n p.f q.f))).1 := by
    intro pr w' arr fz q1 q2 q3 q4 q5 q6 q7
    refine k1 _ _ _ _ (.inr ⟨arr, fz, by rw [hrn]; exact q1, by rw [hrn]; exact q2, q3, by rw [hrn]; exact q4, by rw [hrn]; exact q5, hb1, q6, fun i hi j hj => ?_⟩)
    obtain ⟨u, hu, hdn⟩ := q7 i hi j hj
    exact ⟨u, hu, Den.agr (Agr.of_inS (hag pr) (inB i hi j hj)) hdn⟩
  -- the world is turned in no block but a new one
  have hgrow : ∀ (b : Option Addr) (cap : Nat) (olds : Array Value), a.eval x = .slice b p.n cap → EA D ρ inf.size p.n p.f olds → (Builtin.firstCells inf.size p.n (.slice b p.n cap)).run Γ.P w.drew = .ok olds w.drew → cap < p.n + q.n →
      EffOk Γ S W st a w (some d) nid (appB E i el inf.size inf.bytes nid d p q) (Builtin.append_ #[t, t2] ty #[a.eval x, a.eval y]) := by
    intro b cap olds he ho hfo hg
    have hfc' := hfc w.drew rfl
    refine ⟨_, _, by rw [he]; exact app_grow hu hb4 hinf hzv hl hfc' hfo hg h63 vb, ?_⟩
    have hge := grownCap_ge w (p.n + q.n) cap el
    have hcm := grownCap_le_maxLen w (p.n + q.n) cap el h63
    have hBS := mkB (w.heap.size, grownCap w (p.n + q.n) cap el) { w.drew with heap := w.heap.push (.cells (olds ++ news ++ Builtin.zeroCells zv.cells (grownCap w (p.n + q.n) cap el - (p.n + q.n))) el) }
      (olds ++ news ++ Builtin.zeroCells zv.cells (grownCap w (p.n + q.n) cap el - (p.n + q.n))) (0, 0) (push_new _ _) (by
        simp only [Array.size_append, size_zeroCells, ho.1, hea.1, zsz, ← Nat.add_mul]
        congr 1; omega) (clear00 _) hge hcm (by
        intro j u hj
        rw [Array.getElem?_append, Array.getElem?_append] at hj
        split at hj
        · split at hj
          · exact ho.one u (by have := Array.mem_of_getElem? hj; simpa using this)
          · exact hea.one u (by have := Array.mem_of_getElem? hj; simpa using this)
        · exact zeroCells_one zone _ _ _ hj) (catF_get ho hea (fun k hk => by
          rw [Array.getElem?_append, if_pos (by simp [ho.1]; omega), Array.getElem?_append, if_pos (by rw [ho.1]; exact hk)]) (fun k hk => by
          rw [Array.getElem?_append, if_pos (by simp [ho.1, hea.1]; omega), Array.getElem?_append, if_neg (by rw [ho.1]; omega), ho.1]; congr 1; omega))
    have hs := ((h.goneO p.id).drewn.new hfr hBS (k2 S inB)).put (W' := fun t => W t ∨ some d = some t) hd hnd (fun t ht => .inl ht) (v := .v (.c (.row inf.size nid 0 (p.n + q.n))))
      (u := .slice (some ⟨w.heap.size, 0, none⟩) (p.n + q.n) (grownCap w (p.n + q.n) cap el)) (.inl ⟨0, by simp [rhoSet], by simp only [Nat.zero_add]; exact Nat.le_trans hge (Nat.le_of_eq (by rw [hrn])), .inl (by simp)⟩) (.inr ⟨Nat.le_refl _, by omega⟩)
    refine ⟨D, rhoSet ρ nid (w.heap.size, grownCap w (p.n + q.n) cap el), ?_⟩
    simp only [appB]
    rw [goneW_sets]
    exact hs
  rcases hbase with ⟨ad, hsp, he, hn0⟩ | ⟨id, m, n, f, vs, fz, rfl, hrow, hmn, he, hlive, q1, q2, q3, q4, q5, q6, q7⟩
  · have hold : ∀ w', (Builtin.firstCells inf.size p.n (.slice ad p.n 0)).run Γ.P w' = .ok #[] w' := by
      intro w'
      rw [hn0]
      cases ad <;> simp [Builtin.firstCells, loadCells, loadCellsFrom]
    have hoe : EA D ρ inf.size p.n p.f #[] := ⟨by simp [hn0], fun i hi => by omega⟩
    by_cases hq0 : q.n = 0
    · -- nothing to nothing
      have hnews : news = #[] := by
        have := hea.1
        rw [hq0, Nat.zero_mul] at this
        exact Array.eq_empty_of_size_eq_zero this
      have he0 : a.eval x = .slice ad p.n 0 := by rw [he, hn0]
      refine ⟨.slice ad 0 0, w, ?_, D, rhoSet ρ nid (0, 0), ?_⟩
      · rw [he0, app_room hu hb4 hinf hl (hfc w rfl) (by omega)]
        rw [hnews, hn0, hq0]
        cases ad <;> simp [roomS, storeCells]
      · have hBS : BlkSat D (rhoSet ρ nid (0, 0)) nid w (blkOf E i (.row el inf.size (p.n + q.n) (catF p.n p.f q.f))).1 := k1 _ _ _ _ (.inl ⟨by rw [hrn], by omega, hb1⟩)
        have hs := ((h.goneO p.id).alias hfr hBS (k2 S inB) (fun hh => (hh rfl).elim)).put (W' := fun t => W t ∨ some d = some t) hd hnd (fun t ht => .inl ht) (v := .v (.c (.row inf.size nid 0 (p.n + q.n))))
          (u := .slice ad 0 0) (.inr ⟨by rw [hrn], rfl, by omega, ad, hsp, rfl⟩) (.inr ⟨Nat.le_refl _, by omega⟩)
        simp only [appB]
        rw [goneW_sets]
        exact hs
    · exact hgrow ad 0 #[] (by rw [he, hn0]) hoe (hold _) (by omega)
  · by_cases hroom : m + q.n ≤ (ρ id).2
    · -- in place
      have hfit : m * inf.size + 0 + news.toList.length ≤ vs.size := by
        rw [q2]
        have : (m + q.n) * inf.size ≤ (ρ id).2 * inf.size := Nat.mul_le_mul_right _ hroom
        rw [Nat.add_mul] at this
        have := hea.1
        simp only [Array.length_toList]
        omega
      obtain ⟨w', arr', r1, r2, r3, r4⟩ := storeCells_run (P := Γ.P) (m * inf.size) news.toList 0 w vs q1 q3 hfit hea.one
      refine ⟨.slice (some ⟨(ρ id).1, 0, none⟩) (m + q.n) (ρ id).2, w', ?_, D, rhoSet ρ nid (ρ id), ?_⟩
      · rw [he, app_room hu hb4 hinf hl (hfc w rfl) hroom]
        simp only [roomS, Sem.run_bind, addr_add, Nat.zero_add, r1]
        rfl
      · have hone' : ∀ (j : Nat) (u : Value), arr'[j]? = some u → one u := by
          intro j u hj
          rw [r4] at hj
          split at hj
          · exact hea.one u (by have := List.mem_of_getElem? hj; simpa using this)
          · exact q6 j u hj
        have hcat : ∀ i, i < m + q.n → ∀ j, j < inf.size → ∃ u, arr'[i * inf.size + j]? = some u ∧ Den D ρ (catF m f q.f i j) u := by
          intro i hi j hj
          by_cases hi' : i < m
          · obtain ⟨u, hu, hdn⟩ := q7 i (by omega) j hj
            refine ⟨u, ?_, by simp only [catF, hi', if_true]; exact hdn⟩
            rw [r4, if_neg]
            · exact hu
            · have := mul_lt hi' hj; omega
          · obtain ⟨u, hu, hdn⟩ := hea.2 (i - m) (by omega) j hj
            refine ⟨u, ?_, by simp only [catF, hi', if_false]; exact hdn⟩
            have e1 : i * inf.size = m * inf.size + (i - m) * inf.size := by rw [← Nat.add_mul]; congr 1; omega
            have e2 := mul_lt (show i - m < q.n by omega) hj
            have e3 := hea.1
            rw [r4, if_pos (by simp only [Array.length_toList, Nat.add_zero]; omega), Nat.add_zero]
            have : i * inf.size + j - m * inf.size = (i - m) * inf.size + j := by omega
            rw [this]; simpa using hu
        have hlv : Live ρ id (.row el inf.size n f) := hlive
        have hup := h.upd (b' := .row el inf.size (m + q.n) (catF m f q.f)) hrow hlv r2 (.inr ⟨arr', fz, r2.at_, by rw [r3]; exact q2, by rw [r3]; exact q3, hroom, q5, hb1, hone', hcat⟩) inB
        have hbk : look (st.set (.bk id) (.bk (.row el inf.size (m + q.n) (catF m f q.f)))).hp id = some (.row el inf.size (m + q.n) (catF m f q.f)) := by
          have : ∀ i, look (st.set (.bk id) (.bk (.row el inf.size (m + q.n) (catF m f q.f)))).hp i = if id = i then some (.row el inf.size (m + q.n) (catF m f q.f)) else look st.hp i := fun i => look_put _ _ _ _
          rw [this, if_pos rfl]
        have hdel := hup.del id
        have hBS := mkB (ρ id) w' arr' fz r2.at_ (by rw [r3]; exact q2) (by rw [r3]; exact q3) hroom q5 hone' hcat
        have hal := hdel.alias (p := ρ id) hfr hBS (k2 S inB) (fun _ => ⟨fun j bj hj lj hij => by
          have e : ∀ i, look ((st.set (.bk id) (.bk (.row el inf.size (m + q.n) (catF m f q.f)))).set (.bk id) .gone).hp i = if id = i then none else look (st.set (.bk id) (.bk (.row el inf.size (m + q.n) (catF m f q.f)))).hp i := fun i => look_del _ _ _
          rw [e] at hj
          split at hj
          · cases hj
          · rename_i hne
            exact hne (hup.inj id j _ bj hbk hj hlive lj hij.symm), hup.sep id _ hbk hlive, hup.own id _ hbk hlive⟩)
        have hcg : Sat Γ (sPlus S nid) W D (rhoSet ρ nid (ρ id)) ((st.set (.bk id) .gone).set (.bk nid) (.bk (blkOf E i (.row el inf.size (m + q.n) (catF m f q.f))).1)) a w' := by
          refine Sat.congr (fun t => ?_) (fun k => ?_) hal
          · rfl
          · simp only [St.set, look_put, look_del]
            split
            · rfl
            · split <;> rfl
        have hs := hcg.put (W' := fun t => W t ∨ some d = some t) hd hnd (fun t ht => .inl ht) (v := .v (.c (.row inf.size nid 0 (m + q.n))))
          (u := .slice (some ⟨(ρ id).1, 0, none⟩) (m + q.n) (ρ id).2) (.inl ⟨0, by simp [rhoSet], by simp only [Nat.zero_add]; exact Nat.le_trans hroom (Nat.le_of_eq (by rw [hrn])), .inl (by simp)⟩) (.inr ⟨Nat.le_refl _, by omega⟩)
        simp only [appB]
        exact hs
    · obtain ⟨us, h4, _, h5⟩ := cells_run (P := Γ.P) (D := D) (ρ := ρ) (w := w) (sz := inf.size) (n := m) (b := (ρ id).1) (o := 0) (f := f) (fun i hi j hj => by
        obtain ⟨u, hu, hdn⟩ := q7 i (by omega) j hj
        refine ⟨u, ?_, hdn⟩
        simp only [World.cell?, q1, Option.isSome_none, Bool.false_eq_true, if_false, Nat.zero_add]
        exact hu)
      exact hgrow (some ⟨(ρ id).1, 0, none⟩) (ρ id).2 us he h4 (by simp only [Builtin.firstCells]; exact h5 w.drew rfl) (by simp only; omega)
end
end Go.Sv
