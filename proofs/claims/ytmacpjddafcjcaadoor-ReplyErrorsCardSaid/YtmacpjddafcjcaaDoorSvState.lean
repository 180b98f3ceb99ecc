/-
  Own layer 'SV' (2): symbolic states, and what it means that a frame and a world are as a symbolic state says.
-/
import Derived.Test.YtmacpjddafcjcaaDoorSvBase
set_option linter.all false
namespace Go.Sv

/-! lists as tables -/
def look {α : Type} : List (Nat × α) → Nat → Option α
  | [], _ => none
  | (k, v) :: r, n => match Nat.beq k n with
    | true => some v
    | false => look r n
def put {α : Type} : List (Nat × α) → Nat → α → List (Nat × α)
  | [], n, v => [(n, v)]
  | (k, w) :: r, n, v => match Nat.beq k n with
    | true => (k, v) :: r
    | false => (k, w) :: put r n v
def del {α : Type} : List (Nat × α) → Nat → List (Nat × α)
  | [], _ => []
  | (k, w) :: r, n => match Nat.beq k n with
    | true => del r n
    | false => (k, w) :: del r n
def nth {α : Type} : List α → Nat → Option α
  | [], _ => none
  | x :: _, 0 => some x
  | _ :: r, n + 1 => nth r n
def setNth {α : Type} : List α → Nat → α → List α
  | [], _, _ => []
  | _ :: r, 0, v => v :: r
  | x :: r, n + 1, v => x :: setNth r n v
def len {α : Type} : List α → Nat
  | [] => 0
  | _ :: r => len r + 1

theorem nth_eq {α : Type} (l : List α) (n : Nat) : nth l n = l[n]? := by
  induction l generalizing n with
  | nil => simp [nth]
  | cons x r ih => cases n with
    | zero => simp [nth]
    | succ n => simp [nth, ih]
theorem len_eq {α : Type} (l : List α) : len l = l.length := by
  induction l with
  | nil => rfl
  | cons x r ih => simp [len, ih]
theorem setNth_eq {α : Type} (l : List α) (n : Nat) (v : α) : setNth l n v = l.set n v := by
  induction l generalizing n with
  | nil => simp [setNth]
  | cons x r ih => cases n with
    | zero => simp [setNth]
    | succ n => simp [setNth, ih]

theorem beq_eq (a b : Nat) : (Nat.beq a b = true) ↔ a = b := ⟨Nat.eq_of_beq_eq_true, fun h => h ▸ Nat.beq_refl a⟩
theorem beq_ne (a b : Nat) : (Nat.beq a b = false) ↔ a ≠ b := by
  cases h : Nat.beq a b
  · simp; intro e; rw [(beq_eq a b).2 e] at h; cases h
  · simp; exact (beq_eq a b).1 h

theorem look_put {α : Type} (l : List (Nat × α)) (n m : Nat) (v : α) : look (put l n v) m = if n = m then some v else look l m := by
  induction l with
  | nil =>
    simp only [put, look]
    cases h : Nat.beq n m
    · simp [(beq_ne _ _).1 h]
    · simp [(beq_eq _ _).1 h]
  | cons p r ih =>
    obtain ⟨k, w⟩ := p
    simp only [put]
    cases hk : Nat.beq k n
    · simp only [look]
      cases hm : Nat.beq k m
      · simp only [ih]
      · have := (beq_eq _ _).1 hm; subst this
        have hne := (beq_ne _ _).1 hk
        simp [Ne.symm hne]
    · have := (beq_eq _ _).1 hk; subst this
      simp only [look]
      cases hm : Nat.beq k m
      · simp [(beq_ne _ _).1 hm]
      · simp [(beq_eq _ _).1 hm]
theorem look_del {α : Type} (l : List (Nat × α)) (n m : Nat) : look (del l n) m = if n = m then none else look l m := by
  induction l with
  | nil => simp [del, look]
  | cons p r ih =>
    obtain ⟨k, w⟩ := p
    simp only [del]
    cases hk : Nat.beq k n
    · simp only [look]
      cases hm : Nat.beq k m
      · simp only [ih]
      · have := (beq_eq _ _).1 hm; subst this
        have hne := (beq_ne _ _).1 hk
        simp [Ne.symm hne]
    · have := (beq_eq _ _).1 hk; subst this
      simp only [ih, look]
      cases hm : Nat.beq k m
      · simp [(beq_ne _ _).1 hm]
      · simp [(beq_eq _ _).1 hm]
theorem look_map {α β : Type} (f : α → β) (l : List (Nat × α)) (n : Nat) : look (l.map fun p => (p.1, f p.2)) n = (look l n).map f := by
  induction l with
  | nil => rfl
  | cons p r ih =>
    obtain ⟨k, w⟩ := p
    simp only [List.map_cons, look]
    cases Nat.beq k n
    · simp only [ih]
    · rfl

structure St where
  tm : List (Nat × TV)
  hp : List (Nat × Blk)
  nx : Nat

inductive Key
  | tm (t : Nat)
  | cl (id off : Nat)
  | bk (id : Nat)
inductive KV
  | tv (v : TV)
  | cl (x : Cell)
  | bk (b : Blk)
  | gone

def St.get (st : St) : Key → Option KV
  | .tm t => match look st.tm t with
    | some v => some (.tv v)
    | none => none
  | .cl id off => match look st.hp id with
    | some (.box _ cs) => match nth cs off with
      | some x => some (.cl x)
      | none => none
    | _ => none
  | .bk id => match look st.hp id with
    | some b => some (.bk b)
    | none => none

def St.set (st : St) : Key → KV → St
  | .tm t, .tv v => { st with tm := put st.tm t v }
  | .tm t, .gone => { st with tm := del st.tm t }
  | .cl id off, .cl x => match look st.hp id with
    | some (.box e cs) => { st with hp := put st.hp id (.box e (setNth cs off x)) }
    | _ => st
  | .bk id, .bk b => { st with hp := put st.hp id b }
  | .bk id, .gone => { st with hp := del st.hp id }
  | _, _ => st
def St.sets (st : St) : List (Key × KV) → St
  | [] => st
  | (k, v) :: r => (st.set k v).sets r

/-! what values denote -/
def DenV (D : Dat) (ρ : Rho) : V1 → Value → Prop
  | .c x, v => Den D ρ x v
  | .agg l, v => ∃ us : Array Value, v = .agg us ∧ us.size = l.length ∧ ∀ (j : Nat) (x : Cell), l[j]? = some x → ∃ u, us[j]? = some u ∧ Den D ρ x u
def V1.inS (S : Nat → Prop) : V1 → Prop
  | .c x => x.inS S
  | .agg l => ∀ (j : Nat) (x : Cell), l[j]? = some x → x.inS S
def V1.cells : V1 → List Cell
  | .c x => [x]
  | .agg l => l
def V1.ren (σ : Nat → Nat) : V1 → V1
  | .c x => .c (x.ren σ)
  | .agg l => .agg (l.map (Cell.ren σ))

def DenL (D : Dat) (ρ : Rho) (l : List V1) (vs : Array Value) : Prop := vs.size = l.length ∧ ∀ (j : Nat) (x : V1), l[j]? = some x → ∃ u, vs[j]? = some u ∧ DenV D ρ x u
def DenT (D : Dat) (ρ : Rho) (W : Nat → Prop) (tmps : Array Value) : TV → Value → Prop
  | .v x, u => DenV D ρ x u
  | .tup l, u => ∃ vs : Array Value, u = .tuple vs ∧ DenL D ρ l vs
  | .cnd t w x, u => W t ∧ (tmps[t]? = some (.bool w) → DenV D ρ x u) ∧ (tmps[t]? ≠ some (.bool w) → u = undef)
  | .junk, _ => True
def TV.inS (S : Nat → Prop) : TV → Prop
  | .v x => x.inS S
  | .tup l => ∀ (j : Nat) (x : V1), l[j]? = some x → x.inS S
  | .cnd _ _ x => x.inS S
  | .junk => True

def clear (fz : Nat × Nat) (n : Nat) : Prop := ∀ o, o < n → ¬ (fz.1 ≤ o ∧ o < fz.2)

/-- A value that leads to none of the state's blocks. -/
def FlatV (D : Dat) (v : V1) (u : Value) : Prop := (∀ ρ, DenV D ρ v u) ∧ ∀ S, v.inS S
def ObDen (D : Dat) : Ob → Obj → Prop
  | .ms m, o => ∃ es : Array MapEntry, o = .map es es.size ∧ es.size = m.length ∧ ∀ (j : Nat) (k : List UInt8) (v : V1), m[j]? = some (k, v) → ∃ e, es[j]? = some e ∧ e.key = .string ⟨k.toArray⟩ ∧ FlatV D v e.val ∧ e.born = j
  | .it s pos, o => o = .stringIter ⟨s.toArray⟩ pos

def BlkSat (D : Dat) (ρ : Rho) (id : Nat) (w : World) : Blk → Prop
  | .box e cs => (ρ id).2 ≠ 0 ∧ ∃ (vs : Array Value) (fz : Nat × Nat), w.heap[(ρ id).1]? = some (.cells vs e fz) ∧ vs.size = cs.length ∧ clear fz vs.size ∧
      ∀ (j : Nat) (x : Cell), cs[j]? = some x → ∃ u, vs[j]? = some u ∧ Den D ρ x u
  | .row e sz n f => ((ρ id).2 = 0 ∧ n = 0 ∧ 0 < sz) ∨ ∃ (vs : Array Value) (fz : Nat × Nat), w.heap[(ρ id).1]? = some (.cells vs e fz) ∧ vs.size = (ρ id).2 * sz ∧ clear fz vs.size ∧ n ≤ (ρ id).2 ∧ (ρ id).2 ≤ maxLen ∧ 0 < sz ∧
      (∀ (j : Nat) (u : Value), vs[j]? = some u → one u) ∧ ∀ i, i < n → ∀ j, j < sz → ∃ u, vs[i * sz + j]? = some u ∧ Den D ρ (f i j) u
  | .ob o => (ρ id).2 ≠ 0 ∧ ∃ x, w.heap[(ρ id).1]? = some x ∧ ObDen D o x
def Blk.inS (S : Nat → Prop) : Blk → Prop
  | .box _ cs => ∀ (j : Nat) (x : Cell), cs[j]? = some x → x.inS S
  | .row _ sz n f => ∀ i, i < n → ∀ j, j < sz → (f i j).inS S
  | .ob _ => True
def Blk.ren (σ : Nat → Nat) : Blk → Blk
  | .box e cs => .box e (cs.map (Cell.ren σ))
  | .row e sz n f => .row e sz n (fun i j => (f i j).ren σ)
  | .ob o => .ob o

/-- A block of which something is owned: a box; a row with room. -/
def Live (ρ : Rho) (id : Nat) (_ : Blk) : Prop := (ρ id).2 ≠ 0

def Agree (D : Dat) (w : World) : Prop := ∀ b o v, D b o = some v → w.cell? ⟨b, o, none⟩ = some v
def GlobOk (G : Nat → Option (List Cell)) (D : Dat) : Prop := ∀ g cs, G g = some cs → ∀ (j : Nat) (x : Cell), cs[j]? = some x → ∃ u, D g j = some u ∧ Den D rho0 x u

/-- Where a call began: the program, its published tables, the data, the blocks that were handed over (ids 0 .. kin - 1), the world, the slots. -/
structure Ctx where
  P : Program
  G : Nat → Option (List Cell)
  D0 : Dat
  ρ0 : Rho
  kin : Nat
  w0 : World
  N : Nat

/-- The listed tables: so many cells each, and no more. -/
def GlobW (G : Nat → Option (List Cell)) (w : World) : Prop := ∀ g cs, G g = some cs → cs ≠ [] → ∃ arr e fz, w.heap[g]? = some (.cells arr e fz) ∧ arr.size = cs.length
def GlobK (Γ : Ctx) : Prop := GlobW Γ.G Γ.w0 ∧ ∀ g cs, Γ.G g = some cs → cs ≠ [] → ∀ i, i < Γ.kin → (Γ.ρ0 i).2 ≠ 0 → (Γ.ρ0 i).1 ≠ g

structure Sat (Γ : Ctx) (S W : Nat → Prop) (D : Dat) (ρ : Rho) (st : St) (a : Act) (w : World) : Prop where
  defers : a.defers = []
  size : a.tmps.size = Γ.N
  tm : ∀ t v, look st.tm t = some v → ∃ u, a.tmps[t]? = some u ∧ DenT D ρ W a.tmps v u
  hp : ∀ id b, look st.hp id = some b → BlkSat D ρ id w b
  inj : ∀ i j bi bj, look st.hp i = some bi → look st.hp j = some bj → Live ρ i bi → Live ρ j bj → (ρ i).1 = (ρ j).1 → i = j
  agree : Agree D w
  sep : ∀ id b, look st.hp id = some b → Live ρ id b → ∀ o, D (ρ id).1 o = none
  le : DatLe Γ.D0 D
  glob : GlobOk Γ.G D
  gl : GlobK Γ
  own : ∀ id b, look st.hp id = some b → Live ρ id b → Γ.w0.heap.size ≤ (ρ id).1 ∨ ∃ i, i < Γ.kin ∧ (Γ.ρ0 i).2 ≠ 0 ∧ (Γ.ρ0 i).1 = (ρ id).1
  kin : ∀ i, i < Γ.kin → ρ i = Γ.ρ0 i
  newD : ∀ b o v, D b o = some v → Γ.D0 b o = some v ∨ Γ.w0.heap.size ≤ b ∨ ∃ i, i < Γ.kin ∧ (Γ.ρ0 i).2 ≠ 0 ∧ (Γ.ρ0 i).1 = b
  frame : ∀ b, b < Γ.w0.heap.size → (∀ i, i < Γ.kin → (Γ.ρ0 i).2 ≠ 0 → (Γ.ρ0 i).1 ≠ b) → w.heap[b]? = Γ.w0.heap[b]?
  os : w.os = Γ.w0.os
  tape : w.tape = Γ.w0.tape
  output : w.output = Γ.w0.output
  grow : Γ.w0.heap.size ≤ w.heap.size
  idT : ∀ t v, look st.tm t = some v → v.inS S
  idH : ∀ id b, look st.hp id = some b → S id ∧ b.inS S
  kinS : ∀ i, i < Γ.kin → S i

def SatE (Γ : Ctx) (S W : Nat → Prop) (st : St) (a : Act) (w : World) : Prop := ∃ D ρ, Sat Γ S W D ρ st a w

theorem Sat.globW {Γ : Ctx} {S W : Nat → Prop} {D : Dat} {ρ : Rho} {st : St} {a : Act} {w : World} (h : Sat Γ S W D ρ st a w) : GlobW Γ.G w := by
  intro g cs hg hne
  obtain ⟨arr, e, fz, h1, h2⟩ := h.gl.1 g cs hg hne
  refine ⟨arr, e, fz, ?_, h2⟩
  rw [h.frame g ?_ (h.gl.2 g cs hg hne)]
  · exact h1
  · rcases Nat.lt_or_ge g Γ.w0.heap.size with hh | hh
    · exact hh
    · simp [Array.getElem?_eq_none hh] at h1

/-! stability -/
theorem DenV.mono {D D' : Dat} (h : DatLe D D') {ρ : Rho} {x : V1} {v : Value} (hd : DenV D ρ x v) : DenV D' ρ x v := by
  cases x with
  | c x => exact Den.mono h x ρ v hd
  | agg l => obtain ⟨us, e, hs, hx⟩ := hd; exact ⟨us, e, hs, fun j x hj => let ⟨u, hu, hd⟩ := hx j x hj; ⟨u, hu, Den.mono h _ _ _ hd⟩⟩
theorem DenV.agr {D : Dat} {ρ ρ' : Rho} {S : Nat → Prop} (h : ∀ i, S i → ρ i = ρ' i) {x : V1} {v : Value} (hs : x.inS S) (hd : DenV D ρ x v) : DenV D ρ' x v := by
  cases x with
  | c x => exact Den.agr (Agr.of_inS h hs) hd
  | agg l => obtain ⟨us, e, hz, hx⟩ := hd; exact ⟨us, e, hz, fun j x hj => let ⟨u, hu, hd⟩ := hx j x hj; ⟨u, hu, Den.agr (Agr.of_inS h (hs j x hj)) hd⟩⟩
theorem DenV.ren {D : Dat} {σ : Nat → Nat} {ρ : Rho} {x : V1} {v : Value} : DenV D ρ (x.ren σ) v ↔ DenV D (fun i => ρ (σ i)) x v := by
  cases x with
  | c x => exact Den.ren
  | agg l =>
    simp only [V1.ren, DenV, List.length_map, List.getElem?_map, Option.map_eq_some_iff]
    constructor
    · rintro ⟨us, e, hs, h⟩
      exact ⟨us, e, hs, fun j x hj => let ⟨u, hu, hd⟩ := h j _ ⟨x, hj, rfl⟩; ⟨u, hu, Den.ren.1 hd⟩⟩
    · rintro ⟨us, e, hs, h⟩
      refine ⟨us, e, hs, ?_⟩
      rintro j x ⟨y, hy, rfl⟩
      obtain ⟨u, hu, hd⟩ := h j y hy
      exact ⟨u, hu, Den.ren.2 hd⟩
theorem V1.inS_mono {S T : Nat → Prop} (h : ∀ i, S i → T i) {x : V1} (hx : x.inS S) : x.inS T := by
  cases x with
  | c x => exact Cell.inS_mono h hx
  | agg l => exact fun j x hj => Cell.inS_mono h (hx j x hj)
theorem V1.inS_ren {S : Nat → Prop} {σ : Nat → Nat} {x : V1} : (x.ren σ).inS S ↔ x.inS (fun i => S (σ i)) := by
  cases x with
  | c x => exact Cell.inS_ren
  | agg l =>
    simp only [V1.ren, V1.inS, List.getElem?_map, Option.map_eq_some_iff]
    constructor
    · exact fun h j x hj => Cell.inS_ren.1 (h j _ ⟨x, hj, rfl⟩)
    · rintro h j x ⟨y, hy, rfl⟩; exact Cell.inS_ren.2 (h j y hy)
theorem DenL.mono {D D' : Dat} (h : DatLe D D') {ρ : Rho} {l : List V1} {vs : Array Value} (hd : DenL D ρ l vs) : DenL D' ρ l vs :=
  ⟨hd.1, fun j x hj => let ⟨u, hu, hx⟩ := hd.2 j x hj; ⟨u, hu, hx.mono h⟩⟩
theorem DenL.agr {D : Dat} {ρ ρ' : Rho} {S : Nat → Prop} (h : ∀ i, S i → ρ i = ρ' i) {l : List V1} {vs : Array Value} (hs : ∀ (j : Nat) (x : V1), l[j]? = some x → x.inS S) (hd : DenL D ρ l vs) : DenL D ρ' l vs :=
  ⟨hd.1, fun j x hj => let ⟨u, hu, hx⟩ := hd.2 j x hj; ⟨u, hu, hx.agr h (hs j x hj)⟩⟩
theorem DenT.mono {D D' : Dat} (h : DatLe D D') {ρ : Rho} {W : Nat → Prop} {tm : Array Value} {x : TV} {v : Value} (hd : DenT D ρ W tm x v) : DenT D' ρ W tm x v := by
  cases x with
  | v x => exact DenV.mono h hd
  | tup l => obtain ⟨vs, e, hl⟩ := hd; exact ⟨vs, e, hl.mono h⟩
  | cnd t w x => exact ⟨hd.1, fun ht => (hd.2.1 ht).mono h, hd.2.2⟩
  | junk => trivial
theorem DenT.agr {D : Dat} {ρ ρ' : Rho} {S : Nat → Prop} (h : ∀ i, S i → ρ i = ρ' i) {W : Nat → Prop} {tm : Array Value} {x : TV} {v : Value} (hs : x.inS S) (hd : DenT D ρ W tm x v) : DenT D ρ' W tm x v := by
  cases x with
  | v x => exact DenV.agr h hs hd
  | tup l => obtain ⟨vs, e, hl⟩ := hd; exact ⟨vs, e, hl.agr h hs⟩
  | cnd t w x => exact ⟨hd.1, fun ht => (hd.2.1 ht).agr h hs, hd.2.2⟩
  | junk => trivial
theorem TV.inS_mono {S T : Nat → Prop} (h : ∀ i, S i → T i) {x : TV} (hx : x.inS S) : x.inS T := by
  cases x with
  | v x => exact V1.inS_mono h hx
  | tup l => exact fun j x hj => V1.inS_mono h (hx j x hj)
  | cnd t w x => exact V1.inS_mono h hx
  | junk => trivial
theorem Blk.inS_mono {S T : Nat → Prop} (h : ∀ i, S i → T i) {b : Blk} (hx : b.inS S) : b.inS T := by
  cases b with
  | box e cs => exact fun j x hj => Cell.inS_mono h (hx j x hj)
  | row e sz n f => exact fun i hi j hj => Cell.inS_mono h (hx i hi j hj)
  | ob o => trivial

theorem ObDen.mono {D D' : Dat} (h : DatLe D D') {o : Ob} {x : Obj} (hd : ObDen D o x) : ObDen D' o x := by
  cases o with
  | ms m => obtain ⟨es, e, hs, hx⟩ := hd; exact ⟨es, e, hs, fun j k v hj => let ⟨y, h1, h2, h3, h4⟩ := hx j k v hj; ⟨y, h1, h2, ⟨fun ρ => (h3.1 ρ).mono h, h3.2⟩, h4⟩⟩
  | it s p => exact hd
theorem BlkSat.mono {D D' : Dat} (h : DatLe D D') {ρ : Rho} {id : Nat} {w : World} {b : Blk} (hb : BlkSat D ρ id w b) : BlkSat D' ρ id w b := by
  cases b with
  | box e cs =>
    obtain ⟨h0, vs, fz, h1, h2, h3, h4⟩ := hb
    exact ⟨h0, vs, fz, h1, h2, h3, fun j x hj => let ⟨u, hu, hd⟩ := h4 j x hj; ⟨u, hu, Den.mono h _ _ _ hd⟩⟩
  | row e sz n f =>
    rcases hb with hb | ⟨vs, fz, h1, h2, h3, h4, h5, h6, h7, h8⟩
    · exact .inl hb
    · exact .inr ⟨vs, fz, h1, h2, h3, h4, h5, h6, h7, fun i hi j hj => let ⟨u, hu, hd⟩ := h8 i hi j hj; ⟨u, hu, Den.mono h _ _ _ hd⟩⟩
  | ob o => obtain ⟨h0, x, h1, h2⟩ := hb; exact ⟨h0, x, h1, h2.mono h⟩
theorem BlkSat.agr {D : Dat} {ρ ρ' : Rho} {S : Nat → Prop} (h : ∀ i, S i → ρ i = ρ' i) {id : Nat} (hi : S id) {w : World} {b : Blk} (hs : b.inS S) (hb : BlkSat D ρ id w b) : BlkSat D ρ' id w b := by
  cases b with
  | box e cs =>
    obtain ⟨h0, vs, fz, h1, h2, h3, h4⟩ := hb
    exact ⟨by rw [← h id hi]; exact h0, vs, fz, by rw [← h id hi]; exact h1, h2, h3, fun j x hj => let ⟨u, hu, hd⟩ := h4 j x hj; ⟨u, hu, Den.agr (Agr.of_inS h (hs j x hj)) hd⟩⟩
  | row e sz n f =>
    rcases hb with hb | ⟨vs, fz, h1, h2, h3, h4, h5, h6, h7, h8⟩
    · exact .inl (by rw [← h id hi]; exact hb)
    refine .inr ⟨vs, fz, by rw [← h id hi]; exact h1, by rw [← h id hi]; exact h2, h3, by rw [← h id hi]; exact h4, by rw [← h id hi]; exact h5, h6, h7, fun i hi' j hj => let ⟨u, hu, hd⟩ := h8 i hi' j hj; ⟨u, hu, Den.agr (Agr.of_inS h (hs i hi' j hj)) hd⟩⟩
  | ob o => obtain ⟨h0, x, h1, h2⟩ := hb; exact ⟨by rw [← h id hi]; exact h0, x, by rw [← h id hi]; exact h1, h2⟩
theorem BlkSat.world {D : Dat} {ρ : Rho} {id : Nat} {w w' : World} (h : w'.heap[(ρ id).1]? = w.heap[(ρ id).1]?) {b : Blk} (hb : BlkSat D ρ id w b) : BlkSat D ρ id w' b := by
  cases b with
  | box e cs => obtain ⟨h0, vs, fz, h1, h2⟩ := hb; exact ⟨h0, vs, fz, h.trans h1, h2⟩
  | row e sz n f =>
    rcases hb with hb | ⟨vs, fz, h1, h2⟩
    · exact .inl hb
    · exact .inr ⟨vs, fz, h.trans h1, h2⟩
  | ob o => obtain ⟨h0, x, h1, h2⟩ := hb; exact ⟨h0, x, h.trans h1, h2⟩
theorem BlkSat.ren {D : Dat} {σ : Nat → Nat} {ρ : Rho} {id : Nat} {w : World} {b : Blk} : BlkSat D ρ (σ id) w (b.ren σ) ↔ BlkSat D (fun i => ρ (σ i)) id w b := by
  cases b with
  | box e cs =>
    simp only [Blk.ren, BlkSat, List.length_map, List.getElem?_map, Option.map_eq_some_iff]
    constructor
    · rintro ⟨h0, vs, fz, h1, h2, h3, h4⟩
      exact ⟨h0, vs, fz, h1, h2, h3, fun j x hj => let ⟨u, hu, hd⟩ := h4 j _ ⟨x, hj, rfl⟩; ⟨u, hu, Den.ren.1 hd⟩⟩
    · rintro ⟨h0, vs, fz, h1, h2, h3, h4⟩
      refine ⟨h0, vs, fz, h1, h2, h3, ?_⟩
      rintro j x ⟨y, hy, rfl⟩
      obtain ⟨u, hu, hd⟩ := h4 j y hy
      exact ⟨u, hu, Den.ren.2 hd⟩
  | row e sz n f =>
    simp only [Blk.ren, BlkSat]
    constructor
    · rintro (hb | ⟨vs, fz, h1, h2, h3, h4, h5, h6, h7, h8⟩)
      · exact .inl hb
      · exact .inr ⟨vs, fz, h1, h2, h3, h4, h5, h6, h7, fun i hi j hj => let ⟨u, hu, hd⟩ := h8 i hi j hj; ⟨u, hu, Den.ren.1 hd⟩⟩
    · rintro (hb | ⟨vs, fz, h1, h2, h3, h4, h5, h6, h7, h8⟩)
      · exact .inl hb
      · exact .inr ⟨vs, fz, h1, h2, h3, h4, h5, h6, h7, fun i hi j hj => let ⟨u, hu, hd⟩ := h8 i hi j hj; ⟨u, hu, Den.ren.2 hd⟩⟩
  | ob o => exact Iff.rfl
theorem Live.ren {σ : Nat → Nat} {ρ : Rho} {id : Nat} {b : Blk} : Live ρ (σ id) (b.ren σ) ↔ Live (fun i => ρ (σ i)) id b := Iff.rfl
theorem Live.agr {S : Nat → Prop} {ρ ρ' : Rho} (h : ∀ i, S i → ρ i = ρ' i) {id : Nat} (hi : S id) {b : Blk} : Live ρ id b ↔ Live ρ' id b := by
  simp only [Live]; rw [h id hi]
theorem Blk.inS_ren {S : Nat → Prop} {σ : Nat → Nat} {b : Blk} : (b.ren σ).inS S ↔ b.inS (fun i => S (σ i)) := by
  cases b with
  | box e cs =>
    simp only [Blk.ren, Blk.inS, List.getElem?_map, Option.map_eq_some_iff]
    constructor
    · exact fun h j x hj => Cell.inS_ren.1 (h j _ ⟨x, hj, rfl⟩)
    · rintro h j x ⟨y, hy, rfl⟩; exact Cell.inS_ren.2 (h j y hy)
  | row e sz n f => exact ⟨fun h i hi j hj => Cell.inS_ren.1 (h i hi j hj), fun h i hi j hj => Cell.inS_ren.2 (h i hi j hj)⟩
  | ob o => exact Iff.rfl

end Go.Sv
