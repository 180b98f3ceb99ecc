/-
  Own layer 'SV' (1): symbolic values, published data as trees, symbolic states, what it means that a frame and a world are as a symbolic state says.
-/
import Derived.Calls
import Derived.Tactics
import Derived.Laws.NewBlocks
import Derived.Laws.AppendOwn
import Derived.Below
set_option linter.all false
namespace Go.Sv

inductive Cell
  | int (k : IntKind) (n : Int)
  | bool (b : Bool)
  | str (s : List UInt8)
  | sl (sz n : Nat) (f : Nat → Nat → Cell)
  | nilsl
  | ptr (id off : Nat)
  | nilptr
  | dp (m : Nat) (g : Nat → Cell)
  | row (sz id off len : Nat)
  | rp (sz id e o : Nat)
  | map (id : Nat)
  | nilmap
  | clo (f : FuncId) (k : Nat) (sh : Nat → Option Nat) (c : Nat → Nat → Cell)
  | nilfn
  | ifc (t : TypeId) (sh : Option Nat) (c : Nat → Cell)
  | nilif

inductive V1
  | c (x : Cell)
  | agg (l : List Cell)

inductive TV
  | v (x : V1)
  | tup (l : List V1)
  | cnd (t : Nat) (w : Bool) (x : V1)
  | junk

/-- Other objects: a map whose keys are strings; a string that is ranged over. -/
inductive Ob
  | ms (m : List (List UInt8 × V1))
  | it (s : List UInt8) (pos : Nat)

inductive Blk
  | box (e : TypeId) (cs : List Cell)
  | row (e : TypeId) (sz n : Nat) (f : Nat → Nat → Cell)
  | ob (o : Ob)

abbrev Dat := Nat → Nat → Option Value
abbrev Rho := Nat → Nat × Nat
def rho0 : Rho := fun _ => (0, 0)

def Den (D : Dat) : Rho → Cell → Value → Prop
  | _, .int k n, v => v = .int k n
  | _, .bool b, v => v = .bool b
  | _, .str s, v => v = .string ⟨s.toArray⟩
  | _, .sl sz n f, v => ∃ a cap, v = .slice a n cap ∧ n ≤ cap ∧ cap ≤ maxLen ∧
      ((a = none ∧ cap = 0) ∨ ∃ b o, a = some ⟨b, o, none⟩ ∧ ∀ i, i < n → ∀ j, j < sz → ∃ u, D b (o + i * sz + j) = some u ∧ Den D rho0 (f i j) u)
  | _, .nilsl, v => v = .slice none 0 0
  | ρ, .ptr id off, v => v = .pointer (some ⟨(ρ id).1, off, none⟩)
  | _, .nilptr, v => v = .pointer none
  | _, .dp m g, v => ∃ b o, v = .pointer (some ⟨b, o, none⟩) ∧ ∀ j, j < m → ∃ u, D b (o + j) = some u ∧ Den D rho0 (g j) u
  | ρ, .row sz id off len, v => (∃ o, v = .slice (some ⟨(ρ id).1, o, none⟩) len ((ρ id).2 - off) ∧ off + len ≤ (ρ id).2 ∧ (o = off * sz ∨ off = (ρ id).2)) ∨
      ((ρ id).2 = 0 ∧ off = 0 ∧ len = 0 ∧ ∃ ad : Option Addr, (ad = none ∨ ∃ b o, ad = some ⟨b, o, none⟩) ∧ v = .slice ad 0 0)
  | ρ, .rp sz id e o, v => v = .pointer (some ⟨(ρ id).1, e * sz + o, none⟩)
  | ρ, .map id, v => v = .map (some (ρ id).1)
  | _, .nilmap, v => v = .map none
  | ρ, .clo f k sh c, v => ∃ vs : Array Value, v = .func (.func f) #[] vs ∧ vs.size = k ∧ ∀ i, i < k → ∃ u, vs[i]? = some u ∧
      match sh i with
      | none => Den D ρ (c i 0) u
      | some m => ∃ us : Array Value, u = .agg us ∧ us.size = m ∧ ∀ j, j < m → ∃ x, us[j]? = some x ∧ Den D ρ (c i j) x
  | _, .nilfn, v => v = .nilFunc
  | ρ, .ifc t sh c, v => ∃ u, v = .iface t u ∧
      match sh with
      | none => Den D ρ (c 0) u
      | some m => ∃ us : Array Value, u = .agg us ∧ us.size = m ∧ ∀ j, j < m → ∃ x, us[j]? = some x ∧ Den D ρ (c j) x
  | _, .nilif, v => v = .nilIface

def DatLe (D D' : Dat) : Prop := ∀ b o v, D b o = some v → D' b o = some v
theorem DatLe.refl (D : Dat) : DatLe D D := fun _ _ _ h => h
theorem DatLe.trans {A B C : Dat} (h : DatLe A B) (k : DatLe B C) : DatLe A C := fun b o v e => k b o v (h b o v e)

theorem Den.mono {D D' : Dat} (h : DatLe D D') : ∀ (x : Cell) (ρ : Rho) (v : Value), Den D ρ x v → Den D' ρ x v := by
  intro x
  induction x with
  | sl sz n f ih =>
    intro ρ v hv
    simp only [Den] at hv ⊢
    obtain ⟨a, cap, e, h1, h2, h3⟩ := hv
    refine ⟨a, cap, e, h1, h2, ?_⟩
    rcases h3 with h3 | ⟨b, o, ea, h3⟩
    · exact .inl h3
    · refine .inr ⟨b, o, ea, fun i hi j hj => ?_⟩
      obtain ⟨u, hu, hd⟩ := h3 i hi j hj
      exact ⟨u, h _ _ _ hu, ih i j _ _ hd⟩
  | dp m g ih =>
    intro ρ v hv
    simp only [Den] at hv ⊢
    obtain ⟨b, o, e, h3⟩ := hv
    refine ⟨b, o, e, fun j hj => ?_⟩
    obtain ⟨u, hu, hd⟩ := h3 j hj
    exact ⟨u, h _ _ _ hu, ih j _ _ hd⟩
  | clo f k sh c ih =>
    intro ρ v hv
    simp only [Den] at hv ⊢
    obtain ⟨vs, e, hs, h3⟩ := hv
    refine ⟨vs, e, hs, fun i hi => ?_⟩
    obtain ⟨u, hu, hd⟩ := h3 i hi
    refine ⟨u, hu, ?_⟩
    cases hsh : sh i with
    | none => rw [hsh] at hd; exact ih i 0 _ _ hd
    | some m =>
      rw [hsh] at hd
      obtain ⟨us, e2, hs2, h4⟩ := hd
      refine ⟨us, e2, hs2, fun j hj => ?_⟩
      obtain ⟨x, hx, hd⟩ := h4 j hj
      exact ⟨x, hx, ih i j _ _ hd⟩
  | ifc t sh c ih =>
    intro ρ v hv
    simp only [Den] at hv ⊢
    obtain ⟨u, e, hd⟩ := hv
    refine ⟨u, e, ?_⟩
    cases hsh : sh with
    | none => rw [hsh] at hd; exact ih 0 _ _ hd
    | some m =>
      rw [hsh] at hd
      obtain ⟨us, e2, hs2, h4⟩ := hd
      refine ⟨us, e2, hs2, fun j hj => ?_⟩
      obtain ⟨x, hx, hd⟩ := h4 j hj
      exact ⟨x, hx, ih j _ _ hd⟩
  | _ => intro ρ v hv; exact hv

/-- Values of one cell. -/
def one : Value → Prop
  | .agg _ | .tuple _ => False
  | _ => True

theorem Den.one {D : Dat} {ρ : Rho} {x : Cell} {v : Value} (h : Den D ρ x v) : one v := by
  cases x <;> simp only [Den] at h
  case sl => obtain ⟨a, cap, e, _⟩ := h; subst e; trivial
  case dp => obtain ⟨b, o, e, _⟩ := h; subst e; trivial
  case row => rcases h with ⟨o, e, _⟩ | ⟨_, _, _, ad, _, e⟩ <;> (subst e; trivial)
  case clo => obtain ⟨vs, e, _⟩ := h; subst e; trivial
  case ifc => obtain ⟨u, e, _⟩ := h; subst e; trivial
  all_goals (subst h; trivial)

theorem one.cells {v : Value} (h : one v) : v.cells = #[v] := by
  cases v <;> first | rfl | exact h.elim

/-- The ids that a cell shows at its top. -/
def Cell.ids : Cell → List Nat
  | .ptr id _ | .row _ id _ _ | .rp _ id _ _ | .map id => [id]
  | _ => []

/-- No ids at all: at the top none, and not within a closure or an interface value. -/
def Cell.flat : Cell → Bool
  | .int .. | .bool _ | .str _ | .sl .. | .nilsl | .nilptr | .dp .. | .nilmap | .nilfn | .nilif => true
  | _ => false

theorem Den.flat {D : Dat} {ρ ρ' : Rho} {x : Cell} {v : Value} (hf : x.flat = true) (h : Den D ρ x v) : Den D ρ' x v := by
  cases x <;> simp only [Cell.flat, Bool.false_eq_true] at hf <;> exact h

/-- Two ρ that agree wherever x looks. -/
def Agr (ρ ρ' : Rho) : Cell → Prop
  | .ptr id _ | .row _ id _ _ | .rp _ id _ _ | .map id => ρ id = ρ' id
  | .clo _ k sh c => ∀ i, i < k → match sh i with | none => Agr ρ ρ' (c i 0) | some m => ∀ j, j < m → Agr ρ ρ' (c i j)
  | .ifc _ sh c => match sh with | none => Agr ρ ρ' (c 0) | some m => ∀ j, j < m → Agr ρ ρ' (c j)
  | _ => True

theorem Den.agr {D : Dat} {ρ ρ' : Rho} : ∀ {x : Cell} {v : Value}, Agr ρ ρ' x → Den D ρ x v → Den D ρ' x v := by
  intro x
  induction x with
  | ptr id off => intro v h hd; simp only [Agr] at h; simp only [Den] at hd ⊢; rw [← h]; exact hd
  | row sz id off len => intro v h hd; simp only [Agr] at h; simp only [Den] at hd ⊢; rw [← h]; exact hd
  | rp sz id e o => intro v h hd; simp only [Agr] at h; simp only [Den] at hd ⊢; rw [← h]; exact hd
  | map id => intro v h hd; simp only [Agr] at h; simp only [Den] at hd ⊢; rw [← h]; exact hd
  | clo f k sh c ih =>
    intro v h hv
    simp only [Agr] at h
    simp only [Den] at hv ⊢
    obtain ⟨vs, e, hs, h3⟩ := hv
    refine ⟨vs, e, hs, fun i hi => ?_⟩
    obtain ⟨u, hu, hd⟩ := h3 i hi
    refine ⟨u, hu, ?_⟩
    have hh := h i hi
    cases hsh : sh i with
    | none => rw [hsh] at hd hh; exact ih i 0 hh hd
    | some m =>
      rw [hsh] at hd hh
      obtain ⟨us, e2, hs2, h4⟩ := hd
      refine ⟨us, e2, hs2, fun j hj => ?_⟩
      obtain ⟨x, hx, hd⟩ := h4 j hj
      exact ⟨x, hx, ih i j (hh j hj) hd⟩
  | ifc t sh c ih =>
    intro v h hv
    simp only [Den] at hv ⊢
    obtain ⟨u, e, hd⟩ := hv
    refine ⟨u, e, ?_⟩
    cases sh with
    | none => exact ih 0 h hd
    | some m =>
      obtain ⟨us, e2, hs2, h4⟩ := hd
      refine ⟨us, e2, hs2, fun j hj => ?_⟩
      obtain ⟨x, hx, hd⟩ := h4 j hj
      exact ⟨x, hx, ih j (h j hj) hd⟩
  | _ => intro v h hd; exact hd

/-- All ids that a cell leads to lie in S. -/
def Cell.inS (S : Nat → Prop) : Cell → Prop
  | .ptr id _ | .row _ id _ _ | .rp _ id _ _ | .map id => S id
  | .clo _ k sh c => ∀ i, i < k → match sh i with | none => (c i 0).inS S | some m => ∀ j, j < m → (c i j).inS S
  | .ifc _ sh c => match sh with | none => (c 0).inS S | some m => ∀ j, j < m → (c j).inS S
  | _ => True

theorem Agr.of_inS {ρ ρ' : Rho} {S : Nat → Prop} (h : ∀ i, S i → ρ i = ρ' i) : ∀ {x : Cell}, x.inS S → Agr ρ ρ' x := by
  intro x
  induction x with
  | ptr id off => intro hb; exact h _ hb
  | row sz id off len => intro hb; exact h _ hb
  | rp sz id e o => intro hb; exact h _ hb
  | map id => intro hb; exact h _ hb
  | clo f k sh c ih =>
    intro hb
    simp only [Cell.inS] at hb
    simp only [Agr]
    intro i hi
    have := hb i hi
    cases hsh : sh i with
    | none => rw [hsh] at this; exact ih i 0 this
    | some m => rw [hsh] at this; exact fun j hj => ih i j (this j hj)
  | ifc t sh c ih =>
    intro hb
    cases sh with
    | none => exact ih 0 hb
    | some m => exact fun j hj => ih j (hb j hj)
  | _ => intro hb; trivial

theorem Cell.inS_mono {S T : Nat → Prop} (h : ∀ i, S i → T i) : ∀ {x : Cell}, x.inS S → x.inS T := by
  intro x
  induction x with
  | ptr id off => intro hb; exact h _ hb
  | row sz id off len => intro hb; exact h _ hb
  | rp sz id e o => intro hb; exact h _ hb
  | map id => intro hb; exact h _ hb
  | clo f k sh c ih =>
    intro hb
    simp only [Cell.inS] at hb ⊢
    intro i hi
    have := hb i hi
    cases hsh : sh i with
    | none => rw [hsh] at this; exact ih i 0 this
    | some m => rw [hsh] at this; exact fun j hj => ih i j (this j hj)
  | ifc t sh c ih =>
    intro hb
    cases sh with
    | none => exact ih 0 hb
    | some m => exact fun j hj => ih j (hb j hj)
  | _ => intro hb; trivial

theorem Cell.inS_flat {S : Nat → Prop} {x : Cell} (h : x.flat = true) : x.inS S := by
  cases x <;> first | trivial | (simp [Cell.flat] at h)

/-- Ids by other ids: at the top, in closures and in interface values. -/
def Cell.ren (σ : Nat → Nat) : Cell → Cell
  | .ptr id off => .ptr (σ id) off
  | .row sz id off len => .row sz (σ id) off len
  | .rp sz id e o => .rp sz (σ id) e o
  | .map id => .map (σ id)
  | .clo f k sh c => .clo f k sh (fun i j => (c i j).ren σ)
  | .ifc t sh c => .ifc t sh (fun j => (c j).ren σ)
  | .int k n => .int k n
  | .bool b => .bool b
  | .str s => .str s
  | .sl sz n f => .sl sz n f
  | .nilsl => .nilsl
  | .nilptr => .nilptr
  | .dp m g => .dp m g
  | .nilmap => .nilmap
  | .nilfn => .nilfn
  | .nilif => .nilif

theorem Den.ren {D : Dat} {σ : Nat → Nat} {ρ : Rho} : ∀ {x : Cell} {v : Value}, Den D ρ (x.ren σ) v ↔ Den D (fun i => ρ (σ i)) x v := by
  intro x
  induction x with
  | clo f k sh c ih =>
    intro v
    simp only [Cell.ren, Den]
    constructor
    · rintro ⟨vs, e, hs, h3⟩
      refine ⟨vs, e, hs, fun i hi => ?_⟩
      obtain ⟨u, hu, hd⟩ := h3 i hi
      refine ⟨u, hu, ?_⟩
      cases hsh : sh i with
      | none => rw [hsh] at hd; exact (ih i 0).1 hd
      | some m =>
        rw [hsh] at hd
        obtain ⟨us, e2, hs2, h4⟩ := hd
        refine ⟨us, e2, hs2, fun j hj => ?_⟩
        obtain ⟨x, hx, hd⟩ := h4 j hj
        exact ⟨x, hx, (ih i j).1 hd⟩
    · rintro ⟨vs, e, hs, h3⟩
      refine ⟨vs, e, hs, fun i hi => ?_⟩
      obtain ⟨u, hu, hd⟩ := h3 i hi
      refine ⟨u, hu, ?_⟩
      cases hsh : sh i with
      | none => rw [hsh] at hd; exact (ih i 0).2 hd
      | some m =>
        rw [hsh] at hd
        obtain ⟨us, e2, hs2, h4⟩ := hd
        refine ⟨us, e2, hs2, fun j hj => ?_⟩
        obtain ⟨x, hx, hd⟩ := h4 j hj
        exact ⟨x, hx, (ih i j).2 hd⟩
  | ifc t sh c ih =>
    intro v
    simp only [Cell.ren, Den]
    constructor
    · rintro ⟨u, e, hd⟩
      refine ⟨u, e, ?_⟩
      cases sh with
      | none => exact (ih 0).1 hd
      | some m =>
        obtain ⟨us, e2, hs2, h4⟩ := hd
        refine ⟨us, e2, hs2, fun j hj => ?_⟩
        obtain ⟨x, hx, hd⟩ := h4 j hj
        exact ⟨x, hx, (ih j).1 hd⟩
    · rintro ⟨u, e, hd⟩
      refine ⟨u, e, ?_⟩
      cases sh with
      | none => exact (ih 0).2 hd
      | some m =>
        obtain ⟨us, e2, hs2, h4⟩ := hd
        refine ⟨us, e2, hs2, fun j hj => ?_⟩
        obtain ⟨x, hx, hd⟩ := h4 j hj
        exact ⟨x, hx, (ih j).2 hd⟩
  | _ => intro v; simp only [Cell.ren, Den]

theorem Cell.inS_ren {S : Nat → Prop} {σ : Nat → Nat} : ∀ {x : Cell}, (x.ren σ).inS S ↔ x.inS (fun i => S (σ i)) := by
  intro x
  induction x with
  | clo f k sh c ih =>
    simp only [Cell.ren, Cell.inS]
    constructor
    · intro h i hi
      have := h i hi
      cases hsh : sh i with
      | none => rw [hsh] at this; exact (ih i 0).1 this
      | some m => rw [hsh] at this; exact fun j hj => (ih i j).1 (this j hj)
    · intro h i hi
      have := h i hi
      cases hsh : sh i with
      | none => rw [hsh] at this; exact (ih i 0).2 this
      | some m => rw [hsh] at this; exact fun j hj => (ih i j).2 (this j hj)
  | ifc t sh c ih =>
    cases sh with
    | none => exact ih 0
    | some m => exact ⟨fun h j hj => (ih j).1 (h j hj), fun h j hj => (ih j).2 (h j hj)⟩
  | _ => first | exact Iff.rfl | (simp only [Cell.ren, Cell.inS])

end Go.Sv
