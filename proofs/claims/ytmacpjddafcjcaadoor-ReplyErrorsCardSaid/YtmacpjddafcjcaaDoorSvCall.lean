/-
  Own layer 'SV' (11): contracts of functions, calls.
-/
import Derived.Test.YtmacpjddafcjcaaDoorSvStore
set_option linter.all false
namespace Go.Sv
open M

def ResDen (D : Dat) (ρ : Rho) (rs : List V1) (v : Value) : Prop := match rs with
  | [x] => DenV D ρ x v
  | rs => ∃ vs : Array Value, v = .tuple vs ∧ DenL D ρ rs vs

/-- What a call leaves: the handed blocks (ids 0 .. kin - 1) and new ones as 'hout' says; all else that was there as it was. -/
structure After (kn : Nat) (D : Dat) (ρ : Rho) (w : World) (D' : Dat) (ρ' : Rho) (w' : World) (hout : List (Nat × Blk)) : Prop where
  hp : ∀ id b, look hout id = some b → BlkSat D' ρ' id w' b
  inj : ∀ i j bi bj, look hout i = some bi → look hout j = some bj → Live ρ' i bi → Live ρ' j bj → (ρ' i).1 = (ρ' j).1 → i = j
  sep : ∀ id b, look hout id = some b → Live ρ' id b → ∀ o, D' (ρ' id).1 o = none
  agree : Agree D' w'
  le : DatLe D D'
  kin : ∀ i, i < kn → ρ' i = ρ i
  own : ∀ id b, look hout id = some b → Live ρ' id b → w.heap.size ≤ (ρ' id).1 ∨ ∃ i, i < kn ∧ (ρ i).2 ≠ 0 ∧ (ρ i).1 = (ρ' id).1
  newD : ∀ b o v, D' b o = some v → D b o = some v ∨ w.heap.size ≤ b ∨ ∃ i, i < kn ∧ (ρ i).2 ≠ 0 ∧ (ρ i).1 = b
  frame : ∀ b, b < w.heap.size → (∀ i, i < kn → (ρ i).2 ≠ 0 → (ρ i).1 ≠ b) → w'.heap[b]? = w.heap[b]?
  os : w'.os = w.os
  tape : w'.tape = w.tape
  output : w'.output = w.output
  grow : w.heap.size ≤ w'.heap.size
  ids : ∀ id b, look hout id = some b → b.inS (fun i => ∃ c, look hout i = some c)

/-- A CONTRACT: called with values that read as 'args', and with the blocks 'hin' handed over, the function returns, and what it hands back is as R says. -/
def Fn (P : Program) (G : Nat → Option (List Cell)) (f : FuncId) (hin : List Blk) (args : List V1) (R : List V1 → List (Nat × Blk) → Prop) : Prop :=
  ∀ (D : Dat) (ρ : Rho) (w : World) (vs : Array Value), DenL D ρ args vs → GlobOk G D → GlobW G w → Agree D w →
    (∀ (i : Nat) (b : Blk), hin[i]? = some b → BlkSat D ρ i w b ∧ (Live ρ i b → ∀ o, D (ρ i).1 o = none)) →
    (∀ (i j : Nat) (bi bj : Blk), hin[i]? = some bi → hin[j]? = some bj → Live ρ i bi → Live ρ j bj → (ρ i).1 = (ρ j).1 → i = j) →
    Calls P f vs w fun e w' => ∃ rs hout D' ρ' v, e = .returned v ∧ R rs hout ∧ ResDen D' ρ' rs v ∧ (∀ (j : Nat) (x : V1), rs[j]? = some x → x.inS (fun i => ∃ c, look hout i = some c)) ∧ After hin.length D ρ w D' ρ' w' hout

theorem Fn.mono {P : Program} {G : Nat → Option (List Cell)} {f : FuncId} {hin : List Blk} {args : List V1} {R R' : List V1 → List (Nat × Blk) → Prop} (h : Fn P G f hin args R) (hr : ∀ rs ho, R rs ho → R' rs ho) : Fn P G f hin args R' :=
  fun D ρ w vs h1 h2 hgw h3 h4 h5 => (h D ρ w vs h1 h2 hgw h3 h4 h5).mono fun e w' ⟨rs, ho, D', ρ', v, q1, q2, q3⟩ => ⟨rs, ho, D', ρ', v, q1, hr _ _ q2, q3⟩

/-- A function that takes plain values and gives plain values. -/
def Pur (P : Program) (G : Nat → Option (List Cell)) (f : FuncId) (args rs : List V1) : Prop := Fn P G f [] args (fun r h => r = rs ∧ h = [])

structure CallE (P : Program) (G : Nat → Option (List Cell)) where
  f : FuncId
  m : List Nat
  args : List V1
  hin : List Blk
  rs : List V1
  hout : List (Nat × Blk)
  prf : Fn P G f hin args (fun r h => r = rs ∧ h = hout)
def pc {P : Program} {G : Nat → Option (List Cell)} {f : FuncId} {args rs : List V1} (h : Pur P G f args rs) : CallE P G := ⟨f, [], args, [], rs, [], h⟩

structure Eqs where
  el : List V1
  er : List V1
  bl : List Blk
  br : List Blk

def isGo (P : Program) (f : FuncId) : Bool := match P.funcs[f]? with
  | some fn => bAnd (match fn.body with | some _ => true | none => false) (fn.name != "runtime.NumGoroutine")
  | none => false

def sigIn (m : List Nat) (i : Nat) : Nat := match nth m i with
  | some j => j
  | none => i
def sigOut (m : List Nat) (nid : Nat) (i : Nat) : Nat := match nth m i with
  | some j => j
  | none => nid + (i - len m)
def notIn (x : Nat) : List Nat → Bool
  | [] => true
  | y :: r => match Nat.beq x y with
    | true => false
    | false => notIn x r
def nodupB : List Nat → Bool
  | [] => true
  | x :: r => bAnd (notIn x r) (nodupB r)
def blksM : List Nat → M (List Blk)
  | [] => ret []
  | id :: r => bind (rd (.bk id)) fun
    | .bk b => bind (blksM r) fun l => ret (b :: l)
    | _ => fail
def houtOk (kin : Nat) : List (Nat × Blk) → Bool
  | [] => true
  | (id, _) :: r => bAnd (Nat.blt id (kin + 16)) (houtOk kin r)
def goneL : List Nat → List (Key × KV)
  | [] => []
  | id :: r => (.bk id, .gone) :: goneL r
def outL (m : List Nat) (nid : Nat) : List (Nat × Blk) → List (Key × KV)
  | [] => []
  | (id, b) :: r => (.bk (sigOut m nid id), .bk (b.ren (sigOut m nid))) :: outL m nid r
def resTV (rs : List V1) : TV := match rs with
  | [x] => .v x
  | rs => .tup rs
def mapL {α β : Type} (f : α → β) : List α → List β
  | [] => []
  | x :: r => f x :: mapL f r
def fstL : List (Nat × Blk) → List Nat
  | [] => []
  | (i, _) :: r => i :: fstL r


def V1.flat : V1 → Bool
  | .c x => x.flat
  | .agg l => flats l
def flatsV : List V1 → Bool
  | [] => true
  | x :: r => bAnd x.flat (flatsV r)
def isNil {α : Type} : List α → Bool
  | [] => true
  | _ => false

theorem mapL_eq {α β : Type} (f : α → β) (l : List α) : mapL f l = l.map f := by
  induction l with
  | nil => rfl
  | cons x r ih => simp [mapL, ih]

/-- Which function is called, with which captured values. -/
def calleeM (E : Env) (g : OG) : Operand → M (FuncId × List V1)
  | .func f => ret (f, [])
  | x => bind (opdM E g x) fun
    | .c (.clo f k sh c) => ret (f, upL (fun i => match sh i with | none => V1.c (c i 0) | some m => V1.agg (upL (c i) 0 m)) 0 k)
    | _ => fail

def callM (E : Env) (cs : List (Nat × CallE E.P E.G)) (i nid : Nat) (g : OG) (d : Option Nat) (f : Operand) (args : List Operand) : M (Eff × Eqs) :=
  bind (opt (look cs i)) fun c => bind (calleeM E g f) fun q => bind (guard (bAnd (Nat.beq q.1 c.f) (isGo E.P c.f))) fun _ =>
  bind (opdsM E g args) fun vs =>
  match g with
  | none => bind (blksM c.m) fun bs =>
      bind (guard (bAnd (nodupB c.m) (bAnd (Nat.beq (len c.m) (len c.hin)) (bAnd (houtOk (len c.m) c.hout) (nodupB (fstL c.hout)))))) fun _ =>
      ret (⟨goneL c.m ++ (outL c.m nid c.hout ++ (match d with | some d => [(.tm d, .tv (resTV (mapL (V1.ren (sigOut c.m nid)) c.rs)))] | none => [])), []⟩,
        ⟨vs ++ q.2, mapL (V1.ren (sigIn c.m)) c.args, bs, mapL (Blk.ren (sigIn c.m)) c.hin⟩)
  | some gd => match d, c.rs with
    | some d, [x] => bind (guard (bAnd (isNil c.m) (bAnd (isNil c.hin) (bAnd (isNil c.hout) x.flat)))) fun _ => ret (⟨[(.tm d, .tv (.cnd gd.t gd.w x))], []⟩, ⟨vs ++ q.2, c.args, [], []⟩)
    | _, _ => fail

end Go.Sv
