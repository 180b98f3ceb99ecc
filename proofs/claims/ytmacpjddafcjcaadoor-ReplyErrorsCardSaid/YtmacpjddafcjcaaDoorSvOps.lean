/-
  Own layer 'SV' (3): the executor: what an operation does to a symbolic state, which keys it reads, which it writes, what is left to be shown.
-/
import Derived.Test.YtmacpjddafcjcaaDoorSvState
set_option linter.all false
namespace Go.Sv

/-! a reader that may fail, and tells what it read -/
def M (α : Type) : Type := (Key → Option KV) → Option (α × List Key)
namespace M
def ret {α : Type} (a : α) : M α := fun _ => some (a, [])
def fail {α : Type} : M α := fun _ => none
def bind {α β : Type} (m : M α) (f : α → M β) : M β := fun L => match m L with
  | none => none
  | some (a, r) => match f a L with
    | none => none
    | some (b, r') => some (b, r ++ r')
def rd (k : Key) : M KV := fun L => match L k with
  | none => none
  | some v => some (v, [k])
def opt {α : Type} : Option α → M α
  | some a => ret a
  | none => fail
def guard (b : Bool) : M Unit := match b with
  | true => ret ()
  | false => fail
/-- What it answers. -/
def Ev {α : Type} (m : M α) (L : Key → Option KV) (a : α) : Prop := ∃ r, m L = some (a, r)
theorem ev_ret {α : Type} {a b : α} {L : Key → Option KV} : (ret a).Ev L b ↔ a = b := by simp [Ev, ret]
theorem ev_fail {α : Type} {b : α} {L : Key → Option KV} : (fail : M α).Ev L b ↔ False := by simp [Ev, fail]
theorem ev_bind {α β : Type} {m : M α} {f : α → M β} {L : Key → Option KV} {b : β} : (bind m f).Ev L b ↔ ∃ a, m.Ev L a ∧ (f a).Ev L b := by
  constructor
  · rintro ⟨r, h⟩
    simp only [bind] at h
    cases hm : m L with
    | none => simp [hm] at h
    | some p =>
      obtain ⟨a, r1⟩ := p
      simp only [hm] at h
      cases hf : f a L with
      | none => simp [hf] at h
      | some q =>
        obtain ⟨b', r2⟩ := q
        simp only [hf, Option.some.injEq, Prod.mk.injEq] at h
        exact ⟨a, ⟨r1, hm⟩, ⟨r2, by rw [hf, h.1]⟩⟩
  · rintro ⟨a, ⟨r1, h1⟩, ⟨r2, h2⟩⟩
    exact ⟨r1 ++ r2, by simp [bind, h1, h2]⟩
theorem ev_rd {k : Key} {L : Key → Option KV} {v : KV} : (rd k).Ev L v ↔ L k = some v := by
  simp only [Ev, rd]
  cases h : L k <;> simp
theorem ev_opt {α : Type} {o : Option α} {L : Key → Option KV} {a : α} : (opt o).Ev L a ↔ o = some a := by
  cases o <;> simp [opt, ev_ret, ev_fail]
theorem ev_guard {b : Bool} {L : Key → Option KV} {u : Unit} : (guard b).Ev L u ↔ b = true := by
  cases b <;> simp [guard, ev_ret, ev_fail]
end M
open M

structure Eff where
  wr : List (Key × KV)
  vc : List Prop

/-- That a value may be read as another. -/
def Eqv (v v' : V1) : Prop := (∀ D ρ u, DenV D ρ v u → DenV D ρ v' u) ∧ (∀ S, v.inS S → v'.inS S)
def EqvI (v v' : V1) : Prop := ∀ S, v.inS S → v'.inS S
def EqvD (v v' : V1) : Prop := ∀ D ρ u, DenV D ρ v u → DenV D ρ v' u
def BlkEqv (b b' : Blk) : Prop := (∀ D ρ id w, BlkSat D ρ id w b → BlkSat D ρ id w b') ∧ (∀ S, b.inS S → b'.inS S)
theorem Eqv.refl (v : V1) : Eqv v v := ⟨fun _ _ _ h => h, fun _ h => h⟩
theorem Eqv.of_eq {v v' : V1} (h : v = v') : Eqv v v' := h ▸ Eqv.refl v
theorem BlkEqv.refl (b : Blk) : BlkEqv b b := ⟨fun _ _ _ _ h => h, fun _ h => h⟩

def bAnd : Bool → Bool → Bool
  | true, b => b
  | false, _ => false
def bEq : Bool → Bool → Bool
  | true, b => b
  | false, true => false
  | false, false => true
theorem bEq_eq {a b : Bool} (h : bEq a b = true) : a = b := by cases a <;> cases b <;> simp_all [bEq]

def kEq : IntKind → IntKind → Bool
  | .i8, .i8 | .i16, .i16 | .i32, .i32 | .i64, .i64 | .u8, .u8 | .u16, .u16 | .u32, .u32 | .u64, .u64 => true
  | _, _ => false
theorem kEq_eq {a b : IntKind} (h : kEq a b = true) : a = b := by cases a <;> cases b <;> simp_all [kEq]

/-! constants -/
def cstC : Value → Option Cell
  | .int k n => some (.int k n)
  | .bool b => some (.bool b)
  | .string s => some (.str s.data.toList)
  | .pointer none => some .nilptr
  | .slice none 0 0 => some .nilsl
  | .map none => some .nilmap
  | .nilFunc => some .nilfn
  | .nilIface => some .nilif
  | _ => none
def cstL : List Value → Option (List Cell)
  | [] => some []
  | v :: r => match cstC v with
    | none => none
    | some c => match cstL r with
      | none => none
      | some l => some (c :: l)
def cstV : Value → Option V1
  | .agg cs => match cstL cs.toList with
    | some l => some (.agg l)
    | none => none
  | v => match cstC v with
    | some c => some (.c c)
    | none => none

/-! types -/
def tSize (P : Program) (t : TypeId) : Option Nat := match P.info? t with
  | some i => some i.size
  | none => none
def isAggD : TypeDesc → Bool
  | .struct _ => true
  | .array _ _ => true
  | _ => false
def tAgg (P : Program) (t : TypeId) : Option Bool := match P.underlying t with
  | some d => some (isAggD d)
  | none => none
def tField (P : Program) (t f : Nat) : Option Field := match P.underlying t with
  | some (.struct fs) => nth fs.toList f
  | _ => none
def tElem (P : Program) (t : TypeId) : Option TypeId := match P.underlying t with
  | some (.slice e) => some e
  | _ => none
def tZero (P : Program) (t : TypeId) : Option (List Cell) := match P.info? t with
  | some i => match i.zero with
    | some z => cstL z.cells.toList
    | none => none
  | none => none

/-- What an executor is given: the program, its tables, the slots, the region's operations; of each operation (by its place) whether its guard is known, in which form its value is wanted, which contract serves at a call. -/
structure Env where
  P : Program
  G : Nat → Option (List Cell)
  N : Nat
  all : List Oper
  grd : List (Nat × Bool)
  as : List (Nat × V1)
  bs : List (Nat × Blk)
  wrp : List (Nat × Unit)

/-- A guard that is not known: the slot, what it must be, which slots are known to be what where it holds, what is known where it holds. -/
structure Gd where
  t : Nat
  w : Bool
  ch : List (Nat × Bool)
  p : Prop

abbrev OG := Option Gd
def under (g : OG) (p : Prop) : Prop := match g with
  | none => p
  | some g => g.p → p
def inCh (t : Nat) (w : Bool) : List (Nat × Bool) → Bool
  | [] => false
  | (t', w') :: r => match bAnd (Nat.beq t t') (bEq w w') with
    | true => true
    | false => inCh t w r

def opdM (E : Env) (g : OG) : Operand → M V1
  | .tmp t => bind (rd (.tm t)) fun
    | .tv (.v v) => ret v
    | .tv (.cnd t' w v) => match g with
      | some g => bind (guard (inCh t' w g.ch)) fun _ => ret v
      | none => fail
    | _ => fail
  | .const v => opt (cstV v)
  | .global n => match E.G n with
    | some cs => ret (.c (.dp (len cs) (fun j => match nth cs j with | some x => x | none => .nilif)))
    | none => fail
  | .func f => ret (.c (.clo f 0 (fun _ => none) (fun _ _ => .nilif)))

/-- The guard 'slot t holds w', with what follows from it. -/
def gdM : Nat → Nat → Bool → M Gd
  | 0, _, _ => fail
  | n + 1, t, w => bind (rd (.tm t)) fun
    | .tv (.v (.c (.bool b))) => ret ⟨t, w, [(t, w)], b = w⟩
    | .tv (.cnd t' w' (.c (.bool b))) => bind (gdM n t' w') fun g => ret ⟨t, w, (t, w) :: g.ch, b = w ∧ g.p⟩
    | _ => fail

def wrTV (g : OG) (v : V1) : TV := match g with
  | none => .v v
  | some g => .cnd g.t g.w v

/-- A value into its slot, in the form that is wanted. -/
def finM (E : Env) (i : Nat) (g : OG) (d : Nat) (vc : List Prop) (v : V1) : M Eff :=
  match look E.as i with
  | none => ret ⟨[(.tm d, .tv (wrTV g v))], vc⟩
  | some v' => ret ⟨[(.tm d, .tv (wrTV g v'))], EqvI v v' :: under g (EqvD v v') :: vc⟩

def pure1 (g : OG) : M Unit := match g with
  | none => ret ()
  | some _ => fail

def cellM : V1 → M Cell
  | .c x => ret x
  | .agg _ => fail
def intM : V1 → M (IntKind × Int)
  | .c (.int k n) => ret (k, n)
  | _ => fail
def boolM : V1 → M Bool
  | .c (.bool b) => ret b
  | _ => fail

def cellsM (id : Nat) : Nat → Nat → M (List Cell)
  | _, 0 => ret []
  | off, n + 1 => bind (rd (.cl id off)) fun
    | .cl x => bind (cellsM id (off + 1) n) fun l => ret (x :: l)
    | _ => fail
def mkV (agg : Bool) (l : List Cell) : M V1 := match agg with
  | true => ret (.agg l)
  | false => match l with
    | [x] => ret (.c x)
    | _ => fail
def upL {α : Type} (g : Nat → α) : Nat → Nat → List α
  | _, 0 => []
  | k, n + 1 => g k :: upL g (k + 1) n

def flats : List Cell → Bool
  | [] => true
  | x :: r => bAnd x.flat (flats r)

def rowM (id : Nat) : M (TypeId × Nat × Nat × (Nat → Nat → Cell)) := bind (rd (.bk id)) fun
  | .bk (.row e sz n f) => ret (e, sz, n, f)
  | _ => fail

def flatG (g : OG) (l : List Cell) : M Unit := match g with
  | none => ret ()
  | some _ => guard (flats l)

/-- Published data into a slot: flat, as it stands or in the form that is wanted. -/
def flatM (E : Env) (i : Nat) (g : OG) (d : Nat) (v : V1) : M Eff :=
  match look E.as i with
  | none => bind (guard (flats v.cells)) fun _ => ret ⟨[(.tm d, .tv (wrTV g v))], []⟩
  | some v' => bind (guard (flats v'.cells)) fun _ => ret ⟨[(.tm d, .tv (wrTV g v'))], [under g (EqvD v v')]⟩
def loadM (E : Env) (i : Nat) (g : OG) (d : Nat) (t : TypeId) (x : Operand) : M Eff :=
  bind (opdM E g x) fun v => bind (cellM v) fun a => bind (opt (tSize E.P t)) fun sz => bind (opt (tAgg E.P t)) fun ag =>
  match a with
  | .ptr id off => bind (cellsM id off sz) fun l => bind (mkV ag l) fun v => finM E i g d [] v
  | .dp m h => bind (guard (Nat.ble sz m)) fun _ => bind (mkV ag (upL h 0 sz)) fun v => flatM E i g d v
  | .rp s id e o => bind (rowM id) fun r => bind (guard (bAnd (Nat.beq s r.2.1) (Nat.ble (o + sz) r.2.1))) fun _ =>
      bind (flatG g (upL (fun j => r.2.2.2 e j) o sz)) fun _ =>
      bind (mkV ag (upL (fun j => r.2.2.2 e j) o sz)) fun v => finM E i g d [under g (e < r.2.2.1)] v
  | _ => fail

def setL (id : Nat) : Nat → List Cell → List (Key × KV)
  | _, [] => []
  | off, x :: r => (.cl id off, .cl x) :: setL id (off + 1) r
def haveM (id : Nat) : Nat → Nat → M Unit
  | _, 0 => ret ()
  | off, n + 1 => bind (rd (.cl id off)) fun _ => haveM id (off + 1) n
def nthD (l : List Cell) (j : Nat) : Cell := match nth l j with
  | some x => x
  | none => .nilif
def rowSet (f : Nat → Nat → Cell) (e o sz : Nat) (l : List Cell) : Nat → Nat → Cell :=
  fun i j => if i = e ∧ o ≤ j ∧ j < o + sz then nthD l (j - o) else f i j

def blkM (E : Env) (i : Nat) (id : Nat) (vc : List Prop) (b : Blk) : M Eff :=
  match look E.bs i with
  | none => ret ⟨[(.bk id, .bk b)], vc⟩
  | some b' => ret ⟨[(.bk id, .bk b')], BlkEqv b b' :: vc⟩

def storeM (E : Env) (i : Nat) (g : OG) (t : TypeId) (x y : Operand) : M Eff :=
  bind (pure1 g) fun _ => bind (opdM E g x) fun v => bind (cellM v) fun a => bind (opdM E g y) fun y => bind (opt (tSize E.P t)) fun sz =>
  bind (guard (Nat.beq (len y.cells) sz)) fun _ =>
  match a with
  | .ptr id off => bind (haveM id off sz) fun _ => ret ⟨setL id off y.cells, []⟩
  | .rp s id e o => bind (rowM id) fun r => bind (guard (bAnd (Nat.beq s r.2.1) (Nat.ble (o + sz) r.2.1))) fun _ =>
      blkM E i id [e < r.2.2.1] (.row r.1 r.2.1 r.2.2.1 (rowSet r.2.2.2 e o sz y.cells))
  | _ => fail

def boxM (nid d : Nat) (t : TypeId) (l : List Cell) : M Eff := ret ⟨[(.bk nid, .bk (.box t l)), (.tm d, .tv (.v (.c (.ptr nid 0))))], []⟩

def faddrM (E : Env) (i : Nat) (g : OG) (d : Nat) (t : TypeId) (x : Operand) (f : Nat) : M Eff :=
  bind (opdM E g x) fun v => bind (cellM v) fun a => bind (opt (tField E.P t f)) fun fd => bind (opt (tSize E.P fd.type)) fun sz =>
  bind (guard (Nat.blt 0 sz)) fun _ =>
  match a with
  | .ptr id off => finM E i g d [] (.c (.ptr id (off + fd.offset)))
  | .dp m h => bind (guard (Nat.ble fd.offset m)) fun _ => finM E i g d [] (.c (.dp (m - fd.offset) (fun j => h (fd.offset + j))))
  | .rp s id e o => finM E i g d [] (.c (.rp s id e (o + fd.offset)))
  | _ => fail

def iaddrM (E : Env) (i : Nat) (g : OG) (d : Nat) (t : TypeId) (x y : Operand) : M Eff :=
  bind (opdM E g x) fun v => bind (cellM v) fun a => bind (opdM E g y) fun w => bind (intM w) fun n =>
  match E.P.underlying t with
  | some (.slice el) => bind (opt (tSize E.P el)) fun sz => match a with
    | .sl s m f => bind (guard (Nat.beq s sz)) fun _ => finM E i g d [under g (0 ≤ n.2 ∧ n.2 < (m : Int))] (.c (.dp s (fun j => f n.2.toNat j)))
    | .row s id off m => bind (guard (Nat.beq s sz)) fun _ => finM E i g d [under g (0 ≤ n.2 ∧ n.2 < (m : Int))] (.c (.rp s id (off + n.2.toNat) 0))
    | _ => fail
  | some (.array m el) => bind (opt (tSize E.P el)) fun sz => match a with
    | .ptr id off => finM E i g d [under g (0 ≤ n.2 ∧ n.2 < (m : Int))] (.c (.ptr id (off + n.2.toNat * sz)))
    | .dp k h => bind (guard (Nat.ble (m * sz) k)) fun _ => finM E i g d [under g (0 ≤ n.2 ∧ n.2 < (m : Int))] (.c (.dp sz (fun j => h (n.2.toNat * sz + j))))
    | _ => fail
  | _ => fail

def indexM (E : Env) (i : Nat) (g : OG) (d : Nat) (t : TypeId) (x y : Operand) : M Eff :=
  bind (opdM E g x) fun a => bind (opdM E g y) fun w => bind (intM w) fun n =>
  match E.P.underlying t with
  | some .string => match a with
    | .c (.str s) => finM E i g d [under g (0 ≤ n.2 ∧ n.2 < (s.length : Int))] (.c (.int .u8 ((s.getD n.2.toNat 0).toNat : Int)))
    | _ => fail
  | some (.array m el) => match a with
    | .agg l => bind (opt (tSize E.P el)) fun sz => bind (opt (tAgg E.P el)) fun ag => bind (guard (bAnd (Nat.ble (m * sz) (len l)) (Nat.blt 0 sz))) fun _ =>
        bind (mkV ag (upL (nthD l) (n.2.toNat * sz) sz)) fun v => finM E i g d [under g (0 ≤ n.2 ∧ n.2 < (m : Int))] v
    | _ => fail
  | _ => fail

def fieldM (E : Env) (i : Nat) (g : OG) (d : Nat) (t : TypeId) (x : Operand) (f : Nat) : M Eff :=
  bind (opdM E g x) fun a => bind (opt (tField E.P t f)) fun fd => bind (opt (tSize E.P fd.type)) fun sz => bind (opt (tAgg E.P fd.type)) fun ag =>
  match a with
  | .agg l => bind (guard (bAnd (Nat.ble (fd.offset + sz) (len l)) (Nat.blt 0 sz))) fun _ => bind (mkV ag (upL (nthD l) fd.offset sz)) fun v => finM E i g d [] v
  | _ => fail

/-! arithmetic -/
def inR (k : IntKind) (n : Int) : Prop := k.min ≤ n ∧ n ≤ k.max
def bitsI (op : BinOp) (k : IntKind) (x y : Int) : Int :=
  let a := BitVec.ofInt k.bits x
  let b := BitVec.ofInt k.bits y
  match op with
  | .and => k.wrap (a &&& b).toNat
  | .or => k.wrap (a ||| b).toNat
  | .xor => k.wrap (a ^^^ b).toNat
  | _ => k.wrap (a &&& ~~~b).toNat

def arithM (E : Env) (i : Nat) (g : OG) (d : Nat) (k : IntKind) (r : Int) : M Eff :=
  match k, look E.wrp i with
  | .i64, none => finM E i g d [under g (inR .i64 r)] (.c (.int .i64 r))
  | k, _ => finM E i g d [] (.c (.int k (k.wrap r)))

def binI (E : Env) (i : Nat) (g : OG) (d : Nat) (op : BinOp) (k : IntKind) (a b : Int) : M Eff :=
  match op with
  | .add => arithM E i g d k (a + b)
  | .sub => arithM E i g d k (a - b)
  | .mul => arithM E i g d k (a * b)
  | .quo => finM E i g d [under g (b ≠ 0)] (.c (.int k (k.wrap (a.tdiv b))))
  | .rem => finM E i g d [under g (b ≠ 0)] (.c (.int k (a.tmod b)))
  | .and => finM E i g d [] (.c (.int k (bitsI .and k a b)))
  | .or => finM E i g d [] (.c (.int k (bitsI .or k a b)))
  | .xor => finM E i g d [] (.c (.int k (bitsI .xor k a b)))
  | .andNot => finM E i g d [] (.c (.int k (bitsI .andNot k a b)))
  | .eql => finM E i g d [] (.c (.bool (a == b)))
  | .neq => finM E i g d [] (.c (.bool (a != b)))
  | .lss => finM E i g d [] (.c (.bool (decide (a < b))))
  | .leq => finM E i g d [] (.c (.bool (decide (a ≤ b))))
  | .gtr => finM E i g d [] (.c (.bool (decide (a > b))))
  | .geq => finM E i g d [] (.c (.bool (decide (a ≥ b))))
  | _ => fail

def binS (E : Env) (i : Nat) (g : OG) (d : Nat) (op : BinOp) (a b : List UInt8) : M Eff :=
  match op with
  | .add => finM E i g d [under g (a.length + b.length ≤ 9223372036854775807)] (.c (.str (a ++ b)))
  | .eql => finM E i g d [] (.c (.bool (a == b)))
  | .neq => finM E i g d [] (.c (.bool (!(a == b))))
  | .lss => finM E i g d [] (.c (.bool (Op.bytesLess a b)))
  | .leq => finM E i g d [] (.c (.bool (Op.bytesLess a b || a == b)))
  | .gtr => finM E i g d [] (.c (.bool (!(Op.bytesLess a b || a == b))))
  | .geq => finM E i g d [] (.c (.bool (!(Op.bytesLess a b))))
  | _ => fail

def isBoolD : TypeDesc → Bool
  | .bool => true
  | _ => false
def isPtrD : TypeDesc → Bool
  | .pointer _ => true
  | _ => false
def isIfcD : TypeDesc → Bool
  | .interface _ => true
  | _ => false
def isConst : Operand → Bool
  | .const _ => true
  | _ => false
def tIs (P : Program) (q : TypeDesc → Bool) (t : TypeId) : Bool := match P.underlying t with
  | some d => q d
  | none => false

/-! equality of structs -/
def mkVo (agg : Bool) (l : List Cell) : Option V1 := match agg with
  | true => some (.agg l)
  | false => match l with
    | [x] => some (.c x)
    | _ => none
def partV (P : Program) (t : TypeId) (l : List Cell) (off : Nat) : Option V1 := match tSize P t, tAgg P t with
  | some sz, some ag => match bAnd (Nat.ble (off + sz) (len l)) (Nat.blt 0 sz) with
    | true => mkVo ag (upL (nthD l) off sz)
    | false => none
  | _, _ => none
def eqFs (P : Program) (rec : TypeId → V1 → V1 → Option Bool) (l r : List Cell) : List Field → Option Bool
  | [] => some true
  | f :: fs => match f.name != "_" with
    | true => match partV P f.type l f.offset, partV P f.type r f.offset with
      | some a, some b => match rec f.type a b, eqFs P rec l r fs with
        | some x, some y => some (x && y)
        | _, _ => none
      | _, _ => none
    | false => none
def eqV (P : Program) : Nat → TypeId → V1 → V1 → Option Bool
  | 0, _, _, _ => none
  | n + 1, t, a, b => match P.underlying t with
    | some .bool => match a, b with
      | .c (.bool p), .c (.bool q) => some (p == q)
      | _, _ => none
    | some (.int _) => match a, b with
      | .c (.int k p), .c (.int k' q) => match kEq k k' with
        | true => some (p == q)
        | false => none
      | _, _ => none
    | some .string => match a, b with
      | .c (.str p), .c (.str q) => some (p == q)
      | _, _ => none
    | some (.struct fs) => match a, b with
      | .agg l, .agg r => match P.stoodInHeld t with
        | true => none
        | false => eqFs P (eqV P n) l r fs.toList
      | _, _ => none
    | _ => none

/-! equality of addresses, and with nil -/
def isNN : Cell → Bool
  | .ptr _ _ | .dp _ _ | .rp _ _ _ _ => true
  | _ => false
def eqC (P : Program) (t : TypeId) (a b : Cell) : Option Bool := match P.underlying t with
  | some (.pointer el) => match a, b with
    | .ptr id o, .ptr id' o' => match tSize P el with
      | some sz => match bAnd (Nat.beq id id') (Nat.blt 0 sz) with
        | true => some (Nat.beq o o')
        | false => none
      | none => none
    | .nilptr, .nilptr => some true
    | .nilptr, b => match isNN b with
      | true => some false
      | false => none
    | a, .nilptr => match isNN a with
      | true => some false
      | false => none
    | _, _ => none
  | some (.interface _) => match a, b with
    | .nilif, .nilif => some true
    | .nilif, .ifc _ _ _ => some false
    | .ifc _ _ _, .nilif => some false
    | _, _ => none
  | some (.slice _) => match a, b with
    | .nilsl, .nilsl => some true
    | _, _ => none
  | some (.map _ _) => match a, b with
    | .nilmap, .nilmap => some true
    | .nilmap, .map _ => some false
    | .map _, .nilmap => some false
    | _, _ => none
  | some (.func _ _ _) => match a, b with
    | .nilfn, .nilfn => some true
    | .nilfn, .clo _ _ _ _ => some false
    | .clo _ _ _ _, .nilfn => some false
    | _, _ => none
  | _ => none
def nilOk (a b : Cell) (x y : Operand) : Bool := match a, b with
  | .nilif, .nilif => match isConst x with
    | true => true
    | false => isConst y
  | _, _ => true

def binM (E : Env) (i : Nat) (g : OG) (d : Nat) (op : BinOp) (t : TypeId) (x y : Operand) : M Eff :=
  bind (opdM E g x) fun a => bind (opdM E g y) fun b =>
  match a, b with
  | .c (.int k a), .c (.int k' b) => match op with
    | .shl => finM E i g d [under g (0 ≤ b)] (.c (.int k (k.wrap (a * 2 ^ (min b.toNat k.bits)))))
    | .shr => finM E i g d [under g (0 ≤ b)] (.c (.int k (a.fdiv (2 ^ (min b.toNat k.bits)))))
    | op => bind (guard (kEq k k')) fun _ => binI E i g d op k a b
  | .c (.str a), .c (.str b) => binS E i g d op a b
  | .c (.bool a), .c (.bool b) => bind (guard (tIs E.P isBoolD t)) fun _ => match op with
    | .eql => finM E i g d [] (.c (.bool (a == b)))
    | .neq => finM E i g d [] (.c (.bool (!(a == b))))
    | _ => fail
  | .agg l, .agg r => bind (guard (match Go.Program.eqGuardType E.P E.P.depth t with | true => false | false => true)) fun _ => bind (opt (eqV E.P 8 t (.agg l) (.agg r))) fun b => match op with
    | .eql => finM E i g d [] (.c (.bool b))
    | .neq => finM E i g d [] (.c (.bool (!b)))
    | _ => fail
  | .c a, .c b => bind (guard (nilOk a b x y)) fun _ => bind (opt (eqC E.P t a b)) fun r => match op with
    | .eql => finM E i g d [] (.c (.bool r))
    | .neq => finM E i g d [] (.c (.bool (!r)))
    | _ => fail
  | _, _ => fail

def unM (E : Env) (i : Nat) (g : OG) (d : Nat) (op : UnOp) (x : Operand) : M Eff :=
  bind (opdM E g x) fun a => match op, a with
  | .not, .c (.bool b) => finM E i g d [] (.c (.bool (!b)))
  | .neg, .c (.int k n) => arithM E i g d k (0 - n)
  | .xor, .c (.int k n) => finM E i g d [] (.c (.int k (bitsI .xor k (if k.signed then -1 else k.max) n)))
  | _, _ => fail

def convM (E : Env) (i : Nat) (g : OG) (d : Nat) (src dst : TypeId) (x : Operand) : M Eff :=
  bind (opdM E g x) fun a => match E.P.underlying src, E.P.underlying dst, a with
  | some _, some (.int k), .c (.int _ n) => finM E i g d [] (.c (.int k (k.wrap n)))
  | some _, some .string, .c (.str s) => finM E i g d [] (.c (.str s))
  | _, _, _ => fail

def pickM (E : Env) (i : Nat) (g : OG) (d : Nat) (c x y : Operand) : M Eff :=
  match c with
  | .tmp t => bind (opdM E g c) fun vc => bind (boolM vc) fun b => bind (gdM 9 t true) fun g1 => bind (gdM 9 t false) fun g2 =>
      bind (opdM E (some g1) x) fun a => bind (opdM E (some g2) y) fun z => bind (boolM a) fun p => bind (boolM z) fun q =>
        finM E i g d [] (.c (.bool (cond b p q)))
  | _ => fail

def lenM (E : Env) (i : Nat) (g : OG) (d : Nat) (t : TypeId) (x : Operand) : M Eff :=
  bind (opdM E g x) fun a => match E.P.underlying t, a with
  | some .string, .c (.str s) => finM E i g d [] (.c (.int .i64 (s.length : Int)))
  | some (.slice _), .c (.sl _ n _) => finM E i g d [] (.c (.int .i64 (n : Int)))
  | some (.slice _), .c .nilsl => finM E i g d [] (.c (.int .i64 0))
  | some (.slice _), .c (.row _ _ _ n) => finM E i g d [] (.c (.int .i64 (n : Int)))
  | _, _ => fail

def extractM (E : Env) (i : Nat) (g : OG) (d : Nat) (x : Operand) (k : Nat) : M Eff :=
  match x with
  | .tmp t => bind (rd (.tm t)) fun
    | .tv (.tup l) => bind (opt (nth l k)) fun v => finM E i g d [] v
    | _ => fail
  | _ => fail

def nilChkM (E : Env) (i : Nat) (g : OG) (d : Nat) (x : Operand) : M Eff :=
  bind (opdM E g x) fun a => match a with
  | .c (.ptr id o) => finM E i g d [] (.c (.ptr id o))
  | .c (.dp m h) => finM E i g d [] (.c (.dp m h))
  | .c (.rp s id e o) => finM E i g d [] (.c (.rp s id e o))
  | .c (.clo f k sh c) => finM E i g d [] (.c (.clo f k sh c))
  | _ => fail

/-! aggregates -/
def spliceL : List Cell → Nat → List Cell → List Cell
  | l, _, [] => l
  | [], _, _ => []
  | _ :: r, 0, y :: ys => y :: spliceL r 0 ys
  | x :: r, n + 1, ys => x :: spliceL r n ys
def partsM (E : Env) (g : OG) (place : Nat → Option (Nat × Nat)) : List Cell → List (Nat × Operand) → M (List Cell)
  | l, [] => ret l
  | l, (i, x) :: r => bind (opdM E g x) fun v => bind (opt (place i)) fun p =>
      bind (guard (bAnd (Nat.beq (len v.cells) p.2) (Nat.ble (p.1 + p.2) (len l)))) fun _ => partsM E g place (spliceL l p.1 v.cells) r
def fieldPl (P : Program) (fs : List Field) (i : Nat) : Option (Nat × Nat) := match nth fs i with
  | some f => match tSize P f.type with
    | some s => some (f.offset, s)
    | none => none
  | none => none
def allSized (P : Program) : List Field → Bool
  | [] => true
  | f :: r => match tSize P f.type with
    | some _ => allSized P r
    | none => false
def buildM (E : Env) (i : Nat) (g : OG) (d : Nat) (t : TypeId) (ps : List (Nat × Operand)) : M Eff :=
  bind (opt (tZero E.P t)) fun z => match E.P.underlying t with
  | some (.struct fs) => bind (guard (allSized E.P fs.toList)) fun _ => bind (partsM E g (fieldPl E.P fs.toList) z ps) fun l => finM E i g d [] (.agg l)
  | some (.array _ el) => bind (opt (tSize E.P el)) fun sz => bind (partsM E g (fun i => some (i * sz, sz)) z ps) fun l => finM E i g d [] (.agg l)
  | _ => fail
def repL : Nat → List Cell → List Cell
  | 0, _ => []
  | n + 1, l => l ++ repL n l
def buildSlM (E : Env) (i nid : Nat) (g : OG) (d : Nat) (t : TypeId) (n : Nat) (ps : List (Nat × Operand)) : M Eff :=
  bind (pure1 g) fun _ => bind (opt (tElem E.P t)) fun el => bind (opt (tSize E.P el)) fun sz => bind (opt (tZero E.P el)) fun z =>
  bind (guard (bAnd (Nat.blt 0 sz) (bAnd (Nat.ble (n * sz) 16777216) (Nat.beq (len z) sz)))) fun _ =>
  bind (partsM E g (fun i => some (i * sz, sz)) (repL n z) ps) fun l =>
  ret ⟨[(.bk nid, .bk (.row el sz n (fun i j => nthD l (i * sz + j)))), (.tm d, .tv (.v (.c (.row sz nid 0 n))))], []⟩

def isConc (P : Program) (t : TypeId) : Bool := match P.underlying t with
  | some (.interface _) => false
  | some _ => true
  | none => false
def mkIfcM (E : Env) (i : Nat) (g : OG) (d : Nat) (t : TypeId) (x : Operand) : M Eff :=
  bind (opdM E g x) fun a => bind (guard (isConc E.P t)) fun _ => match a with
  | .c x => finM E i g d [] (.c (.ifc t none (fun _ => x)))
  | .agg l => finM E i g d [] (.c (.ifc t (some (len l)) (nthD l)))
def shOf : V1 → Option Nat
  | .c _ => none
  | .agg l => some (len l)
def opdsM (E : Env) (g : OG) : List Operand → M (List V1)
  | [] => ret []
  | x :: r => bind (opdM E g x) fun v => bind (opdsM E g r) fun l => ret (v :: l)
def mkFnM (E : Env) (i : Nat) (g : OG) (d : Nat) (fn : Fn) (first cap : List Operand) : M Eff :=
  match fn, first with
  | .func f, [] => bind (opdsM E g cap) fun l => finM E i g d [] (.c (.clo f (len l) (fun i => match nth l i with | some v => shOf v | none => none) (fun i j => match nth l i with | some v => nthD v.cells j | none => .nilif)))
  | _, _ => fail

def loI : Option Int → Int
  | none => 0
  | some n => n
def hiI (m : Nat) : Option Int → Int
  | none => (m : Int)
  | some n => n
def optIM (E : Env) (g : OG) : Option Operand → M (Option Int)
  | none => ret none
  | some o => bind (opdM E g o) fun v => bind (intM v) fun n => ret (some n.2)

def sliceM (E : Env) (i : Nat) (g : OG) (d : Nat) (t : TypeId) (x : Operand) (lo hi mx : Option Operand) : M Eff :=
  bind (opdM E g x) fun a => bind (optIM E g lo) fun l => bind (optIM E g hi) fun h =>
  match mx with
  | some _ => fail
  | none => match E.P.underlying t, a with
    | some .string, .c (.str s) =>
      finM E i g d [under g (0 ≤ loI l ∧ loI l ≤ hiI s.length h ∧ hiI s.length h ≤ (s.length : Int))] (.c (.str ((s.take (hiI s.length h).toNat).drop (loI l).toNat)))
    | some (.slice el), .c (.sl sz n f) => bind (opt (tSize E.P el)) fun z => bind (guard (Nat.beq z sz)) fun _ =>
      finM E i g d [under g (0 ≤ loI l ∧ loI l ≤ hiI n h ∧ hiI n h ≤ (n : Int))] (.c (.sl sz ((hiI n h).toNat - (loI l).toNat) (fun i j => f ((loI l).toNat + i) j)))
    | some (.slice el), .c (.row sz id off n) => bind (opt (tSize E.P el)) fun z => bind (guard (Nat.beq z sz)) fun _ =>
      finM E i g d [under g (0 ≤ loI l ∧ loI l ≤ hiI n h ∧ hiI n h ≤ (n : Int))] (.c (.row sz id (off + (loI l).toNat) ((hiI n h).toNat - (loI l).toNat)))
    | _, _ => fail

end Go.Sv
