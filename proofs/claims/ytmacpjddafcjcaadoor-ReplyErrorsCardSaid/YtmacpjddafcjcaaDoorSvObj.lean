/-
  Own layer 'SV': maps whose keys are strings, strings that are ranged over, the builder's own means.
-/
import Derived.Test.YtmacpjddafcjcaaDoorSvPub
import Derived.Lib.Builder
import Derived.Lib.UnsafeStr
set_option linter.all false
namespace Go.Sv
open M

/-! maps -/
def mget {α : Type} : List (List UInt8 × α) → List UInt8 → α → α
  | [], _, z => z
  | (k, v) :: r, s, z => if s == k then v else mget r s z
def mhas {α : Type} : List (List UInt8 × α) → List UInt8 → Bool
  | [], _ => false
  | (k, _) :: r, s => if s == k then true else mhas r s
def mset {α : Type} : List (List UInt8 × α) → List UInt8 → α → List (List UInt8 × α)
  | [], s, v => [(s, v)]
  | (k, w) :: r, s, v => if s == k then (s, v) :: r else (k, w) :: mset r s v
def mpos {α : Type} : List (List UInt8 × α) → List UInt8 → Nat → Option (Nat × α)
  | [], _, _ => none
  | (k, v) :: r, s, i => if s == k then some (i, v) else mpos r s (i + 1)

def isStrD : TypeDesc → Bool
  | .string => true
  | _ => false
def mapT (P : Program) (t : TypeId) : Option TypeId := match P.underlying t with
  | some (.map k e) => match tIs P isStrD k with
    | true => some e
    | false => none
  | _ => none

def tZeroV (P : Program) (t : TypeId) : Option V1 := match P.info? t with
  | some i => match i.zero with
    | some z => cstV z
    | none => none
  | none => none
def makeMapM (E : Env) (i nid : Nat) (g : OG) (d : Nat) (t : TypeId) (r : Option Operand) : M Eff :=
  match r with
  | none => bind (pure1 g) fun _ => ret ⟨[(.bk nid, .bk (.ob (.ms []))), (.tm d, .tv (.v (.c (.map nid))))], []⟩
  | some _ => fail
def strM : V1 → M (List UInt8)
  | .c (.str s) => ret s
  | _ => fail
def msM (id : Nat) : M (List (List UInt8 × V1)) := bind (rd (.bk id)) fun
  | .bk (.ob (.ms m)) => ret m
  | _ => fail
def asV (E : Env) (i : Nat) (v : V1) : V1 × List Prop := match look E.as i with
  | none => (v, [])
  | some v' => (v', [EqvI v v', EqvD v v'])
def getM (a : Cell) : M (List (List UInt8 × V1)) := match a with
  | .nilmap => ret []
  | .map id => msM id
  | _ => fail
def lookupM (E : Env) (i : Nat) (g : OG) (d : Nat) (t : TypeId) (x y : Operand) (ok : Bool) : M Eff :=
  bind (opdM E g x) fun v => bind (cellM v) fun a => bind (opdM E g y) fun v2 => bind (strM v2) fun s => bind (opt (mapT E.P t)) fun el =>
  bind (opt (tZeroV E.P el)) fun zv => bind (getM a) fun m =>
  match ok with
  | false => finM E i g d [] (mget m s zv)
  | true => bind (pure1 g) fun _ => ret ⟨[(.tm d, .tv (.tup [(asV E i (mget m s zv)).1, .c (.bool (mhas m s))]))], (asV E i (mget m s zv)).2⟩
def mapUpdM (E : Env) (i : Nat) (g : OG) (t : TypeId) (x y z : Operand) : M Eff :=
  bind (pure1 g) fun _ => bind (opdM E g x) fun v => bind (cellM v) fun a => bind (opdM E g y) fun v2 => bind (strM v2) fun s => bind (opdM E g z) fun u => bind (opt (mapT E.P t)) fun el =>
  match a with
  | .map id => bind (msM id) fun m => bind (guard (flats u.cells)) fun _ => ret ⟨[(.bk id, .bk (blkOf E i (.ob (.ms (mset m s u)))).1)], (blkOf E i (.ob (.ms (mset m s u)))).2⟩
  | _ => fail

/-! strings that are ranged over -/
def runeAt (s : List UInt8) (pos : Nat) : Int := (Utf8.decode ⟨s.toArray⟩ pos).1
def runeW (s : List UInt8) (pos : Nat) : Nat := (Utf8.decode ⟨s.toArray⟩ pos).2
def rangeM (E : Env) (nid : Nat) (g : OG) (d : Nat) (t : TypeId) (x : Operand) : M Eff :=
  bind (pure1 g) fun _ => bind (opdM E g x) fun v => bind (strM v) fun s => bind (guard (tIs E.P isStrD t)) fun _ =>
  ret ⟨[(.bk nid, .bk (.ob (.it s 0))), (.tm d, .tv (.v (.c (.ptr nid 0))))], []⟩
def nextM (E : Env) (i : Nat) (g : OG) (d : Nat) (x : Operand) (str : Bool) : M Eff :=
  bind (pure1 g) fun _ => bind (opdM E g x) fun v => bind (guard str) fun _ => match v with
  | .c (.ptr id 0) => bind (rd (.bk id)) fun kv => match kv with
    | .bk (.ob (.it s pos)) => match look E.grd i with
      | some true => ret ⟨[(.bk id, .bk (.ob (.it s (pos + runeW s pos)))), (.tm d, .tv (.tup [.c (.bool true), .c (.int .i64 pos), .c (.int .i32 (runeAt s pos))]))], [pos < s.length]⟩
      | some false => ret ⟨[(.tm d, .tv (.tup [.c (.bool false)]))], [s.length ≤ pos]⟩
      | none => fail
    | _ => fail
  | _ => fail

/-! a builder's own means -/
def byteOf : Cell → UInt8
  | .int _ n => UInt8.ofNat n.toNat
  | _ => 0
def byteL (f : Nat → Nat → Cell) (off n : Nat) : List UInt8 := (List.range n).map fun i => byteOf (f (off + i) 0)
def areBytes (f : Nat → Nat → Cell) (off n : Nat) : Prop := ∀ i, i < n → f (off + i) 0 = .int .u8 ((byteOf (f (off + i) 0)).toNat : Int)
def slDataM (E : Env) (i : Nat) (g : OG) (d : Nat) (x : Operand) : M Eff :=
  bind (opdM E g x) fun v => match v with
  | .c (.row sz id off n) => finM E i g d [under g (0 < n)] (.c (.rp sz id off 0))
  | .c .nilsl => finM E i g d [] (.c .nilptr)
  | _ => fail
def tPtr (P : Program) (t : TypeId) : Option TypeId := match P.underlying t with
  | some (.pointer e) => some e
  | _ => none
def unStrM (E : Env) (i : Nat) (g : OG) (d : Nat) (t : TypeId) (x y : Operand) : M Eff :=
  bind (pure1 g) fun _ => bind (opdM E g x) fun v => bind (opdM E g y) fun w => bind (intM w) fun n => match v with
  | .c (.rp sz id 0 0) => bind (rowM id) fun r => bind (opt (tPtr E.P t)) fun el =>
      bind (guard (bAnd (Nat.beq r.1 el) (bAnd (Nat.beq r.2.1 1) (bAnd (kEq n.1 .i64) (Nat.beq (E.P.cellsOf el) 1))))) fun _ =>
      ret ⟨[(.bk id, .gone), (.tm d, .tv (.v (asV E i (.c (.str (byteL r.2.2.2 0 n.2.toNat)))).1))],
        (0 < n.2) :: (n.2.toNat ≤ r.2.2.1) :: (n.2 ≤ 9223372036854775807) :: areBytes r.2.2.2 0 n.2.toNat :: (asV E i (.c (.str (byteL r.2.2.2 0 n.2.toNat)))).2⟩
  | .c .nilptr => ret ⟨[(.tm d, .tv (.v (.c (.str []))))], [n.2 = 0]⟩
  | _ => fail

section
variable {Γ : Ctx} {S W : Nat → Prop} {D : Dat} {ρ : Rho} {st : St} {a : Act} {w : World} {E : Env} {i d nid : Nat} {g : OG} {eff : Eff}

theorem p1_none {u : Unit} {L : Key → Option KV} (h : (pure1 g).Ev L u) : g = none := by
  cases g with
  | none => rfl
  | some gd => simp [pure1, ev_fail] at h
theorem exn {a : Act} : Exec none a := by intro gd e; cases e
theorem gdn {a : Act} : GdOk W none a := by intro gd e; cases e
theorem str_ev {v : V1} {s : List UInt8} {L : Key → Option KV} (h : (strM v).Ev L s) : v = .c (.str s) := by
  unfold strM at h
  split at h
  · simp only [ev_ret] at h; rw [h]
  · simp [ev_fail] at h
theorem ms_ev {id : Nat} {m : List (List UInt8 × V1)} (h : (msM id).Ev st.get m) : look st.hp id = some (.ob (.ms m)) := by
  simp only [msM, ev_bind, ev_rd] at h
  obtain ⟨kv, hk, hl⟩ := h
  obtain ⟨b, rfl, hb⟩ := get_bk hk
  split at hl
  · rename_i m' e
    simp only [KV.bk.injEq] at e
    simp only [ev_ret] at hl
    rw [hb, e, hl]
  · simp [ev_fail] at hl
theorem mapT_run {P : Program} {t el : TypeId} (h : mapT P t = some el) : ∃ k, P.underlying t = some (.map k el) ∧ P.underlying k = some .string := by
  unfold mapT at h
  split at h
  · rename_i k e hu
    split at h
    · rename_i ht
      simp only [Option.some.injEq] at h
      subst h
      obtain ⟨dd, h1, h2⟩ := tIs_run ht
      cases dd <;> simp [isStrD] at h2
      exact ⟨k, hu, h1⟩
    · cases h
  · cases h

theorem bytes_beq (a b : List UInt8) : ((⟨a.toArray⟩ : ByteArray) == ⟨b.toArray⟩) = (a == b) := by rw [beq_toListBytes, toList_mk, toList_mk]

def EsOk (D : Dat) (m : List (List UInt8 × V1)) (es : List MapEntry) (n : Nat) : Prop :=
  es.length = m.length ∧ ∀ (j : Nat) (k : List UInt8) (v : V1), m[j]? = some (k, v) → ∃ e, es[j]? = some e ∧ e.key = .string ⟨k.toArray⟩ ∧ FlatV D v e.val ∧ e.born = n + j
theorem EsOk.cons {D : Dat} {k : List UInt8} {v : V1} {m : List (List UInt8 × V1)} {es : List MapEntry} {n : Nat} (h : EsOk D ((k, v) :: m) es n) :
    ∃ e r, es = e :: r ∧ e.key = .string ⟨k.toArray⟩ ∧ FlatV D v e.val ∧ e.born = n ∧ EsOk D m r (n + 1) := by
  obtain ⟨hl, hx⟩ := h
  cases es with
  | nil => simp at hl
  | cons e r =>
    obtain ⟨e', h1, h2, h3, h4⟩ := hx 0 k v (by simp)
    simp only [List.getElem?_cons_zero, Option.some.injEq] at h1
    subst h1
    refine ⟨e, r, rfl, h2, h3, by simpa using h4, by simpa using hl, fun j k v hj => ?_⟩
    obtain ⟨e', h1, h2, h3, h4⟩ := hx (j + 1) k v (by simpa using hj)
    exact ⟨e', by simpa using h1, h2, h3, by omega⟩
theorem EsOk.mk {D : Dat} {k : List UInt8} {v : V1} {m : List (List UInt8 × V1)} {e : MapEntry} {r : List MapEntry} {n : Nat} (h1 : e.key = .string ⟨k.toArray⟩) (h2 : FlatV D v e.val) (h3 : e.born = n) (h : EsOk D m r (n + 1)) :
    EsOk D ((k, v) :: m) (e :: r) n := by
  refine ⟨by simp [h.1], fun j k' v' hj => ?_⟩
  cases j with
  | zero =>
    simp only [List.getElem?_cons_zero, Option.some.injEq, Prod.mk.injEq] at hj
    obtain ⟨rfl, rfl⟩ := hj
    exact ⟨e, by simp, h1, h2, by omega⟩
  | succ j =>
    obtain ⟨e', q1, q2, q3, q4⟩ := h.2 j k' v' (by simpa using hj)
    exact ⟨e', by simpa using q1, q2, q3, by omega⟩

theorem findNow_run {D : Dat} (s : List UInt8) : ∀ (m : List (List UInt8 × V1)) (es : List MapEntry) (n i : Nat), EsOk D m es n →
    (mpos m s i = none → Instr.findNow .string (.string ⟨s.toArray⟩) es i = some none) ∧
    (∀ j v, mpos m s i = some (j, v) → ∃ u, Instr.findNow .string (.string ⟨s.toArray⟩) es i = some (some (j, u)) ∧ FlatV D v u)
  | [], es, n, i, h => by
    have : es = [] := List.length_eq_zero_iff.1 h.1
    subst this
    simp [mpos, Instr.findNow]
  | (k, v) :: m, es, n, i, h => by
    obtain ⟨e, r, rfl, h1, h2, h3, h4⟩ := h.cons
    have ih := findNow_run s m r (n + 1) (i + 1) h4
    simp only [mpos, Instr.findNow, h1, Instr.sameNow, bytes_beq]
    cases hb : s == k with
    | true => simp; exact h2
    | false => simpa using ih
theorem mpos_get {α : Type} (s : List UInt8) (z : α) : ∀ (m : List (List UInt8 × α)) (i : Nat), (mpos m s i = none → mget m s z = z ∧ mhas m s = false) ∧ ∀ j v, mpos m s i = some (j, v) → mget m s z = v ∧ mhas m s = true
  | [], i => by simp [mpos, mget, mhas]
  | (k, v) :: m, i => by
    have ih := mpos_get s z m (i + 1)
    simp only [mpos, mget, mhas]
    cases hb : s == k with
    | true => simp
    | false => simpa using ih
theorem mset_none {D : Dat} (s : List UInt8) {v : V1} {u : Value} (hd : FlatV D v u) : ∀ (m : List (List UInt8 × V1)) (es : List MapEntry) (n i : Nat), EsOk D m es n → mpos m s i = none →
    EsOk D (mset m s v) (es ++ [{ key := .string ⟨s.toArray⟩, val := u, born := n + es.length }]) n
  | [], es, n, i, h, _ => by
    have : es = [] := List.length_eq_zero_iff.1 h.1
    subst this
    exact EsOk.mk rfl hd (by simp) ⟨by simp, fun j k v hj => by simp at hj⟩
  | (k, x) :: m, es, n, i, h, hp => by
    obtain ⟨e, r, rfl, h1, h2, h3, h4⟩ := h.cons
    simp only [mpos] at hp
    cases hb : s == k with
    | true => simp [hb] at hp
    | false =>
      simp only [hb, Bool.false_eq_true, if_false] at hp
      simp only [mset, hb, Bool.false_eq_true, if_false, List.cons_append, List.length_cons]
      have := mset_none s hd m r (n + 1) (i + 1) h4 hp
      refine EsOk.mk h1 h2 h3 ?_
      rw [show n + (r.length + 1) = n + 1 + r.length from by omega]
      exact this
theorem mset_some {D : Dat} (s : List UInt8) {v : V1} {u : Value} (hd : FlatV D v u) : ∀ (m : List (List UInt8 × V1)) (es : List MapEntry) (n i j : Nat) (x : V1), EsOk D m es n → mpos m s i = some (j, x) →
    i ≤ j ∧ (es[j - i]?).map (·.key) = some (.string ⟨s.toArray⟩) ∧ EsOk D (mset m s v) (es.modify (j - i) fun e => { e with key := .string ⟨s.toArray⟩, val := u }) n
  | [], es, n, i, j, x, h, hp => by simp [mpos] at hp
  | (k, y) :: m, es, n, i, j, x, h, hp => by
    obtain ⟨e, r, rfl, h1, h2, h3, h4⟩ := h.cons
    simp only [mpos] at hp
    cases hb : s == k with
    | true =>
      simp only [hb, if_true, Option.some.injEq, Prod.mk.injEq] at hp
      obtain ⟨rfl, rfl⟩ := hp
      have hk : s = k := by simpa using hb
      subst hk
      refine ⟨Nat.le_refl _, by simp [h1], ?_⟩
      simp only [mset, hb, if_true, Nat.sub_self, List.modify_cons]
      exact EsOk.mk rfl hd h3 h4
    | false =>
      simp only [hb, Bool.false_eq_true, if_false] at hp
      obtain ⟨q1, q2, q3⟩ := mset_some s hd m r (n + 1) (i + 1) j x h4 hp
      have e1 : j - i = (j - (i + 1)) + 1 := by omega
      refine ⟨by omega, by rw [e1]; simpa using q2, ?_⟩
      rw [e1]
      simp only [mset, hb, Bool.false_eq_true, if_false, List.modify_cons]
      exact EsOk.mk h1 h2 h3 q3

theorem es_of {D : Dat} {m : List (List UInt8 × V1)} {o : Obj} (h : ObDen D (.ms m) o) : ∃ es : Array MapEntry, o = .map es es.size ∧ EsOk D m es.toList 0 := by
  obtain ⟨es, e, h1, h2⟩ := h
  refine ⟨es, e, by simpa using h1, fun j k v hj => ?_⟩
  obtain ⟨x, q1, q2, q3, q4⟩ := h2 j k v hj
  exact ⟨x, by simpa using q1, q2, q3, by omega⟩
theorem of_es {D : Dat} {m : List (List UInt8 × V1)} {es : Array MapEntry} (h : EsOk D m es.toList 0) : ObDen D (.ms m) (.map es es.size) := by
  obtain ⟨h1, h2⟩ := h
  refine ⟨es, rfl, by simpa using h1, fun j k v hj => ?_⟩
  obtain ⟨x, q1, q2, q3, q4⟩ := h2 j k v hj
  exact ⟨x, by simpa using q1, q2, q3, by omega⟩

theorem findKey_run {P : Program} {k : TypeId} (hk : P.underlying k = some .string) {x : Value} {es : List MapEntry} {r : Option (Nat × Value)} (h : Instr.findNow .string x es 0 = some r) (w : World) : (Instr.findKey k x es).run P w = .ok r w := by
  simp only [Instr.findKey, Sem.run_bind, under_run hk, Result.andThen_ok, h, Sem.run_pure]
theorem checkKey_run {P : Program} {k : TypeId} (hk : P.underlying k = some .string) (em : Bool) (s : ByteArray) (w : World) : (Instr.checkKey em 10000 k (.string s)).run P w = .ok () w := by
  show (Instr.checkKey em (9999 + 1) k (.string s)).run P w = _
  generalize 9999 = n
  simp [Instr.checkKey, under_run hk]

theorem zeroV_run {P : Program} {t : TypeId} {v : V1} (h : tZeroV P t = some v) (D : Dat) (ρ : Rho) (w : World) : ∃ u, (zeroValue t).run P w = .ok u w ∧ DenV D ρ v u ∧ ∀ S, v.inS S := by
  unfold tZeroV at h
  split at h
  · rename_i i hi
    split at h
    · rename_i z hz
      exact ⟨z, by simp [zeroValue, typeInfo, hi, hz], cstV_den h D ρ, cstV_inS h⟩
    · cases h
  · cases h

theorem map_obj (h : Sat Γ S W D ρ st a w) {id : Nat} {m : List (List UInt8 × V1)} (hb : look st.hp id = some (.ob (.ms m))) : (ρ id).2 ≠ 0 ∧ ∃ es : Array MapEntry, w.heap[(ρ id).1]? = some (.map es es.size) ∧ EsOk D m es.toList 0 := by
  obtain ⟨h0, x, hx, hd⟩ := h.hp id _ hb
  obtain ⟨es, rfl, he⟩ := es_of hd
  exact ⟨h0, es, hx, he⟩
def notCells : Obj → Prop
  | .cells _ _ _ => False
  | _ => True
theorem getObj_run {P : Program} {w : World} {b : Nat} {o : Obj} (h : w.heap[b]? = some o) (hn : notCells o) : (getObj b).run P w = .ok o w := by
  cases o <;> first | exact hn.elim | simp [getObj, Sem.run, h]
theorem setObj_run {P : Program} {w : World} {b : Nat} {o o' : Obj} (h : w.heap[b]? = some o) (hn : notCells o) :
    (setObj b o').run P w = .ok () { w with heap := w.heap.setIfInBounds b o' } ∧ OneOff w { w with heap := w.heap.setIfInBounds b o' } b o' := by
  have hlt : b < w.heap.size := by
    rcases Nat.lt_or_ge b w.heap.size with h' | h'
    · exact h'
    · simp [Array.getElem?_eq_none h'] at h
  refine ⟨?_, ⟨?_, fun k hk => ?_, ?_, rfl, rfl, rfl⟩⟩
  · cases o <;> first | exact hn.elim | simp [setObj, Sem.run, h]
  · show (w.heap.setIfInBounds b o')[b]? = _
    rw [Array.getElem?_setIfInBounds, if_pos rfl, if_pos hlt]
  · show (w.heap.setIfInBounds b o')[k]? = _
    rw [Array.getElem?_setIfInBounds, if_neg (Ne.symm hk)]
  · simp

/-- A new block of another kind. -/
theorem Sat.newOb (h : Sat Γ S W D ρ st a w) (hf : Fresh S nid) {o : Ob} {x : Obj} (hd : ObDen D o x) :
    Sat Γ (sPlus S nid) W D (rhoSet ρ nid (w.heap.size, 1)) (st.set (.bk nid) (.bk (.ob o))) a { w with heap := w.heap.push x } := by
  have hrn : rhoSet ρ nid (w.heap.size, 1) nid = (w.heap.size, 1) := by simp [rhoSet]
  exact h.new hf (b := .ob o) ⟨by rw [hrn]; simp, x, by rw [hrn]; exact push_new _ _, hd⟩ trivial

theorem makeMap_ok (h : Sat Γ S W D ρ st a w) (hfr : Fresh S nid) (hd : d < Γ.N) (hnd : ¬ W d) {t : TypeId} {r : Option Operand}
    (hf : (makeMapM E i nid g d t r).Ev st.get eff) : g = none ∧ EffOk Γ S W st a w (some d) nid eff (Instr.makeMap t (r.map a.eval)) := by
  unfold makeMapM at hf
  split at hf
  · simp only [ev_bind, ev_ret] at hf
    obtain ⟨_, hg, rfl⟩ := hf
    refine ⟨p1_none hg, .map (some w.heap.size), { w with heap := w.heap.push (.map #[] 0) }, rfl, D, rhoSet ρ nid (w.heap.size, 1), ?_⟩
    refine (h.newOb hfr (o := .ms []) ⟨#[], rfl, rfl, fun j k v hj => by simp at hj⟩).put (W' := fun t => W t ∨ some d = some t) hd hnd (fun t ht => .inl ht) ?_ ?_
    · simp [DenT, DenV, Den, rhoSet]
    · exact .inr ⟨Nat.le_refl _, by omega⟩
  · simp [ev_fail] at hf

theorem mget_run {D : Dat} {m : List (List UInt8 × V1)} {es : List MapEntry} (he : EsOk D m es 0) {P : Program} {k : TypeId} (hk : P.underlying k = some .string) (s : List UInt8) {zv : V1} {zu : Value}
    (w : World) (hz : FlatV D zv zu) : ∃ r, (Instr.findKey k (.string ⟨s.toArray⟩) es).run P w = .ok r w ∧ ((r = none ∧ mhas m s = false ∧ FlatV D (mget m s zv) zu) ∨ ∃ j u, r = some (j, u) ∧ mhas m s = true ∧ FlatV D (mget m s zv) u) := by
  obtain ⟨f1, f2⟩ := findNow_run s m es 0 0 he
  obtain ⟨g1, g2⟩ := mpos_get s zv m 0
  cases hp : mpos m s 0 with
  | none =>
    obtain ⟨q1, q2⟩ := g1 hp
    exact ⟨_, findKey_run hk (f1 hp) w, .inl ⟨rfl, q2, by rw [q1]; exact hz⟩⟩
  | some r =>
    obtain ⟨j, v⟩ := r
    obtain ⟨q1, q2⟩ := g2 j v hp
    obtain ⟨u, hf, hd⟩ := f2 j v hp
    exact ⟨_, findKey_run hk hf w, .inr ⟨j, u, rfl, q2, by rw [q1]; exact hd⟩⟩

/-- What is found in a map. -/
theorem get_ok (h : Sat Γ S W D ρ st a w) {c : Cell} {m : List (List UInt8 × V1)} (hm : (getM c).Ev st.get m) {v : Value} (hv : Den D ρ c v) {t el : TypeId} (ht : mapT Γ.P t = some el) {s : List UInt8} {zv : V1} (hz : tZeroV Γ.P el = some zv) (ok : Bool) :
    ∃ u, FlatV D (mget m s zv) u ∧ (Instr.lookup t v (.string ⟨s.toArray⟩) ok).run Γ.P w = .ok (if ok then .tuple #[u, .bool (mhas m s)] else u) w := by
  obtain ⟨k, hu, hk⟩ := mapT_run ht
  have hzz : ∃ zu, (zeroValue el).run Γ.P w = .ok zu w ∧ FlatV D zv zu := by
    obtain ⟨zu, hzr, _, hin⟩ := zeroV_run hz D ρ w
    refine ⟨zu, hzr, fun ρ' => ?_, hin⟩
    obtain ⟨zu', hzr', hd', _⟩ := zeroV_run hz D ρ' w
    rw [hzr] at hzr'
    simp only [Result.ok.injEq] at hzr'
    rw [hzr'.1]; exact hd'
  obtain ⟨zu, hzr, hzd⟩ := hzz
  unfold getM at hm
  split at hm
  · simp only [ev_ret] at hm
    subst hm
    have hv : v = .map none := hv
    subst hv
    obtain ⟨r, hr, hc⟩ := mget_run (D := D) (m := []) (es := []) ⟨rfl, fun j k v hj => by simp at hj⟩ hk s w hzd
    rcases hc with ⟨rfl, h1, h2⟩ | ⟨j, u, rfl, h1, h2⟩
    · refine ⟨zu, h2, ?_⟩
      cases ok <;> simp [Instr.lookup, under_run hu, checkKey_run hk, hr, hzr, h1]
    · simp [mhas] at h1
  · rename_i id
    have hv : v = .map (some (ρ id).1) := hv
    subst hv
    obtain ⟨_, es, hb, he⟩ := map_obj h (ms_ev hm)
    obtain ⟨r, hr, hc⟩ := mget_run he hk s w hzd
    rcases hc with ⟨rfl, h1, h2⟩ | ⟨j, u, rfl, h1, h2⟩
    · refine ⟨zu, h2, ?_⟩
      cases ok <;> simp [Instr.lookup, under_run hu, checkKey_run hk, getObj_run hb trivial, hr, hzr, h1]
    · refine ⟨u, h2, ?_⟩
      cases ok <;> simp [Instr.lookup, under_run hu, checkKey_run hk, getObj_run hb trivial, hr, h1]
  · simp [ev_fail] at hm

theorem asV_ok {v : V1} (hvc : ∀ p ∈ (asV E i v).2, p) : EqvI v (asV E i v).1 ∧ EqvD v (asV E i v).1 := by
  unfold asV at hvc ⊢
  split at hvc
  · exact ⟨fun _ h => h, fun _ _ _ h => h⟩
  · exact ⟨hvc _ (by simp), hvc _ (by simp)⟩

theorem lookup_ok (hP : E.P = Γ.P) (hG : E.G = Γ.G) (h : Sat Γ S W D ρ st a w) (hg : GdOk W g a) (hd : d < Γ.N) (hnd : ¬ W d) {t : TypeId} {x y : Operand} {ok : Bool}
    (hf : (lookupM E i g d t x y ok).Ev st.get eff) (hvc : ∀ p ∈ eff.vc, p) : PureOk Γ S W D ρ st a w g d eff (Instr.lookup t (a.eval x) (a.eval y) ok) := by
  simp only [lookupM, ev_bind, ev_opt] at hf
  obtain ⟨v, hv, c, hc, v2, hv2, s, hs, el, hel, zv, hz, m, hm, hf⟩ := hf
  have hc := cell_ev hc
  subst hc
  have hs := str_ev hs
  subst hs
  rw [hP] at hel hz
  have q : Exec g a → ∃ u, FlatV D (mget m s zv) u ∧ (Instr.lookup t (a.eval x) (a.eval y) ok).run Γ.P w = .ok (if ok then .tuple #[u, .bool (mhas m s)] else u) w := by
    intro he
    have h1 : Den D ρ c (a.eval x) := opd_den hG h hg he hv
    have h2 : a.eval y = .string ⟨s.toArray⟩ := opd_den hG h hg he hv2
    rw [h2]
    exact get_ok h hm h1 hel hz ok
  have hin : (mget m s zv).inS S := by
    have hzi : zv.inS S := by
      obtain ⟨_, _, _, hzi⟩ := zeroV_run hz D ρ w
      exact hzi S
    have hmi : ∀ (m : List (List UInt8 × V1)) es n, EsOk D m es n → (mget m s zv).inS S := by
      intro m
      induction m with
      | nil => intro es n _; exact hzi
      | cons p r ih =>
        intro es n he
        obtain ⟨k, v⟩ := p
        obtain ⟨e, r', rfl, h1, h2, h3, h4⟩ := he.cons
        simp only [mget]
        split
        · exact h2.2 S
        · exact ih _ _ h4
    unfold getM at hm
    split at hm
    · simp only [ev_ret] at hm; subst hm; exact hzi
    · obtain ⟨_, es, _, he⟩ := map_obj h (ms_ev hm); exact hmi _ _ _ he
    · simp [ev_fail] at hm
  cases ok with
  | false =>
    refine fin_ok h hg hd hnd hf hvc hin (fun he hvs => ?_)
    obtain ⟨u, h1, h2⟩ := q he
    exact ⟨u, h2, h1.1 ρ⟩
  | true =>
    simp only [ev_bind, ev_ret] at hf
    obtain ⟨_, hg1, rfl⟩ := hf
    have hg0 := p1_none hg1
    subst hg0
    obtain ⟨e1, e2⟩ := asV_ok (E := E) (i := i) (v := mget m s zv) hvc
    refine ⟨fun he => ?_, fun he => (he exn).elim⟩
    obtain ⟨u, h1, h2⟩ := q he
    refine ⟨_, h2, h.put hd hnd (fun t ht => .inl ht) ?_ ?_⟩
    · refine ⟨#[u, .bool (mhas m s)], rfl, rfl, fun j x hj => ?_⟩
      match j, hj with
      | 0, hj => simp only [List.getElem?_cons_zero, Option.some.injEq] at hj; subst hj; exact ⟨u, by simp, e2 _ _ _ (h1.1 ρ)⟩
      | 1, hj => simp at hj; subst hj; exact ⟨.bool (mhas m s), by simp, rfl⟩
      | j + 2, hj => simp at hj
    · intro j x hj
      match j, hj with
      | 0, hj => simp only [List.getElem?_cons_zero, Option.some.injEq] at hj; subst hj; exact e1 _ hin
      | 1, hj => simp at hj; subst hj; trivial
      | j + 2, hj => simp at hj

theorem flats_inS {l : List Cell} (h : flats l = true) (S : Nat → Prop) : ∀ (j : Nat) (x : Cell), l[j]? = some x → x.inS S := fun j x hj => Cell.inS_flat (flats_get h hj)
theorem flatV_of {v : V1} {u : Value} (hf : flats v.cells = true) (hd : DenV D ρ v u) : FlatV D v u := by
  cases v with
  | c x =>
    have hx : x.flat = true := flats_get (l := [x]) hf (j := 0) (by simp)
    exact ⟨fun ρ' => Den.flat hx hd, fun S => Cell.inS_flat hx⟩
  | agg l =>
    obtain ⟨us, e, hs, hx⟩ := hd
    exact ⟨fun ρ' => ⟨us, e, hs, fun j x hj => let ⟨u, hu, hd⟩ := hx j x hj; ⟨u, hu, Den.flat (flats_get hf hj) hd⟩⟩, fun S => flats_inS hf S⟩

theorem sameBits_str (s : ByteArray) : Instr.sameBits 10000 (.string s) (.string s) = true := by
  show Instr.sameBits (9999 + 1) (.string s) (.string s) = true
  generalize 9999 = n
  simp only [Instr.sameBits]
  rw [beq_toListBytes]
  simp

theorem mapUpd_ok (hP : E.P = Γ.P) (hG : E.G = Γ.G) (h : Sat Γ S W D ρ st a w) {t : TypeId} {x y z : Operand}
    (hf : (mapUpdM E i g t x y z).Ev st.get eff) (hvc : ∀ p ∈ eff.vc, p) :
    g = none ∧ ∃ w', (Instr.mapUpdate t (a.eval x) (a.eval y) (a.eval z)).run Γ.P w = .ok () w' ∧ Sat Γ S W D ρ (st.sets eff.wr) a w' := by
  simp only [mapUpdM, ev_bind, ev_opt] at hf
  obtain ⟨_, hg1, v, hv, c, hc, v2, hv2, s, hs, vz, hvz, el, hel, hf⟩ := hf
  have hg0 := p1_none hg1
  subst hg0
  refine ⟨rfl, ?_⟩
  have hc := cell_ev hc
  subst hc
  have hs := str_ev hs
  subst hs
  rw [hP] at hel
  obtain ⟨k, hu, hk⟩ := mapT_run hel
  split at hf
  · rename_i id
    simp only [ev_bind, ev_guard, ev_ret] at hf
    obtain ⟨m, hm, _, hfl, rfl⟩ := hf
    have h1 : a.eval x = .map (some (ρ id).1) := opd_den hG h gdn exn hv
    have h2 : a.eval y = .string ⟨s.toArray⟩ := opd_den hG h gdn exn hv2
    have h3 := flatV_of hfl (opd_den hG h gdn exn hvz)
    have hbk := ms_ev hm
    obtain ⟨h0, es, hb, he⟩ := map_obj h hbk
    obtain ⟨k1, k2⟩ := blkOf_sat hvc
    obtain ⟨f1, f2⟩ := findNow_run s m es.toList 0 0 he
    have fin : ∀ (o : Obj), ObDen D (.ms (mset m s vz)) o → Sat Γ S W D ρ (st.sets [(.bk id, .bk (blkOf E i (.ob (.ms (mset m s vz)))).1)]) a { w with heap := w.heap.setIfInBounds (ρ id).1 o } := by
      intro o ho
      have hone := (setObj_run (P := Γ.P) hb trivial (o' := o)).2
      refine h.upd hbk h0 hone (k1 _ _ _ _ ⟨h0, o, hone.at_, ho⟩) (k2 S trivial)
    rw [h1, h2]
    cases hp : mpos m s 0 with
    | none =>
      refine ⟨_, ?_, fin _ (of_es (es := es.push { key := .string ⟨s.toArray⟩, val := a.eval z, born := es.size }) ?_)⟩
      · simp only [Instr.mapUpdate, Sem.run_bind, under_run hu, Result.andThen_ok, getObj_run hb trivial, checkKey_run hk, findKey_run hk (f1 hp)]
        rw [(setObj_run (P := Γ.P) hb trivial).1]
        simp
      · have := mset_none s h3 m es.toList 0 0 he hp
        simpa using this
    | some r =>
      obtain ⟨j, v0⟩ := r
      obtain ⟨u0, hfn, _⟩ := f2 j v0 hp
      obtain ⟨q1, q2, q3⟩ := mset_some s h3 m es.toList 0 0 j v0 he hp
      rw [Nat.sub_zero] at q2 q3
      have q2' : (es[j]?).map (·.key) = some (.string ⟨s.toArray⟩) := by simpa using q2
      refine ⟨_, ?_, fin _ (of_es (es := es.modify j fun e => { e with key := .string ⟨s.toArray⟩, val := a.eval z }) ?_)⟩
      · simp only [Instr.mapUpdate, Sem.run_bind, under_run hu, Result.andThen_ok, getObj_run hb trivial, checkKey_run hk, findKey_run hk hfn, q2', Option.getD_some, Instr.keyThatStays, sameBits_str, if_true, Sem.run_pure]
        rw [(setObj_run (P := Γ.P) hb trivial).1]
        simp
      · simpa using q3
  · simp [ev_fail] at hf

theorem range_ok (hP : E.P = Γ.P) (hG : E.G = Γ.G) (h : Sat Γ S W D ρ st a w) (hfr : Fresh S nid) (hd : d < Γ.N) (hnd : ¬ W d) {t : TypeId} {x : Operand}
    (hf : (rangeM E nid g d t x).Ev st.get eff) : g = none ∧ EffOk Γ S W st a w (some d) nid eff (Instr.range t (a.eval x)) := by
  simp only [rangeM, ev_bind, ev_guard, ev_ret] at hf
  obtain ⟨_, hg1, v, hv, s, hs, _, ht, rfl⟩ := hf
  have hg0 := p1_none hg1
  subst hg0
  have hs := str_ev hs
  subst hs
  rw [hP] at ht
  obtain ⟨dd, h1, h2⟩ := tIs_run ht
  have hu : Γ.P.underlying t = some .string := by cases dd <;> simp [isStrD] at h2; exact h1
  have hx : a.eval x = .string ⟨s.toArray⟩ := opd_den hG h gdn exn hv
  refine ⟨rfl, .pointer (some ⟨w.heap.size, 0, none⟩), { w with heap := w.heap.push (.stringIter ⟨s.toArray⟩ 0) }, ?_, D, rhoSet ρ nid (w.heap.size, 1), ?_⟩
  · rw [hx]
    simp only [Instr.range, Sem.run_bind, under_run hu, Result.andThen_ok, Sem.run_pure]
    rfl
  · refine (h.newOb hfr (o := .it s 0) rfl).put (W' := fun t => W t ∨ some d = some t) hd hnd (fun t ht => .inl ht) ?_ ?_
    · simp [DenT, DenV, Den, rhoSet]
    · exact .inr ⟨Nat.le_refl _, by omega⟩

theorem next_ok (hP : E.P = Γ.P) (hG : E.G = Γ.G) (h : Sat Γ S W D ρ st a w) (hd : d < Γ.N) (hnd : ¬ W d) {x : Operand} {str : Bool} {ty : TypeId}
    (hf : (nextM E i g d x str).Ev st.get eff) (hvc : ∀ p ∈ eff.vc, p) : g = none ∧ EffOk Γ S W st a w (some d) nid eff (Instr.next (a.eval x) str ty) := by
  simp only [nextM, ev_bind, ev_guard] at hf
  obtain ⟨_, hg1, v, hv, _, hstr, hf⟩ := hf
  have hg0 := p1_none hg1
  subst hg0
  subst hstr
  refine ⟨rfl, ?_⟩
  split at hf
  · rename_i id
    have hx : a.eval x = .pointer (some ⟨(ρ id).1, 0, none⟩) := opd_den hG h gdn exn hv
    simp only [ev_bind, ev_rd] at hf
    obtain ⟨kv, hk, hf⟩ := hf
    split at hf
    · rename_i s pos
      obtain ⟨b, e, hb⟩ := get_bk hk
      simp only [KV.bk.injEq] at e
      subst e
      obtain ⟨h0, o, hbo, ho⟩ := h.hp id _ hb
      have ho : o = .stringIter ⟨s.toArray⟩ pos := ho
      subst ho
      have hsz : (⟨s.toArray⟩ : ByteArray).size = s.length := size_mk s
      split at hf
      · simp only [ev_ret] at hf
        subst hf
        have hlt : pos < s.length := hvc _ (by simp)
        have hone := (setObj_run (P := Γ.P) hbo trivial (o' := .stringIter ⟨s.toArray⟩ (pos + runeW s pos)))
        have hs := h.upd hb h0 hone.2 (b' := .ob (.it s (pos + runeW s pos))) ⟨h0, _, hone.2.at_, rfl⟩ trivial
        have hp := (hs.mono (S' := sPlus S nid) (W' := W) (fun _ h => .inl h) (fun _ h => h)).put (W' := fun t => W t ∨ some d = some t) hd hnd (fun t ht => .inl ht) (u := .tuple #[.bool true, .int .i64 pos, .int .i32 (runeAt s pos)])
          (v := .tup [.c (.bool true), .c (.int .i64 pos), .c (.int .i32 (runeAt s pos))]) ⟨_, rfl, rfl, fun j x hj => by
            match j, hj with
            | 0, hj => simp at hj; subst hj; exact ⟨_, rfl, rfl⟩
            | 1, hj => simp at hj; subst hj; exact ⟨_, rfl, rfl⟩
            | 2, hj => simp at hj; subst hj; exact ⟨_, rfl, rfl⟩
            | j + 3, hj => simp at hj⟩ (fun j x hj => by
            match j, hj with
            | 0, hj => simp at hj; subst hj; trivial
            | 1, hj => simp at hj; subst hj; trivial
            | 2, hj => simp at hj; subst hj; trivial
            | j + 3, hj => simp at hj)
        refine ⟨_, _, ?_, D, ρ, hp⟩
        rw [hx]
        simp only [Instr.next, Sem.run_bind, getObj_run hbo trivial, Result.andThen_ok, hsz, hlt, if_true]
        have h1 := hone.1
        simp only [runeW] at h1
        rw [h1]
        rfl
      · simp only [ev_ret] at hf
        subst hf
        have hge : s.length ≤ pos := hvc _ (by simp)
        refine ⟨.tuple #[.bool false], w, ?_, D, ρ, ?_⟩
        · rw [hx]
          simp only [Instr.next, Sem.run_bind, getObj_run hbo trivial, Result.andThen_ok, hsz, if_neg (show ¬ pos < s.length by omega), Sem.run_pure]
        · refine (h.mono (S' := sPlus S nid) (W' := W) (fun _ h => .inl h) (fun _ h => h)).put (W' := fun t => W t ∨ some d = some t) hd hnd (fun t ht => .inl ht) (v := .tup [.c (.bool false)]) ⟨_, rfl, rfl, fun j x hj => ?_⟩ (fun j x hj => ?_)
          · match j, hj with
            | 0, hj => simp at hj; subst hj; exact ⟨_, rfl, rfl⟩
            | j + 1, hj => simp at hj
          · match j, hj with
            | 0, hj => simp at hj; subst hj; trivial
            | j + 1, hj => simp at hj
      · simp [ev_fail] at hf
    · simp [ev_fail] at hf
  · simp [ev_fail] at hf

/-! the builder's own means -/
theorem slData_ok (hG : E.G = Γ.G) (h : Sat Γ S W D ρ st a w) (hg : GdOk W g a) (hd : d < Γ.N) (hnd : ¬ W d) {ts : Array TypeId} {ty : TypeId} {x : Operand}
    (hf : (slDataM E i g d x).Ev st.get eff) (hvc : ∀ p ∈ eff.vc, p) : PureOk Γ S W D ρ st a w g d eff (Builtin.unsafeSliceData_ ts ty #[a.eval x]) := by
  simp only [slDataM, ev_bind] at hf
  obtain ⟨v, hv, hf⟩ := hf
  have hx := fun he => opd_den hG h hg he hv
  have hin := opd_inS hG h hv
  split at hf
  · rename_i sz id off n
    refine fin_ok h hg hd hnd hf hvc hin (fun he hvs => ?_)
    have hn : 0 < n := under_exec (hvs _ (by simp)) hg he
    rcases (hx he : Den D ρ (.row sz id off n) (a.eval x)) with ⟨o, e, h1, h2⟩ | ⟨_, _, hz, _⟩
    · have ho : o = off * sz := h2.resolve_right (by omega)
      subst ho
      rw [e]
      exact ⟨_, Lib.run_unsafeSliceData_row w ts ty _ _ _ (by omega), by simp [DenV, Den]⟩
    · omega
  · refine fin_ok h hg hd hnd hf hvc trivial (fun he hvs => ?_)
    have e : a.eval x = .slice none 0 0 := hx he
    rw [e]
    exact ⟨_, Lib.run_unsafeSliceData_nil w ts ty _ _, rfl⟩
  · simp [ev_fail] at hf

theorem freeze_off {w : World} {b : Nat} {arr : Array Value} {e : TypeId} {fz : Nat × Nat} (h : w.heap[b]? = some (.cells arr e fz)) {n : Nat} (hn : n ≠ 0) : ∃ o, OneOff w (w.freeze ⟨b, 0, none⟩ n) b o := by
  have hlt : b < (w.freeze ⟨b, 0, none⟩ n).heap.size := by
    unfold World.freeze
    rw [if_neg hn]
    rcases Nat.lt_or_ge b w.heap.size with h' | h'
    · simpa using h'
    · simp [Array.getElem?_eq_none h'] at h
  refine ⟨(w.freeze ⟨b, 0, none⟩ n).heap[b], ⟨by simp [hlt], fun k hk => ?_, ?_, ?_, ?_, ?_⟩⟩
  all_goals (unfold World.freeze; rw [if_neg hn])
  · simp only [Array.getElem?_modify]; rw [if_neg (by simpa using Ne.symm hk)]
  · simp

/-- One block of the state's own is turned, and not the state's any more. -/
theorem Sat.updGone {Γ : Ctx} {S W : Nat → Prop} {D : Dat} {ρ : Rho} {st : St} {a : Act} {w w' : World} (h : Sat Γ S W D ρ st a w) {id : Nat} {b : Blk} {o : Obj} (hb : look st.hp id = some b) (hlv : Live ρ id b)
    (hw : OneOff w w' (ρ id).1 o) : Sat Γ S W D ρ (st.set (.bk id) .gone) a w' := by
  have key : ∀ i c, look (st.set (.bk id) .gone).hp i = some c → id ≠ i ∧ look st.hp i = some c := by
    intro i c hc
    have e : look (st.set (.bk id) .gone).hp i = if id = i then none else look st.hp i := look_del _ _ _
    rw [e] at hc
    split at hc
    · cases hc
    · exact ⟨by assumption, hc⟩
  refine { h with tm := h.tm, hp := ?_, inj := ?_, agree := ?_, sep := ?_, own := ?_, frame := ?_, os := hw.os.trans h.os, tape := hw.tape.trans h.tape, output := hw.output.trans h.output, grow := by rw [hw.size]; exact h.grow, idT := h.idT, idH := ?_ }
  · intro i c hc
    obtain ⟨hne, hc⟩ := key i c hc
    by_cases lc : Live ρ i c
    · exact (h.hp i c hc).world (hw.other _ (fun e' => hne (h.inj id i b c hb hc hlv lc e'.symm)))
    · exact (h.hp i c hc).dead lc
  · intro i j bi bj hi hj li lj hij
    exact h.inj i j bi bj (key i bi hi).2 (key j bj hj).2 li lj hij
  · intro b' o' v hv
    have hne : b' ≠ (ρ id).1 := by
      rintro rfl
      rw [h.sep id b hb hlv o'] at hv
      cases hv
    rw [cell_block (hw.other b' hne)]
    exact h.agree b' o' v hv
  · intro i c hc lc
    exact h.sep i c (key i c hc).2 lc
  · intro i c hc lc
    exact h.own i c (key i c hc).2 lc
  · intro b' hlt hk
    have hne : b' ≠ (ρ id).1 := by
      rintro rfl
      rcases h.own id b hb hlv with h1 | ⟨i, hi, e⟩
      · omega
      · exact hk i hi e.1 e.2
    rw [hw.other b' hne]
    exact h.frame b' hlt hk
  · intro i c hc
    exact h.idH i c (key i c hc).2

theorem unStr_ok (hP : E.P = Γ.P) (hG : E.G = Γ.G) (h : Sat Γ S W D ρ st a w) (hd : d < Γ.N) (hnd : ¬ W d) {t it ty : TypeId} {x y : Operand}
    (hf : (unStrM E i g d t x y).Ev st.get eff) (hvc : ∀ p ∈ eff.vc, p) : g = none ∧ EffOk Γ S W st a w (some d) nid eff (Builtin.unsafeString_ #[t, it] ty #[a.eval x, a.eval y]) := by
  simp only [unStrM, ev_bind] at hf
  obtain ⟨_, hg1, v, hv, v2, hv2, n, hn, hf⟩ := hf
  have hg0 := p1_none hg1
  subst hg0
  have hn := int_ev hn
  subst hn
  refine ⟨rfl, ?_⟩
  have hy : a.eval y = .int n.1 n.2 := opd_den hG h gdn exn hv2
  split at hf
  · rename_i sz id
    simp only [ev_bind, ev_opt, ev_guard, ev_ret] at hf
    obtain ⟨r, hr, el, hel, _, hgd, rfl⟩ := hf
    obtain ⟨g1, hgd⟩ := bAnd_eq hgd
    obtain ⟨g2, hgd⟩ := bAnd_eq hgd
    obtain ⟨g3, g4⟩ := bAnd_eq hgd
    have g1 := (beq_eq _ _).1 g1
    have g2 := (beq_eq _ _).1 g2
    have g3 := kEq_eq g3
    have g4 := (beq_eq _ _).1 g4
    have hrow := row_ev hr
    obtain ⟨re, rs, rn, rf⟩ := r
    simp only at g1 g2 hrow hvc
    subst g1 g2
    have v1 : 0 < n.2 := hvc _ (by simp)
    have v2 : n.2.toNat ≤ rn := hvc _ (by simp)
    have v3 : n.2 ≤ 9223372036854775807 := hvc _ (by simp)
    have v4 : areBytes rf 0 n.2.toNat := hvc _ (by simp)
    obtain ⟨e1, e2⟩ := asV_ok (E := E) (i := i) (v := .c (.str (byteL rf 0 n.2.toNat))) (fun p hp => hvc p (by simp [hp]))
    rw [hP] at hel g4
    have hpt : Γ.P.underlying t = some (.pointer re) := by
      unfold tPtr at hel
      split at hel
      · rename_i e hh; simp only [Option.some.injEq] at hel; subst hel; exact hh
      · cases hel
    have hx : a.eval x = .pointer (some ⟨(ρ id).1, 0 * sz + 0, none⟩) := opd_den hG h gdn exn hv
    have hx : a.eval x = .pointer (some ⟨(ρ id).1, 0, none⟩) := by simpa using hx
    rcases h.hp id _ hrow with hb | ⟨vs, fz, q1, q2, q3, q4, q5, q6, q7, q8⟩
    · omega
    have hln : (byteL rf 0 n.2.toNat).length = n.2.toNat := by simp [byteL]
    have hnn : ((byteL rf 0 n.2.toNat).length : Int) = n.2 := by rw [hln]; omega
    have hrun := Lib.run_unsafeString_row (P := Γ.P) w t it ty re hpt g4 (ρ id).1 vs.size (by simp [World.shape?, q1]) (byteL rf 0 n.2.toNat) (by intro e; rw [e] at hln; simp at hln; omega) (by rw [hln, q2]; omega) (by rw [hln]; omega) (by
      intro j x hj
      have hjl : j < n.2.toNat := by
        rw [← hln]
        rcases Nat.lt_or_ge j (byteL rf 0 n.2.toNat).length with h | h
        · exact h
        · simp [List.getElem?_eq_none h] at hj
      obtain ⟨u, hu, hdn⟩ := q8 j (by omega) 0 (by omega)
      have hc := v4 j hjl
      rw [Nat.zero_add] at hc
      rw [hc] at hdn
      have hdn : u = .int .u8 _ := hdn
      simp only [byteL, List.getElem?_map, List.getElem?_range hjl, Option.map_some, Option.some.injEq, Nat.zero_add] at hj
      subst hj
      rw [show ((⟨(ρ id).1, 0, none⟩ : Addr).add j) = ⟨(ρ id).1, 0 + j, none⟩ from addr_add _ _ _]
      have hu' : vs[j]? = some u := by simpa using hu
      rw [show (⟨(ρ id).1, 0 + j, none⟩ : Addr) = ⟨(ρ id).1, j, none⟩ from by simp]
      simp only [World.cell?, q1, Option.isSome_none, Bool.false_eq_true, if_false]
      rw [hu', hdn])
    rw [hnn] at hrun
    have hl0 : (byteL rf 0 n.2.toNat).length ≠ 0 := by rw [hln]; omega
    obtain ⟨o, hone⟩ := freeze_off q1 hl0
    have hlv : Live ρ id (.row re 1 rn rf) := by show (ρ id).2 ≠ 0; omega
    refine ⟨.string ⟨(byteL rf 0 n.2.toNat).toArray⟩, w.freeze ⟨(ρ id).1, 0, none⟩ (byteL rf 0 n.2.toNat).length, ?_, D, ρ, ?_⟩
    · rw [hx, hy, g3]; exact hrun
    · have hs := h.updGone hrow hlv hone
      exact (hs.mono (S' := sPlus S nid) (W' := W) (fun _ h => .inl h) (fun _ h => h)).put (W' := fun t => W t ∨ some d = some t) hd hnd (fun t ht => .inl ht) (v := .v _) (e2 _ _ _ rfl) (e1 _ trivial)
  · simp only [ev_ret] at hf
    subst hf
    have hn0 : n.2 = 0 := hvc _ (by simp)
    have hx : a.eval x = .pointer none := opd_den hG h gdn exn hv
    refine ⟨.string ⟨#[]⟩, w, ?_, D, ρ, ?_⟩
    · rw [hx, hy, hn0]
      rfl
    · exact (h.mono (S' := sPlus S nid) (W' := W) (fun _ h => .inl h) (fun _ h => h)).put (W' := fun t => W t ∨ some d = some t) hd hnd (fun t ht => .inl ht) (v := .v (.c (.str []))) rfl trivial
  · simp [ev_fail] at hf

end
end Go.Sv
