/- Own texts for this claim: Lib, Pri, Ref6, R12, Q12, P12, Rep, Tape, Bas, Q10, Uri, Sgn, Ck0, Ck1, Spl, Ck2, Ck3, Ck4, Nums, Ck5, Ck6, Ck7, Ck8. -/
import Derived.Test.YtpiglhfboigfkaaDoorCookieSetCardP3
import Derived.Test.YtpiglhfboigfkaaDoorCookieSetCardP4
import Derived.Lib.SplitLaws
set_option linter.all false

section
open Go Go.Sv Go.RowKit
namespace Go.Proofs

theorem lib_Join {G : Nat → Option (List Cell)} (xs : List (List UInt8)) (sep : List UInt8) (hN : xs.length ≤ 140737488355328) (hlen : (Lib.join xs sep).length ≤ 140737488355328) :
    Pur Tryd.prog G 30 [.c (.sl 1 xs.length (fun i j => nthD [.str (xs.getD i [])] j)), .c (.str sep)] [.c (.str (Lib.join xs sep))] := by
  refine Pur.of_below rfl ?_
  intro D ρ w vs h1 _ _ ha
  obtain ⟨u, v, rfl, hu, hv⟩ := h1.two
  have hv : v = .string ⟨sep.toArray⟩ := hv
  subst hv
  have hu : ∃ a cap, u = .slice a xs.length cap ∧ xs.length ≤ cap ∧ cap ≤ maxLen ∧ ((a = none ∧ cap = 0) ∨ ∃ b o, a = some ⟨b, o, none⟩ ∧ ∀ i, i < xs.length → ∀ j, j < 1 → ∃ u, D b (o + i * 1 + j) = some u ∧ Den D rho0 (nthD [.str (xs.getD i [])] j) u) := hu
  obtain ⟨a, cap, rfl, h2, h3, h4⟩ := hu
  by_cases h0 : xs = []
  · subst h0
    refine (Tryd.strings_Join_none a cap _ w).mono ?_
    rintro e w' ⟨rfl, rfl⟩
    exact ⟨_, rfl, rfl, Below.refl _ _⟩
  · have hpos : 0 < xs.length := List.length_pos_iff.2 h0
    rcases h4 with ⟨rfl, rfl⟩ | ⟨b, o, rfl, h4⟩
    · omega
    · have hcells : ∀ (j : Nat) x, (xs.map fun l => (⟨l.toArray⟩ : ByteArray))[j]? = some x → w.cell? ⟨b, o + j, none⟩ = some (.string x) := by
        intro j x hx
        rw [List.getElem?_map, Option.map_eq_some_iff] at hx
        obtain ⟨l, hl, rfl⟩ := hx
        have hj : j < xs.length := by
          rcases Nat.lt_or_ge j xs.length with h | h
          · exact h
          · rw [List.getElem?_eq_none h] at hl; cases hl
        obtain ⟨u, hu, hd⟩ := h4 j hj 0 (by omega)
        have hd : u = .string ⟨(xs.getD j []).toArray⟩ := hd
        subst hd
        have := ha _ _ _ hu
        rw [Nat.mul_one, Nat.add_zero] at this
        rw [this, List.getD_eq_getElem?_getD, hl]
        rfl
      have hmm : (xs.map fun l => (⟨l.toArray⟩ : ByteArray)).map (·.data.toList) = xs := by
        rw [List.map_map]
        conv => rhs; rw [← List.map_id xs]
        exact List.map_congr_left (fun l _ => by simp)
      have hb : b < w.heap.size := by
        obtain ⟨u, hu, _⟩ := h4 0 hpos 0 (by omega)
        exact heap_of_cell (ha _ _ _ hu)
      have := Tryd.strings_Join b o cap (xs.map fun l => (⟨l.toArray⟩ : ByteArray)) ⟨sep.toArray⟩ w hcells hb (by simpa using hN) (by simpa using h2) (by rw [hmm]; exact hlen)
      rw [hmm, List.length_map] at this
      refine this.mono ?_
      rintro e w' ⟨rfl, hbl⟩
      exact ⟨_, rfl, rfl, hbl⟩

/-- A listed table of integers, as the shelf speaks of it. -/
theorem tabIs {P : Program} {G : Nat → Option (List Cell)} {D : Dat} {w : World} {g : Nat} {name : String} {k : IntKind} {zs : List Int} (hg : P.globalNamed name = some g) (hG : G g = some (zs.map fun z => .int k z)) (hne : zs ≠ [])
    (h1 : GlobOk G D) (h2 : GlobW G w) (h3 : Agree D w) : Lib.TabIs P w name k zs := by
  obtain ⟨arr, e, fz, q1, q2⟩ := h2 g _ hG (by simpa using hne)
  unfold Lib.TabIs World.var?
  rw [hg]
  simp only [Option.bind_some, q1, Option.some.injEq]
  apply Array.ext_getElem?
  intro j
  rw [List.length_map] at q2
  rcases Nat.lt_or_ge j zs.length with hj | hj
  · obtain ⟨u, hu, hd⟩ := h1 g _ hG j (.int k zs[j]) (by simp [hj])
    have hd : u = .int k zs[j] := hd
    subst hd
    have := h3 _ _ _ hu
    simp only [World.cell?, q1, Option.isSome_none, Bool.false_eq_true, if_false] at this
    rw [this]
    simp [hj]
  · rw [Array.getElem?_eq_none (by omega), Array.getElem?_eq_none (by simpa using hj)]

theorem below_grow (w : World) (k : Nat) (os : Array Obj) : Below w.heap.size w (Go.Sort.grow (w.drewN k) os) := by
  refine ⟨rfl, rfl, rfl, ?_, ?_⟩
  · simp [Go.Sort.grow]
  · intro b hb
    simp [Go.Sort.grow, Array.getElem?_append, hb]

theorem lib_Itoa {G : Nat → Option (List Cell)} (gp : Nat) (hg : Tryd.prog.globalNamed "internal/strconv.uint64pow10" = some gp) (hG : G gp = some (Lib.pow10Tab.map fun z => .int .u64 z)) (n : Int) (h0 : -9223372036854775808 ≤ n) (h1 : n ≤ 9223372036854775807) :
    Pur Tryd.prog G 37 [.c (.int .i64 n)] [.c (.str (Lib.itoa n))] := by
  refine Pur.of_below rfl ?_
  intro D ρ w vs hv k1 k2 k3
  obtain ⟨u, rfl, hu⟩ := hv.one
  have hu : u = .int .i64 n := hu
  subst hu
  refine (Tryd.strconv_Itoa n h0 h1 w (tabIs hg hG (by decide) k1 k2 k3)).mono ?_
  rintro e w' ⟨rfl, k, os, rfl⟩
  exact ⟨_, rfl, rfl, below_grow w k os⟩
end Go.Proofs
end

section
open Go Go.Sv
namespace Go.Proofs.Tw
attribute [local irreducible] Wp FinQ resV Ent Pur Go.Sv.Fn Sat0
set_option maxRecDepth 100000
variable {G : Nat → Option (List Cell)}

mutual
def printJ : JV → List UInt8
  | .mk k b n s ns ks => if k == 1 then [110, 117, 108, 108] else if k == 2 then Lib.formatBool b else if k == 3 then Lib.itoa n else if k == 4 then quotedT s else
    if k == 6 then (123 :: Lib.join (partsJ k ns ks) [44]) ++ [125] else (91 :: Lib.join (partsJ k ns ks) [44]) ++ [93]
def partsJ : Int → List (List UInt8) → List JV → List (List UInt8)
  | _, _, [] => []
  | k, ns, x :: r => (if k == 6 then quotedT (ns.headD []) ++ [58] ++ printJ x else printJ x) :: partsJ k ns.tail r
end
def partAt (v : JV) (i : Nat) : List UInt8 := if v.kind == 6 then quotedT (v.names.getD i []) ++ [58] ++ printJ (v.kids.getD i .nil) else printJ (v.kids.getD i .nil)
def parts (v : JV) (k : Nat) : List (List UInt8) := (List.range k).map (partAt v)
theorem partsJ_eq (k : Int) : ∀ (ks : List JV) (ns : List (List UInt8)), partsJ k ns ks = (List.range ks.length).map (fun i => if k == 6 then quotedT (ns.getD i []) ++ [58] ++ printJ (ks.getD i .nil) else printJ (ks.getD i .nil))
  | [], ns => by rw [partsJ]; rfl
  | x :: r, ns => by
    rw [partsJ, partsJ_eq k r ns.tail, List.length_cons, List.range_succ_eq_map, List.map_cons, List.map_map]
    congr 1
    · cases ns <;> rfl
    · apply List.map_congr_left
      intro i _
      cases ns <;> simp [List.getD]
theorem printJ_eq (v : JV) : printJ v = if v.kind == 1 then [110, 117, 108, 108] else if v.kind == 2 then Lib.formatBool v.b else if v.kind == 3 then Lib.itoa v.n else if v.kind == 4 then quotedT v.s else
    if v.kind == 6 then (123 :: Lib.join (parts v v.kids.length) [44]) ++ [125] else (91 :: Lib.join (parts v v.kids.length) [44]) ++ [93] := by
  cases v; rw [printJ, partsJ_eq]; rfl
theorem join_part {x : List UInt8} {xs : List (List UInt8)} (sep : List UInt8) (h : x ∈ xs) : x.length ≤ (Lib.join xs sep).length := by
  cases xs with
  | nil => simp at h
  | cons y r =>
    rw [Lib.join_cons, List.length_append]
    rcases List.mem_cons.1 h with rfl | h
    · omega
    · have : x.length ≤ (Lib.joinTail sep r).length := by
        unfold Lib.joinTail
        induction r with
        | nil => simp at h
        | cons z t ih =>
          simp only [List.map_cons, List.flatten_cons, List.length_append]
          rcases List.mem_cons.1 h with rfl | h
          · omega
          · have := ih (by simp [h]) h; omega
      omega

/-- What can be printed. -/
inductive Fit : JV → Prop
  | mk {v : JV} (h2 : v.kids.length ≤ 1000000000000) (h6 : v.kind = 6 → v.kids.length ≤ v.names.length) (h0 : -4611686018427387904 ≤ v.n) (h1 : v.n ≤ 4611686018427387904) (hp : (printJ v).length ≤ 140737488355328) (h3 : ∀ x ∈ v.kids, Fit x) : Fit v

def strsF (l : List (List UInt8)) : Nat → Nat → Cell := fun i _ => .str (l.getD i [])
theorem parts_succ (v : JV) (k : Nat) : parts v (k + 1) = parts v k ++ [partAt v k] := by unfold parts; rw [List.range_succ, List.map_append]; rfl
theorem strs_app {e : TypeId} {k : Nat} (l : List (List UInt8)) (x : List UInt8) (hk : k = l.length) : BlkEqv (.row e 1 (k + 1) (catF k (strsF l) (fun i j => nthD [.str x] ((0 + i) * 1 + j)))) (.row e 1 (k + 1) (strsF (l ++ [x]))) := by
  refine BlkEqv.row_ext rfl fun i hi j hj => ?_
  subst hk
  unfold catF
  split
  · rename_i h; simp only [strsF, List.getD, List.getElem?_append, h, if_true]
  · obtain ⟨h1, rfl⟩ : i = l.length ∧ j = 0 := by omega
    subst h1
    rw [Nat.sub_self]
    simp only [strsF, List.getD, List.getElem?_append, Nat.lt_irrefl, if_false, Nat.sub_self]
    rfl
theorem parts_len (v : JV) (k : Nat) : k = (parts v k).length := by simp [parts]
theorem strs_flat (l : List (List UInt8)) (n : Nat) : ∀ i, i < n → ∀ j, j < 1 → (strsF l i j).flat = true := by
  intro i hi j hj
  obtain rfl : j = 0 := by omega
  rfl
theorem strs_sl {v : JV} {k m : Nat} (h : k = m) : ∀ i, i < k → ∀ j, j < 1 → strsF (parts v k) (0 + i) j = nthD [.str ((parts v m).getD i [])] j := by
  intro i hi j hj
  obtain rfl : j = 0 := by omega
  subst h
  rw [Nat.zero_add]; rfl
theorem strs_in (l : List (List UInt8)) (n : Nat) (S : Nat → Prop) : ∀ i, i < n → ∀ j, j < 1 → (strsF l i j).inS S := by
  intro i hi j hj
  obtain rfl : j = 0 := by omega
  trivial
/-- What is printed: nothing, if it may not be. -/
def printT (v : JV) : List UInt8 := if mayJ v 0 then printJ v else []
end Go.Proofs.Tw
end

section
open Go Go.Sv
namespace Go.Proofs.Tw
attribute [local irreducible] Wp FinQ resV Ent Pur Go.Sv.Fn Sat0
set_option maxRecDepth 100000
variable {G : Nat → Option (List Cell)}

def moreB (s : List UInt8) (i : Nat) : Bool := cond (cond (decide ((i : Int) ≥ (s.length : Int))) true (decide (((s.getD i 0).toNat : Int) < 128))) true (decide (((s.getD i 0).toNat : Int) > 191))
def moreT (s : List UInt8) (i : Nat) : Int := if moreB s i then -1 else ((s.getD i 0).toNat : Int) - 128
def fB1 (c a : Int) : Bool := cond (cond (decide (c ≥ 194)) (decide (c < 224)) false) (decide (a ≥ 0)) false
def fB2 (c a b : Int) : Bool := cond (cond (cond (decide (c ≥ 224)) (decide (c < 240)) false) (decide (a ≥ 0)) false) (decide (b ≥ 0)) false
def r3 (c a b : Int) : Int := (c - 224) * 4096 + a * 64 + b
def fC2 (r : Int) : Bool := cond (decide (r ≥ 2048)) (cond (decide (r < 55296)) true (decide (r > 57343))) false
def fB3 (c a b d : Int) : Bool := cond (cond (cond (cond (decide (c ≥ 240)) (decide (c < 245)) false) (decide (a ≥ 0)) false) (decide (b ≥ 0)) false) (decide (d ≥ 0)) false
def r4 (c a b d : Int) : Int := (c - 240) * 262144 + a * 4096 + b * 64 + d
def fC3 (r : Int) : Bool := cond (decide (r ≥ 65536)) (decide (r ≤ 1114111)) false
def firstT (c a b d : Int) : Int × Int := if c < 128 then (c, 1) else if fB1 c a then ((c - 192) * 64 + a, 2) else if fB2 c a b then (if fC2 (r3 c a b) then (r3 c a b, 3) else (65533, 1)) else if fB3 c a b d then (if fC3 (r4 c a b d) then (r4 c a b d, 4) else (65533, 1)) else (65533, 1)

theorem get_mk (s : List UInt8) (k : Nat) : (⟨s.toArray⟩ : ByteArray).get! k = s.getD k 0 := by
  simp only [ByteArray.get!, List.getD]
  rw [getElem!_def]
  cases h : s[k]? with
  | none => simp [h]; rfl
  | some x => simp [h]

theorem more_cases (s : List UInt8) (k : Nat) : let x := (s.getD k 0).toNat
    (k < s.length ∧ x / 64 = 2 ∧ moreT s k = ((x % 64 : Nat) : Int)) ∨ ((¬ k < s.length ∨ x / 64 ≠ 2) ∧ moreT s k = -1) := by
  intro x
  have hx : x < 256 := UInt8.toNat_lt _
  unfold moreT moreB
  by_cases h1 : k < s.length
  · have e1 : decide ((k : Int) ≥ (s.length : Int)) = false := by simp; omega
    rw [e1]
    by_cases h2 : x / 64 = 2
    · have e2 : decide (((s.getD k 0).toNat : Int) < 128) = false := by simp only [decide_eq_false_iff_not]; omega
      have e3 : decide (((s.getD k 0).toNat : Int) > 191) = false := by simp only [decide_eq_false_iff_not]; omega
      rw [e2, e3]
      refine .inl ⟨h1, h2, ?_⟩
      show ((s.getD k 0).toNat : Int) - 128 = _
      omega
    · refine .inr ⟨.inr h2, ?_⟩
      rw [if_pos]
      by_cases h3 : x < 128
      · have e2 : decide (((s.getD k 0).toNat : Int) < 128) = true := by simp only [decide_eq_true_eq]; omega
        rw [e2]; rfl
      · have e3 : decide (((s.getD k 0).toNat : Int) > 191) = true := by simp only [decide_eq_true_eq]; omega
        rw [e3]; cases decide (((s.getD k 0).toNat : Int) < 128) <;> rfl
  · refine .inr ⟨.inl h1, ?_⟩
    have e1 : decide ((k : Int) ≥ (s.length : Int)) = true := by simp; omega
    rw [e1]; rfl

theorem first_eq (s : List UInt8) (hs : s ≠ []) : firstT ((s.getD 0 0).toNat : Int) (moreT s 1) (moreT s 2) (moreT s 3) = (runeAt s 0, (runeW s 0 : Int)) := by
  unfold runeAt runeW Utf8.decode
  have hsz : (⟨s.toArray⟩ : ByteArray).size = s.length := size_mk s
  simp only [get_mk, Nat.zero_add, hsz]
  have m1 := more_cases s 1
  have m2 := more_cases s 2
  have m3 := more_cases s 3
  generalize (s.getD 0 0) = c0, (s.getD 1 0) = c1, (s.getD 2 0) = c2, (s.getD 3 0) = c3 at *
  have hc : c0.toNat < 256 := UInt8.toNat_lt _
  generalize c0.toNat = c, c1.toNat = x1, c2.toNat = x2, c3.toNat = x3 at *
  simp only at m1 m2 m3
  generalize moreT s 1 = a, moreT s 2 = b, moreT s 3 = d at *
  have q1 : (decide (1 < s.length) && x1 / 64 == 2) = decide (0 ≤ a) := by
    rcases m1 with ⟨h1, h2, h3⟩ | ⟨h1, h3⟩
    · rw [h3]; simp [h1, h2]; omega
    · rcases h1 with h1 | h1 <;> simp [h1, h3]
  have q2 : (decide (2 < s.length) && x2 / 64 == 2) = decide (0 ≤ b) := by
    rcases m2 with ⟨h1, h2, h3⟩ | ⟨h1, h3⟩
    · rw [h3]; simp [h1, h2]; omega
    · rcases h1 with h1 | h1 <;> simp [h1, h3]
  have q3 : (decide (3 < s.length) && x3 / 64 == 2) = decide (0 ≤ d) := by
    rcases m3 with ⟨h1, h2, h3⟩ | ⟨h1, h3⟩
    · rw [h3]; simp [h1, h2]; omega
    · rcases h1 with h1 | h1 <;> simp [h1, h3]
  rw [q1, q2, q3]
  have ha : 0 ≤ a → a = ((x1 % 64 : Nat) : Int) := by intro h; rcases m1 with ⟨_, _, h3⟩ | ⟨_, h3⟩ <;> omega
  have hb : 0 ≤ b → b = ((x2 % 64 : Nat) : Int) := by intro h; rcases m2 with ⟨_, _, h3⟩ | ⟨_, h3⟩ <;> omega
  have hd : 0 ≤ d → d = ((x3 % 64 : Nat) : Int) := by intro h; rcases m3 with ⟨_, _, h3⟩ | ⟨_, h3⟩ <;> omega
  clear m1 m2 m3 q1 q2 q3
  unfold firstT fB1 fB2 fB3 fC2 fC3 r3 r4 Utf8.valid Utf8.runeError
  by_cases p1 : c < 128
  · rw [if_pos (by omega), if_pos p1]; simp
  rw [if_neg (by omega), if_neg p1]
  have e1 : ∀ p q : Bool, cond p q false = (p && q) := by intro p q; cases p <;> rfl
  have e2 : ∀ p q : Bool, cond p true q = (p || q) := by intro p q; cases p <;> rfl
  simp only [e1, e2, Bool.and_eq_true, Bool.or_eq_true, decide_eq_true_eq, beq_iff_eq, ge_iff_le, gt_iff_lt]
  repeat' split
  all_goals simp only [Prod.mk.injEq]
  all_goals (first | (exfalso; omega) | (constructor <;> omega) | skip)

theorem wrap64 {n : Int} (h1 : -9223372036854775808 ≤ n) (h2 : n ≤ 9223372036854775807) : IntKind.i64.wrap n = n := by
  simp [IntKind.wrap, IntKind.signed, IntKind.bits]
  omega

theorem byte_lt (s : List UInt8) (i : Nat) : ((s.getD i 0).toNat : Int) < 256 := by have := UInt8.toNat_lt (s.getD i 0); omega

theorem more_rng (s : List UInt8) (i : Nat) : -1 ≤ moreT s i ∧ moreT s i ≤ 63 := by
  have := more_cases s i
  simp only at this
  rcases this with ⟨_, _, h⟩ | ⟨_, h⟩ <;> omega

theorem runeW_le (s : List UInt8) (pos : Nat) : runeW s pos ≤ 4 := by
  unfold runeW Utf8.decode
  simp only
  repeat' split
  all_goals (show _ ≤ 4; simp)
theorem rune_drop (s : List UInt8) (pos : Nat) : runeAt (s.drop pos) 0 = runeAt s pos ∧ runeW (s.drop pos) 0 = runeW s pos := by
  unfold runeAt runeW Utf8.decode
  have e1 : (⟨(s.drop pos).toArray⟩ : ByteArray).size = s.length - pos := by rw [size_mk]; simp
  have e2 : (⟨s.toArray⟩ : ByteArray).size = s.length := size_mk s
  have e3 : ∀ k, (s.drop pos).getD k 0 = s.getD (pos + k) 0 := by intro k; simp [List.getD]
  have e4 : ∀ k, decide (0 + k < s.length - pos) = decide (pos + k < s.length) := by intro k; apply decide_eq_decide.2; omega
  simp only [get_mk, e1, e2, e3, Nat.zero_add]
  have e5 : ∀ k, decide (k < s.length - pos) = decide (pos + k < s.length) := by intro k; apply decide_eq_decide.2; omega
  simp only [e5, and_self]

end Go.Proofs.Tw
end

section
open Go Go.Sv
namespace Go.Proofs.Tw
attribute [local irreducible] Wp FinQ resV Ent Pur Go.Sv.Fn Sat0
set_option maxRecDepth 100000
variable {G : Nat → Option (List Cell)}

/-! the document's own -/
def twiceT (l : List (List UInt8)) (i : Nat) : Bool := (l.take i).contains (l.getD i [])
theorem twice_true {l : List (List UInt8)} {k i : Nat} (hk : k < i) (hi : i < l.length) (h : l.getD k [] == l.getD i []) : twiceT l i = true := by
  unfold twiceT
  rw [List.contains_iff_mem]
  have : l.getD k [] = l.getD i [] := by simpa using h
  rw [← this]
  rw [List.mem_take_iff_getElem]
  exact ⟨k, by omega, by simp [List.getD, show k < l.length from by omega]⟩
theorem twice_false {l : List (List UInt8)} {i : Nat} (hi : i < l.length) (h : ∀ k, k < i → (l.getD k [] == l.getD i []) = false) : twiceT l i = false := by
  unfold twiceT
  cases hc : (l.take i).contains (l.getD i []) with
  | false => rfl
  | true =>
    rw [List.contains_iff_mem, List.mem_take_iff_getElem] at hc
    obtain ⟨k, hk, e⟩ := hc
    have := h k (by omega)
    rw [beq_eq_false_iff_ne] at this
    exact absurd (by simpa [List.getD, show k < l.length from by omega] using e) this
def x2 (v : JV) : Bool := cond (a1 v) true (cond (v.kind != 2) v.b false)
def x3 (v : JV) : Bool := cond (x2 v) true (cond (v.kind != 3) (v.n != 0) false)
def x4 (v : JV) : Bool := cond (x3 v) true (decide (v.n < -9007199254740992))
def x5 (v : JV) : Bool := cond (x4 v) true (decide (v.n > 9007199254740992))
def x6 (v : JV) : Bool := cond (x5 v) true (cond (v.kind != 4) (!(v.s == [])) false)
def x7 (v : JV) : Bool := cond (x6 v) true (!(validT v.s))
def x8 (v : JV) : Bool := cond (x7 v) true (cond (!(listed v)) (decide ((v.kids.length : Int) > 0)) false)
def x9 (v : JV) (d : Int) : Bool := cond (x8 v) true (cond (listed v) (decide (d ≥ 8)) false)
def y1 (v : JV) : Bool := cond (v.kind != 6) (decide ((v.names.length : Int) > 0)) false
def y2 (v : JV) : Bool := cond (y1 v) true (cond (v.kind == 6) ((v.names.length : Int) != (v.kids.length : Int)) false)

def aA (v : JV) : Bool := a1 v || a2 v || a3 v || a4 v || a5 v
theorem x6_b : ∀ A1 k2 b k3 n0 l g k4 s0 : Bool, cond (cond (cond (cond (cond A1 true (cond (!k2) b false)) true (cond (!k3) (!n0) false)) true l) true g) true (cond (!k4) (!s0) false) = (A1 || cond b (!k2) false || cond (!n0) (!k3) false || cond l true g || cond (!s0) (!k4) false) := by decide
theorem x6_eq (v : JV) : x6 v = aA v := x6_b _ _ _ _ _ _ _ _ _
theorem x9_b : ∀ A va li K ge : Bool, cond (cond (cond A true (!va)) true (cond (!li) K false)) true (cond li ge false) = (A || !va || (!li && K) || (li && ge)) := by decide
def kK (v : JV) : Bool := decide ((v.kids.length : Int) > 0)
def kN (v : JV) : Bool := decide ((v.names.length : Int) > 0)
def k6 (v : JV) : Bool := v.kind == 6
def qE (v : JV) : Bool := (v.names.length : Int) == (v.kids.length : Int)
theorem x9_eq (v : JV) (d : Int) : x9 v d = (aA v || !(validT v.s) || (!(listed v) && kK v) || (listed v && decide (d ≥ 8))) := by
  rw [← x6_eq]; exact x9_b _ _ _ _ _
theorem y2_b : ∀ N k q : Bool, cond (cond (!k) N false) true (cond k (!q) false) = ((N && !k) || (k && !q)) := by decide
theorem y2_eq (v : JV) : y2 v = ((kN v && !(k6 v)) || (k6 v && !(qE v))) := y2_b _ _ _
theorem may_b : ∀ A1 A2 A3 A4 A5 K li N k va nok q k5 x : Bool, li = cond k5 true k → (!(A1 || A2 || A3 || A4 || A5 || cond K (!li) false || cond N (!k) false) && cond va (cond (!k) true (nok && q)) false && (cond (!k5) (!k) false || x)) = (!((A1 || A2 || A3 || A4 || A5) || (K && !li) || (N && !k)) && (va && (!k || (nok && q))) && (!li || x)) := by decide
theorem may_A (v : JV) (d : Int) : mayJ v d = (!(aA v || (kK v && !(listed v)) || (kN v && !(k6 v))) && (validT v.s && (!(k6 v) || (namesOk v.names && qE v))) && (!(listed v) || cond (decide (d < 8)) (!(anyNot v.kids (d + 1))) false)) := by
  rw [mayJ_eq]; exact may_b _ _ _ _ _ _ _ _ _ _ _ _ (v.kind == 5) _ rfl
theorem ge_lt (d : Int) : decide (d ≥ 8) = !(decide (d < 8)) := by
  by_cases h : d < 8
  · have : ¬ d ≥ 8 := by omega
    simp [h, this]
  · have : d ≥ 8 := by omega
    simp [h, this]
theorem e1_b : ∀ A va li K N k nk d8 an : Bool, (A || !va || (!li && K) || (li && !d8)) = true → (!(A || (K && !li) || (N && !k)) && (va && (!k || nk)) && (!li || cond d8 an false)) = false := by decide
theorem e2_b : ∀ A va li K N k nok q x : Bool, ((N && !k) || (k && !q)) = true → (!(A || (K && !li) || (N && !k)) && (va && (!k || (nok && q))) && (!li || x)) = false := by decide
theorem e3_b : ∀ A va li K k q x : Bool, ((true && !k) || (k && !q)) = false → (!(A || (K && !li) || (true && !k)) && (va && (!k || (false && q))) && (!li || x)) = false := by decide
theorem e4_b : ∀ A va li N k nk d8 : Bool, (A || !va || (!li && true) || (li && !d8)) = false → (!(A || (true && !li) || (N && !k)) && (va && (!k || nk)) && (!li || cond d8 (!true) false)) = false := by decide
theorem e5_b : ∀ A va li K N k q d8 : Bool, (A || !va || (!li && K) || (li && !d8)) = false → ((N && !k) || (k && !q)) = false → (!(A || (K && !li) || (N && !k)) && (va && (!k || (true && q))) && (!li || cond d8 (!false) false)) = true := by decide

theorem may_e1 {v : JV} {d : Int} (h : x9 v d = true) : mayJ v d = false := by
  rw [x9_eq, ge_lt] at h; rw [may_A]; exact e1_b _ _ _ _ _ _ _ _ _ h
theorem may_e2 {v : JV} (d : Int) (h : y2 v = true) : mayJ v d = false := by
  rw [y2_eq] at h; rw [may_A]; exact e2_b _ _ _ _ _ _ _ _ _ h
theorem may_e3 {v : JV} (d : Int) (h : y2 v = false) (hn : 0 < v.names.length) (ho : namesOk v.names = false) : mayJ v d = false := by
  rw [y2_eq] at h; rw [may_A]
  have : kN v = true := by unfold kN; simp only [decide_eq_true_eq]; omega
  rw [this] at h ⊢; rw [ho]; exact e3_b _ _ _ _ _ _ _ h
theorem may_e4 {v : JV} {d : Int} (h : x9 v d = false) (hn : 0 < v.kids.length) (ho : anyNot v.kids (d + 1) = true) : mayJ v d = false := by
  rw [x9_eq, ge_lt] at h; rw [may_A]
  have : kK v = true := by unfold kK; simp only [decide_eq_true_eq]; omega
  rw [this] at h ⊢; rw [ho]; exact e4_b _ _ _ _ _ _ _ h
theorem may_e5 {v : JV} {d : Int} (h : x9 v d = false) (h2 : y2 v = false) (hn : namesOk v.names = true) (ho : anyNot v.kids (d + 1) = false) : mayJ v d = true := by
  rw [x9_eq, ge_lt] at h; rw [y2_eq] at h2; rw [may_A, hn, ho]
  exact e5_b _ _ _ _ _ _ _ _ h h2

theorem d8_b : ∀ A va li d8 : Bool, (A || !va || (!li && true) || (li && !d8)) = false → d8 = true := by decide
theorem may_d8 {v : JV} {d : Int} (h : x9 v d = false) (hn : 0 < v.kids.length) : d < 8 := by
  rw [x9_eq, ge_lt] at h
  have : kK v = true := by unfold kK; simp only [decide_eq_true_eq]; omega
  rw [this] at h
  simpa using d8_b _ _ _ _ h
/-- All texts are short enough, too. -/
inductive Short : JV → Prop
  | mk {v : JV} (h0 : v.s.length < 4611686018427387904) (h1 : v.names.length < 4611686018427387904) (hs : ∀ x ∈ v.names, x.length < 4611686018427387904) (h2 : v.kids.length < 4611686018427387904) (h3 : ∀ x ∈ v.kids, Short x) : Short v
end Go.Proofs.Tw
end

section
open Go Go.Sv
namespace Go.Proofs.Tw
attribute [local irreducible] Wp FinQ resV Ent Pur Go.Sv.Fn Sat0
set_option maxRecDepth 100000
variable {G : Nat → Option (List Cell)}

theorem bytes_in (l : List UInt8) (n : Nat) (S : Nat → Prop) : ∀ i, i < n → ∀ j, j < 1 → (bytesF l i j).inS S := fun _ _ _ _ => trivial
def w16 (n : Nat) : Int := IntKind.u8.wrap ((n : Int).tdiv 16)
def m16 (n : Nat) : Int := (n : Int).tmod 16
theorem dig12 : ∀ n : Nat, n < 32 → (0 ≤ w16 n ∧ w16 n < 2) ∧ (0 ≤ m16 n ∧ m16 n < 16) ∧ ([48, 49] : List UInt8).getD (w16 n).toNat 0 = hexT.getD (n / 16) 0 ∧ hexT.getD (m16 n).toNat 0 = hexT.getD (n % 16) 0 := by decide

def q12Inv (s : List UInt8) (x : Nat × Nat × List UInt8) : St := ⟨[(0, .v (.c (.str s))), (3, .v (.c (.row 1 0 0 x.2.1))), (4, .v (.c (.int .i64 (x.1 : Int))))], [(0, .row 5 1 x.2.1 (bytesF x.2.2))], 16⟩
end Go.Proofs.Tw
end

section
open Go Go.Sv
namespace Go.Proofs.Tw
attribute [local irreducible] Wp FinQ resV Ent Pur Go.Sv.Fn Sat0
set_option maxRecDepth 100000
variable {G : Nat → Option (List Cell)}

theorem dec_len (m : Nat) : (Lib.decDigits m).length ≤ m + 1 := by
  induction m using Nat.strongRecOn with
  | _ m ih =>
  rw [Lib.decDigits]
  split
  · simp
  · rename_i h
    have := ih (m / 10) (by omega)
    simp only [List.length_append, List.length_cons, List.length_nil]; omega
theorem dec_len2 (m : Nat) (h : 10 ≤ m * 10) : (Lib.decDigits m).length ≤ m := by
  rw [Lib.decDigits]
  split
  · simp; omega
  · have := dec_len (m / 10)
    simp only [List.length_append, List.length_cons, List.length_nil]; omega
theorem dig_nat (m : Nat) : m < 9223372036854775808 → Pur Tryd.prog G 31 [.c (.int .i64 (m : Int))] [.c (.str (Lib.decDigits m))] := by
  induction m using Nat.strongRecOn with
  | _ m ih =>
  intro hm
  refine Pur.of Tryd.func31 (by kernel_rfl) (by kernel_rfl) (by kernel_rfl) ?_
  refine Wp.go (mx := true) (fun _ => mixed) [] 100 [] [] (by kernel_rfl) (by kernel_rfl) (by kernel_rfl) trivial ?_
  refine Wp.cond' (by kernel_rfl) (decide ((m : Int) < 0)) (by kernel_rfl) (fun h => ?_) (fun h => ?_)
  · simp at h
    omega
  refine Wp.go (mx := true) (fun _ => mixed) [] 100 [] [] (by kernel_rfl) (by kernel_rfl) (by kernel_rfl) trivial ?_
  refine Wp.cond' (by kernel_rfl) (decide ((m : Int) < 10)) (by kernel_rfl) (fun h => ?_) (fun h => ?_)
  · have h10 : m < 10 := by simp at h; omega
    have e1 : IntKind.u8.wrap (48 + (m : Int)) = ((UInt8.ofNat (48 + m)).toNat : Int) := by rw [wrap8 (by omega) (by omega), UInt8.toNat_ofNat', Nat.mod_eq_of_lt (by omega)]; omega
    have e2 : byteL (rowB [UInt8.ofNat (48 + m)]) 0 1 = Lib.decDigits m := by rw [byteL_B (n := 1) [UInt8.ofNat (48 + m)] rfl, Lib.decDigits_one h10]
    refine Wp.go (mx := true) (fun _ => mixed) [(4, {fm := [(2, .c (.int .u8 ((UInt8.ofNat (48 + m)).toNat : Int))), (4, .c (.str (Lib.decDigits m)))]})] 100 [] [inR .i64 (48 + (m : Int)), EqvI (.c (.int .u8 (IntKind.u8.wrap (48 + (m : Int))))) (.c (.int .u8 ((UInt8.ofNat (48 + m)).toNat : Int))), EqvD (.c (.int .u8 (IntKind.u8.wrap (48 + (m : Int))))) (.c (.int .u8 ((UInt8.ofNat (48 + m)).toNat : Int))), EqvI (.c (.str (byteL (rowB [UInt8.ofNat (48 + m)]) 0 1))) (.c (.str (Lib.decDigits m))), EqvD (.c (.str (byteL (rowB [UInt8.ofNat (48 + m)]) 0 1))) (.c (.str (Lib.decDigits m))), 0 + 1 ≤ 1, areBytes (rowB [UInt8.ofNat (48 + m)]) 0 1] (by kernel_rfl) (by kernel_rfl) (by kernel_rfl) ⟨inR64 (by omega) (by omega), fun _ _ => trivial, by rw [e1]; exact fun _ _ _ h => h, fun _ _ => trivial, by rw [e2]; exact fun _ _ _ h => h, Nat.le_refl _, areBytes_B _ rfl⟩ ?_
    refine Wp.ret' (by kernel_rfl) ?_
    exact FinQ.pure (rs' := [.c (.str (Lib.decDigits m))]) (by kernel_rfl) rfl (by kernel_rfl)
  · have h10 : ¬ m < 10 := by simp at h; omega
    have hd : Lib.decDigits m = Lib.decDigits (m / 10) ++ [UInt8.ofNat (48 + m % 10)] := by conv => lhs; rw [Lib.decDigits, dif_neg h10]
    have hq : IntKind.i64.wrap ((m : Int).tdiv 10) = ((m / 10 : Nat) : Int) := by
      rw [Int.tdiv_eq_ediv_of_nonneg (by omega), wrap64 (n := (m : Int) / 10) (by omega) (by omega)]; omega
    have hr : (m : Int).tmod 10 = ((m % 10 : Nat) : Int) := by rw [Int.tmod_eq_emod_of_nonneg (by omega)]; omega
    have e1 : IntKind.u8.wrap (48 + (m : Int).tmod 10) = ((UInt8.ofNat (48 + m % 10)).toNat : Int) := by rw [hr, wrap8 (n := 48 + ((m % 10 : Nat) : Int)) (by omega) (by omega), UInt8.toNat_ofNat', Nat.mod_eq_of_lt (a := 48 + m % 10) (b := 2 ^ 8) (by omega)]; omega
    have e2 : byteL (rowB [UInt8.ofNat (48 + m % 10)]) 0 1 = [UInt8.ofNat (48 + m % 10)] := byteL_B _ rfl
    have hlen : (Lib.decDigits (m / 10)).length ≤ m / 10 + 1 := dec_len _
    have hle : (Lib.decDigits (m / 10)).length + 1 ≤ 9223372036854775807 := by omega
    refine Wp.go (mx := true) (fun _ => mixed) [(5, {fm := [(1, .c (.int .i64 ((m / 10 : Nat) : Int))), (6, .c (.int .u8 ((UInt8.ofNat (48 + m % 10)).toNat : Int))), (8, .c (.str [UInt8.ofNat (48 + m % 10)]))], cs := [(2, pc (ih (m / 10) (by omega) (by omega)))]})] 100 [] [EqvI (.c (.int .i64 (IntKind.i64.wrap ((m : Int).tdiv 10)))) (.c (.int .i64 ((m / 10 : Nat) : Int))), EqvD (.c (.int .i64 (IntKind.i64.wrap ((m : Int).tdiv 10)))) (.c (.int .i64 ((m / 10 : Nat) : Int))), (10 : Int) ≠ 0, (10 : Int) ≠ 0, inR .i64 (48 + (m : Int).tmod 10), EqvI (.c (.int .u8 (IntKind.u8.wrap (48 + (m : Int).tmod 10)))) (.c (.int .u8 ((UInt8.ofNat (48 + m % 10)).toNat : Int))), EqvD (.c (.int .u8 (IntKind.u8.wrap (48 + (m : Int).tmod 10)))) (.c (.int .u8 ((UInt8.ofNat (48 + m % 10)).toNat : Int))), EqvI (.c (.str (byteL (rowB [UInt8.ofNat (48 + m % 10)]) 0 1))) (.c (.str [UInt8.ofNat (48 + m % 10)])), EqvD (.c (.str (byteL (rowB [UInt8.ofNat (48 + m % 10)]) 0 1))) (.c (.str [UInt8.ofNat (48 + m % 10)])), 0 + 1 ≤ 1, areBytes (rowB [UInt8.ofNat (48 + m % 10)]) 0 1, (Lib.decDigits (m / 10)).length + 1 ≤ 9223372036854775807] (by kernel_rfl) (by kernel_rfl) (by kernel_rfl) ⟨fun _ _ => trivial, by rw [hq]; exact fun _ _ _ h => h, by decide, by decide, by rw [hr]; exact inR64 (by omega) (by omega), fun _ _ => trivial, by rw [e1]; exact fun _ _ _ h => h, fun _ _ => trivial, by rw [e2]; exact fun _ _ _ h => h, Nat.le_refl _, areBytes_B _ rfl, hle⟩ ?_
    refine Wp.ret' (by kernel_rfl) ?_
    exact FinQ.pure (rs' := [.c (.str (Lib.decDigits (m / 10) ++ [UInt8.ofNat (48 + m % 10)]))]) (by kernel_rfl) (by rw [hd]) (by kernel_rfl)

theorem digits_ok (n : Int) (h0 : -4611686018427387904 ≤ n) (h1 : n ≤ 4611686018427387904) : Pur Tryd.prog G 31 [.c (.int .i64 n)] [.c (.str (Lib.itoa n))] := by
  by_cases hn : n < 0
  · have hm := dig_nat (G := G) n.natAbs (by omega)
    rw [show ((n.natAbs : Nat) : Int) = 0 - n from by omega] at hm
    have hl := dec_len n.natAbs
    refine Pur.of Tryd.func31 (by kernel_rfl) (by kernel_rfl) (by kernel_rfl) ?_
    refine Wp.go (mx := true) (fun _ => mixed) [] 100 [] [] (by kernel_rfl) (by kernel_rfl) (by kernel_rfl) trivial ?_
    refine Wp.cond' (by kernel_rfl) (decide (n < 0)) (by kernel_rfl) (fun h => ?_) (fun h => ?_)
    · have hl2 : 1 + (Lib.decDigits n.natAbs).length ≤ 9223372036854775807 := by have := dec_len2 n.natAbs (by omega); omega
      refine Wp.go (mx := true) (fun _ => mixed) [(2, {cs := [(2, pc hm)]})] 100 [] [inR .i64 (0 - n), 1 + (Lib.decDigits n.natAbs).length ≤ 9223372036854775807] (by kernel_rfl) (by kernel_rfl) (by kernel_rfl) ⟨inR64 (by omega) (by omega), hl2⟩ ?_
      refine Wp.ret' (by kernel_rfl) ?_
      exact FinQ.pure (rs' := [.c (.str (45 :: Lib.decDigits n.natAbs))]) (by kernel_rfl) (by unfold Lib.itoa; rw [if_pos hn]) (by kernel_rfl)
    · simp at h; omega
  · have hm := dig_nat (G := G) n.toNat (by omega)
    rw [show ((n.toNat : Nat) : Int) = n from by omega] at hm
    rw [show Lib.itoa n = Lib.decDigits n.toNat from by unfold Lib.itoa; rw [if_neg hn]]
    exact hm

/-! printing, as the document does it -/
theorem join_snoc (l : List (List UInt8)) (x sep : List UInt8) : Lib.join (l ++ [x]) sep = if l = [] then x else Lib.join l sep ++ sep ++ x := by
  cases l with
  | nil => rw [if_pos rfl]; exact Lib.join_one x sep
  | cons y r => rw [if_neg (by simp), List.cons_append, Lib.join_cons, Lib.join_cons]; simp [Lib.joinTail]
def accT (v : JV) (k : Nat) : List UInt8 := Lib.join (parts v k) [44]
theorem acc_zero (v : JV) : accT v 0 = [] := rfl
theorem acc_succ (v : JV) (k : Nat) : accT v (k + 1) = if k = 0 then partAt v k else accT v k ++ [44] ++ partAt v k := by
  unfold accT
  rw [parts_succ, join_snoc]
  by_cases hk : k = 0
  · subst hk; rfl
  · rw [if_neg hk, if_neg (by intro e; have := congrArg List.length e; simp [parts] at this; exact hk this)]
theorem acc_le (v : JV) {k m : Nat} (h : k ≤ m) : (accT v k).length ≤ (accT v m).length := by
  induction h with
  | refl => exact Nat.le_refl _
  | step h ih =>
    rw [acc_succ]
    split
    · rename_i e; subst e; have : k = 0 := Nat.le_zero.1 h
      subst this; rw [acc_zero]; simp
    · simp only [List.length_append]; omega

end Go.Proofs.Tw
end

section
open Go Go.Sv
namespace Go.Proofs.Tw
attribute [local irreducible] Wp FinQ resV Ent Pur Go.Sv.Fn Sat0
set_option maxRecDepth 100000
variable {G : Nat → Option (List Cell)}

/-! fields, responses -/
def CEq (x y : Cell) : Prop := ∀ D ρ u, Den D ρ x u → Den D ρ y u
theorem CEq.rfl' {x : Cell} : CEq x x := fun _ _ _ h => h
theorem CEq.nil {sz : Nat} {f : Nat → Nat → Cell} : CEq .nilsl (.sl sz 0 f) := by
  intro D ρ u h
  have h : u = .slice none 0 0 := h
  subst h
  exact ⟨none, 0, rfl, Nat.le_refl _, by unfold maxLen; omega, .inl ⟨rfl, rfl⟩⟩
inductive CEqs : List Cell → List Cell → Prop
  | nil : CEqs [] []
  | cons {x y : Cell} {l l' : List Cell} (h : CEq x y) (t : CEqs l l') : CEqs (x :: l) (y :: l')
theorem CEqs.len {l l' : List Cell} (h : CEqs l l') : l.length = l'.length := by
  induction h with
  | nil => rfl
  | cons _ _ ih => simp [ih]
theorem agg_eqv {l l' : List Cell} (h : CEqs l l') : EqvD (.agg l) (.agg l') := by
  intro D ρ u hd
  obtain ⟨us, e, hs, hx⟩ := hd
  have hl := h.len
  refine ⟨us, e, by rw [hs, hl], fun j y hj => ?_⟩
  have : ∀ (l l' : List Cell), CEqs l l' → ∀ (j : Nat) (y : Cell), l'[j]? = some y → ∃ x, l[j]? = some x ∧ CEq x y := by
    intro l l' h
    induction h with
    | nil => intro j y hj; simp at hj
    | cons h1 h2 ih =>
      intro j y hj
      cases j with
      | zero => simp at hj; subst hj; exact ⟨_, by simp, h1⟩
      | succ j => simp at hj; obtain ⟨x, hx, hc⟩ := ih j y hj; exact ⟨x, by simpa using hx, hc⟩
  obtain ⟨x, hxl, hc⟩ := this l l' h j y hj
  obtain ⟨v, hv, hd⟩ := hx j x hxl
  exact ⟨v, hv, hc _ _ _ hd⟩

theorem EqvI.flatA {v : V1} {l : List Cell} (h : flats l = true) : EqvI v (.agg l) := fun S _ => flats_inS h S
structure FT where (name value : List UInt8)
def FT.nil : FT := ⟨[], []⟩
def encF (x : FT) : List Cell := [.str x.name, .str x.value]
def encH (l : List FT) : Cell := .sl 2 l.length (fun i j => nthD (encF (l.getD i .nil)) j)
structure RT where
  (status : Int) (head : List FT) (body : List UInt8)
def encT (r : RT) : List Cell := [.int .i64 r.status, encH r.head, .str r.body]

def eqF (x y : FT) : Bool := (x.name == y.name) && ((x.value == y.value) && true)
def sameF (a b : List FT) : Bool := !((a.length : Int) != (b.length : Int)) && (List.range a.length).all (fun i => eqF (a.getD i .nil) (b.getD i .nil))
def same_inv (a b : List FT) (k : Nat) : St := ⟨[(0, .v (.c (encH a))), (1, .v (.c (encH b))), (5, .v (.c (.int .i64 (k : Int))))], [], 0⟩
theorem same_ok (a b : List FT) (ha : a.length < 4611686018427387904) : Pur Tryd.prog G 13 [.c (encH a), .c (encH b)] [.c (.bool (sameF a b))] := by
  refine Pur.of Tryd.func13 (by kernel_rfl) (by kernel_rfl) (by kernel_rfl) ?_
  refine Wp.go (mx := true) (fun _ => mixed) [] 100 [] [] (by kernel_rfl) (by kernel_rfl) (by kernel_rfl) trivial ?_
  refine Wp.cond' (by kernel_rfl) ((a.length : Int) != (b.length : Int)) (by kernel_rfl) (fun h => ?_) (fun h => ?_)
  · refine Wp.go (mx := true) (fun _ => mixed) [] 100 [] [] (by kernel_rfl) (by kernel_rfl) (by kernel_rfl) trivial ?_
    refine Wp.ret' (by kernel_rfl) ?_
    exact FinQ.pure (rs' := [.c (.bool false)]) (by kernel_rfl) (by rw [sameF, h]; rfl) (by kernel_rfl)
  · refine Wp.go (mx := true) (fun _ => mixed) [] 100 [] [] (by kernel_rfl) (by kernel_rfl) (by kernel_rfl) trivial ?_
    have hl : a.length = b.length := by simp at h; omega
    refine Wp.loopK (by kernel_rfl) (same_inv a b) (fun k => k ≤ a.length ∧ ∀ i, i < k → eqF (a.getD i .nil) (b.getD i .nil) = true) (fun k => a.length - k) 0 (Ent.of [] (by kernel_rfl) (by kernel_rfl) (by kernel_rfl) trivial) ⟨Nat.zero_le _, fun i hi => absurd hi (Nat.not_lt_zero i)⟩ ?_
    rintro k L ⟨hk, hall⟩ again
    have hne := h
    refine Wp.go (mx := true) (fun _ => mixed) [] 100 [] [] (by kernel_rfl) (by kernel_rfl) (by kernel_rfl) trivial ?_
    refine Wp.cond' (by kernel_rfl) (decide ((k : Int) < (a.length : Int))) (by kernel_rfl) (fun h => ?_) (fun h => ?_)
    · have hk' : k < a.length := by simpa using h
      refine Wp.go (mx := true) (fun _ => mixed) [] 100 [] [0 ≤ (k : Int) ∧ (k : Int) < (a.length : Int), 0 ≤ (k : Int) ∧ (k : Int) < (b.length : Int)] (by kernel_rfl) (by kernel_rfl) (by kernel_rfl) ⟨by omega, by show 0 ≤ (k : Int) ∧ (k : Int) < (b.length : Int); omega⟩ ?_
      refine Wp.cond' (by kernel_rfl) (!(eqF (a.getD k .nil) (b.getD k .nil))) (by kernel_rfl) (fun h => ?_) (fun h => ?_)
      · refine Wp.go (mx := true) (fun _ => mixed) [] 100 [] [] (by kernel_rfl) (by kernel_rfl) (by kernel_rfl) trivial ?_
        refine Wp.ret' (by kernel_rfl) ?_
        exact FinQ.pure (rs' := [.c (.bool false)]) (by kernel_rfl) (by rw [sameF, all_range_false hk' (by simpa using h)]; simp) (by kernel_rfl)
      · refine Wp.go (mx := true) (fun _ => mixed) [] 100 [] [inR .i64 ((k : Int) + 1)] (by kernel_rfl) (by kernel_rfl) (by kernel_rfl) (inR64 (by omega) (by omega)) ?_
        exact Wp.lpK (by kernel_rfl) (again _ (k + 1) ⟨hk', up1 hall (by simpa using h)⟩ (by show a.length - (k + 1) < a.length - k; omega) (Ent.of [] (by kernel_rfl) (by kernel_rfl) (by kernel_rfl) trivial))
    · refine Wp.go (mx := true) (fun _ => mixed) [] 100 [] [] (by kernel_rfl) (by kernel_rfl) (by kernel_rfl) trivial ?_
      refine Wp.ret' (by kernel_rfl) ?_
      exact FinQ.pure (rs' := [.c (.bool true)]) (by kernel_rfl) (by rw [sameF, hne, all_range_true (fun i hi => hall i (by simp at h; omega))]; rfl) (by kernel_rfl)

def sameT (a b : RT) : Bool := cond (cond (a.status == b.status) (sameF a.head b.head) false) (a.body == b.body) false
theorem sameF_refl (a : List FT) : sameF a a = true := by
  unfold sameF
  rw [all_range_true (fun i _ => by unfold eqF; simp)]
  simp
theorem sameT_refl (a : RT) : sameT a a = true := by unfold sameT; rw [sameF_refl]; simp

/-! what an error is called -/
def rowsL : List (Int × List UInt8 × Int) := [
  (9, [105, 110, 118, 97, 108, 105, 100, 95, 99, 108, 105, 101, 110, 116], 401), (11, [117, 110, 115, 117, 112, 112, 111, 114, 116, 101, 100, 95, 114, 101, 115, 112, 111, 110, 115, 101, 95, 116, 121, 112, 101], 400), (12, [105, 110, 118, 97, 108, 105, 100, 95, 115, 99, 111, 112, 101], 400), (13, [105, 110, 118, 97, 108, 105, 100, 95, 103, 114, 97, 110, 116], 400), (19, [117, 110, 115, 117, 112, 112, 111, 114, 116, 101, 100, 95, 103, 114, 97, 110, 116, 95, 116, 121, 112, 101], 400), (14, [108, 111, 103, 105, 110, 95, 114, 101, 113, 117, 105, 114, 101, 100], 401),
  (15, [97, 99, 99, 101, 115, 115, 95, 100, 101, 110, 105, 101, 100], 403), (18, [110, 111, 116, 95, 102, 111, 117, 110, 100], 404), (17, [109, 101, 116, 104, 111, 100, 95, 110, 111, 116, 95, 97, 108, 108, 111, 119, 101, 100], 405), (4, [116, 111, 111, 95, 108, 97, 114, 103, 101], 413), (16, [116, 101, 109, 112, 111, 114, 97, 114, 105, 108, 121, 95, 117, 110, 97, 118, 97, 105, 108, 97, 98, 108, 101], 503)]
def rowNil : Int × List UInt8 × Int := (0, [], 0)
def encR (r : Int × List UInt8 × Int) : List Cell := [.int .i64 r.1, .str r.2.1, .int .i64 r.2.2]
def rowsC : List Cell := rowsL.flatMap encR
def ofT (e : Int) : Int × List UInt8 × Int := match rowsL.find? (fun r => r.1 == e) with
  | some r => r
  | none => (e, [105, 110, 118, 97, 108, 105, 100, 95, 114, 101, 113, 117, 101, 115, 116], 400)

theorem row_at : ∀ k : Nat, k < 11 → [nthD rowsC (k * 3), nthD rowsC (k * 3 + 1), nthD rowsC (k * 3 + 2)] = encR (rowsL.getD k rowNil) := by
  intro k hk
  obtain rfl | rfl | rfl | rfl | rfl | rfl | rfl | rfl | rfl | rfl | rfl : k = 0 ∨ k = 1 ∨ k = 2 ∨ k = 3 ∨ k = 4 ∨ k = 5 ∨ k = 6 ∨ k = 7 ∨ k = 8 ∨ k = 9 ∨ k = 10 := by omega
  all_goals rfl
theorem of_some {e : Int} {k : Nat} (hk : k < 11) (hall : ∀ i, i < k → ((rowsL.getD i rowNil).1 == e) = false) (h : ((rowsL.getD k rowNil).1 == e) = true) : ofT e = rowsL.getD k rowNil := by
  unfold ofT
  have : rowsL.find? (fun r => r.1 == e) = some (rowsL.getD k rowNil) := by
    rw [List.find?_eq_some_iff_getElem]
    refine ⟨h, k, hk, by rw [List.getD, List.getElem?_eq_getElem (show k < rowsL.length from hk)]; rfl, fun j hj => ?_⟩
    have := hall j hj
    simpa [List.getD, show j < rowsL.length from Nat.lt_trans hj hk] using this
  rw [this]
theorem of_none {e : Int} (hall : ∀ i, i < 11 → ((rowsL.getD i rowNil).1 == e) = false) : ofT e = (e, [105, 110, 118, 97, 108, 105, 100, 95, 114, 101, 113, 117, 101, 115, 116], 400) := by
  unfold ofT
  have : rowsL.find? (fun r => r.1 == e) = none := by
    rw [List.find?_eq_none]
    intro x hx
    obtain ⟨i, hi, rfl⟩ := List.getElem_of_mem hx
    have := hall i hi
    simpa [List.getD, hi] using this
  rw [this]
def wordT (e : Int) : List UInt8 := (ofT e).2.1
def statT (e : Int) : Int := (ofT e).2.2
theorem of_hit : ∀ k : Nat, k < 11 → ofT (rowsL.getD k rowNil).1 = rowsL.getD k rowNil := by decide
theorem of_miss {e : Int} (h : ∀ k : Nat, k < 11 → (e == (rowsL.getD k rowNil).1) = false) : ofT e = (e, [105, 110, 118, 97, 108, 105, 100, 95, 114, 101, 113, 117, 101, 115, 116], 400) := of_none fun i hi => by
  have := h i hi
  rw [beq_eq_false_iff_ne] at this ⊢
  exact fun e => this e.symm
theorem miss {e : Int} (p0 : (e == 9) = false) (p1 : (e == 11) = false) (p2 : (e == 12) = false) (p3 : (e == 13) = false) (p4 : (e == 19) = false) (p5 : (e == 14) = false) (p6 : (e == 15) = false) (p7 : (e == 18) = false) (p8 : (e == 17) = false) (p9 : (e == 4) = false) (p10 : (e == 16) = false) : ∀ k : Nat, k < 11 → (e == (rowsL.getD k rowNil).1) = false := by
  intro k hk
  obtain rfl | rfl | rfl | rfl | rfl | rfl | rfl | rfl | rfl | rfl | rfl : k = 0 ∨ k = 1 ∨ k = 2 ∨ k = 3 ∨ k = 4 ∨ k = 5 ∨ k = 6 ∨ k = 7 ∨ k = 8 ∨ k = 9 ∨ k = 10 := by omega
  · exact p0
  · exact p1
  · exact p2
  · exact p3
  · exact p4
  · exact p5
  · exact p6
  · exact p7
  · exact p8
  · exact p9
  · exact p10
/-! answers -/
def textJ (s : List UInt8) : JV := .mk 4 false 0 s [] []
def objJ (ns : List (List UInt8)) (ks : List JV) : JV := .mk 6 false 0 [] ns ks
theorem flatA {l : List Cell} (h : flats l = true) : ∀ S (j : Nat) (x : Cell), l[j]? = some x → x.inS S := fun S => flats_inS h S
def rawText (s : List UInt8) : List Cell := [.int .i64 4, .bool false, .int .i64 0, .str s, .nilsl, .nilsl]
theorem text_eqv (s : List UInt8) : EqvD (.agg (rawText s)) (.agg (encJ (textJ s))) := agg_eqv (.cons CEq.rfl' (.cons CEq.rfl' (.cons CEq.rfl' (.cons CEq.rfl' (.cons CEq.nil (.cons CEq.nil .nil))))))
def jsonH : List FT := [⟨[99, 111, 110, 116, 101, 110, 116, 45, 116, 121, 112, 101], [97, 112, 112, 108, 105, 99, 97, 116, 105, 111, 110, 47, 106, 115, 111, 110]⟩, ⟨[99, 97, 99, 104, 101, 45, 99, 111, 110, 116, 114, 111, 108], [110, 111, 45, 115, 116, 111, 114, 101]⟩]
def jsonT (v : JV) : RT := ⟨200, jsonH, printT v⟩
theorem flat_get {α : Type} (enc : α → List Cell) (d : α) {sz : Nat} (hs : ∀ x, (enc x).length = sz) : ∀ (l : List α) (i : Nat), i < l.length → ∀ j, j < sz → nthD (l.flatMap enc) (i * sz + j) = nthD (enc (l.getD i d)) j
  | [], i, h, _, _ => by simp at h
  | x :: r, 0, _, j, hj => by
    simp only [nthD, nth_eq, List.flatMap_cons, Nat.zero_mul, Nat.zero_add]
    rw [List.getElem?_append_left (by rw [hs]; exact hj)]; rfl
  | x :: r, i + 1, h, j, hj => by
    have ih := flat_get enc d hs r i (by simpa using h) j hj
    simp only [nthD, nth_eq, List.flatMap_cons] at ih ⊢
    rw [List.getElem?_append_right (by rw [hs, Nat.add_mul]; omega), hs, show (i + 1) * sz + j - sz = i * sz + j from by rw [Nat.add_mul]; omega]
    exact ih
def rawH : Nat → Nat → Cell := fun i j => nthD [.str [99, 111, 110, 116, 101, 110, 116, 45, 116, 121, 112, 101], .str [97, 112, 112, 108, 105, 99, 97, 116, 105, 111, 110, 47, 106, 115, 111, 110], .str [99, 97, 99, 104, 101, 45, 99, 111, 110, 116, 114, 111, 108], .str [110, 111, 45, 115, 116, 111, 114, 101]] (i * 2 + j)
theorem rawH_eq : ∀ i, i < 2 → ∀ j, j < 2 → rawH i j = nthD (encF (jsonH.getD i .nil)) j := by
  intro i hi j hj
  obtain rfl | rfl : i = 0 ∨ i = 1 := by omega
  all_goals (obtain rfl | rfl : j = 0 ∨ j = 1 := by omega)
  all_goals rfl
def errJ (w : List UInt8) : JV := objJ [[101, 114, 114, 111, 114]] [textJ w]
def failT (e : Int) : RT := ⟨statT e, jsonH, printT (errJ (wordT e))⟩
theorem strs_new (l : List (List UInt8)) : EqvD (.c (.sl 1 l.length (fun i j => nthD (l.map Cell.str) (i * 1 + j)))) (.c (encS l)) := by
  refine EqvD.sl rfl fun i hi j hj => ?_
  obtain rfl : j = 0 := by omega
  show nthD (l.map Cell.str) (i * 1 + 0) = nthD [.str (l.getD i [])] 0
  rw [show i * 1 + 0 = i from by omega]
  simp [nthD, nth_eq, List.getD, hi]
theorem kids_new (ks : List JV) : EqvD (.c (.sl 6 ks.length (fun i j => nthD (ks.flatMap encJ) (i * 6 + j)))) (.c (.sl 6 ks.length (kidC ks))) := by
  refine EqvD.sl rfl fun i hi j hj => ?_
  rw [flat_get encJ .nil (fun _ => rfl) ks i hi j hj]
  unfold kidC
  rw [cellsL_eq ks i hi]
theorem word_short (e : Int) : (wordT e).length ≤ 30 := by
  unfold wordT
  by_cases q : ∃ k, k < 11 ∧ e = (rowsL.getD k rowNil).1
  · obtain ⟨k, hk, rfl⟩ := q
    rw [of_hit k hk]
    have : ∀ k : Nat, k < 11 → (rowsL.getD k rowNil).2.1.length ≤ 30 := by decide
    exact this k hk
  · rw [of_miss (fun k hk => by rw [beq_eq_false_iff_ne]; exact fun h => q ⟨k, hk, h⟩)]
    show List.length _ ≤ 30
    simp
theorem quoted_len (s : List UInt8) : (quotedT s).length ≤ 6 * s.length + 2 := by
  unfold quotedT
  have : (s.flatMap qByte).length ≤ 6 * s.length := by
    induction s with
    | nil => simp
    | cons c r ih =>
      have : (qByte c).length ≤ 6 := by unfold qByte; split <;> (try split) <;> simp
      simp only [List.flatMap_cons, List.length_append, List.length_cons]; omega
  simp only [List.length_cons, List.length_append, List.length_nil]; omega
theorem text_print (w : List UInt8) : printJ (textJ w) = quotedT w := by rw [printJ_eq]; rfl
theorem err_print (w : List UInt8) : printJ (errJ w) = (123 :: ((quotedT [101, 114, 114, 111, 114] ++ [58]) ++ quotedT w)) ++ [125] := by
  rw [printJ_eq]
  show (123 :: Lib.join (parts (errJ w) 1) [44]) ++ [125] = _
  have : parts (errJ w) 1 = [(quotedT [101, 114, 114, 111, 114] ++ [58]) ++ quotedT w] := by
    show [partAt (errJ w) 0] = _
    unfold partAt
    rw [if_pos (by rfl)]
    show [(quotedT [101, 114, 114, 111, 114] ++ [58]) ++ printJ (textJ w)] = _
    rw [text_print]
  rw [this, Lib.join_one]
theorem text_small (w : List UInt8) : Small (textJ w) := .mk (by show 0 < _; omega) (by show 0 < _; omega) (by intro x hx; cases hx)
theorem err_small (w : List UInt8) : Small (errJ w) := .mk (by show 1 < _; omega) (by show 1 < _; omega) (by intro x hx; rcases List.mem_singleton.1 hx with rfl; exact text_small w)
theorem text_short (w : List UInt8) (hw : w.length ≤ 1000000) : Short (textJ w) := .mk (by show w.length < _; omega) (by show 0 < _; omega) (by intro x hx; cases hx) (by show 0 < _; omega) (by intro x hx; cases hx)
theorem err_short (w : List UInt8) (hw : w.length ≤ 1000000) : Short (errJ w) := .mk (by show 0 < _; omega) (by show 1 < _; omega) (by intro x hx; rcases List.mem_singleton.1 hx with rfl; decide) (by show 1 < _; omega) (by intro x hx; rcases List.mem_singleton.1 hx with rfl; exact text_short w hw)
theorem text_fit (w : List UInt8) (hw : w.length ≤ 1000000) : Fit (textJ w) := .mk (by show 0 ≤ _; omega) (by intro h; have h : (4 : Int) = 6 := h; omega) (by show _ ≤ (0 : Int); omega) (by show (0 : Int) ≤ _; omega) (by rw [text_print]; have := quoted_len w; omega) (by intro x hx; cases hx)
theorem err_fit (w : List UInt8) (hw : w.length ≤ 1000000) : Fit (errJ w) := by
  have h1 := quoted_len w
  have h2 : (quotedT [101, 114, 114, 111, 114]).length = 7 := by decide
  refine .mk (by show 1 ≤ _; omega) (by intro h; show 1 ≤ 1; omega) (by show _ ≤ (0 : Int); omega) (by show (0 : Int) ≤ _; omega) ?_ (by intro x hx; rcases List.mem_singleton.1 hx with rfl; exact text_fit w hw)
  rw [err_print]
  simp only [List.length_append, List.length_cons, List.length_nil, h2]; omega

/-! what an issuer says of itself -/
def docNs : List (List UInt8) := [[105, 115, 115, 117, 101, 114], [112, 117, 115, 104, 101, 100, 95, 97, 117, 116, 104, 111, 114, 105, 122, 97, 116, 105, 111, 110, 95, 114, 101, 113, 117, 101, 115, 116, 95, 101, 110, 100, 112, 111, 105, 110, 116], [97, 117, 116, 104, 111, 114, 105, 122, 97, 116, 105, 111, 110, 95, 101, 110, 100, 112, 111, 105, 110, 116], [116, 111, 107, 101, 110, 95, 101, 110, 100, 112, 111, 105, 110, 116], [105, 110, 116, 114, 111, 115, 112, 101, 99, 116, 105, 111, 110, 95, 101, 110, 100, 112, 111, 105, 110, 116], [114, 101, 118, 111, 99, 97, 116, 105, 111, 110, 95, 101, 110, 100, 112, 111, 105, 110, 116], [114, 101, 113, 117, 105, 114, 101, 95, 112, 117, 115, 104, 101, 100, 95, 97, 117, 116, 104, 111, 114, 105, 122, 97, 116, 105, 111, 110, 95, 114, 101, 113, 117, 101, 115, 116, 115], [97, 117, 116, 104, 111, 114, 105, 122, 97, 116, 105, 111, 110, 95, 114, 101, 115, 112, 111, 110, 115, 101, 95, 105, 115, 115, 95, 112, 97, 114, 97, 109, 101, 116, 101, 114, 95, 115, 117, 112, 112, 111, 114, 116, 101, 100], [99, 111, 100, 101, 95, 99, 104, 97, 108, 108, 101, 110, 103, 101, 95, 109, 101, 116, 104, 111, 100, 115, 95, 115, 117, 112, 112, 111, 114, 116, 101, 100]]
def trueJ : JV := .mk 2 true 0 [] [] []
def listJ (ks : List JV) : JV := .mk 5 false 0 [] [] ks
def docB (name : List UInt8) : List UInt8 := [104, 116, 116, 112, 115, 58, 47, 47] ++ name
def docKs (name : List UInt8) : List JV := [textJ (docB name), textJ (docB name ++ [47, 112, 97, 114]), textJ (docB name ++ [47, 97, 117, 116, 104, 111, 114, 105, 122, 101]), textJ (docB name ++ [47, 116, 111, 107, 101, 110]), textJ (docB name ++ [47, 105, 110, 116, 114, 111, 115, 112, 101, 99, 116]), textJ (docB name ++ [47, 114, 101, 118, 111, 107, 101]), trueJ, trueJ, listJ [textJ [83, 50, 53, 54]]]
def docJ (name : List UInt8) : JV := objJ docNs (docKs name)
def rawTrue : List Cell := [.int .i64 2, .bool true, .int .i64 0, .str [], .nilsl, .nilsl]
def rawList (ks : List JV) : List Cell := [.int .i64 5, .bool false, .int .i64 0, .str [], .nilsl, .sl 6 ks.length (kidC ks)]
end Go.Proofs.Tw
end

section
open Go Go.Sv
namespace Go.Proofs.Tw
attribute [local irreducible] Wp FinQ resV Ent Pur Go.Sv.Fn Sat0
set_option maxRecDepth 100000
set_option maxHeartbeats 4000000
variable {G : Nat → Option (List Cell)}

def intsF (l : List Int) : Nat → Nat → Cell := fun i _ => .int .i64 (l.getD i 0)
/-- The tape: its numbers, and how many of them are read. -/
def tapeB (l : List Int) (a : Nat) : Blk := .box 29 [.sl 1 l.length (intsF l), .int .i64 (a : Int)]
def withT (at_ n : Int) : Int := if at_.tmod n < 0 then at_.tmod n + n else at_.tmod n

theorem tmod_lo (a n : Int) (hn : 0 < n) : -n < a.tmod n := by
  rcases Int.lt_or_le a 0 with h | h
  · have := Int.tmod_lt_of_pos (-a) hn
    rw [Int.neg_tmod] at this
    omega
  · have := Int.tmod_nonneg n h
    omega
theorem withT_rng (a n : Int) (hn : 0 < n) : 0 ≤ withT a n ∧ withT a n < n := by
  unfold withT
  have h1 := Int.tmod_lt_of_pos a hn
  have h2 := tmod_lo a n hn
  split <;> omega
theorem within1_ok (a n : Int) (hn : 0 < n) (hm : n ≤ 9223372036854775807) : Pur Tryd.prog G 39 [.c (.int .i64 a), .c (.int .i64 n)] [.c (.int .i64 (withT a n))] := by
  refine Pur.of Tryd.func39 (by kernel_rfl) (by kernel_rfl) (by kernel_rfl) ?_
  have h1 := Int.tmod_lt_of_pos a hn
  have h2 := tmod_lo a n hn
  refine Wp.go (mx := true) (fun _ => mixed) [] 100 [] [n = (0 : Int) → False] (by kernel_rfl) (by kernel_rfl) (by kernel_rfl) ((show n = (0 : Int) → False from (by omega))) ?_
  refine Wp.cond' (by kernel_rfl) (decide (a.tmod n < (0 : Int))) (by kernel_rfl) (fun h0 => ?_) (fun h0 => ?_)
  · have g0 := of_decide_eq_true h0
    refine Wp.go (mx := true) (fun _ => mixed) [] 100 [] [IntKind.i64.min ≤ a.tmod n + n ∧ a.tmod n + n ≤ IntKind.i64.max] (by kernel_rfl) (by kernel_rfl) (by kernel_rfl) (inR64 (by omega) (by omega)) ?_
    refine Wp.ret' (by kernel_rfl) ?_
    exact FinQ.pure (rs' := [V1.c (Cell.int .i64 (a.tmod n + n))]) (by kernel_rfl) (by simp [withT, *]; done) (by kernel_rfl)
  · have g0 := of_decide_eq_false h0
    refine Wp.go (mx := true) (fun _ => mixed) [] 100 [] [] (by kernel_rfl) (by kernel_rfl) (by kernel_rfl) trivial ?_
    refine Wp.ret' (by kernel_rfl) ?_
    exact FinQ.pure (rs' := [V1.c (Cell.int .i64 (a.tmod n))]) (by kernel_rfl) (by simp [withT, *]; done) (by kernel_rfl)
theorem more1_ok (l : List Int) (a : Nat) : FnB Tryd.prog G 7 [tapeB l a] [.c (.ptr 0 0)] [.c (.bool (decide (a < l.length)))] [(0, tapeB l a)] := by
  refine Fn.of' Tryd.func7 (by kernel_rfl) (by kernel_rfl) (by kernel_rfl) (by kernel_rfl) trivial ?_
  refine Wp.go (mx := true) (fun _ => mixed) [] 100 [] [] (by kernel_rfl) (by kernel_rfl) (by kernel_rfl) trivial ?_
  refine Wp.ret' (by kernel_rfl) ?_
  exact FinQ.blkE (rs' := [V1.c (Cell.bool (decide ((↑a : Int) < (↑l.length : Int))))]) (hout' := [(0, tapeB l a)]) (by simp) [] (by kernel_rfl) (by kernel_rfl) (by kernel_rfl) (by kernel_rfl) (by kernel_rfl) trivial
/-- What a tape gives, and where it then stands. -/
def nextV (l : List Int) (a : Nat) (n : Int) : Int := cond (cond (!decide ((a : Int) < (l.length : Int))) true (decide (n < 1))) 0 (withT (l.getD a 0) n)
def nextA (l : List Int) (a : Nat) (n : Int) : Nat := cond (cond (!decide ((a : Int) < (l.length : Int))) true (decide (n < 1))) a (a + 1)
theorem next_ok (l : List Int) (a : Nat) (n : Int) (hl : l.length ≤ 9223372036854775807) (hm : n ≤ 9223372036854775807) : FnB Tryd.prog G 21 [tapeB l a] [.c (.ptr 0 0), .c (.int .i64 n)] [.c (.int .i64 (nextV l a n))] [(0, tapeB l (nextA l a n))] := by
  refine Fn.of' Tryd.func21 (by kernel_rfl) (by kernel_rfl) (by kernel_rfl) (by kernel_rfl) trivial ?_
  refine Wp.go (mx := true) (fun _ => mixed) [(1, {cs := [(1, cb [0] (more1_ok l a))]})] 100 [] [] (by kernel_rfl) (by kernel_rfl) (by kernel_rfl) trivial ?_
  refine Wp.cond' (by kernel_rfl) (bif !decide (a < l.length) then true else decide (n < (1 : Int))) (by kernel_rfl) (fun h0 => ?_) (fun h0 => ?_)
  · have g0 := h0
    simp at g0
    refine Wp.go (mx := true) (fun _ => mixed) [] 100 [] [] (by kernel_rfl) (by kernel_rfl) (by kernel_rfl) trivial ?_
    refine Wp.ret' (by kernel_rfl) ?_
    exact FinQ.blkE (rs' := [V1.c (Cell.int .i64 (0 : Int))]) (hout' := [(0, Blk.box 29 [Cell.sl (1 : Nat) l.length (intsF l), Cell.int .i64 (↑a : Int)])]) (by simp [nextV, tapeB, nextA, h0]) [] (by kernel_rfl) (by kernel_rfl) (by kernel_rfl) (by kernel_rfl) (by kernel_rfl) trivial
  · have g0 := h0
    simp at g0
    refine Wp.go (mx := true) (fun _ => mixed) [(4, {cs := [(12, pc (within1_ok (l.getD a (0 : Int)) n (by omega) (by assumption)))], fm := [(10, .c (.int .i64 (l.getD a 0)))]})] 100 [] [inR IntKind.i64 ((↑a : Int) + (1 : Int)), inR IntKind.i64 ((↑a : Int) + (1 : Int) - (1 : Int)), (0 : Int) ≤ (↑a : Int) + (1 : Int) - (1 : Int) ∧ (↑a : Int) + (1 : Int) - (1 : Int) < (↑l.length : Int), EqvD (V1.c (Cell.int .i64 (l.getD ((↑a : Int) + (1 : Int) - (1 : Int)).toNat (0 : Int)))) (V1.c (Cell.int .i64 (l.getD a (0 : Int))))] (by kernel_rfl) (by kernel_rfl) (by kernel_rfl) ⟨inR64 (by omega) (by omega), inR64 (by omega) (by omega), (by omega), (show EqvD (V1.c (Cell.int .i64 (l.getD ((↑a : Int) + (1 : Int) - (1 : Int)).toNat (0 : Int)))) (V1.c (Cell.int .i64 (l.getD a (0 : Int)))) from (by simp; exact fun _ _ _ h => h))⟩ ?_
    refine Wp.ret' (by kernel_rfl) ?_
    exact FinQ.blkE (rs' := [V1.c (Cell.int .i64 (withT (l.getD a (0 : Int)) n))]) (hout' := [(0, Blk.box 29 [Cell.sl (1 : Nat) l.length (intsF l), Cell.int .i64 ((↑a : Int) + (1 : Int))])]) (by simp [nextV, tapeB, nextA, h0]) [] (by kernel_rfl) (by kernel_rfl) (by kernel_rfl) (by kernel_rfl) (by kernel_rfl) trivial
theorem nextV_rng (l : List Int) (a : Nat) (n : Int) (hn : 0 < n) : 0 ≤ nextV l a n ∧ nextV l a n < n := by
  unfold nextV
  have := withT_rng (l.getD a 0) n hn
  cases (cond (!decide ((a : Int) < (l.length : Int))) true (decide (n < 1))) with
  | true => show 0 ≤ (0 : Int) ∧ (0 : Int) < n; omega
  | false => exact this
theorem pick_ok (ss : List (List UInt8)) (l : List Int) (a : Nat) (hl : l.length ≤ 9223372036854775807) (hs : ss.length < 4611686018427387904) : FnB Tryd.prog G 8 [tapeB l a] [.c (.ptr 0 0), .c (.sl 1 ss.length (strsF ss))] [.c (.str (ss.getD (nextV l a ss.length).toNat []))] [(0, tapeB l (nextA l a ss.length))] := by
  refine Fn.of' Tryd.func8 (by kernel_rfl) (by kernel_rfl) (by kernel_rfl) (by kernel_rfl) trivial ?_
  have hr := fun h => nextV_rng l a ss.length h
  refine Wp.go (mx := true) (fun _ => mixed) [] 100 [] [] (by kernel_rfl) (by kernel_rfl) (by kernel_rfl) trivial ?_
  refine Wp.cond' (by kernel_rfl) ((↑ss.length : Int) == (0 : Int)) (by kernel_rfl) (fun h0 => ?_) (fun h0 => ?_)
  · have g0 := eq_of_beq h0
    refine Wp.go (mx := true) (fun _ => mixed) [] 100 [] [] (by kernel_rfl) (by kernel_rfl) (by kernel_rfl) trivial ?_
    refine Wp.ret' (by kernel_rfl) ?_
    exact FinQ.blkE (rs' := [V1.c (Cell.str [])]) (hout' := [(0, Blk.box 29 [Cell.sl (1 : Nat) l.length (intsF l), Cell.int .i64 (↑a : Int)])]) (by simp_all [nextV, tapeB, nextA]) [] (by kernel_rfl) (by kernel_rfl) (by kernel_rfl) (by kernel_rfl) (by kernel_rfl) trivial
  · have g0 := ne_of_beq_false h0
    refine Wp.go (mx := true) (fun _ => mixed) [(3, {cs := [(4, cb [0] (next_ok l a (↑ss.length : Int) (by assumption) (by omega)))]})] 100 [] [(0 : Int) ≤ nextV l a (↑ss.length : Int) ∧ nextV l a (↑ss.length : Int) < (↑ss.length : Int)] (by kernel_rfl) (by kernel_rfl) (by kernel_rfl) ((show (0 : Int) ≤ nextV l a (↑ss.length : Int) ∧ nextV l a (↑ss.length : Int) < (↑ss.length : Int) from (by omega))) ?_
    refine Wp.ret' (by kernel_rfl) ?_
    exact FinQ.blk [] (by kernel_rfl) (by kernel_rfl) (by kernel_rfl) (by kernel_rfl) (by kernel_rfl) trivial
end Go.Proofs.Tw
end

section
open Go Go.Sv Go.RowKit
namespace Go.Proofs.Tw
attribute [local irreducible] Wp FinQ resV Ent Pur Go.Sv.Fn Sat0
set_option maxRecDepth 100000
set_option maxHeartbeats 4000000
variable {G : Nat → Option (List Cell)}

/-! kinds of bytes -/
theorem byte_all (p : UInt8 → Bool) (h : (List.range 256).all (fun n => p (UInt8.ofNat n)) = true) (c : UInt8) : p c = true := by
  have := List.all_eq_true.1 h c.toNat (List.mem_range.2 (UInt8.toNat_lt c))
  rwa [UInt8.ofNat_toNat] at this
theorem byte_eq2 {α : Type} [DecidableEq α] (p q : UInt8 → α) (h : (List.range 256).all (fun n => decide (p (UInt8.ofNat n) = q (UInt8.ofNat n))) = true) (c : UInt8) : p c = q c :=
  of_decide_eq_true (byte_all (fun c => decide (p c = q c)) h c)
theorem by_all (p q : UInt8 → Bool) (h : (List.range 256).all (fun n => p (UInt8.ofNat n) == q (UInt8.ofNat n)) = true) : ∀ c : UInt8, [V1.c (Cell.bool (p c))] = [V1.c (Cell.bool (q c))] := by
  intro c
  have h' : p c = q c := eq_of_beq (byte_all (fun c => p c == q c) h c)
  rw [h']
theorem by_fun (p q : UInt8 → Bool) (h : (List.range 256).all (fun n => p (UInt8.ofNat n) == q (UInt8.ofNat n)) = true) (c : UInt8) : p c = q c :=
  eq_of_beq (byte_all (fun c => p c == q c) h c)
theorem by_b {a b : Bool} (h : a = b) : [V1.c (Cell.bool a)] = [V1.c (Cell.bool b)] := by rw [h]
def greatB (c : UInt8) : Bool := 65 ≤ c && c ≤ 90
def smallB (c : UInt8) : Bool := 97 ≤ c && c ≤ 122
def digitB (c : UInt8) : Bool := 48 ≤ c && c ≤ 57
def letterB (c : UInt8) : Bool := greatB c || smallB c
def plainB (c : UInt8) : Bool := letterB c || digitB c || [45, 46, 95, 126].contains c
def tokenB (c : UInt8) : Bool := letterB c || digitB c || [33, 35, 36, 37, 38, 39, 42, 43, 45, 46, 94, 95, 124, 126, 96].contains c
def seenB (c : UInt8) : Bool := 32 ≤ c && c ≤ 126
def bC (c : UInt8) : V1 := .c (.int .u8 (c.toNat : Int))
theorem great_ok (c : UInt8) : Pur Tryd.prog G 82 [.c (.int .u8 (c.toNat : Int))] [.c (.bool (greatB c))] := by
  refine Pur.of Tryd.func82 (by kernel_rfl) (by kernel_rfl) (by kernel_rfl) ?_
  refine Wp.go (mx := true) (fun _ => mixed) [] 100 [] [] (by kernel_rfl) (by kernel_rfl) (by kernel_rfl) trivial ?_
  refine Wp.ret' (by kernel_rfl) ?_
  exact FinQ.pure (rs' := [V1.c (Cell.bool (bif decide ((↑c.toNat : Int) ≥ (65 : Int)) then decide ((↑c.toNat : Int) ≤ (90 : Int)) else false))]) (by kernel_rfl) (by revert c; refine by_all _ _ ?_; kernel_rfl) (by kernel_rfl)
theorem small_ok (c : UInt8) : Pur Tryd.prog G 83 [.c (.int .u8 (c.toNat : Int))] [.c (.bool (smallB c))] := by
  refine Pur.of Tryd.func83 (by kernel_rfl) (by kernel_rfl) (by kernel_rfl) ?_
  refine Wp.go (mx := true) (fun _ => mixed) [] 100 [] [] (by kernel_rfl) (by kernel_rfl) (by kernel_rfl) trivial ?_
  refine Wp.ret' (by kernel_rfl) ?_
  exact FinQ.pure (rs' := [V1.c (Cell.bool (bif decide ((↑c.toNat : Int) ≥ (97 : Int)) then decide ((↑c.toNat : Int) ≤ (122 : Int)) else false))]) (by kernel_rfl) (by revert c; refine by_all _ _ ?_; kernel_rfl) (by kernel_rfl)
theorem digit_ok (c : UInt8) : Pur Tryd.prog G 49 [.c (.int .u8 (c.toNat : Int))] [.c (.bool (digitB c))] := by
  refine Pur.of Tryd.func49 (by kernel_rfl) (by kernel_rfl) (by kernel_rfl) ?_
  refine Wp.go (mx := true) (fun _ => mixed) [] 100 [] [] (by kernel_rfl) (by kernel_rfl) (by kernel_rfl) trivial ?_
  refine Wp.ret' (by kernel_rfl) ?_
  exact FinQ.pure (rs' := [V1.c (Cell.bool (bif decide ((↑c.toNat : Int) ≥ (48 : Int)) then decide ((↑c.toNat : Int) ≤ (57 : Int)) else false))]) (by kernel_rfl) (by revert c; refine by_all _ _ ?_; kernel_rfl) (by kernel_rfl)
theorem digit6_ok (c : UInt8) : Pur Tryd.prog G 50 [.c (.int .u8 (c.toNat : Int))] [.c (.bool (digitB c))] := by
  refine Pur.of Tryd.func50 (by kernel_rfl) (by kernel_rfl) (by kernel_rfl) ?_
  refine Wp.go (mx := true) (fun _ => mixed) [] 100 [] [] (by kernel_rfl) (by kernel_rfl) (by kernel_rfl) trivial ?_
  refine Wp.ret' (by kernel_rfl) ?_
  exact FinQ.pure (rs' := [V1.c (Cell.bool (bif decide ((↑c.toNat : Int) ≥ (48 : Int)) then decide ((↑c.toNat : Int) ≤ (57 : Int)) else false))]) (by kernel_rfl) (by revert c; refine by_all _ _ ?_; kernel_rfl) (by kernel_rfl)
theorem letter6_ok (c : UInt8) : Pur Tryd.prog G 63 [.c (.int .u8 (c.toNat : Int))] [.c (.bool (letterB c))] := by
  refine Pur.of Tryd.func63 (by kernel_rfl) (by kernel_rfl) (by kernel_rfl) ?_
  refine Wp.go (mx := true) (fun _ => mixed) [] 100 [] [] (by kernel_rfl) (by kernel_rfl) (by kernel_rfl) trivial ?_
  refine Wp.ret' (by kernel_rfl) ?_
  exact FinQ.pure (rs' := [V1.c (Cell.bool (bif bif decide ((↑c.toNat : Int) ≥ (65 : Int)) then decide ((↑c.toNat : Int) ≤ (90 : Int)) else false then true else bif decide ((↑c.toNat : Int) ≥ (97 : Int)) then decide ((↑c.toNat : Int) ≤ (122 : Int)) else false))]) (by kernel_rfl) (by revert c; refine by_all _ _ ?_; kernel_rfl) (by kernel_rfl)
theorem ibeq (a b : UInt8) : ((a.toNat : Int) == (b.toNat : Int)) = (a == b) := by
  rw [Bool.eq_iff_iff, beq_iff_eq, beq_iff_eq, Int.ofNat_inj, UInt8.toNat_inj]
theorem dropS (l : List UInt8) (k : Nat) (h : k < l.length) : l.drop k = l.getD k 0 :: l.drop (k + 1) := by
  rw [List.getD_eq_getElem?_getD, List.getElem?_eq_getElem h]; exact List.drop_eq_getElem_cons h
theorem in6_ok (c : UInt8) (s : List UInt8) (hl : s.length < 4611686018427387904) : Pur Tryd.prog G 64 [.c (.int .u8 (c.toNat : Int)), .c (.str s)] [.c (.bool (s.contains c))] := by
  refine Pur.of Tryd.func64 (by kernel_rfl) (by kernel_rfl) (by kernel_rfl) ?_
  refine Wp.go (mx := true) (fun _ => mixed) [] 100 [] [] (by kernel_rfl) (by kernel_rfl) (by kernel_rfl) trivial ?_
  refine Wp.loopK (by kernel_rfl) (fun (k : Nat) => ⟨[(0, TV.v (V1.c (Cell.int .u8 (↑c.toNat : Int)))), (1, TV.v (V1.c (Cell.str s))), (5, TV.v (V1.c (Cell.int .i64 (k : Int))))], [], 32⟩) (fun k => k ≤ s.length ∧ s.contains c = (s.drop k).contains c) (fun k => s.length - k) 0 (Ent.of [] (by kernel_rfl) (by kernel_rfl) (by kernel_rfl) trivial) ⟨Nat.zero_le _, rfl⟩ ?_
  intro k L ⟨hk, hq⟩ again
  rcases Nat.lt_or_ge k s.length with hlt | hge
  · rw [dropS s k hlt, List.contains_cons] at hq
    refine Wp.go (mx := true) (fun _ => mixed) [] 100 [true] [decide ((↑k : Int) < (↑s.length : Int)) = true, (0 : Int) ≤ (↑k : Int) ∧ (↑k : Int) < (↑s.length : Int)] (by kernel_rfl) (by kernel_rfl) (by kernel_rfl) ⟨(by simp; omega), (show (0 : Int) ≤ (↑k : Int) ∧ (↑k : Int) < (↑s.length : Int) from (by omega))⟩ ?_
    refine Wp.cond' (by kernel_rfl) ((↑(s.getD k (0 : UInt8)).toNat : Int) == (↑c.toNat : Int)) (by kernel_rfl) (fun h0 => ?_) (fun h0 => ?_)
    · have g0 := eq_of_beq h0
      refine Wp.go (mx := true) (fun _ => mixed) [] 100 [] [] (by kernel_rfl) (by kernel_rfl) (by kernel_rfl) trivial ?_
      refine Wp.ret' (by kernel_rfl) ?_
      exact FinQ.pure (rs' := [V1.c (Cell.bool true)]) (by kernel_rfl) (by rw [ibeq] at h0; rw [hq, eq_of_beq h0]; simp) (by kernel_rfl)
    · have g0 := ne_of_beq_false h0
      refine Wp.go (mx := true) (fun _ => mixed) [] 100 [] [inR IntKind.i64 ((↑k : Int) + (1 : Int))] (by kernel_rfl) (by kernel_rfl) (by kernel_rfl) (inR64 (by omega) (by omega)) ?_
      exact Wp.lpK (by kernel_rfl) (again _ (k + 1) ⟨hlt, (by rw [ibeq] at h0; rw [hq, show (c == s.getD k 0) = false from by rw [beq_eq_false_iff_ne] at h0 ⊢; exact fun e => h0 e.symm]; rfl)⟩ (by omega) (Ent.of [] (by kernel_rfl) (by kernel_rfl) (by kernel_rfl) trivial))
  · obtain rfl : k = s.length := by omega
    rw [List.drop_length] at hq
    refine Wp.go (mx := true) (fun _ => mixed) [] 100 [false] [decide ((↑s.length : Int) < (↑s.length : Int)) = false] (by kernel_rfl) (by kernel_rfl) (by kernel_rfl) ((show decide ((↑s.length : Int) < (↑s.length : Int)) = false from (by simp; done))) ?_
    refine Wp.ret' (by kernel_rfl) ?_
    exact FinQ.pure (rs' := [V1.c (Cell.bool false)]) (by kernel_rfl) (by simp_all; done) (by kernel_rfl)
theorem plain6_ok (c : UInt8) : Pur Tryd.prog G 53 [.c (.int .u8 (c.toNat : Int))] [.c (.bool (plainB c))] := by
  refine Pur.of Tryd.func53 (by kernel_rfl) (by kernel_rfl) (by kernel_rfl) ?_
  have hl : ([45, 46, 95, 126] : List UInt8).length < 4611686018427387904 := by decide
  refine Wp.go (mx := true) (fun _ => mixed) [(1, {cs := [(1, pc (letter6_ok c)), (4, pc (digit6_ok c)), (8, pc (in6_ok c [(45 : UInt8), 46, 95, 126] (by assumption)))]})] 100 [] [] (by kernel_rfl) (by kernel_rfl) (by kernel_rfl) trivial ?_
  refine Wp.ret' (by kernel_rfl) ?_
  exact FinQ.pure (rs' := [V1.c (Cell.bool (bif bif letterB c then true else digitB c then true else [(45 : UInt8), 46, 95, 126].contains c))]) (by kernel_rfl) rfl (by kernel_rfl)
theorem All_great (s : List UInt8) (hl : s.length < 4611686018427387904) : Pur Tryd.prog G 48 [.c (.str s), .c (.clo 82 0 (fun _ => none) (fun _ _ => .nilif))] [.c (.bool (s.all greatB))] := by
  refine Pur.of Tryd.func48 (by kernel_rfl) (by kernel_rfl) (by kernel_rfl) ?_
  refine Wp.go (mx := true) (fun _ => mixed) [] 100 [] [] (by kernel_rfl) (by kernel_rfl) (by kernel_rfl) trivial ?_
  refine Wp.loopK (by kernel_rfl) (fun (k : Nat) => ⟨[(0, TV.v (V1.c (Cell.str s))), (1, TV.v (V1.c (Cell.clo 82 (0 : Nat) (fun _ => none) fun _ _ => Cell.nilif))), (7, TV.v (V1.c (Cell.int .i64 (↑s.length : Int)))), (8, TV.v (V1.c (Cell.int .i64 (k : Int))))], [], 32⟩) (fun k => k ≤ s.length ∧ s.all greatB = (s.drop k).all greatB) (fun k => s.length - k) 0 (Ent.of [] (by kernel_rfl) (by kernel_rfl) (by kernel_rfl) trivial) ⟨Nat.zero_le _, rfl⟩ ?_
  intro k L ⟨hk, hq⟩ again
  rcases Nat.lt_or_ge k s.length with hlt | hge
  · rw [dropS s k hlt, List.all_cons] at hq
    refine Wp.go (mx := true) (fun _ => mixed) [(4, {cs := [(4, pc (great_ok (s.getD k (0 : UInt8))))]})] 100 [true] [decide ((↑k : Int) < (↑s.length : Int)) = true, (0 : Int) ≤ (↑k : Int) ∧ (↑k : Int) < (↑s.length : Int)] (by kernel_rfl) (by kernel_rfl) (by kernel_rfl) ⟨(by simp; omega), (show (0 : Int) ≤ (↑k : Int) ∧ (↑k : Int) < (↑s.length : Int) from (by omega))⟩ ?_
    refine Wp.cond' (by kernel_rfl) (!greatB (s.getD k (0 : UInt8))) (by kernel_rfl) (fun h0 => ?_) (fun h0 => ?_)
    · have g0 := h0
      simp at g0
      refine Wp.go (mx := true) (fun _ => mixed) [] 100 [] [] (by kernel_rfl) (by kernel_rfl) (by kernel_rfl) trivial ?_
      refine Wp.ret' (by kernel_rfl) ?_
      exact FinQ.pure (rs' := [V1.c (Cell.bool false)]) (by kernel_rfl) (by simp_all; done) (by kernel_rfl)
    · have g0 := h0
      simp at g0
      refine Wp.go (mx := true) (fun _ => mixed) [] 100 [] [inR IntKind.i64 ((↑k : Int) + (1 : Int))] (by kernel_rfl) (by kernel_rfl) (by kernel_rfl) (inR64 (by omega) (by omega)) ?_
      exact Wp.lpK (by kernel_rfl) (again _ (k + 1) (⟨(by assumption), (by simp_all <;> omega)⟩) (by omega) (Ent.of [] (by kernel_rfl) (by kernel_rfl) (by kernel_rfl) trivial))
  · obtain rfl : k = s.length := by omega
    rw [List.drop_length] at hq
    refine Wp.go (mx := true) (fun _ => mixed) [] 100 [false] [decide ((↑s.length : Int) < (↑s.length : Int)) = false] (by kernel_rfl) (by kernel_rfl) (by kernel_rfl) ((show decide ((↑s.length : Int) < (↑s.length : Int)) = false from (by simp; done))) ?_
    refine Wp.ret' (by kernel_rfl) ?_
    exact FinQ.pure (rs' := [V1.c (Cell.bool true)]) (by kernel_rfl) (by simp [*]; done) (by kernel_rfl)
def tokenT (s : List UInt8) : Bool := !(s == []) && s.all tokenB
def foldB (c : UInt8) : UInt8 := if greatB c then c + 32 else c
def foldT (s : List UInt8) : List UInt8 := s.map foldB
def foldN (s : List UInt8) (k : Nat) : List UInt8 := (s.take k).map foldB ++ s.drop k
theorem foldN_len (s : List UInt8) (k : Nat) : (foldN s k).length = s.length := by
  unfold foldN; simp; omega
theorem foldN_at (s : List UInt8) (k : Nat) (h : k < s.length) : (foldN s k).getD k 0 = s.getD k 0 := by
  unfold foldN
  simp only [List.getD, List.getElem?_append]
  rw [if_neg (by simp; omega)]
  simp [Nat.min_eq_left (Nat.le_of_lt h)]
theorem foldN_succ (s : List UInt8) (k : Nat) (h : k < s.length) : foldN s (k + 1) = (foldN s k).set k (foldB (s.getD k 0)) := by
  unfold foldN
  rw [List.take_succ_eq_append_getElem h, List.map_append]
  simp [List.set_append, Nat.min_eq_left (Nat.le_of_lt h), List.getD, h]
  rw [dropS s k h, List.set_cons_zero]
theorem foldN_end (s : List UInt8) : foldN s s.length = foldT s := by simp [foldN, foldT]
theorem great_32 (c : UInt8) (h : greatB c = true) : IntKind.u8.wrap (IntKind.u8.wrap ((c.toNat : Int) - 65) + 97) = ((foldB c).toNat : Int) := by
  have : ∀ c : UInt8, (!(greatB c) || IntKind.u8.wrap (IntKind.u8.wrap ((c.toNat : Int) - 65) + 97) == ((foldB c).toNat : Int)) = true := byte_all _ (by kernel_rfl)
  have := this c
  rw [h] at this
  exact eq_of_beq this
/-! Cut -/
theorem occ_at (s sep : List UInt8) (k : Nat) (hk : k + sep.length ≤ s.length) : Lib.occAt s sep k = (List.drop k (List.take (k + sep.length) s) == sep) := by
  rw [Lib.occAt_iff_take s sep k hk, List.take_drop]
theorem occ_none {s sep : List UInt8} (hs : sep ≠ []) {k : Nat} (hk : ¬ (k + sep.length ≤ s.length)) (hall : ∀ j, j < k → Lib.occAt s sep j = false) : Lib.index s sep = -1 := by
  refine Lib.index_none fun j hj => ?_
  rcases Nat.lt_or_ge j k with h | h
  · exact hall j h
  · cases hq : Lib.occAt s sep j with
    | false => rfl
    | true =>
      rcases Lib.occAt_room hq with h' | h'
      · omega
      · exact (hs h').elim
theorem cut6_ok (s sep : List UInt8) (hl : s.length < 4611686018427387904) (hs : sep ≠ []) (hn : sep.length < 1000) : Pur Tryd.prog G 28 [.c (.str s), .c (.str sep)] [.c (.str (Lib.cut s sep).1), .c (.str (Lib.cut s sep).2.1), .c (.bool (Lib.cut s sep).2.2)] := by
  refine Pur.of Tryd.func28 (by kernel_rfl) (by kernel_rfl) (by kernel_rfl) ?_
  refine Wp.go (mx := true) (fun _ => mixed) [] 100 [] [] (by kernel_rfl) (by kernel_rfl) (by kernel_rfl) trivial ?_
  refine Wp.loopK (by kernel_rfl) (fun (k : Nat) => ⟨[(0, TV.v (V1.c (Cell.str s))), (1, TV.v (V1.c (Cell.str sep))), (7, TV.v (V1.c (Cell.int .i64 (k : Int))))], [], 64⟩) (fun k => k ≤ s.length ∧ ∀ j, j < k → Lib.occAt s sep j = false) (fun k => s.length - k) 0 (Ent.of [] (by kernel_rfl) (by kernel_rfl) (by kernel_rfl) trivial) ⟨Nat.zero_le _, fun _ h => absurd h (Nat.not_lt_zero _)⟩ ?_
  intro k L ⟨hk, hall⟩ again
  have hp : 0 < sep.length := List.length_pos_iff.2 hs
  by_cases hlt : k + sep.length ≤ s.length
  · have ho := occ_at s sep k hlt
    cases hq : Lib.occAt s sep k with
    | true =>
      have hi := Lib.index_first hk hq hall
      have hc : Lib.cut s sep = (s.take k, s.drop (k + sep.length), true) := by
        unfold Lib.cut; rw [hi]; simp
      rw [hc]
      rw [hq] at ho
      have ho := ho.symm
      refine Wp.go (mx := true) (fun _ => mixed) [] 100 [true, true] [inR IntKind.i64 ((↑k : Int) + (↑sep.length : Int)), decide ((↑k : Int) + (↑sep.length : Int) ≤ (↑s.length : Int)) = true, inR IntKind.i64 ((↑k : Int) + (↑sep.length : Int)), (0 : Int) ≤ Int.ofNat k ∧ Int.ofNat k ≤ Int.ofNat (k + sep.length) ∧ Int.ofNat (k + sep.length) ≤ (↑s.length : Int), (List.drop (Int.ofNat k).toNat (List.take (Int.ofNat (k + sep.length)).toNat s) == sep) = true, (0 : Int) ≤ Int.ofNat (0) ∧ Int.ofNat (0) ≤ Int.ofNat k ∧ Int.ofNat k ≤ (↑s.length : Int), inR IntKind.i64 ((↑k : Int) + (↑sep.length : Int)), (0 : Int) ≤ Int.ofNat (k + sep.length) ∧ Int.ofNat (k + sep.length) ≤ Int.ofNat s.length ∧ Int.ofNat s.length ≤ (↑s.length : Int)] (by kernel_rfl) (by kernel_rfl) (by kernel_rfl) ⟨inR64 (by omega) (by omega), (by simp; omega), inR64 (by omega) (by omega), ⟨(by simp; done), ⟨(by simp; omega), (by simp; omega)⟩⟩, (by assumption), ⟨(by decide), ⟨(by simp; done), (by simp; omega)⟩⟩, inR64 (by omega) (by omega), ⟨(by simp; omega), ⟨(by simp; omega), (by simp; done)⟩⟩⟩ ?_
      refine Wp.ret' (by kernel_rfl) ?_
      exact FinQ.pure (rs' := [V1.c (Cell.str (List.drop (0 : Nat) (List.take (Int.ofNat k).toNat s))), V1.c (Cell.str (List.drop (Int.ofNat (k + sep.length)).toNat (List.take (Int.ofNat s.length).toNat s))), V1.c (Cell.bool true)]) (by kernel_rfl) (by simp only [Int.ofNat_eq_natCast, Int.toNat_natCast, List.take_length, List.drop_zero]) (by kernel_rfl)
    | false =>
      have hall' := up1 hall hq
      rw [hq] at ho
      have ho := ho.symm
      refine Wp.go (mx := true) (fun _ => mixed) [] 100 [true, false] [inR IntKind.i64 ((↑k : Int) + (↑sep.length : Int)), decide ((↑k : Int) + (↑sep.length : Int) ≤ (↑s.length : Int)) = true, inR IntKind.i64 ((↑k : Int) + (↑sep.length : Int)), (0 : Int) ≤ Int.ofNat k ∧ Int.ofNat k ≤ Int.ofNat (k + sep.length) ∧ Int.ofNat (k + sep.length) ≤ (↑s.length : Int), (List.drop (Int.ofNat k).toNat (List.take (Int.ofNat (k + sep.length)).toNat s) == sep) = false, inR IntKind.i64 ((↑k : Int) + (1 : Int))] (by kernel_rfl) (by kernel_rfl) (by kernel_rfl) ⟨inR64 (by omega) (by omega), (by simp; omega), inR64 (by omega) (by omega), ⟨(by simp; done), ⟨(by simp; omega), (by simp; omega)⟩⟩, (by assumption), inR64 (by omega) (by omega)⟩ ?_
      exact Wp.lpK (by kernel_rfl) (again _ (k + 1) (⟨(by omega), (by assumption)⟩) (by omega) (Ent.of [] (by kernel_rfl) (by kernel_rfl) (by kernel_rfl) trivial))
  · have hi := occ_none hs hlt hall
    have hc : Lib.cut s sep = (s, [], false) := by
      unfold Lib.cut; rw [hi]; rfl
    rw [hc]
    refine Wp.go (mx := true) (fun _ => mixed) [] 100 [false] [inR IntKind.i64 ((↑k : Int) + (↑sep.length : Int)), decide ((↑k : Int) + (↑sep.length : Int) ≤ (↑s.length : Int)) = false] (by kernel_rfl) (by kernel_rfl) (by kernel_rfl) ⟨inR64 (by omega) (by omega), (show decide ((↑k : Int) + (↑sep.length : Int) ≤ (↑s.length : Int)) = false from (by simp; omega))⟩ ?_
    refine Wp.ret' (by kernel_rfl) ?_
    exact FinQ.pure (rs' := [V1.c (Cell.str s), V1.c (Cell.str []), V1.c (Cell.bool false)]) (by kernel_rfl) rfl (by kernel_rfl)
end Go.Proofs.Tw
end

section
open Go Go.Sv
namespace Go.Proofs.Tw
attribute [local irreducible] Wp FinQ resV Ent Pur Go.Sv.Fn Sat0
set_option maxRecDepth 100000
set_option maxHeartbeats 4000000
variable {G : Nat → Option (List Cell)}

def fldF (l : List FT) : Nat → Nat → Cell := rowF encF .nil l
def fGet (l : List FT) (n : List UInt8) : Option (List UInt8) := (l.find? fun f => f.name == n).map (·.value)
theorem fGet_nil (n : List UInt8) : fGet [] n = none := rfl
theorem fGet_cons (x : FT) (l : List FT) (n : List UInt8) : fGet (x :: l) n = if x.name == n then some x.value else fGet l n := by
  unfold fGet
  rw [List.find?_cons]
  cases x.name == n <;> rfl
theorem drop_cons {α : Type} (l : List α) (k : Nat) (d : α) (h : k < l.length) : l.drop k = l.getD k d :: l.drop (k + 1) := by
  rw [List.getD_eq_getElem?_getD, List.getElem?_eq_getElem h]; exact List.drop_eq_getElem_cons h
theorem get10_ok (l : List FT) (n : List UInt8) (hl : l.length < 4611686018427387904) : Pur Tryd.prog G 40 [.c (.sl 2 l.length (fldF l)), .c (.str n)] [.c (.str ((fGet l n).getD [])), .c (.bool (fGet l n).isSome)] := by
  refine Pur.of Tryd.func40 (by kernel_rfl) (by kernel_rfl) (by kernel_rfl) ?_
  refine Wp.go (mx := true) (fun _ => mixed) [] 100 [] [] (by kernel_rfl) (by kernel_rfl) (by kernel_rfl) trivial ?_
  refine Wp.loopK (by kernel_rfl) (fun (k : Nat) => ⟨[(0, TV.v (V1.c (Cell.sl (2 : Nat) l.length (fldF l)))), (1, TV.v (V1.c (Cell.str n))), (6, .v (.c (.int .i64 (k : Int))))], [], 48⟩) (fun k => k ≤ l.length ∧ fGet l n = fGet (l.drop k) n) (fun k => l.length - k) 0 (Ent.of [] (by kernel_rfl) (by kernel_rfl) (by kernel_rfl) trivial) ⟨Nat.zero_le _, rfl⟩ ?_
  intro k L ⟨hk, hq⟩ again
  rcases Nat.lt_or_ge k l.length with hlt | hge
  · rw [drop_cons l k ⟨[], []⟩ hlt, fGet_cons] at hq
    refine Wp.go (mx := true) (fun _ => mixed) [] 100 [true] [decide ((↑k : Int) < (↑l.length : Int)) = true, (0 : Int) ≤ (↑k : Int) ∧ (↑k : Int) < (↑l.length : Int)] (by kernel_rfl) (by kernel_rfl) (by kernel_rfl) ⟨(by simp; omega), (show (0 : Int) ≤ (↑k : Int) ∧ (↑k : Int) < (↑l.length : Int) from (by omega))⟩ ?_
    refine Wp.cond' (by kernel_rfl) ((l.getD (↑k : Int).toNat FT.nil).name == n) (by kernel_rfl) (fun h0 => ?_) (fun h0 => ?_)
    · have g0 := eq_of_beq h0
      refine Wp.go (mx := true) (fun _ => mixed) [] 100 [] [(0 : Int) ≤ (↑k : Int) ∧ (↑k : Int) < (↑l.length : Int)] (by kernel_rfl) (by kernel_rfl) (by kernel_rfl) ((show (0 : Int) ≤ (↑k : Int) ∧ (↑k : Int) < (↑l.length : Int) from (by omega))) ?_
      refine Wp.ret' (by kernel_rfl) ?_
      exact FinQ.pure (rs' := [V1.c (Cell.str (l.getD (↑k : Int).toNat FT.nil).value), V1.c (Cell.bool true)]) (by kernel_rfl) (by simp_all [fGet]; done) (by kernel_rfl)
    · have g0 := ne_of_beq_false h0
      refine Wp.go (mx := true) (fun _ => mixed) [] 100 [] [inR IntKind.i64 ((↑k : Int) + (1 : Int))] (by kernel_rfl) (by kernel_rfl) (by kernel_rfl) (inR64 (by omega) (by omega)) ?_
      exact Wp.lpK (by kernel_rfl) (again _ (k + 1) (⟨(by assumption), (by simp_all <;> omega)⟩) (by omega) (Ent.of [] (by kernel_rfl) (by kernel_rfl) (by kernel_rfl) trivial))
  · obtain rfl : k = l.length := by omega
    rw [List.drop_length, fGet_nil] at hq
    refine Wp.go (mx := true) (fun _ => mixed) [] 100 [false] [decide ((↑l.length : Int) < (↑l.length : Int)) = false] (by kernel_rfl) (by kernel_rfl) (by kernel_rfl) ((show decide ((↑l.length : Int) < (↑l.length : Int)) = false from (by simp; done))) ?_
    refine Wp.ret' (by kernel_rfl) ?_
    exact FinQ.pure (rs' := [V1.c (Cell.str []), V1.c (Cell.bool false)]) (by kernel_rfl) (by simp [hq]; done) (by kernel_rfl)
theorem has10_ok (l : List FT) (n : List UInt8) (hl : l.length < 4611686018427387904) : Pur Tryd.prog G 22 [.c (.sl 2 l.length (fldF l)), .c (.str n)] [.c (.bool (fGet l n).isSome)] := by
  refine Pur.of Tryd.func22 (by kernel_rfl) (by kernel_rfl) (by kernel_rfl) ?_
  refine Wp.go (mx := true) (fun _ => mixed) [(1, {cs := [(2, pc (get10_ok l n (by assumption)))]})] 100 [] [] (by kernel_rfl) (by kernel_rfl) (by kernel_rfl) trivial ?_
  refine Wp.ret' (by kernel_rfl) ?_
  exact FinQ.pure (rs' := [V1.c (Cell.bool (fGet l n).isSome)]) (by kernel_rfl) rfl (by kernel_rfl)
def names10 : List (List UInt8) := [[97], [98], [99, 111, 100, 101], [115, 116, 97, 116, 101], [120, 32, 121], [195, 169], [61], [38], [126]]
def vals10 : List (List UInt8) := [[], [49], [97, 32, 98], [126, 65, 103, 65, 65, 65, 65, 69, 126], [37], [43], [0], [104, 116, 116, 112, 115, 58, 47, 47, 99, 49, 47, 99, 98]]
def pickT (ss : List (List UInt8)) (ns : List Int) (a : Nat) : List UInt8 := ss.getD (nextV ns a ss.length).toNat []
/-- The fields that a tape gives. -/
def fldsN (ns : List Int) : Nat → Nat → List FT → List FT
  | 0, _, l => l
  | k + 1, a, l => if a < ns.length then fldsN ns k (nextA ns (nextA ns a 9) 8) (if (fGet l (pickT names10 ns a)).isSome then l else l ++ [⟨pickT names10 ns a, pickT vals10 ns (nextA ns a 9)⟩]) else l
def fldsT (ns : List Int) (m : Nat) : List FT := fldsN ns m 0 []
theorem strs_lit (l : List (List UInt8)) {cs : List Cell} (hc : cs = l.map Cell.str) {n : Nat} (hn : n = l.length) : EqvD (.c (.sl 1 n (fun i j => nthD cs (i * 1 + j)))) (.c (.sl 1 l.length (strsF l))) := by
  subst hc hn
  refine EqvD.sl rfl fun i hi j hj => ?_
  obtain rfl : j = 0 := by omega
  simp [strsF, nthD, nth_eq, List.getD, hi]
theorem has10_n (l : List FT) (n : Nat) (s : List UInt8) (hn : n = l.length) (hl : n < 4611686018427387904) : Pur Tryd.prog G 22 [.c (.sl 2 n (fldF l)), .c (.str s)] [.c (.bool (fGet l s).isSome)] := by
  subst hn
  exact has10_ok l s hl
end Go.Proofs.Tw
end

section
open Go Go.Sv
namespace Go.Proofs.Tw
attribute [local irreducible] Wp FinQ resV Ent Pur Go.Sv.Fn Sat0
set_option maxRecDepth 100000
set_option maxHeartbeats 4000000
variable {G : Nat → Option (List Cell)}

/-- An address. -/
structure UT where
  (host path : List UInt8) (query : List FT)
def encU (u : UT) : List Cell := [.str u.host, .str u.path, encH u.query]
def hostsU : List (List UInt8) := [[97, 115], [99, 49], [99, 50], [114, 115], [97, 116], [97, 45, 49, 46, 98], [48]]
def pathsU : List (List UInt8) := [[47], [47, 99, 98], [47, 115, 116, 97, 114, 116], [47, 97, 117, 116, 104, 111, 114, 105, 122, 101], [47, 97, 47, 98, 47, 47], [47, 126, 120, 95, 49, 46, 50, 45, 51]]
/-- The address that a tape gives. -/
def uriT (ns : List Int) : UT := ⟨pickT hostsU ns 0, pickT pathsU ns (nextA ns 0 7), fldsT ns (nextV ns (nextA ns (nextA ns 0 7) 6) 6).toNat⟩
def hostB (c : UInt8) : Bool := smallB c || digitB c || c == 45 || c == 46
def pathB (c : UInt8) : Bool := plainB c || c == 47
def hostT (s : List UInt8) : Bool := s.all hostB && (decide (1 ≤ s.length) && decide (s.length ≤ 64))
def pathT (s : List UInt8) : Bool := s.all pathB && (decide (1 ≤ s.length) && s.getD 0 0 == 47)
end Go.Proofs.Tw
end

section
open Go Go.Sv Go.RowKit
namespace Go.Proofs.Tw
attribute [local irreducible] Wp FinQ resV Ent Pur Go.Sv.Fn Sat0
set_option maxRecDepth 100000
set_option maxHeartbeats 4000000
variable {G : Nat → Option (List Cell)}

/-! more kinds of bytes -/
def sixtyB (c : UInt8) : Bool := greatB c || smallB c || digitB c || c == 45 || c == 95
theorem sixty_ok (c : UInt8) : Pur Tryd.prog G 74 [.c (.int .u8 (c.toNat : Int))] [.c (.bool (sixtyB c))] := by
  refine Pur.of Tryd.func74 (by kernel_rfl) (by kernel_rfl) (by kernel_rfl) ?_
  refine Wp.go (mx := true) (fun _ => mixed) [(1, {cs := [(1, pc (great_ok c)), (4, pc (small_ok c)), (8, pc (digit_ok c))]})] 100 [] [] (by kernel_rfl) (by kernel_rfl) (by kernel_rfl) trivial ?_
  refine Wp.ret' (by kernel_rfl) ?_
  exact FinQ.pure (rs' := [V1.c (Cell.bool (bif bif bif bif greatB c then true else smallB c then true else digitB c then true else (↑c.toNat : Int) == (45 : Int) then true else (↑c.toNat : Int) == (95 : Int)))]) (by kernel_rfl) (by revert c; refine by_all _ _ ?_; kernel_rfl) (by kernel_rfl)
theorem plain_ok (c : UInt8) : Pur Tryd.prog G 61 [.c (.int .u8 (c.toNat : Int))] [.c (.bool (plainB c))] := by
  refine Pur.of Tryd.func61 (by kernel_rfl) (by kernel_rfl) (by kernel_rfl) ?_
  refine Wp.go (mx := true) (fun _ => mixed) [(1, {cs := [(1, pc (sixty_ok c))]})] 100 [] [] (by kernel_rfl) (by kernel_rfl) (by kernel_rfl) trivial ?_
  refine Wp.ret' (by kernel_rfl) ?_
  exact FinQ.pure (rs' := [V1.c (Cell.bool (bif bif sixtyB c then true else (↑c.toNat : Int) == (46 : Int) then true else (↑c.toNat : Int) == (126 : Int)))]) (by kernel_rfl) (by revert c; refine by_all _ _ ?_; kernel_rfl) (by kernel_rfl)
theorem All_plain (s : List UInt8) (hl : s.length < 4611686018427387904) : Pur Tryd.prog G 48 [.c (.str s), .c (.clo 61 0 (fun _ => none) (fun _ _ => .nilif))] [.c (.bool (s.all plainB))] := by
  refine Pur.of Tryd.func48 (by kernel_rfl) (by kernel_rfl) (by kernel_rfl) ?_
  refine Wp.go (mx := true) (fun _ => mixed) [] 100 [] [] (by kernel_rfl) (by kernel_rfl) (by kernel_rfl) trivial ?_
  refine Wp.loopK (by kernel_rfl) (fun (k : Nat) => ⟨[(0, TV.v (V1.c (Cell.str s))), (1, TV.v (V1.c (Cell.clo 61 (0 : Nat) (fun _ => none) fun _ _ => Cell.nilif))), (7, TV.v (V1.c (Cell.int .i64 (↑s.length : Int)))), (8, TV.v (V1.c (Cell.int .i64 (k : Int))))], [], 32⟩) (fun k => k ≤ s.length ∧ s.all plainB = (s.drop k).all plainB) (fun k => s.length - k) 0 (Ent.of [] (by kernel_rfl) (by kernel_rfl) (by kernel_rfl) trivial) ⟨Nat.zero_le _, rfl⟩ ?_
  intro k L ⟨hk, hq⟩ again
  rcases Nat.lt_or_ge k s.length with hlt | hge
  · rw [dropS s k hlt, List.all_cons] at hq
    refine Wp.go (mx := true) (fun _ => mixed) [(4, {cs := [(4, pc (plain_ok (s.getD k (0 : UInt8))))]})] 100 [true] [decide ((↑k : Int) < (↑s.length : Int)) = true, (0 : Int) ≤ (↑k : Int) ∧ (↑k : Int) < (↑s.length : Int)] (by kernel_rfl) (by kernel_rfl) (by kernel_rfl) ⟨(by simp; omega), (show (0 : Int) ≤ (↑k : Int) ∧ (↑k : Int) < (↑s.length : Int) from (by omega))⟩ ?_
    refine Wp.cond' (by kernel_rfl) (!plainB (s.getD k (0 : UInt8))) (by kernel_rfl) (fun h0 => ?_) (fun h0 => ?_)
    · have g0 := h0
      simp at g0
      refine Wp.go (mx := true) (fun _ => mixed) [] 100 [] [] (by kernel_rfl) (by kernel_rfl) (by kernel_rfl) trivial ?_
      refine Wp.ret' (by kernel_rfl) ?_
      exact FinQ.pure (rs' := [V1.c (Cell.bool false)]) (by kernel_rfl) (by simp_all; done) (by kernel_rfl)
    · have g0 := h0
      simp at g0
      refine Wp.go (mx := true) (fun _ => mixed) [] 100 [] [inR IntKind.i64 ((↑k : Int) + (1 : Int))] (by kernel_rfl) (by kernel_rfl) (by kernel_rfl) (inR64 (by omega) (by omega)) ?_
      exact Wp.lpK (by kernel_rfl) (again _ (k + 1) (⟨(by assumption), (by simp_all <;> omega)⟩) (by omega) (Ent.of [] (by kernel_rfl) (by kernel_rfl) (by kernel_rfl) trivial))
  · obtain rfl : k = s.length := by omega
    rw [List.drop_length] at hq
    refine Wp.go (mx := true) (fun _ => mixed) [] 100 [false] [decide ((↑s.length : Int) < (↑s.length : Int)) = false] (by kernel_rfl) (by kernel_rfl) (by kernel_rfl) ((show decide ((↑s.length : Int) < (↑s.length : Int)) = false from (by simp; done))) ?_
    refine Wp.ret' (by kernel_rfl) ?_
    exact FinQ.pure (rs' := [V1.c (Cell.bool true)]) (by kernel_rfl) (by simp [*]; done) (by kernel_rfl)
theorem All_digit (s : List UInt8) (hl : s.length < 4611686018427387904) : Pur Tryd.prog G 48 [.c (.str s), .c (.clo 49 0 (fun _ => none) (fun _ _ => .nilif))] [.c (.bool (s.all digitB))] := by
  refine Pur.of Tryd.func48 (by kernel_rfl) (by kernel_rfl) (by kernel_rfl) ?_
  refine Wp.go (mx := true) (fun _ => mixed) [] 100 [] [] (by kernel_rfl) (by kernel_rfl) (by kernel_rfl) trivial ?_
  refine Wp.loopK (by kernel_rfl) (fun (k : Nat) => ⟨[(0, TV.v (V1.c (Cell.str s))), (1, TV.v (V1.c (Cell.clo 49 (0 : Nat) (fun _ => none) fun _ _ => Cell.nilif))), (7, TV.v (V1.c (Cell.int .i64 (↑s.length : Int)))), (8, TV.v (V1.c (Cell.int .i64 (k : Int))))], [], 32⟩) (fun k => k ≤ s.length ∧ s.all digitB = (s.drop k).all digitB) (fun k => s.length - k) 0 (Ent.of [] (by kernel_rfl) (by kernel_rfl) (by kernel_rfl) trivial) ⟨Nat.zero_le _, rfl⟩ ?_
  intro k L ⟨hk, hq⟩ again
  rcases Nat.lt_or_ge k s.length with hlt | hge
  · rw [dropS s k hlt, List.all_cons] at hq
    refine Wp.go (mx := true) (fun _ => mixed) [(4, {cs := [(4, pc (digit_ok (s.getD k (0 : UInt8))))]})] 100 [true] [decide ((↑k : Int) < (↑s.length : Int)) = true, (0 : Int) ≤ (↑k : Int) ∧ (↑k : Int) < (↑s.length : Int)] (by kernel_rfl) (by kernel_rfl) (by kernel_rfl) ⟨(by simp; omega), (show (0 : Int) ≤ (↑k : Int) ∧ (↑k : Int) < (↑s.length : Int) from (by omega))⟩ ?_
    refine Wp.cond' (by kernel_rfl) (!digitB (s.getD k (0 : UInt8))) (by kernel_rfl) (fun h0 => ?_) (fun h0 => ?_)
    · have g0 := h0
      simp at g0
      refine Wp.go (mx := true) (fun _ => mixed) [] 100 [] [] (by kernel_rfl) (by kernel_rfl) (by kernel_rfl) trivial ?_
      refine Wp.ret' (by kernel_rfl) ?_
      exact FinQ.pure (rs' := [V1.c (Cell.bool false)]) (by kernel_rfl) (by simp_all; done) (by kernel_rfl)
    · have g0 := h0
      simp at g0
      refine Wp.go (mx := true) (fun _ => mixed) [] 100 [] [inR IntKind.i64 ((↑k : Int) + (1 : Int))] (by kernel_rfl) (by kernel_rfl) (by kernel_rfl) (inR64 (by omega) (by omega)) ?_
      exact Wp.lpK (by kernel_rfl) (again _ (k + 1) (⟨(by assumption), (by simp_all <;> omega)⟩) (by omega) (Ent.of [] (by kernel_rfl) (by kernel_rfl) (by kernel_rfl) trivial))
  · obtain rfl : k = s.length := by omega
    rw [List.drop_length] at hq
    refine Wp.go (mx := true) (fun _ => mixed) [] 100 [false] [decide ((↑s.length : Int) < (↑s.length : Int)) = false] (by kernel_rfl) (by kernel_rfl) (by kernel_rfl) ((show decide ((↑s.length : Int) < (↑s.length : Int)) = false from (by simp; done))) ?_
    refine Wp.ret' (by kernel_rfl) ?_
    exact FinQ.pure (rs' := [V1.c (Cell.bool true)]) (by kernel_rfl) (by simp [*]; done) (by kernel_rfl)
theorem hosted_b (h : List UInt8) : (bif bif !h == [] then decide ((h.length : Int) ≤ 64) else false then h.all hostB else false) = hostT h := by
  unfold hostT
  cases h with
  | nil => rfl
  | cons a r =>
    rw [show ((!(a :: r) == []) = true) from rfl, show decide (((a :: r).length : Int) ≤ 64) = decide ((a :: r).length ≤ 64) from decide_eq_decide.2 (by omega), show decide (1 ≤ (a :: r).length) = true from decide_eq_true (by simp)]
    cases decide ((a :: r).length ≤ 64) <;> simp
theorem pathed_b (p : List UInt8) : (bif Lib.hasPrefix p [47] then p.all pathB else false) = pathT p := by
  unfold pathT
  cases p with
  | nil => rfl
  | cons a r =>
    have : Lib.hasPrefix (a :: r) [47] = (a == 47) := by
      simp only [Lib.hasPrefix, List.isPrefixOf, Bool.and_true]
      exact Bool.beq_comm
    rw [this, show decide (1 ≤ (a :: r).length) = true from decide_eq_true (by simp), show (a :: r).getD 0 0 = a from rfl]
    cases (a == 47) <;> simp
end Go.Proofs.Tw
end

section
open Go Go.Sv
namespace Go.Proofs.Tw
attribute [local irreducible] Wp FinQ resV Ent Pur Go.Sv.Fn Sat0
set_option maxRecDepth 100000
set_option maxHeartbeats 4000000

/-! cookies -/
def wdT (s : List UInt8) : Bool := s.all plainB && (decide (1 ≤ s.length) && decide (s.length ≤ 128))
theorem wd_b1 (s : List UInt8) : (bif bif !s == [] then decide ((s.length : Int) ≤ 128) else false then s.all plainB else false) = wdT s := by
  unfold wdT
  cases s with
  | nil => rfl
  | cons a r =>
    rw [show ((!(a :: r) == []) = true) from rfl, show decide (((a :: r).length : Int) ≤ 128) = decide ((a :: r).length ≤ 128) from decide_eq_decide.2 (by omega), show decide (1 ≤ (a :: r).length) = true from decide_eq_true (by simp)]
    cases decide ((a :: r).length ≤ 128) <;> simp
theorem wd_b2 (s : List UInt8) (h : s.all plainB = true) : (bif decide ((s.length : Int) ≥ 1) then decide ((s.length : Int) ≤ 128) else false) = wdT s := by
  unfold wdT
  rw [h, Bool.true_and, Bool.cond_false_right]
  congr 1 <;> (apply decide_eq_decide.2; omega)
theorem word_ok {G : Nat → Option (List Cell)} (s : List UInt8) (hl : s.length < 4611686018427387904) : Pur Tryd.prog G 51 [.c (.str s)] [.c (.bool (wdT s))] := by
  refine Pur.of Tryd.func51 (by kernel_rfl) (by kernel_rfl) (by kernel_rfl) ?_
  rw [← wd_b1]
  refine Wp.go (mx := true) (fun _ => mixed) [(1, {cs := [(9, pc (All_plain s (by assumption)))]})] 100 [] [] (by kernel_rfl) (by kernel_rfl) (by kernel_rfl) trivial ?_
  refine Wp.ret' (by kernel_rfl) ?_
  exact FinQ.pure (rs' := [V1.c (Cell.bool (bif bif !s == [] then decide ((↑s.length : Int) ≤ (128 : Int)) else false then s.all plainB else false))]) (by kernel_rfl) rfl (by kernel_rfl)
theorem word6_ok {G : Nat → Option (List Cell)} (s : List UInt8) (hl : s.length < 4611686018427387904) : Pur Tryd.prog G 38 [.c (.str s)] [.c (.bool (wdT s))] := by
  refine Pur.of Tryd.func38 (by kernel_rfl) (by kernel_rfl) (by kernel_rfl) ?_
  refine Wp.go (mx := true) (fun _ => mixed) [] 100 [] [] (by kernel_rfl) (by kernel_rfl) (by kernel_rfl) trivial ?_
  refine Wp.loopK (by kernel_rfl) (fun (k : Nat) => ⟨[(0, TV.v (V1.c (Cell.str s))), (3, TV.v (V1.c (Cell.int .i64 (k : Int))))], [], 32⟩) (fun k => k ≤ s.length ∧ s.all plainB = (s.drop k).all plainB) (fun k => s.length - k) 0 (Ent.of [] (by kernel_rfl) (by kernel_rfl) (by kernel_rfl) trivial) ⟨Nat.zero_le _, rfl⟩ ?_
  intro k L ⟨hk, hq⟩ again
  rcases Nat.lt_or_ge k s.length with hlt | hge
  · rw [dropS s k hlt, List.all_cons] at hq
    cases hp : plainB (s.getD k 0) with
    | true =>
      rw [hp, Bool.true_and] at hq
      have c := plain6_ok (G := G) (s.getD k 0)
      rw [hp] at c
      refine Wp.go (mx := true) (fun _ => mixed) [(4, {cs := [(3, pc c)]})] 100 [true, false] [decide ((↑k : Int) < (↑s.length : Int)) = true, (0 : Int) ≤ (↑k : Int) ∧ (↑k : Int) < (↑s.length : Int), (!true) = false, inR IntKind.i64 ((↑k : Int) + (1 : Int))] (by kernel_rfl) (by kernel_rfl) (by kernel_rfl) ⟨(by simp; omega), (by omega), rfl, inR64 (by omega) (by omega)⟩ ?_
      exact Wp.lpK (by kernel_rfl) (again _ (k + 1) ⟨(by assumption), (by assumption)⟩ (by omega) (Ent.of [] (by kernel_rfl) (by kernel_rfl) (by kernel_rfl) trivial))
    | false =>
      rw [hp, Bool.false_and] at hq
      have hw : wdT s = false := by unfold wdT; rw [hq]; rfl
      have c := plain6_ok (G := G) (s.getD k 0)
      rw [hp] at c
      rw [hw]
      refine Wp.go (mx := true) (fun _ => mixed) [(4, {cs := [(3, pc c)]})] 100 [true, true] [decide ((↑k : Int) < (↑s.length : Int)) = true, (0 : Int) ≤ (↑k : Int) ∧ (↑k : Int) < (↑s.length : Int), (!false) = true] (by kernel_rfl) (by kernel_rfl) (by kernel_rfl) ⟨(by simp; omega), (by omega), rfl⟩ ?_
      refine Wp.ret' (by kernel_rfl) ?_
      exact FinQ.pure (rs' := [V1.c (Cell.bool false)]) (by kernel_rfl) rfl (by kernel_rfl)
  · obtain rfl : k = s.length := by omega
    rw [List.drop_length] at hq
    rw [← wd_b2 s hq]
    refine Wp.go (mx := true) (fun _ => mixed) [] 100 [false] [decide ((↑s.length : Int) < (↑s.length : Int)) = false] (by kernel_rfl) (by kernel_rfl) (by kernel_rfl) (show decide ((↑s.length : Int) < (↑s.length : Int)) = false from (by simp; done)) ?_
    refine Wp.ret' (by kernel_rfl) ?_
    exact FinQ.pure (rs' := [V1.c (Cell.bool (bif decide ((↑s.length : Int) ≥ (1 : Int)) then decide ((↑s.length : Int) ≤ (128 : Int)) else false))]) (by kernel_rfl) rfl (by kernel_rfl)
def mayC (f : FT) : Bool := bif wdT f.name then wdT f.value else false
def pairC (f : FT) : List UInt8 := f.name ++ [61] ++ f.value
theorem mayC_ok {G : Nat → Option (List Cell)} (f : FT) (h1 : f.name.length < 1000000000) (h2 : f.value.length < 1000000000) : Pur Tryd.prog G 36 [.agg (encF f)] [.c (.bool (mayC f))] := by
  refine Pur.of Tryd.func36 (by kernel_rfl) (by kernel_rfl) (by kernel_rfl) ?_
  refine Wp.go (mx := true) (fun _ => mixed) [(1, {cs := [(2, pc (word_ok f.name (by omega))), (6, pc (word_ok f.value (by omega)))]})] 100 [] [] (by kernel_rfl) (by kernel_rfl) (by kernel_rfl) trivial ?_
  refine Wp.ret' (by kernel_rfl) ?_
  exact FinQ.pure (rs' := [V1.c (Cell.bool (bif wdT f.name then wdT f.value else false))]) (by kernel_rfl) rfl (by kernel_rfl)
theorem mayC14_ok {G : Nat → Option (List Cell)} (f : FT) (h1 : f.name.length < 1000000000) (h2 : f.value.length < 1000000000) : Pur Tryd.prog G 20 [.agg (encF f)] [.c (.bool (mayC f))] := by
  refine Pur.of Tryd.func20 (by kernel_rfl) (by kernel_rfl) (by kernel_rfl) ?_
  refine Wp.go (mx := true) (fun _ => mixed) [(1, {cs := [(2, pc (word6_ok f.name (by omega))), (6, pc (word6_ok f.value (by omega)))]})] 100 [] [] (by kernel_rfl) (by kernel_rfl) (by kernel_rfl) trivial ?_
  refine Wp.ret' (by kernel_rfl) ?_
  exact FinQ.pure (rs' := [V1.c (Cell.bool (bif wdT f.name then wdT f.value else false))]) (by kernel_rfl) rfl (by kernel_rfl)
theorem pair_ok {G : Nat → Option (List Cell)} (f : FT) (h1 : f.name.length < 1000000000) (h2 : f.value.length < 1000000000) : Pur Tryd.prog G 29 [.agg (encF f)] [.c (.str (pairC f))] := by
  refine Pur.of Tryd.func29 (by kernel_rfl) (by kernel_rfl) (by kernel_rfl) ?_
  refine Wp.go (mx := true) (fun _ => mixed) [] 100 [] [f.name.length + (1 : Nat) ≤ (9223372036854775807 : Nat), (f.name ++ [(61 : UInt8)]).length + f.value.length ≤ (9223372036854775807 : Nat)] (by kernel_rfl) (by kernel_rfl) (by kernel_rfl) ⟨(by omega), (show (f.name ++ [(61 : UInt8)]).length + f.value.length ≤ (9223372036854775807 : Nat) from (by simp; omega))⟩ ?_
  refine Wp.ret' (by kernel_rfl) ?_
  exact FinQ.pure (rs' := [V1.c (Cell.str (f.name ++ [(61 : UInt8)] ++ f.value))]) (by kernel_rfl) rfl (by kernel_rfl)
def ageC : List UInt8 := [59, 32, 77, 97, 120, 45, 65, 103, 101, 61]
def behC : List UInt8 := [59, 32, 80, 97, 116, 104, 61, 47, 59, 32, 83, 101, 99, 117, 114, 101, 59, 32, 72, 116, 116, 112, 79, 110, 108, 121, 59, 32, 83, 97, 109, 101, 83, 105, 116, 101, 61, 76, 97, 120]
def badC (f : FT) (n : Int) : Bool := bif bif !mayC f then true else decide (n < 0) then true else decide (n > 1099511627776)
def setC (f : FT) (n : Int) : List UInt8 := if badC f n then [] else pairC f ++ ageC ++ Lib.itoa n ++ behC
theorem setC_len (f : FT) (n : Int) (h1 : f.name.length < 1000000000) (h2 : f.value.length < 1000000000) (h0 : 0 ≤ n) (h3 : n ≤ 1099511627776) : (Lib.itoa n).length ≤ 1099511627777 ∧ (pairC f).length ≤ 2000000000 := by
  obtain ⟨k, rfl⟩ := Int.eq_ofNat_of_zero_le h0
  refine ⟨Nat.le_trans (dec_len k) (by omega), ?_⟩
  unfold pairC; simp only [List.length_append, List.length_cons, List.length_nil]; omega
theorem set14_ok {G : Nat → Option (List Cell)} (f : FT) (n : Int) (h1 : f.name.length < 1000000000) (h2 : f.value.length < 1000000000) : Pur Tryd.prog G 16 [.agg (encF f), .c (.int .i64 n)] [.c (.str (setC f n))] := by
  refine Pur.of Tryd.func16 (by kernel_rfl) (by kernel_rfl) (by kernel_rfl) ?_
  have c1 := mayC14_ok (G := G) f h1 h2
  cases hb : badC f n with
  | true =>
    have hs : setC f n = [] := by unfold setC; rw [if_pos hb]
    rw [hs]
    unfold badC at hb
    refine Wp.go (mx := true) (fun _ => mixed) [(1, {cs := [(1, pc c1)]})] 100 [true] [(bif bif !mayC f then true else decide (n < (0 : Int)) then true else decide (n > (1099511627776 : Int))) = true] (by kernel_rfl) (by kernel_rfl) (by kernel_rfl) (show (bif bif !mayC f then true else decide (n < (0 : Int)) then true else decide (n > (1099511627776 : Int))) = true from (by assumption)) ?_
    refine Wp.ret' (by kernel_rfl) ?_
    exact FinQ.pure (rs' := [V1.c (Cell.str [])]) (by kernel_rfl) rfl (by kernel_rfl)
  | false =>
    have hs : setC f n = pairC f ++ ageC ++ Lib.itoa n ++ behC := by unfold setC; rw [if_neg (by rw [hb]; decide)]
    rw [hs]
    have hn : 0 ≤ n ∧ n ≤ 1099511627776 := by
      unfold badC at hb
      have hb' := hb
      cases hm : mayC f with
      | false => rw [hm] at hb'; cases hb'
      | true =>
        rw [hm] at hb'
        simp at hb'
        omega
    obtain ⟨l1, l2⟩ := setC_len f n h1 h2 hn.1 hn.2
    have hn1 := hn.1
    have hn2 := hn.2
    unfold badC at hb
    refine Wp.go (mx := true) (fun _ => mixed) [(1, {cs := [(1, pc c1)]}), (3, {cs := [(8, pc (digits_ok n (by omega) (by omega)))]})] 100 [false] [(bif bif !mayC f then true else decide (n < (0 : Int)) then true else decide (n > (1099511627776 : Int))) = false, f.name.length + (1 : Nat) ≤ (9223372036854775807 : Nat), (f.name ++ [(61 : UInt8)]).length + f.value.length ≤ (9223372036854775807 : Nat), (f.name ++ [(61 : UInt8)] ++ f.value).length + (10 : Nat) ≤ (9223372036854775807 : Nat), (f.name ++ [(61 : UInt8)] ++ f.value ++ [(59 : UInt8), 32, 77, 97, 120, 45, 65, 103, 101, 61]).length + (Lib.itoa n).length ≤ (9223372036854775807 : Nat), (f.name ++ [(61 : UInt8)] ++ f.value ++ [(59 : UInt8), 32, 77, 97, 120, 45, 65, 103, 101, 61] ++ Lib.itoa n).length + (40 : Nat) ≤ (9223372036854775807 : Nat)] (by kernel_rfl) (by kernel_rfl) (by kernel_rfl) ⟨(by assumption), (by omega), (by simp; omega), (by simp; omega), (by simp; omega), (show (f.name ++ [(61 : UInt8)] ++ f.value ++ [(59 : UInt8), 32, 77, 97, 120, 45, 65, 103, 101, 61] ++ Lib.itoa n).length + (40 : Nat) ≤ (9223372036854775807 : Nat) from (by simp; omega))⟩ ?_
    refine Wp.ret' (by kernel_rfl) ?_
    exact FinQ.pure (rs' := [V1.c (Cell.str (f.name ++ [(61 : UInt8)] ++ f.value ++ [(59 : UInt8), 32, 77, 97, 120, 45, 65, 103, 101, 61] ++ Lib.itoa n ++ [(59 : UInt8), 32, 80, 97, 116, 104, 61, 47, 59, 32, 83, 101, 99, 117, 114, 101, 59, 32, 72, 116, 116, 112, 79, 110, 108, 121, 59, 32, 83, 97, 109, 101, 83, 105, 116, 101, 61, 76, 97, 120]))]) (by kernel_rfl) rfl (by kernel_rfl)
end Go.Proofs.Tw
end

section
open Go Go.Sv
namespace Go.Proofs.Tw
attribute [local irreducible] Wp FinQ resV Ent Pur Go.Sv.Fn Sat0
set_option maxRecDepth 100000
set_option maxHeartbeats 4000000

/-! cookies -/
/-- The seat's tables: how long what is searched for at once may be (some number m), the powers of ten. -/
def Gm (m : Int) : Nat → Option (List Cell)
  | 0 => some [.int .i64 m]
  | 1 => some (Lib.pow10Tab.map fun z => .int .u64 z)
  | _ => none
theorem Gm_len (m : Int) : Gm m 0 = some [.int .i64 m] := rfl
theorem itoa_m {m : Int} (n : Int) (h0 : -9223372036854775808 ≤ n) (h1 : n ≤ 9223372036854775807) : Pur Tryd.prog (Gm m) 37 [.c (.int .i64 n)] [.c (.str (Lib.itoa n))] := lib_Itoa 1 (by kernel_rfl) rfl n h0 h1
theorem setm_ok {m : Int} (f : FT) (n : Int) (h1 : f.name.length < 1000000000) (h2 : f.value.length < 1000000000) : Pur Tryd.prog (Gm m) 19 [.agg (encF f), .c (.int .i64 n)] [.c (.str (setC f n))] := by
  refine Pur.of Tryd.func19 (by kernel_rfl) (by kernel_rfl) (by kernel_rfl) ?_
  have c1 := mayC_ok (G := Gm m) f h1 h2
  have c2 := pair_ok (G := Gm m) f h1 h2
  cases hb : badC f n with
  | true =>
    have hs : setC f n = [] := by unfold setC; rw [if_pos hb]
    rw [hs]
    unfold badC at hb
    refine Wp.go (mx := true) (fun _ => mixed) [(1, {cs := [(1, pc c1)]})] 100 [true] [(bif bif !mayC f then true else decide (n < (0 : Int)) then true else decide (n > (1099511627776 : Int))) = true] (by kernel_rfl) (by kernel_rfl) (by kernel_rfl) (show (bif bif !mayC f then true else decide (n < (0 : Int)) then true else decide (n > (1099511627776 : Int))) = true from (by assumption)) ?_
    refine Wp.ret' (by kernel_rfl) ?_
    exact FinQ.pure (rs' := [V1.c (Cell.str [])]) (by kernel_rfl) rfl (by kernel_rfl)
  | false =>
    have hs : setC f n = pairC f ++ ageC ++ Lib.itoa n ++ behC := by unfold setC; rw [if_neg (by rw [hb]; decide)]
    rw [hs]
    have hn : 0 ≤ n ∧ n ≤ 1099511627776 := by
      unfold badC at hb
      have hb' := hb
      cases hm : mayC f with
      | false => rw [hm] at hb'; cases hb'
      | true =>
        rw [hm] at hb'
        simp at hb'
        omega
    obtain ⟨l1, l2⟩ := setC_len f n h1 h2 hn.1 hn.2
    have hn1 := hn.1
    have hn2 := hn.2
    unfold badC at hb
    refine Wp.go (mx := true) (fun _ => mixed) [(1, {cs := [(1, pc c1)]}), (3, {cs := [(1, pc c2), (4, pc (itoa_m n (by omega) (by omega)))]})] 100 [false] [(bif bif !mayC f then true else decide (n < (0 : Int)) then true else decide (n > (1099511627776 : Int))) = false, (pairC f).length + (10 : Nat) ≤ (9223372036854775807 : Nat), (pairC f ++ [(59 : UInt8), 32, 77, 97, 120, 45, 65, 103, 101, 61]).length + (Lib.itoa n).length ≤ (9223372036854775807 : Nat), (pairC f ++ [(59 : UInt8), 32, 77, 97, 120, 45, 65, 103, 101, 61] ++ Lib.itoa n).length + (40 : Nat) ≤ (9223372036854775807 : Nat)] (by kernel_rfl) (by kernel_rfl) (by kernel_rfl) ⟨(by assumption), (by omega), (by simp; omega), (show (pairC f ++ [(59 : UInt8), 32, 77, 97, 120, 45, 65, 103, 101, 61] ++ Lib.itoa n).length + (40 : Nat) ≤ (9223372036854775807 : Nat) from (by simp; omega))⟩ ?_
    refine Wp.ret' (by kernel_rfl) ?_
    exact FinQ.pure (rs' := [V1.c (Cell.str (pairC f ++ [(59 : UInt8), 32, 77, 97, 120, 45, 65, 103, 101, 61] ++ Lib.itoa n ++ [(59 : UInt8), 32, 80, 97, 116, 104, 61, 47, 59, 32, 83, 101, 99, 117, 114, 101, 59, 32, 72, 116, 116, 112, 79, 110, 108, 121, 59, 32, 83, 97, 109, 101, 83, 105, 116, 101, 61, 76, 97, 120]))]) (by kernel_rfl) rfl (by kernel_rfl)
end Go.Proofs.Tw
end

section
open Go Go.Sv Go.RowKit
namespace Go.Proofs.Tw
attribute [local irreducible] Wp FinQ resV Ent Pur Go.Sv.Fn Sat0
set_option maxRecDepth 100000
set_option maxHeartbeats 4000000
variable {G : Nat → Option (List Cell)}

theorem below_drew (w : World) (n : Nat) : Below w.heap.size w (w.drewN n) := ⟨rfl, rfl, rfl, Nat.le_refl _, fun _ _ => rfl⟩
theorem size_lt (s : List UInt8) : (⟨s.toArray⟩ : ByteArray).size = s.length := size_mk s
/-- A table of one number, as the shelf speaks of it. -/
theorem glob_one {D : Dat} {w : World} {g : Nat} {x : Cell} (hG : G g = some [x]) (k1 : GlobOk G D) (k3 : Agree D w) : ∃ u, w.cell? ⟨g, 0, none⟩ = some u ∧ Den D rho0 x u := by
  obtain ⟨u, hu, hd⟩ := k1 g _ hG 0 x rfl
  exact ⟨u, k3 _ _ _ hu, hd⟩
theorem lib_CutSuffix (s p : List UInt8) (hl : s.length ≤ 9223372036854775807) : Pur Tryd.prog G 32 [.c (.str s), .c (.str p)] [.c (.str (Lib.trimSuffix s p)), .c (.bool (Lib.hasSuffix s p))] := by
  refine Pur.of_below rfl ?_
  intro D ρ w vs h1 _ _ _
  obtain ⟨u, v, rfl, hu, hv⟩ := h1.two
  have hu : u = .string ⟨s.toArray⟩ := hu
  have hv : v = .string ⟨p.toArray⟩ := hv
  subst hu hv
  refine (Go.Proofs.Tryd.strings_CutSuffix ⟨s.toArray⟩ ⟨p.toArray⟩ w (by rw [size_lt]; exact hl)).mono ?_
  rintro e w' ⟨rfl, rfl⟩
  refine ⟨_, rfl, ⟨_, rfl, rfl, fun j x hj => ?_⟩, Below.refl _ _⟩
  match j, hj with
  | 0, hj => simp at hj; subst hj; exact ⟨_, rfl, rfl⟩
  | 1, hj => simp at hj; subst hj; exact ⟨_, rfl, rfl⟩
  | j + 2, hj => simp at hj
theorem lib_Cut {m : Int} (hG : G 0 = some [.int .i64 m]) (s p : List UInt8) (hl : s.length < 4294967281) : Pur Tryd.prog G 33 [.c (.str s), .c (.str p)] [.c (.str (Lib.cut s p).1), .c (.str (Lib.cut s p).2.1), .c (.bool (Lib.cut s p).2.2)] := by
  refine Pur.of_below rfl ?_
  intro D ρ w vs h1 k1 _ k3
  obtain ⟨u, v, rfl, hu, hv⟩ := h1.two
  have hu : u = .string ⟨s.toArray⟩ := hu
  have hv : v = .string ⟨p.toArray⟩ := hv
  subst hu hv
  obtain ⟨x, hx, hd⟩ := glob_one hG k1 k3
  have hd : x = .int .i64 m := hd
  subst hd
  refine (Go.Proofs.Tryd.strings_Cut ⟨s.toArray⟩ ⟨p.toArray⟩ m w (by rw [size_lt]; exact hl) hx).mono ?_
  rintro e w' ⟨rfl, n, rfl⟩
  refine ⟨_, rfl, ⟨_, rfl, rfl, fun j x hj => ?_⟩, below_drew _ _⟩
  match j, hj with
  | 0, hj => simp at hj; subst hj; exact ⟨_, rfl, rfl⟩
  | 1, hj => simp at hj; subst hj; exact ⟨_, rfl, rfl⟩
  | 2, hj => simp at hj; subst hj; exact ⟨_, rfl, rfl⟩
  | j + 3, hj => simp at hj
theorem lib_Split {m : Int} (hG : G 0 = some [.int .i64 m]) (s p : List UInt8) (hl : s.length < 4294967281) (hp : 1 ≤ p.length) : Pur Tryd.prog G 23 [.c (.str s), .c (.str p)] [.c (.sl 1 (Lib.split s p).length (strsF (Lib.split s p)))] := by
  have hsz : (Lib.splitB ⟨p.toArray⟩ 0 (Lib.countB ⟨s.toArray⟩ ⟨p.toArray⟩) ⟨s.toArray⟩).length = Lib.countB ⟨s.toArray⟩ ⟨p.toArray⟩ + 1 := Lib.splitB_all _ (by rw [size_lt]; exact hp) 0 _ _ rfl
  have hdat : (Lib.splitB ⟨p.toArray⟩ 0 (Lib.countB ⟨s.toArray⟩ ⟨p.toArray⟩) ⟨s.toArray⟩).map (·.data.toList) = Lib.split s p := by rw [Lib.splitB_data]; rfl
  have hlen : (Lib.split s p).length = Lib.countB ⟨s.toArray⟩ ⟨p.toArray⟩ + 1 := by rw [← hdat, List.length_map, hsz]
  have hcl := Lib.countB_le ⟨p.toArray⟩ (by rw [size_lt]; exact hp) s.length ⟨s.toArray⟩ (by rw [size_lt]; exact Nat.le_refl _)
  rw [size_lt] at hcl
  refine Pur.of_alloc (by rw [hlen]; unfold maxLen; omega) ?_
  intro D ρ w vs h1 k1 _ k3
  obtain ⟨u, v, rfl, hu, hv⟩ := h1.two
  have hu : u = .string ⟨s.toArray⟩ := hu
  have hv : v = .string ⟨p.toArray⟩ := hv
  subst hu hv
  obtain ⟨x, hx, hd⟩ := glob_one hG k1 k3
  have hd : x = .int .i64 m := hd
  subst hd
  refine (Go.Proofs.Tryd.strings_Split ⟨s.toArray⟩ ⟨p.toArray⟩ m w (by rw [size_lt]; exact hl) hx (by rw [size_lt]; exact hp)).mono ?_
  rintro e w' ⟨rfl, rfl⟩
  refine ⟨_, _, by rw [hlen], rfl, by simp [hsz, hlen], fun i hi => ?_⟩
  have hi' : i < (Lib.splitB ⟨p.toArray⟩ 0 (Lib.countB ⟨s.toArray⟩ ⟨p.toArray⟩) ⟨s.toArray⟩).length := by rw [hsz, ← hlen]; exact hi
  refine ⟨.string (Lib.splitB ⟨p.toArray⟩ 0 (Lib.countB ⟨s.toArray⟩ ⟨p.toArray⟩) ⟨s.toArray⟩)[i], by simp [hi'], fun D => ?_⟩
  have : (Lib.split s p).getD i [] = (Lib.splitB ⟨p.toArray⟩ 0 (Lib.countB ⟨s.toArray⟩ ⟨p.toArray⟩) ⟨s.toArray⟩)[i].data.toList := by
    rw [← hdat]; simp [List.getD, hi']
  show _ = Value.string ⟨((Lib.split s p).getD i []).toArray⟩
  rw [this]
end Go.Proofs.Tw
end

section
open Go Go.Sv
namespace Go.Proofs.Tw
attribute [local irreducible] Wp FinQ resV Ent Pur Go.Sv.Fn Sat0
set_option maxRecDepth 100000
set_option maxHeartbeats 4000000
variable {G : Nat → Option (List Cell)}

theorem cut_len (s p : List UInt8) : (Lib.cut s p).1.length ≤ s.length ∧ (Lib.cut s p).2.1.length ≤ s.length := by
  unfold Lib.cut
  split
  · simp only [List.length_take, List.length_drop]; omega
  · simp
theorem nil_eqv (sz : Nat) (f : Nat → Nat → Cell) : EqvD (.c .nilsl) (.c (.sl sz 0 f)) := fun D ρ u h => ⟨none, 0, h, Nat.le_refl _, Nat.zero_le _, .inl ⟨rfl, rfl⟩⟩
/-- The field that a text is, if it is a cookie. -/
def oneF (s : List UInt8) : FT := ⟨(Lib.cut s [61]).1, (Lib.cut s [61]).2.1⟩
theorem one_yes {m : Int} (s : List UInt8) (hl : s.length < 1000000000) (h : mayC (oneF s) = true) : Pur Tryd.prog (Gm m) 24 [.c (.str s)] [.agg (encF (oneF s)), .c (.bool true)] := by
  refine Pur.of Tryd.func24 (by kernel_rfl) (by kernel_rfl) (by kernel_rfl) ?_
  have hc := cut_len s [61]
  have c1 := lib_Cut (Gm_len m) s [61] (by omega)
  have c2 := mayC_ok (G := Gm m) (oneF s) (by show (Lib.cut s [61]).1.length < _; omega) (by show (Lib.cut s [61]).2.1.length < _; omega)
  rw [h] at c2
  refine Wp.go (mx := true) (fun _ => mixed) [(1, {cs := [(1, pc c1)]}), (3, {cs := [(1, pc c2)]})] 100 [false] [(!true) = false] (by kernel_rfl) (by kernel_rfl) (by kernel_rfl) rfl ?_
  refine Wp.ret' (by kernel_rfl) ?_
  exact FinQ.pure (rs' := [V1.agg [Cell.str (Lib.cut s [(61 : UInt8)]).1, Cell.str (Lib.cut s [(61 : UInt8)]).2.fst], V1.c (Cell.bool true)]) (by kernel_rfl) rfl (by kernel_rfl)
theorem one_no {m : Int} (s : List UInt8) (hl : s.length < 1000000000) (h : mayC (oneF s) = false) : Pur Tryd.prog (Gm m) 24 [.c (.str s)] [.agg (encF .nil), .c (.bool false)] := by
  refine Pur.of Tryd.func24 (by kernel_rfl) (by kernel_rfl) (by kernel_rfl) ?_
  have hc := cut_len s [61]
  have c1 := lib_Cut (Gm_len m) s [61] (by omega)
  have c2 := mayC_ok (G := Gm m) (oneF s) (by show (Lib.cut s [61]).1.length < _; omega) (by show (Lib.cut s [61]).2.1.length < _; omega)
  rw [h] at c2
  refine Wp.go (mx := true) (fun _ => mixed) [(1, {cs := [(1, pc c1)]}), (3, {cs := [(1, pc c2)]})] 100 [true] [(!false) = true] (by kernel_rfl) (by kernel_rfl) (by kernel_rfl) rfl ?_
  refine Wp.ret' (by kernel_rfl) ?_
  exact FinQ.pure (rs' := [V1.agg [Cell.str [], Cell.str []], V1.c (Cell.bool false)]) (by kernel_rfl) rfl (by kernel_rfl)

/-! cookies as a text -/
def printC (l : List FT) : List UInt8 := Lib.join (l.map pairC) [59, 32]
theorem takeM_suc (l : List FT) (k : Nat) (h : k < l.length) : (l.take (k + 1)).map pairC = (l.take k).map pairC ++ [pairC (l.getD k .nil)] := by
  rw [List.take_succ_eq_append_getElem h, List.map_append]; simp [List.getD, h]
/-- Another reading of an argument. -/
theorem Pur.arg0 {P : Program} {f : FuncId} {a a' : V1} {al rs : List V1} (h : Pur P G f (a :: al) rs) (e : EqvD a' a) : Pur P G f (a' :: al) rs := by
  unfold Pur Go.Sv.Fn at h ⊢
  intro D ρ w vs h1 h2 h3 h4 h5 h6
  refine h D ρ w vs ⟨h1.1, fun j x hj => ?_⟩ h2 h3 h4 h5 h6
  cases j with
  | zero =>
    obtain ⟨u, hu, hd⟩ := h1.2 0 a' rfl
    simp only [List.getElem?_cons_zero, Option.some.injEq] at hj
    subst hj
    exact ⟨u, hu, e _ _ _ hd⟩
  | succ j => exact h1.2 (j + 1) x (by simpa using hj)
theorem joinS_ok (xs : List (List UInt8)) (sep : List UInt8) (hN : xs.length ≤ 140737488355328) (hlen : (Lib.join xs sep).length ≤ 140737488355328) : Pur Tryd.prog G 30 [.c (.sl 1 xs.length (strsF xs)), .c (.str sep)] [.c (.str (Lib.join xs sep))] :=
  Tw.Pur.arg0 (lib_Join xs sep hN hlen) (EqvD.sl rfl fun i hi j hj => by
    obtain rfl : j = 0 := by omega
    rfl)
theorem print_le (l : List FT) (k : Nat) : (Lib.join ((l.take k).map pairC) [59, 32]).length ≤ (printC l).length := by
  unfold printC
  rcases Nat.lt_or_ge k l.length with h | h
  · cases l with
    | nil => simp at h
    | cons a r =>
      cases k with
      | zero => simp [Lib.join_nil]
      | succ k =>
        rw [List.take_succ_cons, List.map_cons, List.map_cons, Lib.join_cons, Lib.join_cons, List.length_append, List.length_append]
        have := Lib.joinTail_take_le [59, 32] (r.map pairC) k
        rw [List.map_take]
        omega
  · rw [List.take_of_length_le h]; exact Nat.le_refl _
def SmF (l : List FT) : Prop := ∀ i, (l.getD i .nil).name.length < 1000000000 ∧ (l.getD i .nil).value.length < 1000000000
theorem print_ok {m : Int} (l : List FT) (h1 : SmF l) (hl : l.length ≤ 1000000) (hj : (printC l).length ≤ 10000000000000) : Pur Tryd.prog (Gm m) 14 [.c (encH l)] [.c (.str (printC l))] := by
  refine Pur.of Tryd.func14 (by kernel_rfl) (by kernel_rfl) (by kernel_rfl) ?_
  have cj := joinS_ok (G := Gm m) (l.map pairC) [59, 32] (by simp; omega) (by show (printC l).length ≤ _; omega)
  refine Wp.go (mx := true) (fun _ => mixed) [] 100 [] [] (by kernel_rfl) (by kernel_rfl) (by kernel_rfl) trivial ?_
  refine Wp.loopK (by kernel_rfl) (fun (x : Nat × Nat × List (List UInt8)) => ⟨[(3, .v (.c (.row 1 80 0 x.2.1))), (6, .v (.c (encH l))), (7, .v (.c (.int .i64 (l.length : Int)))), (8, .v (.c (.int .i64 (x.1 : Int))))], [(80, .row 9 1 x.2.1 (strsF x.2.2))], 96⟩) (fun x => x.1 ≤ l.length ∧ x.2.1 = x.2.2.length ∧ x.2.1 = x.1 ∧ x.2.2 = (l.take x.1).map pairC) (fun x => l.length - x.1) (0, 0, []) (Ent.trans (Ent.empT (t := 3) (sz := 1) (e := 9) (f := (strsF [])) (by decide) (by kernel_rfl) rfl) (Ent.of [] (by kernel_rfl) (by kernel_rfl) (by kernel_rfl) trivial)) ⟨Nat.zero_le _, rfl, rfl, rfl⟩ ?_
  rintro ⟨k, n, acc⟩ L ⟨hk, hn, hm, ha⟩ again
  simp only at hk hn hm ha
  rcases Nat.lt_or_ge k l.length with hlt | hge
  · have c := pair_ok (G := Gm m) (l.getD k .nil) (h1 k).1 (h1 k).2
    have e1 : BlkEqv (.row 9 1 (n + 1) (catF n (strsF acc) (fun i j => nthD [.str (pairC (l.getD k .nil))] ((0 + i) * 1 + j)))) (.row 9 1 (n + 1) (strsF (acc ++ [pairC (l.getD k .nil)]))) := strs_app acc _ hn
    have q2 : n + 1 = (acc ++ [pairC (l.getD k .nil)]).length := by simp [hn]
    have q3 : acc ++ [pairC (l.getD k .nil)] = (l.take (k + 1)).map pairC := by rw [takeM_suc l k hlt, ha]
    refine Wp.go (mx := true) (fun _ => mixed) [(5, {cs := [(2, pc c)], bs := [(4, Blk.row 9 1 (n + 1) (strsF (acc ++ [pairC (l.getD k .nil)])))]})] 100 [true] [decide ((↑k : Int) < (↑l.length : Int)) = true, (0 : Int) ≤ (↑k : Int) ∧ (↑k : Int) < (↑l.length : Int), (n + (1 : Nat)) * (16 : Nat) ≤ (140737488355328 : Nat), BlkEqv (Blk.row 9 (1 : Nat) (n + (1 : Nat)) (catF n (strsF acc) fun (i j : Nat) => nthD [Cell.str (pairC (l.getD k FT.nil))] (((0 : Nat) + i) * (1 : Nat) + j))) (Blk.row 9 (1 : Nat) (n + (1 : Nat)) (strsF (acc ++ [pairC (l.getD k FT.nil)]))), n ≤ n, (0 : Nat) + (1 : Nat) ≤ (1 : Nat), inR IntKind.i64 ((↑k : Int) + (1 : Int))] (by kernel_rfl) (by kernel_rfl) (by kernel_rfl) ⟨(by simp; omega), (by omega), (by omega), (by assumption), (by omega), (by omega), inR64 (by omega) (by omega)⟩ ?_
    exact Wp.lpK (by kernel_rfl) (again _ (k + 1, n + 1, acc ++ [pairC (l.getD k .nil)]) ⟨(by assumption), ⟨(by assumption), ⟨(by simp; omega), (by assumption)⟩⟩⟩ (by omega) (Ent.of [(80, 240)] (by kernel_rfl) (by kernel_rfl) (by kernel_rfl) trivial))
  · rw [List.take_of_length_le hge] at ha
    subst ha
    subst hn
    refine Wp.go (mx := true) (fun _ => mixed) [(7, {cs := [(1, lc [80] [Blk.row 9 (1 : Nat) (List.map pairC l).length (strsF (List.map pairC l))] [V1.c (Cell.row (1 : Nat) (0 : Nat) (0 : Nat) (List.map pairC l).length), V1.c (Cell.str [(59 : UInt8), 32])] cj (by kernel_rfl) (by kernel_rfl) (by kernel_rfl) (show (0 : Nat) + (List.map pairC l).length ≤ (List.map pairC l).length from (by omega)))]})] 100 [false] [decide ((↑k : Int) < (↑l.length : Int)) = false] (by kernel_rfl) (by kernel_rfl) (by kernel_rfl) (show decide ((↑k : Int) < (↑l.length : Int)) = false from (by simp; omega)) ?_
    refine Wp.ret' (by kernel_rfl) ?_
    exact FinQ.pure (rs' := [V1.c (Cell.str (Lib.join (List.map pairC l) [(59 : UInt8), 32]))]) (by kernel_rfl) rfl (by kernel_rfl)
theorem print14_ok (l : List FT) (h1 : SmF l) (hl : l.length ≤ 1000000) (hj : (printC l).length ≤ 1000000000) : Pur Tryd.prog G 9 [.c (encH l)] [.c (.str (printC l))] := by
  refine Pur.of Tryd.func9 (by kernel_rfl) (by kernel_rfl) (by kernel_rfl) ?_
  refine Wp.go (mx := true) (fun _ => mixed) [] 100 [] [] (by kernel_rfl) (by kernel_rfl) (by kernel_rfl) trivial ?_
  refine Wp.loopK (by kernel_rfl) (fun (x : Nat × List UInt8) => ⟨[(0, .v (.c (encH l))), (3, .v (.c (.str x.2))), (4, .v (.c (.int .i64 (x.1 : Int))))], [], 96⟩) (fun x => x.1 ≤ l.length ∧ x.2.length ≤ (printC l).length ∧ x.2 = Lib.join ((l.take x.1).map pairC) [59, 32]) (fun x => l.length - x.1) (0, []) (Ent.of [] (by kernel_rfl) (by kernel_rfl) (by kernel_rfl) trivial) ⟨Nat.zero_le _, Nat.zero_le _, rfl⟩ ?_
  rintro ⟨k, s⟩ L ⟨hk, hs, ha⟩ again
  simp only at hk hs ha
  rcases Nat.lt_or_ge k l.length with hlt | hge
  · have h2 := h1 k
    have hp := print_le l (k + 1)
    have q0 := takeM_suc l k hlt
    rcases Nat.eq_zero_or_pos k with h0 | h0
    · subst h0
      have hs0 : s = [] := by rw [ha]; rfl
      subst hs0
      have q : [] ++ (l.getD 0 .nil).name ++ [61] ++ (l.getD 0 .nil).value = Lib.join ((l.take (0 + 1)).map pairC) [59, 32] := by rw [q0]; simp [Lib.join_one, pairC]
      have q4 : ([] ++ (l.getD 0 .nil).name ++ [61] ++ (l.getD 0 .nil).value).length ≤ (printC l).length := by rw [q]; exact hp
      clear q0 hp ha
      refine Wp.go (mx := true) (fun _ => mixed) [] 100 [true, false] [decide ((↑(0 : Nat) : Int) < (↑l.length : Int)) = true, decide ((↑(0 : Nat) : Int) > (0 : Int)) = false, (0 : Int) ≤ (↑(0 : Nat) : Int) ∧ (↑(0 : Nat) : Int) < (↑l.length : Int), (0 : Nat) + (l.getD (0 : Nat) FT.nil).name.length ≤ (9223372036854775807 : Nat), ([] ++ (l.getD (0 : Nat) FT.nil).name).length + (1 : Nat) ≤ (9223372036854775807 : Nat), (0 : Int) ≤ (↑(0 : Nat) : Int) ∧ (↑(0 : Nat) : Int) < (↑l.length : Int), ([] ++ (l.getD (0 : Nat) FT.nil).name ++ [(61 : UInt8)]).length + (l.getD (0 : Nat) FT.nil).value.length ≤ (9223372036854775807 : Nat), inR IntKind.i64 ((↑(0 : Nat) : Int) + (1 : Int))] (by kernel_rfl) (by kernel_rfl) (by kernel_rfl) ⟨(by simp; omega), rfl, (by omega), (by omega), (by simp_all <;> omega), (by omega), (by simp_all <;> omega), inR64 (by omega) (by omega)⟩ ?_
      exact Wp.lpK (by kernel_rfl) (again _ (0 + 1, [] ++ (l.getD 0 .nil).name ++ [61] ++ (l.getD 0 .nil).value) ⟨(by assumption), ⟨(by assumption), (by assumption)⟩⟩ (by omega) (Ent.of [] (by kernel_rfl) (by kernel_rfl) (by kernel_rfl) trivial))
    · have q : s ++ [59, 32] ++ (l.getD k .nil).name ++ [61] ++ (l.getD k .nil).value = Lib.join ((l.take (k + 1)).map pairC) [59, 32] := by
        rw [q0, join_snoc, if_neg (by intro h; have := congrArg List.length h; rw [List.length_map, List.length_take, List.length_nil] at this; omega), ← ha]; simp [pairC]
      have q4 : (s ++ [59, 32] ++ (l.getD k .nil).name ++ [61] ++ (l.getD k .nil).value).length ≤ (printC l).length := by rw [q]; exact hp
      clear q0 hp ha
      refine Wp.go (mx := true) (fun _ => mixed) [] 100 [true, true] [decide ((↑k : Int) < (↑l.length : Int)) = true, decide ((↑k : Int) > (0 : Int)) = true, s.length + (2 : Nat) ≤ (9223372036854775807 : Nat), (0 : Int) ≤ (↑k : Int) ∧ (↑k : Int) < (↑l.length : Int), (s ++ [(59 : UInt8), 32]).length + (l.getD k FT.nil).name.length ≤ (9223372036854775807 : Nat), (s ++ [(59 : UInt8), 32] ++ (l.getD k FT.nil).name).length + (1 : Nat) ≤ (9223372036854775807 : Nat), (0 : Int) ≤ (↑k : Int) ∧ (↑k : Int) < (↑l.length : Int), (s ++ [(59 : UInt8), 32] ++ (l.getD k FT.nil).name ++ [(61 : UInt8)]).length + (l.getD k FT.nil).value.length ≤ (9223372036854775807 : Nat), inR IntKind.i64 ((↑k : Int) + (1 : Int))] (by kernel_rfl) (by kernel_rfl) (by kernel_rfl) ⟨(by simp; omega), (by simp; omega), (by omega), (by omega), (by simp_all <;> omega), (by simp_all <;> omega), (by omega), (by simp_all <;> omega), inR64 (by omega) (by omega)⟩ ?_
      exact Wp.lpK (by kernel_rfl) (again _ (k + 1, s ++ [59, 32] ++ (l.getD k .nil).name ++ [61] ++ (l.getD k .nil).value) ⟨(by assumption), ⟨(by assumption), (by assumption)⟩⟩ (by omega) (Ent.of [] (by kernel_rfl) (by kernel_rfl) (by kernel_rfl) trivial))
  · rw [List.take_of_length_le hge] at ha
    have ha : s = printC l := ha
    subst ha
    refine Wp.go (mx := true) (fun _ => mixed) [] 100 [false] [decide ((↑k : Int) < (↑l.length : Int)) = false] (by kernel_rfl) (by kernel_rfl) (by kernel_rfl) (show decide ((↑k : Int) < (↑l.length : Int)) = false from (by simp; omega)) ?_
    refine Wp.ret' (by kernel_rfl) ?_
    exact FinQ.pure (rs' := [V1.c (Cell.str (printC l))]) (by kernel_rfl) rfl (by kernel_rfl)
end Go.Proofs.Tw
end

section
open Go Go.Sv
namespace Go.Proofs.Tw
attribute [local irreducible] Wp FinQ resV Ent Pur Go.Sv.Fn Sat0
set_option maxRecDepth 100000
set_option maxHeartbeats 4000000
variable {G : Nat → Option (List Cell)}

/-! pieces -/
theorem split_hit {s sep : List UInt8} {i : Nat} (hs : sep ≠ []) (h : Lib.index s sep = i) : Lib.split s sep = s.take i :: Lib.split (s.drop (i + sep.length)) sep := by
  have hne : ((i : Int) == -1) = false := by rw [beq_eq_false_iff_ne]; omega
  unfold Lib.split
  rw [Lib.count_hit hs h, Nat.add_comm 1, Lib.splitK, h, hne]
  simp
theorem split_miss {s sep : List UInt8} (h : Lib.index s sep = -1) : Lib.split s sep = [s] := by
  unfold Lib.split; rw [Lib.count_miss h]; rfl
theorem occ_drop (s sep : List UInt8) (a j : Nat) : Lib.occAt (s.drop a) sep j = Lib.occAt s sep (a + j) := by
  unfold Lib.occAt; rw [List.drop_drop]
theorem split_at {s sep : List UInt8} (hs : sep ≠ []) {a i : Nat} (hai : a ≤ i) (hi : i ≤ s.length) (ho : Lib.occAt s sep i = true) (hall : ∀ j, a ≤ j → j < i → Lib.occAt s sep j = false) :
    Lib.split (s.drop a) sep = (s.take i).drop a :: Lib.split (s.drop (i + sep.length)) sep := by
  have h : Lib.index (s.drop a) sep = ((i - a : Nat) : Int) := Lib.index_first (by rw [List.length_drop]; omega) (by rw [occ_drop, show a + (i - a) = i from by omega]; exact ho) (fun j hj => by rw [occ_drop]; exact hall _ (by omega) (by omega))
  rw [split_hit hs h, List.drop_drop, show a + (i - a + sep.length) = i + sep.length from by omega, List.drop_take]
theorem split_end {s sep : List UInt8} (hs : sep ≠ []) {a i : Nat} (hi : s.length < i + sep.length) (hall : ∀ j, a ≤ j → j < i → Lib.occAt s sep j = false) : Lib.split (s.drop a) sep = [(s.take s.length).drop a] := by
  rw [List.take_length]
  refine split_miss (Lib.index_none fun j hj => ?_)
  cases hq : Lib.occAt (s.drop a) sep j with
  | false => rfl
  | true =>
    rcases Lib.occAt_room hq with h' | h'
    · rw [List.length_drop] at h'
      have hp : 0 < sep.length := List.length_pos_iff.2 hs
      have := hall (a + j) (by omega) (by omega)
      rw [occ_drop, this] at hq; cases hq
    · exact (hs h').elim
theorem parts_ok (s sep : List UInt8) (hl : s.length < 1000000000) (hs : sep ≠ []) (hn : sep.length < 1000) : Pur Tryd.prog G 27 [.c (.str s), .c (.str sep)] [.c (.sl 1 (Lib.split s sep).length (strsF (Lib.split s sep)))] := by
  refine Pur.of Tryd.func27 (by kernel_rfl) (by kernel_rfl) (by kernel_rfl) ?_
  have hp : 0 < sep.length := List.length_pos_iff.2 hs
  refine Wp.go (mx := true) (fun _ => mixed) [] 100 [] [] (by kernel_rfl) (by kernel_rfl) (by kernel_rfl) trivial ?_
  refine Wp.loopK (by kernel_rfl) (fun (x : Nat × Nat × Nat × List (List UInt8)) => ⟨[(0, .v (.c (.str s))), (1, .v (.c (.str sep))), (5, .v (.c (.row 1 64 0 x.2.2.1))), (6, .v (.c (.int .i64 (x.2.1 : Int)))), (7, .v (.c (.int .i64 (x.1 : Int))))], [(64, .row 9 1 x.2.2.1 (strsF x.2.2.2))], 80⟩) (fun x => x.1 ≤ s.length ∧ x.2.1 ≤ s.length ∧ x.2.2.1 = x.2.2.2.length ∧ x.2.2.1 ≤ x.1 ∧ Lib.split s sep = x.2.2.2 ++ Lib.split (s.drop x.2.1) sep ∧ ∀ j, x.2.1 ≤ j → j < x.1 → Lib.occAt s sep j = false) (fun x => s.length - x.1) (0, 0, 0, []) (Ent.trans (Ent.empT (t := 5) (sz := 1) (e := 9) (f := (strsF [])) (by decide) (by kernel_rfl) rfl) (Ent.of [] (by kernel_rfl) (by kernel_rfl) (by kernel_rfl) trivial)) ⟨Nat.zero_le _, Nat.zero_le _, rfl, Nat.le_refl _, rfl, fun j _ h => absurd h (Nat.not_lt_zero _)⟩ ?_
  rintro ⟨i, a, n, acc⟩ L ⟨hi, ha, hna, hni, hq, hall⟩ again
  simp only at hi ha hna hni hq hall
  by_cases hlt : i + sep.length ≤ s.length
  · have ho := occ_at s sep i hlt
    by_cases hai : a ≤ i
    · cases hoc : Lib.occAt s sep i with
      | true =>
        rw [hoc] at ho
        have ht : (bif decide ((i : Int) ≥ (a : Int)) then List.drop i (List.take (i + sep.length) s) == sep else false) = true := by rw [decide_eq_true (by omega)]; exact ho.symm
        rw [split_at hs hai hi hoc hall] at hq
        have hq2 : Lib.split s sep = (acc ++ [(s.take i).drop a]) ++ Lib.split (s.drop (i + sep.length)) sep := by rw [hq]; simp
        have hall2 : ∀ j, i + sep.length ≤ j → j < i + 1 → Lib.occAt s sep j = false := fun j h1 h2 => by omega
        have e1 : BlkEqv (.row 9 1 (n + 1) (catF n (strsF acc) (fun i' j => nthD [.str ((s.take i).drop a)] ((0 + i') * 1 + j)))) (.row 9 1 (n + 1) (strsF (acc ++ [(s.take i).drop a]))) := strs_app acc _ hna
        have q2 : n + 1 = (acc ++ [(s.take i).drop a]).length := by simp [hna]
        clear hq hall hoc ho
        refine Wp.go (mx := true) (fun _ => mixed) [(7, {bs := [(6, Blk.row 9 1 (n + 1) (strsF (acc ++ [(s.take i).drop a])))]})] 100 [true, true] [inR IntKind.i64 ((↑i : Int) + (↑sep.length : Int)), decide ((↑i : Int) + (↑sep.length : Int) ≤ (↑s.length : Int)) = true, decide ((↑i : Int) ≥ (↑a : Int)) = true → inR IntKind.i64 ((↑i : Int) + (↑sep.length : Int)), decide ((↑i : Int) ≥ (↑a : Int)) = true → (0 : Int) ≤ Int.ofNat i ∧ Int.ofNat i ≤ Int.ofNat (i + sep.length) ∧ Int.ofNat (i + sep.length) ≤ (↑s.length : Int), (bif decide ((↑i : Int) ≥ (↑a : Int)) then List.drop (Int.ofNat i).toNat (List.take (Int.ofNat (i + sep.length)).toNat s) == sep else false) = true, (0 : Int) ≤ Int.ofNat a ∧ Int.ofNat a ≤ Int.ofNat i ∧ Int.ofNat i ≤ (↑s.length : Int), (n + (1 : Nat)) * (16 : Nat) ≤ (140737488355328 : Nat), BlkEqv (Blk.row 9 (1 : Nat) (n + (1 : Nat)) (catF n (strsF acc) fun (i_1 j : Nat) => nthD [Cell.str (List.drop (Int.ofNat a).toNat (List.take (Int.ofNat i).toNat s))] (((0 : Nat) + i_1) * (1 : Nat) + j))) (Blk.row 9 (1 : Nat) (n + (1 : Nat)) (strsF (acc ++ [List.drop a (List.take i s)]))), n ≤ n, (0 : Nat) + (1 : Nat) ≤ (1 : Nat), inR IntKind.i64 ((↑i : Int) + (↑sep.length : Int)), inR IntKind.i64 ((↑i : Int) + (1 : Int))] (by kernel_rfl) (by kernel_rfl) (by kernel_rfl) ⟨inR64 (by omega) (by omega), (by simp; omega), (fun _ => inR64 (by omega) (by omega)), (by simp; omega), (by assumption), ⟨(by simp; done), ⟨(by simp; omega), (by simp; omega)⟩⟩, (by omega), (by assumption), (by omega), (by omega), inR64 (by omega) (by omega), inR64 (by omega) (by omega)⟩ ?_
        exact Wp.lpK (by kernel_rfl) (again _ (i + 1, i + sep.length, n + 1, acc ++ [(s.take i).drop a]) ⟨(by omega), ⟨(by assumption), ⟨(by assumption), ⟨(by simp; omega), ⟨(by assumption), (by assumption)⟩⟩⟩⟩⟩ (by omega) (Ent.of [(64, 512)] (by kernel_rfl) (by kernel_rfl) (by kernel_rfl) trivial))
      | false =>
        rw [hoc] at ho
        have ht : (bif decide ((i : Int) ≥ (a : Int)) then List.drop i (List.take (i + sep.length) s) == sep else false) = false := by rw [decide_eq_true (by omega)]; exact ho.symm
        have hall2 : ∀ j, a ≤ j → j < i + 1 → Lib.occAt s sep j = false := fun j h1 h2 => by
          rcases Nat.lt_or_ge j i with h | h
          · exact hall j h1 h
          · rw [show j = i from by omega]; exact hoc
        clear hall hoc ho
        refine Wp.go (mx := true) (fun _ => mixed) [] 100 [true, false] [inR IntKind.i64 ((↑i : Int) + (↑sep.length : Int)), decide ((↑i : Int) + (↑sep.length : Int) ≤ (↑s.length : Int)) = true, decide ((↑i : Int) ≥ (↑a : Int)) = true → inR IntKind.i64 ((↑i : Int) + (↑sep.length : Int)), decide ((↑i : Int) ≥ (↑a : Int)) = true → (0 : Int) ≤ Int.ofNat i ∧ Int.ofNat i ≤ Int.ofNat (i + sep.length) ∧ Int.ofNat (i + sep.length) ≤ (↑s.length : Int), (bif decide ((↑i : Int) ≥ (↑a : Int)) then List.drop (Int.ofNat i).toNat (List.take (Int.ofNat (i + sep.length)).toNat s) == sep else false) = false, inR IntKind.i64 ((↑i : Int) + (1 : Int))] (by kernel_rfl) (by kernel_rfl) (by kernel_rfl) ⟨inR64 (by omega) (by omega), (by simp; omega), (fun _ => inR64 (by omega) (by omega)), (by simp; omega), (by assumption), inR64 (by omega) (by omega)⟩ ?_
        exact Wp.lpK (by kernel_rfl) (again _ (i + 1, a, n, acc) ⟨(by omega), ⟨(by assumption), ⟨(by assumption), ⟨(by simp; omega), ⟨(by assumption), (by assumption)⟩⟩⟩⟩⟩ (by omega) (Ent.of [] (by kernel_rfl) (by kernel_rfl) (by kernel_rfl) trivial))
    · have hall2 : ∀ j, a ≤ j → j < i + 1 → Lib.occAt s sep j = false := fun j h1 h2 => by omega
      clear hall ho
      refine Wp.go (mx := true) (fun _ => mixed) [] 100 [true, false] [inR IntKind.i64 ((↑i : Int) + (↑sep.length : Int)), decide ((↑i : Int) + (↑sep.length : Int) ≤ (↑s.length : Int)) = true, decide ((↑i : Int) ≥ (↑a : Int)) = true → inR IntKind.i64 ((↑i : Int) + (↑sep.length : Int)), decide ((↑i : Int) ≥ (↑a : Int)) = true → (0 : Int) ≤ Int.ofNat i ∧ Int.ofNat i ≤ Int.ofNat (i + sep.length) ∧ Int.ofNat (i + sep.length) ≤ (↑s.length : Int), (bif decide ((↑i : Int) ≥ (↑a : Int)) then List.drop (Int.ofNat i).toNat (List.take (Int.ofNat (i + sep.length)).toNat s) == sep else false) = false, inR IntKind.i64 ((↑i : Int) + (1 : Int))] (by kernel_rfl) (by kernel_rfl) (by kernel_rfl) ⟨inR64 (by omega) (by omega), (by simp; omega), (fun _ => inR64 (by omega) (by omega)), (by simp; omega), (by simp; omega), inR64 (by omega) (by omega)⟩ ?_
      exact Wp.lpK (by kernel_rfl) (again _ (i + 1, a, n, acc) ⟨(by omega), ⟨(by assumption), ⟨(by assumption), ⟨(by simp; omega), ⟨(by assumption), (by assumption)⟩⟩⟩⟩⟩ (by omega) (Ent.of [] (by kernel_rfl) (by kernel_rfl) (by kernel_rfl) trivial))
  · rw [split_end hs (by omega) hall] at hq
    rw [hq]
    have e1 : BlkEqv (.row 9 1 (n + 1) (catF n (strsF acc) (fun i' j => nthD [.str ((s.take s.length).drop a)] ((0 + i') * 1 + j)))) (.row 9 1 (n + 1) (strsF (acc ++ [(s.take s.length).drop a]))) := strs_app acc _ hna
    have q2 : n + 1 = (acc ++ [(s.take s.length).drop a]).length := by simp [hna]
    clear hq hall
    refine Wp.go (mx := true) (fun _ => mixed) [(9, {bs := [(5, Blk.row 9 1 (n + 1) (strsF (acc ++ [(s.take s.length).drop a])))]})] 100 [false] [inR IntKind.i64 ((↑i : Int) + (↑sep.length : Int)), decide ((↑i : Int) + (↑sep.length : Int) ≤ (↑s.length : Int)) = false, (0 : Int) ≤ Int.ofNat a ∧ Int.ofNat a ≤ Int.ofNat s.length ∧ Int.ofNat s.length ≤ (↑s.length : Int), (n + (1 : Nat)) * (16 : Nat) ≤ (140737488355328 : Nat), BlkEqv (Blk.row 9 (1 : Nat) (n + (1 : Nat)) (catF n (strsF acc) fun (i j : Nat) => nthD [Cell.str (List.drop (Int.ofNat a).toNat (List.take (Int.ofNat s.length).toNat s))] (((0 : Nat) + i) * (1 : Nat) + j))) (Blk.row 9 (1 : Nat) (n + (1 : Nat)) (strsF (acc ++ [List.drop a (List.take s.length s)]))), n ≤ n, (0 : Nat) + (1 : Nat) ≤ (1 : Nat)] (by kernel_rfl) (by kernel_rfl) (by kernel_rfl) ⟨inR64 (by omega) (by omega), (by simp; omega), ⟨(by simp; done), ⟨(by simp; omega), (by simp; done)⟩⟩, (by omega), (by assumption), (by omega), (show (0 : Nat) + (1 : Nat) ≤ (1 : Nat) from (by omega))⟩ ?_
    refine Wp.ent' (by kernel_rfl) (Ent.pubT (t := 4) (e := 9) (sz := (1 : Nat)) (id := 272) (off := (0 : Nat)) (m := n + (1 : Nat)) (n := n + (1 : Nat)) (f := strsF (acc ++ [List.drop a (List.take s.length s)])) (m' := (acc ++ [List.drop a (List.take s.length s)]).length) (f' := strsF (acc ++ [List.drop a (List.take s.length s)])) (by kernel_rfl) (by kernel_rfl) (by omega) (by assumption) (fun i _ j _ => by rw [Nat.zero_add]) rfl) ?_
    refine Wp.ret' (by kernel_rfl) ?_
    exact FinQ.pure (rs' := [V1.c (Cell.sl (1 : Nat) (acc ++ [List.drop a (List.take s.length s)]).length (strsF (acc ++ [List.drop a (List.take s.length s)])))]) (by kernel_rfl) rfl (by kernel_rfl)

/-! is a name there? -/
def ckB (l : List FT) : Blk := .row 26 2 l.length (rowF encF .nil l)
def ckX (q : FT) : Blk := .box 26 (encF q)
def ckP (q : FT) (x : FT) : Bool := x.name == q.name
theorem parse1_ok (x q : FT) : FnB Tryd.prog G 26 [ckX q] [.agg (encF x), .c (.ptr 0 0)] [.c (.bool (ckP q x))] [(0, ckX q)] := by
  refine Fn.of' Tryd.func26 (by kernel_rfl) (by kernel_rfl) (by kernel_rfl) (by kernel_rfl) trivial ?_
  refine Wp.go (mx := true) (fun _ => mixed) [] 100 [] [] (by kernel_rfl) (by kernel_rfl) (by kernel_rfl) trivial ?_
  refine Wp.ret' (by kernel_rfl) ?_
  exact FinQ.blk [] (by kernel_rfl) (by kernel_rfl) (by kernel_rfl) (by kernel_rfl) (by kernel_rfl) trivial
theorem idxC_ok (l : List FT) (q : FT) (hl : l.length < 1000000000000) : FnB Tryd.prog G 42 [ckB l, ckX q] [.c (.row 2 0 0 l.length), .c (clo1 26 (.ptr 1 0))] [.c (.int .i64 (ixF (ckP q) l))] [(0, ckB l), (1, ckX q)] := by
  refine Fn.of' Tryd.func42 (by kernel_rfl) (by kernel_rfl) (by kernel_rfl) (by kernel_rfl) trivial ?_
  refine Wp.go (mx := true) (fun _ => mixed) [] 100 [] [] (by kernel_rfl) (by kernel_rfl) (by kernel_rfl) trivial ?_
  refine Wp.loopK (by kernel_rfl) (fun (k : Nat) => ⟨[(0, .v (.c (.row 2 0 0 l.length))), (1, .v (.c (clo1 26 (.ptr 1 0)))), (7, .v (.c (.int .i64 (l.length : Int)))), (8, .v (.c (.int .i64 (k : Int))))], [(0, ckB l), (1, ckX q)], 2⟩) (fun k => k ≤ l.length ∧ ∀ i, i < k → ckP q (l.getD i .nil) = false) (fun k => l.length - k) 0 (Ent.of [] (by kernel_rfl) (by kernel_rfl) (by kernel_rfl) trivial) ⟨Nat.zero_le _, fun i hi => absurd hi (Nat.not_lt_zero i)⟩ ?_
  rintro k L ⟨hk, hall⟩ again
  rcases Nat.lt_or_ge k l.length with hlt | hge
  · have c := parse1_ok (G := G) (l.getD k .nil) q
    have e2 : EqvD (.agg (encF (l.getD (0 + k) .nil))) (.agg (encF (l.getD k .nil))) := eqvD_of (by rw [Nat.zero_add])
    cases hp : ckP q (l.getD k .nil) with
    | true =>
      rw [hp] at c
      rw [ixF_some hlt hall hp]
      clear hp hall
      refine Wp.go (mx := true) (fun _ => mixed) [(4, {cs := [(5, cb [1] c)], fm := [(4, .agg (encF (l.getD k .nil)))]})] 100 [true, true] [decide ((↑k : Int) < (↑l.length : Int)) = true, (0 : Int) ≤ (↑k : Int) ∧ (↑k : Int) < (↑l.length : Int), (0 : Nat) + k < l.length, EqvD (V1.agg [Cell.str (l.getD ((0 : Nat) + k) FT.nil).name, Cell.str (l.getD ((0 : Nat) + k) FT.nil).value]) (V1.agg (encF (l.getD k FT.nil))), true = true] (by kernel_rfl) (by kernel_rfl) (by kernel_rfl) ⟨(by simp; omega), (by omega), (by omega), (by assumption), rfl⟩ ?_
      refine Wp.ret' (by kernel_rfl) ?_
      exact FinQ.blk [] (by kernel_rfl) (by kernel_rfl) (by kernel_rfl) (by kernel_rfl) (by kernel_rfl) trivial
    | false =>
      rw [hp] at c
      have hall2 := up1 hall hp
      clear hp hall
      refine Wp.go (mx := true) (fun _ => mixed) [(4, {cs := [(5, cb [1] c)], fm := [(4, .agg (encF (l.getD k .nil)))]})] 100 [true, false] [decide ((↑k : Int) < (↑l.length : Int)) = true, (0 : Int) ≤ (↑k : Int) ∧ (↑k : Int) < (↑l.length : Int), (0 : Nat) + k < l.length, EqvD (V1.agg [Cell.str (l.getD ((0 : Nat) + k) FT.nil).name, Cell.str (l.getD ((0 : Nat) + k) FT.nil).value]) (V1.agg (encF (l.getD k FT.nil))), false = false, inR IntKind.i64 ((↑k : Int) + (1 : Int))] (by kernel_rfl) (by kernel_rfl) (by kernel_rfl) ⟨(by simp; omega), (by omega), (by omega), (by assumption), rfl, inR64 (by omega) (by omega)⟩ ?_
      exact Wp.lpK (by kernel_rfl) (again _ (k + 1) ⟨(by assumption), (by assumption)⟩ (by omega) (Ent.of [] (by kernel_rfl) (by kernel_rfl) (by kernel_rfl) trivial))
  · rw [ixF_none (d := .nil) (fun i hi => hall i (by omega))]
    clear hall
    refine Wp.go (mx := true) (fun _ => mixed) [] 100 [false] [decide ((↑k : Int) < (↑l.length : Int)) = false] (by kernel_rfl) (by kernel_rfl) (by kernel_rfl) (show decide ((↑k : Int) < (↑l.length : Int)) = false from (by simp; omega)) ?_
    refine Wp.ret' (by kernel_rfl) ?_
    exact FinQ.blk [] (by kernel_rfl) (by kernel_rfl) (by kernel_rfl) (by kernel_rfl) (by kernel_rfl) trivial
theorem conC_ok (l : List FT) (q : FT) (hl : l.length < 1000000000000) : FnB Tryd.prog G 25 [ckB l, ckX q] [.c (.row 2 0 0 l.length), .c (clo1 26 (.ptr 1 0))] [.c (.bool (l.any (ckP q)))] [(0, ckB l), (1, ckX q)] := by
  refine Fn.of' Tryd.func25 (by kernel_rfl) (by kernel_rfl) (by kernel_rfl) (by kernel_rfl) trivial ?_
  rw [← ixF_any]
  have c := idxC_ok (G := G) l q hl
  refine Wp.go (mx := true) (fun _ => mixed) [(1, {cs := [(2, cb [0, 1] c)]})] 100 [] [] (by kernel_rfl) (by kernel_rfl) (by kernel_rfl) trivial ?_
  refine Wp.ret' (by kernel_rfl) ?_
  exact FinQ.blk [] (by kernel_rfl) (by kernel_rfl) (by kernel_rfl) (by kernel_rfl) (by kernel_rfl) trivial
end Go.Proofs.Tw
end

section
open Go Go.Sv
namespace Go.Proofs.Tw
attribute [local irreducible] Wp FinQ resV Ent Pur Go.Sv.Fn Sat0
set_option maxRecDepth 100000
set_option maxHeartbeats 4000000
variable {G : Nat → Option (List Cell)}

/-! the cookies of a text -/
def parseN : List (List UInt8) → List FT → List FT × Int
  | [], acc => (acc, 0)
  | p :: r, acc => if mayC (oneF p) then (if acc.any (ckP (oneF p)) then ([], 6) else parseN r (acc ++ [oneF p])) else ([], 3)
def parseC (s : List UInt8) : List FT × Int := if s = [] then ([], 0) else if (Lib.split s [59, 32]).length > 24 then ([], 7) else parseN (Lib.split s [59, 32]) []
theorem dropM {α : Type} (l : List α) (d : α) (k : Nat) (h : k < l.length) : l.drop k = l.getD k d :: l.drop (k + 1) := by
  rw [List.drop_eq_getElem_cons h]; simp [List.getD, h]
theorem splitK_len (sep : List UInt8) : ∀ (k : Nat) (s : List UInt8), ∀ x ∈ Lib.splitK sep 0 k s, x.length ≤ s.length
  | 0, s, x, hx => by simp [Lib.splitK] at hx; subst hx; exact Nat.le_refl _
  | k + 1, s, x, hx => by
    unfold Lib.splitK at hx
    split at hx
    · simp at hx; subst hx; exact Nat.le_refl _
    · rcases List.mem_cons.1 hx with rfl | hx
      · simp only [List.length_take]; omega
      · have := splitK_len sep k _ x hx
        rw [List.length_drop] at this
        omega
theorem split_el (s sep : List UInt8) (k : Nat) : ((Lib.split s sep).getD k []).length ≤ s.length := by
  rw [List.getD_eq_getElem?_getD]
  cases h : (Lib.split s sep)[k]? with
  | none => simp
  | some x => exact splitK_len sep _ s x (List.mem_of_getElem? h)
theorem fGet_any (l : List FT) (q : FT) : (fGet l q.name).isSome = l.any (ckP q) := by
  induction l with
  | nil => rfl
  | cons x l ih =>
    rw [fGet_cons, List.any_cons, ← ih]
    unfold ckP
    cases h : (x.name == q.name) <;> simp
theorem may_cut (p : List UInt8) (h : mayC (oneF p) = true) : (Lib.cut p [61]).2.2 = true := by
  unfold mayC oneF at h
  unfold Lib.cut at h ⊢
  split
  · rfl
  · rename_i hn
    rw [if_neg hn] at h
    simp only [wdT] at h
    exfalso
    revert h
    cases (p.all plainB && (decide (1 ≤ p.length) && decide (p.length ≤ 128))) <;> simp
theorem parse_ok {m : Int} (s : List UInt8) (hl : s.length < 1000000000) : Pur Tryd.prog (Gm m) 11 [.c (.str s)] [.c (encH (parseC s).1), .c (.int .i64 (parseC s).2)] := by
  refine Pur.of Tryd.func11 (by kernel_rfl) (by kernel_rfl) (by kernel_rfl) ?_
  have hnil : EqvD (.c .nilsl) (.c (encH [])) := nil_eqv _ _
  unfold parseC
  by_cases h0 : s = []
  · rw [if_pos h0]
    subst h0
    refine Wp.go (mx := true) (fun _ => mixed) [(2, {fm := [(0, .c (encH []))]})] 100 [true] [(([] : List UInt8) == []) = true, EqvI (V1.c Cell.nilsl) (V1.c (encH [])), EqvD (V1.c Cell.nilsl) (V1.c (encH []))] (by kernel_rfl) (by kernel_rfl) (by kernel_rfl) ⟨rfl, fun _ _ => trivial, (show EqvD (V1.c Cell.nilsl) (V1.c (encH [])) from (by assumption))⟩ ?_
    refine Wp.ret' (by kernel_rfl) ?_
    exact FinQ.pure (rs' := [V1.c (Cell.sl (2 : Nat) ([] : List UInt8).length fun (i j : Nat) => nthD (encF ([].getD i FT.nil)) j), V1.c (Cell.int .i64 (0 : Int))]) (by kernel_rfl) rfl (by kernel_rfl)
  rw [if_neg h0]
  have hb : (s == []) = false := by simpa using h0
  have c1 := lib_Split (Gm_len m) s [59, 32] (by omega) (by decide)
  have hel := split_el s [59, 32]
  generalize Lib.split s [59, 32] = l at c1 hel
  by_cases h1 : l.length > 24
  · rw [if_pos h1]
    refine Wp.go (mx := true) (fun _ => mixed) [(5, {fm := [(0, .c (encH []))]}), (3, {cs := [(1, pc c1)]})] 100 [false, true] [(s == []) = false, decide ((↑l.length : Int) > (24 : Int)) = true, EqvI (V1.c Cell.nilsl) (V1.c (encH [])), EqvD (V1.c Cell.nilsl) (V1.c (encH []))] (by kernel_rfl) (by kernel_rfl) (by kernel_rfl) ⟨(by assumption), (by simp; omega), fun _ _ => trivial, (show EqvD (V1.c Cell.nilsl) (V1.c (encH [])) from (by assumption))⟩ ?_
    refine Wp.ret' (by kernel_rfl) ?_
    exact FinQ.pure (rs' := [V1.c (Cell.sl (2 : Nat) ([] : List UInt8).length fun (i j : Nat) => nthD (encF ([].getD i FT.nil)) j), V1.c (Cell.int .i64 (7 : Int))]) (by kernel_rfl) rfl (by kernel_rfl)
  rw [if_neg h1]
  have hgt : decide ((l.length : Int) > 24) = false := by simp; omega
  refine Wp.go (mx := true) (fun _ => mixed) [(3, {cs := [(1, pc c1)]})] 100 [false, false] [(s == []) = false, decide ((l.length : Int) > 24) = false] (by kernel_rfl) (by kernel_rfl) (by kernel_rfl) ⟨hb, hgt⟩ ?_
  refine Wp.loopK (by kernel_rfl) (fun (x : Nat × Nat × List FT) => ⟨[(5, .v (.c (.row 2 240 0 x.2.1))), (6, .v (.c (.int .i64 0))), (18, .v (.c (.sl 1 l.length (strsF l)))), (19, .v (.c (.int .i64 (l.length : Int)))), (20, .v (.c (.int .i64 (x.1 : Int))))], [(240, .row 26 2 x.2.1 (rowF encF .nil x.2.2))], 256⟩) (fun x => x.1 ≤ l.length ∧ x.2.1 = x.2.2.length ∧ x.2.1 ≤ x.1 ∧ parseN l [] = parseN (l.drop x.1) x.2.2) (fun x => l.length - x.1) (0, 0, []) (Ent.trans (Ent.empT (t := 5) (sz := 2) (e := 26) (f := (rowF encF .nil [])) (by decide) (by kernel_rfl) rfl) (Ent.of [] (by kernel_rfl) (by kernel_rfl) (by kernel_rfl) trivial)) ⟨Nat.zero_le _, rfl, Nat.le_refl _, rfl⟩ ?_
  rintro ⟨k, n, acc⟩ L ⟨hk, hn, hm, hq⟩ again
  simp only at hk hn hm hq
  rcases Nat.lt_or_ge k l.length with hlt | hge
  · rw [dropM l [] k hlt, parseN] at hq
    have hp := hel k
    cases hmy : mayC (oneF (l.getD k [])) with
    | false =>
      have c := one_no (m := m) (l.getD k []) (by omega) hmy
      rw [if_neg (by rw [hmy]; decide)] at hq
      rw [hq]
      clear hq hmy
      refine Wp.go (mx := true) (fun _ => mixed) [(19, {fm := [(1, .c (encH []))]}), (11, {cs := [(1, pc c)]})] 100 [true, true, true] [decide ((↑k : Int) < (↑l.length : Int)) = true, (0 : Int) ≤ (↑k : Int) ∧ (↑k : Int) < (↑l.length : Int), (!false) = true, ((3 : Int) != (0 : Int)) = true, EqvI (V1.c Cell.nilsl) (V1.c (encH [])), EqvD (V1.c Cell.nilsl) (V1.c (encH []))] (by kernel_rfl) (by kernel_rfl) (by kernel_rfl) ⟨(by simp; omega), (by omega), rfl, rfl, fun _ _ => trivial, (show EqvD (V1.c Cell.nilsl) (V1.c (encH [])) from (by assumption))⟩ ?_
      refine Wp.ret' (by kernel_rfl) ?_
      exact FinQ.pure (rs' := [V1.c (Cell.sl (2 : Nat) ([] : List UInt8).length fun (i j : Nat) => nthD (encF ([].getD i FT.nil)) j), V1.c (Cell.int .i64 (3 : Int))]) (by kernel_rfl) rfl (by kernel_rfl)
    | true =>
      have c := one_yes (m := m) (l.getD k []) (by omega) hmy
      rw [if_pos hmy] at hq
      have c2 := conC_ok (G := Gm m) acc (oneF (l.getD k [])) (by omega)
      subst hn
      cases ha : acc.any (ckP (oneF (l.getD k []))) with
      | true =>
        rw [ha] at c2
        rw [if_pos ha] at hq
        rw [hq]
        clear hq hmy ha
        refine Wp.go (mx := true) (fun _ => mixed) [(14, {cs := [(2, cb [240, 400] c2)], fm := [(1, .c (clo1 26 (.ptr 400 0)))]}), (19, {fm := [(1, .c (encH []))]}), (11, {cs := [(1, pc c)]})] 100 [true, false, true, true] [decide ((↑k : Int) < (↑l.length : Int)) = true, (0 : Int) ≤ (↑k : Int) ∧ (↑k : Int) < (↑l.length : Int), (!true) = false, EqvI (V1.c (cloRaw (26 : Nat) [V1.c (Cell.ptr (400 : Nat) (0 : Nat))])) (V1.c (clo1 (26 : FuncId) (Cell.ptr (400 : Nat) (0 : Nat)))), EqvD (V1.c (cloRaw (26 : Nat) [V1.c (Cell.ptr (400 : Nat) (0 : Nat))])) (V1.c (clo1 (26 : FuncId) (Cell.ptr (400 : Nat) (0 : Nat)))), true = true, ((6 : Int) != (0 : Int)) = true, EqvI (V1.c Cell.nilsl) (V1.c (encH [])), EqvD (V1.c Cell.nilsl) (V1.c (encH []))] (by kernel_rfl) (by kernel_rfl) (by kernel_rfl) ⟨(by simp; omega), (by omega), rfl, clo1_I _ _, clo1_D _ _, rfl, rfl, fun _ _ => trivial, (show EqvD (V1.c Cell.nilsl) (V1.c (encH [])) from (by assumption))⟩ ?_
        refine Wp.ret' (by kernel_rfl) ?_
        exact FinQ.pure (rs' := [V1.c (Cell.sl (2 : Nat) ([] : List UInt8).length fun (i j : Nat) => nthD (encF ([].getD i FT.nil)) j), V1.c (Cell.int .i64 (6 : Int))]) (by kernel_rfl) rfl (by kernel_rfl)
      | false =>
        rw [ha] at c2
        rw [if_neg (by rw [ha]; decide)] at hq
        have e1 : BlkEqv (.row 26 2 (acc.length + 1) (catF acc.length (rowF encF .nil acc) (fun i j => nthD (encF (oneF (l.getD k []))) ((0 + i) * 2 + j)))) (.row 26 2 (acc.length + 1) (rowF encF .nil (acc ++ [oneF (l.getD k [])]))) := enc_app acc _ rfl
        have q2 : acc.length + 1 = (acc ++ [oneF (l.getD k [])]).length := by simp
        clear hmy ha
        refine Wp.go (mx := true) (fun _ => mixed) [(14, {cs := [(2, cb [240, 400] c2)], fm := [(1, .c (clo1 26 (.ptr 400 0)))]}), (16, {bs := [(3, Blk.row 26 2 (acc.length + 1) (rowF encF .nil (acc ++ [oneF (l.getD k [])])))]}), (11, {cs := [(1, pc c)]})] 100 [true, false, false] [decide ((↑k : Int) < (↑l.length : Int)) = true, (0 : Int) ≤ (↑k : Int) ∧ (↑k : Int) < (↑l.length : Int), (!true) = false, EqvI (V1.c (cloRaw (26 : Nat) [V1.c (Cell.ptr (400 : Nat) (0 : Nat))])) (V1.c (clo1 (26 : FuncId) (Cell.ptr (400 : Nat) (0 : Nat)))), EqvD (V1.c (cloRaw (26 : Nat) [V1.c (Cell.ptr (400 : Nat) (0 : Nat))])) (V1.c (clo1 (26 : FuncId) (Cell.ptr (400 : Nat) (0 : Nat)))), false = false, (acc.length + (1 : Nat)) * (32 : Nat) ≤ (140737488355328 : Nat), BlkEqv (Blk.row 26 (2 : Nat) (acc.length + (1 : Nat)) (catF acc.length (rowF encF FT.nil acc) fun (i j : Nat) => nthD [Cell.str (oneF (l.getD k [])).name, Cell.str (oneF (l.getD k [])).value] (((0 : Nat) + i) * (2 : Nat) + j))) (Blk.row 26 (2 : Nat) (acc.length + (1 : Nat)) (rowF encF FT.nil (acc ++ [oneF (l.getD k [])]))), acc.length ≤ acc.length, (0 : Nat) + (1 : Nat) ≤ (1 : Nat), inR IntKind.i64 ((↑k : Int) + (1 : Int))] (by kernel_rfl) (by kernel_rfl) (by kernel_rfl) ⟨(by simp; omega), (by omega), rfl, clo1_I _ _, clo1_D _ _, rfl, (by omega), (by assumption), (by omega), (by omega), inR64 (by omega) (by omega)⟩ ?_
        exact Wp.lpK (by kernel_rfl) (again _ (k + 1, acc.length + 1, acc ++ [oneF (l.getD k [])]) ⟨(by assumption), ⟨(by assumption), ⟨(by simp; omega), (by assumption)⟩⟩⟩ (by omega) (Ent.of [(240, 608)] (by kernel_rfl) (by kernel_rfl) (by kernel_rfl) trivial))
  · rw [List.drop_of_length_le hge, parseN] at hq
    rw [hq]
    subst hn
    refine Wp.go (mx := true) (fun _ => mixed) [] 100 [false, false] [decide ((↑k : Int) < (↑l.length : Int)) = false, ((0 : Int) != (0 : Int)) = false] (by kernel_rfl) (by kernel_rfl) (by kernel_rfl) ⟨(by simp; omega), rfl⟩ ?_
    refine Wp.ent' (by kernel_rfl) (Ent.pubT (t := 2) (e := 26) (sz := (2 : Nat)) (id := 240) (off := (0 : Nat)) (m := acc.length) (n := acc.length) (f := fun (i j : Nat) => nthD [Cell.str (acc.getD i FT.nil).name, Cell.str (acc.getD i FT.nil).value] j) (m' := acc.length) (f' := fun (i j : Nat) => nthD [Cell.str (acc.getD i FT.nil).name, Cell.str (acc.getD i FT.nil).value] j) (by kernel_rfl) (by kernel_rfl) (by omega) rfl (fun i _ j _ => by rw [Nat.zero_add]) rfl) ?_
    refine Wp.ret' (by kernel_rfl) ?_
    exact FinQ.pure (rs' := [V1.c (Cell.sl (2 : Nat) acc.length fun (i j : Nat) => nthD [Cell.str (acc.getD i FT.nil).name, Cell.str (acc.getD i FT.nil).value] j), V1.c (Cell.int .i64 (0 : Int))]) (by kernel_rfl) rfl (by kernel_rfl)
theorem parse14_ok (s : List UInt8) (hl : s.length < 1000000000) : Pur Tryd.prog G 12 [.c (.str s)] [.c (encH (parseC s).1), .c (.int .i64 (parseC s).2)] := by
  refine Pur.of Tryd.func12 (by kernel_rfl) (by kernel_rfl) (by kernel_rfl) ?_
  have hnil : EqvD (.c .nilsl) (.c (encH [])) := nil_eqv _ _
  unfold parseC
  by_cases h0 : s = []
  · rw [if_pos h0]
    subst h0
    refine Wp.go (mx := true) (fun _ => mixed) [(2, {fm := [(0, .c (encH []))]})] 100 [true] [(([] : List UInt8) == []) = true, EqvI (V1.c Cell.nilsl) (V1.c (encH [])), EqvD (V1.c Cell.nilsl) (V1.c (encH []))] (by kernel_rfl) (by kernel_rfl) (by kernel_rfl) ⟨rfl, fun _ _ => trivial, (show EqvD (V1.c Cell.nilsl) (V1.c (encH [])) from (by assumption))⟩ ?_
    refine Wp.ret' (by kernel_rfl) ?_
    exact FinQ.pure (rs' := [V1.c (Cell.sl (2 : Nat) ([] : List UInt8).length fun (i j : Nat) => nthD (encF ([].getD i FT.nil)) j), V1.c (Cell.int .i64 (0 : Int))]) (by kernel_rfl) rfl (by kernel_rfl)
  rw [if_neg h0]
  have hb : (s == []) = false := by simpa using h0
  have c1 := parts_ok (G := G) s [59, 32] hl (by simp) (by decide)
  have hel := split_el s [59, 32]
  generalize Lib.split s [59, 32] = l at c1 hel
  by_cases h1 : l.length > 24
  · rw [if_pos h1]
    refine Wp.go (mx := true) (fun _ => mixed) [(5, {fm := [(0, .c (encH []))]}), (3, {cs := [(1, pc c1)]})] 100 [false, true] [(s == []) = false, decide ((↑l.length : Int) > (24 : Int)) = true, EqvI (V1.c Cell.nilsl) (V1.c (encH [])), EqvD (V1.c Cell.nilsl) (V1.c (encH []))] (by kernel_rfl) (by kernel_rfl) (by kernel_rfl) ⟨(by assumption), (by simp; omega), fun _ _ => trivial, (show EqvD (V1.c Cell.nilsl) (V1.c (encH [])) from (by assumption))⟩ ?_
    refine Wp.ret' (by kernel_rfl) ?_
    exact FinQ.pure (rs' := [V1.c (Cell.sl (2 : Nat) ([] : List UInt8).length fun (i j : Nat) => nthD (encF ([].getD i FT.nil)) j), V1.c (Cell.int .i64 (7 : Int))]) (by kernel_rfl) rfl (by kernel_rfl)
  rw [if_neg h1]
  have hgt : decide ((l.length : Int) > 24) = false := by simp; omega
  refine Wp.go (mx := true) (fun _ => mixed) [(3, {cs := [(1, pc c1)]})] 100 [false, false] [(s == []) = false, decide ((l.length : Int) > 24) = false] (by kernel_rfl) (by kernel_rfl) (by kernel_rfl) ⟨hb, hgt⟩ ?_
  refine Wp.loopK (by kernel_rfl) (fun (x : Nat × Nat × List FT) => ⟨[(4, .v (.c (.sl 1 l.length (strsF l)))), (5, .v (.c (.row 2 192 0 x.2.1))), (6, .v (.c (.int .i64 (x.1 : Int))))], [(192, .row 26 2 x.2.1 (rowF encF .nil x.2.2))], 208⟩) (fun x => x.1 ≤ l.length ∧ x.2.1 = x.2.2.length ∧ x.2.1 ≤ x.1 ∧ parseN l [] = parseN (l.drop x.1) x.2.2) (fun x => l.length - x.1) (0, 0, []) (Ent.trans (Ent.empT (t := 5) (sz := 2) (e := 26) (f := (rowF encF .nil [])) (by decide) (by kernel_rfl) rfl) (Ent.of [] (by kernel_rfl) (by kernel_rfl) (by kernel_rfl) trivial)) ⟨Nat.zero_le _, rfl, Nat.le_refl _, rfl⟩ ?_
  rintro ⟨k, n, acc⟩ L ⟨hk, hn, hm, hq⟩ again
  simp only at hk hn hm hq
  rcases Nat.lt_or_ge k l.length with hlt | hge
  · rw [dropM l [] k hlt, parseN] at hq
    have hp := hel k
    have hc := cut_len (l.getD k []) [61]
    have c := cut6_ok (G := G) (l.getD k []) [61] (by omega) (by simp) (by decide)
    have c3 := mayC14_ok (G := G) (oneF (l.getD k [])) (by show (Lib.cut (l.getD k []) [61]).1.length < _; omega) (by show (Lib.cut (l.getD k []) [61]).2.1.length < _; omega)
    cases hmy : mayC (oneF (l.getD k [])) with
    | false =>
      rw [hmy] at c3
      rw [if_neg (by rw [hmy]; decide)] at hq
      rw [hq]
      clear hmy
      cases hcu : (Lib.cut (l.getD k []) [61]).2.2 with
      | true =>
        rw [hcu] at c
        clear hcu hq
        refine Wp.go (mx := true) (fun _ => mixed) [(13, {fm := [(0, .c (encH []))]}), (10, {cs := [(4, pc c)]}), (12, {cs := [(4, pc c3)]})] 100 [true, true] [decide ((↑k : Int) < (↑l.length : Int)) = true, (0 : Int) ≤ (↑k : Int) ∧ (↑k : Int) < (↑l.length : Int), (bif !true then true else !false) = true, EqvI (V1.c Cell.nilsl) (V1.c (encH [])), EqvD (V1.c Cell.nilsl) (V1.c (encH []))] (by kernel_rfl) (by kernel_rfl) (by kernel_rfl) ⟨(by simp; omega), (by omega), rfl, fun _ _ => trivial, (show EqvD (V1.c Cell.nilsl) (V1.c (encH [])) from (by assumption))⟩ ?_
        refine Wp.ret' (by kernel_rfl) ?_
        exact FinQ.pure (rs' := [V1.c (Cell.sl (2 : Nat) ([] : List UInt8).length fun (i j : Nat) => nthD (encF ([].getD i FT.nil)) j), V1.c (Cell.int .i64 (3 : Int))]) (by kernel_rfl) rfl (by kernel_rfl)
      | false =>
        rw [hcu] at c
        clear hcu hq
        refine Wp.go (mx := true) (fun _ => mixed) [(13, {fm := [(0, .c (encH []))]}), (10, {cs := [(4, pc c)]}), (12, {cs := [(4, pc c3)]})] 100 [true, true] [decide ((↑k : Int) < (↑l.length : Int)) = true, (0 : Int) ≤ (↑k : Int) ∧ (↑k : Int) < (↑l.length : Int), (bif !false then true else !false) = true, EqvI (V1.c Cell.nilsl) (V1.c (encH [])), EqvD (V1.c Cell.nilsl) (V1.c (encH []))] (by kernel_rfl) (by kernel_rfl) (by kernel_rfl) ⟨(by simp; omega), (by omega), rfl, fun _ _ => trivial, (show EqvD (V1.c Cell.nilsl) (V1.c (encH [])) from (by assumption))⟩ ?_
        refine Wp.ret' (by kernel_rfl) ?_
        exact FinQ.pure (rs' := [V1.c (Cell.sl (2 : Nat) ([] : List UInt8).length fun (i j : Nat) => nthD (encF ([].getD i FT.nil)) j), V1.c (Cell.int .i64 (3 : Int))]) (by kernel_rfl) rfl (by kernel_rfl)
    | true =>
      rw [may_cut _ hmy] at c
      rw [if_pos hmy] at hq
      rw [hmy] at c3
      have c2 := has10_ok (G := G) acc (oneF (l.getD k [])).name (by omega)
      rw [fGet_any] at c2
      subst hn
      cases ha : acc.any (ckP (oneF (l.getD k []))) with
      | true =>
        rw [ha] at c2
        rw [if_pos ha] at hq
        rw [hq]
        clear hq hmy ha
        refine Wp.go (mx := true) (fun _ => mixed) [(15, {fm := [(0, .c (encH []))]}), (10, {cs := [(4, pc c)]}), (12, {cs := [(4, pc c3)]}), (14, {cs := [(2, lc [192] [Blk.row 26 (2 : Nat) acc.length fun (i j : Nat) => nthD [Cell.str (acc.getD i FT.nil).name, Cell.str (acc.getD i FT.nil).value] j] [V1.c (Cell.row (2 : Nat) (0 : Nat) (0 : Nat) acc.length), V1.c (Cell.str (Lib.cut (l.getD k []) [(61 : UInt8)]).1)] c2 (by kernel_rfl) (by kernel_rfl) (by kernel_rfl) (show (0 : Nat) + acc.length ≤ acc.length from (by omega)))]})] 100 [true, false, true] [decide ((↑k : Int) < (↑l.length : Int)) = true, (0 : Int) ≤ (↑k : Int) ∧ (↑k : Int) < (↑l.length : Int), (bif !true then true else !true) = false, true = true, EqvI (V1.c Cell.nilsl) (V1.c (encH [])), EqvD (V1.c Cell.nilsl) (V1.c (encH []))] (by kernel_rfl) (by kernel_rfl) (by kernel_rfl) ⟨(by simp; omega), (by omega), rfl, rfl, fun _ _ => trivial, (show EqvD (V1.c Cell.nilsl) (V1.c (encH [])) from (by assumption))⟩ ?_
        refine Wp.ret' (by kernel_rfl) ?_
        exact FinQ.pure (rs' := [V1.c (Cell.sl (2 : Nat) ([] : List UInt8).length fun (i j : Nat) => nthD (encF ([].getD i FT.nil)) j), V1.c (Cell.int .i64 (6 : Int))]) (by kernel_rfl) rfl (by kernel_rfl)
      | false =>
        rw [ha] at c2
        rw [if_neg (by rw [ha]; decide)] at hq
        have e1 : BlkEqv (.row 26 2 (acc.length + 1) (catF acc.length (rowF encF .nil acc) (fun i j => nthD (encF (oneF (l.getD k []))) ((0 + i) * 2 + j)))) (.row 26 2 (acc.length + 1) (rowF encF .nil (acc ++ [oneF (l.getD k [])]))) := enc_app acc _ rfl
        have q2 : acc.length + 1 = (acc ++ [oneF (l.getD k [])]).length := by simp
        clear hmy ha
        refine Wp.go (mx := true) (fun _ => mixed) [(16, {bs := [(3, Blk.row 26 2 (acc.length + 1) (rowF encF .nil (acc ++ [oneF (l.getD k [])])))]}), (10, {cs := [(4, pc c)]}), (12, {cs := [(4, pc c3)]}), (14, {cs := [(2, lc [192] [Blk.row 26 (2 : Nat) acc.length fun (i j : Nat) => nthD [Cell.str (acc.getD i FT.nil).name, Cell.str (acc.getD i FT.nil).value] j] [V1.c (Cell.row (2 : Nat) (0 : Nat) (0 : Nat) acc.length), V1.c (Cell.str (Lib.cut (l.getD k []) [(61 : UInt8)]).1)] c2 (by kernel_rfl) (by kernel_rfl) (by kernel_rfl) (show (0 : Nat) + acc.length ≤ acc.length from (by omega)))]})] 100 [true, false, false] [decide ((↑k : Int) < (↑l.length : Int)) = true, (0 : Int) ≤ (↑k : Int) ∧ (↑k : Int) < (↑l.length : Int), (bif !true then true else !true) = false, false = false, (acc.length + (1 : Nat)) * (32 : Nat) ≤ (140737488355328 : Nat), BlkEqv (Blk.row 26 (2 : Nat) (acc.length + (1 : Nat)) (catF acc.length (fun (i j : Nat) => nthD [Cell.str (acc.getD i FT.nil).name, Cell.str (acc.getD i FT.nil).value] j) fun (i j : Nat) => nthD [Cell.str (Lib.cut (l.getD k []) [(61 : UInt8)]).1, Cell.str (Lib.cut (l.getD k []) [(61 : UInt8)]).2.fst] (((0 : Nat) + i) * (2 : Nat) + j))) (Blk.row 26 (2 : Nat) (acc.length + (1 : Nat)) (rowF encF FT.nil (acc ++ [oneF (l.getD k [])]))), acc.length ≤ acc.length, (0 : Nat) + (1 : Nat) ≤ (1 : Nat), inR IntKind.i64 ((↑k : Int) + (1 : Int))] (by kernel_rfl) (by kernel_rfl) (by kernel_rfl) ⟨(by simp; omega), (by omega), rfl, rfl, (by omega), (by assumption), (by omega), (by omega), inR64 (by omega) (by omega)⟩ ?_
        exact Wp.lpK (by kernel_rfl) (again _ (k + 1, acc.length + 1, acc ++ [oneF (l.getD k [])]) ⟨(by assumption), ⟨(by assumption), ⟨(by simp; omega), (by assumption)⟩⟩⟩ (by omega) (Ent.of [(192, 784)] (by kernel_rfl) (by kernel_rfl) (by kernel_rfl) trivial))
  · rw [List.drop_of_length_le hge, parseN] at hq
    rw [hq]
    subst hn
    refine Wp.go (mx := true) (fun _ => mixed) [] 100 [false] [decide ((↑k : Int) < (↑l.length : Int)) = false] (by kernel_rfl) (by kernel_rfl) (by kernel_rfl) (show decide ((↑k : Int) < (↑l.length : Int)) = false from (by simp; omega)) ?_
    refine Wp.ent' (by kernel_rfl) (Ent.pubT (t := 2) (e := 26) (sz := (2 : Nat)) (id := 192) (off := (0 : Nat)) (m := acc.length) (n := acc.length) (f := fun (i j : Nat) => nthD [Cell.str (acc.getD i FT.nil).name, Cell.str (acc.getD i FT.nil).value] j) (m' := acc.length) (f' := fun (i j : Nat) => nthD [Cell.str (acc.getD i FT.nil).name, Cell.str (acc.getD i FT.nil).value] j) (by kernel_rfl) (by kernel_rfl) (by omega) rfl (fun i _ j _ => by rw [Nat.zero_add]) rfl) ?_
    refine Wp.ret' (by kernel_rfl) ?_
    exact FinQ.pure (rs' := [V1.c (Cell.sl (2 : Nat) acc.length fun (i j : Nat) => nthD [Cell.str (acc.getD i FT.nil).name, Cell.str (acc.getD i FT.nil).value] j), V1.c (Cell.int .i64 (0 : Int))]) (by kernel_rfl) rfl (by kernel_rfl)
end Go.Proofs.Tw
end

section
open Go Go.Sv
namespace Go.Proofs.Tw
attribute [local irreducible] Wp FinQ resV Ent Pur Go.Sv.Fn Sat0
set_option maxRecDepth 100000
set_option maxHeartbeats 4000000
variable {G : Nat → Option (List Cell)}

/-! numbers as texts -/
def nvS (t : List UInt8) (n : Nat) : Nat := t.foldl (fun n c => n * 10 + (c.toNat - 48)) n
def nv (t : List UInt8) : Nat := nvS t 0
theorem nv_snoc (t : List UInt8) (c : UInt8) : nv (t ++ [c]) = nv t * 10 + (c.toNat - 48) := by simp [nv, nvS]
theorem nvS_cons (c : UInt8) (t : List UInt8) (n : Nat) : nvS (c :: t) n = nvS t (n * 10 + (c.toNat - 48)) := by simp only [nvS, List.foldl_cons]
theorem nvS_ge : ∀ (t : List UInt8) (n : Nat), n ≤ nvS t n
  | [], n => Nat.le_refl _
  | c :: t, n => by rw [nvS_cons]; have := nvS_ge t (n * 10 + (c.toNat - 48)); omega
theorem dec_step {m : Nat} (h : ¬ m < 10) : Lib.decDigits m = Lib.decDigits (m / 10) ++ [UInt8.ofNat (48 + m % 10)] := by
  conv => lhs; rw [Lib.decDigits, dif_neg h]
theorem dig_to {c : UInt8} (h : digitB c = true) : 48 ≤ c.toNat ∧ c.toNat ≤ 57 := by
  unfold digitB at h
  simp only [Bool.and_eq_true, decide_eq_true_eq, UInt8.le_iff_toNat_le] at h
  exact ⟨h.1, h.2⟩
theorem ofNat_dig {d : Nat} (h : d < 10) : (UInt8.ofNat (48 + d)).toNat = 48 + d := by
  simp; omega
theorem dig_of {d : Nat} (h : d < 10) : digitB (UInt8.ofNat (48 + d)) = true := by
  have := ofNat_dig h
  unfold digitB
  simp only [Bool.and_eq_true, decide_eq_true_eq, UInt8.le_iff_toNat_le, this]
  refine ⟨?_, ?_⟩
  · show 48 ≤ _; omega
  · show _ ≤ 57; omega
theorem dig_back {c : UInt8} (h : digitB c = true) : UInt8.ofNat (48 + (c.toNat - 48)) = c := by
  have := dig_to h
  apply UInt8.toNat_inj.1
  rw [ofNat_dig (by omega)]; omega
theorem nv_dec (m : Nat) : nv (Lib.decDigits m) = m := by
  induction m using Nat.strongRecOn with
  | _ m ih =>
    by_cases h : m < 10
    · rw [Lib.decDigits_one h]
      show 0 * 10 + ((UInt8.ofNat (48 + m)).toNat - 48) = m
      rw [ofNat_dig h]; omega
    · rw [dec_step h, nv_snoc, ih _ (by omega), ofNat_dig (by omega)]; omega
theorem dec_all (m : Nat) : (Lib.decDigits m).all digitB = true := by
  induction m using Nat.strongRecOn with
  | _ m ih =>
    by_cases h : m < 10
    · rw [Lib.decDigits_one h, List.all_cons, dig_of h]; rfl
    · rw [dec_step h, List.all_append, ih _ (by omega), List.all_cons, dig_of (show m % 10 < 10 by omega)]; rfl
theorem dec_ne (m : Nat) : Lib.decDigits m ≠ [] := by
  by_cases h : m < 10
  · rw [Lib.decDigits_one h]; simp
  · rw [dec_step h]; simp
theorem dec_head (m : Nat) (h1 : 1 ≤ m) : (Lib.decDigits m).getD 0 0 ≠ 48 := by
  induction m using Nat.strongRecOn with
  | _ m ih =>
    by_cases h : m < 10
    · rw [Lib.decDigits_one h]
      intro hc
      have hc : UInt8.ofNat (48 + m) = 48 := hc
      have := congrArg UInt8.toNat hc
      rw [ofNat_dig h] at this
      have : 48 + m = 48 := this
      omega
    · rw [dec_step h]
      have := ih (m / 10) (by omega) (by omega)
      have hn := dec_ne (m / 10)
      cases hd : Lib.decDigits (m / 10) with
      | nil => exact (hn hd).elim
      | cons a r => rw [hd] at this; simpa using this
theorem dec_len_le : ∀ (k m : Nat), m < 10 ^ (k + 1) → (Lib.decDigits m).length ≤ k + 1
  | 0, m, h => by rw [Lib.decDigits_one (by simpa using h)]; simp
  | k + 1, m, h => by
    by_cases h10 : m < 10
    · rw [Lib.decDigits_one h10]; simp
    · rw [dec_step h10, List.length_append]
      have := dec_len_le k (m / 10) (by rw [Nat.pow_succ] at h; omega)
      simp; omega
/-- A number's text, as it is written. -/
def canonB (t : List UInt8) : Bool := t.all digitB && (!(t == []) && !(decide (1 < t.length) && (t.getD 0 0 == 48)))
theorem canon_dec (m : Nat) : canonB (Lib.decDigits m) = true := by
  unfold canonB
  rw [dec_all]
  have h1 : (Lib.decDigits m == []) = false := by simpa using dec_ne m
  rw [h1]
  by_cases h : m < 10
  · rw [Lib.decDigits_one h]; rfl
  · have := dec_head m (by omega)
    have h2 : ((Lib.decDigits m).getD 0 0 == 48) = false := by simpa using this
    rw [h2]; simp
theorem canon_back (n : Nat) : ∀ t : List UInt8, t.length = n → canonB t = true → Lib.decDigits (nv t) = t := by
  induction n using Nat.strongRecOn with
  | _ n ih =>
    intro t hn hc
    rcases List.eq_nil_or_concat t with rfl | ⟨r, c, rfl⟩
    · simp [canonB] at hc
    · rw [List.concat_eq_append] at *
      unfold canonB at hc
      simp only [Bool.and_eq_true, List.all_append, List.all_cons, List.all_nil, Bool.and_true, Bool.not_eq_true'] at hc
      obtain ⟨⟨hr, hcd⟩, _, hh⟩ := hc
      have hd := dig_to hcd
      rw [nv_snoc]
      by_cases h0 : r = []
      · subst h0
        show Lib.decDigits (0 * 10 + (c.toNat - 48)) = [c]
        rw [Nat.zero_mul, Nat.zero_add, Lib.decDigits_one (by omega), dig_back hcd]
      · have hrl : 0 < r.length := List.length_pos_iff.2 h0
        have hlen : 1 < (r ++ [c]).length := by simp; omega
        have hg : (r ++ [c]).getD 0 0 = r.getD 0 0 := by
          cases r with
          | nil => exact (h0 rfl).elim
          | cons a r => rfl
        rw [hg, decide_eq_true hlen, Bool.true_and] at hh
        have hrc : canonB r = true := by
          unfold canonB
          rw [hr, hh]
          have : (r == []) = false := by simpa using h0
          rw [this]; simp
        have hb := ih r.length (by simp at hn; omega) r rfl hrc
        have hpos : 1 ≤ nv r := by
          rcases Nat.eq_zero_or_pos (nv r) with hz | hz
          · rw [hz] at hb
            rw [← hb] at hh
            rw [Lib.decDigits_one (by decide)] at hh
            exact absurd hh (by decide)
          · exact hz
        have hge : ¬ nv r * 10 + (c.toNat - 48) < 10 := by omega
        rw [dec_step hge, show (nv r * 10 + (c.toNat - 48)) / 10 = nv r from by omega, hb, show (nv r * 10 + (c.toNat - 48)) % 10 = c.toNat - 48 from by omega, dig_back hcd]
theorem nv_lt : ∀ (k : Nat) (t : List UInt8), t.length ≤ k → t.all digitB = true → nv t < 10 ^ k
  | 0, t, h, _ => by
    have : t = [] := List.length_eq_zero_iff.1 (by omega)
    subst this; decide
  | k + 1, t, h, ha => by
    rcases List.eq_nil_or_concat t with rfl | ⟨r, c, rfl⟩
    · show 0 < _; exact Nat.pow_pos (by omega)
    · rw [List.concat_eq_append] at *
      simp only [List.all_append, Bool.and_eq_true, List.all_cons, List.all_nil, Bool.and_true] at ha
      have := nv_lt k r (by simp at h; omega) ha.1
      have hd := dig_to ha.2
      rw [nv_snoc, Nat.pow_succ]; omega

/-! an age -/
def ageL (S : List UInt8) : List UInt8 → Nat → Int
  | [], n => if decide (n > 1099511627776) || !(Lib.decDigits n == S) then -1 else (n : Int)
  | c :: r, n => if !digitB c || decide (n > 1099511627776) then -1 else ageL S r (n * 10 + (c.toNat - 48))
def ageT (s : List UInt8) : Int := ageL s s 0
theorem ageL_cases (S : List UInt8) : ∀ (r : List UInt8) (n : Nat), ageL S r n = -1 ∨ ∃ m : Nat, m ≤ 1099511627776 ∧ ageL S r n = m ∧ Lib.decDigits m = S
  | [], n => by
    unfold ageL
    split
    · exact .inl rfl
    · rename_i h
      simp at h
      exact .inr ⟨n, h.1, rfl, h.2⟩
  | c :: r, n => by
    unfold ageL
    split
    · exact .inl rfl
    · exact ageL_cases S r _
theorem ageL_all (S : List UInt8) : ∀ (r : List UInt8) (n : Nat), r.all digitB = true → nvS r n ≤ 1099511627776 → ageL S r n = ageL S [] (nvS r n)
  | [], n, _, _ => rfl
  | c :: r, n, ha, hm => by
    simp only [List.all_cons, Bool.and_eq_true] at ha
    rw [nvS_cons] at hm ⊢
    have := nvS_ge r (n * 10 + (c.toNat - 48))
    have hd : decide (n > 1099511627776) = false := by simp; omega
    conv => lhs; unfold ageL
    rw [ha.1, hd, if_neg (by decide), ageL_all S r _ ha.2 hm]
theorem age_dec (m : Nat) (h : m ≤ 1099511627776) : ageT (Lib.decDigits m) = m := by
  unfold ageT
  have h1 := nv_dec m
  unfold nv at h1
  rw [ageL_all _ _ _ (dec_all m) (by rw [h1]; exact h), h1]
  unfold ageL
  rw [if_neg (by simp; omega)]
end Go.Proofs.Tw
end

section
open Go Go.Sv
namespace Go.Proofs.Tw
attribute [local irreducible] Wp FinQ resV Ent Pur Go.Sv.Fn Sat0
set_option maxRecDepth 100000
set_option maxHeartbeats 4000000
variable {G : Nat → Option (List Cell)}

theorem age_ok (s : List UInt8) (hl : s.length < 1000000000) : Pur Tryd.prog G 35 [.c (.str s)] [.c (.int .i64 (ageT s))] := by
  refine Pur.of Tryd.func35 (by kernel_rfl) (by kernel_rfl) (by kernel_rfl) ?_
  refine Wp.go (mx := true) (fun _ => mixed) [] 100 [] [] (by kernel_rfl) (by kernel_rfl) (by kernel_rfl) trivial ?_
  refine Wp.loopK (by kernel_rfl) (fun (x : Nat × Nat) => ⟨[(0, .v (.c (.str s))), (3, .v (.c (.int .i64 (x.2 : Int)))), (4, .v (.c (.int .i64 (x.1 : Int))))], [], 48⟩) (fun x => x.1 ≤ s.length ∧ x.2 ≤ 20000000000000 ∧ ageT s = ageL s (s.drop x.1) x.2) (fun x => s.length - x.1) (0, 0) (Ent.of [] (by kernel_rfl) (by kernel_rfl) (by kernel_rfl) trivial) ⟨Nat.zero_le _, Nat.zero_le _, rfl⟩ ?_
  rintro ⟨k, n⟩ L ⟨hk, hn, hq⟩ again
  simp only at hk hn hq
  rcases Nat.lt_or_ge k s.length with hlt | hge
  · rw [dropS s k hlt, ageL] at hq
    have c := digit6_ok (G := G) (s.getD k 0)
    cases hd : digitB (s.getD k 0) with
    | false =>
      rw [hd] at hq c
      have hq : ageT s = -1 := hq
      rw [hq]
      clear hq
      refine Wp.go (mx := true) (fun _ => mixed) [(5, {cs := [(3, pc c)]})] 100 [true, true] [decide ((↑k : Int) < (↑s.length : Int)) = true, (0 : Int) ≤ (↑k : Int) ∧ (↑k : Int) < (↑s.length : Int), (bif !false then true else decide ((↑n : Int) > (1099511627776 : Int))) = true] (by kernel_rfl) (by kernel_rfl) (by kernel_rfl) ⟨(by simp; omega), (by omega), rfl⟩ ?_
      refine Wp.ret' (by kernel_rfl) ?_
      exact FinQ.pure (rs' := [V1.c (Cell.int .i64 (-1 : Int))]) (by kernel_rfl) rfl (by kernel_rfl)
    | true =>
      rw [hd] at hq c
      have hb := dig_to hd
      cases hm : decide (n > 1099511627776) with
      | true =>
        rw [hm] at hq
        have hq : ageT s = -1 := hq
        rw [hq]
        have hm2 : decide ((n : Int) > 1099511627776) = true := by have := of_decide_eq_true hm; simp; omega
        clear hq hm
        refine Wp.go (mx := true) (fun _ => mixed) [(5, {cs := [(3, pc c)]})] 100 [true, true] [decide ((↑k : Int) < (↑s.length : Int)) = true, (0 : Int) ≤ (↑k : Int) ∧ (↑k : Int) < (↑s.length : Int), (bif !true then true else decide ((↑n : Int) > (1099511627776 : Int))) = true] (by kernel_rfl) (by kernel_rfl) (by kernel_rfl) ⟨(by simp; omega), (by omega), (show (bif !true then true else decide ((↑n : Int) > (1099511627776 : Int))) = true from (by assumption))⟩ ?_
        refine Wp.ret' (by kernel_rfl) ?_
        exact FinQ.pure (rs' := [V1.c (Cell.int .i64 (-1 : Int))]) (by kernel_rfl) rfl (by kernel_rfl)
      | false =>
        rw [hm] at hq
        have hq : ageT s = ageL s (s.drop (k + 1)) (n * 10 + ((s.getD k 0).toNat - 48)) := hq
        have hm1 := of_decide_eq_false hm
        have hm2 : decide ((n : Int) > 1099511627776) = false := by simp; omega
        have ew : IntKind.u8.wrap (((s.getD k 0).toNat : Int) - 48) = (((s.getD k 0).toNat - 48 : Nat) : Int) := by rw [wrap8 (by omega) (by omega)]; omega
        have ew2 : IntKind.i64.wrap (((s.getD k 0).toNat - 48 : Nat) : Int) = (((s.getD k 0).toNat - 48 : Nat) : Int) := wrap64 (by omega) (by omega)
        have e7 : EqvD (.c (.int .u8 (IntKind.u8.wrap (((s.getD k 0).toNat : Int) - 48)))) (.c (.int .u8 (((s.getD k 0).toNat - 48 : Nat) : Int))) := eqvD_of (by rw [ew])
        have e8 : EqvD (.c (.int .i64 (IntKind.i64.wrap (((s.getD k 0).toNat - 48 : Nat) : Int)))) (.c (.int .i64 (((s.getD k 0).toNat - 48 : Nat) : Int))) := eqvD_of (by rw [ew2])
        have e9 : EqvD (.c (.int .i64 ((n : Int) * 10 + (((s.getD k 0).toNat - 48 : Nat) : Int)))) (.c (.int .i64 ((n * 10 + ((s.getD k 0).toNat - 48) : Nat) : Int))) := eqvD_of (by rw [show (n : Int) * 10 + (((s.getD k 0).toNat - 48 : Nat) : Int) = ((n * 10 + ((s.getD k 0).toNat - 48) : Nat) : Int) from by omega])
        clear hm ew ew2
        refine Wp.go (mx := true) (fun _ => mixed) [(7, {fm := [(5, .c (.int .u8 (((s.getD k 0).toNat - 48 : Nat) : Int))), (6, .c (.int .i64 (((s.getD k 0).toNat - 48 : Nat) : Int))), (7, .c (.int .i64 ((n * 10 + ((s.getD k 0).toNat - 48) : Nat) : Int)))]}), (5, {cs := [(3, pc c)]})] 100 [true, false] [decide ((↑k : Int) < (↑s.length : Int)) = true, (0 : Int) ≤ (↑k : Int) ∧ (↑k : Int) < (↑s.length : Int), (bif !true then true else decide ((↑n : Int) > (1099511627776 : Int))) = false, inR IntKind.i64 ((↑n : Int) * (10 : Int)), (0 : Int) ≤ (↑k : Int) ∧ (↑k : Int) < (↑s.length : Int), EqvI (V1.c (Cell.int .u8 (IntKind.u8.wrap ((↑(s.getD k (0 : UInt8)).toNat : Int) - (48 : Int))))) (V1.c (Cell.int .u8 (↑((s.getD k (0 : UInt8)).toNat - (48 : Nat)) : Int))), EqvD (V1.c (Cell.int .u8 (IntKind.u8.wrap ((↑(s.getD k (0 : UInt8)).toNat : Int) - (48 : Int))))) (V1.c (Cell.int .u8 (↑((s.getD k (0 : UInt8)).toNat - (48 : Nat)) : Int))), EqvI (V1.c (Cell.int .i64 (IntKind.i64.wrap (↑((s.getD k (0 : UInt8)).toNat - (48 : Nat)) : Int)))) (V1.c (Cell.int .i64 (↑((s.getD k (0 : UInt8)).toNat - (48 : Nat)) : Int))), EqvD (V1.c (Cell.int .i64 (IntKind.i64.wrap (↑((s.getD k (0 : UInt8)).toNat - (48 : Nat)) : Int)))) (V1.c (Cell.int .i64 (↑((s.getD k (0 : UInt8)).toNat - (48 : Nat)) : Int))), EqvI (V1.c (Cell.int .i64 ((↑n : Int) * (10 : Int) + (↑((s.getD k (0 : UInt8)).toNat - (48 : Nat)) : Int)))) (V1.c (Cell.int .i64 (↑(n * (10 : Nat) + ((s.getD k (0 : UInt8)).toNat - (48 : Nat))) : Int))), EqvD (V1.c (Cell.int .i64 ((↑n : Int) * (10 : Int) + (↑((s.getD k (0 : UInt8)).toNat - (48 : Nat)) : Int)))) (V1.c (Cell.int .i64 (↑(n * (10 : Nat) + ((s.getD k (0 : UInt8)).toNat - (48 : Nat))) : Int))), inR IntKind.i64 ((↑n : Int) * (10 : Int) + (↑((s.getD k (0 : UInt8)).toNat - (48 : Nat)) : Int)), inR IntKind.i64 ((↑k : Int) + (1 : Int))] (by kernel_rfl) (by kernel_rfl) (by kernel_rfl) ⟨(by simp; omega), (by omega), (by assumption), inR64 (by omega) (by omega), (by omega), fun _ _ => trivial, (by assumption), fun _ _ => trivial, (by assumption), fun _ _ => trivial, (by assumption), inR64 (by omega) (by omega), inR64 (by omega) (by omega)⟩ ?_
        exact Wp.lpK (by kernel_rfl) (again _ (k + 1, n * 10 + ((s.getD k 0).toNat - 48)) ⟨(by assumption), ⟨(by omega), (by assumption)⟩⟩ (by omega) (Ent.of [] (by kernel_rfl) (by kernel_rfl) (by kernel_rfl) trivial))
  · rw [List.drop_of_length_le hge, ageL] at hq
    rw [hq]
    have c : Pur Tryd.prog G 31 [.c (.int .i64 (n : Int))] [.c (.str (Lib.decDigits n))] := dig_nat n (by omega)
    cases hm : decide (n > 1099511627776) with
    | true =>
      have hm2 : decide ((n : Int) > 1099511627776) = true := by have := of_decide_eq_true hm; simp; omega
      rw [Bool.true_or, if_pos rfl]
      clear hq hm
      refine Wp.go (mx := true) (fun _ => mixed) [(8, {cs := [(4, pc c)]})] 100 [false, true] [decide ((↑k : Int) < (↑s.length : Int)) = false, (bif decide ((↑n : Int) > (1099511627776 : Int)) then true else !Lib.decDigits n == s) = true] (by kernel_rfl) (by kernel_rfl) (by kernel_rfl) ⟨(by simp; omega), (show (bif decide ((↑n : Int) > (1099511627776 : Int)) then true else !Lib.decDigits n == s) = true from (by simp_all <;> omega))⟩ ?_
      refine Wp.ret' (by kernel_rfl) ?_
      exact FinQ.pure (rs' := [V1.c (Cell.int .i64 (-1 : Int))]) (by kernel_rfl) rfl (by kernel_rfl)
    | false =>
      have hm1 := of_decide_eq_false hm
      have hm2 : decide ((n : Int) > 1099511627776) = false := by simp; omega
      rw [Bool.false_or]
      cases he : (Lib.decDigits n == s) with
      | true =>
        clear hq hm
        refine Wp.go (mx := true) (fun _ => mixed) [(8, {cs := [(4, pc c)]})] 100 [false, false] [decide ((↑k : Int) < (↑s.length : Int)) = false, (bif decide ((↑n : Int) > (1099511627776 : Int)) then true else !Lib.decDigits n == s) = false] (by kernel_rfl) (by kernel_rfl) (by kernel_rfl) ⟨(by simp; omega), (show (bif decide ((↑n : Int) > (1099511627776 : Int)) then true else !Lib.decDigits n == s) = false from (by simp_all <;> omega))⟩ ?_
        refine Wp.ret' (by kernel_rfl) ?_
        exact FinQ.pure (rs' := [V1.c (Cell.int .i64 (↑n : Int))]) (by kernel_rfl) rfl (by kernel_rfl)
      | false =>
        clear hq hm
        refine Wp.go (mx := true) (fun _ => mixed) [(8, {cs := [(4, pc c)]})] 100 [false, true] [decide ((↑k : Int) < (↑s.length : Int)) = false, (bif decide ((↑n : Int) > (1099511627776 : Int)) then true else !Lib.decDigits n == s) = true] (by kernel_rfl) (by kernel_rfl) (by kernel_rfl) ⟨(by simp; omega), (show (bif decide ((↑n : Int) > (1099511627776 : Int)) then true else !Lib.decDigits n == s) = true from (by simp_all <;> omega))⟩ ?_
        refine Wp.ret' (by kernel_rfl) ?_
        exact FinQ.pure (rs' := [V1.c (Cell.int .i64 (-1 : Int))]) (by kernel_rfl) rfl (by kernel_rfl)
end Go.Proofs.Tw
end

section
open Go Go.Sv
namespace Go.Proofs.Tw
attribute [local irreducible] Wp FinQ resV Ent Pur Go.Sv.Fn Sat0
set_option maxRecDepth 100000
set_option maxHeartbeats 4000000
variable {G : Nat → Option (List Cell)}

/-! a number read -/
def numB (s : List UInt8) : Bool := decide (s.length ≤ 13) && canonB s
theorem number_yes (s : List UInt8) (h : numB s = true) : Pur Tryd.prog G 34 [.c (.str s), .c (.int .i64 13)] [.c (.int .i64 ((nv s : Nat) : Int)), .c (.bool true)] := by
  refine Pur.of Tryd.func34 (by kernel_rfl) (by kernel_rfl) (by kernel_rfl) ?_
  unfold numB canonB at h
  simp only [Bool.and_eq_true, decide_eq_true_eq, Bool.not_eq_true'] at h
  obtain ⟨hl, hd, hne, hh⟩ := h
  have c := All_digit (G := G) s (by omega)
  rw [hd] at c
  have hp : 0 < s.length := by
    cases s with
    | nil => simp at hne
    | cons a r => simp
  have hi0 : (((s.getD 0 0).toNat : Int) == 48) = (s.getD 0 0 == 48) := ibeq (s.getD 0 0) 48
  have ht : (bif bif bif s == [] then true else decide ((s.length : Int) > 13) then true else !true then true else bif decide ((s.length : Int) > 1) then ((s.getD 0 0).toNat : Int) == 48 else false) = false := by
    rw [hne, hi0, decide_eq_false (show ¬ ((s.length : Int) > 13) by omega)]
    by_cases h1 : 1 < s.length
    · rw [decide_eq_true h1, Bool.true_and] at hh
      rw [hh, decide_eq_true (show (s.length : Int) > 1 by omega)]; rfl
    · rw [decide_eq_false (show ¬ ((s.length : Int) > 1) by omega)]; rfl
  have hall : ∀ k, k < s.length → digitB (s.getD k 0) = true := fun k hk => by
    rw [List.all_eq_true] at hd
    exact hd _ (by simp [List.getD, hk])
  have hlt : ∀ k, k ≤ s.length → nv (s.take k) < 10 ^ 13 := fun k hk => nv_lt 13 _ (by simp; omega) (by rw [List.all_eq_true] at hd ⊢; exact fun x hx => hd x (List.mem_of_mem_take hx))
  have hnv : ∀ k, k < s.length → nv (s.take (k + 1)) = nv (s.take k) * 10 + ((s.getD k 0).toNat - 48) := fun k hk => by
    rw [List.take_succ_eq_append_getElem hk, nv_snoc]; simp [List.getD, hk]
  have hi1 : 0 ≤ (0 : Int) ∧ (0 : Int) < (s.length : Int) := by omega
  clear hd hh hne hi0
  refine Wp.go (mx := true) (fun _ => mixed) [(1, {cs := [(10, pc c)]})] 100 [false] [decide ((↑s.length : Int) > (1 : Int)) = true ∧ (bif bif s == [] then true else decide ((↑s.length : Int) > (13 : Int)) then true else !true) = false → (0 : Int) ≤ (0 : Int) ∧ (0 : Int) < (↑s.length : Int), (bif bif bif s == [] then true else decide ((↑s.length : Int) > (13 : Int)) then true else !true then true else bif decide ((↑s.length : Int) > (1 : Int)) then (↑(s.getD (0 : Nat) (0 : UInt8)).toNat : Int) == (48 : Int) else false) = false] (by kernel_rfl) (by kernel_rfl) (by kernel_rfl) ⟨(by omega), (show (bif bif bif s == [] then true else decide ((↑s.length : Int) > (13 : Int)) then true else !true then true else bif decide ((↑s.length : Int) > (1 : Int)) then (↑(s.getD (0 : Nat) (0 : UInt8)).toNat : Int) == (48 : Int) else false) = false from (by assumption))⟩ ?_
  refine Wp.loopK (by kernel_rfl) (fun (x : Nat × Nat) => ⟨[(0, .v (.c (.str s))), (6, .v (.c (.int .i64 (x.2 : Int)))), (32, .v (.c (.int .i64 (s.length : Int)))), (33, .v (.c (.int .i64 (x.1 : Int))))], [], 448⟩) (fun x => x.1 ≤ s.length ∧ x.2 = nv (s.take x.1)) (fun x => s.length - x.1) (0, 0) (Ent.of [] (by kernel_rfl) (by kernel_rfl) (by kernel_rfl) trivial) ⟨Nat.zero_le _, rfl⟩ ?_
  rintro ⟨k, n⟩ L ⟨hk, hn⟩ again
  simp only at hk hn
  rcases Nat.lt_or_ge k s.length with hlk | hge
  · have hb := dig_to (hall k hlk)
    have hlim := hlt k hk
    rw [← hn] at hlim
    have hn2 : n * 10 + ((s.getD k 0).toNat - 48) = nv (s.take (k + 1)) := by rw [hnv k hlk, hn]
    have ew : IntKind.u8.wrap (((s.getD k 0).toNat : Int) - 48) = (((s.getD k 0).toNat - 48 : Nat) : Int) := by rw [wrap8 (by omega) (by omega)]; omega
    have ew2 : IntKind.i64.wrap (((s.getD k 0).toNat - 48 : Nat) : Int) = (((s.getD k 0).toNat - 48 : Nat) : Int) := wrap64 (by omega) (by omega)
    have e7 : EqvD (.c (.int .u8 (IntKind.u8.wrap (((s.getD k 0).toNat : Int) - 48)))) (.c (.int .u8 (((s.getD k 0).toNat - 48 : Nat) : Int))) := eqvD_of (by rw [ew])
    have e8 : EqvD (.c (.int .i64 (IntKind.i64.wrap (((s.getD k 0).toNat - 48 : Nat) : Int)))) (.c (.int .i64 (((s.getD k 0).toNat - 48 : Nat) : Int))) := eqvD_of (by rw [ew2])
    have e9 : EqvD (.c (.int .i64 ((n : Int) * 10 + (((s.getD k 0).toNat - 48 : Nat) : Int)))) (.c (.int .i64 ((n * 10 + ((s.getD k 0).toNat - 48) : Nat) : Int))) := eqvD_of (by rw [show (n : Int) * 10 + (((s.getD k 0).toNat - 48 : Nat) : Int) = ((n * 10 + ((s.getD k 0).toNat - 48) : Nat) : Int) from by omega])
    have hlim2 : n < 10000000000000 := by simpa using hlim
    clear ew ew2 hlt hnv hall ht hlim hn
    refine Wp.go (mx := true) (fun _ => mixed) [(7, {fm := [(5, .c (.int .u8 (((s.getD k 0).toNat - 48 : Nat) : Int))), (6, .c (.int .i64 (((s.getD k 0).toNat - 48 : Nat) : Int))), (7, .c (.int .i64 ((n * 10 + ((s.getD k 0).toNat - 48) : Nat) : Int)))]})] 100 [true] [decide ((↑k : Int) < (↑s.length : Int)) = true, inR IntKind.i64 ((↑n : Int) * (10 : Int)), (0 : Int) ≤ (↑k : Int) ∧ (↑k : Int) < (↑s.length : Int), EqvI (V1.c (Cell.int .u8 (IntKind.u8.wrap ((↑(s.getD k (0 : UInt8)).toNat : Int) - (48 : Int))))) (V1.c (Cell.int .u8 (↑((s.getD k (0 : UInt8)).toNat - (48 : Nat)) : Int))), EqvD (V1.c (Cell.int .u8 (IntKind.u8.wrap ((↑(s.getD k (0 : UInt8)).toNat : Int) - (48 : Int))))) (V1.c (Cell.int .u8 (↑((s.getD k (0 : UInt8)).toNat - (48 : Nat)) : Int))), EqvI (V1.c (Cell.int .i64 (IntKind.i64.wrap (↑((s.getD k (0 : UInt8)).toNat - (48 : Nat)) : Int)))) (V1.c (Cell.int .i64 (↑((s.getD k (0 : UInt8)).toNat - (48 : Nat)) : Int))), EqvD (V1.c (Cell.int .i64 (IntKind.i64.wrap (↑((s.getD k (0 : UInt8)).toNat - (48 : Nat)) : Int)))) (V1.c (Cell.int .i64 (↑((s.getD k (0 : UInt8)).toNat - (48 : Nat)) : Int))), EqvI (V1.c (Cell.int .i64 ((↑n : Int) * (10 : Int) + (↑((s.getD k (0 : UInt8)).toNat - (48 : Nat)) : Int)))) (V1.c (Cell.int .i64 (↑(n * (10 : Nat) + ((s.getD k (0 : UInt8)).toNat - (48 : Nat))) : Int))), EqvD (V1.c (Cell.int .i64 ((↑n : Int) * (10 : Int) + (↑((s.getD k (0 : UInt8)).toNat - (48 : Nat)) : Int)))) (V1.c (Cell.int .i64 (↑(n * (10 : Nat) + ((s.getD k (0 : UInt8)).toNat - (48 : Nat))) : Int))), inR IntKind.i64 ((↑n : Int) * (10 : Int) + (↑((s.getD k (0 : UInt8)).toNat - (48 : Nat)) : Int)), inR IntKind.i64 ((↑k : Int) + (1 : Int))] (by kernel_rfl) (by kernel_rfl) (by kernel_rfl) ⟨(by simp; omega), inR64 (by omega) (by omega), (by omega), fun _ _ => trivial, (by assumption), fun _ _ => trivial, (by assumption), fun _ _ => trivial, (by assumption), inR64 (by omega) (by omega), inR64 (by omega) (by omega)⟩ ?_
    exact Wp.lpK (by kernel_rfl) (again _ (k + 1, n * 10 + ((s.getD k 0).toNat - 48)) ⟨(by assumption), (by assumption)⟩ (by omega) (Ent.of [] (by kernel_rfl) (by kernel_rfl) (by kernel_rfl) trivial))
  · rw [List.take_of_length_le hge] at hn
    subst hn
    clear hlt hnv hall ht
    refine Wp.go (mx := true) (fun _ => mixed) [] 100 [false] [decide ((↑k : Int) < (↑s.length : Int)) = false] (by kernel_rfl) (by kernel_rfl) (by kernel_rfl) (show decide ((↑k : Int) < (↑s.length : Int)) = false from (by simp; omega)) ?_
    refine Wp.ret' (by kernel_rfl) ?_
    exact FinQ.pure (rs' := [V1.c (Cell.int .i64 (↑(nv s) : Int)), V1.c (Cell.bool true)]) (by kernel_rfl) rfl (by kernel_rfl)
theorem number_no (s : List UInt8) (hl : s.length < 1000000000) (h : numB s = false) : Pur Tryd.prog G 34 [.c (.str s), .c (.int .i64 13)] [.c (.int .i64 0), .c (.bool false)] := by
  refine Pur.of Tryd.func34 (by kernel_rfl) (by kernel_rfl) (by kernel_rfl) ?_
  have c := All_digit (G := G) s (by omega)
  have hi0 : (((s.getD 0 0).toNat : Int) == 48) = (s.getD 0 0 == 48) := ibeq (s.getD 0 0) 48
  have hi1 : decide ((s.length : Int) > 1) = true → 0 ≤ (0 : Int) ∧ (0 : Int) < (s.length : Int) := fun h => by have := of_decide_eq_true h; omega
  have ht : (bif bif bif s == [] then true else decide ((s.length : Int) > 13) then true else !s.all digitB then true else bif decide ((s.length : Int) > 1) then ((s.getD 0 0).toNat : Int) == 48 else false) = true := by
    rw [hi0]
    unfold numB canonB at h
    revert h
    have hd1 : decide ((s.length : Int) > 13) = !decide (s.length ≤ 13) := by by_cases hh : s.length ≤ 13 <;> simp [hh] <;> omega
    have hd2 : decide ((s.length : Int) > 1) = decide (1 < s.length) := by by_cases hh : 1 < s.length <;> simp [hh] <;> omega
    rw [hd1, hd2]
    cases (s == []) <;> cases decide (s.length ≤ 13) <;> cases (s.all digitB) <;> cases decide (1 < s.length) <;> cases (s.getD 0 0 == 48) <;> decide
  clear h hi0
  refine Wp.go (mx := true) (fun _ => mixed) [(1, {cs := [(10, pc c)]})] 100 [true] [decide ((↑s.length : Int) > (1 : Int)) = true ∧ (bif bif s == [] then true else decide ((↑s.length : Int) > (13 : Int)) then true else !s.all digitB) = false → (0 : Int) ≤ (0 : Int) ∧ (0 : Int) < (↑s.length : Int), (bif bif bif s == [] then true else decide ((↑s.length : Int) > (13 : Int)) then true else !s.all digitB then true else bif decide ((↑s.length : Int) > (1 : Int)) then (↑(s.getD (0 : Nat) (0 : UInt8)).toNat : Int) == (48 : Int) else false) = true] (by kernel_rfl) (by kernel_rfl) (by kernel_rfl) ⟨(by simp; omega), (show (bif bif bif s == [] then true else decide ((↑s.length : Int) > (13 : Int)) then true else !s.all digitB then true else bif decide ((↑s.length : Int) > (1 : Int)) then (↑(s.getD (0 : Nat) (0 : UInt8)).toNat : Int) == (48 : Int) else false) = true from (by assumption))⟩ ?_
  refine Wp.ret' (by kernel_rfl) ?_
  exact FinQ.pure (rs' := [V1.c (Cell.int .i64 (0 : Int)), V1.c (Cell.bool false)]) (by kernel_rfl) rfl (by kernel_rfl)
end Go.Proofs.Tw
end

section
open Go Go.Sv
namespace Go.Proofs.Tw
attribute [local irreducible] Wp FinQ resV Ent Pur Go.Sv.Fn Sat0
set_option maxRecDepth 100000
set_option maxHeartbeats 4000000
variable {G : Nat → Option (List Cell)}

/-! texts cut -/
theorem idx_at (a t r : List UInt8) (c : UInt8) (h : c ∉ a) : Lib.index (a ++ (c :: r) ++ t) (c :: r) = a.length := by
  refine Lib.index_first (by simp only [List.length_append]; omega) ?_ (fun j hj => ?_)
  · unfold Lib.occAt
    rw [List.append_assoc, List.drop_left]
    exact List.isPrefixOf_iff_prefix.2 (List.prefix_append _ _)
  · unfold Lib.occAt
    have hx : (a ++ (c :: r) ++ t).drop j = a.getD j 0 :: (a ++ (c :: r) ++ t).drop (j + 1) := by
      rw [dropS _ j (by simp only [List.length_append]; omega)]
      congr 1
      rw [List.append_assoc, List.getD_eq_getElem?_getD, List.getD_eq_getElem?_getD, List.getElem?_append_left hj]
    rw [hx, List.isPrefixOf]
    have : (c == a.getD j 0) = false := by
      rw [beq_eq_false_iff_ne]
      rintro rfl
      exact h (by rw [List.getD_eq_getElem?_getD, List.getElem?_eq_getElem hj]; exact List.getElem_mem hj)
    rw [this]; rfl
theorem cut_at (a t r : List UInt8) (c : UInt8) (h : c ∉ a) : Lib.cut (a ++ (c :: r) ++ t) (c :: r) = (a, t, true) := by
  unfold Lib.cut
  rw [idx_at a t r c h, if_pos (by omega)]
  have e : ((a.length : Nat) : Int).toNat = a.length := by omega
  rw [e, List.append_assoc, List.take_left, ← List.append_assoc, show a.length + (c :: r).length = (a ++ (c :: r)).length from by simp, List.drop_left]
theorem cut_true {s p : List UInt8} (h : (Lib.cut s p).2.2 = true) : s = (Lib.cut s p).1 ++ p ++ (Lib.cut s p).2.1 := by
  unfold Lib.cut at h ⊢
  split
  · rename_i h0
    rw [if_pos h0] at h
    have ho : Lib.occAt s p (Lib.index s p).toNat = true := by
      rcases Lib.index_spec s p with ⟨h1, _⟩ | ⟨i, h1, _, h2, _⟩
      · rw [h1] at h0; exact absurd h0 (by decide)
      · rw [h1, show ((i : Nat) : Int).toNat = i from by omega]; exact h2
    generalize (Lib.index s p).toNat = i at ho
    have hp := List.isPrefixOf_iff_prefix.1 ho
    obtain ⟨t, ht⟩ := hp
    show s = s.take i ++ p ++ s.drop (i + p.length)
    have h2 : s.drop (i + p.length) = t := by rw [← List.drop_drop, ← ht, List.drop_left]
    rw [h2, List.append_assoc, ht, List.take_append_drop]
  · rename_i h0
    rw [if_neg h0] at h
    cases h
theorem suf_true {s p : List UInt8} (h : Lib.hasSuffix s p = true) : s = Lib.trimSuffix s p ++ p := by
  unfold Lib.trimSuffix
  rw [if_pos h]
  obtain ⟨t, rfl⟩ := List.isSuffixOf_iff_suffix.1 h
  simp
theorem suf_app (a p : List UInt8) : Lib.hasSuffix (a ++ p) p = true ∧ Lib.trimSuffix (a ++ p) p = a := by
  have h : Lib.hasSuffix (a ++ p) p = true := List.isSuffixOf_iff_suffix.2 (List.suffix_append _ _)
  refine ⟨h, ?_⟩
  unfold Lib.trimSuffix
  rw [if_pos h]; simp
theorem plain_ne (c : UInt8) (h : plainB c = true) : c ≠ 59 ∧ c ≠ 61 := by
  have := byte_all (fun c => !plainB c || (!(c == 59) && !(c == 61))) (by kernel_rfl) c
  simp only [h, Bool.not_true, Bool.false_or, Bool.and_eq_true, Bool.not_eq_true', beq_eq_false_iff_ne] at this
  exact this
theorem dig_ne (c : UInt8) (h : digitB c = true) : c ≠ 59 := by
  have := byte_all (fun c => !digitB c || !(c == 59)) (by kernel_rfl) c
  simp only [h, Bool.not_true, Bool.false_or, Bool.not_eq_true', beq_eq_false_iff_ne] at this
  exact this
theorem may_parts {f : FT} (h : mayC f = true) : (∀ c ∈ f.name, plainB c = true) ∧ (∀ c ∈ f.value, plainB c = true) ∧ f.name.length ≤ 128 ∧ f.value.length ≤ 128 := by
  unfold mayC at h
  cases h1 : wdT f.name with
  | false => rw [h1] at h; cases h
  | true =>
    rw [h1] at h
    have h : wdT f.value = true := h
    unfold wdT at h h1
    simp only [Bool.and_eq_true, decide_eq_true_eq, List.all_eq_true] at h h1
    exact ⟨h1.1, h.1, h1.2.2, h.2.2⟩
theorem pair_59 {f : FT} (h : mayC f = true) : (59 : UInt8) ∉ pairC f := by
  obtain ⟨h1, h2, _⟩ := may_parts h
  unfold pairC
  simp only [List.mem_append, List.mem_singleton, not_or]
  exact ⟨⟨fun hc => (plain_ne _ (h1 _ hc)).1 rfl, by decide⟩, fun hc => (plain_ne _ (h2 _ hc)).1 rfl⟩
theorem pair_cut {f : FT} (h : mayC f = true) : Lib.cut (pairC f) [61] = (f.name, f.value, true) := by
  obtain ⟨h1, _⟩ := may_parts h
  exact cut_at f.name f.value [] 61 (fun hc => (plain_ne _ (h1 _ hc)).2 rfl)
theorem pair_one {f : FT} (h : mayC f = true) : oneF (pairC f) = f := by unfold oneF; rw [pair_cut h]
theorem one_pair {p : List UInt8} (h : mayC (oneF p) = true) : pairC (oneF p) = p := (cut_true (may_cut p h)).symm
theorem dec_59 (m : Nat) : (59 : UInt8) ∉ Lib.decDigits m := fun hc => by
  have := dec_all m
  rw [List.all_eq_true] at this
  exact dig_ne _ (this _ hc) rfl
/-- What is set of a cookie. -/
def setT (f : FT) (m : Nat) : List UInt8 := pairC f ++ ageC ++ Lib.decDigits m ++ behC
theorem set_set {f : FT} {m : Nat} (h : mayC f = true) (hm : m ≤ 1099511627776) : setC f (m : Int) = setT f m := by
  have hb : badC f (m : Int) = false := by
    unfold badC; rw [h, decide_eq_false (by omega), decide_eq_false (by omega)]; rfl
  unfold setC setT
  rw [if_neg (by rw [hb]; decide), Lib.itoa_nonneg]
theorem set_no {f : FT} {m : Nat} (h : mayC f = false) : setC f (m : Int) = [] := by
  have hb : badC f (m : Int) = true := by unfold badC; rw [h]; rfl
  unfold setC
  rw [if_pos hb]
def RdC (s : List UInt8) : Prop := ∃ f m, mayC f = true ∧ m ≤ 1099511627776 ∧ s = setT f m

theorem age_nil : ageT [] = -1 := by unfold ageT ageL; rw [Lib.decDigits_one (by decide)]; rfl
/-! what was set is read -/
theorem read_yes {m : Int} (f : FT) (n : Nat) (hf : mayC f = true) (hn : n ≤ 1099511627776) : Pur Tryd.prog (Gm m) 17 [.c (.str (setT f n))] [.agg (encF f), .c (.bool true)] := by
  refine Pur.of Tryd.func17 (by kernel_rfl) (by kernel_rfl) (by kernel_rfl) ?_
  obtain ⟨p1, p2, p3, p4⟩ := may_parts hf
  have hd := dec_len_le 13 n (by omega)
  have hl : (pairC f).length ≤ 300 := by unfold pairC; simp; omega
  have hla : ageC.length = 10 := (by kernel_rfl)
  have hlb : behC.length = 40 := (by kernel_rfl)
  obtain ⟨s1, s2⟩ := suf_app (pairC f ++ ageC ++ Lib.decDigits n) behC
  have c1 := lib_CutSuffix (G := Gm m) (setT f n) behC (by unfold setT; simp only [List.length_append]; omega)
  unfold setT at c1 ⊢
  rw [s1, s2] at c1
  have c2 := lib_Cut (Gm_len m) (pairC f ++ ageC ++ Lib.decDigits n) ageC (by simp only [List.length_append]; omega)
  have hcut : Lib.cut (pairC f ++ ageC ++ Lib.decDigits n) ageC = (pairC f, Lib.decDigits n, true) := cut_at (pairC f) (Lib.decDigits n) _ 59 (pair_59 hf)
  rw [hcut] at c2
  have hnum : numB (Lib.decDigits n) = true := by
    unfold numB
    rw [canon_dec, Bool.and_true, decide_eq_true_eq]
    exact dec_len_le 12 n (by omega)
  have c3 := number_yes (G := Gm m) (Lib.decDigits n) hnum
  rw [nv_dec] at c3
  have c4 := one_yes (m := m) (pairC f) (by omega) (by rw [pair_one hf]; exact hf)
  rw [pair_one hf] at c4
  have hgt : decide ((n : Int) > 1099511627776) = false := by simp; omega
  clear s1 s2 hcut hnum p1 p2 hf hd
  refine Wp.go (mx := true) (fun _ => mixed) [(1, {cs := [(1, pc c1)]}), (2, {cs := [(1, pc c2)]}), (3, {cs := [(1, pc c3)]}), (4, {cs := [(1, pc c4)]})] 100 [false] [(bif bif bif bif !true then true else !true then true else !true then true else decide ((↑n : Int) > (1099511627776 : Int)) then true else !true) = false] (by kernel_rfl) (by kernel_rfl) (by kernel_rfl) (show (bif bif bif bif !true then true else !true then true else !true then true else decide ((↑n : Int) > (1099511627776 : Int)) then true else !true) = false from (by simp; omega)) ?_
  refine Wp.ret' (by kernel_rfl) ?_
  exact FinQ.pure (rs' := [V1.agg [Cell.str f.name, Cell.str f.value], V1.c (Cell.bool true)]) (by kernel_rfl) rfl (by kernel_rfl)
theorem read_no {m : Int} (s : List UInt8) (hl : s.length < 1000000000) (h : ¬ RdC s) : Pur Tryd.prog (Gm m) 17 [.c (.str s)] [.agg (encF .nil), .c (.bool false)] := by
  refine Pur.of Tryd.func17 (by kernel_rfl) (by kernel_rfl) (by kernel_rfl) ?_
  have hlt : (Lib.trimSuffix s behC).length ≤ s.length := by
    unfold Lib.trimSuffix
    split
    · simp
    · exact Nat.le_refl _
  have c1 := lib_CutSuffix (G := Gm m) s behC (by omega)
  have c2 := lib_Cut (Gm_len m) (Lib.trimSuffix s behC) ageC (by omega)
  have hc := cut_len (Lib.trimSuffix s behC) ageC
  have key : Lib.hasSuffix s behC = true → (Lib.cut (Lib.trimSuffix s behC) ageC).2.2 = true → numB (Lib.cut (Lib.trimSuffix s behC) ageC).2.1 = true → nv (Lib.cut (Lib.trimSuffix s behC) ageC).2.1 ≤ 1099511627776 → mayC (oneF (Lib.cut (Lib.trimSuffix s behC) ageC).1) = true → False := by
    intro h1 h2 h3 h4 h5
    refine h ⟨_, _, h5, h4, ?_⟩
    have e1 := suf_true h1
    have e2 := cut_true h2
    have e3 := one_pair h5
    unfold numB at h3
    simp only [Bool.and_eq_true] at h3
    have e4 := canon_back _ _ rfl h3.2
    unfold setT
    rw [e3, e4, ← e2, ← e1]
  generalize Lib.hasSuffix s behC = b1 at c1 key
  generalize Lib.trimSuffix s behC = r at c1 c2 hc hlt key
  generalize Lib.cut r ageC = q at c2 hc key
  obtain ⟨fr, nu, b2⟩ := q
  simp only at c2 hc key
  have w1 : ∀ x : Bool, (bif bif bif bif !b1 then true else !b2 then true else false then true else x then true else !true) = true → True := fun _ _ => trivial
  clear w1
  cases h3 : numB nu with
  | false =>
    have c3 := number_no (G := Gm m) nu (by omega) h3
    have ht : ∀ x : Bool, (bif bif bif bif !b1 then true else !b2 then true else !false then true else decide ((0 : Int) > 1099511627776) then true else x) = true := by
      intro x; cases b1 <;> cases b2 <;> rfl
    cases h5 : mayC (oneF fr) with
    | true =>
      have c4 := one_yes (m := m) fr (by omega) h5
      have ht := ht (!true)
      clear key h h3 h5
      refine Wp.go (mx := true) (fun _ => mixed) [(1, {cs := [(1, pc c1)]}), (2, {cs := [(1, pc c2)]}), (3, {cs := [(1, pc c3)]}), (4, {cs := [(1, pc c4)]})] 100 [true] [(bif bif bif bif !b1 then true else !b2 then true else !false then true else decide ((0 : Int) > (1099511627776 : Int)) then true else !true) = true] (by kernel_rfl) (by kernel_rfl) (by kernel_rfl) (show (bif bif bif bif !b1 then true else !b2 then true else !false then true else decide ((0 : Int) > (1099511627776 : Int)) then true else !true) = true from (by assumption)) ?_
      refine Wp.ret' (by kernel_rfl) ?_
      exact FinQ.pure (rs' := [V1.agg [Cell.str [], Cell.str []], V1.c (Cell.bool false)]) (by kernel_rfl) rfl (by kernel_rfl)
    | false =>
      have c4 := one_no (m := m) fr (by omega) h5
      have ht := ht (!false)
      clear key h h3 h5
      refine Wp.go (mx := true) (fun _ => mixed) [(1, {cs := [(1, pc c1)]}), (2, {cs := [(1, pc c2)]}), (3, {cs := [(1, pc c3)]}), (4, {cs := [(1, pc c4)]})] 100 [true] [(bif bif bif bif !b1 then true else !b2 then true else !false then true else decide ((0 : Int) > (1099511627776 : Int)) then true else !false) = true] (by kernel_rfl) (by kernel_rfl) (by kernel_rfl) (show (bif bif bif bif !b1 then true else !b2 then true else !false then true else decide ((0 : Int) > (1099511627776 : Int)) then true else !false) = true from (by assumption)) ?_
      refine Wp.ret' (by kernel_rfl) ?_
      exact FinQ.pure (rs' := [V1.agg [Cell.str [], Cell.str []], V1.c (Cell.bool false)]) (by kernel_rfl) rfl (by kernel_rfl)
  | true =>
    have c3 := number_yes (G := Gm m) nu h3
    cases h5 : mayC (oneF fr) with
    | true =>
      have c4 := one_yes (m := m) fr (by omega) h5
      have ht : (bif bif bif bif !b1 then true else !b2 then true else !true then true else decide (((nv nu : Nat) : Int) > 1099511627776) then true else !true) = true := by
        cases b1 with
        | false => rfl
        | true =>
          cases b2 with
          | false => rfl
          | true =>
            by_cases hx : nv nu ≤ 1099511627776
            · exact (key rfl rfl h3 hx h5).elim
            · rw [decide_eq_true (show ((nv nu : Nat) : Int) > 1099511627776 by omega)]; rfl
      clear key h h3 h5
      refine Wp.go (mx := true) (fun _ => mixed) [(1, {cs := [(1, pc c1)]}), (2, {cs := [(1, pc c2)]}), (3, {cs := [(1, pc c3)]}), (4, {cs := [(1, pc c4)]})] 100 [true] [(bif bif bif bif !b1 then true else !b2 then true else !true then true else decide ((↑(nv nu) : Int) > (1099511627776 : Int)) then true else !true) = true] (by kernel_rfl) (by kernel_rfl) (by kernel_rfl) (show (bif bif bif bif !b1 then true else !b2 then true else !true then true else decide ((↑(nv nu) : Int) > (1099511627776 : Int)) then true else !true) = true from (by assumption)) ?_
      refine Wp.ret' (by kernel_rfl) ?_
      exact FinQ.pure (rs' := [V1.agg [Cell.str [], Cell.str []], V1.c (Cell.bool false)]) (by kernel_rfl) rfl (by kernel_rfl)
    | false =>
      have c4 := one_no (m := m) fr (by omega) h5
      have ht : (bif bif bif bif !b1 then true else !b2 then true else !true then true else decide (((nv nu : Nat) : Int) > 1099511627776) then true else !false) = true := by
        cases b1 <;> cases b2 <;> cases decide (((nv nu : Nat) : Int) > 1099511627776) <;> rfl
      clear key h h3 h5
      refine Wp.go (mx := true) (fun _ => mixed) [(1, {cs := [(1, pc c1)]}), (2, {cs := [(1, pc c2)]}), (3, {cs := [(1, pc c3)]}), (4, {cs := [(1, pc c4)]})] 100 [true] [(bif bif bif bif !b1 then true else !b2 then true else !true then true else decide ((↑(nv nu) : Int) > (1099511627776 : Int)) then true else !false) = true] (by kernel_rfl) (by kernel_rfl) (by kernel_rfl) (show (bif bif bif bif !b1 then true else !b2 then true else !true then true else decide ((↑(nv nu) : Int) > (1099511627776 : Int)) then true else !false) = true from (by assumption)) ?_
      refine Wp.ret' (by kernel_rfl) ?_
      exact FinQ.pure (rs' := [V1.agg [Cell.str [], Cell.str []], V1.c (Cell.bool false)]) (by kernel_rfl) rfl (by kernel_rfl)
theorem read14_yes (f : FT) (n : Nat) (hf : mayC f = true) (hn : n ≤ 1099511627776) : Pur Tryd.prog G 18 [.c (.str (setT f n))] [.agg (encF f), .c (.bool true)] := by
  refine Pur.of Tryd.func18 (by kernel_rfl) (by kernel_rfl) (by kernel_rfl) ?_
  obtain ⟨p1, p2, p3, p4⟩ := may_parts hf
  have hd := dec_len_le 13 n (by omega)
  have hl : (pairC f).length ≤ 300 := by unfold pairC; simp; omega
  have hla : ageC.length = 10 := (by kernel_rfl)
  have hlb : behC.length = 40 := (by kernel_rfl)
  have hS : (setT f n).length ≤ 1000 := by unfold setT; simp only [List.length_append]; omega
  have c1 := cut6_ok (G := G) (setT f n) ageC (by omega) (by decide) (by decide)
  have hcut : Lib.cut (setT f n) ageC = (pairC f, Lib.decDigits n ++ behC, true) := by
    have := cut_at (pairC f) (Lib.decDigits n ++ behC) [32, 77, 97, 120, 45, 65, 103, 101, 61] 59 (pair_59 hf)
    unfold setT
    rw [List.append_assoc (pairC f ++ ageC)]
    exact this
  rw [hcut] at c1
  have c2 := cut6_ok (G := G) (Lib.decDigits n ++ behC) [59] (by simp only [List.length_append]; omega) (by decide) (by decide)
  have hcut2 : Lib.cut (Lib.decDigits n ++ behC) [59] = (Lib.decDigits n, [32, 80, 97, 116, 104, 61, 47, 59, 32, 83, 101, 99, 117, 114, 101, 59, 32, 72, 116, 116, 112, 79, 110, 108, 121, 59, 32, 83, 97, 109, 101, 83, 105, 116, 101, 61, 76, 97, 120], true) := by
    have := cut_at (Lib.decDigits n) [32, 80, 97, 116, 104, 61, 47, 59, 32, 83, 101, 99, 117, 114, 101, 59, 32, 72, 116, 116, 112, 79, 110, 108, 121, 59, 32, 83, 97, 109, 101, 83, 105, 116, 101, 61, 76, 97, 120] [] 59 (dec_59 n)
    rw [List.append_assoc] at this
    exact this
  rw [hcut2] at c2
  have c3 := cut6_ok (G := G) (pairC f) [61] (by omega) (by decide) (by decide)
  rw [pair_cut hf] at c3
  have c4 := age_ok (G := G) (Lib.decDigits n) (by omega)
  rw [age_dec n hn] at c4
  have c5 := set14_ok (G := G) f (n : Int) (by omega) (by omega)
  rw [set_set hf hn] at c5
  have ht : (bif decide ((n : Int) < 0) then true else !(setT f n == setT f n)) = false := by rw [decide_eq_false (by omega)]; simp
  clear hcut hcut2 p1 p2 hf hd
  generalize setT f n = S at *
  refine Wp.go (mx := true) (fun _ => mixed) [(1, {cs := [(1, pc c1)]}), (2, {cs := [(1, pc c2)]}), (3, {cs := [(1, pc c3)]}), (5, {cs := [(1, pc c4)]}), (6, {cs := [(5, pc c5)]})] 100 [false] [(bif decide ((↑n : Int) < (0 : Int)) then true else !S == S) = false] (by kernel_rfl) (by kernel_rfl) (by kernel_rfl) (show (bif decide ((↑n : Int) < (0 : Int)) then true else !S == S) = false from (by assumption)) ?_
  refine Wp.ret' (by kernel_rfl) ?_
  exact FinQ.pure (rs' := [V1.agg [Cell.str f.name, Cell.str f.value], V1.c (Cell.bool true)]) (by kernel_rfl) rfl (by kernel_rfl)
theorem read14_no (s : List UInt8) (hl : s.length < 1000000000) (h : ¬ RdC s) : Pur Tryd.prog G 18 [.c (.str s)] [.agg (encF .nil), .c (.bool false)] := by
  refine Pur.of Tryd.func18 (by kernel_rfl) (by kernel_rfl) (by kernel_rfl) ?_
  have q1 := cut_len s ageC
  have c1 := cut6_ok (G := G) s ageC (by omega) (by decide) (by decide)
  have hs0 : s = [] → ageT (Lib.cut (Lib.cut s ageC).2.1 [59]).1 = -1 := by
    rintro rfl
    exact age_nil
  generalize Lib.cut s ageC = x1 at c1 q1 hs0
  have q2 := cut_len x1.2.1 [59]
  have c2 := cut6_ok (G := G) x1.2.1 [59] (by omega) (by decide) (by decide)
  have q3 := cut_len x1.1 [61]
  have c3 := cut6_ok (G := G) x1.1 [61] (by omega) (by decide) (by decide)
  generalize Lib.cut x1.2.1 [59] = x2 at c2 q2 hs0
  generalize Lib.cut x1.1 [61] = x3 at c3 q3
  have c4 := age_ok (G := G) x2.1 (by omega)
  rcases ageL_cases x2.1 x2.1 0 with ha | ⟨n, hn, ha, _⟩
  · have ha : ageT x2.1 = -1 := ha
    rw [ha] at c4
    have c5 := set14_ok (G := G) ⟨x3.1, x3.2.1⟩ (-1) (by show x3.1.length < _; omega) (by show x3.2.1.length < _; omega)
    clear hs0 h
    refine Wp.go (mx := true) (fun _ => mixed) [(1, {cs := [(1, pc c1)]}), (2, {cs := [(1, pc c2)]}), (3, {cs := [(1, pc c3)]}), (5, {cs := [(1, pc c4)]}), (6, {cs := [(5, pc c5)]})] 100 [true] [(bif decide ((-1 : Int) < (0 : Int)) then true else !setC { name := x3.1, value := x3.2.fst } (-1 : Int) == s) = true] (by kernel_rfl) (by kernel_rfl) (by kernel_rfl) rfl ?_
    refine Wp.ret' (by kernel_rfl) ?_
    exact FinQ.pure (rs' := [V1.agg [Cell.str [], Cell.str []], V1.c (Cell.bool false)]) (by kernel_rfl) rfl (by kernel_rfl)
  · have ha : ageT x2.1 = n := ha
    rw [ha] at c4
    have c5 := set14_ok (G := G) ⟨x3.1, x3.2.1⟩ (n : Int) (by show x3.1.length < _; omega) (by show x3.2.1.length < _; omega)
    have hne : (setC ⟨x3.1, x3.2.1⟩ (n : Int) == s) = false := by
      rw [beq_eq_false_iff_ne]
      intro he
      cases hm : mayC ⟨x3.1, x3.2.1⟩ with
      | true =>
        rw [set_set hm hn] at he
        exact h ⟨_, _, hm, hn, he.symm⟩
      | false =>
        rw [set_no hm] at he
        have := hs0 he.symm
        rw [ha] at this
        omega
    have ht : (bif decide ((n : Int) < 0) then true else !(setC ⟨x3.1, x3.2.1⟩ (n : Int) == s)) = true := by rw [hne]; simp
    clear hs0 h hne
    generalize setC ⟨x3.1, x3.2.1⟩ (n : Int) = S at *
    refine Wp.go (mx := true) (fun _ => mixed) [(1, {cs := [(1, pc c1)]}), (2, {cs := [(1, pc c2)]}), (3, {cs := [(1, pc c3)]}), (5, {cs := [(1, pc c4)]}), (6, {cs := [(5, pc c5)]})] 100 [true] [(bif decide ((↑n : Int) < (0 : Int)) then true else !S == s) = true] (by kernel_rfl) (by kernel_rfl) (by kernel_rfl) (show (bif decide ((↑n : Int) < (0 : Int)) then true else !S == s) = true from (by assumption)) ?_
    refine Wp.ret' (by kernel_rfl) ?_
    exact FinQ.pure (rs' := [V1.agg [Cell.str [], Cell.str []], V1.c (Cell.bool false)]) (by kernel_rfl) rfl (by kernel_rfl)
end Go.Proofs.Tw
end

section
open Go Go.Sv
namespace Go.Proofs.Tw
attribute [local irreducible] Wp FinQ resV Ent Pur Go.Sv.Fn Sat0
set_option maxRecDepth 100000
set_option maxHeartbeats 4000000
variable {G : Nat → Option (List Cell)}

/-! what the document fixes -/
def sidF : FT := ⟨[115, 105, 100], [120]⟩
def abL : List FT := [⟨[97], [98]⟩, ⟨[99], [100]⟩]
theorem known14_ok {m : Int} : Pur Tryd.prog (Gm m) 6 [] [.c (.bool true)] := by
  refine Pur.of Tryd.func6 (by kernel_rfl) (by kernel_rfl) (by kernel_rfl) ?_
  have kp : parseC [97, 61, 98, 59, 32, 99, 61, 100] = (abL, 0) := (by kernel_rfl)
  have c1 := parse_ok (m := m) [97, 61, 98, 59, 32, 99, 61, 100] (by decide)
  rw [kp] at c1
  have hf : mayC sidF = true := (by kernel_rfl)
  have c2 := setm_ok (m := m) sidF 5 (by decide) (by decide)
  have hs : setC sidF 5 = setT sidF 5 := set_set (m := 5) hf (by decide)
  rw [hs] at c2
  have c3 := read_yes (m := m) sidF 5 hf (by decide)
  generalize setT sidF 5 = S at c2 c3
  have c4 := print_ok (m := m) abL (fun i => by
    match i with
    | 0 => exact ⟨by decide, by decide⟩
    | 1 => exact ⟨by decide, by decide⟩
    | i + 2 => exact ⟨by show 0 < _; omega, by show 0 < _; omega⟩) (by decide) (by show (8 : Nat) ≤ _; decide)
  have hp : printC abL = [97, 61, 98, 59, 32, 99, 61, 100] := (by kernel_rfl)
  rw [hp] at c4
  have c5 := setm_ok (m := m) FT.nil 1 (by decide) (by decide)
  have h5 : setC FT.nil 1 = [] := set_no (m := 1) (by kernel_rfl)
  rw [h5] at c5
  refine Wp.go (mx := true) (fun _ => mixed) [(1, {cs := [(0, pc c1)]}), (2, {cs := [(1, pc c2), (2, pc c3)]}), (3, {cs := [(9, pc c4), (27, pc c5)]})] 100 [] [] (by kernel_rfl) (by kernel_rfl) (by kernel_rfl) trivial ?_
  refine Wp.ret' (by kernel_rfl) ?_
  exact FinQ.pure (rs' := [V1.c (Cell.bool (bif bif bif bif bif bif (0 : Int) == (0 : Int) then (↑(2 : Nat) : Int) == (2 : Int) else false then [(97 : UInt8), 61, 98, 59, 32, 99, 61, 100] == [(97 : UInt8), 61, 98, 59, 32, 99, 61, 100] else false then true else false then sidF.name == [(115 : UInt8), 105, 100] else false then sidF.value == [(120 : UInt8)] else false then ([] : List UInt8) == [] else false))]) (by kernel_rfl) rfl (by kernel_rfl)

/-! cookies that a tape gives -/
def nmsC : List (List UInt8) := [[115, 105, 100], [97], [98], [126], [120, 45, 49], [57]]
def valsC : List (List UInt8) := [[126, 65, 103, 65, 65, 65, 65, 69, 126], [120], [48], [97, 46, 98]]
def fldC (ns : List Int) (a : Nat) : FT := ⟨pickT nmsC ns a, pickT valsC ns (nextA ns a 6)⟩
def cksN (ns : List Int) : Nat → Nat → List FT → List FT
  | 0, _, l => l
  | k + 1, a, l => if a < ns.length then cksN ns k (nextA ns (nextA ns a 6) 4) (if (fGet l (pickT nmsC ns a)).isSome then l else l ++ [fldC ns a]) else l
def cksT (ns : List Int) (m : Nat) : List FT := cksN ns m 0 []
theorem cks_ok (ns : List Int) (m : Nat) (hl : ns.length ≤ 9223372036854775807) (hm : m < 1000) : Pur Tryd.prog G 10 [.c (.sl 1 ns.length (intsF ns)), .c (.int .i64 (m : Int))] [.c (encH (cksT ns m))] := by
  refine Pur.of Tryd.func10 (by kernel_rfl) (by kernel_rfl) (by kernel_rfl) ?_
  refine Wp.go (mx := true) (fun _ => mixed) [] 100 [] [] (by kernel_rfl) (by kernel_rfl) (by kernel_rfl) trivial ?_
  refine Wp.loopK (by kernel_rfl) (fun (x : Nat × Nat × Nat × List FT) => ⟨[(1, .v (.c (.int .i64 (m : Int)))), (5, .v (.c (.ptr 48 0))), (6, .v (.c (.row 2 112 0 x.2.2.1))), (7, .v (.c (.int .i64 (x.1 : Int))))], [(48, tapeB ns x.2.1), (112, .row 26 2 x.2.2.1 (fldF x.2.2.2))], 128⟩)
    (fun x => x.1 ≤ m ∧ x.2.2.1 = x.2.2.2.length ∧ x.2.2.1 ≤ x.1 ∧ cksT ns m = cksN ns (m - x.1) x.2.1 x.2.2.2) (fun x => m - x.1) (0, 0, 0, []) (Ent.trans (Ent.empT (t := 6) (sz := 2) (e := 26) (f := fldF []) (by decide) (by kernel_rfl) rfl) (Ent.of [] (by kernel_rfl) (by kernel_rfl) (by kernel_rfl) trivial)) ⟨Nat.zero_le _, rfl, Nat.le_refl _, rfl⟩ ?_
  rintro ⟨i, a, n, l⟩ L ⟨hi, hn, hll, hq⟩ again
  simp only at hi hn hll hq
  have hz : m - i = 0 → cksT ns m = l := fun h => by rw [hq, h]; rfl
  have hs : i < m → cksT ns m = (if a < ns.length then cksN ns (m - i - 1) (nextA ns (nextA ns a 6) 4) (if (fGet l (pickT nmsC ns a)).isSome then l else l ++ [fldC ns a]) else l) := fun h => by
    rw [hq, show m - i = (m - i - 1) + 1 from by omega]; rfl
  have mo := more1_ok (G := G) ns a
  rcases Nat.lt_or_ge i m with him | him
  · have hs := hs him
    have hm1 : m - (i + 1) = m - i - 1 := by omega
    by_cases ha : a < ns.length
    · rw [if_pos ha] at hs
      rw [decide_eq_true ha] at mo
      have e1 : EqvD (.c (.sl 1 6 (fun i j => nthD [Cell.str [115, 105, 100], Cell.str [97], Cell.str [98], Cell.str [126], Cell.str [120, 45, 49], Cell.str [57]] (i * 1 + j)))) (.c (.sl 1 nmsC.length (strsF nmsC))) := strs_lit nmsC rfl rfl
      have e2 : EqvD (.c (.sl 1 4 (fun i j => nthD [Cell.str [126, 65, 103, 65, 65, 65, 65, 69, 126], Cell.str [120], Cell.str [48], Cell.str [97, 46, 98]] (i * 1 + j)))) (.c (.sl 1 valsC.length (strsF valsC))) := strs_lit valsC rfl rfl
      have p1 := pick_ok (G := G) nmsC ns a hl (by decide)
      have p2 := pick_ok (G := G) valsC ns (nextA ns a 6) hl (by decide)
      have hc := has10_n (G := G) l n (pickT nmsC ns a) hn (by omega)
      cases hg : (fGet l (pickT nmsC ns a)).isSome with
      | true =>
        rw [hg, if_pos rfl, ← hm1] at hs
        rw [hg] at hc
        clear hz hq hg
        refine Wp.go (mx := true) (fun _ => mixed) [(6, {cs := [(2, cb [48] p1), (5, cb [48] p2)], fm := [(1, .c (.sl 1 nmsC.length (strsF nmsC))), (4, .c (.sl 1 valsC.length (strsF valsC)))]}), (4, {grd := [(4, true), (5, true)], cs := [(5, cb [48] mo)]}), (7, {cs := [(3, lc [112] [Blk.row 26 (2 : Nat) n (fldF l)] [V1.c (Cell.row (2 : Nat) (0 : Nat) (0 : Nat) n), V1.c (Cell.str (nmsC.getD (nextV ns a (↑nmsC.length : Int)).toNat []))] hc (by kernel_rfl) (by kernel_rfl) (by kernel_rfl) (show (0 : Nat) + n ≤ n from (by omega)))]})] 100 [true, false] [decide ((↑i : Int) < (↑m : Int)) = true, decide ((↑i : Int) < (↑m : Int)) = true, (bif decide ((↑i : Int) < (↑m : Int)) then true else false) = true, EqvI (V1.c (Cell.sl (1 : Nat) (6 : Nat) fun (i j : Nat) => nthD [Cell.str [(115 : UInt8), 105, 100], Cell.str [(97 : UInt8)], Cell.str [(98 : UInt8)], Cell.str [(126 : UInt8)], Cell.str [(120 : UInt8), 45, 49], Cell.str [(57 : UInt8)]] (i * (1 : Nat) + j))) (V1.c (Cell.sl (1 : Nat) nmsC.length (strsF nmsC))), EqvD (V1.c (Cell.sl (1 : Nat) (6 : Nat) fun (i j : Nat) => nthD [Cell.str [(115 : UInt8), 105, 100], Cell.str [(97 : UInt8)], Cell.str [(98 : UInt8)], Cell.str [(126 : UInt8)], Cell.str [(120 : UInt8), 45, 49], Cell.str [(57 : UInt8)]] (i * (1 : Nat) + j))) (V1.c (Cell.sl (1 : Nat) nmsC.length (strsF nmsC))), EqvI (V1.c (Cell.sl (1 : Nat) (4 : Nat) fun (i j : Nat) => nthD [Cell.str [(126 : UInt8), 65, 103, 65, 65, 65, 65, 69, 126], Cell.str [(120 : UInt8)], Cell.str [(48 : UInt8)], Cell.str [(97 : UInt8), 46, 98]] (i * (1 : Nat) + j))) (V1.c (Cell.sl (1 : Nat) valsC.length (strsF valsC))), EqvD (V1.c (Cell.sl (1 : Nat) (4 : Nat) fun (i j : Nat) => nthD [Cell.str [(126 : UInt8), 65, 103, 65, 65, 65, 65, 69, 126], Cell.str [(120 : UInt8)], Cell.str [(48 : UInt8)], Cell.str [(97 : UInt8), 46, 98]] (i * (1 : Nat) + j))) (V1.c (Cell.sl (1 : Nat) valsC.length (strsF valsC))), (!true) = false, inR IntKind.i64 ((↑i : Int) + (1 : Int))] (by kernel_rfl) (by kernel_rfl) (by kernel_rfl) ⟨(by simp; omega), (by simp; omega), (by simp; omega), fun _ _ => trivial, (by assumption), fun _ _ => trivial, (by assumption), rfl, inR64 (by omega) (by omega)⟩ ?_
        exact Wp.lpK (by kernel_rfl) (again _ (i + 1, nextA ns (nextA ns a 6) 4, n, l) ⟨(by assumption), ⟨(by assumption), ⟨(by simp; omega), (by assumption)⟩⟩⟩ (by omega) (Ent.of [] (by kernel_rfl) (by kernel_rfl) (by kernel_rfl) trivial))
      | false =>
        rw [hg, if_neg (by decide), ← hm1] at hs
        rw [hg] at hc
        have e3 : BlkEqv (.row 26 2 (n + 1) (catF n (fldF l) (fun i j => nthD (encF (fldC ns a)) ((0 + i) * 2 + j)))) (.row 26 2 (n + 1) (fldF (l ++ [fldC ns a]))) := enc_app l _ hn
        have q2 : n + 1 = (l ++ [fldC ns a]).length := by simp [hn]
        clear hz hq hg
        refine Wp.go (mx := true) (fun _ => mixed) [(6, {cs := [(2, cb [48] p1), (5, cb [48] p2)], fm := [(1, .c (.sl 1 nmsC.length (strsF nmsC))), (4, .c (.sl 1 valsC.length (strsF valsC)))]}), (8, {bs := [(3, Blk.row 26 2 (n + 1) (fldF (l ++ [fldC ns a])))]}), (4, {grd := [(4, true), (5, true)], cs := [(5, cb [48] mo)]}), (7, {cs := [(3, lc [112] [Blk.row 26 (2 : Nat) n (fldF l)] [V1.c (Cell.row (2 : Nat) (0 : Nat) (0 : Nat) n), V1.c (Cell.str (nmsC.getD (nextV ns a (↑nmsC.length : Int)).toNat []))] hc (by kernel_rfl) (by kernel_rfl) (by kernel_rfl) (show (0 : Nat) + n ≤ n from (by omega)))]})] 100 [true, true] [decide ((↑i : Int) < (↑m : Int)) = true, decide ((↑i : Int) < (↑m : Int)) = true, (bif decide ((↑i : Int) < (↑m : Int)) then true else false) = true, EqvI (V1.c (Cell.sl (1 : Nat) (6 : Nat) fun (i j : Nat) => nthD [Cell.str [(115 : UInt8), 105, 100], Cell.str [(97 : UInt8)], Cell.str [(98 : UInt8)], Cell.str [(126 : UInt8)], Cell.str [(120 : UInt8), 45, 49], Cell.str [(57 : UInt8)]] (i * (1 : Nat) + j))) (V1.c (Cell.sl (1 : Nat) nmsC.length (strsF nmsC))), EqvD (V1.c (Cell.sl (1 : Nat) (6 : Nat) fun (i j : Nat) => nthD [Cell.str [(115 : UInt8), 105, 100], Cell.str [(97 : UInt8)], Cell.str [(98 : UInt8)], Cell.str [(126 : UInt8)], Cell.str [(120 : UInt8), 45, 49], Cell.str [(57 : UInt8)]] (i * (1 : Nat) + j))) (V1.c (Cell.sl (1 : Nat) nmsC.length (strsF nmsC))), EqvI (V1.c (Cell.sl (1 : Nat) (4 : Nat) fun (i j : Nat) => nthD [Cell.str [(126 : UInt8), 65, 103, 65, 65, 65, 65, 69, 126], Cell.str [(120 : UInt8)], Cell.str [(48 : UInt8)], Cell.str [(97 : UInt8), 46, 98]] (i * (1 : Nat) + j))) (V1.c (Cell.sl (1 : Nat) valsC.length (strsF valsC))), EqvD (V1.c (Cell.sl (1 : Nat) (4 : Nat) fun (i j : Nat) => nthD [Cell.str [(126 : UInt8), 65, 103, 65, 65, 65, 65, 69, 126], Cell.str [(120 : UInt8)], Cell.str [(48 : UInt8)], Cell.str [(97 : UInt8), 46, 98]] (i * (1 : Nat) + j))) (V1.c (Cell.sl (1 : Nat) valsC.length (strsF valsC))), (!false) = true, (n + (1 : Nat)) * (32 : Nat) ≤ (140737488355328 : Nat), BlkEqv (Blk.row 26 (2 : Nat) (n + (1 : Nat)) (catF n (fldF l) fun (i j : Nat) => nthD [Cell.str (nmsC.getD (nextV ns a (↑nmsC.length : Int)).toNat []), Cell.str (valsC.getD (nextV ns (nextA ns a (6 : Int)) (↑valsC.length : Int)).toNat [])] (((0 : Nat) + i) * (2 : Nat) + j))) (Blk.row 26 (2 : Nat) (n + (1 : Nat)) (fldF (l ++ [fldC ns a]))), n ≤ n, (0 : Nat) + (1 : Nat) ≤ (1 : Nat), inR IntKind.i64 ((↑i : Int) + (1 : Int))] (by kernel_rfl) (by kernel_rfl) (by kernel_rfl) ⟨(by simp; omega), (by simp; omega), (by simp; omega), fun _ _ => trivial, (by assumption), fun _ _ => trivial, (by assumption), rfl, (by omega), (by assumption), (by omega), (by omega), inR64 (by omega) (by omega)⟩ ?_
        exact Wp.lpK (by kernel_rfl) (again _ (i + 1, nextA ns (nextA ns a 6) 4, n + 1, l ++ [fldC ns a]) ⟨(by assumption), ⟨(by assumption), ⟨(by simp; omega), (by assumption)⟩⟩⟩ (by omega) (Ent.of [(112, 512)] (by kernel_rfl) (by kernel_rfl) (by kernel_rfl) trivial))
    · rw [if_neg ha] at hs
      rw [decide_eq_false ha] at mo
      rw [hs]
      subst hn
      clear hz hq
      refine Wp.go (mx := true) (fun _ => mixed) [(4, {grd := [(4, true), (5, true)], cs := [(5, cb [48] mo)]})] 100 [false] [decide ((↑i : Int) < (↑m : Int)) = true, decide ((↑i : Int) < (↑m : Int)) = true, (bif decide ((↑i : Int) < (↑m : Int)) then false else false) = false] (by kernel_rfl) (by kernel_rfl) (by kernel_rfl) ⟨(by simp; omega), (by simp; omega), (show (bif decide ((↑i : Int) < (↑m : Int)) then false else false) = false from (by simp; done))⟩ ?_
      refine Wp.ent' (by kernel_rfl) (Ent.pubT (t := 4) (e := 26) (sz := (2 : Nat)) (id := 112) (off := (0 : Nat)) (m := l.length) (n := l.length) (f := fldF l) (m' := l.length) (f' := fun (i j : Nat) => nthD (encF (l.getD i FT.nil)) j) (by kernel_rfl) (by kernel_rfl) (by omega) rfl (fun i _ j _ => by rw [Nat.zero_add]; rfl) rfl) ?_
      refine Wp.ret' (by kernel_rfl) ?_
      exact FinQ.pure (rs' := [V1.c (Cell.sl (2 : Nat) l.length fun (i j : Nat) => nthD (encF (l.getD i FT.nil)) j)]) (by kernel_rfl) rfl (by kernel_rfl)
  · have hs := hz (by omega)
    rw [hs]
    subst hn
    clear hz hq
    refine Wp.go (mx := true) (fun _ => mixed) [(4, {grd := [(4, false), (5, false), (6, false)], cs := [(5, cb [48] mo)]})] 100 [false] [decide ((↑i : Int) < (↑m : Int)) = !true, decide ((↑i : Int) < (↑m : Int)) = !true, decide ((↑i : Int) < (↑m : Int)) = false, false = false] (by kernel_rfl) (by kernel_rfl) (by kernel_rfl) ⟨(by simp; omega), (by simp; omega), (by simp; omega), rfl⟩ ?_
    refine Wp.ent' (by kernel_rfl) (Ent.pubT (t := 4) (e := 26) (sz := (2 : Nat)) (id := 112) (off := (0 : Nat)) (m := l.length) (n := l.length) (f := fldF l) (m' := l.length) (f' := fun (i j : Nat) => nthD (encF (l.getD i FT.nil)) j) (by kernel_rfl) (by kernel_rfl) (by omega) rfl (fun i _ j _ => by rw [Nat.zero_add]; rfl) rfl) ?_
    refine Wp.ret' (by kernel_rfl) ?_
    exact FinQ.pure (rs' := [V1.c (Cell.sl (2 : Nat) l.length fun (i j : Nat) => nthD (encF (l.getD i FT.nil)) j)]) (by kernel_rfl) rfl (by kernel_rfl)
end Go.Proofs.Tw
end
