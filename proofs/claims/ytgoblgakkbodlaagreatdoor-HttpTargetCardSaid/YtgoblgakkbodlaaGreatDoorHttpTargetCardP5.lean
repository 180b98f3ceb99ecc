/- Own texts for this claim: Lib, Pri, Ref6, R12, Q12, P12, Rep, Tape, Bas, Q10, Uri, Sgn, Ck0, Ck1, Spl, Ck2, Ck3, Ck4, Nums, Nmk, Tab, Http, Tel, Pct, Pct2, Qry, Unl, Ury, Hp0, Hp1, Hp2. -/
import Derived.Test.YtgoblgakkbodlaaGreatDoorHttpTargetCardP3
import Derived.Test.YtgoblgakkbodlaaGreatDoorHttpTargetCardP4
import Derived.Lib.Join
import Derived.Lib.ItoaNum
import Derived.Lib.IndexMore
import Derived.Lib.SplitLaws
set_option linter.all false

section
open Go Go.Sv Go.RowKit
namespace Go.Proofs

/-- A listed table of integers, as the shelf speaks of it. -/
theorem tabIs {P : Program} {G : Nat → Option (List Cell)} {D : Dat} {w : World} {g : Nat} {name : String} {k : IntKind} {zs : List Int} (hg : P.globalNamed name = some g) (hG : G g = some (zs.map fun z => .int k z)) (hne : zs ≠ [])
    (h1 : GlobOk G D) (h2 : GlobW G w) (h3 : Agree D w) : Lib.TabIs P w name k zs := by
  obtain ⟨arr, e, fz, q1, q2⟩ := h2 g _ hG (by simpa using hne)
  unfold Lib.TabIs World.var?
  rw [hg]
  simp only [Option.bind_some, q1, Option.some.injEq]
  apply Array.ext_getElem?
  intro j
  rw [List.length_map] at q2
  rcases Nat.lt_or_ge j zs.length with hj | hj
  · obtain ⟨u, hu, hd⟩ := h1 g _ hG j (.int k zs[j]) (by simp [hj])
    have hd : u = .int k zs[j] := hd
    subst hd
    have := h3 _ _ _ hu
    simp only [World.cell?, q1, Option.isSome_none, Bool.false_eq_true, if_false] at this
    rw [this]
    simp [hj]
  · rw [Array.getElem?_eq_none (by omega), Array.getElem?_eq_none (by simpa using hj)]

theorem below_grow (w : World) (k : Nat) (os : Array Obj) : Below w.heap.size w (Go.Sort.grow (w.drewN k) os) := by
  refine ⟨rfl, rfl, rfl, ?_, ?_⟩
  · simp [Go.Sort.grow]
  · intro b hb
    simp [Go.Sort.grow, Array.getElem?_append, hb]

theorem lib_Itoa {G : Nat → Option (List Cell)} (gp : Nat) (hg : Tryz.prog.globalNamed "internal/strconv.uint64pow10" = some gp) (hG : G gp = some (Lib.pow10Tab.map fun z => .int .u64 z)) (n : Int) (h0 : -9223372036854775808 ≤ n) (h1 : n ≤ 9223372036854775807) :
    Pur Tryz.prog G 92 [.c (.int .i64 n)] [.c (.str (Lib.itoa n))] := by
  refine Pur.of_below rfl ?_
  intro D ρ w vs hv k1 k2 k3
  obtain ⟨u, rfl, hu⟩ := hv.one
  have hu : u = .int .i64 n := hu
  subst hu
  refine (Tryz.strconv_Itoa n h0 h1 w (tabIs hg hG (by decide) k1 k2 k3)).mono ?_
  rintro e w' ⟨rfl, k, os, rfl⟩
  exact ⟨_, rfl, rfl, below_grow w k os⟩
end Go.Proofs
end

section
open Go Go.Sv
namespace Go.Proofs.Tw
attribute [local irreducible] Wp FinQ resV Ent Pur Go.Sv.Fn Sat0
set_option maxRecDepth 100000
variable {G : Nat → Option (List Cell)}

mutual
def printJ : JV → List UInt8
  | .mk k b n s ns ks => if k == 1 then [110, 117, 108, 108] else if k == 2 then Lib.formatBool b else if k == 3 then Lib.itoa n else if k == 4 then quotedT s else
    if k == 6 then (123 :: Lib.join (partsJ k ns ks) [44]) ++ [125] else (91 :: Lib.join (partsJ k ns ks) [44]) ++ [93]
def partsJ : Int → List (List UInt8) → List JV → List (List UInt8)
  | _, _, [] => []
  | k, ns, x :: r => (if k == 6 then quotedT (ns.headD []) ++ [58] ++ printJ x else printJ x) :: partsJ k ns.tail r
end
def partAt (v : JV) (i : Nat) : List UInt8 := if v.kind == 6 then quotedT (v.names.getD i []) ++ [58] ++ printJ (v.kids.getD i .nil) else printJ (v.kids.getD i .nil)
def parts (v : JV) (k : Nat) : List (List UInt8) := (List.range k).map (partAt v)
theorem join_part {x : List UInt8} {xs : List (List UInt8)} (sep : List UInt8) (h : x ∈ xs) : x.length ≤ (Lib.join xs sep).length := by
  cases xs with
  | nil => simp at h
  | cons y r =>
    rw [Lib.join_cons, List.length_append]
    rcases List.mem_cons.1 h with rfl | h
    · omega
    · have : x.length ≤ (Lib.joinTail sep r).length := by
        unfold Lib.joinTail
        induction r with
        | nil => simp at h
        | cons z t ih =>
          simp only [List.map_cons, List.flatten_cons, List.length_append]
          rcases List.mem_cons.1 h with rfl | h
          · omega
          · have := ih (by simp [h]) h; omega
      omega

/-- What can be printed. -/
inductive Fit : JV → Prop
  | mk {v : JV} (h2 : v.kids.length ≤ 1000000000000) (h6 : v.kind = 6 → v.kids.length ≤ v.names.length) (h0 : -4611686018427387904 ≤ v.n) (h1 : v.n ≤ 4611686018427387904) (hp : (printJ v).length ≤ 140737488355328) (h3 : ∀ x ∈ v.kids, Fit x) : Fit v

def strsF (l : List (List UInt8)) : Nat → Nat → Cell := fun i _ => .str (l.getD i [])
theorem strs_app {e : TypeId} {k : Nat} (l : List (List UInt8)) (x : List UInt8) (hk : k = l.length) : BlkEqv (.row e 1 (k + 1) (catF k (strsF l) (fun i j => nthD [.str x] ((0 + i) * 1 + j)))) (.row e 1 (k + 1) (strsF (l ++ [x]))) := by
  refine BlkEqv.row_ext rfl fun i hi j hj => ?_
  subst hk
  unfold catF
  split
  · rename_i h; simp only [strsF, List.getD, List.getElem?_append, h, if_true]
  · obtain ⟨h1, rfl⟩ : i = l.length ∧ j = 0 := by omega
    subst h1
    rw [Nat.sub_self]
    simp only [strsF, List.getD, List.getElem?_append, Nat.lt_irrefl, if_false, Nat.sub_self]
    rfl
end Go.Proofs.Tw
end

section
open Go Go.Sv
namespace Go.Proofs.Tw
attribute [local irreducible] Wp FinQ resV Ent Pur Go.Sv.Fn Sat0
set_option maxRecDepth 100000
variable {G : Nat → Option (List Cell)}

def r3 (c a b : Int) : Int := (c - 224) * 4096 + a * 64 + b
def r4 (c a b d : Int) : Int := (c - 240) * 262144 + a * 4096 + b * 64 + d
theorem wrap64 {n : Int} (h1 : -9223372036854775808 ≤ n) (h2 : n ≤ 9223372036854775807) : IntKind.i64.wrap n = n := by
  simp [IntKind.wrap, IntKind.signed, IntKind.bits]
  omega

end Go.Proofs.Tw
end

section
open Go Go.Sv
namespace Go.Proofs.Tw
attribute [local irreducible] Wp FinQ resV Ent Pur Go.Sv.Fn Sat0
set_option maxRecDepth 100000
variable {G : Nat → Option (List Cell)}

/-- All texts are short enough, too. -/
inductive Short : JV → Prop
  | mk {v : JV} (h0 : v.s.length < 4611686018427387904) (h1 : v.names.length < 4611686018427387904) (hs : ∀ x ∈ v.names, x.length < 4611686018427387904) (h2 : v.kids.length < 4611686018427387904) (h3 : ∀ x ∈ v.kids, Short x) : Short v
end Go.Proofs.Tw
end

section
open Go Go.Sv
namespace Go.Proofs.Tw
attribute [local irreducible] Wp FinQ resV Ent Pur Go.Sv.Fn Sat0
set_option maxRecDepth 100000
variable {G : Nat → Option (List Cell)}

end Go.Proofs.Tw
end

section
open Go Go.Sv
namespace Go.Proofs.Tw
attribute [local irreducible] Wp FinQ resV Ent Pur Go.Sv.Fn Sat0
set_option maxRecDepth 100000
variable {G : Nat → Option (List Cell)}

theorem dec_len (m : Nat) : (Lib.decDigits m).length ≤ m + 1 := by
  induction m using Nat.strongRecOn with
  | _ m ih =>
  rw [Lib.decDigits]
  split
  · simp
  · rename_i h
    have := ih (m / 10) (by omega)
    simp only [List.length_append, List.length_cons, List.length_nil]; omega
theorem join_snoc (l : List (List UInt8)) (x sep : List UInt8) : Lib.join (l ++ [x]) sep = if l = [] then x else Lib.join l sep ++ sep ++ x := by
  cases l with
  | nil => rw [if_pos rfl]; exact Lib.join_one x sep
  | cons y r => rw [if_neg (by simp), List.cons_append, Lib.join_cons, Lib.join_cons]; simp [Lib.joinTail]
end Go.Proofs.Tw
end

section
open Go Go.Sv
namespace Go.Proofs.Tw
attribute [local irreducible] Wp FinQ resV Ent Pur Go.Sv.Fn Sat0
set_option maxRecDepth 100000
variable {G : Nat → Option (List Cell)}

def CEq (x y : Cell) : Prop := ∀ D ρ u, Den D ρ x u → Den D ρ y u
theorem CEq.rfl' {x : Cell} : CEq x x := fun _ _ _ h => h
theorem CEq.nil {sz : Nat} {f : Nat → Nat → Cell} : CEq .nilsl (.sl sz 0 f) := by
  intro D ρ u h
  have h : u = .slice none 0 0 := h
  subst h
  exact ⟨none, 0, rfl, Nat.le_refl _, by unfold maxLen; omega, .inl ⟨rfl, rfl⟩⟩
inductive CEqs : List Cell → List Cell → Prop
  | nil : CEqs [] []
  | cons {x y : Cell} {l l' : List Cell} (h : CEq x y) (t : CEqs l l') : CEqs (x :: l) (y :: l')
theorem CEqs.len {l l' : List Cell} (h : CEqs l l') : l.length = l'.length := by
  induction h with
  | nil => rfl
  | cons _ _ ih => simp [ih]
theorem agg_eqv {l l' : List Cell} (h : CEqs l l') : EqvD (.agg l) (.agg l') := by
  intro D ρ u hd
  obtain ⟨us, e, hs, hx⟩ := hd
  have hl := h.len
  refine ⟨us, e, by rw [hs, hl], fun j y hj => ?_⟩
  have : ∀ (l l' : List Cell), CEqs l l' → ∀ (j : Nat) (y : Cell), l'[j]? = some y → ∃ x, l[j]? = some x ∧ CEq x y := by
    intro l l' h
    induction h with
    | nil => intro j y hj; simp at hj
    | cons h1 h2 ih =>
      intro j y hj
      cases j with
      | zero => simp at hj; subst hj; exact ⟨_, by simp, h1⟩
      | succ j => simp at hj; obtain ⟨x, hx, hc⟩ := ih j y hj; exact ⟨x, by simpa using hx, hc⟩
  obtain ⟨x, hxl, hc⟩ := this l l' h j y hj
  obtain ⟨v, hv, hd⟩ := hx j x hxl
  exact ⟨v, hv, hc _ _ _ hd⟩

structure FT where (name value : List UInt8)
def FT.nil : FT := ⟨[], []⟩
def encF (x : FT) : List Cell := [.str x.name, .str x.value]
def encH (l : List FT) : Cell := .sl 2 l.length (fun i j => nthD (encF (l.getD i .nil)) j)
structure RT where
  (status : Int) (head : List FT) (body : List UInt8)
def encT (r : RT) : List Cell := [.int .i64 r.status, encH r.head, .str r.body]

def eqF (x y : FT) : Bool := (x.name == y.name) && ((x.value == y.value) && true)
def sameF (a b : List FT) : Bool := !((a.length : Int) != (b.length : Int)) && (List.range a.length).all (fun i => eqF (a.getD i .nil) (b.getD i .nil))
def same_inv (a b : List FT) (k : Nat) : St := ⟨[(0, .v (.c (encH a))), (1, .v (.c (encH b))), (5, .v (.c (.int .i64 (k : Int))))], [], 0⟩
theorem same_ok (a b : List FT) (ha : a.length < 4611686018427387904) : Pur Tryz.prog G 28 [.c (encH a), .c (encH b)] [.c (.bool (sameF a b))] := by
  refine Pur.of Tryz.func28 (by kernel_rfl) (by kernel_rfl) (by kernel_rfl) ?_
  refine Wp.go (mx := true) (fun _ => mixed) [] 100 [] [] (by kernel_rfl) (by kernel_rfl) (by kernel_rfl) trivial ?_
  refine Wp.cond' (by kernel_rfl) ((a.length : Int) != (b.length : Int)) (by kernel_rfl) (fun h => ?_) (fun h => ?_)
  · refine Wp.go (mx := true) (fun _ => mixed) [] 100 [] [] (by kernel_rfl) (by kernel_rfl) (by kernel_rfl) trivial ?_
    refine Wp.ret' (by kernel_rfl) ?_
    exact FinQ.pure (rs' := [.c (.bool false)]) (by kernel_rfl) (by rw [sameF, h]; rfl) (by kernel_rfl)
  · refine Wp.go (mx := true) (fun _ => mixed) [] 100 [] [] (by kernel_rfl) (by kernel_rfl) (by kernel_rfl) trivial ?_
    have hl : a.length = b.length := by simp at h; omega
    refine Wp.loopK (by kernel_rfl) (same_inv a b) (fun k => k ≤ a.length ∧ ∀ i, i < k → eqF (a.getD i .nil) (b.getD i .nil) = true) (fun k => a.length - k) 0 (Ent.of [] (by kernel_rfl) (by kernel_rfl) (by kernel_rfl) trivial) ⟨Nat.zero_le _, fun i hi => absurd hi (Nat.not_lt_zero i)⟩ ?_
    rintro k L ⟨hk, hall⟩ again
    have hne := h
    refine Wp.go (mx := true) (fun _ => mixed) [] 100 [] [] (by kernel_rfl) (by kernel_rfl) (by kernel_rfl) trivial ?_
    refine Wp.cond' (by kernel_rfl) (decide ((k : Int) < (a.length : Int))) (by kernel_rfl) (fun h => ?_) (fun h => ?_)
    · have hk' : k < a.length := by simpa using h
      refine Wp.go (mx := true) (fun _ => mixed) [] 100 [] [0 ≤ (k : Int) ∧ (k : Int) < (a.length : Int), 0 ≤ (k : Int) ∧ (k : Int) < (b.length : Int)] (by kernel_rfl) (by kernel_rfl) (by kernel_rfl) ⟨by omega, by show 0 ≤ (k : Int) ∧ (k : Int) < (b.length : Int); omega⟩ ?_
      refine Wp.cond' (by kernel_rfl) (!(eqF (a.getD k .nil) (b.getD k .nil))) (by kernel_rfl) (fun h => ?_) (fun h => ?_)
      · refine Wp.go (mx := true) (fun _ => mixed) [] 100 [] [] (by kernel_rfl) (by kernel_rfl) (by kernel_rfl) trivial ?_
        refine Wp.ret' (by kernel_rfl) ?_
        exact FinQ.pure (rs' := [.c (.bool false)]) (by kernel_rfl) (by rw [sameF, all_range_false hk' (by simpa using h)]; simp) (by kernel_rfl)
      · refine Wp.go (mx := true) (fun _ => mixed) [] 100 [] [inR .i64 ((k : Int) + 1)] (by kernel_rfl) (by kernel_rfl) (by kernel_rfl) (inR64 (by omega) (by omega)) ?_
        exact Wp.lpK (by kernel_rfl) (again _ (k + 1) ⟨hk', up1 hall (by simpa using h)⟩ (by show a.length - (k + 1) < a.length - k; omega) (Ent.of [] (by kernel_rfl) (by kernel_rfl) (by kernel_rfl) trivial))
    · refine Wp.go (mx := true) (fun _ => mixed) [] 100 [] [] (by kernel_rfl) (by kernel_rfl) (by kernel_rfl) trivial ?_
      refine Wp.ret' (by kernel_rfl) ?_
      exact FinQ.pure (rs' := [.c (.bool true)]) (by kernel_rfl) (by rw [sameF, hne, all_range_true (fun i hi => hall i (by simp at h; omega))]; rfl) (by kernel_rfl)

theorem sameF_refl (a : List FT) : sameF a a = true := by
  unfold sameF
  rw [all_range_true (fun i _ => by unfold eqF; simp)]
  simp
end Go.Proofs.Tw
end

section
open Go Go.Sv
namespace Go.Proofs.Tw
attribute [local irreducible] Wp FinQ resV Ent Pur Go.Sv.Fn Sat0
set_option maxRecDepth 100000
set_option maxHeartbeats 4000000
variable {G : Nat → Option (List Cell)}

def intsF (l : List Int) : Nat → Nat → Cell := fun i _ => .int .i64 (l.getD i 0)
/-- The tape: its numbers, and how many of them are read. -/
def tapeB (l : List Int) (a : Nat) : Blk := .box 62 [.sl 1 l.length (intsF l), .int .i64 (a : Int)]
def withT (at_ n : Int) : Int := if at_.tmod n < 0 then at_.tmod n + n else at_.tmod n

theorem tmod_lo (a n : Int) (hn : 0 < n) : -n < a.tmod n := by
  rcases Int.lt_or_le a 0 with h | h
  · have := Int.tmod_lt_of_pos (-a) hn
    rw [Int.neg_tmod] at this
    omega
  · have := Int.tmod_nonneg n h
    omega
theorem withT_rng (a n : Int) (hn : 0 < n) : 0 ≤ withT a n ∧ withT a n < n := by
  unfold withT
  have h1 := Int.tmod_lt_of_pos a hn
  have h2 := tmod_lo a n hn
  split <;> omega
theorem within1_ok (a n : Int) (hn : 0 < n) (hm : n ≤ 9223372036854775807) : Pur Tryz.prog G 86 [.c (.int .i64 a), .c (.int .i64 n)] [.c (.int .i64 (withT a n))] := by
  refine Pur.of Tryz.func86 (by kernel_rfl) (by kernel_rfl) (by kernel_rfl) ?_
  have h1 := Int.tmod_lt_of_pos a hn
  have h2 := tmod_lo a n hn
  refine Wp.go (mx := true) (fun _ => mixed) [] 100 [] [n = (0 : Int) → False] (by kernel_rfl) (by kernel_rfl) (by kernel_rfl) ((show n = (0 : Int) → False from (by omega))) ?_
  refine Wp.cond' (by kernel_rfl) (decide (a.tmod n < (0 : Int))) (by kernel_rfl) (fun h0 => ?_) (fun h0 => ?_)
  · have g0 := of_decide_eq_true h0
    refine Wp.go (mx := true) (fun _ => mixed) [] 100 [] [IntKind.i64.min ≤ a.tmod n + n ∧ a.tmod n + n ≤ IntKind.i64.max] (by kernel_rfl) (by kernel_rfl) (by kernel_rfl) (inR64 (by omega) (by omega)) ?_
    refine Wp.ret' (by kernel_rfl) ?_
    exact FinQ.pure (rs' := [V1.c (Cell.int .i64 (a.tmod n + n))]) (by kernel_rfl) (by simp [withT, *]; done) (by kernel_rfl)
  · have g0 := of_decide_eq_false h0
    refine Wp.go (mx := true) (fun _ => mixed) [] 100 [] [] (by kernel_rfl) (by kernel_rfl) (by kernel_rfl) trivial ?_
    refine Wp.ret' (by kernel_rfl) ?_
    exact FinQ.pure (rs' := [V1.c (Cell.int .i64 (a.tmod n))]) (by kernel_rfl) (by simp [withT, *]; done) (by kernel_rfl)
theorem more1_ok (l : List Int) (a : Nat) : FnB Tryz.prog G 85 [tapeB l a] [.c (.ptr 0 0)] [.c (.bool (decide (a < l.length)))] [(0, tapeB l a)] := by
  refine Fn.of' Tryz.func85 (by kernel_rfl) (by kernel_rfl) (by kernel_rfl) (by kernel_rfl) trivial ?_
  refine Wp.go (mx := true) (fun _ => mixed) [] 100 [] [] (by kernel_rfl) (by kernel_rfl) (by kernel_rfl) trivial ?_
  refine Wp.ret' (by kernel_rfl) ?_
  exact FinQ.blkE (rs' := [V1.c (Cell.bool (decide ((↑a : Int) < (↑l.length : Int))))]) (hout' := [(0, tapeB l a)]) (by simp) [] (by kernel_rfl) (by kernel_rfl) (by kernel_rfl) (by kernel_rfl) (by kernel_rfl) trivial
/-- What a tape gives, and where it then stands. -/
def nextV (l : List Int) (a : Nat) (n : Int) : Int := cond (cond (!decide ((a : Int) < (l.length : Int))) true (decide (n < 1))) 0 (withT (l.getD a 0) n)
def nextA (l : List Int) (a : Nat) (n : Int) : Nat := cond (cond (!decide ((a : Int) < (l.length : Int))) true (decide (n < 1))) a (a + 1)
theorem next_ok (l : List Int) (a : Nat) (n : Int) (hl : l.length ≤ 9223372036854775807) (hm : n ≤ 9223372036854775807) : FnB Tryz.prog G 48 [tapeB l a] [.c (.ptr 0 0), .c (.int .i64 n)] [.c (.int .i64 (nextV l a n))] [(0, tapeB l (nextA l a n))] := by
  refine Fn.of' Tryz.func48 (by kernel_rfl) (by kernel_rfl) (by kernel_rfl) (by kernel_rfl) trivial ?_
  refine Wp.go (mx := true) (fun _ => mixed) [(1, {cs := [(1, cb [0] (more1_ok l a))]})] 100 [] [] (by kernel_rfl) (by kernel_rfl) (by kernel_rfl) trivial ?_
  refine Wp.cond' (by kernel_rfl) (bif !decide (a < l.length) then true else decide (n < (1 : Int))) (by kernel_rfl) (fun h0 => ?_) (fun h0 => ?_)
  · have g0 := h0
    simp at g0
    refine Wp.go (mx := true) (fun _ => mixed) [] 100 [] [] (by kernel_rfl) (by kernel_rfl) (by kernel_rfl) trivial ?_
    refine Wp.ret' (by kernel_rfl) ?_
    exact FinQ.blkE (rs' := [V1.c (Cell.int .i64 (0 : Int))]) (hout' := [(0, Blk.box 62 [Cell.sl (1 : Nat) l.length (intsF l), Cell.int .i64 (↑a : Int)])]) (by simp [nextV, tapeB, nextA, h0]) [] (by kernel_rfl) (by kernel_rfl) (by kernel_rfl) (by kernel_rfl) (by kernel_rfl) trivial
  · have g0 := h0
    simp at g0
    refine Wp.go (mx := true) (fun _ => mixed) [(4, {cs := [(12, pc (within1_ok (l.getD a (0 : Int)) n (by omega) (by assumption)))], fm := [(10, .c (.int .i64 (l.getD a 0)))]})] 100 [] [inR IntKind.i64 ((↑a : Int) + (1 : Int)), inR IntKind.i64 ((↑a : Int) + (1 : Int) - (1 : Int)), (0 : Int) ≤ (↑a : Int) + (1 : Int) - (1 : Int) ∧ (↑a : Int) + (1 : Int) - (1 : Int) < (↑l.length : Int), EqvD (V1.c (Cell.int .i64 (l.getD ((↑a : Int) + (1 : Int) - (1 : Int)).toNat (0 : Int)))) (V1.c (Cell.int .i64 (l.getD a (0 : Int))))] (by kernel_rfl) (by kernel_rfl) (by kernel_rfl) ⟨inR64 (by omega) (by omega), inR64 (by omega) (by omega), (by omega), (show EqvD (V1.c (Cell.int .i64 (l.getD ((↑a : Int) + (1 : Int) - (1 : Int)).toNat (0 : Int)))) (V1.c (Cell.int .i64 (l.getD a (0 : Int)))) from (by simp; exact fun _ _ _ h => h))⟩ ?_
    refine Wp.ret' (by kernel_rfl) ?_
    exact FinQ.blkE (rs' := [V1.c (Cell.int .i64 (withT (l.getD a (0 : Int)) n))]) (hout' := [(0, Blk.box 62 [Cell.sl (1 : Nat) l.length (intsF l), Cell.int .i64 ((↑a : Int) + (1 : Int))])]) (by simp [nextV, tapeB, nextA, h0]) [] (by kernel_rfl) (by kernel_rfl) (by kernel_rfl) (by kernel_rfl) (by kernel_rfl) trivial
theorem nextV_rng (l : List Int) (a : Nat) (n : Int) (hn : 0 < n) : 0 ≤ nextV l a n ∧ nextV l a n < n := by
  unfold nextV
  have := withT_rng (l.getD a 0) n hn
  cases (cond (!decide ((a : Int) < (l.length : Int))) true (decide (n < 1))) with
  | true => show 0 ≤ (0 : Int) ∧ (0 : Int) < n; omega
  | false => exact this
theorem pick_ok (ss : List (List UInt8)) (l : List Int) (a : Nat) (hl : l.length ≤ 9223372036854775807) (hs : ss.length < 4611686018427387904) : FnB Tryz.prog G 31 [tapeB l a] [.c (.ptr 0 0), .c (.sl 1 ss.length (strsF ss))] [.c (.str (ss.getD (nextV l a ss.length).toNat []))] [(0, tapeB l (nextA l a ss.length))] := by
  refine Fn.of' Tryz.func31 (by kernel_rfl) (by kernel_rfl) (by kernel_rfl) (by kernel_rfl) trivial ?_
  have hr := fun h => nextV_rng l a ss.length h
  refine Wp.go (mx := true) (fun _ => mixed) [] 100 [] [] (by kernel_rfl) (by kernel_rfl) (by kernel_rfl) trivial ?_
  refine Wp.cond' (by kernel_rfl) ((↑ss.length : Int) == (0 : Int)) (by kernel_rfl) (fun h0 => ?_) (fun h0 => ?_)
  · have g0 := eq_of_beq h0
    refine Wp.go (mx := true) (fun _ => mixed) [] 100 [] [] (by kernel_rfl) (by kernel_rfl) (by kernel_rfl) trivial ?_
    refine Wp.ret' (by kernel_rfl) ?_
    exact FinQ.blkE (rs' := [V1.c (Cell.str [])]) (hout' := [(0, Blk.box 62 [Cell.sl (1 : Nat) l.length (intsF l), Cell.int .i64 (↑a : Int)])]) (by simp_all [nextV, tapeB, nextA]) [] (by kernel_rfl) (by kernel_rfl) (by kernel_rfl) (by kernel_rfl) (by kernel_rfl) trivial
  · have g0 := ne_of_beq_false h0
    refine Wp.go (mx := true) (fun _ => mixed) [(3, {cs := [(4, cb [0] (next_ok l a (↑ss.length : Int) (by assumption) (by omega)))]})] 100 [] [(0 : Int) ≤ nextV l a (↑ss.length : Int) ∧ nextV l a (↑ss.length : Int) < (↑ss.length : Int)] (by kernel_rfl) (by kernel_rfl) (by kernel_rfl) ((show (0 : Int) ≤ nextV l a (↑ss.length : Int) ∧ nextV l a (↑ss.length : Int) < (↑ss.length : Int) from (by omega))) ?_
    refine Wp.ret' (by kernel_rfl) ?_
    exact FinQ.blk [] (by kernel_rfl) (by kernel_rfl) (by kernel_rfl) (by kernel_rfl) (by kernel_rfl) trivial
end Go.Proofs.Tw
end

section
open Go Go.Sv Go.RowKit
namespace Go.Proofs.Tw
attribute [local irreducible] Wp FinQ resV Ent Pur Go.Sv.Fn Sat0
set_option maxRecDepth 100000
set_option maxHeartbeats 4000000
variable {G : Nat → Option (List Cell)}

theorem byte_all (p : UInt8 → Bool) (h : (List.range 256).all (fun n => p (UInt8.ofNat n)) = true) (c : UInt8) : p c = true := by
  have := List.all_eq_true.1 h c.toNat (List.mem_range.2 (UInt8.toNat_lt c))
  rwa [UInt8.ofNat_toNat] at this
theorem by_all (p q : UInt8 → Bool) (h : (List.range 256).all (fun n => p (UInt8.ofNat n) == q (UInt8.ofNat n)) = true) : ∀ c : UInt8, [V1.c (Cell.bool (p c))] = [V1.c (Cell.bool (q c))] := by
  intro c
  have h' : p c = q c := eq_of_beq (byte_all (fun c => p c == q c) h c)
  rw [h']
theorem by_fun (p q : UInt8 → Bool) (h : (List.range 256).all (fun n => p (UInt8.ofNat n) == q (UInt8.ofNat n)) = true) (c : UInt8) : p c = q c :=
  eq_of_beq (byte_all (fun c => p c == q c) h c)
def greatB (c : UInt8) : Bool := 65 ≤ c && c ≤ 90
def smallB (c : UInt8) : Bool := 97 ≤ c && c ≤ 122
def digitB (c : UInt8) : Bool := 48 ≤ c && c ≤ 57
def letterB (c : UInt8) : Bool := greatB c || smallB c
def plainB (c : UInt8) : Bool := letterB c || digitB c || [45, 46, 95, 126].contains c
def tokenB (c : UInt8) : Bool := letterB c || digitB c || [33, 35, 36, 37, 38, 39, 42, 43, 45, 46, 94, 95, 124, 126, 96].contains c
def seenB (c : UInt8) : Bool := 32 ≤ c && c ≤ 126
theorem great_ok (c : UInt8) : Pur Tryz.prog G 73 [.c (.int .u8 (c.toNat : Int))] [.c (.bool (greatB c))] := by
  refine Pur.of Tryz.func73 (by kernel_rfl) (by kernel_rfl) (by kernel_rfl) ?_
  refine Wp.go (mx := true) (fun _ => mixed) [] 100 [] [] (by kernel_rfl) (by kernel_rfl) (by kernel_rfl) trivial ?_
  refine Wp.ret' (by kernel_rfl) ?_
  exact FinQ.pure (rs' := [V1.c (Cell.bool (bif decide ((↑c.toNat : Int) ≥ (65 : Int)) then decide ((↑c.toNat : Int) ≤ (90 : Int)) else false))]) (by kernel_rfl) (by revert c; refine by_all _ _ ?_; kernel_rfl) (by kernel_rfl)
theorem small_ok (c : UInt8) : Pur Tryz.prog G 114 [.c (.int .u8 (c.toNat : Int))] [.c (.bool (smallB c))] := by
  refine Pur.of Tryz.func114 (by kernel_rfl) (by kernel_rfl) (by kernel_rfl) ?_
  refine Wp.go (mx := true) (fun _ => mixed) [] 100 [] [] (by kernel_rfl) (by kernel_rfl) (by kernel_rfl) trivial ?_
  refine Wp.ret' (by kernel_rfl) ?_
  exact FinQ.pure (rs' := [V1.c (Cell.bool (bif decide ((↑c.toNat : Int) ≥ (97 : Int)) then decide ((↑c.toNat : Int) ≤ (122 : Int)) else false))]) (by kernel_rfl) (by revert c; refine by_all _ _ ?_; kernel_rfl) (by kernel_rfl)
theorem digit_ok (c : UInt8) : Pur Tryz.prog G 83 [.c (.int .u8 (c.toNat : Int))] [.c (.bool (digitB c))] := by
  refine Pur.of Tryz.func83 (by kernel_rfl) (by kernel_rfl) (by kernel_rfl) ?_
  refine Wp.go (mx := true) (fun _ => mixed) [] 100 [] [] (by kernel_rfl) (by kernel_rfl) (by kernel_rfl) trivial ?_
  refine Wp.ret' (by kernel_rfl) ?_
  exact FinQ.pure (rs' := [V1.c (Cell.bool (bif decide ((↑c.toNat : Int) ≥ (48 : Int)) then decide ((↑c.toNat : Int) ≤ (57 : Int)) else false))]) (by kernel_rfl) (by revert c; refine by_all _ _ ?_; kernel_rfl) (by kernel_rfl)
theorem digit6_ok (c : UInt8) : Pur Tryz.prog G 104 [.c (.int .u8 (c.toNat : Int))] [.c (.bool (digitB c))] := by
  refine Pur.of Tryz.func104 (by kernel_rfl) (by kernel_rfl) (by kernel_rfl) ?_
  refine Wp.go (mx := true) (fun _ => mixed) [] 100 [] [] (by kernel_rfl) (by kernel_rfl) (by kernel_rfl) trivial ?_
  refine Wp.ret' (by kernel_rfl) ?_
  exact FinQ.pure (rs' := [V1.c (Cell.bool (bif decide ((↑c.toNat : Int) ≥ (48 : Int)) then decide ((↑c.toNat : Int) ≤ (57 : Int)) else false))]) (by kernel_rfl) (by revert c; refine by_all _ _ ?_; kernel_rfl) (by kernel_rfl)
theorem letter6_ok (c : UInt8) : Pur Tryz.prog G 103 [.c (.int .u8 (c.toNat : Int))] [.c (.bool (letterB c))] := by
  refine Pur.of Tryz.func103 (by kernel_rfl) (by kernel_rfl) (by kernel_rfl) ?_
  refine Wp.go (mx := true) (fun _ => mixed) [] 100 [] [] (by kernel_rfl) (by kernel_rfl) (by kernel_rfl) trivial ?_
  refine Wp.ret' (by kernel_rfl) ?_
  exact FinQ.pure (rs' := [V1.c (Cell.bool (bif bif decide ((↑c.toNat : Int) ≥ (65 : Int)) then decide ((↑c.toNat : Int) ≤ (90 : Int)) else false then true else bif decide ((↑c.toNat : Int) ≥ (97 : Int)) then decide ((↑c.toNat : Int) ≤ (122 : Int)) else false))]) (by kernel_rfl) (by revert c; refine by_all _ _ ?_; kernel_rfl) (by kernel_rfl)
theorem seen1_ok (c : UInt8) : Pur Tryz.prog G 84 [.c (.int .u8 (c.toNat : Int))] [.c (.bool (seenB c))] := by
  refine Pur.of Tryz.func84 (by kernel_rfl) (by kernel_rfl) (by kernel_rfl) ?_
  refine Wp.go (mx := true) (fun _ => mixed) [] 100 [] [] (by kernel_rfl) (by kernel_rfl) (by kernel_rfl) trivial ?_
  refine Wp.ret' (by kernel_rfl) ?_
  exact FinQ.pure (rs' := [V1.c (Cell.bool (bif decide ((↑c.toNat : Int) ≥ (32 : Int)) then decide ((↑c.toNat : Int) ≤ (126 : Int)) else false))]) (by kernel_rfl) (by revert c; refine by_all _ _ ?_; kernel_rfl) (by kernel_rfl)
theorem lib_IndexByte {G : Nat → Option (List Cell)} (s : List UInt8) (c : UInt8) : Pur Tryz.prog G 115 [.c (.str s), .c (.int .u8 (c.toNat : Int))] [.c (.int .i64 (Lib.indexByte s c))] := by
  refine Pur.of_below rfl ?_
  intro D ρ w vs h1 _ _ _
  obtain ⟨u, v, rfl, hu, hv⟩ := h1.two
  have hu : u = .string ⟨s.toArray⟩ := hu
  have hv : v = .int .u8 (c.toNat : Int) := hv
  subst hu hv
  refine (Go.Proofs.Tryz.strings_IndexByte ⟨s.toArray⟩ (c.toNat : Int) w).mono ?_
  rintro e w' ⟨rfl, rfl⟩
  exact ⟨_, rfl, by simp [ResDen, DenV, Den], Below.refl _ _⟩
theorem token1_ok (c : UInt8) : Pur Tryz.prog G 113 [.c (.int .u8 (c.toNat : Int))] [.c (.bool (tokenB c))] := by
  refine Pur.of Tryz.func113 (by kernel_rfl) (by kernel_rfl) (by kernel_rfl) ?_
  refine Wp.go (mx := true) (fun _ => mixed) [(1, {cs := [(1, pc (great_ok c)), (4, pc (small_ok c)), (8, pc (digit_ok c)), (12, pc (lib_IndexByte [(33 : UInt8), 35, 36, 37, 38, 39, 42, 43, 45, 46, 94, 95, 124, 126, 96] c))]})] 100 [] [] (by kernel_rfl) (by kernel_rfl) (by kernel_rfl) trivial ?_
  refine Wp.ret' (by kernel_rfl) ?_
  exact FinQ.pure (rs' := [V1.c (Cell.bool (bif bif bif greatB c then true else smallB c then true else digitB c then true else decide (Lib.indexByte [(33 : UInt8), 35, 36, 37, 38, 39, 42, 43, 45, 46, 94, 95, 124, 126, 96] c ≥ (0 : Int))))]) (by kernel_rfl) (by revert c; refine by_all _ _ ?_; kernel_rfl) (by kernel_rfl)
theorem ibeq (a b : UInt8) : ((a.toNat : Int) == (b.toNat : Int)) = (a == b) := by
  rw [Bool.eq_iff_iff, beq_iff_eq, beq_iff_eq, Int.ofNat_inj, UInt8.toNat_inj]
theorem dropS (l : List UInt8) (k : Nat) (h : k < l.length) : l.drop k = l.getD k 0 :: l.drop (k + 1) := by
  rw [List.getD_eq_getElem?_getD, List.getElem?_eq_getElem h]; exact List.drop_eq_getElem_cons h
theorem in6_ok (c : UInt8) (s : List UInt8) (hl : s.length < 4611686018427387904) : Pur Tryz.prog G 105 [.c (.int .u8 (c.toNat : Int)), .c (.str s)] [.c (.bool (s.contains c))] := by
  refine Pur.of Tryz.func105 (by kernel_rfl) (by kernel_rfl) (by kernel_rfl) ?_
  refine Wp.go (mx := true) (fun _ => mixed) [] 100 [] [] (by kernel_rfl) (by kernel_rfl) (by kernel_rfl) trivial ?_
  refine Wp.loopK (by kernel_rfl) (fun (k : Nat) => ⟨[(0, TV.v (V1.c (Cell.int .u8 (↑c.toNat : Int)))), (1, TV.v (V1.c (Cell.str s))), (5, TV.v (V1.c (Cell.int .i64 (k : Int))))], [], 32⟩) (fun k => k ≤ s.length ∧ s.contains c = (s.drop k).contains c) (fun k => s.length - k) 0 (Ent.of [] (by kernel_rfl) (by kernel_rfl) (by kernel_rfl) trivial) ⟨Nat.zero_le _, rfl⟩ ?_
  intro k L ⟨hk, hq⟩ again
  rcases Nat.lt_or_ge k s.length with hlt | hge
  · rw [dropS s k hlt, List.contains_cons] at hq
    refine Wp.go (mx := true) (fun _ => mixed) [] 100 [true] [decide ((↑k : Int) < (↑s.length : Int)) = true, (0 : Int) ≤ (↑k : Int) ∧ (↑k : Int) < (↑s.length : Int)] (by kernel_rfl) (by kernel_rfl) (by kernel_rfl) ⟨(by simp; omega), (show (0 : Int) ≤ (↑k : Int) ∧ (↑k : Int) < (↑s.length : Int) from (by omega))⟩ ?_
    refine Wp.cond' (by kernel_rfl) ((↑(s.getD k (0 : UInt8)).toNat : Int) == (↑c.toNat : Int)) (by kernel_rfl) (fun h0 => ?_) (fun h0 => ?_)
    · have g0 := eq_of_beq h0
      refine Wp.go (mx := true) (fun _ => mixed) [] 100 [] [] (by kernel_rfl) (by kernel_rfl) (by kernel_rfl) trivial ?_
      refine Wp.ret' (by kernel_rfl) ?_
      exact FinQ.pure (rs' := [V1.c (Cell.bool true)]) (by kernel_rfl) (by rw [ibeq] at h0; rw [hq, eq_of_beq h0]; simp) (by kernel_rfl)
    · have g0 := ne_of_beq_false h0
      refine Wp.go (mx := true) (fun _ => mixed) [] 100 [] [inR IntKind.i64 ((↑k : Int) + (1 : Int))] (by kernel_rfl) (by kernel_rfl) (by kernel_rfl) (inR64 (by omega) (by omega)) ?_
      exact Wp.lpK (by kernel_rfl) (again _ (k + 1) ⟨hlt, (by rw [ibeq] at h0; rw [hq, show (c == s.getD k 0) = false from by rw [beq_eq_false_iff_ne] at h0 ⊢; exact fun e => h0 e.symm]; rfl)⟩ (by omega) (Ent.of [] (by kernel_rfl) (by kernel_rfl) (by kernel_rfl) trivial))
  · obtain rfl : k = s.length := by omega
    rw [List.drop_length] at hq
    refine Wp.go (mx := true) (fun _ => mixed) [] 100 [false] [decide ((↑s.length : Int) < (↑s.length : Int)) = false] (by kernel_rfl) (by kernel_rfl) (by kernel_rfl) ((show decide ((↑s.length : Int) < (↑s.length : Int)) = false from (by simp; done))) ?_
    refine Wp.ret' (by kernel_rfl) ?_
    exact FinQ.pure (rs' := [V1.c (Cell.bool false)]) (by kernel_rfl) (by simp_all; done) (by kernel_rfl)
theorem plain6_ok (c : UInt8) : Pur Tryz.prog G 96 [.c (.int .u8 (c.toNat : Int))] [.c (.bool (plainB c))] := by
  refine Pur.of Tryz.func96 (by kernel_rfl) (by kernel_rfl) (by kernel_rfl) ?_
  have hl : ([45, 46, 95, 126] : List UInt8).length < 4611686018427387904 := by decide
  refine Wp.go (mx := true) (fun _ => mixed) [(1, {cs := [(1, pc (letter6_ok c)), (4, pc (digit6_ok c)), (8, pc (in6_ok c [(45 : UInt8), 46, 95, 126] (by assumption)))]})] 100 [] [] (by kernel_rfl) (by kernel_rfl) (by kernel_rfl) trivial ?_
  refine Wp.ret' (by kernel_rfl) ?_
  exact FinQ.pure (rs' := [V1.c (Cell.bool (bif bif letterB c then true else digitB c then true else [(45 : UInt8), 46, 95, 126].contains c))]) (by kernel_rfl) rfl (by kernel_rfl)
theorem All_great (s : List UInt8) (hl : s.length < 4611686018427387904) : Pur Tryz.prog G 72 [.c (.str s), .c (.clo 73 0 (fun _ => none) (fun _ _ => .nilif))] [.c (.bool (s.all greatB))] := by
  refine Pur.of Tryz.func72 (by kernel_rfl) (by kernel_rfl) (by kernel_rfl) ?_
  refine Wp.go (mx := true) (fun _ => mixed) [] 100 [] [] (by kernel_rfl) (by kernel_rfl) (by kernel_rfl) trivial ?_
  refine Wp.loopK (by kernel_rfl) (fun (k : Nat) => ⟨[(0, TV.v (V1.c (Cell.str s))), (1, TV.v (V1.c (Cell.clo 73 (0 : Nat) (fun _ => none) fun _ _ => Cell.nilif))), (7, TV.v (V1.c (Cell.int .i64 (↑s.length : Int)))), (8, TV.v (V1.c (Cell.int .i64 (k : Int))))], [], 32⟩) (fun k => k ≤ s.length ∧ s.all greatB = (s.drop k).all greatB) (fun k => s.length - k) 0 (Ent.of [] (by kernel_rfl) (by kernel_rfl) (by kernel_rfl) trivial) ⟨Nat.zero_le _, rfl⟩ ?_
  intro k L ⟨hk, hq⟩ again
  rcases Nat.lt_or_ge k s.length with hlt | hge
  · rw [dropS s k hlt, List.all_cons] at hq
    refine Wp.go (mx := true) (fun _ => mixed) [(4, {cs := [(4, pc (great_ok (s.getD k (0 : UInt8))))]})] 100 [true] [decide ((↑k : Int) < (↑s.length : Int)) = true, (0 : Int) ≤ (↑k : Int) ∧ (↑k : Int) < (↑s.length : Int)] (by kernel_rfl) (by kernel_rfl) (by kernel_rfl) ⟨(by simp; omega), (show (0 : Int) ≤ (↑k : Int) ∧ (↑k : Int) < (↑s.length : Int) from (by omega))⟩ ?_
    refine Wp.cond' (by kernel_rfl) (!greatB (s.getD k (0 : UInt8))) (by kernel_rfl) (fun h0 => ?_) (fun h0 => ?_)
    · have g0 := h0
      simp at g0
      refine Wp.go (mx := true) (fun _ => mixed) [] 100 [] [] (by kernel_rfl) (by kernel_rfl) (by kernel_rfl) trivial ?_
      refine Wp.ret' (by kernel_rfl) ?_
      exact FinQ.pure (rs' := [V1.c (Cell.bool false)]) (by kernel_rfl) (by simp_all; done) (by kernel_rfl)
    · have g0 := h0
      simp at g0
      refine Wp.go (mx := true) (fun _ => mixed) [] 100 [] [inR IntKind.i64 ((↑k : Int) + (1 : Int))] (by kernel_rfl) (by kernel_rfl) (by kernel_rfl) (inR64 (by omega) (by omega)) ?_
      exact Wp.lpK (by kernel_rfl) (again _ (k + 1) (⟨(by assumption), (by simp_all <;> omega)⟩) (by omega) (Ent.of [] (by kernel_rfl) (by kernel_rfl) (by kernel_rfl) trivial))
  · obtain rfl : k = s.length := by omega
    rw [List.drop_length] at hq
    refine Wp.go (mx := true) (fun _ => mixed) [] 100 [false] [decide ((↑s.length : Int) < (↑s.length : Int)) = false] (by kernel_rfl) (by kernel_rfl) (by kernel_rfl) ((show decide ((↑s.length : Int) < (↑s.length : Int)) = false from (by simp; done))) ?_
    refine Wp.ret' (by kernel_rfl) ?_
    exact FinQ.pure (rs' := [V1.c (Cell.bool true)]) (by kernel_rfl) (by simp [*]; done) (by kernel_rfl)
theorem All_tok (s : List UInt8) (hl : s.length < 4611686018427387904) : Pur Tryz.prog G 72 [.c (.str s), .c (.clo 113 0 (fun _ => none) (fun _ _ => .nilif))] [.c (.bool (s.all tokenB))] := by
  refine Pur.of Tryz.func72 (by kernel_rfl) (by kernel_rfl) (by kernel_rfl) ?_
  refine Wp.go (mx := true) (fun _ => mixed) [] 100 [] [] (by kernel_rfl) (by kernel_rfl) (by kernel_rfl) trivial ?_
  refine Wp.loopK (by kernel_rfl) (fun (k : Nat) => ⟨[(0, TV.v (V1.c (Cell.str s))), (1, TV.v (V1.c (Cell.clo 113 (0 : Nat) (fun _ => none) fun _ _ => Cell.nilif))), (7, TV.v (V1.c (Cell.int .i64 (↑s.length : Int)))), (8, TV.v (V1.c (Cell.int .i64 (k : Int))))], [], 32⟩) (fun k => k ≤ s.length ∧ s.all tokenB = (s.drop k).all tokenB) (fun k => s.length - k) 0 (Ent.of [] (by kernel_rfl) (by kernel_rfl) (by kernel_rfl) trivial) ⟨Nat.zero_le _, rfl⟩ ?_
  intro k L ⟨hk, hq⟩ again
  rcases Nat.lt_or_ge k s.length with hlt | hge
  · rw [dropS s k hlt, List.all_cons] at hq
    refine Wp.go (mx := true) (fun _ => mixed) [(4, {cs := [(4, pc (token1_ok (s.getD k (0 : UInt8))))]})] 100 [true] [decide ((↑k : Int) < (↑s.length : Int)) = true, (0 : Int) ≤ (↑k : Int) ∧ (↑k : Int) < (↑s.length : Int)] (by kernel_rfl) (by kernel_rfl) (by kernel_rfl) ⟨(by simp; omega), (show (0 : Int) ≤ (↑k : Int) ∧ (↑k : Int) < (↑s.length : Int) from (by omega))⟩ ?_
    refine Wp.cond' (by kernel_rfl) (!tokenB (s.getD k (0 : UInt8))) (by kernel_rfl) (fun h0 => ?_) (fun h0 => ?_)
    · have g0 := h0
      simp at g0
      refine Wp.go (mx := true) (fun _ => mixed) [] 100 [] [] (by kernel_rfl) (by kernel_rfl) (by kernel_rfl) trivial ?_
      refine Wp.ret' (by kernel_rfl) ?_
      exact FinQ.pure (rs' := [V1.c (Cell.bool false)]) (by kernel_rfl) (by simp_all; done) (by kernel_rfl)
    · have g0 := h0
      simp at g0
      refine Wp.go (mx := true) (fun _ => mixed) [] 100 [] [inR IntKind.i64 ((↑k : Int) + (1 : Int))] (by kernel_rfl) (by kernel_rfl) (by kernel_rfl) (inR64 (by omega) (by omega)) ?_
      exact Wp.lpK (by kernel_rfl) (again _ (k + 1) (⟨(by assumption), (by simp_all <;> omega)⟩) (by omega) (Ent.of [] (by kernel_rfl) (by kernel_rfl) (by kernel_rfl) trivial))
  · obtain rfl : k = s.length := by omega
    rw [List.drop_length] at hq
    refine Wp.go (mx := true) (fun _ => mixed) [] 100 [false] [decide ((↑s.length : Int) < (↑s.length : Int)) = false] (by kernel_rfl) (by kernel_rfl) (by kernel_rfl) ((show decide ((↑s.length : Int) < (↑s.length : Int)) = false from (by simp; done))) ?_
    refine Wp.ret' (by kernel_rfl) ?_
    exact FinQ.pure (rs' := [V1.c (Cell.bool true)]) (by kernel_rfl) (by simp [*]; done) (by kernel_rfl)
theorem All_seen (s : List UInt8) (hl : s.length < 4611686018427387904) : Pur Tryz.prog G 72 [.c (.str s), .c (.clo 84 0 (fun _ => none) (fun _ _ => .nilif))] [.c (.bool (s.all seenB))] := by
  refine Pur.of Tryz.func72 (by kernel_rfl) (by kernel_rfl) (by kernel_rfl) ?_
  refine Wp.go (mx := true) (fun _ => mixed) [] 100 [] [] (by kernel_rfl) (by kernel_rfl) (by kernel_rfl) trivial ?_
  refine Wp.loopK (by kernel_rfl) (fun (k : Nat) => ⟨[(0, TV.v (V1.c (Cell.str s))), (1, TV.v (V1.c (Cell.clo 84 (0 : Nat) (fun _ => none) fun _ _ => Cell.nilif))), (7, TV.v (V1.c (Cell.int .i64 (↑s.length : Int)))), (8, TV.v (V1.c (Cell.int .i64 (k : Int))))], [], 32⟩) (fun k => k ≤ s.length ∧ s.all seenB = (s.drop k).all seenB) (fun k => s.length - k) 0 (Ent.of [] (by kernel_rfl) (by kernel_rfl) (by kernel_rfl) trivial) ⟨Nat.zero_le _, rfl⟩ ?_
  intro k L ⟨hk, hq⟩ again
  rcases Nat.lt_or_ge k s.length with hlt | hge
  · rw [dropS s k hlt, List.all_cons] at hq
    refine Wp.go (mx := true) (fun _ => mixed) [(4, {cs := [(4, pc (seen1_ok (s.getD k (0 : UInt8))))]})] 100 [true] [decide ((↑k : Int) < (↑s.length : Int)) = true, (0 : Int) ≤ (↑k : Int) ∧ (↑k : Int) < (↑s.length : Int)] (by kernel_rfl) (by kernel_rfl) (by kernel_rfl) ⟨(by simp; omega), (show (0 : Int) ≤ (↑k : Int) ∧ (↑k : Int) < (↑s.length : Int) from (by omega))⟩ ?_
    refine Wp.cond' (by kernel_rfl) (!seenB (s.getD k (0 : UInt8))) (by kernel_rfl) (fun h0 => ?_) (fun h0 => ?_)
    · have g0 := h0
      simp at g0
      refine Wp.go (mx := true) (fun _ => mixed) [] 100 [] [] (by kernel_rfl) (by kernel_rfl) (by kernel_rfl) trivial ?_
      refine Wp.ret' (by kernel_rfl) ?_
      exact FinQ.pure (rs' := [V1.c (Cell.bool false)]) (by kernel_rfl) (by simp_all; done) (by kernel_rfl)
    · have g0 := h0
      simp at g0
      refine Wp.go (mx := true) (fun _ => mixed) [] 100 [] [inR IntKind.i64 ((↑k : Int) + (1 : Int))] (by kernel_rfl) (by kernel_rfl) (by kernel_rfl) (inR64 (by omega) (by omega)) ?_
      exact Wp.lpK (by kernel_rfl) (again _ (k + 1) (⟨(by assumption), (by simp_all <;> omega)⟩) (by omega) (Ent.of [] (by kernel_rfl) (by kernel_rfl) (by kernel_rfl) trivial))
  · obtain rfl : k = s.length := by omega
    rw [List.drop_length] at hq
    refine Wp.go (mx := true) (fun _ => mixed) [] 100 [false] [decide ((↑s.length : Int) < (↑s.length : Int)) = false] (by kernel_rfl) (by kernel_rfl) (by kernel_rfl) ((show decide ((↑s.length : Int) < (↑s.length : Int)) = false from (by simp; done))) ?_
    refine Wp.ret' (by kernel_rfl) ?_
    exact FinQ.pure (rs' := [V1.c (Cell.bool true)]) (by kernel_rfl) (by simp [*]; done) (by kernel_rfl)
def tokenT (s : List UInt8) : Bool := !(s == []) && s.all tokenB
def foldB (c : UInt8) : UInt8 := if greatB c then c + 32 else c
def foldT (s : List UInt8) : List UInt8 := s.map foldB
def foldN (s : List UInt8) (k : Nat) : List UInt8 := (s.take k).map foldB ++ s.drop k
theorem token_ok (s : List UInt8) (hl : s.length < 4611686018427387904) : Pur Tryz.prog G 100 [.c (.str s)] [.c (.bool (tokenT s))] := by
  refine Pur.of Tryz.func100 (by kernel_rfl) (by kernel_rfl) (by kernel_rfl) ?_
  refine Wp.go (mx := true) (fun _ => mixed) [(1, {cs := [(4, pc (All_tok s (by assumption)))]})] 100 [] [] (by kernel_rfl) (by kernel_rfl) (by kernel_rfl) trivial ?_
  refine Wp.ret' (by kernel_rfl) ?_
  exact FinQ.pure (rs' := [V1.c (Cell.bool (bif !s == [] then s.all tokenB else false))]) (by kernel_rfl) (by simp [tokenT]; done) (by kernel_rfl)
theorem seen_ok (s : List UInt8) (hl : s.length < 4611686018427387904) : Pur Tryz.prog G 45 [.c (.str s)] [.c (.bool (s.all seenB))] := by
  refine Pur.of Tryz.func45 (by kernel_rfl) (by kernel_rfl) (by kernel_rfl) ?_
  refine Wp.go (mx := true) (fun _ => mixed) [(1, {cs := [(1, pc (All_seen s (by assumption)))]})] 100 [] [] (by kernel_rfl) (by kernel_rfl) (by kernel_rfl) trivial ?_
  refine Wp.ret' (by kernel_rfl) ?_
  exact FinQ.pure (rs' := [V1.c (Cell.bool (s.all seenB))]) (by kernel_rfl) rfl (by kernel_rfl)
theorem foldN_len (s : List UInt8) (k : Nat) : (foldN s k).length = s.length := by
  unfold foldN; simp; omega
theorem foldN_at (s : List UInt8) (k : Nat) (h : k < s.length) : (foldN s k).getD k 0 = s.getD k 0 := by
  unfold foldN
  simp only [List.getD, List.getElem?_append]
  rw [if_neg (by simp; omega)]
  simp [Nat.min_eq_left (Nat.le_of_lt h)]
theorem foldN_succ (s : List UInt8) (k : Nat) (h : k < s.length) : foldN s (k + 1) = (foldN s k).set k (foldB (s.getD k 0)) := by
  unfold foldN
  rw [List.take_succ_eq_append_getElem h, List.map_append]
  simp [List.set_append, Nat.min_eq_left (Nat.le_of_lt h), List.getD, h]
  rw [dropS s k h, List.set_cons_zero]
theorem foldN_end (s : List UInt8) : foldN s s.length = foldT s := by simp [foldN, foldT]
theorem great_32 (c : UInt8) (h : greatB c = true) : IntKind.u8.wrap (IntKind.u8.wrap ((c.toNat : Int) - 65) + 97) = ((foldB c).toNat : Int) := by
  have : ∀ c : UInt8, (!(greatB c) || IntKind.u8.wrap (IntKind.u8.wrap ((c.toNat : Int) - 65) + 97) == ((foldB c).toNat : Int)) = true := byte_all _ (by kernel_rfl)
  have := this c
  rw [h] at this
  exact eq_of_beq this
theorem fold_ok (s : List UInt8) (hl : s.length ≤ 140737488355328) : Pur Tryz.prog G 99 [.c (.str s)] [.c (.str (foldT s))] := by
  refine Pur.of Tryz.func99 (by kernel_rfl) (by kernel_rfl) (by kernel_rfl) ?_
  refine Wp.go (mx := true) (fun _ => mixed) [] 100 [] [s.length ≤ 140737488355328] (by kernel_rfl) (by kernel_rfl) (by kernel_rfl) hl ?_
  refine Wp.loopK (by kernel_rfl) (fun (k : Nat) => ⟨[(3, TV.v (V1.c (Cell.row (1 : Nat) (32 : Nat) (0 : Nat) s.length))), (8, TV.v (V1.c (Cell.row (1 : Nat) (32 : Nat) (0 : Nat) s.length))), (9, TV.v (V1.c (Cell.int .i64 (↑s.length : Int)))), (10, TV.v (V1.c (Cell.int .i64 (k : Int))))], [(32, Blk.row 5 (1 : Nat) s.length (bytesF (foldN s k)))], 112⟩) (fun k => k ≤ s.length) (fun k => s.length - k) 0 (Ent.of [] (by kernel_rfl) (by kernel_rfl) (by kernel_rfl) trivial) (Nat.zero_le _) ?_
  intro k L hk again
  rcases Nat.lt_or_ge k s.length with hlt | hge
  · have e1 : EqvD (V1.c (Cell.int .u8 (((foldN s k).getD (0 + k) 0).toNat : Int))) (.c (.int .u8 ((s.getD k 0).toNat : Int))) := eqvD_of (by rw [Nat.zero_add, foldN_at s k hlt])
    have e2 : greatB (s.getD k 0) = true → BlkEqv (.row 5 1 s.length (rowSet (bytesF (foldN s k)) (0 + k) 0 1 [.int .u8 (IntKind.u8.wrap (IntKind.u8.wrap (((s.getD k 0).toNat : Int) - 65) + 97))])) (.row 5 1 s.length (bytesF (foldN s (k + 1)))) := fun h => by
      rw [foldN_succ s k hlt]
      exact bytes_set _ _ (great_32 _ h) (by rw [foldN_len]; exact hlt)
    have e3 : greatB (s.getD k 0) = false → foldN s k = foldN s (k + 1) := fun h => by
      rw [foldN_succ s k hlt, ← foldN_at s k hlt, foldB, foldN_at s k hlt, if_neg (by rw [h]; decide), ← foldN_at s k hlt]
      rw [List.getD_eq_getElem?_getD, List.getElem?_eq_getElem (by rw [foldN_len]; exact hlt)]
      simp
    by_cases hg : greatB (s.getD k 0) = true
    · have e2 := e2 hg
      refine Wp.go (mx := true) (fun _ => mixed) [(4, {fm := [(2, .c (.int .u8 ((s.getD k 0).toNat : Int)))]}), (6, {bs := [(6, Blk.row 5 1 s.length (bytesF (foldN s (k + 1))))]}), (5, {cs := [(1, pc (great_ok (s.getD k (0 : UInt8))))]})] 100 [true, true] [decide ((↑k : Int) < (↑s.length : Int)) = true, (0 : Int) ≤ (↑k : Int) ∧ (↑k : Int) < (↑s.length : Int), (0 : Nat) + k < s.length, EqvD (V1.c (Cell.int .u8 (↑((foldN s k).getD ((0 : Nat) + k) (0 : UInt8)).toNat : Int))) (V1.c (Cell.int .u8 (↑(s.getD k (0 : UInt8)).toNat : Int))), greatB (s.getD k (0 : UInt8)) = true, (0 : Int) ≤ (↑k : Int) ∧ (↑k : Int) < (↑s.length : Int), BlkEqv (Blk.row 5 (1 : Nat) s.length fun (i j : Nat) => if i = (0 : Nat) + k ∧ (0 : Nat) ≤ j ∧ j < (1 : Nat) then nthD (V1.c (Cell.int .u8 (IntKind.u8.wrap (IntKind.u8.wrap ((↑(s.getD k (0 : UInt8)).toNat : Int) - (65 : Int)) + (97 : Int))))).cells (j - (0 : Nat)) else Cell.int .u8 (↑((foldN s k).getD i (0 : UInt8)).toNat : Int)) (Blk.row 5 (1 : Nat) s.length (bytesF (foldN s (k + (1 : Nat))))), (0 : Nat) + k < s.length, inR IntKind.i64 ((↑k : Int) + (1 : Int))] (by kernel_rfl) (by kernel_rfl) (by kernel_rfl) ⟨(by simp; omega), (by omega), (by omega), (by assumption), (by assumption), (by omega), (by assumption), (by omega), inR64 (by omega) (by omega)⟩ ?_
      exact Wp.lpK (by kernel_rfl) (again _ (k + 1) (by assumption) (by omega) (Ent.of [] (by kernel_rfl) (by kernel_rfl) (by kernel_rfl) trivial))
    · have hg : greatB (s.getD k 0) = false := by simpa using hg
      rw [e3 hg] at e1 ⊢
      refine Wp.go (mx := true) (fun _ => mixed) [(4, {fm := [(2, .c (.int .u8 ((s.getD k 0).toNat : Int)))]}), (5, {cs := [(1, pc (great_ok (s.getD k (0 : UInt8))))]})] 100 [true, false] [decide ((↑k : Int) < (↑s.length : Int)) = true, (0 : Int) ≤ (↑k : Int) ∧ (↑k : Int) < (↑s.length : Int), (0 : Nat) + k < s.length, EqvD (V1.c (Cell.int .u8 (↑((foldN s (k + (1 : Nat))).getD ((0 : Nat) + k) (0 : UInt8)).toNat : Int))) (V1.c (Cell.int .u8 (↑(s.getD k (0 : UInt8)).toNat : Int))), greatB (s.getD k (0 : UInt8)) = false, inR IntKind.i64 ((↑k : Int) + (1 : Int))] (by kernel_rfl) (by kernel_rfl) (by kernel_rfl) ⟨(by simp; omega), (by omega), (by omega), (by assumption), (by assumption), inR64 (by omega) (by omega)⟩ ?_
      exact Wp.lpK (by kernel_rfl) (again _ (k + 1) (by assumption) (by omega) (Ent.of [] (by kernel_rfl) (by kernel_rfl) (by kernel_rfl) trivial))
  · obtain rfl : k = s.length := by omega
    have ee : byteL (bytesF (foldN s s.length)) 0 s.length = foldT s := by rw [byteL_F _ (by rw [foldN_len]), foldN_end]
    refine Wp.go (mx := true) (fun _ => mixed) [] 100 [false] [decide ((↑s.length : Int) < (↑s.length : Int)) = false, (0 : Nat) + s.length ≤ s.length, areBytes (bytesF (foldN s s.length)) (0 : Nat) s.length] (by kernel_rfl) (by kernel_rfl) (by kernel_rfl) ⟨(by simp; done), (by omega), areBytes_F _ _ _⟩ ?_
    refine Wp.ret' (by kernel_rfl) ?_
    exact FinQ.pure (rs' := [V1.c (Cell.str (byteL (bytesF (foldN s s.length)) (0 : Nat) s.length))]) (by kernel_rfl) (by simp [*]; done) (by kernel_rfl)
theorem occ_at (s sep : List UInt8) (k : Nat) (hk : k + sep.length ≤ s.length) : Lib.occAt s sep k = (List.drop k (List.take (k + sep.length) s) == sep) := by
  rw [Lib.occAt_iff_take s sep k hk, List.take_drop]
theorem occ_none {s sep : List UInt8} (hs : sep ≠ []) {k : Nat} (hk : ¬ (k + sep.length ≤ s.length)) (hall : ∀ j, j < k → Lib.occAt s sep j = false) : Lib.index s sep = -1 := by
  refine Lib.index_none fun j hj => ?_
  rcases Nat.lt_or_ge j k with h | h
  · exact hall j h
  · cases hq : Lib.occAt s sep j with
    | false => rfl
    | true =>
      rcases Lib.occAt_room hq with h' | h'
      · omega
      · exact (hs h').elim
theorem cut6_ok (s sep : List UInt8) (hl : s.length < 4611686018427387904) (hs : sep ≠ []) (hn : sep.length < 1000) : Pur Tryz.prog G 63 [.c (.str s), .c (.str sep)] [.c (.str (Lib.cut s sep).1), .c (.str (Lib.cut s sep).2.1), .c (.bool (Lib.cut s sep).2.2)] := by
  refine Pur.of Tryz.func63 (by kernel_rfl) (by kernel_rfl) (by kernel_rfl) ?_
  refine Wp.go (mx := true) (fun _ => mixed) [] 100 [] [] (by kernel_rfl) (by kernel_rfl) (by kernel_rfl) trivial ?_
  refine Wp.loopK (by kernel_rfl) (fun (k : Nat) => ⟨[(0, TV.v (V1.c (Cell.str s))), (1, TV.v (V1.c (Cell.str sep))), (7, TV.v (V1.c (Cell.int .i64 (k : Int))))], [], 64⟩) (fun k => k ≤ s.length ∧ ∀ j, j < k → Lib.occAt s sep j = false) (fun k => s.length - k) 0 (Ent.of [] (by kernel_rfl) (by kernel_rfl) (by kernel_rfl) trivial) ⟨Nat.zero_le _, fun _ h => absurd h (Nat.not_lt_zero _)⟩ ?_
  intro k L ⟨hk, hall⟩ again
  have hp : 0 < sep.length := List.length_pos_iff.2 hs
  by_cases hlt : k + sep.length ≤ s.length
  · have ho := occ_at s sep k hlt
    cases hq : Lib.occAt s sep k with
    | true =>
      have hi := Lib.index_first hk hq hall
      have hc : Lib.cut s sep = (s.take k, s.drop (k + sep.length), true) := by
        unfold Lib.cut; rw [hi]; simp
      rw [hc]
      rw [hq] at ho
      have ho := ho.symm
      refine Wp.go (mx := true) (fun _ => mixed) [] 100 [true, true] [inR IntKind.i64 ((↑k : Int) + (↑sep.length : Int)), decide ((↑k : Int) + (↑sep.length : Int) ≤ (↑s.length : Int)) = true, inR IntKind.i64 ((↑k : Int) + (↑sep.length : Int)), (0 : Int) ≤ Int.ofNat k ∧ Int.ofNat k ≤ Int.ofNat (k + sep.length) ∧ Int.ofNat (k + sep.length) ≤ (↑s.length : Int), (List.drop (Int.ofNat k).toNat (List.take (Int.ofNat (k + sep.length)).toNat s) == sep) = true, (0 : Int) ≤ Int.ofNat (0) ∧ Int.ofNat (0) ≤ Int.ofNat k ∧ Int.ofNat k ≤ (↑s.length : Int), inR IntKind.i64 ((↑k : Int) + (↑sep.length : Int)), (0 : Int) ≤ Int.ofNat (k + sep.length) ∧ Int.ofNat (k + sep.length) ≤ Int.ofNat s.length ∧ Int.ofNat s.length ≤ (↑s.length : Int)] (by kernel_rfl) (by kernel_rfl) (by kernel_rfl) ⟨inR64 (by omega) (by omega), (by simp; omega), inR64 (by omega) (by omega), ⟨(by simp; done), ⟨(by simp; omega), (by simp; omega)⟩⟩, (by assumption), ⟨(by decide), ⟨(by simp; done), (by simp; omega)⟩⟩, inR64 (by omega) (by omega), ⟨(by simp; omega), ⟨(by simp; omega), (by simp; done)⟩⟩⟩ ?_
      refine Wp.ret' (by kernel_rfl) ?_
      exact FinQ.pure (rs' := [V1.c (Cell.str (List.drop (0 : Nat) (List.take (Int.ofNat k).toNat s))), V1.c (Cell.str (List.drop (Int.ofNat (k + sep.length)).toNat (List.take (Int.ofNat s.length).toNat s))), V1.c (Cell.bool true)]) (by kernel_rfl) (by simp only [Int.ofNat_eq_natCast, Int.toNat_natCast, List.take_length, List.drop_zero]) (by kernel_rfl)
    | false =>
      have hall' := up1 hall hq
      rw [hq] at ho
      have ho := ho.symm
      refine Wp.go (mx := true) (fun _ => mixed) [] 100 [true, false] [inR IntKind.i64 ((↑k : Int) + (↑sep.length : Int)), decide ((↑k : Int) + (↑sep.length : Int) ≤ (↑s.length : Int)) = true, inR IntKind.i64 ((↑k : Int) + (↑sep.length : Int)), (0 : Int) ≤ Int.ofNat k ∧ Int.ofNat k ≤ Int.ofNat (k + sep.length) ∧ Int.ofNat (k + sep.length) ≤ (↑s.length : Int), (List.drop (Int.ofNat k).toNat (List.take (Int.ofNat (k + sep.length)).toNat s) == sep) = false, inR IntKind.i64 ((↑k : Int) + (1 : Int))] (by kernel_rfl) (by kernel_rfl) (by kernel_rfl) ⟨inR64 (by omega) (by omega), (by simp; omega), inR64 (by omega) (by omega), ⟨(by simp; done), ⟨(by simp; omega), (by simp; omega)⟩⟩, (by assumption), inR64 (by omega) (by omega)⟩ ?_
      exact Wp.lpK (by kernel_rfl) (again _ (k + 1) (⟨(by omega), (by assumption)⟩) (by omega) (Ent.of [] (by kernel_rfl) (by kernel_rfl) (by kernel_rfl) trivial))
  · have hi := occ_none hs hlt hall
    have hc : Lib.cut s sep = (s, [], false) := by
      unfold Lib.cut; rw [hi]; rfl
    rw [hc]
    refine Wp.go (mx := true) (fun _ => mixed) [] 100 [false] [inR IntKind.i64 ((↑k : Int) + (↑sep.length : Int)), decide ((↑k : Int) + (↑sep.length : Int) ≤ (↑s.length : Int)) = false] (by kernel_rfl) (by kernel_rfl) (by kernel_rfl) ⟨inR64 (by omega) (by omega), (show decide ((↑k : Int) + (↑sep.length : Int) ≤ (↑s.length : Int)) = false from (by simp; omega))⟩ ?_
    refine Wp.ret' (by kernel_rfl) ?_
    exact FinQ.pure (rs' := [V1.c (Cell.str s), V1.c (Cell.str []), V1.c (Cell.bool false)]) (by kernel_rfl) rfl (by kernel_rfl)
end Go.Proofs.Tw
end

section
open Go Go.Sv
namespace Go.Proofs.Tw
attribute [local irreducible] Wp FinQ resV Ent Pur Go.Sv.Fn Sat0
set_option maxRecDepth 100000
set_option maxHeartbeats 4000000
variable {G : Nat → Option (List Cell)}

def fldF (l : List FT) : Nat → Nat → Cell := rowF encF .nil l
def fGet (l : List FT) (n : List UInt8) : Option (List UInt8) := (l.find? fun f => f.name == n).map (·.value)
theorem fGet_nil (n : List UInt8) : fGet [] n = none := rfl
theorem fGet_cons (x : FT) (l : List FT) (n : List UInt8) : fGet (x :: l) n = if x.name == n then some x.value else fGet l n := by
  unfold fGet
  rw [List.find?_cons]
  cases x.name == n <;> rfl
theorem drop_cons {α : Type} (l : List α) (k : Nat) (d : α) (h : k < l.length) : l.drop k = l.getD k d :: l.drop (k + 1) := by
  rw [List.getD_eq_getElem?_getD, List.getElem?_eq_getElem h]; exact List.drop_eq_getElem_cons h
theorem get10_ok (l : List FT) (n : List UInt8) (hl : l.length < 4611686018427387904) : Pur Tryz.prog G 80 [.c (.sl 2 l.length (fldF l)), .c (.str n)] [.c (.str ((fGet l n).getD [])), .c (.bool (fGet l n).isSome)] := by
  refine Pur.of Tryz.func80 (by kernel_rfl) (by kernel_rfl) (by kernel_rfl) ?_
  refine Wp.go (mx := true) (fun _ => mixed) [] 100 [] [] (by kernel_rfl) (by kernel_rfl) (by kernel_rfl) trivial ?_
  refine Wp.loopK (by kernel_rfl) (fun (k : Nat) => ⟨[(0, TV.v (V1.c (Cell.sl (2 : Nat) l.length (fldF l)))), (1, TV.v (V1.c (Cell.str n))), (6, .v (.c (.int .i64 (k : Int))))], [], 48⟩) (fun k => k ≤ l.length ∧ fGet l n = fGet (l.drop k) n) (fun k => l.length - k) 0 (Ent.of [] (by kernel_rfl) (by kernel_rfl) (by kernel_rfl) trivial) ⟨Nat.zero_le _, rfl⟩ ?_
  intro k L ⟨hk, hq⟩ again
  rcases Nat.lt_or_ge k l.length with hlt | hge
  · rw [drop_cons l k ⟨[], []⟩ hlt, fGet_cons] at hq
    refine Wp.go (mx := true) (fun _ => mixed) [] 100 [true] [decide ((↑k : Int) < (↑l.length : Int)) = true, (0 : Int) ≤ (↑k : Int) ∧ (↑k : Int) < (↑l.length : Int)] (by kernel_rfl) (by kernel_rfl) (by kernel_rfl) ⟨(by simp; omega), (show (0 : Int) ≤ (↑k : Int) ∧ (↑k : Int) < (↑l.length : Int) from (by omega))⟩ ?_
    refine Wp.cond' (by kernel_rfl) ((l.getD (↑k : Int).toNat FT.nil).name == n) (by kernel_rfl) (fun h0 => ?_) (fun h0 => ?_)
    · have g0 := eq_of_beq h0
      refine Wp.go (mx := true) (fun _ => mixed) [] 100 [] [(0 : Int) ≤ (↑k : Int) ∧ (↑k : Int) < (↑l.length : Int)] (by kernel_rfl) (by kernel_rfl) (by kernel_rfl) ((show (0 : Int) ≤ (↑k : Int) ∧ (↑k : Int) < (↑l.length : Int) from (by omega))) ?_
      refine Wp.ret' (by kernel_rfl) ?_
      exact FinQ.pure (rs' := [V1.c (Cell.str (l.getD (↑k : Int).toNat FT.nil).value), V1.c (Cell.bool true)]) (by kernel_rfl) (by simp_all [fGet]; done) (by kernel_rfl)
    · have g0 := ne_of_beq_false h0
      refine Wp.go (mx := true) (fun _ => mixed) [] 100 [] [inR IntKind.i64 ((↑k : Int) + (1 : Int))] (by kernel_rfl) (by kernel_rfl) (by kernel_rfl) (inR64 (by omega) (by omega)) ?_
      exact Wp.lpK (by kernel_rfl) (again _ (k + 1) (⟨(by assumption), (by simp_all <;> omega)⟩) (by omega) (Ent.of [] (by kernel_rfl) (by kernel_rfl) (by kernel_rfl) trivial))
  · obtain rfl : k = l.length := by omega
    rw [List.drop_length, fGet_nil] at hq
    refine Wp.go (mx := true) (fun _ => mixed) [] 100 [false] [decide ((↑l.length : Int) < (↑l.length : Int)) = false] (by kernel_rfl) (by kernel_rfl) (by kernel_rfl) ((show decide ((↑l.length : Int) < (↑l.length : Int)) = false from (by simp; done))) ?_
    refine Wp.ret' (by kernel_rfl) ?_
    exact FinQ.pure (rs' := [V1.c (Cell.str []), V1.c (Cell.bool false)]) (by kernel_rfl) (by simp [hq]; done) (by kernel_rfl)
theorem has10_ok (l : List FT) (n : List UInt8) (hl : l.length < 4611686018427387904) : Pur Tryz.prog G 78 [.c (.sl 2 l.length (fldF l)), .c (.str n)] [.c (.bool (fGet l n).isSome)] := by
  refine Pur.of Tryz.func78 (by kernel_rfl) (by kernel_rfl) (by kernel_rfl) ?_
  refine Wp.go (mx := true) (fun _ => mixed) [(1, {cs := [(2, pc (get10_ok l n (by assumption)))]})] 100 [] [] (by kernel_rfl) (by kernel_rfl) (by kernel_rfl) trivial ?_
  refine Wp.ret' (by kernel_rfl) ?_
  exact FinQ.pure (rs' := [V1.c (Cell.bool (fGet l n).isSome)]) (by kernel_rfl) rfl (by kernel_rfl)
def names10 : List (List UInt8) := [[97], [98], [99, 111, 100, 101], [115, 116, 97, 116, 101], [120, 32, 121], [195, 169], [61], [38], [126]]
def vals10 : List (List UInt8) := [[], [49], [97, 32, 98], [126, 65, 103, 65, 65, 65, 65, 69, 126], [37], [43], [0], [104, 116, 116, 112, 115, 58, 47, 47, 99, 49, 47, 99, 98]]
def pickT (ss : List (List UInt8)) (ns : List Int) (a : Nat) : List UInt8 := ss.getD (nextV ns a ss.length).toNat []
/-- The fields that a tape gives. -/
def fldsN (ns : List Int) : Nat → Nat → List FT → List FT
  | 0, _, l => l
  | k + 1, a, l => if a < ns.length then fldsN ns k (nextA ns (nextA ns a 9) 8) (if (fGet l (pickT names10 ns a)).isSome then l else l ++ [⟨pickT names10 ns a, pickT vals10 ns (nextA ns a 9)⟩]) else l
def fldsT (ns : List Int) (m : Nat) : List FT := fldsN ns m 0 []
theorem strs_lit (l : List (List UInt8)) {cs : List Cell} (hc : cs = l.map Cell.str) {n : Nat} (hn : n = l.length) : EqvD (.c (.sl 1 n (fun i j => nthD cs (i * 1 + j)))) (.c (.sl 1 l.length (strsF l))) := by
  subst hc hn
  refine EqvD.sl rfl fun i hi j hj => ?_
  obtain rfl : j = 0 := by omega
  simp [strsF, nthD, nth_eq, List.getD, hi]
theorem has10_n (l : List FT) (n : Nat) (s : List UInt8) (hn : n = l.length) (hl : n < 4611686018427387904) : Pur Tryz.prog G 78 [.c (.sl 2 n (fldF l)), .c (.str s)] [.c (.bool (fGet l s).isSome)] := by
  subst hn
  exact has10_ok l s hl
theorem flds_ok (ns : List Int) (m : Nat) (hl : ns.length ≤ 9223372036854775807) (hm : m < 1000) : Pur Tryz.prog G 50 [.c (.sl 1 ns.length (intsF ns)), .c (.int .i64 (m : Int))] [.c (.sl 2 (fldsT ns m).length (fldF (fldsT ns m)))] := by
  refine Pur.of Tryz.func50 (by kernel_rfl) (by kernel_rfl) (by kernel_rfl) ?_
  refine Wp.go (mx := true) (fun _ => mixed) [] 100 [] [] (by kernel_rfl) (by kernel_rfl) (by kernel_rfl) trivial ?_
  refine Wp.loopK (by kernel_rfl) (fun (x : Nat × Nat × Nat × List FT) => ⟨[(1, .v (.c (.int .i64 (m : Int)))), (5, .v (.c (.ptr 48 0))), (6, .v (.c (.row 2 112 0 x.2.2.1))), (7, .v (.c (.int .i64 (x.1 : Int))))], [(48, tapeB ns x.2.1), (112, .row 40 2 x.2.2.1 (fldF x.2.2.2))], 128⟩)
    (fun x => x.1 ≤ m ∧ x.2.2.1 = x.2.2.2.length ∧ x.2.2.1 ≤ x.1 ∧ fldsT ns m = fldsN ns (m - x.1) x.2.1 x.2.2.2) (fun x => m - x.1) (0, 0, 0, []) (Ent.trans (Ent.empT (t := 6) (sz := 2) (e := 40) (f := fldF []) (by decide) (by kernel_rfl) rfl) (Ent.of [] (by kernel_rfl) (by kernel_rfl) (by kernel_rfl) trivial)) ⟨Nat.zero_le _, rfl, Nat.le_refl _, rfl⟩ ?_
  rintro ⟨i, a, n, l⟩ L ⟨hi, hn, hll, hq⟩ again
  simp only at hi hn hll hq
  have hz : m - i = 0 → fldsT ns m = l := fun h => by rw [hq, h]; rfl
  have hs : i < m → fldsT ns m = (if a < ns.length then fldsN ns (m - i - 1) (nextA ns (nextA ns a 9) 8) (if (fGet l (pickT names10 ns a)).isSome then l else l ++ [⟨pickT names10 ns a, pickT vals10 ns (nextA ns a 9)⟩]) else l) := fun h => by
    rw [hq, show m - i = (m - i - 1) + 1 from by omega]; rfl
  rcases Nat.lt_or_ge i m with him | him
  · have hs := hs him
    have hm1 : m - (i + 1) = m - i - 1 := by omega
    by_cases ha : a < ns.length
    · rw [if_pos ha] at hs
      have e1 : EqvD (.c (.sl 1 9 (fun i j => nthD [Cell.str [97], Cell.str [98], Cell.str [99, 111, 100, 101], Cell.str [115, 116, 97, 116, 101], Cell.str [120, 32, 121], Cell.str [195, 169], Cell.str [61], Cell.str [38], Cell.str [126]] (i * 1 + j)))) (.c (.sl 1 names10.length (strsF names10))) := strs_lit names10 rfl rfl
      have e2 : EqvD (.c (.sl 1 8 (fun i j => nthD [Cell.str [], Cell.str [49], Cell.str [97, 32, 98], Cell.str [126, 65, 103, 65, 65, 65, 65, 69, 126], Cell.str [37], Cell.str [43], Cell.str [0], Cell.str [104, 116, 116, 112, 115, 58, 47, 47, 99, 49, 47, 99, 98]] (i * 1 + j)))) (.c (.sl 1 vals10.length (strsF vals10))) := strs_lit vals10 rfl rfl
      cases hg : (fGet l (pickT names10 ns a)).isSome with
      | true =>
        rw [hg, if_pos rfl, ← hm1] at hs
        have hb : (!(fGet l (pickT names10 ns a)).isSome) = false := by rw [hg]; rfl
        clear hz hq hg
        refine Wp.go (mx := true) (fun _ => mixed) [(6, {cs := [(2, cb [48] (pick_ok names10 ns a (by assumption) (by decide))), (5, cb [48] (pick_ok vals10 ns (nextA ns a (↑names10.length : Int)) (by assumption) (by decide)))], fm := [(1, .c (.sl 1 names10.length (strsF names10))), (4, .c (.sl 1 vals10.length (strsF vals10)))]}), (8, {bs := [(3, Blk.row 40 2 (n + 1) (fldF (l ++ [⟨pickT names10 ns a, pickT vals10 ns (nextA ns a 9)⟩])))]}), (4, {grd := [(4, true), (5, true)], cs := [(5, cb [48] (more1_ok ns a))]}), (7, {cs := [(3, lc [112] [Blk.row 40 (2 : Nat) n (fldF l)] [V1.c (Cell.row (2 : Nat) (0 : Nat) (0 : Nat) n), V1.c (Cell.str (names10.getD (nextV ns a (↑names10.length : Int)).toNat []))] (has10_n l n (names10.getD (nextV ns a (↑names10.length : Int)).toNat []) (by assumption) (by omega)) (by kernel_rfl) (by kernel_rfl) (by kernel_rfl) ((show (0 : Nat) + n ≤ n from (by omega))))]})] 100 [true, false] [decide ((↑i : Int) < (↑m : Int)) = true, decide ((↑i : Int) < (↑m : Int)) = true, (bif decide ((↑i : Int) < (↑m : Int)) then decide (a < ns.length) else false) = true, EqvI (V1.c (Cell.sl (1 : Nat) (9 : Nat) fun (i j : Nat) => nthD [Cell.str [(97 : UInt8)], Cell.str [(98 : UInt8)], Cell.str [(99 : UInt8), 111, 100, 101], Cell.str [(115 : UInt8), 116, 97, 116, 101], Cell.str [(120 : UInt8), 32, 121], Cell.str [(195 : UInt8), 169], Cell.str [(61 : UInt8)], Cell.str [(38 : UInt8)], Cell.str [(126 : UInt8)]] (i * (1 : Nat) + j))) (V1.c (Cell.sl (1 : Nat) names10.length (strsF names10))), EqvD (V1.c (Cell.sl (1 : Nat) (9 : Nat) fun (i j : Nat) => nthD [Cell.str [(97 : UInt8)], Cell.str [(98 : UInt8)], Cell.str [(99 : UInt8), 111, 100, 101], Cell.str [(115 : UInt8), 116, 97, 116, 101], Cell.str [(120 : UInt8), 32, 121], Cell.str [(195 : UInt8), 169], Cell.str [(61 : UInt8)], Cell.str [(38 : UInt8)], Cell.str [(126 : UInt8)]] (i * (1 : Nat) + j))) (V1.c (Cell.sl (1 : Nat) names10.length (strsF names10))), EqvI (V1.c (Cell.sl (1 : Nat) (8 : Nat) fun (i j : Nat) => nthD [Cell.str [], Cell.str [(49 : UInt8)], Cell.str [(97 : UInt8), 32, 98], Cell.str [(126 : UInt8), 65, 103, 65, 65, 65, 65, 69, 126], Cell.str [(37 : UInt8)], Cell.str [(43 : UInt8)], Cell.str [(0 : UInt8)], Cell.str [(104 : UInt8), 116, 116, 112, 115, 58, 47, 47, 99, 49, 47, 99, 98]] (i * (1 : Nat) + j))) (V1.c (Cell.sl (1 : Nat) vals10.length (strsF vals10))), EqvD (V1.c (Cell.sl (1 : Nat) (8 : Nat) fun (i j : Nat) => nthD [Cell.str [], Cell.str [(49 : UInt8)], Cell.str [(97 : UInt8), 32, 98], Cell.str [(126 : UInt8), 65, 103, 65, 65, 65, 65, 69, 126], Cell.str [(37 : UInt8)], Cell.str [(43 : UInt8)], Cell.str [(0 : UInt8)], Cell.str [(104 : UInt8), 116, 116, 112, 115, 58, 47, 47, 99, 49, 47, 99, 98]] (i * (1 : Nat) + j))) (V1.c (Cell.sl (1 : Nat) vals10.length (strsF vals10))), (!(fGet l (names10.getD (nextV ns a (↑names10.length : Int)).toNat [])).isSome) = false, inR IntKind.i64 ((↑i : Int) + (1 : Int))] (by kernel_rfl) (by kernel_rfl) (by kernel_rfl) ⟨(by simp; omega), (by simp; omega), (by simp; omega), fun _ _ => trivial, (by assumption), fun _ _ => trivial, (by assumption), (by assumption), inR64 (by omega) (by omega)⟩ ?_
        exact Wp.lpK (by kernel_rfl) (again _ ((i + 1, nextA ns (nextA ns a 9) 8, n, l)) (⟨(by assumption), ⟨(by assumption), ⟨(by simp; omega), (by assumption)⟩⟩⟩) (by omega) (Ent.of [] (by kernel_rfl) (by kernel_rfl) (by kernel_rfl) trivial))
      | false =>
        rw [hg, if_neg (by decide), ← hm1] at hs
        have hb : (!(fGet l (pickT names10 ns a)).isSome) = true := by rw [hg]; rfl
        have e3 : BlkEqv (.row 40 2 (n + 1) (catF n (fldF l) (fun i j => nthD (encF ⟨pickT names10 ns a, pickT vals10 ns (nextA ns a 9)⟩) ((0 + i) * 2 + j)))) (.row 40 2 (n + 1) (fldF (l ++ [⟨pickT names10 ns a, pickT vals10 ns (nextA ns a 9)⟩]))) := enc_app l _ hn
        clear hz hq hg
        refine Wp.go (mx := true) (fun _ => mixed) [(6, {cs := [(2, cb [48] (pick_ok names10 ns a (by assumption) (by decide))), (5, cb [48] (pick_ok vals10 ns (nextA ns a (↑names10.length : Int)) (by assumption) (by decide)))], fm := [(1, .c (.sl 1 names10.length (strsF names10))), (4, .c (.sl 1 vals10.length (strsF vals10)))]}), (8, {bs := [(3, Blk.row 40 2 (n + 1) (fldF (l ++ [⟨pickT names10 ns a, pickT vals10 ns (nextA ns a 9)⟩])))]}), (4, {grd := [(4, true), (5, true)], cs := [(5, cb [48] (more1_ok ns a))]}), (7, {cs := [(3, lc [112] [Blk.row 40 (2 : Nat) n (fldF l)] [V1.c (Cell.row (2 : Nat) (0 : Nat) (0 : Nat) n), V1.c (Cell.str (names10.getD (nextV ns a (↑names10.length : Int)).toNat []))] (has10_n l n (names10.getD (nextV ns a (↑names10.length : Int)).toNat []) (by assumption) (by omega)) (by kernel_rfl) (by kernel_rfl) (by kernel_rfl) ((show (0 : Nat) + n ≤ n from (by omega))))]})] 100 [true, true] [decide ((↑i : Int) < (↑m : Int)) = true, decide ((↑i : Int) < (↑m : Int)) = true, (bif decide ((↑i : Int) < (↑m : Int)) then decide (a < ns.length) else false) = true, EqvI (V1.c (Cell.sl (1 : Nat) (9 : Nat) fun (i j : Nat) => nthD [Cell.str [(97 : UInt8)], Cell.str [(98 : UInt8)], Cell.str [(99 : UInt8), 111, 100, 101], Cell.str [(115 : UInt8), 116, 97, 116, 101], Cell.str [(120 : UInt8), 32, 121], Cell.str [(195 : UInt8), 169], Cell.str [(61 : UInt8)], Cell.str [(38 : UInt8)], Cell.str [(126 : UInt8)]] (i * (1 : Nat) + j))) (V1.c (Cell.sl (1 : Nat) names10.length (strsF names10))), EqvD (V1.c (Cell.sl (1 : Nat) (9 : Nat) fun (i j : Nat) => nthD [Cell.str [(97 : UInt8)], Cell.str [(98 : UInt8)], Cell.str [(99 : UInt8), 111, 100, 101], Cell.str [(115 : UInt8), 116, 97, 116, 101], Cell.str [(120 : UInt8), 32, 121], Cell.str [(195 : UInt8), 169], Cell.str [(61 : UInt8)], Cell.str [(38 : UInt8)], Cell.str [(126 : UInt8)]] (i * (1 : Nat) + j))) (V1.c (Cell.sl (1 : Nat) names10.length (strsF names10))), EqvI (V1.c (Cell.sl (1 : Nat) (8 : Nat) fun (i j : Nat) => nthD [Cell.str [], Cell.str [(49 : UInt8)], Cell.str [(97 : UInt8), 32, 98], Cell.str [(126 : UInt8), 65, 103, 65, 65, 65, 65, 69, 126], Cell.str [(37 : UInt8)], Cell.str [(43 : UInt8)], Cell.str [(0 : UInt8)], Cell.str [(104 : UInt8), 116, 116, 112, 115, 58, 47, 47, 99, 49, 47, 99, 98]] (i * (1 : Nat) + j))) (V1.c (Cell.sl (1 : Nat) vals10.length (strsF vals10))), EqvD (V1.c (Cell.sl (1 : Nat) (8 : Nat) fun (i j : Nat) => nthD [Cell.str [], Cell.str [(49 : UInt8)], Cell.str [(97 : UInt8), 32, 98], Cell.str [(126 : UInt8), 65, 103, 65, 65, 65, 65, 69, 126], Cell.str [(37 : UInt8)], Cell.str [(43 : UInt8)], Cell.str [(0 : UInt8)], Cell.str [(104 : UInt8), 116, 116, 112, 115, 58, 47, 47, 99, 49, 47, 99, 98]] (i * (1 : Nat) + j))) (V1.c (Cell.sl (1 : Nat) vals10.length (strsF vals10))), (!(fGet l (names10.getD (nextV ns a (↑names10.length : Int)).toNat [])).isSome) = true, (n + (1 : Nat)) * (32 : Nat) ≤ (140737488355328 : Nat), BlkEqv (Blk.row 40 (2 : Nat) (n + (1 : Nat)) (catF n (fldF l) fun (i j : Nat) => nthD [Cell.str (names10.getD (nextV ns a (↑names10.length : Int)).toNat []), Cell.str (vals10.getD (nextV ns (nextA ns a (↑names10.length : Int)) (↑vals10.length : Int)).toNat [])] (((0 : Nat) + i) * (2 : Nat) + j))) (Blk.row 40 (2 : Nat) (n + (1 : Nat)) (fldF (l ++ [{ name := pickT names10 ns a, value := pickT vals10 ns (nextA ns a (9 : Int)) }]))), n ≤ n, (0 : Nat) + (1 : Nat) ≤ (1 : Nat), inR IntKind.i64 ((↑i : Int) + (1 : Int))] (by kernel_rfl) (by kernel_rfl) (by kernel_rfl) ⟨(by simp; omega), (by simp; omega), (by simp; omega), fun _ _ => trivial, (by assumption), fun _ _ => trivial, (by assumption), (by assumption), (by omega), (by assumption), (by omega), (by omega), inR64 (by omega) (by omega)⟩ ?_
        exact Wp.lpK (by kernel_rfl) (again _ ((i + 1, nextA ns (nextA ns a 9) 8, n + 1, l ++ [⟨pickT names10 ns a, pickT vals10 ns (nextA ns a 9)⟩])) (⟨(by assumption), ⟨(by simp; omega), ⟨(by simp; omega), (by assumption)⟩⟩⟩) (by omega) (Ent.of [(112, 512)] (by kernel_rfl) (by kernel_rfl) (by kernel_rfl) trivial))
    · rw [if_neg ha] at hs
      refine Wp.ent' (by kernel_rfl) (Ent.pubT (e := 40) (sz := 2) (id := 112) (t := 6) (off := 0) (m := n) (n := n) (f := (fldF l)) (m' := (fldsT ns m).length) (f' := (fldF (fldsT ns m))) (by kernel_rfl) (by kernel_rfl) (by omega) (by rw [hs]; exact hn) (fun i _ j _ => by rw [hs, Nat.zero_add]) rfl) ?_
      refine Wp.go (mx := true) (fun _ => mixed) [(4, {grd := [(4, true), (5, true)], cs := [(5, cb [48] (more1_ok ns a))]})] 100 [false] [decide ((↑i : Int) < (↑m : Int)) = true, decide ((↑i : Int) < (↑m : Int)) = true, (bif decide ((↑i : Int) < (↑m : Int)) then decide (a < ns.length) else false) = false] (by kernel_rfl) (by kernel_rfl) (by kernel_rfl) ⟨(by simp; omega), (by simp; omega), (show (bif decide ((↑i : Int) < (↑m : Int)) then decide (a < ns.length) else false) = false from (by simp; omega))⟩ ?_
      refine Wp.ret' (by kernel_rfl) ?_
      exact FinQ.pure (rs' := [V1.c (Cell.sl (2 : Nat) (fldsT ns m).length (fldF (fldsT ns m)))]) (by kernel_rfl) rfl (by kernel_rfl)
  · have hs := hz (by omega)
    refine Wp.ent' (by kernel_rfl) (Ent.pubT (e := 40) (sz := 2) (id := 112) (t := 6) (off := 0) (m := n) (n := n) (f := (fldF l)) (m' := (fldsT ns m).length) (f' := (fldF (fldsT ns m))) (by kernel_rfl) (by kernel_rfl) (by omega) (by rw [hs]; exact hn) (fun i _ j _ => by rw [hs, Nat.zero_add]) rfl) ?_
    refine Wp.go (mx := true) (fun _ => mixed) [(4, {grd := [(4, false), (5, false), (6, false)], cs := [(5, cb [48] (more1_ok ns a))]})] 100 [false] [decide ((↑i : Int) < (↑m : Int)) = !true, decide ((↑i : Int) < (↑m : Int)) = !true, decide ((↑i : Int) < (↑m : Int)) = false, false = false] (by kernel_rfl) (by kernel_rfl) (by kernel_rfl) ⟨(by simp; omega), (by simp; omega), (by simp; omega), rfl⟩ ?_
    refine Wp.ret' (by kernel_rfl) ?_
    exact FinQ.pure (rs' := [V1.c (Cell.sl (2 : Nat) (fldsT ns m).length (fldF (fldsT ns m)))]) (by kernel_rfl) rfl (by kernel_rfl)
end Go.Proofs.Tw
end

section
open Go Go.Sv
namespace Go.Proofs.Tw
attribute [local irreducible] Wp FinQ resV Ent Pur Go.Sv.Fn Sat0
set_option maxRecDepth 100000
set_option maxHeartbeats 4000000
variable {G : Nat → Option (List Cell)}

/-- An address. -/
structure UT where
  (host path : List UInt8) (query : List FT)
def encU (u : UT) : List Cell := [.str u.host, .str u.path, encH u.query]
theorem flds_i (ns : List Int) (k : Int) (hl : ns.length ≤ 9223372036854775807) (h0 : 0 ≤ k) (hm : k < 1000) : Pur Tryz.prog G 50 [.c (.sl 1 ns.length (intsF ns)), .c (.int .i64 k)] [.c (encH (fldsT ns k.toNat))] := by
  obtain ⟨m, rfl⟩ := Int.eq_ofNat_of_zero_le h0
  exact flds_ok ns m hl (by omega)
def hostsU : List (List UInt8) := [[97, 115], [99, 49], [99, 50], [114, 115], [97, 116], [97, 45, 49, 46, 98], [48]]
def pathsU : List (List UInt8) := [[47], [47, 99, 98], [47, 115, 116, 97, 114, 116], [47, 97, 117, 116, 104, 111, 114, 105, 122, 101], [47, 97, 47, 98, 47, 47], [47, 126, 120, 95, 49, 46, 50, 45, 51]]
/-- The address that a tape gives. -/
def uriT (ns : List Int) : UT := ⟨pickT hostsU ns 0, pickT pathsU ns (nextA ns 0 7), fldsT ns (nextV ns (nextA ns (nextA ns 0 7) 6) 6).toNat⟩
theorem uri_ok (ns : List Int) (hl : ns.length ≤ 9223372036854775807) : Pur Tryz.prog G 25 [.c (.sl 1 ns.length (intsF ns))] [.agg (encU (uriT ns))] := by
  refine Pur.of Tryz.func25 (by kernel_rfl) (by kernel_rfl) (by kernel_rfl) ?_
  have e1 : EqvD (.c (.sl 1 7 (fun i j => nthD [Cell.str [97, 115], Cell.str [99, 49], Cell.str [99, 50], Cell.str [114, 115], Cell.str [97, 116], Cell.str [97, 45, 49, 46, 98], Cell.str [48]] (i * 1 + j)))) (.c (.sl 1 hostsU.length (strsF hostsU))) := strs_lit hostsU rfl rfl
  have e2 : EqvD (.c (.sl 1 6 (fun i j => nthD [Cell.str [47], Cell.str [47, 99, 98], Cell.str [47, 115, 116, 97, 114, 116], Cell.str [47, 97, 117, 116, 104, 111, 114, 105, 122, 101], Cell.str [47, 97, 47, 98, 47, 47], Cell.str [47, 126, 120, 95, 49, 46, 50, 45, 51]] (i * 1 + j)))) (.c (.sl 1 pathsU.length (strsF pathsU))) := strs_lit pathsU rfl rfl
  have h1 : 0 ≤ nextV ns (nextA ns (nextA ns 0 (hostsU.length : Nat)) (pathsU.length : Nat)) 6 ∧ nextV ns (nextA ns (nextA ns 0 (hostsU.length : Nat)) (pathsU.length : Nat)) 6 < 6 := nextV_rng ns _ 6 (by decide)
  refine Wp.go (mx := true) (fun _ => mixed) [(2, {cs := [(2, cb [48] (pick_ok hostsU ns (0) (by assumption) (by decide))), (5, cb [48] (pick_ok pathsU ns (nextA ns (0) (↑hostsU.length : Int)) (by assumption) (by decide))), (8, cb [48] (next_ok ns (nextA ns (nextA ns (0) (↑hostsU.length : Int)) (↑pathsU.length : Int)) (6 : Int) (by assumption) (by omega))), (9, pc (flds_i ns (nextV ns (nextA ns (nextA ns (0) (↑hostsU.length : Int)) (↑pathsU.length : Int)) (6 : Int)) (by assumption) (by omega) (by omega)))], fm := [(1, .c (.sl 1 hostsU.length (strsF hostsU))), (4, .c (.sl 1 pathsU.length (strsF pathsU)))]})] 100 [] [EqvI (V1.c (Cell.sl (1 : Nat) (7 : Nat) fun (i j : Nat) => nthD [Cell.str [(97 : UInt8), 115], Cell.str [(99 : UInt8), 49], Cell.str [(99 : UInt8), 50], Cell.str [(114 : UInt8), 115], Cell.str [(97 : UInt8), 116], Cell.str [(97 : UInt8), 45, 49, 46, 98], Cell.str [(48 : UInt8)]] (i * (1 : Nat) + j))) (V1.c (Cell.sl (1 : Nat) hostsU.length (strsF hostsU))), EqvD (V1.c (Cell.sl (1 : Nat) (7 : Nat) fun (i j : Nat) => nthD [Cell.str [(97 : UInt8), 115], Cell.str [(99 : UInt8), 49], Cell.str [(99 : UInt8), 50], Cell.str [(114 : UInt8), 115], Cell.str [(97 : UInt8), 116], Cell.str [(97 : UInt8), 45, 49, 46, 98], Cell.str [(48 : UInt8)]] (i * (1 : Nat) + j))) (V1.c (Cell.sl (1 : Nat) hostsU.length (strsF hostsU))), EqvI (V1.c (Cell.sl (1 : Nat) (6 : Nat) fun (i j : Nat) => nthD [Cell.str [(47 : UInt8)], Cell.str [(47 : UInt8), 99, 98], Cell.str [(47 : UInt8), 115, 116, 97, 114, 116], Cell.str [(47 : UInt8), 97, 117, 116, 104, 111, 114, 105, 122, 101], Cell.str [(47 : UInt8), 97, 47, 98, 47, 47], Cell.str [(47 : UInt8), 126, 120, 95, 49, 46, 50, 45, 51]] (i * (1 : Nat) + j))) (V1.c (Cell.sl (1 : Nat) pathsU.length (strsF pathsU))), EqvD (V1.c (Cell.sl (1 : Nat) (6 : Nat) fun (i j : Nat) => nthD [Cell.str [(47 : UInt8)], Cell.str [(47 : UInt8), 99, 98], Cell.str [(47 : UInt8), 115, 116, 97, 114, 116], Cell.str [(47 : UInt8), 97, 117, 116, 104, 111, 114, 105, 122, 101], Cell.str [(47 : UInt8), 97, 47, 98, 47, 47], Cell.str [(47 : UInt8), 126, 120, 95, 49, 46, 50, 45, 51]] (i * (1 : Nat) + j))) (V1.c (Cell.sl (1 : Nat) pathsU.length (strsF pathsU)))] (by kernel_rfl) (by kernel_rfl) (by kernel_rfl) ⟨fun _ _ => trivial, (by assumption), fun _ _ => trivial, (show EqvD (V1.c (Cell.sl (1 : Nat) (6 : Nat) fun (i j : Nat) => nthD [Cell.str [(47 : UInt8)], Cell.str [(47 : UInt8), 99, 98], Cell.str [(47 : UInt8), 115, 116, 97, 114, 116], Cell.str [(47 : UInt8), 97, 117, 116, 104, 111, 114, 105, 122, 101], Cell.str [(47 : UInt8), 97, 47, 98, 47, 47], Cell.str [(47 : UInt8), 126, 120, 95, 49, 46, 50, 45, 51]] (i * (1 : Nat) + j))) (V1.c (Cell.sl (1 : Nat) pathsU.length (strsF pathsU))) from (by assumption))⟩ ?_
  refine Wp.ret' (by kernel_rfl) ?_
  exact FinQ.pure (rs' := [V1.agg [Cell.str (hostsU.getD (nextV ns (0) (↑hostsU.length : Int)).toNat []), Cell.str (pathsU.getD (nextV ns (nextA ns (0) (↑hostsU.length : Int)) (↑pathsU.length : Int)).toNat []), Cell.sl (2 : Nat) (fldsT ns (nextV ns (nextA ns (nextA ns (0) (↑hostsU.length : Int)) (↑pathsU.length : Int)) (6 : Int)).toNat).length fun (i j : Nat) => nthD [Cell.str ((fldsT ns (nextV ns (nextA ns (nextA ns (0) (↑hostsU.length : Int)) (↑pathsU.length : Int)) (6 : Int)).toNat).getD i FT.nil).name, Cell.str ((fldsT ns (nextV ns (nextA ns (nextA ns (0) (↑hostsU.length : Int)) (↑pathsU.length : Int)) (6 : Int)).toNat).getD i FT.nil).value] j]]) (by kernel_rfl) rfl (by kernel_rfl)
def hostB (c : UInt8) : Bool := smallB c || digitB c || c == 45 || c == 46
def pathB (c : UInt8) : Bool := plainB c || c == 47
def hostT (s : List UInt8) : Bool := s.all hostB && (decide (1 ≤ s.length) && decide (s.length ≤ 64))
def pathT (s : List UInt8) : Bool := s.all pathB && (decide (1 ≤ s.length) && s.getD 0 0 == 47)
theorem host11_ok (s : List UInt8) (hl : s.length < 4611686018427387904) : Pur Tryz.prog G 95 [.c (.str s)] [.c (.bool (hostT s))] := by
  refine Pur.of Tryz.func95 (by kernel_rfl) (by kernel_rfl) (by kernel_rfl) ?_
  refine Wp.go (mx := true) (fun _ => mixed) [] 100 [] [] (by kernel_rfl) (by kernel_rfl) (by kernel_rfl) trivial ?_
  refine Wp.loopK (by kernel_rfl) (fun (k : Nat) => ⟨[(0, TV.v (V1.c (Cell.str s))), (3, TV.v (V1.c (Cell.int .i64 (k : Int))))], [], 32⟩) (fun k => k ≤ s.length ∧ s.all hostB = (s.drop k).all hostB) (fun k => s.length - k) 0 (Ent.of [] (by kernel_rfl) (by kernel_rfl) (by kernel_rfl) trivial) ⟨Nat.zero_le _, rfl⟩ ?_
  intro k L ⟨hk, hq⟩ again
  rcases Nat.lt_or_ge k s.length with hlt | hge
  · rw [dropS s k hlt, List.all_cons] at hq
    refine Wp.go (mx := true) (fun _ => mixed) [(4, {cs := [(15, pc (digit6_ok (s.getD k (0 : UInt8))))]})] 100 [true] [decide ((↑k : Int) < (↑s.length : Int)) = true, (0 : Int) ≤ (↑k : Int) ∧ (↑k : Int) < (↑s.length : Int), decide ((↑(s.getD k (0 : UInt8)).toNat : Int) ≥ (97 : Int)) = true → (0 : Int) ≤ (↑k : Int) ∧ (↑k : Int) < (↑s.length : Int), (!bif decide ((↑(s.getD k (0 : UInt8)).toNat : Int) ≥ (97 : Int)) then decide ((↑(s.getD k (0 : UInt8)).toNat : Int) ≤ (122 : Int)) else false) = true → (0 : Int) ≤ (↑k : Int) ∧ (↑k : Int) < (↑s.length : Int), (bif !bif decide ((↑(s.getD k (0 : UInt8)).toNat : Int) ≥ (97 : Int)) then decide ((↑(s.getD k (0 : UInt8)).toNat : Int) ≤ (122 : Int)) else false then !digitB (s.getD k (0 : UInt8)) else false) = true → (0 : Int) ≤ (↑k : Int) ∧ (↑k : Int) < (↑s.length : Int), (bif bif !bif decide ((↑(s.getD k (0 : UInt8)).toNat : Int) ≥ (97 : Int)) then decide ((↑(s.getD k (0 : UInt8)).toNat : Int) ≤ (122 : Int)) else false then !digitB (s.getD k (0 : UInt8)) else false then (↑(s.getD k (0 : UInt8)).toNat : Int) != (45 : Int) else false) = true → (0 : Int) ≤ (↑k : Int) ∧ (↑k : Int) < (↑s.length : Int)] (by kernel_rfl) (by kernel_rfl) (by kernel_rfl) ⟨(by simp; omega), (by omega), (by omega), (by omega), (by omega), (show (bif bif !bif decide ((↑(s.getD k (0 : UInt8)).toNat : Int) ≥ (97 : Int)) then decide ((↑(s.getD k (0 : UInt8)).toNat : Int) ≤ (122 : Int)) else false then !digitB (s.getD k (0 : UInt8)) else false then (↑(s.getD k (0 : UInt8)).toNat : Int) != (45 : Int) else false) = true → (0 : Int) ≤ (↑k : Int) ∧ (↑k : Int) < (↑s.length : Int) from (by omega))⟩ ?_
    have hb : (bif bif bif !bif decide ((↑(s.getD k (0 : UInt8)).toNat : Int) ≥ (97 : Int)) then decide ((↑(s.getD k (0 : UInt8)).toNat : Int) ≤ (122 : Int)) else false then !digitB (s.getD k (0 : UInt8)) else false then (↑(s.getD k (0 : UInt8)).toNat : Int) != (45 : Int) else false then (↑(s.getD k (0 : UInt8)).toNat : Int) != (46 : Int) else false) = !hostB (s.getD k (0 : UInt8)) := by_fun (fun c => bif bif bif !bif decide ((↑c.toNat : Int) ≥ (97 : Int)) then decide ((↑c.toNat : Int) ≤ (122 : Int)) else false then !digitB c else false then (↑c.toNat : Int) != (45 : Int) else false then (↑c.toNat : Int) != (46 : Int) else false) (fun c => !hostB c) (by kernel_rfl) (s.getD k (0 : UInt8))
    refine Wp.cond' (by kernel_rfl) (bif bif bif !bif decide ((↑(s.getD k (0 : UInt8)).toNat : Int) ≥ (97 : Int)) then decide ((↑(s.getD k (0 : UInt8)).toNat : Int) ≤ (122 : Int)) else false then !digitB (s.getD k (0 : UInt8)) else false then (↑(s.getD k (0 : UInt8)).toNat : Int) != (45 : Int) else false then (↑(s.getD k (0 : UInt8)).toNat : Int) != (46 : Int) else false) (by kernel_rfl) (fun h0 => ?_) (fun h0 => ?_)
    · have g0 : hostB (s.getD k (0 : UInt8)) = false := by rw [hb] at h0; simpa using h0
      refine Wp.go (mx := true) (fun _ => mixed) [] 100 [] [] (by kernel_rfl) (by kernel_rfl) (by kernel_rfl) trivial ?_
      refine Wp.ret' (by kernel_rfl) ?_
      exact FinQ.pure (rs' := [V1.c (Cell.bool false)]) (by kernel_rfl) (by first | (rw [hostT, hq, g0]; rfl) | (rw [pathT, hq, g0]; rfl)) (by kernel_rfl)
    · have g0 : hostB (s.getD k (0 : UInt8)) = true := by rw [hb] at h0; simpa using h0
      refine Wp.go (mx := true) (fun _ => mixed) [] 100 [] [inR IntKind.i64 ((↑k : Int) + (1 : Int))] (by kernel_rfl) (by kernel_rfl) (by kernel_rfl) (inR64 (by omega) (by omega)) ?_
      exact Wp.lpK (by kernel_rfl) (again _ (k + 1) ⟨hlt, by rw [hq, g0]; rfl⟩ (by omega) (Ent.of [] (by kernel_rfl) (by kernel_rfl) (by kernel_rfl) trivial))
  · obtain rfl : k = s.length := by omega
    rw [List.drop_length] at hq
    refine Wp.go (mx := true) (fun _ => mixed) [] 100 [false] [decide ((↑s.length : Int) < (↑s.length : Int)) = false] (by kernel_rfl) (by kernel_rfl) (by kernel_rfl) ((show decide ((↑s.length : Int) < (↑s.length : Int)) = false from (by simp; done))) ?_
    refine Wp.ret' (by kernel_rfl) ?_
    exact FinQ.pure (rs' := [V1.c (Cell.bool (bif decide ((↑s.length : Int) ≥ (1 : Int)) then decide ((↑s.length : Int) ≤ (64 : Int)) else false))]) (by kernel_rfl) (by rw [hostT, hq, List.all_nil, Bool.true_and]; exact congrArg (fun b => [V1.c (Cell.bool b)]) (by rw [Bool.cond_false_right]; congr 1 <;> (apply decide_eq_decide.2; omega))) (by kernel_rfl)
theorem path11_ok (s : List UInt8) (hl : s.length < 4611686018427387904) : Pur Tryz.prog G 64 [.c (.str s)] [.c (.bool (pathT s))] := by
  refine Pur.of Tryz.func64 (by kernel_rfl) (by kernel_rfl) (by kernel_rfl) ?_
  refine Wp.go (mx := true) (fun _ => mixed) [] 100 [] [] (by kernel_rfl) (by kernel_rfl) (by kernel_rfl) trivial ?_
  refine Wp.loopK (by kernel_rfl) (fun (k : Nat) => ⟨[(0, TV.v (V1.c (Cell.str s))), (3, TV.v (V1.c (Cell.int .i64 (k : Int))))], [], 32⟩) (fun k => k ≤ s.length ∧ s.all pathB = (s.drop k).all pathB) (fun k => s.length - k) 0 (Ent.of [] (by kernel_rfl) (by kernel_rfl) (by kernel_rfl) trivial) ⟨Nat.zero_le _, rfl⟩ ?_
  intro k L ⟨hk, hq⟩ again
  rcases Nat.lt_or_ge k s.length with hlt | hge
  · rw [dropS s k hlt, List.all_cons] at hq
    refine Wp.go (mx := true) (fun _ => mixed) [(4, {cs := [(3, pc (plain6_ok (s.getD k (0 : UInt8))))]})] 100 [true] [decide ((↑k : Int) < (↑s.length : Int)) = true, (0 : Int) ≤ (↑k : Int) ∧ (↑k : Int) < (↑s.length : Int), (!plainB (s.getD k (0 : UInt8))) = true → (0 : Int) ≤ (↑k : Int) ∧ (↑k : Int) < (↑s.length : Int)] (by kernel_rfl) (by kernel_rfl) (by kernel_rfl) ⟨(by simp; omega), (by omega), (show (!plainB (s.getD k (0 : UInt8))) = true → (0 : Int) ≤ (↑k : Int) ∧ (↑k : Int) < (↑s.length : Int) from (by omega))⟩ ?_
    have hb : (bif !plainB (s.getD k (0 : UInt8)) then (↑(s.getD k (0 : UInt8)).toNat : Int) != (47 : Int) else false) = !pathB (s.getD k (0 : UInt8)) := by_fun (fun c => bif !plainB c then (↑c.toNat : Int) != (47 : Int) else false) (fun c => !pathB c) (by kernel_rfl) (s.getD k (0 : UInt8))
    refine Wp.cond' (by kernel_rfl) (bif !plainB (s.getD k (0 : UInt8)) then (↑(s.getD k (0 : UInt8)).toNat : Int) != (47 : Int) else false) (by kernel_rfl) (fun h0 => ?_) (fun h0 => ?_)
    · have g0 : pathB (s.getD k (0 : UInt8)) = false := by rw [hb] at h0; simpa using h0
      refine Wp.go (mx := true) (fun _ => mixed) [] 100 [] [] (by kernel_rfl) (by kernel_rfl) (by kernel_rfl) trivial ?_
      refine Wp.ret' (by kernel_rfl) ?_
      exact FinQ.pure (rs' := [V1.c (Cell.bool false)]) (by kernel_rfl) (by first | (rw [hostT, hq, g0]; rfl) | (rw [pathT, hq, g0]; rfl)) (by kernel_rfl)
    · have g0 : pathB (s.getD k (0 : UInt8)) = true := by rw [hb] at h0; simpa using h0
      refine Wp.go (mx := true) (fun _ => mixed) [] 100 [] [inR IntKind.i64 ((↑k : Int) + (1 : Int))] (by kernel_rfl) (by kernel_rfl) (by kernel_rfl) (inR64 (by omega) (by omega)) ?_
      exact Wp.lpK (by kernel_rfl) (again _ (k + 1) ⟨hlt, by rw [hq, g0]; rfl⟩ (by omega) (Ent.of [] (by kernel_rfl) (by kernel_rfl) (by kernel_rfl) trivial))
  · obtain rfl : k = s.length := by omega
    rw [List.drop_length] at hq
    refine Wp.go (mx := true) (fun _ => mixed) [] 100 [false] [decide ((↑s.length : Int) < (↑s.length : Int)) = false, decide ((↑s.length : Int) ≥ (1 : Int)) = true → (0 : Int) ≤ (0 : Int) ∧ (0 : Int) < (↑s.length : Int)] (by kernel_rfl) (by kernel_rfl) (by kernel_rfl) ⟨(by simp; done), (show decide ((↑s.length : Int) ≥ (1 : Int)) = true → (0 : Int) ≤ (0 : Int) ∧ (0 : Int) < (↑s.length : Int) from (by simp; omega))⟩ ?_
    refine Wp.ret' (by kernel_rfl) ?_
    exact FinQ.pure (rs' := [V1.c (Cell.bool (bif decide ((↑s.length : Int) ≥ (1 : Int)) then (↑(s.getD (0 : Nat) (0 : UInt8)).toNat : Int) == (47 : Int) else false))]) (by kernel_rfl) (by rw [pathT, hq, List.all_nil, Bool.true_and]; exact congrArg (fun b => [V1.c (Cell.bool b)]) (by rw [Bool.cond_false_right, show (((s.getD 0 0).toNat : Int) == 47) = (s.getD 0 0 == 47) from byte_eq (by decide)]; congr 1; apply decide_eq_decide.2; omega)) (by kernel_rfl)
end Go.Proofs.Tw
end

section
open Go Go.Sv Go.RowKit
namespace Go.Proofs.Tw
attribute [local irreducible] Wp FinQ resV Ent Pur Go.Sv.Fn Sat0
set_option maxRecDepth 100000
set_option maxHeartbeats 4000000
variable {G : Nat → Option (List Cell)}

theorem All_digit (s : List UInt8) (hl : s.length < 4611686018427387904) : Pur Tryz.prog G 72 [.c (.str s), .c (.clo 83 0 (fun _ => none) (fun _ _ => .nilif))] [.c (.bool (s.all digitB))] := by
  refine Pur.of Tryz.func72 (by kernel_rfl) (by kernel_rfl) (by kernel_rfl) ?_
  refine Wp.go (mx := true) (fun _ => mixed) [] 100 [] [] (by kernel_rfl) (by kernel_rfl) (by kernel_rfl) trivial ?_
  refine Wp.loopK (by kernel_rfl) (fun (k : Nat) => ⟨[(0, TV.v (V1.c (Cell.str s))), (1, TV.v (V1.c (Cell.clo 83 (0 : Nat) (fun _ => none) fun _ _ => Cell.nilif))), (7, TV.v (V1.c (Cell.int .i64 (↑s.length : Int)))), (8, TV.v (V1.c (Cell.int .i64 (k : Int))))], [], 32⟩) (fun k => k ≤ s.length ∧ s.all digitB = (s.drop k).all digitB) (fun k => s.length - k) 0 (Ent.of [] (by kernel_rfl) (by kernel_rfl) (by kernel_rfl) trivial) ⟨Nat.zero_le _, rfl⟩ ?_
  intro k L ⟨hk, hq⟩ again
  rcases Nat.lt_or_ge k s.length with hlt | hge
  · rw [dropS s k hlt, List.all_cons] at hq
    refine Wp.go (mx := true) (fun _ => mixed) [(4, {cs := [(4, pc (digit_ok (s.getD k (0 : UInt8))))]})] 100 [true] [decide ((↑k : Int) < (↑s.length : Int)) = true, (0 : Int) ≤ (↑k : Int) ∧ (↑k : Int) < (↑s.length : Int)] (by kernel_rfl) (by kernel_rfl) (by kernel_rfl) ⟨(by simp; omega), (show (0 : Int) ≤ (↑k : Int) ∧ (↑k : Int) < (↑s.length : Int) from (by omega))⟩ ?_
    refine Wp.cond' (by kernel_rfl) (!digitB (s.getD k (0 : UInt8))) (by kernel_rfl) (fun h0 => ?_) (fun h0 => ?_)
    · have g0 := h0
      simp at g0
      refine Wp.go (mx := true) (fun _ => mixed) [] 100 [] [] (by kernel_rfl) (by kernel_rfl) (by kernel_rfl) trivial ?_
      refine Wp.ret' (by kernel_rfl) ?_
      exact FinQ.pure (rs' := [V1.c (Cell.bool false)]) (by kernel_rfl) (by simp_all; done) (by kernel_rfl)
    · have g0 := h0
      simp at g0
      refine Wp.go (mx := true) (fun _ => mixed) [] 100 [] [inR IntKind.i64 ((↑k : Int) + (1 : Int))] (by kernel_rfl) (by kernel_rfl) (by kernel_rfl) (inR64 (by omega) (by omega)) ?_
      exact Wp.lpK (by kernel_rfl) (again _ (k + 1) (⟨(by assumption), (by simp_all <;> omega)⟩) (by omega) (Ent.of [] (by kernel_rfl) (by kernel_rfl) (by kernel_rfl) trivial))
  · obtain rfl : k = s.length := by omega
    rw [List.drop_length] at hq
    refine Wp.go (mx := true) (fun _ => mixed) [] 100 [false] [decide ((↑s.length : Int) < (↑s.length : Int)) = false] (by kernel_rfl) (by kernel_rfl) (by kernel_rfl) ((show decide ((↑s.length : Int) < (↑s.length : Int)) = false from (by simp; done))) ?_
    refine Wp.ret' (by kernel_rfl) ?_
    exact FinQ.pure (rs' := [V1.c (Cell.bool true)]) (by kernel_rfl) (by simp [*]; done) (by kernel_rfl)
end Go.Proofs.Tw
end

section
open Go Go.Sv
namespace Go.Proofs.Tw
attribute [local irreducible] Wp FinQ resV Ent Pur Go.Sv.Fn Sat0
set_option maxRecDepth 100000
set_option maxHeartbeats 4000000

end Go.Proofs.Tw
end

section
open Go Go.Sv
namespace Go.Proofs.Tw
attribute [local irreducible] Wp FinQ resV Ent Pur Go.Sv.Fn Sat0
set_option maxRecDepth 100000
set_option maxHeartbeats 4000000

/-- The seat's tables: how long what is searched for at once may be (some number m), the powers of ten. -/
def Gm (m : Int) : Nat → Option (List Cell)
  | 0 => some [.int .i64 m]
  | 1 => some (Lib.pow10Tab.map fun z => .int .u64 z)
  | _ => none
end Go.Proofs.Tw
end

section
open Go Go.Sv Go.RowKit
namespace Go.Proofs.Tw
attribute [local irreducible] Wp FinQ resV Ent Pur Go.Sv.Fn Sat0
set_option maxRecDepth 100000
set_option maxHeartbeats 4000000
variable {G : Nat → Option (List Cell)}

theorem below_drew (w : World) (n : Nat) : Below w.heap.size w (w.drewN n) := ⟨rfl, rfl, rfl, Nat.le_refl _, fun _ _ => rfl⟩
theorem size_lt (s : List UInt8) : (⟨s.toArray⟩ : ByteArray).size = s.length := size_mk s
/-- A table of one number, as the shelf speaks of it. -/
theorem glob_one {D : Dat} {w : World} {g : Nat} {x : Cell} (hG : G g = some [x]) (k1 : GlobOk G D) (k3 : Agree D w) : ∃ u, w.cell? ⟨g, 0, none⟩ = some u ∧ Den D rho0 x u := by
  obtain ⟨u, hu, hd⟩ := k1 g _ hG 0 x rfl
  exact ⟨u, k3 _ _ _ hu, hd⟩
theorem lib_CutSuffix (s p : List UInt8) (hl : s.length ≤ 9223372036854775807) : Pur Tryz.prog G 35 [.c (.str s), .c (.str p)] [.c (.str (Lib.trimSuffix s p)), .c (.bool (Lib.hasSuffix s p))] := by
  refine Pur.of_below rfl ?_
  intro D ρ w vs h1 _ _ _
  obtain ⟨u, v, rfl, hu, hv⟩ := h1.two
  have hu : u = .string ⟨s.toArray⟩ := hu
  have hv : v = .string ⟨p.toArray⟩ := hv
  subst hu hv
  refine (Go.Proofs.Tryz.strings_CutSuffix ⟨s.toArray⟩ ⟨p.toArray⟩ w (by rw [size_lt]; exact hl)).mono ?_
  rintro e w' ⟨rfl, rfl⟩
  refine ⟨_, rfl, ⟨_, rfl, rfl, fun j x hj => ?_⟩, Below.refl _ _⟩
  match j, hj with
  | 0, hj => simp at hj; subst hj; exact ⟨_, rfl, rfl⟩
  | 1, hj => simp at hj; subst hj; exact ⟨_, rfl, rfl⟩
  | j + 2, hj => simp at hj
theorem lib_Cut {m : Int} (hG : G 0 = some [.int .i64 m]) (s p : List UInt8) (hl : s.length < 4294967281) : Pur Tryz.prog G 34 [.c (.str s), .c (.str p)] [.c (.str (Lib.cut s p).1), .c (.str (Lib.cut s p).2.1), .c (.bool (Lib.cut s p).2.2)] := by
  refine Pur.of_below rfl ?_
  intro D ρ w vs h1 k1 _ k3
  obtain ⟨u, v, rfl, hu, hv⟩ := h1.two
  have hu : u = .string ⟨s.toArray⟩ := hu
  have hv : v = .string ⟨p.toArray⟩ := hv
  subst hu hv
  obtain ⟨x, hx, hd⟩ := glob_one hG k1 k3
  have hd : x = .int .i64 m := hd
  subst hd
  refine (Go.Proofs.Tryz.strings_Cut ⟨s.toArray⟩ ⟨p.toArray⟩ m w (by rw [size_lt]; exact hl) hx).mono ?_
  rintro e w' ⟨rfl, n, rfl⟩
  refine ⟨_, rfl, ⟨_, rfl, rfl, fun j x hj => ?_⟩, below_drew _ _⟩
  match j, hj with
  | 0, hj => simp at hj; subst hj; exact ⟨_, rfl, rfl⟩
  | 1, hj => simp at hj; subst hj; exact ⟨_, rfl, rfl⟩
  | 2, hj => simp at hj; subst hj; exact ⟨_, rfl, rfl⟩
  | j + 3, hj => simp at hj
theorem lib_Split {m : Int} (hG : G 0 = some [.int .i64 m]) (s p : List UInt8) (hl : s.length < 4294967281) (hp : 1 ≤ p.length) : Pur Tryz.prog G 98 [.c (.str s), .c (.str p)] [.c (.sl 1 (Lib.split s p).length (strsF (Lib.split s p)))] := by
  have hsz : (Lib.splitB ⟨p.toArray⟩ 0 (Lib.countB ⟨s.toArray⟩ ⟨p.toArray⟩) ⟨s.toArray⟩).length = Lib.countB ⟨s.toArray⟩ ⟨p.toArray⟩ + 1 := Lib.splitB_all _ (by rw [size_lt]; exact hp) 0 _ _ rfl
  have hdat : (Lib.splitB ⟨p.toArray⟩ 0 (Lib.countB ⟨s.toArray⟩ ⟨p.toArray⟩) ⟨s.toArray⟩).map (·.data.toList) = Lib.split s p := by rw [Lib.splitB_data]; rfl
  have hlen : (Lib.split s p).length = Lib.countB ⟨s.toArray⟩ ⟨p.toArray⟩ + 1 := by rw [← hdat, List.length_map, hsz]
  have hcl := Lib.countB_le ⟨p.toArray⟩ (by rw [size_lt]; exact hp) s.length ⟨s.toArray⟩ (by rw [size_lt]; exact Nat.le_refl _)
  rw [size_lt] at hcl
  refine Pur.of_alloc (by rw [hlen]; unfold maxLen; omega) ?_
  intro D ρ w vs h1 k1 _ k3
  obtain ⟨u, v, rfl, hu, hv⟩ := h1.two
  have hu : u = .string ⟨s.toArray⟩ := hu
  have hv : v = .string ⟨p.toArray⟩ := hv
  subst hu hv
  obtain ⟨x, hx, hd⟩ := glob_one hG k1 k3
  have hd : x = .int .i64 m := hd
  subst hd
  refine (Go.Proofs.Tryz.strings_Split ⟨s.toArray⟩ ⟨p.toArray⟩ m w (by rw [size_lt]; exact hl) hx (by rw [size_lt]; exact hp)).mono ?_
  rintro e w' ⟨rfl, rfl⟩
  refine ⟨_, _, by rw [hlen], rfl, by simp [hsz, hlen], fun i hi => ?_⟩
  have hi' : i < (Lib.splitB ⟨p.toArray⟩ 0 (Lib.countB ⟨s.toArray⟩ ⟨p.toArray⟩) ⟨s.toArray⟩).length := by rw [hsz, ← hlen]; exact hi
  refine ⟨.string (Lib.splitB ⟨p.toArray⟩ 0 (Lib.countB ⟨s.toArray⟩ ⟨p.toArray⟩) ⟨s.toArray⟩)[i], by simp [hi'], fun D => ?_⟩
  have : (Lib.split s p).getD i [] = (Lib.splitB ⟨p.toArray⟩ 0 (Lib.countB ⟨s.toArray⟩ ⟨p.toArray⟩) ⟨s.toArray⟩)[i].data.toList := by
    rw [← hdat]; simp [List.getD, hi']
  show _ = Value.string ⟨((Lib.split s p).getD i []).toArray⟩
  rw [this]
end Go.Proofs.Tw
end

section
open Go Go.Sv
namespace Go.Proofs.Tw
attribute [local irreducible] Wp FinQ resV Ent Pur Go.Sv.Fn Sat0
set_option maxRecDepth 100000
set_option maxHeartbeats 4000000
variable {G : Nat → Option (List Cell)}

theorem cut_len (s p : List UInt8) : (Lib.cut s p).1.length ≤ s.length ∧ (Lib.cut s p).2.1.length ≤ s.length := by
  unfold Lib.cut
  split
  · simp only [List.length_take, List.length_drop]; omega
  · simp
theorem nil_eqv (sz : Nat) (f : Nat → Nat → Cell) : EqvD (.c .nilsl) (.c (.sl sz 0 f)) := fun D ρ u h => ⟨none, 0, h, Nat.le_refl _, Nat.zero_le _, .inl ⟨rfl, rfl⟩⟩
end Go.Proofs.Tw
end

section
open Go Go.Sv
namespace Go.Proofs.Tw
attribute [local irreducible] Wp FinQ resV Ent Pur Go.Sv.Fn Sat0
set_option maxRecDepth 100000
set_option maxHeartbeats 4000000
variable {G : Nat → Option (List Cell)}

theorem split_hit {s sep : List UInt8} {i : Nat} (hs : sep ≠ []) (h : Lib.index s sep = i) : Lib.split s sep = s.take i :: Lib.split (s.drop (i + sep.length)) sep := by
  have hne : ((i : Int) == -1) = false := by rw [beq_eq_false_iff_ne]; omega
  unfold Lib.split
  rw [Lib.count_hit hs h, Nat.add_comm 1, Lib.splitK, h, hne]
  simp
theorem split_miss {s sep : List UInt8} (h : Lib.index s sep = -1) : Lib.split s sep = [s] := by
  unfold Lib.split; rw [Lib.count_miss h]; rfl
theorem occ_drop (s sep : List UInt8) (a j : Nat) : Lib.occAt (s.drop a) sep j = Lib.occAt s sep (a + j) := by
  unfold Lib.occAt; rw [List.drop_drop]
theorem split_at {s sep : List UInt8} (hs : sep ≠ []) {a i : Nat} (hai : a ≤ i) (hi : i ≤ s.length) (ho : Lib.occAt s sep i = true) (hall : ∀ j, a ≤ j → j < i → Lib.occAt s sep j = false) :
    Lib.split (s.drop a) sep = (s.take i).drop a :: Lib.split (s.drop (i + sep.length)) sep := by
  have h : Lib.index (s.drop a) sep = ((i - a : Nat) : Int) := Lib.index_first (by rw [List.length_drop]; omega) (by rw [occ_drop, show a + (i - a) = i from by omega]; exact ho) (fun j hj => by rw [occ_drop]; exact hall _ (by omega) (by omega))
  rw [split_hit hs h, List.drop_drop, show a + (i - a + sep.length) = i + sep.length from by omega, List.drop_take]
theorem split_end {s sep : List UInt8} (hs : sep ≠ []) {a i : Nat} (hi : s.length < i + sep.length) (hall : ∀ j, a ≤ j → j < i → Lib.occAt s sep j = false) : Lib.split (s.drop a) sep = [(s.take s.length).drop a] := by
  rw [List.take_length]
  refine split_miss (Lib.index_none fun j hj => ?_)
  cases hq : Lib.occAt (s.drop a) sep j with
  | false => rfl
  | true =>
    rcases Lib.occAt_room hq with h' | h'
    · rw [List.length_drop] at h'
      have hp : 0 < sep.length := List.length_pos_iff.2 hs
      have := hall (a + j) (by omega) (by omega)
      rw [occ_drop, this] at hq; cases hq
    · exact (hs h').elim
theorem parts_ok (s sep : List UInt8) (hl : s.length < 1000000000) (hs : sep ≠ []) (hn : sep.length < 1000) : Pur Tryz.prog G 75 [.c (.str s), .c (.str sep)] [.c (.sl 1 (Lib.split s sep).length (strsF (Lib.split s sep)))] := by
  refine Pur.of Tryz.func75 (by kernel_rfl) (by kernel_rfl) (by kernel_rfl) ?_
  have hp : 0 < sep.length := List.length_pos_iff.2 hs
  refine Wp.go (mx := true) (fun _ => mixed) [] 100 [] [] (by kernel_rfl) (by kernel_rfl) (by kernel_rfl) trivial ?_
  refine Wp.loopK (by kernel_rfl) (fun (x : Nat × Nat × Nat × List (List UInt8)) => ⟨[(0, .v (.c (.str s))), (1, .v (.c (.str sep))), (5, .v (.c (.row 1 64 0 x.2.2.1))), (6, .v (.c (.int .i64 (x.2.1 : Int)))), (7, .v (.c (.int .i64 (x.1 : Int))))], [(64, .row 9 1 x.2.2.1 (strsF x.2.2.2))], 80⟩) (fun x => x.1 ≤ s.length ∧ x.2.1 ≤ s.length ∧ x.2.2.1 = x.2.2.2.length ∧ x.2.2.1 ≤ x.1 ∧ Lib.split s sep = x.2.2.2 ++ Lib.split (s.drop x.2.1) sep ∧ ∀ j, x.2.1 ≤ j → j < x.1 → Lib.occAt s sep j = false) (fun x => s.length - x.1) (0, 0, 0, []) (Ent.trans (Ent.empT (t := 5) (sz := 1) (e := 9) (f := (strsF [])) (by decide) (by kernel_rfl) rfl) (Ent.of [] (by kernel_rfl) (by kernel_rfl) (by kernel_rfl) trivial)) ⟨Nat.zero_le _, Nat.zero_le _, rfl, Nat.le_refl _, rfl, fun j _ h => absurd h (Nat.not_lt_zero _)⟩ ?_
  rintro ⟨i, a, n, acc⟩ L ⟨hi, ha, hna, hni, hq, hall⟩ again
  simp only at hi ha hna hni hq hall
  by_cases hlt : i + sep.length ≤ s.length
  · have ho := occ_at s sep i hlt
    by_cases hai : a ≤ i
    · cases hoc : Lib.occAt s sep i with
      | true =>
        rw [hoc] at ho
        have ht : (bif decide ((i : Int) ≥ (a : Int)) then List.drop i (List.take (i + sep.length) s) == sep else false) = true := by rw [decide_eq_true (by omega)]; exact ho.symm
        rw [split_at hs hai hi hoc hall] at hq
        have hq2 : Lib.split s sep = (acc ++ [(s.take i).drop a]) ++ Lib.split (s.drop (i + sep.length)) sep := by rw [hq]; simp
        have hall2 : ∀ j, i + sep.length ≤ j → j < i + 1 → Lib.occAt s sep j = false := fun j h1 h2 => by omega
        have e1 : BlkEqv (.row 9 1 (n + 1) (catF n (strsF acc) (fun i' j => nthD [.str ((s.take i).drop a)] ((0 + i') * 1 + j)))) (.row 9 1 (n + 1) (strsF (acc ++ [(s.take i).drop a]))) := strs_app acc _ hna
        have q2 : n + 1 = (acc ++ [(s.take i).drop a]).length := by simp [hna]
        clear hq hall hoc ho
        refine Wp.go (mx := true) (fun _ => mixed) [(7, {bs := [(6, Blk.row 9 1 (n + 1) (strsF (acc ++ [(s.take i).drop a])))]})] 100 [true, true] [inR IntKind.i64 ((↑i : Int) + (↑sep.length : Int)), decide ((↑i : Int) + (↑sep.length : Int) ≤ (↑s.length : Int)) = true, decide ((↑i : Int) ≥ (↑a : Int)) = true → inR IntKind.i64 ((↑i : Int) + (↑sep.length : Int)), decide ((↑i : Int) ≥ (↑a : Int)) = true → (0 : Int) ≤ Int.ofNat i ∧ Int.ofNat i ≤ Int.ofNat (i + sep.length) ∧ Int.ofNat (i + sep.length) ≤ (↑s.length : Int), (bif decide ((↑i : Int) ≥ (↑a : Int)) then List.drop (Int.ofNat i).toNat (List.take (Int.ofNat (i + sep.length)).toNat s) == sep else false) = true, (0 : Int) ≤ Int.ofNat a ∧ Int.ofNat a ≤ Int.ofNat i ∧ Int.ofNat i ≤ (↑s.length : Int), (n + (1 : Nat)) * (16 : Nat) ≤ (140737488355328 : Nat), BlkEqv (Blk.row 9 (1 : Nat) (n + (1 : Nat)) (catF n (strsF acc) fun (i_1 j : Nat) => nthD [Cell.str (List.drop (Int.ofNat a).toNat (List.take (Int.ofNat i).toNat s))] (((0 : Nat) + i_1) * (1 : Nat) + j))) (Blk.row 9 (1 : Nat) (n + (1 : Nat)) (strsF (acc ++ [List.drop a (List.take i s)]))), n ≤ n, (0 : Nat) + (1 : Nat) ≤ (1 : Nat), inR IntKind.i64 ((↑i : Int) + (↑sep.length : Int)), inR IntKind.i64 ((↑i : Int) + (1 : Int))] (by kernel_rfl) (by kernel_rfl) (by kernel_rfl) ⟨inR64 (by omega) (by omega), (by simp; omega), (fun _ => inR64 (by omega) (by omega)), (by simp; omega), (by assumption), ⟨(by simp; done), ⟨(by simp; omega), (by simp; omega)⟩⟩, (by omega), (by assumption), (by omega), (by omega), inR64 (by omega) (by omega), inR64 (by omega) (by omega)⟩ ?_
        exact Wp.lpK (by kernel_rfl) (again _ (i + 1, i + sep.length, n + 1, acc ++ [(s.take i).drop a]) ⟨(by omega), ⟨(by assumption), ⟨(by assumption), ⟨(by simp; omega), ⟨(by assumption), (by assumption)⟩⟩⟩⟩⟩ (by omega) (Ent.of [(64, 512)] (by kernel_rfl) (by kernel_rfl) (by kernel_rfl) trivial))
      | false =>
        rw [hoc] at ho
        have ht : (bif decide ((i : Int) ≥ (a : Int)) then List.drop i (List.take (i + sep.length) s) == sep else false) = false := by rw [decide_eq_true (by omega)]; exact ho.symm
        have hall2 : ∀ j, a ≤ j → j < i + 1 → Lib.occAt s sep j = false := fun j h1 h2 => by
          rcases Nat.lt_or_ge j i with h | h
          · exact hall j h1 h
          · rw [show j = i from by omega]; exact hoc
        clear hall hoc ho
        refine Wp.go (mx := true) (fun _ => mixed) [] 100 [true, false] [inR IntKind.i64 ((↑i : Int) + (↑sep.length : Int)), decide ((↑i : Int) + (↑sep.length : Int) ≤ (↑s.length : Int)) = true, decide ((↑i : Int) ≥ (↑a : Int)) = true → inR IntKind.i64 ((↑i : Int) + (↑sep.length : Int)), decide ((↑i : Int) ≥ (↑a : Int)) = true → (0 : Int) ≤ Int.ofNat i ∧ Int.ofNat i ≤ Int.ofNat (i + sep.length) ∧ Int.ofNat (i + sep.length) ≤ (↑s.length : Int), (bif decide ((↑i : Int) ≥ (↑a : Int)) then List.drop (Int.ofNat i).toNat (List.take (Int.ofNat (i + sep.length)).toNat s) == sep else false) = false, inR IntKind.i64 ((↑i : Int) + (1 : Int))] (by kernel_rfl) (by kernel_rfl) (by kernel_rfl) ⟨inR64 (by omega) (by omega), (by simp; omega), (fun _ => inR64 (by omega) (by omega)), (by simp; omega), (by assumption), inR64 (by omega) (by omega)⟩ ?_
        exact Wp.lpK (by kernel_rfl) (again _ (i + 1, a, n, acc) ⟨(by omega), ⟨(by assumption), ⟨(by assumption), ⟨(by simp; omega), ⟨(by assumption), (by assumption)⟩⟩⟩⟩⟩ (by omega) (Ent.of [] (by kernel_rfl) (by kernel_rfl) (by kernel_rfl) trivial))
    · have hall2 : ∀ j, a ≤ j → j < i + 1 → Lib.occAt s sep j = false := fun j h1 h2 => by omega
      clear hall ho
      refine Wp.go (mx := true) (fun _ => mixed) [] 100 [true, false] [inR IntKind.i64 ((↑i : Int) + (↑sep.length : Int)), decide ((↑i : Int) + (↑sep.length : Int) ≤ (↑s.length : Int)) = true, decide ((↑i : Int) ≥ (↑a : Int)) = true → inR IntKind.i64 ((↑i : Int) + (↑sep.length : Int)), decide ((↑i : Int) ≥ (↑a : Int)) = true → (0 : Int) ≤ Int.ofNat i ∧ Int.ofNat i ≤ Int.ofNat (i + sep.length) ∧ Int.ofNat (i + sep.length) ≤ (↑s.length : Int), (bif decide ((↑i : Int) ≥ (↑a : Int)) then List.drop (Int.ofNat i).toNat (List.take (Int.ofNat (i + sep.length)).toNat s) == sep else false) = false, inR IntKind.i64 ((↑i : Int) + (1 : Int))] (by kernel_rfl) (by kernel_rfl) (by kernel_rfl) ⟨inR64 (by omega) (by omega), (by simp; omega), (fun _ => inR64 (by omega) (by omega)), (by simp; omega), (by simp; omega), inR64 (by omega) (by omega)⟩ ?_
      exact Wp.lpK (by kernel_rfl) (again _ (i + 1, a, n, acc) ⟨(by omega), ⟨(by assumption), ⟨(by assumption), ⟨(by simp; omega), ⟨(by assumption), (by assumption)⟩⟩⟩⟩⟩ (by omega) (Ent.of [] (by kernel_rfl) (by kernel_rfl) (by kernel_rfl) trivial))
  · rw [split_end hs (by omega) hall] at hq
    rw [hq]
    have e1 : BlkEqv (.row 9 1 (n + 1) (catF n (strsF acc) (fun i' j => nthD [.str ((s.take s.length).drop a)] ((0 + i') * 1 + j)))) (.row 9 1 (n + 1) (strsF (acc ++ [(s.take s.length).drop a]))) := strs_app acc _ hna
    have q2 : n + 1 = (acc ++ [(s.take s.length).drop a]).length := by simp [hna]
    clear hq hall
    refine Wp.go (mx := true) (fun _ => mixed) [(9, {bs := [(5, Blk.row 9 1 (n + 1) (strsF (acc ++ [(s.take s.length).drop a])))]})] 100 [false] [inR IntKind.i64 ((↑i : Int) + (↑sep.length : Int)), decide ((↑i : Int) + (↑sep.length : Int) ≤ (↑s.length : Int)) = false, (0 : Int) ≤ Int.ofNat a ∧ Int.ofNat a ≤ Int.ofNat s.length ∧ Int.ofNat s.length ≤ (↑s.length : Int), (n + (1 : Nat)) * (16 : Nat) ≤ (140737488355328 : Nat), BlkEqv (Blk.row 9 (1 : Nat) (n + (1 : Nat)) (catF n (strsF acc) fun (i j : Nat) => nthD [Cell.str (List.drop (Int.ofNat a).toNat (List.take (Int.ofNat s.length).toNat s))] (((0 : Nat) + i) * (1 : Nat) + j))) (Blk.row 9 (1 : Nat) (n + (1 : Nat)) (strsF (acc ++ [List.drop a (List.take s.length s)]))), n ≤ n, (0 : Nat) + (1 : Nat) ≤ (1 : Nat)] (by kernel_rfl) (by kernel_rfl) (by kernel_rfl) ⟨inR64 (by omega) (by omega), (by simp; omega), ⟨(by simp; done), ⟨(by simp; omega), (by simp; done)⟩⟩, (by omega), (by assumption), (by omega), (show (0 : Nat) + (1 : Nat) ≤ (1 : Nat) from (by omega))⟩ ?_
    refine Wp.ent' (by kernel_rfl) (Ent.pubT (t := 4) (e := 9) (sz := (1 : Nat)) (id := 272) (off := (0 : Nat)) (m := n + (1 : Nat)) (n := n + (1 : Nat)) (f := strsF (acc ++ [List.drop a (List.take s.length s)])) (m' := (acc ++ [List.drop a (List.take s.length s)]).length) (f' := strsF (acc ++ [List.drop a (List.take s.length s)])) (by kernel_rfl) (by kernel_rfl) (by omega) (by assumption) (fun i _ j _ => by rw [Nat.zero_add]) rfl) ?_
    refine Wp.ret' (by kernel_rfl) ?_
    exact FinQ.pure (rs' := [V1.c (Cell.sl (1 : Nat) (acc ++ [List.drop a (List.take s.length s)]).length (strsF (acc ++ [List.drop a (List.take s.length s)])))]) (by kernel_rfl) rfl (by kernel_rfl)

end Go.Proofs.Tw
end

section
open Go Go.Sv
namespace Go.Proofs.Tw
attribute [local irreducible] Wp FinQ resV Ent Pur Go.Sv.Fn Sat0
set_option maxRecDepth 100000
set_option maxHeartbeats 4000000
variable {G : Nat → Option (List Cell)}

theorem dropM {α : Type} (l : List α) (d : α) (k : Nat) (h : k < l.length) : l.drop k = l.getD k d :: l.drop (k + 1) := by
  rw [List.drop_eq_getElem_cons h]; simp [List.getD, h]
theorem splitK_len (sep : List UInt8) : ∀ (k : Nat) (s : List UInt8), ∀ x ∈ Lib.splitK sep 0 k s, x.length ≤ s.length
  | 0, s, x, hx => by simp [Lib.splitK] at hx; subst hx; exact Nat.le_refl _
  | k + 1, s, x, hx => by
    unfold Lib.splitK at hx
    split at hx
    · simp at hx; subst hx; exact Nat.le_refl _
    · rcases List.mem_cons.1 hx with rfl | hx
      · simp only [List.length_take]; omega
      · have := splitK_len sep k _ x hx
        rw [List.length_drop] at this
        omega
theorem split_el (s sep : List UInt8) (k : Nat) : ((Lib.split s sep).getD k []).length ≤ s.length := by
  rw [List.getD_eq_getElem?_getD]
  cases h : (Lib.split s sep)[k]? with
  | none => simp
  | some x => exact splitK_len sep _ s x (List.mem_of_getElem? h)
end Go.Proofs.Tw
end

section
open Go Go.Sv
namespace Go.Proofs.Tw
attribute [local irreducible] Wp FinQ resV Ent Pur Go.Sv.Fn Sat0
set_option maxRecDepth 100000
set_option maxHeartbeats 4000000
variable {G : Nat → Option (List Cell)}

def nvS (t : List UInt8) (n : Nat) : Nat := t.foldl (fun n c => n * 10 + (c.toNat - 48)) n
def nv (t : List UInt8) : Nat := nvS t 0
theorem nv_snoc (t : List UInt8) (c : UInt8) : nv (t ++ [c]) = nv t * 10 + (c.toNat - 48) := by simp [nv, nvS]
theorem dec_step {m : Nat} (h : ¬ m < 10) : Lib.decDigits m = Lib.decDigits (m / 10) ++ [UInt8.ofNat (48 + m % 10)] := by
  conv => lhs; rw [Lib.decDigits, dif_neg h]
theorem dig_to {c : UInt8} (h : digitB c = true) : 48 ≤ c.toNat ∧ c.toNat ≤ 57 := by
  unfold digitB at h
  simp only [Bool.and_eq_true, decide_eq_true_eq, UInt8.le_iff_toNat_le] at h
  exact ⟨h.1, h.2⟩
theorem ofNat_dig {d : Nat} (h : d < 10) : (UInt8.ofNat (48 + d)).toNat = 48 + d := by
  simp; omega
theorem dig_of {d : Nat} (h : d < 10) : digitB (UInt8.ofNat (48 + d)) = true := by
  have := ofNat_dig h
  unfold digitB
  simp only [Bool.and_eq_true, decide_eq_true_eq, UInt8.le_iff_toNat_le, this]
  refine ⟨?_, ?_⟩
  · show 48 ≤ _; omega
  · show _ ≤ 57; omega
theorem nv_dec (m : Nat) : nv (Lib.decDigits m) = m := by
  induction m using Nat.strongRecOn with
  | _ m ih =>
    by_cases h : m < 10
    · rw [Lib.decDigits_one h]
      show 0 * 10 + ((UInt8.ofNat (48 + m)).toNat - 48) = m
      rw [ofNat_dig h]; omega
    · rw [dec_step h, nv_snoc, ih _ (by omega), ofNat_dig (by omega)]; omega
theorem dec_all (m : Nat) : (Lib.decDigits m).all digitB = true := by
  induction m using Nat.strongRecOn with
  | _ m ih =>
    by_cases h : m < 10
    · rw [Lib.decDigits_one h, List.all_cons, dig_of h]; rfl
    · rw [dec_step h, List.all_append, ih _ (by omega), List.all_cons, dig_of (show m % 10 < 10 by omega)]; rfl
theorem dec_ne (m : Nat) : Lib.decDigits m ≠ [] := by
  by_cases h : m < 10
  · rw [Lib.decDigits_one h]; simp
  · rw [dec_step h]; simp
theorem dec_head (m : Nat) (h1 : 1 ≤ m) : (Lib.decDigits m).getD 0 0 ≠ 48 := by
  induction m using Nat.strongRecOn with
  | _ m ih =>
    by_cases h : m < 10
    · rw [Lib.decDigits_one h]
      intro hc
      have hc : UInt8.ofNat (48 + m) = 48 := hc
      have := congrArg UInt8.toNat hc
      rw [ofNat_dig h] at this
      have : 48 + m = 48 := this
      omega
    · rw [dec_step h]
      have := ih (m / 10) (by omega) (by omega)
      have hn := dec_ne (m / 10)
      cases hd : Lib.decDigits (m / 10) with
      | nil => exact (hn hd).elim
      | cons a r => rw [hd] at this; simpa using this
theorem dec_len_le : ∀ (k m : Nat), m < 10 ^ (k + 1) → (Lib.decDigits m).length ≤ k + 1
  | 0, m, h => by rw [Lib.decDigits_one (by simpa using h)]; simp
  | k + 1, m, h => by
    by_cases h10 : m < 10
    · rw [Lib.decDigits_one h10]; simp
    · rw [dec_step h10, List.length_append]
      have := dec_len_le k (m / 10) (by rw [Nat.pow_succ] at h; omega)
      simp; omega
/-- A number's text, as it is written. -/
def canonB (t : List UInt8) : Bool := t.all digitB && (!(t == []) && !(decide (1 < t.length) && (t.getD 0 0 == 48)))
theorem canon_dec (m : Nat) : canonB (Lib.decDigits m) = true := by
  unfold canonB
  rw [dec_all]
  have h1 : (Lib.decDigits m == []) = false := by simpa using dec_ne m
  rw [h1]
  by_cases h : m < 10
  · rw [Lib.decDigits_one h]; rfl
  · have := dec_head m (by omega)
    have h2 : ((Lib.decDigits m).getD 0 0 == 48) = false := by simpa using this
    rw [h2]; simp
theorem nv_lt : ∀ (k : Nat) (t : List UInt8), t.length ≤ k → t.all digitB = true → nv t < 10 ^ k
  | 0, t, h, _ => by
    have : t = [] := List.length_eq_zero_iff.1 (by omega)
    subst this; decide
  | k + 1, t, h, ha => by
    rcases List.eq_nil_or_concat t with rfl | ⟨r, c, rfl⟩
    · show 0 < _; exact Nat.pow_pos (by omega)
    · rw [List.concat_eq_append] at *
      simp only [List.all_append, Bool.and_eq_true, List.all_cons, List.all_nil, Bool.and_true] at ha
      have := nv_lt k r (by simp at h; omega) ha.1
      have hd := dig_to ha.2
      rw [nv_snoc, Nat.pow_succ]; omega

end Go.Proofs.Tw
end

section
open Go Go.Sv
namespace Go.Proofs.Tw
attribute [local irreducible] Wp FinQ resV Ent Pur Go.Sv.Fn Sat0
set_option maxRecDepth 100000
set_option maxHeartbeats 4000000
variable {G : Nat → Option (List Cell)}

def numK (K : Nat) (s : List UInt8) : Bool := decide (s.length ≤ K) && canonB s
theorem numK_yes {K : Nat} (hK : K ≤ 15) (s : List UInt8) (h : numK K s = true) : Pur Tryz.prog G 43 [.c (.str s), .c (.int .i64 (K : Int))] [.c (.int .i64 ((nv s : Nat) : Int)), .c (.bool true)] := by
  refine Pur.of Tryz.func43 (by kernel_rfl) (by kernel_rfl) (by kernel_rfl) ?_
  unfold numK canonB at h
  simp only [Bool.and_eq_true, decide_eq_true_eq, Bool.not_eq_true'] at h
  obtain ⟨hl, hd, hne, hh⟩ := h
  have c := All_digit (G := G) s (by omega)
  rw [hd] at c
  have hp : 0 < s.length := by
    cases s with
    | nil => simp at hne
    | cons a r => simp
  have hi0 : (((s.getD 0 0).toNat : Int) == 48) = (s.getD 0 0 == 48) := ibeq (s.getD 0 0) 48
  have ht : (bif bif bif s == [] then true else decide ((s.length : Int) > (K : Int)) then true else !true then true else bif decide ((s.length : Int) > 1) then ((s.getD 0 0).toNat : Int) == 48 else false) = false := by
    rw [hne, hi0, decide_eq_false (show ¬ ((s.length : Int) > (K : Int)) by omega)]
    by_cases h1 : 1 < s.length
    · rw [decide_eq_true h1, Bool.true_and] at hh
      rw [hh, decide_eq_true (show (s.length : Int) > 1 by omega)]; rfl
    · rw [decide_eq_false (show ¬ ((s.length : Int) > 1) by omega)]; rfl
  have hall : ∀ k, k < s.length → digitB (s.getD k 0) = true := fun k hk => by
    rw [List.all_eq_true] at hd
    exact hd _ (by simp [List.getD, hk])
  have hlt : ∀ k, k ≤ s.length → nv (s.take k) < 10 ^ K := fun k hk => nv_lt K _ (by simp; omega) (by rw [List.all_eq_true] at hd ⊢; exact fun x hx => hd x (List.mem_of_mem_take hx))
  have hnv : ∀ k, k < s.length → nv (s.take (k + 1)) = nv (s.take k) * 10 + ((s.getD k 0).toNat - 48) := fun k hk => by
    rw [List.take_succ_eq_append_getElem hk, nv_snoc]; simp [List.getD, hk]
  have hi1 : 0 ≤ (0 : Int) ∧ (0 : Int) < (s.length : Int) := by omega
  clear hd hh hne hi0
  refine Wp.go (mx := true) (fun _ => mixed) [(1, {cs := [(10, pc c)]})] 100 [false] [decide ((↑s.length : Int) > (1 : Int)) = true ∧ (bif bif s == [] then true else decide ((↑s.length : Int) > (↑K : Int)) then true else !true) = false → (0 : Int) ≤ (0 : Int) ∧ (0 : Int) < (↑s.length : Int), (bif bif bif s == [] then true else decide ((↑s.length : Int) > (↑K : Int)) then true else !true then true else bif decide ((↑s.length : Int) > (1 : Int)) then (↑(s.getD (0 : Nat) (0 : UInt8)).toNat : Int) == (48 : Int) else false) = false] (by kernel_rfl) (by kernel_rfl) (by kernel_rfl) ⟨(by omega), (show (bif bif bif s == [] then true else decide ((↑s.length : Int) > (↑K : Int)) then true else !true then true else bif decide ((↑s.length : Int) > (1 : Int)) then (↑(s.getD (0 : Nat) (0 : UInt8)).toNat : Int) == (48 : Int) else false) = false from (by assumption))⟩ ?_
  refine Wp.loopK (by kernel_rfl) (fun (x : Nat × Nat) => ⟨[(0, .v (.c (.str s))), (6, .v (.c (.int .i64 (x.2 : Int)))), (32, .v (.c (.int .i64 (s.length : Int)))), (33, .v (.c (.int .i64 (x.1 : Int))))], [], 448⟩) (fun x => x.1 ≤ s.length ∧ x.2 = nv (s.take x.1)) (fun x => s.length - x.1) (0, 0) (Ent.of [] (by kernel_rfl) (by kernel_rfl) (by kernel_rfl) trivial) ⟨Nat.zero_le _, rfl⟩ ?_
  rintro ⟨k, n⟩ L ⟨hk, hn⟩ again
  simp only at hk hn
  rcases Nat.lt_or_ge k s.length with hlk | hge
  · have hb := dig_to (hall k hlk)
    have hlim := hlt k hk
    rw [← hn] at hlim
    have hn2 : n * 10 + ((s.getD k 0).toNat - 48) = nv (s.take (k + 1)) := by rw [hnv k hlk, hn]
    have ew : IntKind.u8.wrap (((s.getD k 0).toNat : Int) - 48) = (((s.getD k 0).toNat - 48 : Nat) : Int) := by rw [wrap8 (by omega) (by omega)]; omega
    have ew2 : IntKind.i64.wrap (((s.getD k 0).toNat - 48 : Nat) : Int) = (((s.getD k 0).toNat - 48 : Nat) : Int) := wrap64 (by omega) (by omega)
    have e7 : EqvD (.c (.int .u8 (IntKind.u8.wrap (((s.getD k 0).toNat : Int) - 48)))) (.c (.int .u8 (((s.getD k 0).toNat - 48 : Nat) : Int))) := eqvD_of (by rw [ew])
    have e8 : EqvD (.c (.int .i64 (IntKind.i64.wrap (((s.getD k 0).toNat - 48 : Nat) : Int)))) (.c (.int .i64 (((s.getD k 0).toNat - 48 : Nat) : Int))) := eqvD_of (by rw [ew2])
    have e9 : EqvD (.c (.int .i64 ((n : Int) * 10 + (((s.getD k 0).toNat - 48 : Nat) : Int)))) (.c (.int .i64 ((n * 10 + ((s.getD k 0).toNat - 48) : Nat) : Int))) := eqvD_of (by rw [show (n : Int) * 10 + (((s.getD k 0).toNat - 48 : Nat) : Int) = ((n * 10 + ((s.getD k 0).toNat - 48) : Nat) : Int) from by omega])
    have hlim2 : n < 1000000000000000 := Nat.lt_of_lt_of_le hlim (Nat.pow_le_pow_right (n := 10) (by decide) hK)
    clear ew ew2 hlt hnv hall ht hlim hn
    refine Wp.go (mx := true) (fun _ => mixed) [(7, {fm := [(5, .c (.int .u8 (((s.getD k 0).toNat - 48 : Nat) : Int))), (6, .c (.int .i64 (((s.getD k 0).toNat - 48 : Nat) : Int))), (7, .c (.int .i64 ((n * 10 + ((s.getD k 0).toNat - 48) : Nat) : Int)))]})] 100 [true] [decide ((↑k : Int) < (↑s.length : Int)) = true, inR IntKind.i64 ((↑n : Int) * (10 : Int)), (0 : Int) ≤ (↑k : Int) ∧ (↑k : Int) < (↑s.length : Int), EqvI (V1.c (Cell.int .u8 (IntKind.u8.wrap ((↑(s.getD k (0 : UInt8)).toNat : Int) - (48 : Int))))) (V1.c (Cell.int .u8 (↑((s.getD k (0 : UInt8)).toNat - (48 : Nat)) : Int))), EqvD (V1.c (Cell.int .u8 (IntKind.u8.wrap ((↑(s.getD k (0 : UInt8)).toNat : Int) - (48 : Int))))) (V1.c (Cell.int .u8 (↑((s.getD k (0 : UInt8)).toNat - (48 : Nat)) : Int))), EqvI (V1.c (Cell.int .i64 (IntKind.i64.wrap (↑((s.getD k (0 : UInt8)).toNat - (48 : Nat)) : Int)))) (V1.c (Cell.int .i64 (↑((s.getD k (0 : UInt8)).toNat - (48 : Nat)) : Int))), EqvD (V1.c (Cell.int .i64 (IntKind.i64.wrap (↑((s.getD k (0 : UInt8)).toNat - (48 : Nat)) : Int)))) (V1.c (Cell.int .i64 (↑((s.getD k (0 : UInt8)).toNat - (48 : Nat)) : Int))), EqvI (V1.c (Cell.int .i64 ((↑n : Int) * (10 : Int) + (↑((s.getD k (0 : UInt8)).toNat - (48 : Nat)) : Int)))) (V1.c (Cell.int .i64 (↑(n * (10 : Nat) + ((s.getD k (0 : UInt8)).toNat - (48 : Nat))) : Int))), EqvD (V1.c (Cell.int .i64 ((↑n : Int) * (10 : Int) + (↑((s.getD k (0 : UInt8)).toNat - (48 : Nat)) : Int)))) (V1.c (Cell.int .i64 (↑(n * (10 : Nat) + ((s.getD k (0 : UInt8)).toNat - (48 : Nat))) : Int))), inR IntKind.i64 ((↑n : Int) * (10 : Int) + (↑((s.getD k (0 : UInt8)).toNat - (48 : Nat)) : Int)), inR IntKind.i64 ((↑k : Int) + (1 : Int))] (by kernel_rfl) (by kernel_rfl) (by kernel_rfl) ⟨(by simp; omega), inR64 (by omega) (by omega), (by omega), fun _ _ => trivial, (by assumption), fun _ _ => trivial, (by assumption), fun _ _ => trivial, (by assumption), inR64 (by omega) (by omega), inR64 (by omega) (by omega)⟩ ?_
    exact Wp.lpK (by kernel_rfl) (again _ (k + 1, n * 10 + ((s.getD k 0).toNat - 48)) ⟨(by assumption), (by assumption)⟩ (by omega) (Ent.of [] (by kernel_rfl) (by kernel_rfl) (by kernel_rfl) trivial))
  · rw [List.take_of_length_le hge] at hn
    subst hn
    clear hlt hnv hall ht
    refine Wp.go (mx := true) (fun _ => mixed) [] 100 [false] [decide ((↑k : Int) < (↑s.length : Int)) = false] (by kernel_rfl) (by kernel_rfl) (by kernel_rfl) (show decide ((↑k : Int) < (↑s.length : Int)) = false from (by simp; omega)) ?_
    refine Wp.ret' (by kernel_rfl) ?_
    exact FinQ.pure (rs' := [V1.c (Cell.int .i64 (↑(nv s) : Int)), V1.c (Cell.bool true)]) (by kernel_rfl) rfl (by kernel_rfl)
theorem numK_no {K : Nat} (s : List UInt8) (hl : s.length < 1000000000) (h : numK K s = false) : Pur Tryz.prog G 43 [.c (.str s), .c (.int .i64 (K : Int))] [.c (.int .i64 0), .c (.bool false)] := by
  refine Pur.of Tryz.func43 (by kernel_rfl) (by kernel_rfl) (by kernel_rfl) ?_
  have c := All_digit (G := G) s (by omega)
  have hi0 : (((s.getD 0 0).toNat : Int) == 48) = (s.getD 0 0 == 48) := ibeq (s.getD 0 0) 48
  have hi1 : decide ((s.length : Int) > 1) = true → 0 ≤ (0 : Int) ∧ (0 : Int) < (s.length : Int) := fun h => by have := of_decide_eq_true h; omega
  have ht : (bif bif bif s == [] then true else decide ((s.length : Int) > (K : Int)) then true else !s.all digitB then true else bif decide ((s.length : Int) > 1) then ((s.getD 0 0).toNat : Int) == 48 else false) = true := by
    rw [hi0]
    unfold numK canonB at h
    revert h
    have hd1 : decide ((s.length : Int) > (K : Int)) = !decide (s.length ≤ K) := by by_cases hh : s.length ≤ K <;> simp [hh] <;> omega
    have hd2 : decide ((s.length : Int) > 1) = decide (1 < s.length) := by by_cases hh : 1 < s.length <;> simp [hh] <;> omega
    rw [hd1, hd2]
    cases (s == []) <;> cases decide (s.length ≤ K) <;> cases (s.all digitB) <;> cases decide (1 < s.length) <;> cases (s.getD 0 0 == 48) <;> decide
  clear h hi0
  refine Wp.go (mx := true) (fun _ => mixed) [(1, {cs := [(10, pc c)]})] 100 [true] [decide ((↑s.length : Int) > (1 : Int)) = true ∧ (bif bif s == [] then true else decide ((↑s.length : Int) > (↑K : Int)) then true else !s.all digitB) = false → (0 : Int) ≤ (0 : Int) ∧ (0 : Int) < (↑s.length : Int), (bif bif bif s == [] then true else decide ((↑s.length : Int) > (↑K : Int)) then true else !s.all digitB then true else bif decide ((↑s.length : Int) > (1 : Int)) then (↑(s.getD (0 : Nat) (0 : UInt8)).toNat : Int) == (48 : Int) else false) = true] (by kernel_rfl) (by kernel_rfl) (by kernel_rfl) ⟨(by simp; omega), (show (bif bif bif s == [] then true else decide ((↑s.length : Int) > (↑K : Int)) then true else !s.all digitB then true else bif decide ((↑s.length : Int) > (1 : Int)) then (↑(s.getD (0 : Nat) (0 : UInt8)).toNat : Int) == (48 : Int) else false) = true from (by assumption))⟩ ?_
  refine Wp.ret' (by kernel_rfl) ?_
  exact FinQ.pure (rs' := [V1.c (Cell.int .i64 (0 : Int)), V1.c (Cell.bool false)]) (by kernel_rfl) rfl (by kernel_rfl)
end Go.Proofs.Tw
end

section
open Go Go.Sv Go.RowKit
namespace Go.Proofs.Tw

def HasPow (G : Nat → Option (List Cell)) : Prop := G 1 = some (Lib.pow10Tab.map fun z => .int .u64 z)
def HasLen (G : Nat → Option (List Cell)) : Prop := ∃ m : Int, G 0 = some [.int .i64 m]
theorem itoa_p {G : Nat → Option (List Cell)} (hp : HasPow G) (n : Int) (h0 : -9223372036854775808 ≤ n) (h1 : n ≤ 9223372036854775807) : Pur Tryz.prog G 92 [.c (.int .i64 n)] [.c (.str (Lib.itoa n))] := lib_Itoa 1 (by kernel_rfl) hp n h0 h1
end Go.Proofs.Tw
end

section
open Go Go.Sv
namespace Go.Proofs.Tw
attribute [local irreducible] Wp FinQ resV Ent Pur Go.Sv.Fn Sat0
set_option maxRecDepth 100000
set_option maxHeartbeats 4000000

/-- A builder's first text. -/
theorem ws_a {G : Nat → Option (List Cell)} (s : List UInt8) (hm : s.length ≤ 140737488355328) : FnB Tryz.prog G 108 [.box 125 [.nilptr, .nilsl]] [.c (.ptr 0 0), .c (.str s)] [.c (.int .i64 s.length), .c .nilif]
    [(0, .box 125 [.ptr 0 0, .row 1 1 0 (0 + s.length)]), (1, .row 5 1 (0 + s.length) (bytesF s))] := by
  refine Fn.of' Tryz.func108 (by kernel_rfl) (by kernel_rfl) (by kernel_rfl) (by kernel_rfl) trivial ?_
  refine Wp.go (mx := true) (fun _ => mixed) [(1, {cs := [(1, cb [0] cc_a)]}), (2, {bs := [(6, .row 5 1 (0 + s.length) (bytesF s))]})] 100 [] [(0 + s.length) * 1 ≤ 140737488355328, BlkEqv (.row 5 1 (0 + s.length) (catF 0 (fun _ _ => .nilif) (bytesF s))) (.row 5 1 (0 + s.length) (bytesF s))] (by kernel_rfl) (by kernel_rfl) (by kernel_rfl) ⟨by omega, ?_⟩ ?_
  · refine BlkEqv.row_ext rfl fun i hi j hj => ?_
    unfold catF
    rw [if_neg (by omega), Nat.sub_zero]
  refine Wp.ret' (by kernel_rfl) ?_
  exact FinQ.blk [161] (by kernel_rfl) (by kernel_rfl) (by kernel_rfl) (by kernel_rfl) (by kernel_rfl) trivial
/-- A message: its first line, its fields, its body. -/
structure MT where
  (first : List UInt8) (head : List FT) (body : List UInt8)
def encM (m : MT) : List Cell := [.str m.first, encH m.head, .str m.body]
def seenL (l : List (List UInt8)) : List (List UInt8 × V1) := l.map fun s => (s, .c (.bool true))
theorem seenL_get (l : List (List UInt8)) (s : List UInt8) : mget (seenL l) s (.c (.bool false)) = .c (.bool (l.contains s)) := by
  have := seen_get l l.length s
  rwa [seenM, List.take_length] at this
theorem seenL_set (l : List (List UInt8)) (s : List UInt8) (h : l.contains s = false) : mset (seenL l) s (.c (.bool true)) = seenL (l ++ [s]) := by
  have := seen_set (l ++ [s]) l.length (by simp) (by simpa using h)
  rw [seenM, seenM, List.take_left, show l.length + 1 = (l ++ [s]).length from by simp, List.take_length] at this
  simpa [seenL, List.getD] using this
def fOk (seen : List (List UInt8)) (f : FT) : Bool := !(bif bif bif !(tokenT f.name) then true else !(foldT f.name == f.name) then true else seen.contains f.name then true else !(f.value.all seenB))
def fieldsOk : List (List UInt8) → List FT → Bool
  | _, [] => true
  | seen, f :: r => fOk seen f && fieldsOk (seen ++ [f.name]) r
def namesF (l : List FT) (k : Nat) : List (List UInt8) := [99, 111, 110, 116, 101, 110, 116, 45, 108, 101, 110, 103, 116, 104] :: (l.take k).map (·.name)
def roomT (m : MT) : Int := if m.body == [] then 24 else 23
def fieldedT (m : MT) : Bool := fieldsOk [[99, 111, 110, 116, 101, 110, 116, 45, 108, 101, 110, 103, 116, 104]] m.head && decide ((m.head.length : Int) ≤ roomT m)
theorem namesF_succ (l : List FT) (k : Nat) (h : k < l.length) : namesF l (k + 1) = namesF l k ++ [(l.getD k .nil).name] := by
  unfold namesF
  rw [List.take_succ_eq_append_getElem h, List.map_append, List.getD_eq_getElem?_getD, List.getElem?_eq_getElem h]
  rfl
theorem fielded_ok {G : Nat → Option (List Cell)} (m : MT) (hn : m.head.length < 4611686018427387904) (hs : ∀ f ∈ m.head, f.name.length ≤ 140737488355328 ∧ f.value.length ≤ 140737488355328) : Pur Tryz.prog G 88 [.agg (encM m)] [.c (.bool (fieldedT m))] := by
  refine Pur.of Tryz.func88 (by kernel_rfl) (by kernel_rfl) (by kernel_rfl) ?_
  cases hb : m.body == [] with
  | true =>
    have hb' : (!(m.body == [])) = false := by rw [hb]; rfl
    have hr : roomT m = 24 := by unfold roomT; rw [if_pos hb]
    refine Wp.go (mx := true) (fun _ => mixed) [] 100 [false] [(!m.body == []) = false] (by kernel_rfl) (by kernel_rfl) (by kernel_rfl) hb' ?_
    refine Wp.loopK (by kernel_rfl) (fun (k : Nat) => ⟨[(1, TV.v (V1.c (Cell.ptr 0 0))), (3, TV.v (V1.c (Cell.int .i64 (24 : Int)))), (4, TV.v (V1.c (Cell.map 32))), (15, TV.v (V1.c (encH m.head))), (16, TV.v (V1.c (Cell.int .i64 (m.head.length : Int)))), (17, TV.v (V1.c (Cell.int .i64 (k : Int))))], [(0, Blk.box 75 (encM m)), (32, Blk.ob (Ob.ms (seenL (namesF m.head k))))], 224⟩) (fun k => k ≤ m.head.length ∧ fieldsOk [[99, 111, 110, 116, 101, 110, 116, 45, 108, 101, 110, 103, 116, 104]] m.head = fieldsOk (namesF m.head k) (m.head.drop k)) (fun k => m.head.length - k) 0 (Ent.of [] (by kernel_rfl) (by kernel_rfl) (by kernel_rfl) trivial) ⟨Nat.zero_le _, rfl⟩ ?_
    intro k L ⟨hk, hq⟩ again
    rcases Nat.lt_or_ge k m.head.length with hlt | hge
    · rw [drop_cons m.head k .nil hlt, fieldsOk] at hq
      have hm : m.head.getD k .nil ∈ m.head := by simp [List.getD, hlt]
      have hs1 := (hs _ hm).1
      have hs2 := (hs _ hm).2
      have e0 : EqvD (mget (seenL (namesF m.head k)) (m.head.getD k .nil).name (.c (.bool false))) (.c (.bool ((namesF m.head k).contains (m.head.getD k .nil).name))) := eqvD_of (seenL_get _ _)
      cases hf : fOk (namesF m.head k) (m.head.getD k .nil) with
      | false =>
        rw [hf, Bool.false_and] at hq
        have hb : fieldedT m = false := by unfold fieldedT; rw [hq]; rfl
        rw [hb]
        have ht : (bif bif bif !(tokenT (m.head.getD k .nil).name) then true else !(foldT (m.head.getD k .nil).name == (m.head.getD k .nil).name) then true else (namesF m.head k).contains (m.head.getD k .nil).name then true else !((m.head.getD k .nil).value.all seenB)) = true := by unfold fOk at hf; rw [Bool.not_eq_false'] at hf; exact hf
        refine Wp.go (mx := true) (fun _ => mixed) [(7, {cs := [(2, pc (token_ok ((m.head.getD k FT.nil).name) (by omega))), (7, pc (fold_ok ((m.head.getD k FT.nil).name) (by assumption))), (21, pc (seen_ok ((m.head.getD k FT.nil).value) (by omega)))], fm := [(16, .c (.bool ((namesF m.head k).contains (m.head.getD k .nil).name)))]})] 100 [true, true] [decide ((↑k : Int) < (↑m.head.length : Int)) = true, (0 : Int) ≤ (↑k : Int) ∧ (↑k : Int) < (↑m.head.length : Int), EqvI (mget (seenL (namesF m.head k)) (m.head.getD k FT.nil).name (V1.c (Cell.bool false))) (V1.c (Cell.bool ((namesF m.head k).contains (m.head.getD k FT.nil).name))), (bif !tokenT (m.head.getD k FT.nil).name then true else !foldT (m.head.getD k FT.nil).name == (m.head.getD k FT.nil).name) = false → EqvD (mget (seenL (namesF m.head k)) (m.head.getD k FT.nil).name (V1.c (Cell.bool false))) (V1.c (Cell.bool ((namesF m.head k).contains (m.head.getD k FT.nil).name))), (bif bif bif !tokenT (m.head.getD k FT.nil).name then true else !foldT (m.head.getD k FT.nil).name == (m.head.getD k FT.nil).name then true else (namesF m.head k).contains (m.head.getD k FT.nil).name then true else !(m.head.getD k FT.nil).value.all seenB) = true] (by kernel_rfl) (by kernel_rfl) (by kernel_rfl) ⟨(by simp; omega), (by omega), fun _ _ => trivial, (by intro _; assumption), (show (bif bif bif !tokenT (m.head.getD k FT.nil).name then true else !foldT (m.head.getD k FT.nil).name == (m.head.getD k FT.nil).name then true else (namesF m.head k).contains (m.head.getD k FT.nil).name then true else !(m.head.getD k FT.nil).value.all seenB) = true from (by assumption))⟩ ?_
        refine Wp.ret' (by kernel_rfl) ?_
        exact FinQ.pure (rs' := [V1.c (Cell.bool false)]) (by kernel_rfl) rfl (by kernel_rfl)
      | true =>
        rw [hf, Bool.true_and, ← namesF_succ _ _ hlt] at hq
        have ht : (bif bif bif !(tokenT (m.head.getD k .nil).name) then true else !(foldT (m.head.getD k .nil).name == (m.head.getD k .nil).name) then true else (namesF m.head k).contains (m.head.getD k .nil).name then true else !((m.head.getD k .nil).value.all seenB)) = false := by unfold fOk at hf; rw [Bool.not_eq_true'] at hf; exact hf
        have hc : (namesF m.head k).contains (m.head.getD k .nil).name = false := by
          cases hc : (namesF m.head k).contains (m.head.getD k .nil).name with
          | false => rfl
          | true => rw [hc] at ht; revert ht; cases tokenT (m.head.getD k .nil).name <;> cases foldT (m.head.getD k .nil).name == (m.head.getD k .nil).name <;> (intro h; cases h)
        have e2 : BlkEqv (.ob (.ms (mset (seenL (namesF m.head k)) (m.head.getD k .nil).name (.c (.bool true))))) (.ob (.ms (seenL (namesF m.head (k + 1))))) := BlkEqv.of_eq (by rw [seenL_set _ _ hc, namesF_succ _ _ hlt])
        refine Wp.go (mx := true) (fun _ => mixed) [(7, {cs := [(2, pc (token_ok ((m.head.getD k FT.nil).name) (by omega))), (7, pc (fold_ok ((m.head.getD k FT.nil).name) (by assumption))), (21, pc (seen_ok ((m.head.getD k FT.nil).value) (by omega)))], fm := [(16, .c (.bool ((namesF m.head k).contains (m.head.getD k .nil).name)))]}), (9, {bs := [(3, .ob (.ms (seenL (namesF m.head (k + 1)))))]})] 100 [true, false] [decide ((↑k : Int) < (↑m.head.length : Int)) = true, (0 : Int) ≤ (↑k : Int) ∧ (↑k : Int) < (↑m.head.length : Int), EqvI (mget (seenL (namesF m.head k)) (m.head.getD k FT.nil).name (V1.c (Cell.bool false))) (V1.c (Cell.bool ((namesF m.head k).contains (m.head.getD k FT.nil).name))), (bif !tokenT (m.head.getD k FT.nil).name then true else !foldT (m.head.getD k FT.nil).name == (m.head.getD k FT.nil).name) = false → EqvD (mget (seenL (namesF m.head k)) (m.head.getD k FT.nil).name (V1.c (Cell.bool false))) (V1.c (Cell.bool ((namesF m.head k).contains (m.head.getD k FT.nil).name))), (bif bif bif !tokenT (m.head.getD k FT.nil).name then true else !foldT (m.head.getD k FT.nil).name == (m.head.getD k FT.nil).name then true else (namesF m.head k).contains (m.head.getD k FT.nil).name then true else !(m.head.getD k FT.nil).value.all seenB) = false, BlkEqv (Blk.ob (Ob.ms (mset (seenL (namesF m.head k)) (m.head.getD k FT.nil).name (V1.c (Cell.bool true))))) (Blk.ob (Ob.ms (seenL (namesF m.head (k + (1 : Nat)))))), inR IntKind.i64 ((↑k : Int) + (1 : Int))] (by kernel_rfl) (by kernel_rfl) (by kernel_rfl) ⟨(by simp; omega), (by omega), fun _ _ => trivial, (by intro _; assumption), (by assumption), (by assumption), inR64 (by omega) (by omega)⟩ ?_
        exact Wp.lpK (by kernel_rfl) (again _ (k + 1) (⟨(by assumption), (by assumption)⟩) (by omega) (Ent.of [] (by kernel_rfl) (by kernel_rfl) (by kernel_rfl) trivial))
    · obtain rfl : k = m.head.length := by omega
      rw [List.drop_length, fieldsOk] at hq
      have hb : fieldedT m = decide ((m.head.length : Int) ≤ 24) := by unfold fieldedT; rw [hq, hr]; rfl
      rw [hb]
      refine Wp.go (mx := true) (fun _ => mixed) [] 100 [false] [decide ((↑m.head.length : Int) < (↑m.head.length : Int)) = false] (by kernel_rfl) (by kernel_rfl) (by kernel_rfl) ((show decide ((↑m.head.length : Int) < (↑m.head.length : Int)) = false from (by simp; done))) ?_
      refine Wp.ret' (by kernel_rfl) ?_
      exact FinQ.pure (rs' := [V1.c (Cell.bool (decide ((↑m.head.length : Int) ≤ (24 : Int))))]) (by kernel_rfl) rfl (by kernel_rfl)
  | false =>
    have hb' : (!(m.body == [])) = true := by rw [hb]; rfl
    have hr : roomT m = 23 := by unfold roomT; rw [if_neg (by rw [hb]; decide)]
    refine Wp.go (mx := true) (fun _ => mixed) [] 100 [true] [(!m.body == []) = true, inR .i64 ((24 : Int) - (1 : Int))] (by kernel_rfl) (by kernel_rfl) (by kernel_rfl) ⟨hb', inR64 (by decide) (by decide)⟩ ?_
    refine Wp.loopK (by kernel_rfl) (fun (k : Nat) => ⟨[(1, TV.v (V1.c (Cell.ptr 0 0))), (3, TV.v (V1.c (Cell.int .i64 ((24 : Int) - (1 : Int))))), (4, TV.v (V1.c (Cell.map 32))), (15, TV.v (V1.c (encH m.head))), (16, TV.v (V1.c (Cell.int .i64 (m.head.length : Int)))), (17, TV.v (V1.c (Cell.int .i64 (k : Int))))], [(0, Blk.box 75 (encM m)), (32, Blk.ob (Ob.ms (seenL (namesF m.head k))))], 272⟩) (fun k => k ≤ m.head.length ∧ fieldsOk [[99, 111, 110, 116, 101, 110, 116, 45, 108, 101, 110, 103, 116, 104]] m.head = fieldsOk (namesF m.head k) (m.head.drop k)) (fun k => m.head.length - k) 0 (Ent.of [] (by kernel_rfl) (by kernel_rfl) (by kernel_rfl) trivial) ⟨Nat.zero_le _, rfl⟩ ?_
    intro k L ⟨hk, hq⟩ again
    rcases Nat.lt_or_ge k m.head.length with hlt | hge
    · rw [drop_cons m.head k .nil hlt, fieldsOk] at hq
      have hm : m.head.getD k .nil ∈ m.head := by simp [List.getD, hlt]
      have hs1 := (hs _ hm).1
      have hs2 := (hs _ hm).2
      have e0 : EqvD (mget (seenL (namesF m.head k)) (m.head.getD k .nil).name (.c (.bool false))) (.c (.bool ((namesF m.head k).contains (m.head.getD k .nil).name))) := eqvD_of (seenL_get _ _)
      cases hf : fOk (namesF m.head k) (m.head.getD k .nil) with
      | false =>
        rw [hf, Bool.false_and] at hq
        have hb : fieldedT m = false := by unfold fieldedT; rw [hq]; rfl
        rw [hb]
        have ht : (bif bif bif !(tokenT (m.head.getD k .nil).name) then true else !(foldT (m.head.getD k .nil).name == (m.head.getD k .nil).name) then true else (namesF m.head k).contains (m.head.getD k .nil).name then true else !((m.head.getD k .nil).value.all seenB)) = true := by unfold fOk at hf; rw [Bool.not_eq_false'] at hf; exact hf
        refine Wp.go (mx := true) (fun _ => mixed) [(7, {cs := [(2, pc (token_ok ((m.head.getD k FT.nil).name) (by omega))), (7, pc (fold_ok ((m.head.getD k FT.nil).name) (by assumption))), (21, pc (seen_ok ((m.head.getD k FT.nil).value) (by omega)))], fm := [(16, .c (.bool ((namesF m.head k).contains (m.head.getD k .nil).name)))]})] 100 [true, true] [decide ((↑k : Int) < (↑m.head.length : Int)) = true, (0 : Int) ≤ (↑k : Int) ∧ (↑k : Int) < (↑m.head.length : Int), EqvI (mget (seenL (namesF m.head k)) (m.head.getD k FT.nil).name (V1.c (Cell.bool false))) (V1.c (Cell.bool ((namesF m.head k).contains (m.head.getD k FT.nil).name))), (bif !tokenT (m.head.getD k FT.nil).name then true else !foldT (m.head.getD k FT.nil).name == (m.head.getD k FT.nil).name) = false → EqvD (mget (seenL (namesF m.head k)) (m.head.getD k FT.nil).name (V1.c (Cell.bool false))) (V1.c (Cell.bool ((namesF m.head k).contains (m.head.getD k FT.nil).name))), (bif bif bif !tokenT (m.head.getD k FT.nil).name then true else !foldT (m.head.getD k FT.nil).name == (m.head.getD k FT.nil).name then true else (namesF m.head k).contains (m.head.getD k FT.nil).name then true else !(m.head.getD k FT.nil).value.all seenB) = true] (by kernel_rfl) (by kernel_rfl) (by kernel_rfl) ⟨(by simp; omega), (by omega), fun _ _ => trivial, (by intro _; assumption), (show (bif bif bif !tokenT (m.head.getD k FT.nil).name then true else !foldT (m.head.getD k FT.nil).name == (m.head.getD k FT.nil).name then true else (namesF m.head k).contains (m.head.getD k FT.nil).name then true else !(m.head.getD k FT.nil).value.all seenB) = true from (by assumption))⟩ ?_
        refine Wp.ret' (by kernel_rfl) ?_
        exact FinQ.pure (rs' := [V1.c (Cell.bool false)]) (by kernel_rfl) rfl (by kernel_rfl)
      | true =>
        rw [hf, Bool.true_and, ← namesF_succ _ _ hlt] at hq
        have ht : (bif bif bif !(tokenT (m.head.getD k .nil).name) then true else !(foldT (m.head.getD k .nil).name == (m.head.getD k .nil).name) then true else (namesF m.head k).contains (m.head.getD k .nil).name then true else !((m.head.getD k .nil).value.all seenB)) = false := by unfold fOk at hf; rw [Bool.not_eq_true'] at hf; exact hf
        have hc : (namesF m.head k).contains (m.head.getD k .nil).name = false := by
          cases hc : (namesF m.head k).contains (m.head.getD k .nil).name with
          | false => rfl
          | true => rw [hc] at ht; revert ht; cases tokenT (m.head.getD k .nil).name <;> cases foldT (m.head.getD k .nil).name == (m.head.getD k .nil).name <;> (intro h; cases h)
        have e2 : BlkEqv (.ob (.ms (mset (seenL (namesF m.head k)) (m.head.getD k .nil).name (.c (.bool true))))) (.ob (.ms (seenL (namesF m.head (k + 1))))) := BlkEqv.of_eq (by rw [seenL_set _ _ hc, namesF_succ _ _ hlt])
        refine Wp.go (mx := true) (fun _ => mixed) [(7, {cs := [(2, pc (token_ok ((m.head.getD k FT.nil).name) (by omega))), (7, pc (fold_ok ((m.head.getD k FT.nil).name) (by assumption))), (21, pc (seen_ok ((m.head.getD k FT.nil).value) (by omega)))], fm := [(16, .c (.bool ((namesF m.head k).contains (m.head.getD k .nil).name)))]}), (9, {bs := [(3, .ob (.ms (seenL (namesF m.head (k + 1)))))]})] 100 [true, false] [decide ((↑k : Int) < (↑m.head.length : Int)) = true, (0 : Int) ≤ (↑k : Int) ∧ (↑k : Int) < (↑m.head.length : Int), EqvI (mget (seenL (namesF m.head k)) (m.head.getD k FT.nil).name (V1.c (Cell.bool false))) (V1.c (Cell.bool ((namesF m.head k).contains (m.head.getD k FT.nil).name))), (bif !tokenT (m.head.getD k FT.nil).name then true else !foldT (m.head.getD k FT.nil).name == (m.head.getD k FT.nil).name) = false → EqvD (mget (seenL (namesF m.head k)) (m.head.getD k FT.nil).name (V1.c (Cell.bool false))) (V1.c (Cell.bool ((namesF m.head k).contains (m.head.getD k FT.nil).name))), (bif bif bif !tokenT (m.head.getD k FT.nil).name then true else !foldT (m.head.getD k FT.nil).name == (m.head.getD k FT.nil).name then true else (namesF m.head k).contains (m.head.getD k FT.nil).name then true else !(m.head.getD k FT.nil).value.all seenB) = false, BlkEqv (Blk.ob (Ob.ms (mset (seenL (namesF m.head k)) (m.head.getD k FT.nil).name (V1.c (Cell.bool true))))) (Blk.ob (Ob.ms (seenL (namesF m.head (k + (1 : Nat)))))), inR IntKind.i64 ((↑k : Int) + (1 : Int))] (by kernel_rfl) (by kernel_rfl) (by kernel_rfl) ⟨(by simp; omega), (by omega), fun _ _ => trivial, (by intro _; assumption), (by assumption), (by assumption), inR64 (by omega) (by omega)⟩ ?_
        exact Wp.lpK (by kernel_rfl) (again _ (k + 1) (⟨(by assumption), (by assumption)⟩) (by omega) (Ent.of [] (by kernel_rfl) (by kernel_rfl) (by kernel_rfl) trivial))
    · obtain rfl : k = m.head.length := by omega
      rw [List.drop_length, fieldsOk] at hq
      have hb : fieldedT m = decide ((m.head.length : Int) ≤ 23) := by unfold fieldedT; rw [hq, hr]; rfl
      rw [hb]
      refine Wp.go (mx := true) (fun _ => mixed) [] 100 [false] [decide ((↑m.head.length : Int) < (↑m.head.length : Int)) = false] (by kernel_rfl) (by kernel_rfl) (by kernel_rfl) ((show decide ((↑m.head.length : Int) < (↑m.head.length : Int)) = false from (by simp; done))) ?_
      refine Wp.ret' (by kernel_rfl) ?_
      exact FinQ.pure (rs' := [V1.c (Cell.bool (decide ((↑m.head.length : Int) ≤ (24 : Int) - (1 : Int))))]) (by kernel_rfl) rfl (by kernel_rfl)
def fieldL (f : FT) : List UInt8 := f.name ++ [58, 32] ++ f.value ++ [13, 10]
def headN (m : MT) (k : Nat) : List UInt8 := m.first ++ [13, 10] ++ (m.head.take k).flatMap fieldL
def lenL (m : MT) : List UInt8 := if m.body == [] then [] else [99, 111, 110, 116, 101, 110, 116, 45, 108, 101, 110, 103, 116, 104, 58, 32] ++ Lib.itoa m.body.length ++ [13, 10]
/-- What stands ahead of a body. -/
def aheadT (m : MT) : List UInt8 := headN m m.head.length ++ lenL m ++ [13, 10]
theorem headN_succ (m : MT) (k : Nat) (h : k < m.head.length) : headN m (k + 1) = headN m k ++ fieldL (m.head.getD k .nil) := by
  unfold headN
  rw [List.take_succ_eq_append_getElem h, List.flatMap_append, List.getD_eq_getElem?_getD, List.getElem?_eq_getElem h]
  simp
theorem headN_le (m : MT) {k n : Nat} (h : k ≤ n) : (headN m k).length ≤ (headN m n).length := by
  obtain ⟨d, rfl⟩ := Nat.exists_eq_add_of_le h
  induction d with
  | zero => exact Nat.le_refl _
  | succ d ih =>
    refine Nat.le_trans (ih (by omega)) ?_
    rcases Nat.lt_or_ge (k + d) m.head.length with hlt | hge
    · rw [← Nat.add_assoc, headN_succ m _ hlt]; simp
    · unfold headN
      rw [List.take_of_length_le hge, List.take_of_length_le (by omega)]
      exact Nat.le_refl _
theorem field_len (f : FT) : (fieldL f).length = f.name.length + f.value.length + 4 := by
  unfold fieldL; simp; omega
theorem ahead_ok {G : Nat → Option (List Cell)} (hp : HasPow G) (m : MT) (hn : m.head.length < 4611686018427387904) (hb : m.body.length ≤ 140737488355328) (hA : (aheadT m).length ≤ 100000000000000) : Pur Tryz.prog G 89 [.agg (encM m)] [.c (.str (aheadT m))] := by
  refine Pur.of Tryz.func89 (by kernel_rfl) (by kernel_rfl) (by kernel_rfl) ?_
  have hA1 : (headN m m.head.length).length + (lenL m).length + 2 ≤ 100000000000000 := by
    unfold aheadT at hA; simp only [List.length_append] at hA; simpa using hA
  have h0 := headN_le m (Nat.zero_le m.head.length)
  have h0' : (headN m 0).length = m.first.length + 2 := by unfold headN; simp
  refine Wp.go (mx := true) (fun _ => mixed) [(2, {cs := [(3, cb [32] (ws_a (m.first ++ [(13 : UInt8), 10]) (by simp; omega)))]})] 100 [] [m.first.length + (2 : Nat) ≤ (9223372036854775807 : Nat)] (by kernel_rfl) (by kernel_rfl) (by kernel_rfl) ((show m.first.length + (2 : Nat) ≤ (9223372036854775807 : Nat) from (by omega))) ?_
  refine Wp.loopK (by kernel_rfl) (fun (x : Nat × Nat × List UInt8) => ⟨[(1, TV.v (V1.c (Cell.ptr 0 0))), (3, TV.v (V1.c (Cell.ptr 32 0))), (11, TV.v (V1.c (encH m.head))), (12, TV.v (V1.c (Cell.int .i64 (m.head.length : Int)))), (13, TV.v (V1.c (Cell.int .i64 (x.1 : Int))))], [(0, Blk.box 75 (encM m)), (32, Blk.box 125 [Cell.ptr 32 0, Cell.row 1 96 0 x.2.1]), (96, Blk.row 5 1 x.2.1 (bytesF x.2.2))], 176⟩) (fun x => x.1 ≤ m.head.length ∧ x.2.2 = headN m x.1 ∧ x.2.1 = x.2.2.length) (fun x => m.head.length - x.1) (0, 0 + (m.first ++ [13, 10]).length, m.first ++ [13, 10]) (Ent.of [] (by kernel_rfl) (by kernel_rfl) (by kernel_rfl) trivial) ⟨Nat.zero_le _, by unfold headN; simp, by simp⟩ ?_
  rintro ⟨k, n, l⟩ L ⟨hk, hq, hnl⟩ again
  simp only at hk hq hnl
  have h1 := headN_le m hk
  rw [← hq, ← hnl] at h1
  rcases Nat.lt_or_ge k m.head.length with hlt | hge
  · have h2 := headN_le m (show k + 1 ≤ m.head.length from hlt)
    rw [headN_succ m k hlt, List.length_append, field_len, ← hq, ← hnl] at h2
    have h3 : l ++ ((m.head.getD k .nil).name ++ [58, 32] ++ (m.head.getD k .nil).value ++ [13, 10]) = headN m (k + 1) := by rw [headN_succ m k hlt, ← hq]; rfl
    have h4 : n + ((m.head.getD k .nil).name ++ [58, 32] ++ (m.head.getD k .nil).value ++ [13, 10]).length = (l ++ ((m.head.getD k .nil).name ++ [58, 32] ++ (m.head.getD k .nil).value ++ [13, 10])).length := by rw [hnl]; exact List.length_append.symm
    refine Wp.go (mx := true) (fun _ => mixed) [(6, {cs := [(7, cb [32, 96] (ws_b n l (by assumption) ((m.head.getD k FT.nil).name ++ [(58 : UInt8), 32] ++ (m.head.getD k FT.nil).value ++ [(13 : UInt8), 10]) (by simp_all <;> omega)))]})] 100 [true] [decide ((↑k : Int) < (↑m.head.length : Int)) = true, (0 : Int) ≤ (↑k : Int) ∧ (↑k : Int) < (↑m.head.length : Int), (m.head.getD k FT.nil).name.length + (2 : Nat) ≤ (9223372036854775807 : Nat), ((m.head.getD k FT.nil).name ++ [(58 : UInt8), 32]).length + (m.head.getD k FT.nil).value.length ≤ (9223372036854775807 : Nat), ((m.head.getD k FT.nil).name ++ [(58 : UInt8), 32] ++ (m.head.getD k FT.nil).value).length + (2 : Nat) ≤ (9223372036854775807 : Nat), inR IntKind.i64 ((↑k : Int) + (1 : Int))] (by kernel_rfl) (by kernel_rfl) (by kernel_rfl) ⟨(by simp; omega), (by omega), (by omega), (by simp_all <;> omega), (by simp_all <;> omega), inR64 (by omega) (by omega)⟩ ?_
    exact Wp.lpK (by kernel_rfl) (again _ (k + 1, n + ((m.head.getD k .nil).name ++ [58, 32] ++ (m.head.getD k .nil).value ++ [13, 10]).length, l ++ ((m.head.getD k .nil).name ++ [58, 32] ++ (m.head.getD k .nil).value ++ [13, 10])) ⟨(by assumption), ⟨(by assumption), (by assumption)⟩⟩ (by omega) (Ent.of [(96, 368)] (by kernel_rfl) (by kernel_rfl) (by kernel_rfl) trivial))
  · obtain rfl : k = m.head.length := by omega
    have h5 : (headN m 0).length ≤ n := by rw [hnl, hq]; exact headN_le m (Nat.zero_le _)
    have hpos : 0 < n := by omega
    cases hbo : m.body == [] with
    | true =>
      have hb' : (!(m.body == [])) = false := by rw [hbo]; rfl
      have hT : aheadT m = l ++ [13, 10] := by unfold aheadT lenL; rw [hbo, if_pos rfl, hq]; simp
      rw [hT]
      have h6 : n + 2 ≤ 100000000000000 := by omega
      refine Wp.go (mx := true) (fun _ => mixed) [(10, {cs := [(0, cb [32, 96] (str_b n l (by assumption) (by assumption) (by omega)))]})] 100 [false, false] [decide ((↑m.head.length : Int) < (↑m.head.length : Int)) = false, (!m.body == []) = false, l.length + (2 : Nat) ≤ (9223372036854775807 : Nat)] (by kernel_rfl) (by kernel_rfl) (by kernel_rfl) ⟨(by simp; done), (by assumption), (show l.length + (2 : Nat) ≤ (9223372036854775807 : Nat) from (by omega))⟩ ?_
      refine Wp.ret' (by kernel_rfl) ?_
      exact FinQ.pure (rs' := [V1.c (Cell.str (l ++ [(13 : UInt8), 10]))]) (by kernel_rfl) rfl (by kernel_rfl)
    | false =>
      have hb' : (!(m.body == [])) = true := by rw [hbo]; rfl
      have hT : aheadT m = l ++ ([99, 111, 110, 116, 101, 110, 116, 45, 108, 101, 110, 103, 116, 104, 58, 32] ++ Lib.itoa (m.body.length : Int) ++ [13, 10]) ++ [13, 10] := by unfold aheadT lenL; rw [hbo, if_neg (by decide), hq]
      rw [hT]
      have h6 : n + (16 + ((Lib.itoa (m.body.length : Int)).length + 2)) + 2 ≤ 100000000000000 := by
        have : (lenL m).length = 16 + ((Lib.itoa (m.body.length : Int)).length + 2) := by unfold lenL; rw [hbo, if_neg (by decide)]; simp; omega
        omega
      refine Wp.go (mx := true) (fun _ => mixed) [(9, {cs := [(3, pc (itoa_p hp (↑m.body.length : Int) (by omega) (by omega))), (6, cb [32, 96] (ws_b n l (by assumption) ([(99 : UInt8), 111, 110, 116, 101, 110, 116, 45, 108, 101, 110, 103, 116, 104, 58, 32] ++ Lib.itoa (↑m.body.length : Int) ++ [(13 : UInt8), 10]) (by simp; omega)))]}), (10, {cs := [(0, cb [32, 336] (str_b (n + ([(99 : UInt8), 111, 110, 116, 101, 110, 116, 45, 108, 101, 110, 103, 116, 104, 58, 32] ++ Lib.itoa (↑m.body.length : Int) ++ [(13 : UInt8), 10]).length) (l ++ ([(99 : UInt8), 111, 110, 116, 101, 110, 116, 45, 108, 101, 110, 103, 116, 104, 58, 32] ++ Lib.itoa (↑m.body.length : Int) ++ [(13 : UInt8), 10])) (by simp; omega) (by omega) (by simp; omega)))]})] 100 [false, true] [decide ((↑m.head.length : Int) < (↑m.head.length : Int)) = false, (!m.body == []) = true, (16 : Nat) + (Lib.itoa (↑m.body.length : Int)).length ≤ (9223372036854775807 : Nat), ([(99 : UInt8), 111, 110, 116, 101, 110, 116, 45, 108, 101, 110, 103, 116, 104, 58, 32] ++ Lib.itoa (↑m.body.length : Int)).length + (2 : Nat) ≤ (9223372036854775807 : Nat), (l ++ ([(99 : UInt8), 111, 110, 116, 101, 110, 116, 45, 108, 101, 110, 103, 116, 104, 58, 32] ++ Lib.itoa (↑m.body.length : Int) ++ [(13 : UInt8), 10])).length + (2 : Nat) ≤ (9223372036854775807 : Nat)] (by kernel_rfl) (by kernel_rfl) (by kernel_rfl) ⟨(by simp; done), (by assumption), (by omega), (by simp; omega), (show (l ++ ([(99 : UInt8), 111, 110, 116, 101, 110, 116, 45, 108, 101, 110, 103, 116, 104, 58, 32] ++ Lib.itoa (↑m.body.length : Int) ++ [(13 : UInt8), 10])).length + (2 : Nat) ≤ (9223372036854775807 : Nat) from (by simp; omega))⟩ ?_
      refine Wp.ret' (by kernel_rfl) ?_
      exact FinQ.pure (rs' := [V1.c (Cell.str (l ++ ([(99 : UInt8), 111, 110, 116, 101, 110, 116, 45, 108, 101, 110, 103, 116, 104, 58, 32] ++ Lib.itoa (↑m.body.length : Int) ++ [(13 : UInt8), 10]) ++ [(13 : UInt8), 10]))]) (by kernel_rfl) rfl (by kernel_rfl)
end Go.Proofs.Tw
end

section
open Go Go.Sv
namespace Go.Proofs.Tw
attribute [local irreducible] Wp FinQ resV Ent Pur Go.Sv.Fn Sat0
set_option maxRecDepth 100000
set_option maxHeartbeats 4000000
variable {G : Nat → Option (List Cell)}

def mayM (m : MT) : Bool := bif bif fieldedT m then decide ((m.body.length : Int) ≤ 4096) else false then decide (((aheadT m).length : Int) ≤ 2048) else false
/-- What may be shown of a message whose bytes are not too many. -/
structure FitM (m : MT) : Prop where
  hn : m.head.length < 4611686018427387904
  hs : ∀ f ∈ m.head, f.name.length ≤ 140737488355328 ∧ f.value.length ≤ 140737488355328
  hb : m.body.length ≤ 140737488355328
  hA : (aheadT m).length ≤ 100000000000000
theorem fielded_f (m : MT) (h : FitM m) : Pur Tryz.prog G 88 [.agg (encM m)] [.c (.bool (fieldedT m))] := fielded_ok m h.hn h.hs
theorem ahead_f (hp : HasPow G) (m : MT) (h : FitM m) : Pur Tryz.prog G 89 [.agg (encM m)] [.c (.str (aheadT m))] := ahead_ok hp m h.hn h.hb h.hA
theorem mayM_ok (hp : HasPow G) (m : MT) (h : FitM m) : Pur Tryz.prog G 52 [.agg (encM m)] [.c (.bool (mayM m))] := by
  refine Pur.of Tryz.func52 (by kernel_rfl) (by kernel_rfl) (by kernel_rfl) ?_
  have c1 := fielded_f (G := G) m h
  have c2 := ahead_f hp m h
  refine Wp.go (mx := true) (fun _ => mixed) [(1, {cs := [(1, pc c1), (10, pc c2)]})] 100 [] [] (by kernel_rfl) (by kernel_rfl) (by kernel_rfl) trivial ?_
  refine Wp.ret' (by kernel_rfl) ?_
  exact FinQ.pure (rs' := [V1.c (Cell.bool (bif bif fieldedT m then decide ((↑m.body.length : Int) ≤ (4096 : Int)) else false then decide ((↑(aheadT m).length : Int) ≤ (2048 : Int)) else false))]) (by kernel_rfl) rfl (by kernel_rfl)
theorem printM_ok (hp : HasPow G) (m : MT) (h : FitM m) : Pur Tryz.prog G 58 [.agg (encM m)] [.c (.str (aheadT m ++ m.body))] := by
  refine Pur.of Tryz.func58 (by kernel_rfl) (by kernel_rfl) (by kernel_rfl) ?_
  have c2 := ahead_f hp m h
  have h1 := h.hA
  have h2 := h.hb
  refine Wp.go (mx := true) (fun _ => mixed) [(1, {cs := [(1, pc c2)]})] 100 [] [(aheadT m).length + m.body.length ≤ (9223372036854775807 : Nat)] (by kernel_rfl) (by kernel_rfl) (by kernel_rfl) (show (aheadT m).length + m.body.length ≤ (9223372036854775807 : Nat) from (by omega)) ?_
  refine Wp.ret' (by kernel_rfl) ?_
  exact FinQ.pure (rs' := [V1.c (Cell.str (aheadT m ++ m.body))]) (by kernel_rfl) rfl (by kernel_rfl)
def statedT (n : Int) : Bool := bif decide (n ≥ 100) then decide (n ≤ 599) else false
theorem stated_ok (n : Int) : Pur Tryz.prog G 44 [.c (.int .i64 n)] [.c (.bool (statedT n))] := by
  refine Pur.of Tryz.func44 (by kernel_rfl) (by kernel_rfl) (by kernel_rfl) ?_
  refine Wp.go (mx := true) (fun _ => mixed) [] 100 [] [] (by kernel_rfl) (by kernel_rfl) (by kernel_rfl) trivial ?_
  refine Wp.ret' (by kernel_rfl) ?_
  exact FinQ.pure (rs' := [V1.c (Cell.bool (bif decide (n ≥ (100 : Int)) then decide (n ≤ (599 : Int)) else false))]) (by kernel_rfl) rfl (by kernel_rfl)
def reasonT (n : Int) : List UInt8 := if n = 200 then [79, 75] else if n = 302 then [70, 111, 117, 110, 100] else if n = 400 then [66, 97, 100, 32, 82, 101, 113, 117, 101, 115, 116] else if n = 401 then [85, 110, 97, 117, 116, 104, 111, 114, 105, 122, 101, 100] else if n = 403 then [70, 111, 114, 98, 105, 100, 100, 101, 110] else if n = 404 then [78, 111, 116, 32, 70, 111, 117, 110, 100] else if n = 405 then [77, 101, 116, 104, 111, 100, 32, 78, 111, 116, 32, 65, 108, 108, 111, 119, 101, 100] else if n = 413 then [67, 111, 110, 116, 101, 110, 116, 32, 84, 111, 111, 32, 76, 97, 114, 103, 101] else if n = 503 then [83, 101, 114, 118, 105, 99, 101, 32, 85, 110, 97, 118, 97, 105, 108, 97, 98, 108, 101] else [79, 116, 104, 101, 114]
theorem reason_ok (n : Int) : Pur Tryz.prog G 93 [.c (.int .i64 n)] [.c (.str (reasonT n))] := by
  refine Pur.of Tryz.func93 (by kernel_rfl) (by kernel_rfl) (by kernel_rfl) ?_
  refine Wp.go (mx := true) (fun _ => mixed) [] 100 [] [] (by kernel_rfl) (by kernel_rfl) (by kernel_rfl) trivial ?_
  refine Wp.cond' (by kernel_rfl) (n == (200 : Int)) (by kernel_rfl) (fun h0 => ?_) (fun h0 => ?_)
  · have g0 := eq_of_beq h0
    refine Wp.go (mx := true) (fun _ => mixed) [] 100 [] [] (by kernel_rfl) (by kernel_rfl) (by kernel_rfl) trivial ?_
    refine Wp.ret' (by kernel_rfl) ?_
    exact FinQ.pure (rs' := [V1.c (Cell.str [(79 : UInt8), 75])]) (by kernel_rfl) (by simp [reasonT, *]; done) (by kernel_rfl)
  · have g0 := ne_of_beq_false h0
    refine Wp.go (mx := true) (fun _ => mixed) [] 100 [] [] (by kernel_rfl) (by kernel_rfl) (by kernel_rfl) trivial ?_
    refine Wp.cond' (by kernel_rfl) (n == (302 : Int)) (by kernel_rfl) (fun h1 => ?_) (fun h1 => ?_)
    · have g1 := eq_of_beq h1
      refine Wp.go (mx := true) (fun _ => mixed) [] 100 [] [] (by kernel_rfl) (by kernel_rfl) (by kernel_rfl) trivial ?_
      refine Wp.ret' (by kernel_rfl) ?_
      exact FinQ.pure (rs' := [V1.c (Cell.str [(70 : UInt8), 111, 117, 110, 100])]) (by kernel_rfl) (by simp [reasonT, *]; done) (by kernel_rfl)
    · have g1 := ne_of_beq_false h1
      refine Wp.go (mx := true) (fun _ => mixed) [] 100 [] [] (by kernel_rfl) (by kernel_rfl) (by kernel_rfl) trivial ?_
      refine Wp.cond' (by kernel_rfl) (n == (400 : Int)) (by kernel_rfl) (fun h2 => ?_) (fun h2 => ?_)
      · have g2 := eq_of_beq h2
        refine Wp.go (mx := true) (fun _ => mixed) [] 100 [] [] (by kernel_rfl) (by kernel_rfl) (by kernel_rfl) trivial ?_
        refine Wp.ret' (by kernel_rfl) ?_
        exact FinQ.pure (rs' := [V1.c (Cell.str [(66 : UInt8), 97, 100, 32, 82, 101, 113, 117, 101, 115, 116])]) (by kernel_rfl) (by simp [reasonT, *]; done) (by kernel_rfl)
      · have g2 := ne_of_beq_false h2
        refine Wp.go (mx := true) (fun _ => mixed) [] 100 [] [] (by kernel_rfl) (by kernel_rfl) (by kernel_rfl) trivial ?_
        refine Wp.cond' (by kernel_rfl) (n == (401 : Int)) (by kernel_rfl) (fun h3 => ?_) (fun h3 => ?_)
        · have g3 := eq_of_beq h3
          refine Wp.go (mx := true) (fun _ => mixed) [] 100 [] [] (by kernel_rfl) (by kernel_rfl) (by kernel_rfl) trivial ?_
          refine Wp.ret' (by kernel_rfl) ?_
          exact FinQ.pure (rs' := [V1.c (Cell.str [(85 : UInt8), 110, 97, 117, 116, 104, 111, 114, 105, 122, 101, 100])]) (by kernel_rfl) (by simp [reasonT, *]; done) (by kernel_rfl)
        · have g3 := ne_of_beq_false h3
          refine Wp.go (mx := true) (fun _ => mixed) [] 100 [] [] (by kernel_rfl) (by kernel_rfl) (by kernel_rfl) trivial ?_
          refine Wp.cond' (by kernel_rfl) (n == (403 : Int)) (by kernel_rfl) (fun h4 => ?_) (fun h4 => ?_)
          · have g4 := eq_of_beq h4
            refine Wp.go (mx := true) (fun _ => mixed) [] 100 [] [] (by kernel_rfl) (by kernel_rfl) (by kernel_rfl) trivial ?_
            refine Wp.ret' (by kernel_rfl) ?_
            exact FinQ.pure (rs' := [V1.c (Cell.str [(70 : UInt8), 111, 114, 98, 105, 100, 100, 101, 110])]) (by kernel_rfl) (by simp [reasonT, *]; done) (by kernel_rfl)
          · have g4 := ne_of_beq_false h4
            refine Wp.go (mx := true) (fun _ => mixed) [] 100 [] [] (by kernel_rfl) (by kernel_rfl) (by kernel_rfl) trivial ?_
            refine Wp.cond' (by kernel_rfl) (n == (404 : Int)) (by kernel_rfl) (fun h5 => ?_) (fun h5 => ?_)
            · have g5 := eq_of_beq h5
              refine Wp.go (mx := true) (fun _ => mixed) [] 100 [] [] (by kernel_rfl) (by kernel_rfl) (by kernel_rfl) trivial ?_
              refine Wp.ret' (by kernel_rfl) ?_
              exact FinQ.pure (rs' := [V1.c (Cell.str [(78 : UInt8), 111, 116, 32, 70, 111, 117, 110, 100])]) (by kernel_rfl) (by simp [reasonT, *]; done) (by kernel_rfl)
            · have g5 := ne_of_beq_false h5
              refine Wp.go (mx := true) (fun _ => mixed) [] 100 [] [] (by kernel_rfl) (by kernel_rfl) (by kernel_rfl) trivial ?_
              refine Wp.cond' (by kernel_rfl) (n == (405 : Int)) (by kernel_rfl) (fun h6 => ?_) (fun h6 => ?_)
              · have g6 := eq_of_beq h6
                refine Wp.go (mx := true) (fun _ => mixed) [] 100 [] [] (by kernel_rfl) (by kernel_rfl) (by kernel_rfl) trivial ?_
                refine Wp.ret' (by kernel_rfl) ?_
                exact FinQ.pure (rs' := [V1.c (Cell.str [(77 : UInt8), 101, 116, 104, 111, 100, 32, 78, 111, 116, 32, 65, 108, 108, 111, 119, 101, 100])]) (by kernel_rfl) (by simp [reasonT, *]; done) (by kernel_rfl)
              · have g6 := ne_of_beq_false h6
                refine Wp.go (mx := true) (fun _ => mixed) [] 100 [] [] (by kernel_rfl) (by kernel_rfl) (by kernel_rfl) trivial ?_
                refine Wp.cond' (by kernel_rfl) (n == (413 : Int)) (by kernel_rfl) (fun h7 => ?_) (fun h7 => ?_)
                · have g7 := eq_of_beq h7
                  refine Wp.go (mx := true) (fun _ => mixed) [] 100 [] [] (by kernel_rfl) (by kernel_rfl) (by kernel_rfl) trivial ?_
                  refine Wp.ret' (by kernel_rfl) ?_
                  exact FinQ.pure (rs' := [V1.c (Cell.str [(67 : UInt8), 111, 110, 116, 101, 110, 116, 32, 84, 111, 111, 32, 76, 97, 114, 103, 101])]) (by kernel_rfl) (by simp [reasonT, *]; done) (by kernel_rfl)
                · have g7 := ne_of_beq_false h7
                  refine Wp.go (mx := true) (fun _ => mixed) [] 100 [] [] (by kernel_rfl) (by kernel_rfl) (by kernel_rfl) trivial ?_
                  refine Wp.cond' (by kernel_rfl) (n == (503 : Int)) (by kernel_rfl) (fun h8 => ?_) (fun h8 => ?_)
                  · have g8 := eq_of_beq h8
                    refine Wp.go (mx := true) (fun _ => mixed) [] 100 [] [] (by kernel_rfl) (by kernel_rfl) (by kernel_rfl) trivial ?_
                    refine Wp.ret' (by kernel_rfl) ?_
                    exact FinQ.pure (rs' := [V1.c (Cell.str [(83 : UInt8), 101, 114, 118, 105, 99, 101, 32, 85, 110, 97, 118, 97, 105, 108, 97, 98, 108, 101])]) (by kernel_rfl) (by simp [reasonT, *]; done) (by kernel_rfl)
                  · have g8 := ne_of_beq_false h8
                    refine Wp.go (mx := true) (fun _ => mixed) [] 100 [] [] (by kernel_rfl) (by kernel_rfl) (by kernel_rfl) trivial ?_
                    refine Wp.ret' (by kernel_rfl) ?_
                    exact FinQ.pure (rs' := [V1.c (Cell.str [(79 : UInt8), 116, 104, 101, 114])]) (by kernel_rfl) (by simp [reasonT, *]; done) (by kernel_rfl)
theorem reason_len (n : Int) : (reasonT n).length ≤ 30 := by
  unfold reasonT
  repeat' split
  all_goals decide
def toldM (r : RT) : MT := ⟨[72, 84, 84, 80, 47, 49, 46, 49, 32] ++ Lib.itoa r.status ++ [32] ++ reasonT r.status, r.head, r.body⟩
theorem itoa_len (n : Int) (h0 : 0 ≤ n) (h1 : n ≤ 1000) : (Lib.itoa n).length ≤ 1001 := by
  obtain ⟨k, rfl⟩ := Int.eq_ofNat_of_zero_le h0
  exact Nat.le_trans (dec_len k) (by omega)
theorem told_ok (hp : HasPow G) (r : RT) (h0 : 0 ≤ r.status) (h1 : r.status ≤ 1000) : Pur Tryz.prog G 59 [.agg (encT r)] [.agg (encM (toldM r) ++ encT r)] := by
  refine Pur.of Tryz.func59 (by kernel_rfl) (by kernel_rfl) (by kernel_rfl) ?_
  have h3 := itoa_len r.status h0 h1
  have h4 := reason_len r.status
  refine Wp.go (mx := true) (fun _ => mixed) [(1, {cs := [(2, pc (itoa_p hp r.status (by omega) (by omega))), (7, pc (reason_ok (G := G) r.status))]})] 100 [] [(9 : Nat) + (Lib.itoa r.status).length ≤ (9223372036854775807 : Nat), ([(72 : UInt8), 84, 84, 80, 47, 49, 46, 49, 32] ++ Lib.itoa r.status).length + (1 : Nat) ≤ (9223372036854775807 : Nat), ([(72 : UInt8), 84, 84, 80, 47, 49, 46, 49, 32] ++ Lib.itoa r.status ++ [(32 : UInt8)]).length + (reasonT r.status).length ≤ (9223372036854775807 : Nat)] (by kernel_rfl) (by kernel_rfl) (by kernel_rfl) ⟨(by omega), (by simp; omega), (show ([(72 : UInt8), 84, 84, 80, 47, 49, 46, 49, 32] ++ Lib.itoa r.status ++ [(32 : UInt8)]).length + (reasonT r.status).length ≤ (9223372036854775807 : Nat) from (by simp; omega))⟩ ?_
  refine Wp.ret' (by kernel_rfl) ?_
  exact FinQ.pure (rs' := [V1.agg [Cell.str ([(72 : UInt8), 84, 84, 80, 47, 49, 46, 49, 32] ++ Lib.itoa r.status ++ [(32 : UInt8)] ++ reasonT r.status), Cell.sl (2 : Nat) r.head.length fun (i j : Nat) => nthD (encF (r.head.getD i FT.nil)) j, Cell.str r.body, Cell.int .i64 r.status, Cell.sl (2 : Nat) r.head.length fun (i j : Nat) => nthD (encF (r.head.getD i FT.nil)) j, Cell.str r.body]]) (by kernel_rfl) rfl (by kernel_rfl)
def mayTell (r : RT) : Bool := bif statedT r.status then mayM (toldM r) else false
theorem mayTell_ok (hp : HasPow G) (r : RT) (h0 : 0 ≤ r.status) (h1 : r.status ≤ 1000) (h : FitM (toldM r)) : Pur Tryz.prog G 21 [.agg (encT r)] [.c (.bool (mayTell r))] := by
  refine Pur.of Tryz.func21 (by kernel_rfl) (by kernel_rfl) (by kernel_rfl) ?_
  have c := mayM_ok hp (toldM r) h
  refine Wp.go (mx := true) (fun _ => mixed) [(1, {cs := [(2, pc (stated_ok (G := G) r.status)), (5, pc (told_ok hp r (by assumption) (by assumption))), (7, pc c)]})] 100 [] [] (by kernel_rfl) (by kernel_rfl) (by kernel_rfl) trivial ?_
  refine Wp.ret' (by kernel_rfl) ?_
  exact FinQ.pure (rs' := [V1.c (Cell.bool (bif statedT r.status then mayM (toldM r) else false))]) (by kernel_rfl) rfl (by kernel_rfl)
def printTell (r : RT) : List UInt8 := if mayTell r then aheadT (toldM r) ++ r.body else []
theorem printTell_ok (hp : HasPow G) (r : RT) (h0 : 0 ≤ r.status) (h1 : r.status ≤ 1000) (h : FitM (toldM r)) : Pur Tryz.prog G 23 [.agg (encT r)] [.c (.str (printTell r))] := by
  refine Pur.of Tryz.func23 (by kernel_rfl) (by kernel_rfl) (by kernel_rfl) ?_
  have c1 := mayTell_ok hp r h0 h1 h
  have c := printM_ok hp (toldM r) h
  refine Wp.go (mx := true) (fun _ => mixed) [(1, {cs := [(1, pc c1)]})] 100 [] [] (by kernel_rfl) (by kernel_rfl) (by kernel_rfl) trivial ?_
  refine Wp.cond' (by kernel_rfl) (!mayTell r) (by kernel_rfl) (fun h0 => ?_) (fun h0 => ?_)
  · have g0 := h0
    simp at g0
    refine Wp.go (mx := true) (fun _ => mixed) [] 100 [] [] (by kernel_rfl) (by kernel_rfl) (by kernel_rfl) trivial ?_
    refine Wp.ret' (by kernel_rfl) ?_
    exact FinQ.pure (rs' := [V1.c (Cell.str [])]) (by kernel_rfl) (by simp [printTell, *]; done) (by kernel_rfl)
  · have g0 := h0
    simp at g0
    refine Wp.go (mx := true) (fun _ => mixed) [(3, {cs := [(1, pc (told_ok hp r (by assumption) (by assumption))), (3, pc c)]})] 100 [] [] (by kernel_rfl) (by kernel_rfl) (by kernel_rfl) trivial ?_
    refine Wp.ret' (by kernel_rfl) ?_
    exact FinQ.pure (rs' := [V1.c (Cell.str (aheadT (toldM r) ++ (toldM r).body))]) (by kernel_rfl) (by rw [printTell, if_pos (show mayTell r = true from by simpa using h0)]; rfl) (by kernel_rfl)
end Go.Proofs.Tw
end

section
open Go Go.Sv
namespace Go.Proofs.Tw
attribute [local irreducible] Wp FinQ resV Ent Pur Go.Sv.Fn Sat0
set_option maxRecDepth 100000
set_option maxHeartbeats 4000000

def hexU : List UInt8 := [48, 49, 50, 51, 52, 53, 54, 55, 56, 57, 65, 66, 67, 68, 69, 70]
def pctB (form : Bool) (c : UInt8) : List UInt8 := if plainB c then [c] else if form && c == 32 then [43] else [37, hexU.getD (c.toNat / 16) 0, hexU.getD (c.toNat % 16) 0]
def pctT (form : Bool) (s : List UInt8) : List UInt8 := s.flatMap (pctB form)
def pctN (form : Bool) (s : List UInt8) (k : Nat) : List UInt8 := (s.take k).flatMap (pctB form)
theorem pctN_succ (form : Bool) (s : List UInt8) (k : Nat) (h : k < s.length) : pctN form s (k + 1) = pctN form s k ++ pctB form (s.getD k 0) := by
  unfold pctN
  rw [List.take_succ_eq_append_getElem h, List.flatMap_append, List.getD_eq_getElem?_getD, List.getElem?_eq_getElem h]
  simp
theorem pctN_end (form : Bool) (s : List UInt8) : pctN form s s.length = pctT form s := by unfold pctN pctT; rw [List.take_length]
theorem pctB_len (form : Bool) (c : UInt8) : 1 ≤ (pctB form c).length ∧ (pctB form c).length ≤ 3 := by
  unfold pctB
  split
  · exact ⟨Nat.le_refl _, by simp⟩
  · split <;> simp
theorem pctN_len (form : Bool) (s : List UInt8) : ∀ k, k ≤ s.length → k ≤ (pctN form s k).length ∧ (pctN form s k).length ≤ 3 * k
  | 0, _ => by simp [pctN]
  | k + 1, h => by
    have h1 := pctN_len form s k (by omega)
    have h2 := pctB_len form (s.getD k 0)
    rw [pctN_succ form s k (by omega), List.length_append]
    omega
theorem hex7_ok {G : Nat → Option (List Cell)} (k : Nat) (hk : k < 16) : Pur Tryz.prog G 107 [.c (.int .i64 (k : Int))] [.c (.int .u8 ((hexU.getD k 0).toNat : Int))] := by
  refine Pur.of Tryz.func107 (by kernel_rfl) (by kernel_rfl) (by kernel_rfl) ?_
  have h1 : ∀ k : Nat, k < 10 → IntKind.u8.wrap (48 + (k : Int)) = ((hexU.getD k 0).toNat : Int) := by decide
  have h2 : ∀ k : Nat, k < 16 → 10 ≤ k → IntKind.u8.wrap (65 + (k : Int) - 10) = ((hexU.getD k 0).toNat : Int) := by decide
  rcases Nat.lt_or_ge k 10 with h | h
  · have h1 := h1 k h
    refine Wp.go (mx := true) (fun _ => mixed) [] 100 [true] [decide ((↑k : Int) < (10 : Int)) = true, inR IntKind.i64 ((48 : Int) + (↑k : Int))] (by kernel_rfl) (by kernel_rfl) (by kernel_rfl) ⟨(by simp; omega), inR64 (by omega) (by omega)⟩ ?_
    refine Wp.ret' (by kernel_rfl) ?_
    exact FinQ.pure (rs' := [V1.c (Cell.int .u8 (IntKind.u8.wrap ((48 : Int) + (↑k : Int))))]) (by kernel_rfl) (by simp only [Int.ofNat_eq_natCast, Int.toNat_natCast, List.take_length, List.drop_zero, *]) (by kernel_rfl)
  · have h2 := h2 k hk h
    refine Wp.go (mx := true) (fun _ => mixed) [] 100 [false] [decide ((↑k : Int) < (10 : Int)) = false, inR IntKind.i64 ((65 : Int) + (↑k : Int)), inR IntKind.i64 ((65 : Int) + (↑k : Int) - (10 : Int))] (by kernel_rfl) (by kernel_rfl) (by kernel_rfl) ⟨(by simp; omega), inR64 (by omega) (by omega), inR64 (by omega) (by omega)⟩ ?_
    refine Wp.ret' (by kernel_rfl) ?_
    exact FinQ.pure (rs' := [V1.c (Cell.int .u8 (IntKind.u8.wrap ((65 : Int) + (↑k : Int) - (10 : Int))))]) (by kernel_rfl) (by simp only [Int.ofNat_eq_natCast, Int.toNat_natCast, List.take_length, List.drop_zero, *]) (by kernel_rfl)
/-- The cells of one written byte. -/
theorem pct_cells : ∀ c : UInt8, ((c.toNat : Int).tdiv 16 = ((c.toNat / 16 : Nat) : Int)) ∧ ((c.toNat : Int).tmod 16 = ((c.toNat % 16 : Nat) : Int)) := fun c => ⟨rfl, rfl⟩
theorem enc7_ok {G : Nat → Option (List Cell)} (s : List UInt8) (form : Bool) (hl : s.length ≤ 30000000000000) : Pur Tryz.prog G 87 [.c (.str s), .c (.bool form)] [.c (.str (pctT form s))] := by
  refine Pur.of Tryz.func87 (by kernel_rfl) (by kernel_rfl) (by kernel_rfl) ?_
  refine Wp.go (mx := true) (fun _ => mixed) [] 100 [] [] (by kernel_rfl) (by kernel_rfl) (by kernel_rfl) trivial ?_
  refine Wp.loopK (by kernel_rfl) (fun (x : Nat × Nat × List UInt8) => ⟨[(0, .v (.c (.str s))), (1, .v (.c (.bool form))), (5, .v (.c (.row 1 48 0 x.2.1))), (6, .v (.c (.int .i64 (x.1 : Int))))], [(48, .row 5 1 x.2.1 (bytesF x.2.2))], 64⟩)
    (fun x => x.1 ≤ s.length ∧ x.2.2 = pctN form s x.1 ∧ x.2.1 = x.2.2.length) (fun x => s.length - x.1) (0, 0, []) (Ent.trans (Ent.empT (t := 5) (sz := 1) (e := 5) (f := bytesF []) (by decide) (by kernel_rfl) rfl) (Ent.of [] (by kernel_rfl) (by kernel_rfl) (by kernel_rfl) trivial)) ⟨Nat.zero_le _, rfl, rfl⟩ ?_
  rintro ⟨k, n, l⟩ L ⟨hk, hq, hn⟩ again
  simp only at hk hq hn
  have hlen := pctN_len form s k hk
  rw [← hq, ← hn] at hlen
  rcases Nat.lt_or_ge k s.length with hlt | hge
  · have hs := pctN_succ form s k hlt
    rw [← hq] at hs
    cases hp : plainB (s.getD k 0) with
    | true =>
      have hB : pctB form (s.getD k 0) = [s.getD k 0] := by unfold pctB; rw [if_pos hp]
      rw [hB] at hs
      have e1 : BlkEqv (.row 5 1 (n + 1) (catF n (bytesF l) (fun i j => nthD [.int .u8 ((s.getD k 0).toNat : Int)] ((0 + i) * 1 + j)))) (.row 5 1 (n + 1) (bytesF (l ++ [s.getD k 0]))) := bytes_app l [s.getD k 0] hn
      have hn' : n + 1 = (l ++ [s.getD k 0]).length := by simp [hn]
      have hs' := hs.symm
      refine Wp.go (mx := true) (fun _ => mixed) [(8, {bs := [(3, Blk.row 5 1 (n + 1) (bytesF (l ++ [s.getD k 0])))]}), (7, {cs := [(1, pc (plain6_ok (s.getD k (0 : UInt8))))]})] 100 [true, true] [decide ((↑k : Int) < (↑s.length : Int)) = true, (0 : Int) ≤ (↑k : Int) ∧ (↑k : Int) < (↑s.length : Int), plainB (s.getD k (0 : UInt8)) = true, (n + (1 : Nat)) * (1 : Nat) ≤ (140737488355328 : Nat), BlkEqv (Blk.row 5 (1 : Nat) (n + (1 : Nat)) (catF n (bytesF l) fun (i j : Nat) => nthD [Cell.int .u8 (↑(s.getD k (0 : UInt8)).toNat : Int)] (((0 : Nat) + i) * (1 : Nat) + j))) (Blk.row 5 (1 : Nat) (n + (1 : Nat)) (bytesF (l ++ [s.getD k (0 : UInt8)]))), n ≤ n, (0 : Nat) + (1 : Nat) ≤ (1 : Nat), inR IntKind.i64 ((↑k : Int) + (1 : Int))] (by kernel_rfl) (by kernel_rfl) (by kernel_rfl) ⟨(by simp; omega), (by omega), (by assumption), (by omega), (by assumption), (by omega), (by omega), inR64 (by omega) (by omega)⟩ ?_
      exact Wp.lpK (by kernel_rfl) (again _ (k + 1, n + 1, l ++ [s.getD k 0]) ⟨(by assumption), ⟨(by assumption), (by assumption)⟩⟩ (by omega) (Ent.of [(48, 288)] (by kernel_rfl) (by kernel_rfl) (by kernel_rfl) trivial))
    | false =>
      cases hf : (bif form then ((s.getD k 0).toNat : Int) == 32 else false) with
      | true =>
        have hB : pctB form (s.getD k 0) = [43] := by
          unfold pctB
          rw [if_neg (by rw [hp]; decide), if_pos]
          rw [Bool.cond_false_right, show (((s.getD k 0).toNat : Int) == 32) = (s.getD k 0 == 32) from byte_eq (by decide)] at hf
          exact hf
        rw [hB] at hs
        have e1 : BlkEqv (.row 5 1 (n + 1) (catF n (bytesF l) (fun i j => nthD [.int .u8 (43 : Int)] ((0 + i) * 1 + j)))) (.row 5 1 (n + 1) (bytesF (l ++ [43]))) := bytes_app l [43] hn
        have hn' : n + 1 = (l ++ [43]).length := by simp [hn]
        have hs' := hs.symm
        refine Wp.go (mx := true) (fun _ => mixed) [(10, {bs := [(2, Blk.row 5 1 (n + 1) (bytesF (l ++ [43])))]}), (7, {cs := [(1, pc (plain6_ok (s.getD k (0 : UInt8))))]})] 100 [true, false, true] [decide ((↑k : Int) < (↑s.length : Int)) = true, (0 : Int) ≤ (↑k : Int) ∧ (↑k : Int) < (↑s.length : Int), plainB (s.getD k (0 : UInt8)) = false, (bif form then (↑(s.getD k (0 : UInt8)).toNat : Int) == (32 : Int) else false) = true, (n + (1 : Nat)) * (1 : Nat) ≤ (140737488355328 : Nat), BlkEqv (Blk.row 5 (1 : Nat) (n + (1 : Nat)) (catF n (bytesF l) fun (i j : Nat) => nthD [Cell.int .u8 (43 : Int)] (((0 : Nat) + i) * (1 : Nat) + j))) (Blk.row 5 (1 : Nat) (n + (1 : Nat)) (bytesF (l ++ [(43 : UInt8)]))), n ≤ n, (0 : Nat) + (1 : Nat) ≤ (1 : Nat), inR IntKind.i64 ((↑k : Int) + (1 : Int))] (by kernel_rfl) (by kernel_rfl) (by kernel_rfl) ⟨(by simp; omega), (by omega), (by assumption), (by assumption), (by omega), (by assumption), (by omega), (by omega), inR64 (by omega) (by omega)⟩ ?_
        exact Wp.lpK (by kernel_rfl) (again _ (k + 1, n + 1, l ++ [43]) ⟨(by assumption), ⟨(by assumption), (by assumption)⟩⟩ (by omega) (Ent.of [(48, 368)] (by kernel_rfl) (by kernel_rfl) (by kernel_rfl) trivial))
      | false =>
        have hB : pctB form (s.getD k 0) = [37, hexU.getD ((s.getD k 0).toNat / 16) 0, hexU.getD ((s.getD k 0).toNat % 16) 0] := by
          unfold pctB
          rw [if_neg (by rw [hp]; decide), if_neg]
          rw [Bool.cond_false_right, show (((s.getD k 0).toNat : Int) == 32) = (s.getD k 0 == 32) from byte_eq (by decide)] at hf
          rw [hf]; decide
        rw [hB] at hs
        have e1 : BlkEqv (.row 5 1 (n + 3) (catF n (bytesF l) (fun i j => nthD [.int .u8 (37 : Int), .int .u8 ((hexU.getD ((s.getD k 0).toNat / 16) 0).toNat : Int), .int .u8 ((hexU.getD ((s.getD k 0).toNat % 16) 0).toNat : Int)] ((0 + i) * 1 + j)))) (.row 5 1 (n + 3) (bytesF (l ++ [37, hexU.getD ((s.getD k 0).toNat / 16) 0, hexU.getD ((s.getD k 0).toNat % 16) 0]))) := bytes_app l [37, hexU.getD ((s.getD k 0).toNat / 16) 0, hexU.getD ((s.getD k 0).toNat % 16) 0] hn
        have hn' : n + 3 = (l ++ [37, hexU.getD ((s.getD k 0).toNat / 16) 0, hexU.getD ((s.getD k 0).toNat % 16) 0]).length := by simp [hn]
        have hs' := hs.symm
        have hb := UInt8.toNat_lt (s.getD k 0)
        have e2 : EqvD (V1.c (Cell.int .i64 (IntKind.i64.wrap ((s.getD k 0).toNat : Int)))) (.c (.int .i64 ((s.getD k 0).toNat : Int))) := eqvD_of (by rw [wrap64 (by omega) (by omega)])
        have e3 : EqvD (V1.c (Cell.int .i64 (IntKind.i64.wrap (((s.getD k 0).toNat : Int).tdiv 16)))) (.c (.int .i64 ((s.getD k 0).toNat / 16 : Nat))) := eqvD_of (by rw [(pct_cells (s.getD k 0)).1, wrap64 (by omega) (by omega)])
        have e4 : EqvD (V1.c (Cell.int .i64 (((s.getD k 0).toNat : Int).tmod 16))) (.c (.int .i64 ((s.getD k 0).toNat % 16 : Nat))) := eqvD_of (by rw [(pct_cells (s.getD k 0)).2])
        have c1 : Pur Tryz.prog G 107 [.c (.int .i64 ((s.getD k 0).toNat / 16 : Nat))] [.c (.int .u8 ((hexU.getD ((s.getD k 0).toNat / 16) 0).toNat : Int))] := hex7_ok ((s.getD k 0).toNat / 16) (by omega)
        have c2 : Pur Tryz.prog G 107 [.c (.int .i64 ((s.getD k 0).toNat % 16 : Nat))] [.c (.int .u8 ((hexU.getD ((s.getD k 0).toNat % 16) 0).toNat : Int))] := hex7_ok ((s.getD k 0).toNat % 16) (by omega)
        refine Wp.go (mx := true) (fun _ => mixed) [(6, {cs := [(4, pc c1), (8, pc c2)], fm := [(2, .c (.int .i64 ((s.getD k 0).toNat : Int))), (3, .c (.int .i64 ((s.getD k 0).toNat / 16 : Nat))), (6, .c (.int .i64 ((s.getD k 0).toNat : Int))), (7, .c (.int .i64 ((s.getD k 0).toNat % 16 : Nat)))], bs := [(10, Blk.row 5 1 (n + 3) (bytesF (l ++ [37, hexU.getD ((s.getD k 0).toNat / 16) 0, hexU.getD ((s.getD k 0).toNat % 16) 0])))]}), (7, {cs := [(1, pc (plain6_ok (s.getD k (0 : UInt8))))]})] 100 [true, false, false] [decide ((↑k : Int) < (↑s.length : Int)) = true, (0 : Int) ≤ (↑k : Int) ∧ (↑k : Int) < (↑s.length : Int), plainB (s.getD k (0 : UInt8)) = false, (bif form then (↑(s.getD k (0 : UInt8)).toNat : Int) == (32 : Int) else false) = false, EqvI (V1.c (Cell.int .i64 (IntKind.i64.wrap (↑(s.getD k (0 : UInt8)).toNat : Int)))) (V1.c (Cell.int .i64 (↑(s.getD k (0 : UInt8)).toNat : Int))), EqvD (V1.c (Cell.int .i64 (IntKind.i64.wrap (↑(s.getD k (0 : UInt8)).toNat : Int)))) (V1.c (Cell.int .i64 (↑(s.getD k (0 : UInt8)).toNat : Int))), EqvI (V1.c (Cell.int .i64 (IntKind.i64.wrap ((↑(s.getD k (0 : UInt8)).toNat : Int).tdiv (16 : Int))))) (V1.c (Cell.int .i64 (↑((s.getD k (0 : UInt8)).toNat / (16 : Nat)) : Int))), EqvD (V1.c (Cell.int .i64 (IntKind.i64.wrap ((↑(s.getD k (0 : UInt8)).toNat : Int).tdiv (16 : Int))))) (V1.c (Cell.int .i64 (↑((s.getD k (0 : UInt8)).toNat / (16 : Nat)) : Int))), (16 : Int) ≠ (0 : Int), EqvI (V1.c (Cell.int .i64 (IntKind.i64.wrap (↑(s.getD k (0 : UInt8)).toNat : Int)))) (V1.c (Cell.int .i64 (↑(s.getD k (0 : UInt8)).toNat : Int))), EqvD (V1.c (Cell.int .i64 (IntKind.i64.wrap (↑(s.getD k (0 : UInt8)).toNat : Int)))) (V1.c (Cell.int .i64 (↑(s.getD k (0 : UInt8)).toNat : Int))), EqvI (V1.c (Cell.int .i64 ((↑(s.getD k (0 : UInt8)).toNat : Int).tmod (16 : Int)))) (V1.c (Cell.int .i64 (↑((s.getD k (0 : UInt8)).toNat % (16 : Nat)) : Int))), EqvD (V1.c (Cell.int .i64 ((↑(s.getD k (0 : UInt8)).toNat : Int).tmod (16 : Int)))) (V1.c (Cell.int .i64 (↑((s.getD k (0 : UInt8)).toNat % (16 : Nat)) : Int))), (16 : Int) ≠ (0 : Int), (n + (3 : Nat)) * (1 : Nat) ≤ (140737488355328 : Nat), BlkEqv (Blk.row 5 (1 : Nat) (n + (3 : Nat)) (catF n (bytesF l) fun (i j : Nat) => nthD [Cell.int .u8 (37 : Int), Cell.int .u8 (↑(hexU.getD ((s.getD k (0 : UInt8)).toNat / (16 : Nat)) (0 : UInt8)).toNat : Int), Cell.int .u8 (↑(hexU.getD ((s.getD k (0 : UInt8)).toNat % (16 : Nat)) (0 : UInt8)).toNat : Int)] (((0 : Nat) + i) * (1 : Nat) + j))) (Blk.row 5 (1 : Nat) (n + (3 : Nat)) (bytesF (l ++ [(37 : UInt8), hexU.getD ((s.getD k (0 : UInt8)).toNat / (16 : Nat)) (0 : UInt8), hexU.getD ((s.getD k (0 : UInt8)).toNat % (16 : Nat)) (0 : UInt8)]))), n ≤ n, (0 : Nat) + (3 : Nat) ≤ (3 : Nat), inR IntKind.i64 ((↑k : Int) + (1 : Int))] (by kernel_rfl) (by kernel_rfl) (by kernel_rfl) ⟨(by simp; omega), (by omega), (by assumption), (by assumption), fun _ _ => trivial, (by assumption), fun _ _ => trivial, (by assumption), (by omega), fun _ _ => trivial, (by assumption), fun _ _ => trivial, (by assumption), (by omega), (by omega), (by assumption), (by omega), (by omega), inR64 (by omega) (by omega)⟩ ?_
        exact Wp.lpK (by kernel_rfl) (again _ (k + 1, n + 3, l ++ [37, hexU.getD ((s.getD k 0).toNat / 16) 0, hexU.getD ((s.getD k 0).toNat % 16) 0]) ⟨(by assumption), ⟨(by assumption), (by assumption)⟩⟩ (by omega) (Ent.of [(48, 496)] (by kernel_rfl) (by kernel_rfl) (by kernel_rfl) trivial))
  · obtain rfl : k = s.length := by omega
    rw [pctN_end] at hq
    have ee : byteL (bytesF l) 0 n = pctT form s := by rw [byteL_F l hn, hq]
    refine Wp.go (mx := true) (fun _ => mixed) [] 100 [false] [decide ((↑s.length : Int) < (↑s.length : Int)) = false, (0 : Nat) + n ≤ n, areBytes (bytesF l) (0 : Nat) n] (by kernel_rfl) (by kernel_rfl) (by kernel_rfl) ⟨(by simp; done), (by omega), areBytes_F _ _ _⟩ ?_
    refine Wp.ret' (by kernel_rfl) ?_
    exact FinQ.pure (rs' := [V1.c (Cell.str (byteL (bytesF l) (0 : Nat) n))]) (by kernel_rfl) (by simp_all; done) (by kernel_rfl)
end Go.Proofs.Tw
end

section
open Go Go.Sv
namespace Go.Proofs.Tw
attribute [local irreducible] Wp FinQ resV Ent Pur Go.Sv.Fn Sat0
set_option maxRecDepth 100000
set_option maxHeartbeats 4000000

theorem Pur.grow {P : Program} {G G' : Nat → Option (List Cell)} {f : FuncId} {args rs : List V1} (h : ∀ g cs, G g = some cs → G' g = some cs) (hp : Pur P G f args rs) : Pur P G' f args rs := by
  unfold Pur Go.Sv.Fn at hp ⊢
  intro D ρ w vs h1 h2 h3
  exact hp D ρ w vs h1 (fun g cs hg => h2 g cs (h g cs hg)) (fun g cs hg => h3 g cs (h g cs hg))
def hiI (c : UInt8) : Int := (c.toNat : Int).fdiv (2 ^ 4)
def loI (c : UInt8) : Int := Int.ofNat ((BitVec.ofInt IntKind.u8.bits (c.toNat : Int) &&& BitVec.ofInt IntKind.u8.bits 15).toNat % (2 ^ IntKind.u8.bits : Int).natAbs)
end Go.Proofs.Tw
end

section
open Go Go.Sv
namespace Go.Proofs.Tw
attribute [local irreducible] Wp FinQ resV Ent Pur Go.Sv.Fn Sat0
set_option maxRecDepth 100000
set_option maxHeartbeats 4000000

def fieldQ (f : FT) : List UInt8 := pctT true f.name ++ [61] ++ pctT true f.value
def partsQ (l : List FT) (k : Nat) : List (List UInt8) := (l.take k).map fieldQ
def printQ (l : List FT) : List UInt8 := Lib.join (l.map fieldQ) [38]
theorem partsQ_succ (l : List FT) (k : Nat) (h : k < l.length) : partsQ l (k + 1) = partsQ l k ++ [fieldQ (l.getD k .nil)] := by
  unfold partsQ
  rw [List.take_succ_eq_append_getElem h, List.map_append, List.getD_eq_getElem?_getD, List.getElem?_eq_getElem h]
  rfl
theorem partsQ_end (l : List FT) : Lib.join (partsQ l l.length) [38] = printQ l := by unfold partsQ printQ; rw [List.take_length]
theorem partsQ_len (l : List FT) (k : Nat) (h : k ≤ l.length) : (partsQ l k).length = k := by unfold partsQ; simp; omega
theorem pctT_len (form : Bool) (s : List UInt8) : s.length ≤ (pctT form s).length := by
  have := pctN_len form s s.length (Nat.le_refl _)
  rw [pctN_end] at this
  exact this.1
theorem fieldQ_len (f : FT) : (fieldQ f).length = (pctT true f.name).length + (pctT true f.value).length + 1 := by unfold fieldQ; simp; omega
theorem joinQ_le (l : List FT) {k : Nat} (h : k ≤ l.length) : (Lib.join (partsQ l k) [38]).length ≤ (printQ l).length := by
  rw [← partsQ_end]
  obtain ⟨d, hd⟩ := Nat.exists_eq_add_of_le h
  rw [hd]
  clear hd
  induction d with
  | zero => exact Nat.le_refl _
  | succ d ih =>
    refine Nat.le_trans ih ?_
    rcases Nat.lt_or_ge (k + d) l.length with hlt | hge
    · rw [← Nat.add_assoc, partsQ_succ l _ hlt, join_snoc]
      split
      · rename_i h0; rw [h0]; exact Nat.zero_le _
      · simp only [List.length_append]; omega
    · have : partsQ l (k + (d + 1)) = partsQ l (k + d) := by unfold partsQ; rw [List.take_of_length_le hge, List.take_of_length_le (by omega)]
      rw [this]; exact Nat.le_refl _
theorem fieldQ_le (l : List FT) {k : Nat} (h : k < l.length) : (fieldQ (l.getD k .nil)).length ≤ (printQ l).length := by
  have hm : fieldQ (l.getD k .nil) ∈ l.map fieldQ := List.mem_map.2 ⟨_, by rw [List.getD_eq_getElem?_getD, List.getElem?_eq_getElem h]; exact List.getElem_mem h, rfl⟩
  exact join_part [38] hm
theorem print10_ok {G : Nat → Option (List Cell)} (l : List FT) (hn : l.length ≤ 1000000000000) (hj : (printQ l).length ≤ 10000000000000) : Pur Tryz.prog G 49 [.c (encH l)] [.c (.str (printQ l))] := by
  refine Pur.of Tryz.func49 (by kernel_rfl) (by kernel_rfl) (by kernel_rfl) ?_
  refine Wp.go (mx := true) (fun _ => mixed) [] 100 [] [] (by kernel_rfl) (by kernel_rfl) (by kernel_rfl) trivial ?_
  refine Wp.loopK (by kernel_rfl) (fun (k : Nat) => ⟨[(0, TV.v (V1.c (encH l))), (3, TV.v (V1.c (Cell.str (Lib.join (partsQ l k) [38])))), (4, TV.v (V1.c (Cell.int .i64 (k : Int))))], [], 48⟩) (fun k => k ≤ l.length) (fun k => l.length - k) 0 (Ent.of [] (by kernel_rfl) (by kernel_rfl) (by kernel_rfl) trivial) (Nat.zero_le _) ?_
  intro k L hk again
  have h0 := joinQ_le l hk
  rcases Nat.lt_or_ge k l.length with hlt | hge
  · have h1 := fieldQ_le l hlt
    rw [fieldQ_len] at h1
    have h2 := pctT_len true (l.getD k .nil).name
    have h3 := pctT_len true (l.getD k .nil).value
    have h4 := joinQ_le l (show k + 1 ≤ l.length from hlt)
    have hs := join_snoc (partsQ l k) (fieldQ (l.getD k .nil)) [38]
    rw [← partsQ_succ l k hlt] at hs
    rcases Nat.eq_zero_or_pos k with rfl | hpos
    · rw [if_pos (show partsQ l 0 = [] from rfl)] at hs
      rw [show Lib.join (partsQ l 0) [38] = [] from rfl]
      have hs' : [] ++ pctT true (l.getD 0 .nil).name ++ [61] ++ pctT true (l.getD 0 .nil).value = Lib.join (partsQ l (0 + 1)) [38] := by rw [hs]; rfl
      have e1 : EqvD (V1.c (Cell.str ([] ++ pctT true (l.getD 0 .nil).name ++ [61] ++ pctT true (l.getD 0 .nil).value))) (.c (.str (Lib.join (partsQ l (0 + 1)) [38]))) := eqvD_of (by rw [hs'])
      refine Wp.go (mx := true) (fun _ => mixed) [(7, {cs := [(6, pc (enc7_ok ((l.getD (0 : Nat) FT.nil).name) true (by omega))), (14, pc (enc7_ok ((l.getD (0 : Nat) FT.nil).value) true (by omega)))], fm := [(16, .c (.str (Lib.join (partsQ l (0 + 1)) [38])))]})] 100 [true, false] [decide ((↑(0 : Nat) : Int) < (↑l.length : Int)) = true, decide ((↑(0 : Nat) : Int) > (0 : Int)) = false, (0 : Int) ≤ (↑(0 : Nat) : Int) ∧ (↑(0 : Nat) : Int) < (↑l.length : Int), ([] : List UInt8).length + (pctT true (l.getD (0 : Nat) FT.nil).name).length ≤ (9223372036854775807 : Nat), ([] ++ pctT true (l.getD (0 : Nat) FT.nil).name).length + (1 : Nat) ≤ (9223372036854775807 : Nat), (0 : Int) ≤ (↑(0 : Nat) : Int) ∧ (↑(0 : Nat) : Int) < (↑l.length : Int), ([] ++ pctT true (l.getD (0 : Nat) FT.nil).name ++ [(61 : UInt8)]).length + (pctT true (l.getD (0 : Nat) FT.nil).value).length ≤ (9223372036854775807 : Nat), EqvI (V1.c (Cell.str ([] ++ pctT true (l.getD (0 : Nat) FT.nil).name ++ [(61 : UInt8)] ++ pctT true (l.getD (0 : Nat) FT.nil).value))) (V1.c (Cell.str (Lib.join (partsQ l ((0 : Nat) + (1 : Nat))) [(38 : UInt8)]))), EqvD (V1.c (Cell.str ([] ++ pctT true (l.getD (0 : Nat) FT.nil).name ++ [(61 : UInt8)] ++ pctT true (l.getD (0 : Nat) FT.nil).value))) (V1.c (Cell.str (Lib.join (partsQ l ((0 : Nat) + (1 : Nat))) [(38 : UInt8)]))), inR IntKind.i64 ((↑(0 : Nat) : Int) + (1 : Int))] (by kernel_rfl) (by kernel_rfl) (by kernel_rfl) ⟨(by simp; omega), rfl, (by omega), (by simp_all <;> omega), (by simp_all <;> omega), (by omega), (by simp_all <;> omega), fun _ _ => trivial, (by assumption), inR64 (by omega) (by omega)⟩ ?_
      exact Wp.lpK (by kernel_rfl) (again _ (0 + 1) (by assumption) (by omega) (Ent.of [] (by kernel_rfl) (by kernel_rfl) (by kernel_rfl) trivial))
    · rw [if_neg (by intro h0; have := partsQ_len l k hk; rw [h0] at this; simp at this; omega)] at hs
      have hs' : Lib.join (partsQ l k) [38] ++ [38] ++ pctT true (l.getD k .nil).name ++ [61] ++ pctT true (l.getD k .nil).value = Lib.join (partsQ l (k + 1)) [38] := by rw [hs]; unfold fieldQ; simp
      have h5 := congrArg List.length hs'
      simp only [List.length_append, List.length_cons, List.length_nil] at h5
      have e1 : EqvD (V1.c (Cell.str (Lib.join (partsQ l k) [38] ++ [38] ++ pctT true (l.getD k .nil).name ++ [61] ++ pctT true (l.getD k .nil).value))) (.c (.str (Lib.join (partsQ l (k + 1)) [38]))) := eqvD_of (by rw [hs'])
      refine Wp.go (mx := true) (fun _ => mixed) [(7, {cs := [(6, pc (enc7_ok ((l.getD k FT.nil).name) true (by omega))), (14, pc (enc7_ok ((l.getD k FT.nil).value) true (by omega)))], fm := [(16, .c (.str (Lib.join (partsQ l (k + 1)) [38])))]})] 100 [true, true] [decide ((↑k : Int) < (↑l.length : Int)) = true, decide ((↑k : Int) > (0 : Int)) = true, (Lib.join (partsQ l k) [(38 : UInt8)]).length + (1 : Nat) ≤ (9223372036854775807 : Nat), (0 : Int) ≤ (↑k : Int) ∧ (↑k : Int) < (↑l.length : Int), (Lib.join (partsQ l k) [(38 : UInt8)] ++ [(38 : UInt8)]).length + (pctT true (l.getD k FT.nil).name).length ≤ (9223372036854775807 : Nat), (Lib.join (partsQ l k) [(38 : UInt8)] ++ [(38 : UInt8)] ++ pctT true (l.getD k FT.nil).name).length + (1 : Nat) ≤ (9223372036854775807 : Nat), (0 : Int) ≤ (↑k : Int) ∧ (↑k : Int) < (↑l.length : Int), (Lib.join (partsQ l k) [(38 : UInt8)] ++ [(38 : UInt8)] ++ pctT true (l.getD k FT.nil).name ++ [(61 : UInt8)]).length + (pctT true (l.getD k FT.nil).value).length ≤ (9223372036854775807 : Nat), EqvI (V1.c (Cell.str (Lib.join (partsQ l k) [(38 : UInt8)] ++ [(38 : UInt8)] ++ pctT true (l.getD k FT.nil).name ++ [(61 : UInt8)] ++ pctT true (l.getD k FT.nil).value))) (V1.c (Cell.str (Lib.join (partsQ l (k + (1 : Nat))) [(38 : UInt8)]))), EqvD (V1.c (Cell.str (Lib.join (partsQ l k) [(38 : UInt8)] ++ [(38 : UInt8)] ++ pctT true (l.getD k FT.nil).name ++ [(61 : UInt8)] ++ pctT true (l.getD k FT.nil).value))) (V1.c (Cell.str (Lib.join (partsQ l (k + (1 : Nat))) [(38 : UInt8)]))), inR IntKind.i64 ((↑k : Int) + (1 : Int))] (by kernel_rfl) (by kernel_rfl) (by kernel_rfl) ⟨(by simp; omega), (by simp; omega), (by omega), (by omega), (by simp_all <;> omega), (by simp_all <;> omega), (by omega), (by simp_all <;> omega), fun _ _ => trivial, (by assumption), inR64 (by omega) (by omega)⟩ ?_
      exact Wp.lpK (by kernel_rfl) (again _ (k + 1) (by assumption) (by omega) (Ent.of [] (by kernel_rfl) (by kernel_rfl) (by kernel_rfl) trivial))
  · obtain rfl : k = l.length := by omega
    rw [partsQ_end]
    refine Wp.go (mx := true) (fun _ => mixed) [] 100 [false] [decide ((↑l.length : Int) < (↑l.length : Int)) = false] (by kernel_rfl) (by kernel_rfl) (by kernel_rfl) (show decide ((↑l.length : Int) < (↑l.length : Int)) = false from (by simp; done)) ?_
    refine Wp.ret' (by kernel_rfl) ?_
    exact FinQ.pure (rs' := [V1.c (Cell.str (printQ l))]) (by kernel_rfl) rfl (by kernel_rfl)
end Go.Proofs.Tw
end

section
open Go Go.Sv
namespace Go.Proofs.Tw
attribute [local irreducible] Wp FinQ resV Ent Pur Go.Sv.Fn Sat0
set_option maxRecDepth 100000
set_option maxHeartbeats 4000000
variable {G : Nat → Option (List Cell)}

def isIn (l : List (List UInt8)) (s : List UInt8) : Bool := l.any (· == s)
end Go.Proofs.Tw
end

section
open Go Go.Sv
namespace Go.Proofs.Tw
attribute [local irreducible] Wp FinQ resV Ent Pur Go.Sv.Fn Sat0
set_option maxRecDepth 100000
set_option maxHeartbeats 4000000

def namesQ (l : List FT) (k : Nat) : List (List UInt8) := (l.take k).map (·.name)
def okQ (l : List FT) (i : Nat) : Bool := !((l.getD i .nil).name == []) && !isIn (namesQ l i) (l.getD i .nil).name
def unlikeQ (l : List FT) : Bool := (List.range l.length).all (okQ l)
def targetU (u : UT) : List UInt8 := if u.query.length = 0 then u.path else u.path ++ [63] ++ printQ u.query
structure FitU (u : UT) : Prop where
  hh : u.host.length ≤ 1000000000
  hp : u.path.length ≤ 1000000000
  hn : u.query.length < 1000000000
  hj : (printQ u.query).length ≤ 10000000000
def mayU (u : UT) : Bool := hostT u.host && pathT u.path && decide ((u.query.length : Int) ≤ 24) && unlikeQ u.query && decide ((([104, 116, 116, 112, 115, 58, 47, 47] ++ u.host ++ targetU u).length : Int) ≤ 1024)
theorem may_b1 (u : UT) : (bif bif bif bif hostT u.host then pathT u.path else false then decide ((u.query.length : Int) ≤ 24) else false then unlikeQ u.query else false then decide ((([104, 116, 116, 112, 115, 58, 47, 47] ++ u.host ++ targetU u).length : Int) ≤ 1024) else false) = mayU u := by
  unfold mayU
  simp only [Bool.cond_false_right]
theorem fGet_isIn (l : List FT) (k : Nat) (s : List UInt8) : (fGet (l.take k) s).isSome = isIn (namesQ l k) s := by
  unfold fGet isIn namesQ
  rw [Option.isSome_map, List.any_map, Bool.eq_iff_iff, List.find?_isSome]
  simp
theorem unlike10_ok {G : Nat → Option (List Cell)} (l : List FT) (hl : l.length < 1000000000000) : Pur Tryz.prog G 90 [.c (encH l)] [.c (.bool (unlikeQ l))] := by
  refine Pur.of Tryz.func90 (by kernel_rfl) (by kernel_rfl) (by kernel_rfl) ?_
  refine Wp.go (mx := true) (fun _ => mixed) [] 100 [] [] (by kernel_rfl) (by kernel_rfl) (by kernel_rfl) trivial ?_
  refine Wp.loopK (by kernel_rfl) (fun (k : Nat) => ⟨[(0, TV.v (V1.c (encH l))), (3, TV.v (V1.c (Cell.int .i64 (k : Int))))], [], 32⟩) (fun k => k ≤ l.length ∧ ∀ i, i < k → okQ l i = true) (fun k => l.length - k) 0 (Ent.of [] (by kernel_rfl) (by kernel_rfl) (by kernel_rfl) trivial) ⟨Nat.zero_le _, fun _ h => absurd h (Nat.not_lt_zero _)⟩ ?_
  intro k L ⟨hk, hall⟩ again
  rcases Nat.lt_or_ge k l.length with hlt | hge
  · have htl : (l.take k).length = k := by rw [List.length_take]; omega
    have e1 : EqvD (V1.c (Cell.sl 2 k (fun i j => nthD (encF (l.getD (0 + i) .nil)) j))) (.c (encH (l.take k))) := by
      refine EqvD.sl htl.symm fun i hi j hj => ?_
      simp [List.getD, List.getElem?_take, hi]
    have c := has10_n (G := G) (l.take k) (l.take k).length (l.getD k .nil).name rfl (by omega)
    rw [fGet_isIn l k] at c
    cases hn : (l.getD k .nil).name == [] with
    | true =>
      have hu : unlikeQ l = false := all_range_false hlt (by unfold okQ; rw [hn]; rfl)
      rw [hu]
      refine Wp.go (mx := true) (fun _ => mixed) [(4, {cs := [(15, pc c)], fm := [(9, .c (encH (l.take k)))]})] 100 [true, true] [decide ((↑k : Int) < (↑l.length : Int)) = true, (0 : Int) ≤ (↑k : Int) ∧ (↑k : Int) < (↑l.length : Int), EqvI (V1.c (Cell.sl (2 : Nat) ((Int.ofNat k).toNat - (0 : Nat)) fun (i j : Nat) => nthD [Cell.str (l.getD ((0 : Nat) + i) FT.nil).name, Cell.str (l.getD ((0 : Nat) + i) FT.nil).value] j)) (V1.c (encH (List.take k l))), ((l.getD k FT.nil).name == []) = false → EqvD (V1.c (Cell.sl (2 : Nat) ((Int.ofNat k).toNat - (0 : Nat)) fun (i j : Nat) => nthD [Cell.str (l.getD ((0 : Nat) + i) FT.nil).name, Cell.str (l.getD ((0 : Nat) + i) FT.nil).value] j)) (V1.c (encH (List.take k l))), ((l.getD k FT.nil).name == []) = false → (0 : Int) ≤ Int.ofNat (0) ∧ Int.ofNat (0) ≤ Int.ofNat k ∧ Int.ofNat k ≤ (↑l.length : Int), ((l.getD k FT.nil).name == []) = false → (0 : Int) ≤ (↑k : Int) ∧ (↑k : Int) < (↑l.length : Int), (bif (l.getD k FT.nil).name == [] then true else isIn (namesQ l k) (l.getD k FT.nil).name) = true] (by kernel_rfl) (by kernel_rfl) (by kernel_rfl) ⟨(by simp; omega), (by omega), fun _ _ => trivial, (by intro _; assumption), (by simp; omega), (by omega), (show (bif (l.getD k FT.nil).name == [] then true else isIn (namesQ l k) (l.getD k FT.nil).name) = true from (by simp_all <;> omega))⟩ ?_
      refine Wp.ret' (by kernel_rfl) ?_
      exact FinQ.pure (rs' := [V1.c (Cell.bool false)]) (by kernel_rfl) rfl (by kernel_rfl)
    | false =>
      cases hi : isIn (namesQ l k) (l.getD k .nil).name with
      | true =>
        have hu : unlikeQ l = false := all_range_false hlt (by unfold okQ; rw [hn, hi]; rfl)
        rw [hu]
        rw [hi] at c
        refine Wp.go (mx := true) (fun _ => mixed) [(4, {cs := [(15, pc c)], fm := [(9, .c (encH (l.take k)))]})] 100 [true, true] [decide ((↑k : Int) < (↑l.length : Int)) = true, (0 : Int) ≤ (↑k : Int) ∧ (↑k : Int) < (↑l.length : Int), EqvI (V1.c (Cell.sl (2 : Nat) ((Int.ofNat k).toNat - (0 : Nat)) fun (i j : Nat) => nthD [Cell.str (l.getD ((0 : Nat) + i) FT.nil).name, Cell.str (l.getD ((0 : Nat) + i) FT.nil).value] j)) (V1.c (encH (List.take k l))), ((l.getD k FT.nil).name == []) = false → EqvD (V1.c (Cell.sl (2 : Nat) ((Int.ofNat k).toNat - (0 : Nat)) fun (i j : Nat) => nthD [Cell.str (l.getD ((0 : Nat) + i) FT.nil).name, Cell.str (l.getD ((0 : Nat) + i) FT.nil).value] j)) (V1.c (encH (List.take k l))), ((l.getD k FT.nil).name == []) = false → (0 : Int) ≤ Int.ofNat (0) ∧ Int.ofNat (0) ≤ Int.ofNat k ∧ Int.ofNat k ≤ (↑l.length : Int), ((l.getD k FT.nil).name == []) = false → (0 : Int) ≤ (↑k : Int) ∧ (↑k : Int) < (↑l.length : Int), (bif (l.getD k FT.nil).name == [] then true else true) = true] (by kernel_rfl) (by kernel_rfl) (by kernel_rfl) ⟨(by simp; omega), (by omega), fun _ _ => trivial, (by intro _; assumption), (by simp; omega), (by omega), (show (bif (l.getD k FT.nil).name == [] then true else true) = true from (by simp; done))⟩ ?_
        refine Wp.ret' (by kernel_rfl) ?_
        exact FinQ.pure (rs' := [V1.c (Cell.bool false)]) (by kernel_rfl) rfl (by kernel_rfl)
      | false =>
        have ho : okQ l k = true := by unfold okQ; rw [hn, hi]; rfl
        have hall' := up1 hall ho
        rw [hi] at c
        refine Wp.go (mx := true) (fun _ => mixed) [(4, {cs := [(15, pc c)], fm := [(9, .c (encH (l.take k)))]})] 100 [true, false] [decide ((↑k : Int) < (↑l.length : Int)) = true, (0 : Int) ≤ (↑k : Int) ∧ (↑k : Int) < (↑l.length : Int), EqvI (V1.c (Cell.sl (2 : Nat) ((Int.ofNat k).toNat - (0 : Nat)) fun (i j : Nat) => nthD [Cell.str (l.getD ((0 : Nat) + i) FT.nil).name, Cell.str (l.getD ((0 : Nat) + i) FT.nil).value] j)) (V1.c (encH (List.take k l))), ((l.getD k FT.nil).name == []) = false → EqvD (V1.c (Cell.sl (2 : Nat) ((Int.ofNat k).toNat - (0 : Nat)) fun (i j : Nat) => nthD [Cell.str (l.getD ((0 : Nat) + i) FT.nil).name, Cell.str (l.getD ((0 : Nat) + i) FT.nil).value] j)) (V1.c (encH (List.take k l))), ((l.getD k FT.nil).name == []) = false → (0 : Int) ≤ Int.ofNat (0) ∧ Int.ofNat (0) ≤ Int.ofNat k ∧ Int.ofNat k ≤ (↑l.length : Int), ((l.getD k FT.nil).name == []) = false → (0 : Int) ≤ (↑k : Int) ∧ (↑k : Int) < (↑l.length : Int), (bif (l.getD k FT.nil).name == [] then true else false) = false, inR IntKind.i64 ((↑k : Int) + (1 : Int))] (by kernel_rfl) (by kernel_rfl) (by kernel_rfl) ⟨(by simp; omega), (by omega), fun _ _ => trivial, (by intro _; assumption), (by simp; omega), (by omega), (by simp_all <;> omega), inR64 (by omega) (by omega)⟩ ?_
        exact Wp.lpK (by kernel_rfl) (again _ (k + 1) ⟨(by assumption), (by assumption)⟩ (by omega) (Ent.of [] (by kernel_rfl) (by kernel_rfl) (by kernel_rfl) trivial))
  · have hu : unlikeQ l = true := all_range_true (fun i hi => hall i (by omega))
    rw [hu]
    refine Wp.go (mx := true) (fun _ => mixed) [] 100 [false] [decide ((↑k : Int) < (↑l.length : Int)) = false] (by kernel_rfl) (by kernel_rfl) (by kernel_rfl) (show decide ((↑k : Int) < (↑l.length : Int)) = false from (by simp; omega)) ?_
    refine Wp.ret' (by kernel_rfl) ?_
    exact FinQ.pure (rs' := [V1.c (Cell.bool true)]) (by kernel_rfl) rfl (by kernel_rfl)
theorem target11_ok {G : Nat → Option (List Cell)} (u : UT) (h : FitU u) : Pur Tryz.prog G 62 [.agg (encU u)] [.c (.str (targetU u))] := by
  refine Pur.of Tryz.func62 (by kernel_rfl) (by kernel_rfl) (by kernel_rfl) ?_
  have hp := h.hp
  have hn := h.hn
  have hj := h.hj
  by_cases h0 : u.query.length = 0
  · have ht : targetU u = u.path := by unfold targetU; rw [if_pos h0]
    rw [ht]
    refine Wp.go (mx := true) (fun _ => mixed) [] 100 [true] [((↑u.query.length : Int) == (0 : Int)) = true] (by kernel_rfl) (by kernel_rfl) (by kernel_rfl) (show ((↑u.query.length : Int) == (0 : Int)) = true from (by simp_all <;> omega)) ?_
    refine Wp.ret' (by kernel_rfl) ?_
    exact FinQ.pure (rs' := [V1.c (Cell.str u.path)]) (by kernel_rfl) rfl (by kernel_rfl)
  · have ht : targetU u = u.path ++ [63] ++ printQ u.query := by unfold targetU; rw [if_neg h0]
    rw [ht]
    refine Wp.go (mx := true) (fun _ => mixed) [(3, {cs := [(5, pc (print10_ok u.query (by omega) (by omega)))]})] 100 [false] [((↑u.query.length : Int) == (0 : Int)) = false, u.path.length + (1 : Nat) ≤ (9223372036854775807 : Nat), (u.path ++ [(63 : UInt8)]).length + (printQ u.query).length ≤ (9223372036854775807 : Nat)] (by kernel_rfl) (by kernel_rfl) (by kernel_rfl) ⟨(by simp_all <;> omega), (by omega), (show (u.path ++ [(63 : UInt8)]).length + (printQ u.query).length ≤ (9223372036854775807 : Nat) from (by simp; omega))⟩ ?_
    refine Wp.ret' (by kernel_rfl) ?_
    exact FinQ.pure (rs' := [V1.c (Cell.str (u.path ++ [(63 : UInt8)] ++ printQ u.query))]) (by kernel_rfl) rfl (by kernel_rfl)
theorem targetU_len (u : UT) (h : FitU u) : (targetU u).length ≤ 20000000000 := by
  have hp := h.hp
  have hj := h.hj
  unfold targetU
  split
  · omega
  · simp only [List.length_append, List.length_cons, List.length_nil]; omega
theorem may11_ok {G : Nat → Option (List Cell)} (u : UT) (h : FitU u) : Pur Tryz.prog G 61 [.agg (encU u)] [.c (.bool (mayU u))] := by
  refine Pur.of Tryz.func61 (by kernel_rfl) (by kernel_rfl) (by kernel_rfl) ?_
  have hh := h.hh
  have hp := h.hp
  have hn := h.hn
  have ht := targetU_len u h
  have c := target11_ok (G := G) u h
  rw [← may_b1]
  refine Wp.go (mx := true) (fun _ => mixed) [(1, {cs := [(2, pc (host11_ok u.host (by omega))), (6, pc (path11_ok u.path (by omega))), (17, pc (unlike10_ok u.query (by omega))), (24, pc c)]})] 100 [] [(bif bif bif hostT u.host then pathT u.path else false then decide ((↑u.query.length : Int) ≤ (24 : Int)) else false then unlikeQ u.query else false) = true → (8 : Nat) + u.host.length ≤ (9223372036854775807 : Nat), (bif bif bif hostT u.host then pathT u.path else false then decide ((↑u.query.length : Int) ≤ (24 : Int)) else false then unlikeQ u.query else false) = true → ([(104 : UInt8), 116, 116, 112, 115, 58, 47, 47] ++ u.host).length + (targetU u).length ≤ (9223372036854775807 : Nat)] (by kernel_rfl) (by kernel_rfl) (by kernel_rfl) ⟨(by omega), (show (bif bif bif hostT u.host then pathT u.path else false then decide ((↑u.query.length : Int) ≤ (24 : Int)) else false then unlikeQ u.query else false) = true → ([(104 : UInt8), 116, 116, 112, 115, 58, 47, 47] ++ u.host).length + (targetU u).length ≤ (9223372036854775807 : Nat) from (by simp; omega))⟩ ?_
  refine Wp.ret' (by kernel_rfl) ?_
  exact FinQ.pure (rs' := [V1.c (Cell.bool (bif bif bif bif hostT u.host then pathT u.path else false then decide ((↑u.query.length : Int) ≤ (24 : Int)) else false then unlikeQ u.query else false then decide ((↑([(104 : UInt8), 116, 116, 112, 115, 58, 47, 47] ++ u.host ++ targetU u).length : Int) ≤ (1024 : Int)) else false))]) (by kernel_rfl) rfl (by kernel_rfl)
end Go.Proofs.Tw
end

section
open Go Go.Sv
namespace Go.Proofs.Tw
attribute [local irreducible] Wp FinQ resV Ent Pur Go.Sv.Fn Sat0
set_option maxRecDepth 100000
set_option maxHeartbeats 4000000
variable {G : Nat → Option (List Cell)}

theorem CEqs.at {l l' : List Cell} (h : CEqs l l') : ∀ (j : Nat) (y : Cell), l'[j]? = some y → ∃ x, l[j]? = some x ∧ CEq x y := by
  induction h with
  | nil => intro j y hj; simp at hj
  | cons h1 h2 ih =>
    intro j y hj
    cases j with
    | zero => simp at hj; subst hj; exact ⟨_, by simp, h1⟩
    | succ j => simp at hj; obtain ⟨x, hx, hc⟩ := ih j y hj; exact ⟨x, by simpa using hx, hc⟩
theorem BlkEqv.boxOf {e : TypeId} {cs cs' : List Cell} (h : CEqs cs cs') (hf : flats cs' = true) : BlkEqv (.box e cs) (.box e cs') := by
  refine ⟨fun D ρ id w hs => ?_, fun S _ => flats_inS hf S⟩
  obtain ⟨h0, vs, fz, h1, h2, h3, h4⟩ := hs
  refine ⟨h0, vs, fz, h1, by rw [h2, h.len], h3, fun j y hj => ?_⟩
  obtain ⟨x, hx, hc⟩ := h.at j y hj
  obtain ⟨u, hu, hd⟩ := h4 j x hx
  exact ⟨u, hu, hc _ _ _ hd⟩

structure QT where
  (method target : List UInt8) (head : List FT) (body : List UInt8)
def QT.nil : QT := ⟨[], [], [], []⟩
def encQ (r : QT) : List Cell := [.str r.method, .str r.target, encH r.head, .str r.body]
def clN : List UInt8 := [99, 111, 110, 116, 101, 110, 116, 45, 108, 101, 110, 103, 116, 104]
def notCl (f : FT) : Bool := !(f.name == clN)
def tgB (c : UInt8) : Bool := 33 ≤ c && c ≤ 126
def methT (s : List UInt8) : Bool := s.all greatB && (decide (1 ≤ s.length) && decide (s.length ≤ 16))
def targT (s : List UInt8) : Bool := s.all tgB && (decide (1 ≤ s.length) && decide (s.length ≤ 1024))
def linedT (m t : List UInt8) : Bool := methT m && targT t
/-- The lines of a head, what stands behind, or why not. -/
def hdC (s : List UInt8) : List UInt8 × List UInt8 × Bool := Lib.cut s [13, 10, 13, 10]
def bigH (s : List UInt8) : Bool := bif (hdC s).2.2 then decide (((hdC s).1.length : Int) + 4 > 2048) else decide ((s.length : Int) > 2048)
def linesH (s : List UInt8) : List (List UInt8) := Lib.split (hdC s).1 [13, 10]
def splitH (s : List UInt8) : Int := if bigH s then 4 else if (hdC s).2.2 = false then 3 else if (linesH s).length > 25 then 4 else 0
/-- A line as a field. -/
def lineF (p : List UInt8) : FT := ⟨foldT (Lib.cut p [58, 32]).1, (Lib.cut p [58, 32]).2.1⟩
def okL (p : List UInt8) : Bool := (Lib.cut p [58, 32]).2.2 && (tokenT (Lib.cut p [58, 32]).1 && (Lib.cut p [58, 32]).2.1.all seenB)
def okA (acc : List FT) (p : List UInt8) : Bool := okL p && !(fGet acc (lineF p).name).isSome
def fieldsA : List (List UInt8) → List FT → List FT
  | [], acc => acc
  | p :: r, acc => if okA acc p then fieldsA r (acc ++ [lineF p]) else acc
def fieldsO : List (List UInt8) → List FT → Bool
  | [], _ => true
  | p :: r, acc => if okA acc p then fieldsO r (acc ++ [lineF p]) else false
def fieldsL (s : List UInt8) : List (List UInt8) := (linesH s).drop 1
def firstH (s : List UInt8) : List UInt8 := (linesH s).getD 0 []
/-- What content-length says of what stands behind. -/
def szE (z : List UInt8) (d : Bool) (b : List UInt8) : Int := if d then (if numK 9 z = false then 3 else if nv z > 4096 then 4 else if nv z = b.length then 0 else 3) else if b = [] then 0 else 3
def bodyE (l : List FT) (b : List UInt8) : Int := szE ((fGet l clN).getD []) (fGet l clN).isSome b
/-- A request's first line, a response's. -/
def askM (s : List UInt8) : List UInt8 := (Lib.cut s [32]).1
def askT (s : List UInt8) : List UInt8 := Lib.trimSuffix (Lib.cut s [32]).2.1 [32, 72, 84, 84, 80, 47, 49, 46, 49]
def askB (s : List UInt8) : Bool := Lib.hasSuffix (Lib.cut s [32]).2.1 [32, 72, 84, 84, 80, 47, 49, 46, 49] && linedT (askM s) (askT s)
def verS : List UInt8 := [72, 84, 84, 80, 47, 49, 46, 49, 32]
def tellC (s : List UInt8) : List UInt8 × List UInt8 × Bool := Lib.cut (Lib.trimPrefix s verS) [32]
def tellN (s : List UInt8) : Int := if numK 3 (tellC s).1 then ((nv (tellC s).1 : Nat) : Int) else 0
def tellB (s : List UInt8) : Bool := Lib.hasPrefix s verS && ((tellC s).2.2 && (numK 3 (tellC s).1 && (statedT (tellN s) && (tellC s).2.1.all seenB)))
/-- Fields and body of a text whose first line is of a kind; or why none. -/
def readH (line : List UInt8 → Bool) (s : List UInt8) : List FT × Int :=
  if splitH s ≠ 0 then ([], splitH s) else if line (firstH s) = false then ([], 3) else if fieldsO (fieldsL s) [] = false then ([], 3) else
    if bodyE (fieldsA (fieldsL s) []) (hdC s).2.1 = 0 then ((fieldsA (fieldsL s) []).filter notCl, 0) else ([], bodyE (fieldsA (fieldsL s) []) (hdC s).2.1)
def parseQ (s : List UInt8) : QT × Int := if (readH askB s).2 = 0 then (⟨askM (firstH s), askT (firstH s), (readH askB s).1, (hdC s).2.1⟩, 0) else (.nil, (readH askB s).2)
def nilR : RT := ⟨0, [], []⟩
def parseR (s : List UInt8) : RT × Int := if (readH tellB s).2 = 0 then (⟨tellN (firstH s), (readH tellB s).1, (hdC s).2.1⟩, 0) else (nilR, (readH tellB s).2)

theorem splitK_nil (sep : List UInt8) (k : Nat) (s : List UInt8) : Lib.splitK sep 0 k s ≠ [] := by
  cases k with
  | zero => simp [Lib.splitK]
  | succ k => unfold Lib.splitK; split <;> simp
end Go.Proofs.Tw
end

section
open Go Go.Sv Go.RowKit
namespace Go.Proofs.Tw
attribute [local irreducible] Wp FinQ resV Ent Pur Go.Sv.Fn Sat0
set_option maxRecDepth 100000
set_option maxHeartbeats 4000000
variable {G : Nat → Option (List Cell)}

theorem lib_CutPrefix (s p : List UInt8) : Pur Tryz.prog G 42 [.c (.str s), .c (.str p)] [.c (.str (Lib.trimPrefix s p)), .c (.bool (Lib.hasPrefix s p))] := by
  refine Pur.of_below rfl ?_
  intro D ρ w vs h1 _ _ _
  obtain ⟨u, v, rfl, hu, hv⟩ := h1.two
  have hu : u = .string ⟨s.toArray⟩ := hu
  have hv : v = .string ⟨p.toArray⟩ := hv
  subst hu hv
  refine (Go.Proofs.Tryz.strings_CutPrefix ⟨s.toArray⟩ ⟨p.toArray⟩ w).mono ?_
  rintro e w' ⟨rfl, rfl⟩
  refine ⟨_, rfl, ⟨_, rfl, rfl, fun j x hj => ?_⟩, Below.refl _ _⟩
  match j, hj with
  | 0, hj => simp at hj; subst hj; exact ⟨_, rfl, rfl⟩
  | 1, hj => simp at hj; subst hj; exact ⟨_, rfl, rfl⟩
  | j + 2, hj => simp at hj
theorem inTarget_ok (c : UInt8) : Pur Tryz.prog G 74 [.c (.int .u8 (c.toNat : Int))] [.c (.bool (tgB c))] := by
  refine Pur.of Tryz.func74 (by kernel_rfl) (by kernel_rfl) (by kernel_rfl) ?_
  refine Wp.go (mx := true) (fun _ => mixed) [] 100 [] [] (by kernel_rfl) (by kernel_rfl) (by kernel_rfl) trivial ?_
  refine Wp.ret' (by kernel_rfl) ?_
  exact FinQ.pure (rs' := [V1.c (Cell.bool (bif decide ((↑c.toNat : Int) ≥ (33 : Int)) then decide ((↑c.toNat : Int) ≤ (126 : Int)) else false))]) (by kernel_rfl) (by revert c; refine by_all _ _ ?_; kernel_rfl) (by kernel_rfl)
theorem All_target (s : List UInt8) (hl : s.length < 4611686018427387904) : Pur Tryz.prog G 72 [.c (.str s), .c (.clo 74 0 (fun _ => none) (fun _ _ => .nilif))] [.c (.bool (s.all tgB))] := by
  refine Pur.of Tryz.func72 (by kernel_rfl) (by kernel_rfl) (by kernel_rfl) ?_
  refine Wp.go (mx := true) (fun _ => mixed) [] 100 [] [] (by kernel_rfl) (by kernel_rfl) (by kernel_rfl) trivial ?_
  refine Wp.loopK (by kernel_rfl) (fun (k : Nat) => ⟨[(0, TV.v (V1.c (Cell.str s))), (1, TV.v (V1.c (Cell.clo 74 (0 : Nat) (fun _ => none) fun _ _ => Cell.nilif))), (7, TV.v (V1.c (Cell.int .i64 (↑s.length : Int)))), (8, TV.v (V1.c (Cell.int .i64 (k : Int))))], [], 32⟩) (fun k => k ≤ s.length ∧ s.all tgB = (s.drop k).all tgB) (fun k => s.length - k) 0 (Ent.of [] (by kernel_rfl) (by kernel_rfl) (by kernel_rfl) trivial) ⟨Nat.zero_le _, rfl⟩ ?_
  intro k L ⟨hk, hq⟩ again
  rcases Nat.lt_or_ge k s.length with hlt | hge
  · rw [dropS s k hlt, List.all_cons] at hq
    refine Wp.go (mx := true) (fun _ => mixed) [(4, {cs := [(4, pc (inTarget_ok (s.getD k (0 : UInt8))))]})] 100 [true] [decide ((↑k : Int) < (↑s.length : Int)) = true, (0 : Int) ≤ (↑k : Int) ∧ (↑k : Int) < (↑s.length : Int)] (by kernel_rfl) (by kernel_rfl) (by kernel_rfl) ⟨(by simp; omega), (show (0 : Int) ≤ (↑k : Int) ∧ (↑k : Int) < (↑s.length : Int) from (by omega))⟩ ?_
    refine Wp.cond' (by kernel_rfl) (!tgB (s.getD k (0 : UInt8))) (by kernel_rfl) (fun h0 => ?_) (fun h0 => ?_)
    · have g0 := h0
      simp at g0
      refine Wp.go (mx := true) (fun _ => mixed) [] 100 [] [] (by kernel_rfl) (by kernel_rfl) (by kernel_rfl) trivial ?_
      refine Wp.ret' (by kernel_rfl) ?_
      exact FinQ.pure (rs' := [V1.c (Cell.bool false)]) (by kernel_rfl) (by simp_all; done) (by kernel_rfl)
    · have g0 := h0
      simp at g0
      refine Wp.go (mx := true) (fun _ => mixed) [] 100 [] [inR IntKind.i64 ((↑k : Int) + (1 : Int))] (by kernel_rfl) (by kernel_rfl) (by kernel_rfl) (inR64 (by omega) (by omega)) ?_
      exact Wp.lpK (by kernel_rfl) (again _ (k + 1) (⟨(by assumption), (by simp_all <;> omega)⟩) (by omega) (Ent.of [] (by kernel_rfl) (by kernel_rfl) (by kernel_rfl) trivial))
  · obtain rfl : k = s.length := by omega
    rw [List.drop_length] at hq
    refine Wp.go (mx := true) (fun _ => mixed) [] 100 [false] [decide ((↑s.length : Int) < (↑s.length : Int)) = false] (by kernel_rfl) (by kernel_rfl) (by kernel_rfl) ((show decide ((↑s.length : Int) < (↑s.length : Int)) = false from (by simp; done))) ?_
    refine Wp.ret' (by kernel_rfl) ?_
    exact FinQ.pure (rs' := [V1.c (Cell.bool true)]) (by kernel_rfl) (by rw [hq]; rfl) (by kernel_rfl)
theorem lined_b (m t : List UInt8) : (bif bif bif bif bif !(m == []) then decide ((m.length : Int) ≤ 16) else false then m.all greatB else false then !(t == []) else false then decide ((t.length : Int) ≤ 1024) else false then t.all tgB else false) = linedT m t := by
  unfold linedT methT targT
  have h1 : ∀ s : List UInt8, (!(s == [])) = decide (1 ≤ s.length) := fun s => by cases s <;> simp
  rw [h1, h1, show decide ((m.length : Int) ≤ 16) = decide (m.length ≤ 16) from decide_eq_decide.2 (by omega), show decide ((t.length : Int) ≤ 1024) = decide (t.length ≤ 1024) from decide_eq_decide.2 (by omega)]
  cases decide (1 ≤ m.length) <;> cases decide (m.length ≤ 16) <;> cases m.all greatB <;> cases decide (1 ≤ t.length) <;> cases decide (t.length ≤ 1024) <;> cases t.all tgB <;> rfl
theorem lined_ok (m t : List UInt8) (h1 : m.length < 4611686018427387904) (h2 : t.length < 4611686018427387904) : Pur Tryz.prog G 36 [.c (.str m), .c (.str t)] [.c (.bool (linedT m t))] := by
  refine Pur.of Tryz.func36 (by kernel_rfl) (by kernel_rfl) (by kernel_rfl) ?_
  rw [← lined_b]
  have c1 := All_great (G := G) m h1
  have c2 := All_target (G := G) t h2
  refine Wp.go (mx := true) (fun _ => mixed) [(1, {cs := [(9, pc c1), (22, pc c2)]})] 100 [] [] (by kernel_rfl) (by kernel_rfl) (by kernel_rfl) trivial ?_
  refine Wp.ret' (by kernel_rfl) ?_
  exact FinQ.pure (rs' := [V1.c (Cell.bool (bif bif bif bif bif !m == [] then decide ((↑m.length : Int) ≤ (16 : Int)) else false then m.all greatB else false then !t == [] else false then decide ((↑t.length : Int) ≤ (1024 : Int)) else false then t.all tgB else false))]) (by kernel_rfl) rfl (by kernel_rfl)
theorem askL_ok (hL : HasLen G) (s m t : List UInt8) (hl : s.length < 1000000000) : FnB Tryz.prog G 33 [.box 28 [.str m, .str t, .nilsl, .str []]] [.c (.str s), .c (.ptr 0 0)] [.c (.bool (askB s))] [(0, .box 28 [.str (askM s), .str (askT s), .nilsl, .str []])] := by
  refine Fn.of' Tryz.func33 (by kernel_rfl) (by kernel_rfl) (by kernel_rfl) (by kernel_rfl) trivial ?_
  obtain ⟨mx, hG⟩ := hL
  have c1 := lib_Cut hG s [32] (by omega)
  have hc := cut_len s [32]
  have c2 := lib_CutSuffix (G := G) (Lib.cut s [32]).2.1 [32, 72, 84, 84, 80, 47, 49, 46, 49] (by omega)
  have ht : (Lib.trimSuffix (Lib.cut s [32]).2.1 [32, 72, 84, 84, 80, 47, 49, 46, 49]).length ≤ s.length := by
    unfold Lib.trimSuffix
    split
    · rw [List.length_take]; omega
    · omega
  have c3 := lined_ok (G := G) (askM s) (askT s) (by unfold askM; omega) (by unfold askT; omega)
  unfold askB
  have e : (Lib.hasSuffix (Lib.cut s [32]).2.1 [32, 72, 84, 84, 80, 47, 49, 46, 49] && linedT (askM s) (askT s)) = (bif Lib.hasSuffix (Lib.cut s [32]).2.1 [32, 72, 84, 84, 80, 47, 49, 46, 49] then linedT (askM s) (askT s) else false) := by cases Lib.hasSuffix (Lib.cut s [32]).2.1 [32, 72, 84, 84, 80, 47, 49, 46, 49] <;> rfl
  rw [e]
  unfold askM askT at c3 ⊢
  refine Wp.go (mx := true) (fun _ => mixed) [(1, {cs := [(1, pc c1)]}), (2, {cs := [(1, pc c2)]}), (4, {cs := [(4, pc c3)]})] 100 [] [] (by kernel_rfl) (by kernel_rfl) (by kernel_rfl) trivial ?_
  refine Wp.ret' (by kernel_rfl) ?_
  exact FinQ.blk [] (by kernel_rfl) (by kernel_rfl) (by kernel_rfl) (by kernel_rfl) (by kernel_rfl) trivial
theorem tellL_ok (hL : HasLen G) (s : List UInt8) (n : Int) (hl : s.length < 1000000000) : FnB Tryz.prog G 41 [.box 33 [.int .i64 n, .nilsl, .str []]] [.c (.str s), .c (.ptr 0 0)] [.c (.bool (tellB s))] [(0, .box 33 [.int .i64 (tellN s), .nilsl, .str []])] := by
  refine Fn.of' Tryz.func41 (by kernel_rfl) (by kernel_rfl) (by kernel_rfl) (by kernel_rfl) trivial ?_
  obtain ⟨mx, hG⟩ := hL
  have c1 := lib_CutPrefix (G := G) s verS
  have hp : (Lib.trimPrefix s verS).length ≤ s.length := by
    unfold Lib.trimPrefix
    split
    · rw [List.length_drop]; omega
    · omega
  have c2 : Pur Tryz.prog G 34 [.c (.str (Lib.trimPrefix s verS)), .c (.str [32])] [.c (.str (tellC s).1), .c (.str (tellC s).2.1), .c (.bool (tellC s).2.2)] := lib_Cut hG _ [32] (by omega)
  have hc := cut_len (Lib.trimPrefix s verS) [32]
  have hc1 : (tellC s).1.length < 1000000000 := by unfold tellC; omega
  have hc2 : (tellC s).2.1.length < 1000000000 := by unfold tellC; omega
  have c3 : Pur Tryz.prog G 43 [.c (.str (tellC s).1), .c (.int .i64 3)] [.c (.int .i64 (tellN s)), .c (.bool (numK 3 (tellC s).1))] := by
    unfold tellN
    cases hk : numK 3 (tellC s).1 with
    | true => rw [if_pos rfl]; exact numK_yes (K := 3) (by decide) _ hk
    | false => rw [if_neg (by decide)]; exact numK_no (K := 3) _ hc1 hk
  have c4 := stated_ok (G := G) (tellN s)
  have c5 := seen_ok (G := G) (tellC s).2.1 (by omega)
  have e : tellB s = (bif bif bif bif Lib.hasPrefix s verS then (tellC s).2.2 else false then numK 3 (tellC s).1 else false then statedT (tellN s) else false then (tellC s).2.1.all seenB else false) := by
    unfold tellB
    cases Lib.hasPrefix s verS <;> cases (tellC s).2.2 <;> cases numK 3 (tellC s).1 <;> cases statedT (tellN s) <;> rfl
  rw [e]
  generalize tellN s = N at c3 c4 ⊢
  generalize tellC s = C at c2 c3 c5 ⊢
  refine Wp.go (mx := true) (fun _ => mixed) [(1, {cs := [(1, pc c1)]}), (2, {cs := [(1, pc c2)]}), (3, {cs := [(1, pc c3)]}), (5, {cs := [(9, pc c4), (13, pc c5)]})] 100 [] [] (by kernel_rfl) (by kernel_rfl) (by kernel_rfl) trivial ?_
  refine Wp.ret' (by kernel_rfl) ?_
  exact FinQ.blk [] (by kernel_rfl) (by kernel_rfl) (by kernel_rfl) (by kernel_rfl) (by kernel_rfl) trivial
end Go.Proofs.Tw
end

section
open Go Go.Sv
namespace Go.Proofs.Tw
attribute [local irreducible] Wp FinQ resV Ent Pur Go.Sv.Fn Sat0
set_option maxRecDepth 100000
set_option maxHeartbeats 4000000
variable {G : Nat → Option (List Cell)}

def rdB (f : List UInt8) (h : Cell) (b : List UInt8) (l : Cell) (z : List UInt8) (d : Bool) : Blk := .box 77 [.str f, h, .str b, l, .str z, .bool d]
def rdZ : Blk := rdB [] .nilsl [] .nilsl [] false
def encL (l : List (List UInt8)) : Cell := .sl 1 l.length (strsF l)
theorem rdz_eqv (b : List UInt8) (l : List (List UInt8)) (f : List UInt8) : BlkEqv (rdB f .nilsl b (encL l) [] false) (rdB f (encH []) b (encL l) [] false) :=
  BlkEqv.boxOf (.cons CEq.rfl' (.cons CEq.nil (.cons CEq.rfl' (.cons CEq.rfl' (.cons CEq.rfl' (.cons CEq.rfl' .nil)))))) (by kernel_rfl)
theorem rdz_eqv0 : BlkEqv rdZ (rdB [] (encH []) [] (encL []) [] false) :=
  BlkEqv.boxOf (.cons CEq.rfl' (.cons CEq.nil (.cons CEq.rfl' (.cons CEq.nil (.cons CEq.rfl' (.cons CEq.rfl' .nil)))))) (by kernel_rfl)
theorem rcut_big (hL : HasLen G) (s : List UInt8) (hl : s.length < 1000000000) (h : bigH s = true) : FnB Tryz.prog G 67 [rdZ] [.c (.ptr 0 0), .c (.str s)] [.c (.int .i64 4)] [(0, rdB [] (encH []) [] (encL []) [] false)] := by
  refine Fn.of' Tryz.func67 (by kernel_rfl) (by kernel_rfl) (by kernel_rfl) (by kernel_rfl) trivial ?_
  obtain ⟨mx, hG⟩ := hL
  have c1 : Pur Tryz.prog G 34 [.c (.str s), .c (.str [13, 10, 13, 10])] [.c (.str (hdC s).1), .c (.str (hdC s).2.1), .c (.bool (hdC s).2.2)] := lib_Cut hG s [13, 10, 13, 10] (by omega)
  have hc : (hdC s).1.length ≤ s.length := (cut_len s [13, 10, 13, 10]).1
  unfold bigH at h
  generalize hdC s = C at c1 h hc
  cases hi : C.2.2 with
  | true =>
    rw [hi] at c1 h
    have ht : (bif true then decide ((C.1.length : Int) + 4 > 2048) else false) = true := h
    have hr : true = true → inR IntKind.i64 ((C.1.length : Int) + 4) := fun _ => inR64 (by omega) (by omega)
    refine Wp.go (mx := true) (fun _ => mixed) [(1, {cs := [(1, pc c1)]})] 100 [true, true] [true = true → inR IntKind.i64 ((↑C.1.length : Int) + (4 : Int)), (bif true then decide ((↑C.1.length : Int) + (4 : Int) > (2048 : Int)) else false) = true, (bif true then decide ((↑C.1.length : Int) + (4 : Int) > (2048 : Int)) else false) = true] (by kernel_rfl) (by kernel_rfl) (by kernel_rfl) ⟨(by assumption), (by assumption), (show (bif true then decide ((↑C.1.length : Int) + (4 : Int) > (2048 : Int)) else false) = true from (by assumption))⟩ ?_
    refine Wp.ent' (by kernel_rfl) (Ent.blkE (id := 0) (b := rdZ) (b' := rdB [] (encH []) [] (encL []) [] false) (by kernel_rfl) rdz_eqv0 rfl) ?_
    refine Wp.ret' (by kernel_rfl) ?_
    exact FinQ.blk [] (by kernel_rfl) (by kernel_rfl) (by kernel_rfl) (by kernel_rfl) (by kernel_rfl) trivial
  | false =>
    rw [hi] at c1 h
    have ht : (bif !false then decide ((s.length : Int) > 2048) else false) = true := h
    refine Wp.go (mx := true) (fun _ => mixed) [(1, {cs := [(1, pc c1)]})] 100 [false, true] [false = true → inR IntKind.i64 ((↑C.1.length : Int) + (4 : Int)), (bif false then decide ((↑C.1.length : Int) + (4 : Int) > (2048 : Int)) else false) = false, (bif !false then decide ((↑s.length : Int) > (2048 : Int)) else false) = true] (by kernel_rfl) (by kernel_rfl) (by kernel_rfl) ⟨(by simp; done), rfl, (show (bif !false then decide ((↑s.length : Int) > (2048 : Int)) else false) = true from (by assumption))⟩ ?_
    refine Wp.ent' (by kernel_rfl) (Ent.blkE (id := 0) (b := rdZ) (b' := rdB [] (encH []) [] (encL []) [] false) (by kernel_rfl) rdz_eqv0 rfl) ?_
    refine Wp.ret' (by kernel_rfl) ?_
    exact FinQ.blk [] (by kernel_rfl) (by kernel_rfl) (by kernel_rfl) (by kernel_rfl) (by kernel_rfl) trivial
theorem rcut_form (hL : HasLen G) (s : List UInt8) (hl : s.length < 1000000000) (h : bigH s = false) (hi : (hdC s).2.2 = false) : FnB Tryz.prog G 67 [rdZ] [.c (.ptr 0 0), .c (.str s)] [.c (.int .i64 3)] [(0, rdB [] (encH []) [] (encL []) [] false)] := by
  refine Fn.of' Tryz.func67 (by kernel_rfl) (by kernel_rfl) (by kernel_rfl) (by kernel_rfl) trivial ?_
  obtain ⟨mx, hG⟩ := hL
  have c1 : Pur Tryz.prog G 34 [.c (.str s), .c (.str [13, 10, 13, 10])] [.c (.str (hdC s).1), .c (.str (hdC s).2.1), .c (.bool (hdC s).2.2)] := lib_Cut hG s [13, 10, 13, 10] (by omega)
  unfold bigH at h
  generalize hdC s = C at c1 h hi
  rw [hi] at c1 h
  have ht : (bif !false then decide ((s.length : Int) > 2048) else false) = false := h
  refine Wp.go (mx := true) (fun _ => mixed) [(1, {cs := [(1, pc c1)]})] 100 [false, false, true] [false = true → inR IntKind.i64 ((↑C.1.length : Int) + (4 : Int)), (bif false then decide ((↑C.1.length : Int) + (4 : Int) > (2048 : Int)) else false) = false, (bif !false then decide ((↑s.length : Int) > (2048 : Int)) else false) = false, (!false) = true] (by kernel_rfl) (by kernel_rfl) (by kernel_rfl) ⟨(by simp; done), rfl, (by assumption), rfl⟩ ?_
  refine Wp.ent' (by kernel_rfl) (Ent.blkE (id := 0) (b := rdZ) (b' := rdB [] (encH []) [] (encL []) [] false) (by kernel_rfl) rdz_eqv0 rfl) ?_
  refine Wp.ret' (by kernel_rfl) ?_
  exact FinQ.blk [] (by kernel_rfl) (by kernel_rfl) (by kernel_rfl) (by kernel_rfl) (by kernel_rfl) trivial
theorem rcut_many (hL : HasLen G) (s : List UInt8) (hl : s.length < 1000000000) (h : bigH s = false) (hi : (hdC s).2.2 = true) (hm : (linesH s).length > 25) : FnB Tryz.prog G 67 [rdZ] [.c (.ptr 0 0), .c (.str s)] [.c (.int .i64 4)] [(0, rdB [] (encH []) (hdC s).2.1 (encL (linesH s)) [] false)] := by
  refine Fn.of' Tryz.func67 (by kernel_rfl) (by kernel_rfl) (by kernel_rfl) (by kernel_rfl) trivial ?_
  obtain ⟨mx, hG⟩ := hL
  have c1 : Pur Tryz.prog G 34 [.c (.str s), .c (.str [13, 10, 13, 10])] [.c (.str (hdC s).1), .c (.str (hdC s).2.1), .c (.bool (hdC s).2.2)] := lib_Cut hG s [13, 10, 13, 10] (by omega)
  have hc : (hdC s).1.length ≤ s.length := (cut_len s [13, 10, 13, 10]).1
  have c2 : Pur Tryz.prog G 98 [.c (.str (hdC s).1), .c (.str [13, 10])] [.c (.sl 1 (linesH s).length (strsF (linesH s)))] := lib_Split hG (hdC s).1 [13, 10] (by omega) (by decide)
  unfold bigH at h
  generalize linesH s = L at c2 hm ⊢
  generalize hdC s = C at c1 c2 h hi hc ⊢
  rw [hi] at c1 h
  have ht : (bif true then decide ((C.1.length : Int) + 4 > 2048) else false) = false := h
  have hr : true = true → inR IntKind.i64 ((C.1.length : Int) + 4) := fun _ => inR64 (by omega) (by omega)
  have ht2 : (bif !true then decide ((s.length : Int) > 2048) else false) = false := rfl
  have ht3 : decide ((L.length : Int) > 25) = true := by simp; omega
  refine Wp.go (mx := true) (fun _ => mixed) [(1, {cs := [(1, pc c1)]}), (7, {cs := [(3, pc c2)]})] 100 [false, false, false, true] [true = true → inR IntKind.i64 ((↑C.1.length : Int) + (4 : Int)), (bif true then decide ((↑C.1.length : Int) + (4 : Int) > (2048 : Int)) else false) = false, (bif !true then decide ((↑s.length : Int) > (2048 : Int)) else false) = false, (!true) = false, decide ((↑L.length : Int) > (25 : Int)) = true] (by kernel_rfl) (by kernel_rfl) (by kernel_rfl) ⟨(by assumption), (by assumption), rfl, rfl, (show decide ((↑L.length : Int) > (25 : Int)) = true from (by assumption))⟩ ?_
  refine Wp.ent' (by kernel_rfl) (Ent.blkE (id := 0) (b := rdB [] .nilsl C.2.1 (encL L) [] false) (b' := rdB [] (encH []) C.2.1 (encL L) [] false) (by kernel_rfl) (rdz_eqv _ _ _) rfl) ?_
  refine Wp.ret' (by kernel_rfl) ?_
  exact FinQ.blk [] (by kernel_rfl) (by kernel_rfl) (by kernel_rfl) (by kernel_rfl) (by kernel_rfl) trivial
theorem drop1_eqv (L : List (List UInt8)) (n : Nat) (hn : n = L.length - 1) : EqvD (.c (.sl 1 n (fun i j => strsF L (1 + i) j))) (.c (encL (L.drop 1))) := by
  refine EqvD.sl (by rw [hn, List.length_drop]) fun i hi j hj => ?_
  unfold strsF
  rw [List.getD_eq_getElem?_getD, List.getD_eq_getElem?_getD, List.getElem?_drop]
theorem rcut_yes (hL : HasLen G) (s : List UInt8) (hl : s.length < 1000000000) (h : bigH s = false) (hi : (hdC s).2.2 = true) (hm : (linesH s).length ≤ 25) : FnB Tryz.prog G 67 [rdZ] [.c (.ptr 0 0), .c (.str s)] [.c (.int .i64 0)] [(0, rdB (firstH s) .nilsl (hdC s).2.1 (encL (fieldsL s)) [] false)] := by
  refine Fn.of' Tryz.func67 (by kernel_rfl) (by kernel_rfl) (by kernel_rfl) (by kernel_rfl) trivial ?_
  obtain ⟨mx, hG⟩ := hL
  have c1 : Pur Tryz.prog G 34 [.c (.str s), .c (.str [13, 10, 13, 10])] [.c (.str (hdC s).1), .c (.str (hdC s).2.1), .c (.bool (hdC s).2.2)] := lib_Cut hG s [13, 10, 13, 10] (by omega)
  have hc : (hdC s).1.length ≤ s.length := (cut_len s [13, 10, 13, 10]).1
  have c2 : Pur Tryz.prog G 98 [.c (.str (hdC s).1), .c (.str [13, 10])] [.c (.sl 1 (linesH s).length (strsF (linesH s)))] := lib_Split hG (hdC s).1 [13, 10] (by omega) (by decide)
  have hpos : 1 ≤ (linesH s).length := by
    unfold linesH Lib.split
    exact List.length_pos_iff.2 (splitK_nil _ _ _)
  unfold bigH at h
  unfold firstH fieldsL
  generalize linesH s = L at c2 hm hpos ⊢
  generalize hdC s = C at c1 c2 h hi hc ⊢
  rw [hi] at c1 h
  have ht : (bif true then decide ((C.1.length : Int) + 4 > 2048) else false) = false := h
  have hr : true = true → inR IntKind.i64 ((C.1.length : Int) + 4) := fun _ => inR64 (by omega) (by omega)
  have ht2 : (bif !true then decide ((s.length : Int) > 2048) else false) = false := rfl
  have ht3 : decide ((L.length : Int) > 25) = false := by simp; omega
  have e1 := drop1_eqv L (L.length - 1) rfl
  refine Wp.go (mx := true) (fun _ => mixed) [(10, {fm := [(12, .c (encL (L.drop 1)))]}), (1, {cs := [(1, pc c1)]}), (7, {cs := [(3, pc c2)]})] 100 [false, false, false, false] [true = true → inR IntKind.i64 ((↑C.1.length : Int) + (4 : Int)), (bif true then decide ((↑C.1.length : Int) + (4 : Int) > (2048 : Int)) else false) = false, (bif !true then decide ((↑s.length : Int) > (2048 : Int)) else false) = false, (!true) = false, decide ((↑L.length : Int) > (25 : Int)) = false, (0 : Int) ≤ (0 : Int) ∧ (0 : Int) < (↑L.length : Int), EqvI (V1.c (Cell.sl (1 : Nat) ((Int.ofNat L.length).toNat - (1 : Nat)) fun (i j : Nat) => strsF L ((1 : Nat) + i) j)) (V1.c (encL (List.drop (1 : Nat) L))), EqvD (V1.c (Cell.sl (1 : Nat) ((Int.ofNat L.length).toNat - (1 : Nat)) fun (i j : Nat) => strsF L ((1 : Nat) + i) j)) (V1.c (encL (List.drop (1 : Nat) L))), (0 : Int) ≤ Int.ofNat (1) ∧ Int.ofNat (1) ≤ Int.ofNat L.length ∧ Int.ofNat L.length ≤ (↑L.length : Int)] (by kernel_rfl) (by kernel_rfl) (by kernel_rfl) ⟨(by assumption), (by assumption), rfl, rfl, (by assumption), (by omega), fun _ _ => trivial, (by assumption), ⟨(by decide), ⟨(by simp; omega), (by simp; done)⟩⟩⟩ ?_
  refine Wp.ret' (by kernel_rfl) ?_
  exact FinQ.blk [] (by kernel_rfl) (by kernel_rfl) (by kernel_rfl) (by kernel_rfl) (by kernel_rfl) trivial
theorem rsized_ok (f b z : List UInt8) (d : Bool) (hd : List FT) (l : List (List UInt8)) (hb : b.length < 1000000000) (hz : z.length < 1000000000) : FnB Tryz.prog G 69 [rdB f (encH hd) b (encL l) z d] [.c (.ptr 0 0)] [.c (.int .i64 (szE z d b))] [(0, rdB f (encH hd) b (encL l) z d)] := by
  refine Fn.of' Tryz.func69 (by kernel_rfl) (by kernel_rfl) (by kernel_rfl) (by kernel_rfl) trivial ?_
  unfold szE
  cases d with
  | false =>
    rw [if_neg (by decide)]
    by_cases hbe : b = []
    · rw [if_pos hbe]
      have ht : ((0 : Int) != (b.length : Int)) = false := by rw [hbe]; rfl
      refine Wp.go (mx := true) (fun _ => mixed) [] 100 [false, false, false, false] [false = false, (!true) = false, decide ((0 : Int) > (4096 : Int)) = false, ((0 : Int) != (↑b.length : Int)) = false] (by kernel_rfl) (by kernel_rfl) (by kernel_rfl) ⟨rfl, rfl, rfl, (show ((0 : Int) != (↑b.length : Int)) = false from (by assumption))⟩ ?_
      refine Wp.ret' (by kernel_rfl) ?_
      exact FinQ.blk [] (by kernel_rfl) (by kernel_rfl) (by kernel_rfl) (by kernel_rfl) (by kernel_rfl) trivial
    · rw [if_neg hbe]
      have ht : ((0 : Int) != (b.length : Int)) = true := by
        have : b.length ≠ 0 := fun h => hbe (List.length_eq_zero_iff.1 h)
        simp; omega
      refine Wp.go (mx := true) (fun _ => mixed) [] 100 [false, false, false, true] [false = false, (!true) = false, decide ((0 : Int) > (4096 : Int)) = false, ((0 : Int) != (↑b.length : Int)) = true] (by kernel_rfl) (by kernel_rfl) (by kernel_rfl) ⟨rfl, rfl, rfl, (show ((0 : Int) != (↑b.length : Int)) = true from (by assumption))⟩ ?_
      refine Wp.ret' (by kernel_rfl) ?_
      exact FinQ.blk [] (by kernel_rfl) (by kernel_rfl) (by kernel_rfl) (by kernel_rfl) (by kernel_rfl) trivial
  | true =>
    rw [if_pos rfl]
    cases hn : numK 9 z with
    | false =>
      rw [if_pos rfl]
      have c := numK_no (G := G) (K := 9) z hz hn
      refine Wp.go (mx := true) (fun _ => mixed) [(3, {cs := [(4, pc c)]})] 100 [true, true] [true = true, (!false) = true] (by kernel_rfl) (by kernel_rfl) (by kernel_rfl) ⟨rfl, rfl⟩ ?_
      refine Wp.ret' (by kernel_rfl) ?_
      exact FinQ.blk [] (by kernel_rfl) (by kernel_rfl) (by kernel_rfl) (by kernel_rfl) (by kernel_rfl) trivial
    | true =>
      rw [if_neg (by decide)]
      have c := numK_yes (G := G) (K := 9) (by decide) z hn
      generalize nv z = N at c ⊢
      by_cases h4 : N > 4096
      · rw [if_pos h4]
        have ht : decide ((N : Int) > 4096) = true := by simp; omega
        refine Wp.go (mx := true) (fun _ => mixed) [(3, {cs := [(4, pc c)]})] 100 [true, false, true] [true = true, (!true) = false, decide ((↑N : Int) > (4096 : Int)) = true] (by kernel_rfl) (by kernel_rfl) (by kernel_rfl) ⟨rfl, rfl, (show decide ((↑N : Int) > (4096 : Int)) = true from (by assumption))⟩ ?_
        refine Wp.ret' (by kernel_rfl) ?_
        exact FinQ.blk [] (by kernel_rfl) (by kernel_rfl) (by kernel_rfl) (by kernel_rfl) (by kernel_rfl) trivial
      · rw [if_neg h4]
        have ht : decide ((N : Int) > 4096) = false := by simp; omega
        by_cases h5 : N = b.length
        · rw [if_pos h5]
          have ht2 : ((N : Int) != (b.length : Int)) = false := by simp; omega
          refine Wp.go (mx := true) (fun _ => mixed) [(3, {cs := [(4, pc c)]})] 100 [true, false, false, false] [true = true, (!true) = false, decide ((↑N : Int) > (4096 : Int)) = false, ((↑N : Int) != (↑b.length : Int)) = false] (by kernel_rfl) (by kernel_rfl) (by kernel_rfl) ⟨rfl, rfl, (by assumption), (show ((↑N : Int) != (↑b.length : Int)) = false from (by assumption))⟩ ?_
          refine Wp.ret' (by kernel_rfl) ?_
          exact FinQ.blk [] (by kernel_rfl) (by kernel_rfl) (by kernel_rfl) (by kernel_rfl) (by kernel_rfl) trivial
        · rw [if_neg h5]
          have ht2 : ((N : Int) != (b.length : Int)) = true := by simp; omega
          refine Wp.go (mx := true) (fun _ => mixed) [(3, {cs := [(4, pc c)]})] 100 [true, false, false, true] [true = true, (!true) = false, decide ((↑N : Int) > (4096 : Int)) = false, ((↑N : Int) != (↑b.length : Int)) = true] (by kernel_rfl) (by kernel_rfl) (by kernel_rfl) ⟨rfl, rfl, (by assumption), (show ((↑N : Int) != (↑b.length : Int)) = true from (by assumption))⟩ ?_
          refine Wp.ret' (by kernel_rfl) ?_
          exact FinQ.blk [] (by kernel_rfl) (by kernel_rfl) (by kernel_rfl) (by kernel_rfl) (by kernel_rfl) trivial
end Go.Proofs.Tw
end
