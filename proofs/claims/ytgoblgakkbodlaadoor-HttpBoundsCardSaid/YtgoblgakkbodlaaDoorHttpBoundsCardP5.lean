/- Own texts for this claim: Lib, Pri, Ref6, R12, Q12, P12, Rep, Tape, Bas, Q10, Uri, Sgn, Ck0, Ck1, Spl, Ck2, Ck3, Ck4, Nums, Nmk, Tab, Http, Tel, Pct, Pct2, Qry, Unl, Ury, Hp0, Hp1, Hp2, Hp3, Hp4, Hp5, Ck5, Ck6, Ck7, Hp6, Hp7, Hp8, Hp9, Hp10, Hp11, Hp12, Smal, Hp13, Hp14, Hp15, Jn, Hp17. -/
import Derived.Test.YtgoblgakkbodlaaDoorHttpBoundsCardP3
import Derived.Test.YtgoblgakkbodlaaDoorHttpBoundsCardP4
import Derived.Lib.Join
import Derived.Lib.ItoaNum
import Derived.Lib.IndexMore
import Derived.Lib.SplitLaws
set_option linter.all false

section
open Go Go.Sv Go.RowKit
namespace Go.Proofs

/-- A listed table of integers, as the shelf speaks of it. -/
theorem tabIs {P : Program} {G : Nat → Option (List Cell)} {D : Dat} {w : World} {g : Nat} {name : String} {k : IntKind} {zs : List Int} (hg : P.globalNamed name = some g) (hG : G g = some (zs.map fun z => .int k z)) (hne : zs ≠ [])
    (h1 : GlobOk G D) (h2 : GlobW G w) (h3 : Agree D w) : Lib.TabIs P w name k zs := by
  obtain ⟨arr, e, fz, q1, q2⟩ := h2 g _ hG (by simpa using hne)
  unfold Lib.TabIs World.var?
  rw [hg]
  simp only [Option.bind_some, q1, Option.some.injEq]
  apply Array.ext_getElem?
  intro j
  rw [List.length_map] at q2
  rcases Nat.lt_or_ge j zs.length with hj | hj
  · obtain ⟨u, hu, hd⟩ := h1 g _ hG j (.int k zs[j]) (by simp [hj])
    have hd : u = .int k zs[j] := hd
    subst hd
    have := h3 _ _ _ hu
    simp only [World.cell?, q1, Option.isSome_none, Bool.false_eq_true, if_false] at this
    rw [this]
    simp [hj]
  · rw [Array.getElem?_eq_none (by omega), Array.getElem?_eq_none (by simpa using hj)]

theorem below_grow (w : World) (k : Nat) (os : Array Obj) : Below w.heap.size w (Go.Sort.grow (w.drewN k) os) := by
  refine ⟨rfl, rfl, rfl, ?_, ?_⟩
  · simp [Go.Sort.grow]
  · intro b hb
    simp [Go.Sort.grow, Array.getElem?_append, hb]

theorem lib_Itoa {G : Nat → Option (List Cell)} (gp : Nat) (hg : Tryd.prog.globalNamed "internal/strconv.uint64pow10" = some gp) (hG : G gp = some (Lib.pow10Tab.map fun z => .int .u64 z)) (n : Int) (h0 : -9223372036854775808 ≤ n) (h1 : n ≤ 9223372036854775807) :
    Pur Tryd.prog G 41 [.c (.int .i64 n)] [.c (.str (Lib.itoa n))] := by
  refine Pur.of_below rfl ?_
  intro D ρ w vs hv k1 k2 k3
  obtain ⟨u, rfl, hu⟩ := hv.one
  have hu : u = .int .i64 n := hu
  subst hu
  refine (Tryd.strconv_Itoa n h0 h1 w (tabIs hg hG (by decide) k1 k2 k3)).mono ?_
  rintro e w' ⟨rfl, k, os, rfl⟩
  exact ⟨_, rfl, rfl, below_grow w k os⟩
end Go.Proofs
end

section
open Go Go.Sv
namespace Go.Proofs.Tw
attribute [local irreducible] Wp FinQ resV Ent Pur Go.Sv.Fn Sat0
set_option maxRecDepth 100000
variable {G : Nat → Option (List Cell)}

mutual
def printJ : JV → List UInt8
  | .mk k b n s ns ks => if k == 1 then [110, 117, 108, 108] else if k == 2 then Lib.formatBool b else if k == 3 then Lib.itoa n else if k == 4 then quotedT s else
    if k == 6 then (123 :: Lib.join (partsJ k ns ks) [44]) ++ [125] else (91 :: Lib.join (partsJ k ns ks) [44]) ++ [93]
def partsJ : Int → List (List UInt8) → List JV → List (List UInt8)
  | _, _, [] => []
  | k, ns, x :: r => (if k == 6 then quotedT (ns.headD []) ++ [58] ++ printJ x else printJ x) :: partsJ k ns.tail r
end
def partAt (v : JV) (i : Nat) : List UInt8 := if v.kind == 6 then quotedT (v.names.getD i []) ++ [58] ++ printJ (v.kids.getD i .nil) else printJ (v.kids.getD i .nil)
def parts (v : JV) (k : Nat) : List (List UInt8) := (List.range k).map (partAt v)
/-- What can be printed. -/
inductive Fit : JV → Prop
  | mk {v : JV} (h2 : v.kids.length ≤ 1000000000000) (h6 : v.kind = 6 → v.kids.length ≤ v.names.length) (h0 : -4611686018427387904 ≤ v.n) (h1 : v.n ≤ 4611686018427387904) (hp : (printJ v).length ≤ 140737488355328) (h3 : ∀ x ∈ v.kids, Fit x) : Fit v

def strsF (l : List (List UInt8)) : Nat → Nat → Cell := fun i _ => .str (l.getD i [])
end Go.Proofs.Tw
end

section
open Go Go.Sv
namespace Go.Proofs.Tw
attribute [local irreducible] Wp FinQ resV Ent Pur Go.Sv.Fn Sat0
set_option maxRecDepth 100000
variable {G : Nat → Option (List Cell)}

def r3 (c a b : Int) : Int := (c - 224) * 4096 + a * 64 + b
def r4 (c a b d : Int) : Int := (c - 240) * 262144 + a * 4096 + b * 64 + d
theorem wrap64 {n : Int} (h1 : -9223372036854775808 ≤ n) (h2 : n ≤ 9223372036854775807) : IntKind.i64.wrap n = n := by
  simp [IntKind.wrap, IntKind.signed, IntKind.bits]
  omega

end Go.Proofs.Tw
end

section
open Go Go.Sv
namespace Go.Proofs.Tw
attribute [local irreducible] Wp FinQ resV Ent Pur Go.Sv.Fn Sat0
set_option maxRecDepth 100000
variable {G : Nat → Option (List Cell)}

def x2 (v : JV) : Bool := cond (a1 v) true (cond (v.kind != 2) v.b false)
/-- All texts are short enough, too. -/
inductive Short : JV → Prop
  | mk {v : JV} (h0 : v.s.length < 4611686018427387904) (h1 : v.names.length < 4611686018427387904) (hs : ∀ x ∈ v.names, x.length < 4611686018427387904) (h2 : v.kids.length < 4611686018427387904) (h3 : ∀ x ∈ v.kids, Short x) : Short v
end Go.Proofs.Tw
end

section
open Go Go.Sv
namespace Go.Proofs.Tw
attribute [local irreducible] Wp FinQ resV Ent Pur Go.Sv.Fn Sat0
set_option maxRecDepth 100000
variable {G : Nat → Option (List Cell)}

end Go.Proofs.Tw
end

section
open Go Go.Sv
namespace Go.Proofs.Tw
attribute [local irreducible] Wp FinQ resV Ent Pur Go.Sv.Fn Sat0
set_option maxRecDepth 100000
variable {G : Nat → Option (List Cell)}

theorem dec_len (m : Nat) : (Lib.decDigits m).length ≤ m + 1 := by
  induction m using Nat.strongRecOn with
  | _ m ih =>
  rw [Lib.decDigits]
  split
  · simp
  · rename_i h
    have := ih (m / 10) (by omega)
    simp only [List.length_append, List.length_cons, List.length_nil]; omega
end Go.Proofs.Tw
end

section
open Go Go.Sv
namespace Go.Proofs.Tw
attribute [local irreducible] Wp FinQ resV Ent Pur Go.Sv.Fn Sat0
set_option maxRecDepth 100000
variable {G : Nat → Option (List Cell)}

def CEq (x y : Cell) : Prop := ∀ D ρ u, Den D ρ x u → Den D ρ y u
theorem CEq.rfl' {x : Cell} : CEq x x := fun _ _ _ h => h
theorem CEq.nil {sz : Nat} {f : Nat → Nat → Cell} : CEq .nilsl (.sl sz 0 f) := by
  intro D ρ u h
  have h : u = .slice none 0 0 := h
  subst h
  exact ⟨none, 0, rfl, Nat.le_refl _, by unfold maxLen; omega, .inl ⟨rfl, rfl⟩⟩
inductive CEqs : List Cell → List Cell → Prop
  | nil : CEqs [] []
  | cons {x y : Cell} {l l' : List Cell} (h : CEq x y) (t : CEqs l l') : CEqs (x :: l) (y :: l')
theorem CEqs.len {l l' : List Cell} (h : CEqs l l') : l.length = l'.length := by
  induction h with
  | nil => rfl
  | cons _ _ ih => simp [ih]
theorem agg_eqv {l l' : List Cell} (h : CEqs l l') : EqvD (.agg l) (.agg l') := by
  intro D ρ u hd
  obtain ⟨us, e, hs, hx⟩ := hd
  have hl := h.len
  refine ⟨us, e, by rw [hs, hl], fun j y hj => ?_⟩
  have : ∀ (l l' : List Cell), CEqs l l' → ∀ (j : Nat) (y : Cell), l'[j]? = some y → ∃ x, l[j]? = some x ∧ CEq x y := by
    intro l l' h
    induction h with
    | nil => intro j y hj; simp at hj
    | cons h1 h2 ih =>
      intro j y hj
      cases j with
      | zero => simp at hj; subst hj; exact ⟨_, by simp, h1⟩
      | succ j => simp at hj; obtain ⟨x, hx, hc⟩ := ih j y hj; exact ⟨x, by simpa using hx, hc⟩
  obtain ⟨x, hxl, hc⟩ := this l l' h j y hj
  obtain ⟨v, hv, hd⟩ := hx j x hxl
  exact ⟨v, hv, hc _ _ _ hd⟩

structure FT where (name value : List UInt8)
def FT.nil : FT := ⟨[], []⟩
def encF (x : FT) : List Cell := [.str x.name, .str x.value]
def encH (l : List FT) : Cell := .sl 2 l.length (fun i j => nthD (encF (l.getD i .nil)) j)
structure RT where
  (status : Int) (head : List FT) (body : List UInt8)
def encT (r : RT) : List Cell := [.int .i64 r.status, encH r.head, .str r.body]

end Go.Proofs.Tw
end

section
open Go Go.Sv
namespace Go.Proofs.Tw
attribute [local irreducible] Wp FinQ resV Ent Pur Go.Sv.Fn Sat0
set_option maxRecDepth 100000
set_option maxHeartbeats 4000000
variable {G : Nat → Option (List Cell)}

def withT (at_ n : Int) : Int := if at_.tmod n < 0 then at_.tmod n + n else at_.tmod n

theorem tmod_lo (a n : Int) (hn : 0 < n) : -n < a.tmod n := by
  rcases Int.lt_or_le a 0 with h | h
  · have := Int.tmod_lt_of_pos (-a) hn
    rw [Int.neg_tmod] at this
    omega
  · have := Int.tmod_nonneg n h
    omega
theorem withT_rng (a n : Int) (hn : 0 < n) : 0 ≤ withT a n ∧ withT a n < n := by
  unfold withT
  have h1 := Int.tmod_lt_of_pos a hn
  have h2 := tmod_lo a n hn
  split <;> omega
end Go.Proofs.Tw
end

section
open Go Go.Sv Go.RowKit
namespace Go.Proofs.Tw
attribute [local irreducible] Wp FinQ resV Ent Pur Go.Sv.Fn Sat0
set_option maxRecDepth 100000
set_option maxHeartbeats 4000000
variable {G : Nat → Option (List Cell)}

theorem byte_all (p : UInt8 → Bool) (h : (List.range 256).all (fun n => p (UInt8.ofNat n)) = true) (c : UInt8) : p c = true := by
  have := List.all_eq_true.1 h c.toNat (List.mem_range.2 (UInt8.toNat_lt c))
  rwa [UInt8.ofNat_toNat] at this
theorem by_all (p q : UInt8 → Bool) (h : (List.range 256).all (fun n => p (UInt8.ofNat n) == q (UInt8.ofNat n)) = true) : ∀ c : UInt8, [V1.c (Cell.bool (p c))] = [V1.c (Cell.bool (q c))] := by
  intro c
  have h' : p c = q c := eq_of_beq (byte_all (fun c => p c == q c) h c)
  rw [h']
def greatB (c : UInt8) : Bool := 65 ≤ c && c ≤ 90
def smallB (c : UInt8) : Bool := 97 ≤ c && c ≤ 122
def digitB (c : UInt8) : Bool := 48 ≤ c && c ≤ 57
def letterB (c : UInt8) : Bool := greatB c || smallB c
def plainB (c : UInt8) : Bool := letterB c || digitB c || [45, 46, 95, 126].contains c
def tokenB (c : UInt8) : Bool := letterB c || digitB c || [33, 35, 36, 37, 38, 39, 42, 43, 45, 46, 94, 95, 124, 126, 96].contains c
def seenB (c : UInt8) : Bool := 32 ≤ c && c ≤ 126
theorem great_ok (c : UInt8) : Pur Tryd.prog G 34 [.c (.int .u8 (c.toNat : Int))] [.c (.bool (greatB c))] := by
  refine Pur.of Tryd.func34 (by kernel_rfl) (by kernel_rfl) (by kernel_rfl) ?_
  refine Wp.go (mx := true) (fun _ => mixed) [] 100 [] [] (by kernel_rfl) (by kernel_rfl) (by kernel_rfl) trivial ?_
  refine Wp.ret' (by kernel_rfl) ?_
  exact FinQ.pure (rs' := [V1.c (Cell.bool (bif decide ((↑c.toNat : Int) ≥ (65 : Int)) then decide ((↑c.toNat : Int) ≤ (90 : Int)) else false))]) (by kernel_rfl) (by revert c; refine by_all _ _ ?_; kernel_rfl) (by kernel_rfl)
theorem small_ok (c : UInt8) : Pur Tryd.prog G 54 [.c (.int .u8 (c.toNat : Int))] [.c (.bool (smallB c))] := by
  refine Pur.of Tryd.func54 (by kernel_rfl) (by kernel_rfl) (by kernel_rfl) ?_
  refine Wp.go (mx := true) (fun _ => mixed) [] 100 [] [] (by kernel_rfl) (by kernel_rfl) (by kernel_rfl) trivial ?_
  refine Wp.ret' (by kernel_rfl) ?_
  exact FinQ.pure (rs' := [V1.c (Cell.bool (bif decide ((↑c.toNat : Int) ≥ (97 : Int)) then decide ((↑c.toNat : Int) ≤ (122 : Int)) else false))]) (by kernel_rfl) (by revert c; refine by_all _ _ ?_; kernel_rfl) (by kernel_rfl)
theorem digit_ok (c : UInt8) : Pur Tryd.prog G 37 [.c (.int .u8 (c.toNat : Int))] [.c (.bool (digitB c))] := by
  refine Pur.of Tryd.func37 (by kernel_rfl) (by kernel_rfl) (by kernel_rfl) ?_
  refine Wp.go (mx := true) (fun _ => mixed) [] 100 [] [] (by kernel_rfl) (by kernel_rfl) (by kernel_rfl) trivial ?_
  refine Wp.ret' (by kernel_rfl) ?_
  exact FinQ.pure (rs' := [V1.c (Cell.bool (bif decide ((↑c.toNat : Int) ≥ (48 : Int)) then decide ((↑c.toNat : Int) ≤ (57 : Int)) else false))]) (by kernel_rfl) (by revert c; refine by_all _ _ ?_; kernel_rfl) (by kernel_rfl)
theorem seen1_ok (c : UInt8) : Pur Tryd.prog G 38 [.c (.int .u8 (c.toNat : Int))] [.c (.bool (seenB c))] := by
  refine Pur.of Tryd.func38 (by kernel_rfl) (by kernel_rfl) (by kernel_rfl) ?_
  refine Wp.go (mx := true) (fun _ => mixed) [] 100 [] [] (by kernel_rfl) (by kernel_rfl) (by kernel_rfl) trivial ?_
  refine Wp.ret' (by kernel_rfl) ?_
  exact FinQ.pure (rs' := [V1.c (Cell.bool (bif decide ((↑c.toNat : Int) ≥ (32 : Int)) then decide ((↑c.toNat : Int) ≤ (126 : Int)) else false))]) (by kernel_rfl) (by revert c; refine by_all _ _ ?_; kernel_rfl) (by kernel_rfl)
theorem lib_IndexByte {G : Nat → Option (List Cell)} (s : List UInt8) (c : UInt8) : Pur Tryd.prog G 55 [.c (.str s), .c (.int .u8 (c.toNat : Int))] [.c (.int .i64 (Lib.indexByte s c))] := by
  refine Pur.of_below rfl ?_
  intro D ρ w vs h1 _ _ _
  obtain ⟨u, v, rfl, hu, hv⟩ := h1.two
  have hu : u = .string ⟨s.toArray⟩ := hu
  have hv : v = .int .u8 (c.toNat : Int) := hv
  subst hu hv
  refine (Go.Proofs.Tryd.strings_IndexByte ⟨s.toArray⟩ (c.toNat : Int) w).mono ?_
  rintro e w' ⟨rfl, rfl⟩
  exact ⟨_, rfl, by simp [ResDen, DenV, Den], Below.refl _ _⟩
theorem token1_ok (c : UInt8) : Pur Tryd.prog G 53 [.c (.int .u8 (c.toNat : Int))] [.c (.bool (tokenB c))] := by
  refine Pur.of Tryd.func53 (by kernel_rfl) (by kernel_rfl) (by kernel_rfl) ?_
  refine Wp.go (mx := true) (fun _ => mixed) [(1, {cs := [(1, pc (great_ok c)), (4, pc (small_ok c)), (8, pc (digit_ok c)), (12, pc (lib_IndexByte [(33 : UInt8), 35, 36, 37, 38, 39, 42, 43, 45, 46, 94, 95, 124, 126, 96] c))]})] 100 [] [] (by kernel_rfl) (by kernel_rfl) (by kernel_rfl) trivial ?_
  refine Wp.ret' (by kernel_rfl) ?_
  exact FinQ.pure (rs' := [V1.c (Cell.bool (bif bif bif greatB c then true else smallB c then true else digitB c then true else decide (Lib.indexByte [(33 : UInt8), 35, 36, 37, 38, 39, 42, 43, 45, 46, 94, 95, 124, 126, 96] c ≥ (0 : Int))))]) (by kernel_rfl) (by revert c; refine by_all _ _ ?_; kernel_rfl) (by kernel_rfl)
theorem ibeq (a b : UInt8) : ((a.toNat : Int) == (b.toNat : Int)) = (a == b) := by
  rw [Bool.eq_iff_iff, beq_iff_eq, beq_iff_eq, Int.ofNat_inj, UInt8.toNat_inj]
theorem dropS (l : List UInt8) (k : Nat) (h : k < l.length) : l.drop k = l.getD k 0 :: l.drop (k + 1) := by
  rw [List.getD_eq_getElem?_getD, List.getElem?_eq_getElem h]; exact List.drop_eq_getElem_cons h
theorem All_great (s : List UInt8) (hl : s.length < 4611686018427387904) : Pur Tryd.prog G 33 [.c (.str s), .c (.clo 34 0 (fun _ => none) (fun _ _ => .nilif))] [.c (.bool (s.all greatB))] := by
  refine Pur.of Tryd.func33 (by kernel_rfl) (by kernel_rfl) (by kernel_rfl) ?_
  refine Wp.go (mx := true) (fun _ => mixed) [] 100 [] [] (by kernel_rfl) (by kernel_rfl) (by kernel_rfl) trivial ?_
  refine Wp.loopK (by kernel_rfl) (fun (k : Nat) => ⟨[(0, TV.v (V1.c (Cell.str s))), (1, TV.v (V1.c (Cell.clo 34 (0 : Nat) (fun _ => none) fun _ _ => Cell.nilif))), (7, TV.v (V1.c (Cell.int .i64 (↑s.length : Int)))), (8, TV.v (V1.c (Cell.int .i64 (k : Int))))], [], 32⟩) (fun k => k ≤ s.length ∧ s.all greatB = (s.drop k).all greatB) (fun k => s.length - k) 0 (Ent.of [] (by kernel_rfl) (by kernel_rfl) (by kernel_rfl) trivial) ⟨Nat.zero_le _, rfl⟩ ?_
  intro k L ⟨hk, hq⟩ again
  rcases Nat.lt_or_ge k s.length with hlt | hge
  · rw [dropS s k hlt, List.all_cons] at hq
    refine Wp.go (mx := true) (fun _ => mixed) [(4, {cs := [(4, pc (great_ok (s.getD k (0 : UInt8))))]})] 100 [true] [decide ((↑k : Int) < (↑s.length : Int)) = true, (0 : Int) ≤ (↑k : Int) ∧ (↑k : Int) < (↑s.length : Int)] (by kernel_rfl) (by kernel_rfl) (by kernel_rfl) ⟨(by simp; omega), (show (0 : Int) ≤ (↑k : Int) ∧ (↑k : Int) < (↑s.length : Int) from (by omega))⟩ ?_
    refine Wp.cond' (by kernel_rfl) (!greatB (s.getD k (0 : UInt8))) (by kernel_rfl) (fun h0 => ?_) (fun h0 => ?_)
    · have g0 := h0
      simp at g0
      refine Wp.go (mx := true) (fun _ => mixed) [] 100 [] [] (by kernel_rfl) (by kernel_rfl) (by kernel_rfl) trivial ?_
      refine Wp.ret' (by kernel_rfl) ?_
      exact FinQ.pure (rs' := [V1.c (Cell.bool false)]) (by kernel_rfl) (by simp_all; done) (by kernel_rfl)
    · have g0 := h0
      simp at g0
      refine Wp.go (mx := true) (fun _ => mixed) [] 100 [] [inR IntKind.i64 ((↑k : Int) + (1 : Int))] (by kernel_rfl) (by kernel_rfl) (by kernel_rfl) (inR64 (by omega) (by omega)) ?_
      exact Wp.lpK (by kernel_rfl) (again _ (k + 1) (⟨(by assumption), (by simp_all <;> omega)⟩) (by omega) (Ent.of [] (by kernel_rfl) (by kernel_rfl) (by kernel_rfl) trivial))
  · obtain rfl : k = s.length := by omega
    rw [List.drop_length] at hq
    refine Wp.go (mx := true) (fun _ => mixed) [] 100 [false] [decide ((↑s.length : Int) < (↑s.length : Int)) = false] (by kernel_rfl) (by kernel_rfl) (by kernel_rfl) ((show decide ((↑s.length : Int) < (↑s.length : Int)) = false from (by simp; done))) ?_
    refine Wp.ret' (by kernel_rfl) ?_
    exact FinQ.pure (rs' := [V1.c (Cell.bool true)]) (by kernel_rfl) (by simp [*]; done) (by kernel_rfl)
theorem All_tok (s : List UInt8) (hl : s.length < 4611686018427387904) : Pur Tryd.prog G 33 [.c (.str s), .c (.clo 53 0 (fun _ => none) (fun _ _ => .nilif))] [.c (.bool (s.all tokenB))] := by
  refine Pur.of Tryd.func33 (by kernel_rfl) (by kernel_rfl) (by kernel_rfl) ?_
  refine Wp.go (mx := true) (fun _ => mixed) [] 100 [] [] (by kernel_rfl) (by kernel_rfl) (by kernel_rfl) trivial ?_
  refine Wp.loopK (by kernel_rfl) (fun (k : Nat) => ⟨[(0, TV.v (V1.c (Cell.str s))), (1, TV.v (V1.c (Cell.clo 53 (0 : Nat) (fun _ => none) fun _ _ => Cell.nilif))), (7, TV.v (V1.c (Cell.int .i64 (↑s.length : Int)))), (8, TV.v (V1.c (Cell.int .i64 (k : Int))))], [], 32⟩) (fun k => k ≤ s.length ∧ s.all tokenB = (s.drop k).all tokenB) (fun k => s.length - k) 0 (Ent.of [] (by kernel_rfl) (by kernel_rfl) (by kernel_rfl) trivial) ⟨Nat.zero_le _, rfl⟩ ?_
  intro k L ⟨hk, hq⟩ again
  rcases Nat.lt_or_ge k s.length with hlt | hge
  · rw [dropS s k hlt, List.all_cons] at hq
    refine Wp.go (mx := true) (fun _ => mixed) [(4, {cs := [(4, pc (token1_ok (s.getD k (0 : UInt8))))]})] 100 [true] [decide ((↑k : Int) < (↑s.length : Int)) = true, (0 : Int) ≤ (↑k : Int) ∧ (↑k : Int) < (↑s.length : Int)] (by kernel_rfl) (by kernel_rfl) (by kernel_rfl) ⟨(by simp; omega), (show (0 : Int) ≤ (↑k : Int) ∧ (↑k : Int) < (↑s.length : Int) from (by omega))⟩ ?_
    refine Wp.cond' (by kernel_rfl) (!tokenB (s.getD k (0 : UInt8))) (by kernel_rfl) (fun h0 => ?_) (fun h0 => ?_)
    · have g0 := h0
      simp at g0
      refine Wp.go (mx := true) (fun _ => mixed) [] 100 [] [] (by kernel_rfl) (by kernel_rfl) (by kernel_rfl) trivial ?_
      refine Wp.ret' (by kernel_rfl) ?_
      exact FinQ.pure (rs' := [V1.c (Cell.bool false)]) (by kernel_rfl) (by simp_all; done) (by kernel_rfl)
    · have g0 := h0
      simp at g0
      refine Wp.go (mx := true) (fun _ => mixed) [] 100 [] [inR IntKind.i64 ((↑k : Int) + (1 : Int))] (by kernel_rfl) (by kernel_rfl) (by kernel_rfl) (inR64 (by omega) (by omega)) ?_
      exact Wp.lpK (by kernel_rfl) (again _ (k + 1) (⟨(by assumption), (by simp_all <;> omega)⟩) (by omega) (Ent.of [] (by kernel_rfl) (by kernel_rfl) (by kernel_rfl) trivial))
  · obtain rfl : k = s.length := by omega
    rw [List.drop_length] at hq
    refine Wp.go (mx := true) (fun _ => mixed) [] 100 [false] [decide ((↑s.length : Int) < (↑s.length : Int)) = false] (by kernel_rfl) (by kernel_rfl) (by kernel_rfl) ((show decide ((↑s.length : Int) < (↑s.length : Int)) = false from (by simp; done))) ?_
    refine Wp.ret' (by kernel_rfl) ?_
    exact FinQ.pure (rs' := [V1.c (Cell.bool true)]) (by kernel_rfl) (by simp [*]; done) (by kernel_rfl)
theorem All_seen (s : List UInt8) (hl : s.length < 4611686018427387904) : Pur Tryd.prog G 33 [.c (.str s), .c (.clo 38 0 (fun _ => none) (fun _ _ => .nilif))] [.c (.bool (s.all seenB))] := by
  refine Pur.of Tryd.func33 (by kernel_rfl) (by kernel_rfl) (by kernel_rfl) ?_
  refine Wp.go (mx := true) (fun _ => mixed) [] 100 [] [] (by kernel_rfl) (by kernel_rfl) (by kernel_rfl) trivial ?_
  refine Wp.loopK (by kernel_rfl) (fun (k : Nat) => ⟨[(0, TV.v (V1.c (Cell.str s))), (1, TV.v (V1.c (Cell.clo 38 (0 : Nat) (fun _ => none) fun _ _ => Cell.nilif))), (7, TV.v (V1.c (Cell.int .i64 (↑s.length : Int)))), (8, TV.v (V1.c (Cell.int .i64 (k : Int))))], [], 32⟩) (fun k => k ≤ s.length ∧ s.all seenB = (s.drop k).all seenB) (fun k => s.length - k) 0 (Ent.of [] (by kernel_rfl) (by kernel_rfl) (by kernel_rfl) trivial) ⟨Nat.zero_le _, rfl⟩ ?_
  intro k L ⟨hk, hq⟩ again
  rcases Nat.lt_or_ge k s.length with hlt | hge
  · rw [dropS s k hlt, List.all_cons] at hq
    refine Wp.go (mx := true) (fun _ => mixed) [(4, {cs := [(4, pc (seen1_ok (s.getD k (0 : UInt8))))]})] 100 [true] [decide ((↑k : Int) < (↑s.length : Int)) = true, (0 : Int) ≤ (↑k : Int) ∧ (↑k : Int) < (↑s.length : Int)] (by kernel_rfl) (by kernel_rfl) (by kernel_rfl) ⟨(by simp; omega), (show (0 : Int) ≤ (↑k : Int) ∧ (↑k : Int) < (↑s.length : Int) from (by omega))⟩ ?_
    refine Wp.cond' (by kernel_rfl) (!seenB (s.getD k (0 : UInt8))) (by kernel_rfl) (fun h0 => ?_) (fun h0 => ?_)
    · have g0 := h0
      simp at g0
      refine Wp.go (mx := true) (fun _ => mixed) [] 100 [] [] (by kernel_rfl) (by kernel_rfl) (by kernel_rfl) trivial ?_
      refine Wp.ret' (by kernel_rfl) ?_
      exact FinQ.pure (rs' := [V1.c (Cell.bool false)]) (by kernel_rfl) (by simp_all; done) (by kernel_rfl)
    · have g0 := h0
      simp at g0
      refine Wp.go (mx := true) (fun _ => mixed) [] 100 [] [inR IntKind.i64 ((↑k : Int) + (1 : Int))] (by kernel_rfl) (by kernel_rfl) (by kernel_rfl) (inR64 (by omega) (by omega)) ?_
      exact Wp.lpK (by kernel_rfl) (again _ (k + 1) (⟨(by assumption), (by simp_all <;> omega)⟩) (by omega) (Ent.of [] (by kernel_rfl) (by kernel_rfl) (by kernel_rfl) trivial))
  · obtain rfl : k = s.length := by omega
    rw [List.drop_length] at hq
    refine Wp.go (mx := true) (fun _ => mixed) [] 100 [false] [decide ((↑s.length : Int) < (↑s.length : Int)) = false] (by kernel_rfl) (by kernel_rfl) (by kernel_rfl) ((show decide ((↑s.length : Int) < (↑s.length : Int)) = false from (by simp; done))) ?_
    refine Wp.ret' (by kernel_rfl) ?_
    exact FinQ.pure (rs' := [V1.c (Cell.bool true)]) (by kernel_rfl) (by simp [*]; done) (by kernel_rfl)
def tokenT (s : List UInt8) : Bool := !(s == []) && s.all tokenB
def foldB (c : UInt8) : UInt8 := if greatB c then c + 32 else c
def foldT (s : List UInt8) : List UInt8 := s.map foldB
def foldN (s : List UInt8) (k : Nat) : List UInt8 := (s.take k).map foldB ++ s.drop k
theorem token_ok (s : List UInt8) (hl : s.length < 4611686018427387904) : Pur Tryd.prog G 45 [.c (.str s)] [.c (.bool (tokenT s))] := by
  refine Pur.of Tryd.func45 (by kernel_rfl) (by kernel_rfl) (by kernel_rfl) ?_
  refine Wp.go (mx := true) (fun _ => mixed) [(1, {cs := [(4, pc (All_tok s (by assumption)))]})] 100 [] [] (by kernel_rfl) (by kernel_rfl) (by kernel_rfl) trivial ?_
  refine Wp.ret' (by kernel_rfl) ?_
  exact FinQ.pure (rs' := [V1.c (Cell.bool (bif !s == [] then s.all tokenB else false))]) (by kernel_rfl) (by simp [tokenT]; done) (by kernel_rfl)
theorem seen_ok (s : List UInt8) (hl : s.length < 4611686018427387904) : Pur Tryd.prog G 22 [.c (.str s)] [.c (.bool (s.all seenB))] := by
  refine Pur.of Tryd.func22 (by kernel_rfl) (by kernel_rfl) (by kernel_rfl) ?_
  refine Wp.go (mx := true) (fun _ => mixed) [(1, {cs := [(1, pc (All_seen s (by assumption)))]})] 100 [] [] (by kernel_rfl) (by kernel_rfl) (by kernel_rfl) trivial ?_
  refine Wp.ret' (by kernel_rfl) ?_
  exact FinQ.pure (rs' := [V1.c (Cell.bool (s.all seenB))]) (by kernel_rfl) rfl (by kernel_rfl)
theorem foldN_len (s : List UInt8) (k : Nat) : (foldN s k).length = s.length := by
  unfold foldN; simp; omega
theorem foldN_at (s : List UInt8) (k : Nat) (h : k < s.length) : (foldN s k).getD k 0 = s.getD k 0 := by
  unfold foldN
  simp only [List.getD, List.getElem?_append]
  rw [if_neg (by simp; omega)]
  simp [Nat.min_eq_left (Nat.le_of_lt h)]
theorem foldN_succ (s : List UInt8) (k : Nat) (h : k < s.length) : foldN s (k + 1) = (foldN s k).set k (foldB (s.getD k 0)) := by
  unfold foldN
  rw [List.take_succ_eq_append_getElem h, List.map_append]
  simp [List.set_append, Nat.min_eq_left (Nat.le_of_lt h), List.getD, h]
  rw [dropS s k h, List.set_cons_zero]
theorem foldN_end (s : List UInt8) : foldN s s.length = foldT s := by simp [foldN, foldT]
theorem great_32 (c : UInt8) (h : greatB c = true) : IntKind.u8.wrap (IntKind.u8.wrap ((c.toNat : Int) - 65) + 97) = ((foldB c).toNat : Int) := by
  have : ∀ c : UInt8, (!(greatB c) || IntKind.u8.wrap (IntKind.u8.wrap ((c.toNat : Int) - 65) + 97) == ((foldB c).toNat : Int)) = true := byte_all _ (by kernel_rfl)
  have := this c
  rw [h] at this
  exact eq_of_beq this
theorem fold_ok (s : List UInt8) (hl : s.length ≤ 140737488355328) : Pur Tryd.prog G 44 [.c (.str s)] [.c (.str (foldT s))] := by
  refine Pur.of Tryd.func44 (by kernel_rfl) (by kernel_rfl) (by kernel_rfl) ?_
  refine Wp.go (mx := true) (fun _ => mixed) [] 100 [] [s.length ≤ 140737488355328] (by kernel_rfl) (by kernel_rfl) (by kernel_rfl) hl ?_
  refine Wp.loopK (by kernel_rfl) (fun (k : Nat) => ⟨[(3, TV.v (V1.c (Cell.row (1 : Nat) (32 : Nat) (0 : Nat) s.length))), (8, TV.v (V1.c (Cell.row (1 : Nat) (32 : Nat) (0 : Nat) s.length))), (9, TV.v (V1.c (Cell.int .i64 (↑s.length : Int)))), (10, TV.v (V1.c (Cell.int .i64 (k : Int))))], [(32, Blk.row 5 (1 : Nat) s.length (bytesF (foldN s k)))], 112⟩) (fun k => k ≤ s.length) (fun k => s.length - k) 0 (Ent.of [] (by kernel_rfl) (by kernel_rfl) (by kernel_rfl) trivial) (Nat.zero_le _) ?_
  intro k L hk again
  rcases Nat.lt_or_ge k s.length with hlt | hge
  · have e1 : EqvD (V1.c (Cell.int .u8 (((foldN s k).getD (0 + k) 0).toNat : Int))) (.c (.int .u8 ((s.getD k 0).toNat : Int))) := eqvD_of (by rw [Nat.zero_add, foldN_at s k hlt])
    have e2 : greatB (s.getD k 0) = true → BlkEqv (.row 5 1 s.length (rowSet (bytesF (foldN s k)) (0 + k) 0 1 [.int .u8 (IntKind.u8.wrap (IntKind.u8.wrap (((s.getD k 0).toNat : Int) - 65) + 97))])) (.row 5 1 s.length (bytesF (foldN s (k + 1)))) := fun h => by
      rw [foldN_succ s k hlt]
      exact bytes_set _ _ (great_32 _ h) (by rw [foldN_len]; exact hlt)
    have e3 : greatB (s.getD k 0) = false → foldN s k = foldN s (k + 1) := fun h => by
      rw [foldN_succ s k hlt, ← foldN_at s k hlt, foldB, foldN_at s k hlt, if_neg (by rw [h]; decide), ← foldN_at s k hlt]
      rw [List.getD_eq_getElem?_getD, List.getElem?_eq_getElem (by rw [foldN_len]; exact hlt)]
      simp
    by_cases hg : greatB (s.getD k 0) = true
    · have e2 := e2 hg
      refine Wp.go (mx := true) (fun _ => mixed) [(4, {fm := [(2, .c (.int .u8 ((s.getD k 0).toNat : Int)))]}), (6, {bs := [(6, Blk.row 5 1 s.length (bytesF (foldN s (k + 1))))]}), (5, {cs := [(1, pc (great_ok (s.getD k (0 : UInt8))))]})] 100 [true, true] [decide ((↑k : Int) < (↑s.length : Int)) = true, (0 : Int) ≤ (↑k : Int) ∧ (↑k : Int) < (↑s.length : Int), (0 : Nat) + k < s.length, EqvD (V1.c (Cell.int .u8 (↑((foldN s k).getD ((0 : Nat) + k) (0 : UInt8)).toNat : Int))) (V1.c (Cell.int .u8 (↑(s.getD k (0 : UInt8)).toNat : Int))), greatB (s.getD k (0 : UInt8)) = true, (0 : Int) ≤ (↑k : Int) ∧ (↑k : Int) < (↑s.length : Int), BlkEqv (Blk.row 5 (1 : Nat) s.length fun (i j : Nat) => if i = (0 : Nat) + k ∧ (0 : Nat) ≤ j ∧ j < (1 : Nat) then nthD (V1.c (Cell.int .u8 (IntKind.u8.wrap (IntKind.u8.wrap ((↑(s.getD k (0 : UInt8)).toNat : Int) - (65 : Int)) + (97 : Int))))).cells (j - (0 : Nat)) else Cell.int .u8 (↑((foldN s k).getD i (0 : UInt8)).toNat : Int)) (Blk.row 5 (1 : Nat) s.length (bytesF (foldN s (k + (1 : Nat))))), (0 : Nat) + k < s.length, inR IntKind.i64 ((↑k : Int) + (1 : Int))] (by kernel_rfl) (by kernel_rfl) (by kernel_rfl) ⟨(by simp; omega), (by omega), (by omega), (by assumption), (by assumption), (by omega), (by assumption), (by omega), inR64 (by omega) (by omega)⟩ ?_
      exact Wp.lpK (by kernel_rfl) (again _ (k + 1) (by assumption) (by omega) (Ent.of [] (by kernel_rfl) (by kernel_rfl) (by kernel_rfl) trivial))
    · have hg : greatB (s.getD k 0) = false := by simpa using hg
      rw [e3 hg] at e1 ⊢
      refine Wp.go (mx := true) (fun _ => mixed) [(4, {fm := [(2, .c (.int .u8 ((s.getD k 0).toNat : Int)))]}), (5, {cs := [(1, pc (great_ok (s.getD k (0 : UInt8))))]})] 100 [true, false] [decide ((↑k : Int) < (↑s.length : Int)) = true, (0 : Int) ≤ (↑k : Int) ∧ (↑k : Int) < (↑s.length : Int), (0 : Nat) + k < s.length, EqvD (V1.c (Cell.int .u8 (↑((foldN s (k + (1 : Nat))).getD ((0 : Nat) + k) (0 : UInt8)).toNat : Int))) (V1.c (Cell.int .u8 (↑(s.getD k (0 : UInt8)).toNat : Int))), greatB (s.getD k (0 : UInt8)) = false, inR IntKind.i64 ((↑k : Int) + (1 : Int))] (by kernel_rfl) (by kernel_rfl) (by kernel_rfl) ⟨(by simp; omega), (by omega), (by omega), (by assumption), (by assumption), inR64 (by omega) (by omega)⟩ ?_
      exact Wp.lpK (by kernel_rfl) (again _ (k + 1) (by assumption) (by omega) (Ent.of [] (by kernel_rfl) (by kernel_rfl) (by kernel_rfl) trivial))
  · obtain rfl : k = s.length := by omega
    have ee : byteL (bytesF (foldN s s.length)) 0 s.length = foldT s := by rw [byteL_F _ (by rw [foldN_len]), foldN_end]
    refine Wp.go (mx := true) (fun _ => mixed) [] 100 [false] [decide ((↑s.length : Int) < (↑s.length : Int)) = false, (0 : Nat) + s.length ≤ s.length, areBytes (bytesF (foldN s s.length)) (0 : Nat) s.length] (by kernel_rfl) (by kernel_rfl) (by kernel_rfl) ⟨(by simp; done), (by omega), areBytes_F _ _ _⟩ ?_
    refine Wp.ret' (by kernel_rfl) ?_
    exact FinQ.pure (rs' := [V1.c (Cell.str (byteL (bytesF (foldN s s.length)) (0 : Nat) s.length))]) (by kernel_rfl) (by simp [*]; done) (by kernel_rfl)
end Go.Proofs.Tw
end

section
open Go Go.Sv
namespace Go.Proofs.Tw
attribute [local irreducible] Wp FinQ resV Ent Pur Go.Sv.Fn Sat0
set_option maxRecDepth 100000
set_option maxHeartbeats 4000000
variable {G : Nat → Option (List Cell)}

def fGet (l : List FT) (n : List UInt8) : Option (List UInt8) := (l.find? fun f => f.name == n).map (·.value)
theorem fGet_nil (n : List UInt8) : fGet [] n = none := rfl
theorem fGet_cons (x : FT) (l : List FT) (n : List UInt8) : fGet (x :: l) n = if x.name == n then some x.value else fGet l n := by
  unfold fGet
  rw [List.find?_cons]
  cases x.name == n <;> rfl
theorem drop_cons {α : Type} (l : List α) (k : Nat) (d : α) (h : k < l.length) : l.drop k = l.getD k d :: l.drop (k + 1) := by
  rw [List.getD_eq_getElem?_getD, List.getElem?_eq_getElem h]; exact List.drop_eq_getElem_cons h
end Go.Proofs.Tw
end

section
open Go Go.Sv
namespace Go.Proofs.Tw
attribute [local irreducible] Wp FinQ resV Ent Pur Go.Sv.Fn Sat0
set_option maxRecDepth 100000
set_option maxHeartbeats 4000000
variable {G : Nat → Option (List Cell)}

/-- An address. -/
structure UT where
  (host path : List UInt8) (query : List FT)
end Go.Proofs.Tw
end

section
open Go Go.Sv Go.RowKit
namespace Go.Proofs.Tw
attribute [local irreducible] Wp FinQ resV Ent Pur Go.Sv.Fn Sat0
set_option maxRecDepth 100000
set_option maxHeartbeats 4000000
variable {G : Nat → Option (List Cell)}

theorem All_digit (s : List UInt8) (hl : s.length < 4611686018427387904) : Pur Tryd.prog G 33 [.c (.str s), .c (.clo 37 0 (fun _ => none) (fun _ _ => .nilif))] [.c (.bool (s.all digitB))] := by
  refine Pur.of Tryd.func33 (by kernel_rfl) (by kernel_rfl) (by kernel_rfl) ?_
  refine Wp.go (mx := true) (fun _ => mixed) [] 100 [] [] (by kernel_rfl) (by kernel_rfl) (by kernel_rfl) trivial ?_
  refine Wp.loopK (by kernel_rfl) (fun (k : Nat) => ⟨[(0, TV.v (V1.c (Cell.str s))), (1, TV.v (V1.c (Cell.clo 37 (0 : Nat) (fun _ => none) fun _ _ => Cell.nilif))), (7, TV.v (V1.c (Cell.int .i64 (↑s.length : Int)))), (8, TV.v (V1.c (Cell.int .i64 (k : Int))))], [], 32⟩) (fun k => k ≤ s.length ∧ s.all digitB = (s.drop k).all digitB) (fun k => s.length - k) 0 (Ent.of [] (by kernel_rfl) (by kernel_rfl) (by kernel_rfl) trivial) ⟨Nat.zero_le _, rfl⟩ ?_
  intro k L ⟨hk, hq⟩ again
  rcases Nat.lt_or_ge k s.length with hlt | hge
  · rw [dropS s k hlt, List.all_cons] at hq
    refine Wp.go (mx := true) (fun _ => mixed) [(4, {cs := [(4, pc (digit_ok (s.getD k (0 : UInt8))))]})] 100 [true] [decide ((↑k : Int) < (↑s.length : Int)) = true, (0 : Int) ≤ (↑k : Int) ∧ (↑k : Int) < (↑s.length : Int)] (by kernel_rfl) (by kernel_rfl) (by kernel_rfl) ⟨(by simp; omega), (show (0 : Int) ≤ (↑k : Int) ∧ (↑k : Int) < (↑s.length : Int) from (by omega))⟩ ?_
    refine Wp.cond' (by kernel_rfl) (!digitB (s.getD k (0 : UInt8))) (by kernel_rfl) (fun h0 => ?_) (fun h0 => ?_)
    · have g0 := h0
      simp at g0
      refine Wp.go (mx := true) (fun _ => mixed) [] 100 [] [] (by kernel_rfl) (by kernel_rfl) (by kernel_rfl) trivial ?_
      refine Wp.ret' (by kernel_rfl) ?_
      exact FinQ.pure (rs' := [V1.c (Cell.bool false)]) (by kernel_rfl) (by simp_all; done) (by kernel_rfl)
    · have g0 := h0
      simp at g0
      refine Wp.go (mx := true) (fun _ => mixed) [] 100 [] [inR IntKind.i64 ((↑k : Int) + (1 : Int))] (by kernel_rfl) (by kernel_rfl) (by kernel_rfl) (inR64 (by omega) (by omega)) ?_
      exact Wp.lpK (by kernel_rfl) (again _ (k + 1) (⟨(by assumption), (by simp_all <;> omega)⟩) (by omega) (Ent.of [] (by kernel_rfl) (by kernel_rfl) (by kernel_rfl) trivial))
  · obtain rfl : k = s.length := by omega
    rw [List.drop_length] at hq
    refine Wp.go (mx := true) (fun _ => mixed) [] 100 [false] [decide ((↑s.length : Int) < (↑s.length : Int)) = false] (by kernel_rfl) (by kernel_rfl) (by kernel_rfl) ((show decide ((↑s.length : Int) < (↑s.length : Int)) = false from (by simp; done))) ?_
    refine Wp.ret' (by kernel_rfl) ?_
    exact FinQ.pure (rs' := [V1.c (Cell.bool true)]) (by kernel_rfl) (by simp [*]; done) (by kernel_rfl)
end Go.Proofs.Tw
end

section
open Go Go.Sv
namespace Go.Proofs.Tw
attribute [local irreducible] Wp FinQ resV Ent Pur Go.Sv.Fn Sat0
set_option maxRecDepth 100000
set_option maxHeartbeats 4000000

end Go.Proofs.Tw
end

section
open Go Go.Sv
namespace Go.Proofs.Tw
attribute [local irreducible] Wp FinQ resV Ent Pur Go.Sv.Fn Sat0
set_option maxRecDepth 100000
set_option maxHeartbeats 4000000

/-- The seat's tables: how long what is searched for at once may be (some number m), the powers of ten. -/
def Gm (m : Int) : Nat → Option (List Cell)
  | 0 => some [.int .i64 m]
  | 1 => some (Lib.pow10Tab.map fun z => .int .u64 z)
  | _ => none
end Go.Proofs.Tw
end

section
open Go Go.Sv Go.RowKit
namespace Go.Proofs.Tw
attribute [local irreducible] Wp FinQ resV Ent Pur Go.Sv.Fn Sat0
set_option maxRecDepth 100000
set_option maxHeartbeats 4000000
variable {G : Nat → Option (List Cell)}

theorem below_drew (w : World) (n : Nat) : Below w.heap.size w (w.drewN n) := ⟨rfl, rfl, rfl, Nat.le_refl _, fun _ _ => rfl⟩
theorem size_lt (s : List UInt8) : (⟨s.toArray⟩ : ByteArray).size = s.length := size_mk s
/-- A table of one number, as the shelf speaks of it. -/
theorem glob_one {D : Dat} {w : World} {g : Nat} {x : Cell} (hG : G g = some [x]) (k1 : GlobOk G D) (k3 : Agree D w) : ∃ u, w.cell? ⟨g, 0, none⟩ = some u ∧ Den D rho0 x u := by
  obtain ⟨u, hu, hd⟩ := k1 g _ hG 0 x rfl
  exact ⟨u, k3 _ _ _ hu, hd⟩
theorem lib_CutSuffix (s p : List UInt8) (hl : s.length ≤ 9223372036854775807) : Pur Tryd.prog G 16 [.c (.str s), .c (.str p)] [.c (.str (Lib.trimSuffix s p)), .c (.bool (Lib.hasSuffix s p))] := by
  refine Pur.of_below rfl ?_
  intro D ρ w vs h1 _ _ _
  obtain ⟨u, v, rfl, hu, hv⟩ := h1.two
  have hu : u = .string ⟨s.toArray⟩ := hu
  have hv : v = .string ⟨p.toArray⟩ := hv
  subst hu hv
  refine (Go.Proofs.Tryd.strings_CutSuffix ⟨s.toArray⟩ ⟨p.toArray⟩ w (by rw [size_lt]; exact hl)).mono ?_
  rintro e w' ⟨rfl, rfl⟩
  refine ⟨_, rfl, ⟨_, rfl, rfl, fun j x hj => ?_⟩, Below.refl _ _⟩
  match j, hj with
  | 0, hj => simp at hj; subst hj; exact ⟨_, rfl, rfl⟩
  | 1, hj => simp at hj; subst hj; exact ⟨_, rfl, rfl⟩
  | j + 2, hj => simp at hj
theorem lib_Cut {m : Int} (hG : G 0 = some [.int .i64 m]) (s p : List UInt8) (hl : s.length < 4294967281) : Pur Tryd.prog G 15 [.c (.str s), .c (.str p)] [.c (.str (Lib.cut s p).1), .c (.str (Lib.cut s p).2.1), .c (.bool (Lib.cut s p).2.2)] := by
  refine Pur.of_below rfl ?_
  intro D ρ w vs h1 k1 _ k3
  obtain ⟨u, v, rfl, hu, hv⟩ := h1.two
  have hu : u = .string ⟨s.toArray⟩ := hu
  have hv : v = .string ⟨p.toArray⟩ := hv
  subst hu hv
  obtain ⟨x, hx, hd⟩ := glob_one hG k1 k3
  have hd : x = .int .i64 m := hd
  subst hd
  refine (Go.Proofs.Tryd.strings_Cut ⟨s.toArray⟩ ⟨p.toArray⟩ m w (by rw [size_lt]; exact hl) hx).mono ?_
  rintro e w' ⟨rfl, n, rfl⟩
  refine ⟨_, rfl, ⟨_, rfl, rfl, fun j x hj => ?_⟩, below_drew _ _⟩
  match j, hj with
  | 0, hj => simp at hj; subst hj; exact ⟨_, rfl, rfl⟩
  | 1, hj => simp at hj; subst hj; exact ⟨_, rfl, rfl⟩
  | 2, hj => simp at hj; subst hj; exact ⟨_, rfl, rfl⟩
  | j + 3, hj => simp at hj
theorem lib_Split {m : Int} (hG : G 0 = some [.int .i64 m]) (s p : List UInt8) (hl : s.length < 4294967281) (hp : 1 ≤ p.length) : Pur Tryd.prog G 43 [.c (.str s), .c (.str p)] [.c (.sl 1 (Lib.split s p).length (strsF (Lib.split s p)))] := by
  have hsz : (Lib.splitB ⟨p.toArray⟩ 0 (Lib.countB ⟨s.toArray⟩ ⟨p.toArray⟩) ⟨s.toArray⟩).length = Lib.countB ⟨s.toArray⟩ ⟨p.toArray⟩ + 1 := Lib.splitB_all _ (by rw [size_lt]; exact hp) 0 _ _ rfl
  have hdat : (Lib.splitB ⟨p.toArray⟩ 0 (Lib.countB ⟨s.toArray⟩ ⟨p.toArray⟩) ⟨s.toArray⟩).map (·.data.toList) = Lib.split s p := by rw [Lib.splitB_data]; rfl
  have hlen : (Lib.split s p).length = Lib.countB ⟨s.toArray⟩ ⟨p.toArray⟩ + 1 := by rw [← hdat, List.length_map, hsz]
  have hcl := Lib.countB_le ⟨p.toArray⟩ (by rw [size_lt]; exact hp) s.length ⟨s.toArray⟩ (by rw [size_lt]; exact Nat.le_refl _)
  rw [size_lt] at hcl
  refine Pur.of_alloc (by rw [hlen]; unfold maxLen; omega) ?_
  intro D ρ w vs h1 k1 _ k3
  obtain ⟨u, v, rfl, hu, hv⟩ := h1.two
  have hu : u = .string ⟨s.toArray⟩ := hu
  have hv : v = .string ⟨p.toArray⟩ := hv
  subst hu hv
  obtain ⟨x, hx, hd⟩ := glob_one hG k1 k3
  have hd : x = .int .i64 m := hd
  subst hd
  refine (Go.Proofs.Tryd.strings_Split ⟨s.toArray⟩ ⟨p.toArray⟩ m w (by rw [size_lt]; exact hl) hx (by rw [size_lt]; exact hp)).mono ?_
  rintro e w' ⟨rfl, rfl⟩
  refine ⟨_, _, by rw [hlen], rfl, by simp [hsz, hlen], fun i hi => ?_⟩
  have hi' : i < (Lib.splitB ⟨p.toArray⟩ 0 (Lib.countB ⟨s.toArray⟩ ⟨p.toArray⟩) ⟨s.toArray⟩).length := by rw [hsz, ← hlen]; exact hi
  refine ⟨.string (Lib.splitB ⟨p.toArray⟩ 0 (Lib.countB ⟨s.toArray⟩ ⟨p.toArray⟩) ⟨s.toArray⟩)[i], by simp [hi'], fun D => ?_⟩
  have : (Lib.split s p).getD i [] = (Lib.splitB ⟨p.toArray⟩ 0 (Lib.countB ⟨s.toArray⟩ ⟨p.toArray⟩) ⟨s.toArray⟩)[i].data.toList := by
    rw [← hdat]; simp [List.getD, hi']
  show _ = Value.string ⟨((Lib.split s p).getD i []).toArray⟩
  rw [this]
end Go.Proofs.Tw
end

section
open Go Go.Sv
namespace Go.Proofs.Tw
attribute [local irreducible] Wp FinQ resV Ent Pur Go.Sv.Fn Sat0
set_option maxRecDepth 100000
set_option maxHeartbeats 4000000
variable {G : Nat → Option (List Cell)}

theorem cut_len (s p : List UInt8) : (Lib.cut s p).1.length ≤ s.length ∧ (Lib.cut s p).2.1.length ≤ s.length := by
  unfold Lib.cut
  split
  · simp only [List.length_take, List.length_drop]; omega
  · simp
end Go.Proofs.Tw
end

section
open Go Go.Sv
namespace Go.Proofs.Tw
attribute [local irreducible] Wp FinQ resV Ent Pur Go.Sv.Fn Sat0
set_option maxRecDepth 100000
set_option maxHeartbeats 4000000
variable {G : Nat → Option (List Cell)}

theorem split_hit {s sep : List UInt8} {i : Nat} (hs : sep ≠ []) (h : Lib.index s sep = i) : Lib.split s sep = s.take i :: Lib.split (s.drop (i + sep.length)) sep := by
  have hne : ((i : Int) == -1) = false := by rw [beq_eq_false_iff_ne]; omega
  unfold Lib.split
  rw [Lib.count_hit hs h, Nat.add_comm 1, Lib.splitK, h, hne]
  simp
theorem split_miss {s sep : List UInt8} (h : Lib.index s sep = -1) : Lib.split s sep = [s] := by
  unfold Lib.split; rw [Lib.count_miss h]; rfl
end Go.Proofs.Tw
end

section
open Go Go.Sv
namespace Go.Proofs.Tw
attribute [local irreducible] Wp FinQ resV Ent Pur Go.Sv.Fn Sat0
set_option maxRecDepth 100000
set_option maxHeartbeats 4000000
variable {G : Nat → Option (List Cell)}

theorem dropM {α : Type} (l : List α) (d : α) (k : Nat) (h : k < l.length) : l.drop k = l.getD k d :: l.drop (k + 1) := by
  rw [List.drop_eq_getElem_cons h]; simp [List.getD, h]
theorem splitK_len (sep : List UInt8) : ∀ (k : Nat) (s : List UInt8), ∀ x ∈ Lib.splitK sep 0 k s, x.length ≤ s.length
  | 0, s, x, hx => by simp [Lib.splitK] at hx; subst hx; exact Nat.le_refl _
  | k + 1, s, x, hx => by
    unfold Lib.splitK at hx
    split at hx
    · simp at hx; subst hx; exact Nat.le_refl _
    · rcases List.mem_cons.1 hx with rfl | hx
      · simp only [List.length_take]; omega
      · have := splitK_len sep k _ x hx
        rw [List.length_drop] at this
        omega
theorem split_el (s sep : List UInt8) (k : Nat) : ((Lib.split s sep).getD k []).length ≤ s.length := by
  rw [List.getD_eq_getElem?_getD]
  cases h : (Lib.split s sep)[k]? with
  | none => simp
  | some x => exact splitK_len sep _ s x (List.mem_of_getElem? h)
end Go.Proofs.Tw
end

section
open Go Go.Sv
namespace Go.Proofs.Tw
attribute [local irreducible] Wp FinQ resV Ent Pur Go.Sv.Fn Sat0
set_option maxRecDepth 100000
set_option maxHeartbeats 4000000
variable {G : Nat → Option (List Cell)}

def nvS (t : List UInt8) (n : Nat) : Nat := t.foldl (fun n c => n * 10 + (c.toNat - 48)) n
def nv (t : List UInt8) : Nat := nvS t 0
theorem nv_snoc (t : List UInt8) (c : UInt8) : nv (t ++ [c]) = nv t * 10 + (c.toNat - 48) := by simp [nv, nvS]
theorem dec_step {m : Nat} (h : ¬ m < 10) : Lib.decDigits m = Lib.decDigits (m / 10) ++ [UInt8.ofNat (48 + m % 10)] := by
  conv => lhs; rw [Lib.decDigits, dif_neg h]
theorem dig_to {c : UInt8} (h : digitB c = true) : 48 ≤ c.toNat ∧ c.toNat ≤ 57 := by
  unfold digitB at h
  simp only [Bool.and_eq_true, decide_eq_true_eq, UInt8.le_iff_toNat_le] at h
  exact ⟨h.1, h.2⟩
theorem ofNat_dig {d : Nat} (h : d < 10) : (UInt8.ofNat (48 + d)).toNat = 48 + d := by
  simp; omega
theorem dig_of {d : Nat} (h : d < 10) : digitB (UInt8.ofNat (48 + d)) = true := by
  have := ofNat_dig h
  unfold digitB
  simp only [Bool.and_eq_true, decide_eq_true_eq, UInt8.le_iff_toNat_le, this]
  refine ⟨?_, ?_⟩
  · show 48 ≤ _; omega
  · show _ ≤ 57; omega
theorem nv_dec (m : Nat) : nv (Lib.decDigits m) = m := by
  induction m using Nat.strongRecOn with
  | _ m ih =>
    by_cases h : m < 10
    · rw [Lib.decDigits_one h]
      show 0 * 10 + ((UInt8.ofNat (48 + m)).toNat - 48) = m
      rw [ofNat_dig h]; omega
    · rw [dec_step h, nv_snoc, ih _ (by omega), ofNat_dig (by omega)]; omega
theorem dec_all (m : Nat) : (Lib.decDigits m).all digitB = true := by
  induction m using Nat.strongRecOn with
  | _ m ih =>
    by_cases h : m < 10
    · rw [Lib.decDigits_one h, List.all_cons, dig_of h]; rfl
    · rw [dec_step h, List.all_append, ih _ (by omega), List.all_cons, dig_of (show m % 10 < 10 by omega)]; rfl
theorem dec_ne (m : Nat) : Lib.decDigits m ≠ [] := by
  by_cases h : m < 10
  · rw [Lib.decDigits_one h]; simp
  · rw [dec_step h]; simp
theorem dec_head (m : Nat) (h1 : 1 ≤ m) : (Lib.decDigits m).getD 0 0 ≠ 48 := by
  induction m using Nat.strongRecOn with
  | _ m ih =>
    by_cases h : m < 10
    · rw [Lib.decDigits_one h]
      intro hc
      have hc : UInt8.ofNat (48 + m) = 48 := hc
      have := congrArg UInt8.toNat hc
      rw [ofNat_dig h] at this
      have : 48 + m = 48 := this
      omega
    · rw [dec_step h]
      have := ih (m / 10) (by omega) (by omega)
      have hn := dec_ne (m / 10)
      cases hd : Lib.decDigits (m / 10) with
      | nil => exact (hn hd).elim
      | cons a r => rw [hd] at this; simpa using this
theorem dec_len_le : ∀ (k m : Nat), m < 10 ^ (k + 1) → (Lib.decDigits m).length ≤ k + 1
  | 0, m, h => by rw [Lib.decDigits_one (by simpa using h)]; simp
  | k + 1, m, h => by
    by_cases h10 : m < 10
    · rw [Lib.decDigits_one h10]; simp
    · rw [dec_step h10, List.length_append]
      have := dec_len_le k (m / 10) (by rw [Nat.pow_succ] at h; omega)
      simp; omega
/-- A number's text, as it is written. -/
def canonB (t : List UInt8) : Bool := t.all digitB && (!(t == []) && !(decide (1 < t.length) && (t.getD 0 0 == 48)))
theorem canon_dec (m : Nat) : canonB (Lib.decDigits m) = true := by
  unfold canonB
  rw [dec_all]
  have h1 : (Lib.decDigits m == []) = false := by simpa using dec_ne m
  rw [h1]
  by_cases h : m < 10
  · rw [Lib.decDigits_one h]; rfl
  · have := dec_head m (by omega)
    have h2 : ((Lib.decDigits m).getD 0 0 == 48) = false := by simpa using this
    rw [h2]; simp
theorem nv_lt : ∀ (k : Nat) (t : List UInt8), t.length ≤ k → t.all digitB = true → nv t < 10 ^ k
  | 0, t, h, _ => by
    have : t = [] := List.length_eq_zero_iff.1 (by omega)
    subst this; decide
  | k + 1, t, h, ha => by
    rcases List.eq_nil_or_concat t with rfl | ⟨r, c, rfl⟩
    · show 0 < _; exact Nat.pow_pos (by omega)
    · rw [List.concat_eq_append] at *
      simp only [List.all_append, Bool.and_eq_true, List.all_cons, List.all_nil, Bool.and_true] at ha
      have := nv_lt k r (by simp at h; omega) ha.1
      have hd := dig_to ha.2
      rw [nv_snoc, Nat.pow_succ]; omega

end Go.Proofs.Tw
end

section
open Go Go.Sv
namespace Go.Proofs.Tw
attribute [local irreducible] Wp FinQ resV Ent Pur Go.Sv.Fn Sat0
set_option maxRecDepth 100000
set_option maxHeartbeats 4000000
variable {G : Nat → Option (List Cell)}

def numK (K : Nat) (s : List UInt8) : Bool := decide (s.length ≤ K) && canonB s
theorem numK_yes {K : Nat} (hK : K ≤ 15) (s : List UInt8) (h : numK K s = true) : Pur Tryd.prog G 20 [.c (.str s), .c (.int .i64 (K : Int))] [.c (.int .i64 ((nv s : Nat) : Int)), .c (.bool true)] := by
  refine Pur.of Tryd.func20 (by kernel_rfl) (by kernel_rfl) (by kernel_rfl) ?_
  unfold numK canonB at h
  simp only [Bool.and_eq_true, decide_eq_true_eq, Bool.not_eq_true'] at h
  obtain ⟨hl, hd, hne, hh⟩ := h
  have c := All_digit (G := G) s (by omega)
  rw [hd] at c
  have hp : 0 < s.length := by
    cases s with
    | nil => simp at hne
    | cons a r => simp
  have hi0 : (((s.getD 0 0).toNat : Int) == 48) = (s.getD 0 0 == 48) := ibeq (s.getD 0 0) 48
  have ht : (bif bif bif s == [] then true else decide ((s.length : Int) > (K : Int)) then true else !true then true else bif decide ((s.length : Int) > 1) then ((s.getD 0 0).toNat : Int) == 48 else false) = false := by
    rw [hne, hi0, decide_eq_false (show ¬ ((s.length : Int) > (K : Int)) by omega)]
    by_cases h1 : 1 < s.length
    · rw [decide_eq_true h1, Bool.true_and] at hh
      rw [hh, decide_eq_true (show (s.length : Int) > 1 by omega)]; rfl
    · rw [decide_eq_false (show ¬ ((s.length : Int) > 1) by omega)]; rfl
  have hall : ∀ k, k < s.length → digitB (s.getD k 0) = true := fun k hk => by
    rw [List.all_eq_true] at hd
    exact hd _ (by simp [List.getD, hk])
  have hlt : ∀ k, k ≤ s.length → nv (s.take k) < 10 ^ K := fun k hk => nv_lt K _ (by simp; omega) (by rw [List.all_eq_true] at hd ⊢; exact fun x hx => hd x (List.mem_of_mem_take hx))
  have hnv : ∀ k, k < s.length → nv (s.take (k + 1)) = nv (s.take k) * 10 + ((s.getD k 0).toNat - 48) := fun k hk => by
    rw [List.take_succ_eq_append_getElem hk, nv_snoc]; simp [List.getD, hk]
  have hi1 : 0 ≤ (0 : Int) ∧ (0 : Int) < (s.length : Int) := by omega
  clear hd hh hne hi0
  refine Wp.go (mx := true) (fun _ => mixed) [(1, {cs := [(10, pc c)]})] 100 [false] [decide ((↑s.length : Int) > (1 : Int)) = true ∧ (bif bif s == [] then true else decide ((↑s.length : Int) > (↑K : Int)) then true else !true) = false → (0 : Int) ≤ (0 : Int) ∧ (0 : Int) < (↑s.length : Int), (bif bif bif s == [] then true else decide ((↑s.length : Int) > (↑K : Int)) then true else !true then true else bif decide ((↑s.length : Int) > (1 : Int)) then (↑(s.getD (0 : Nat) (0 : UInt8)).toNat : Int) == (48 : Int) else false) = false] (by kernel_rfl) (by kernel_rfl) (by kernel_rfl) ⟨(by omega), (show (bif bif bif s == [] then true else decide ((↑s.length : Int) > (↑K : Int)) then true else !true then true else bif decide ((↑s.length : Int) > (1 : Int)) then (↑(s.getD (0 : Nat) (0 : UInt8)).toNat : Int) == (48 : Int) else false) = false from (by assumption))⟩ ?_
  refine Wp.loopK (by kernel_rfl) (fun (x : Nat × Nat) => ⟨[(0, .v (.c (.str s))), (6, .v (.c (.int .i64 (x.2 : Int)))), (32, .v (.c (.int .i64 (s.length : Int)))), (33, .v (.c (.int .i64 (x.1 : Int))))], [], 448⟩) (fun x => x.1 ≤ s.length ∧ x.2 = nv (s.take x.1)) (fun x => s.length - x.1) (0, 0) (Ent.of [] (by kernel_rfl) (by kernel_rfl) (by kernel_rfl) trivial) ⟨Nat.zero_le _, rfl⟩ ?_
  rintro ⟨k, n⟩ L ⟨hk, hn⟩ again
  simp only at hk hn
  rcases Nat.lt_or_ge k s.length with hlk | hge
  · have hb := dig_to (hall k hlk)
    have hlim := hlt k hk
    rw [← hn] at hlim
    have hn2 : n * 10 + ((s.getD k 0).toNat - 48) = nv (s.take (k + 1)) := by rw [hnv k hlk, hn]
    have ew : IntKind.u8.wrap (((s.getD k 0).toNat : Int) - 48) = (((s.getD k 0).toNat - 48 : Nat) : Int) := by rw [wrap8 (by omega) (by omega)]; omega
    have ew2 : IntKind.i64.wrap (((s.getD k 0).toNat - 48 : Nat) : Int) = (((s.getD k 0).toNat - 48 : Nat) : Int) := wrap64 (by omega) (by omega)
    have e7 : EqvD (.c (.int .u8 (IntKind.u8.wrap (((s.getD k 0).toNat : Int) - 48)))) (.c (.int .u8 (((s.getD k 0).toNat - 48 : Nat) : Int))) := eqvD_of (by rw [ew])
    have e8 : EqvD (.c (.int .i64 (IntKind.i64.wrap (((s.getD k 0).toNat - 48 : Nat) : Int)))) (.c (.int .i64 (((s.getD k 0).toNat - 48 : Nat) : Int))) := eqvD_of (by rw [ew2])
    have e9 : EqvD (.c (.int .i64 ((n : Int) * 10 + (((s.getD k 0).toNat - 48 : Nat) : Int)))) (.c (.int .i64 ((n * 10 + ((s.getD k 0).toNat - 48) : Nat) : Int))) := eqvD_of (by rw [show (n : Int) * 10 + (((s.getD k 0).toNat - 48 : Nat) : Int) = ((n * 10 + ((s.getD k 0).toNat - 48) : Nat) : Int) from by omega])
    have hlim2 : n < 1000000000000000 := Nat.lt_of_lt_of_le hlim (Nat.pow_le_pow_right (n := 10) (by decide) hK)
    clear ew ew2 hlt hnv hall ht hlim hn
    refine Wp.go (mx := true) (fun _ => mixed) [(7, {fm := [(5, .c (.int .u8 (((s.getD k 0).toNat - 48 : Nat) : Int))), (6, .c (.int .i64 (((s.getD k 0).toNat - 48 : Nat) : Int))), (7, .c (.int .i64 ((n * 10 + ((s.getD k 0).toNat - 48) : Nat) : Int)))]})] 100 [true] [decide ((↑k : Int) < (↑s.length : Int)) = true, inR IntKind.i64 ((↑n : Int) * (10 : Int)), (0 : Int) ≤ (↑k : Int) ∧ (↑k : Int) < (↑s.length : Int), EqvI (V1.c (Cell.int .u8 (IntKind.u8.wrap ((↑(s.getD k (0 : UInt8)).toNat : Int) - (48 : Int))))) (V1.c (Cell.int .u8 (↑((s.getD k (0 : UInt8)).toNat - (48 : Nat)) : Int))), EqvD (V1.c (Cell.int .u8 (IntKind.u8.wrap ((↑(s.getD k (0 : UInt8)).toNat : Int) - (48 : Int))))) (V1.c (Cell.int .u8 (↑((s.getD k (0 : UInt8)).toNat - (48 : Nat)) : Int))), EqvI (V1.c (Cell.int .i64 (IntKind.i64.wrap (↑((s.getD k (0 : UInt8)).toNat - (48 : Nat)) : Int)))) (V1.c (Cell.int .i64 (↑((s.getD k (0 : UInt8)).toNat - (48 : Nat)) : Int))), EqvD (V1.c (Cell.int .i64 (IntKind.i64.wrap (↑((s.getD k (0 : UInt8)).toNat - (48 : Nat)) : Int)))) (V1.c (Cell.int .i64 (↑((s.getD k (0 : UInt8)).toNat - (48 : Nat)) : Int))), EqvI (V1.c (Cell.int .i64 ((↑n : Int) * (10 : Int) + (↑((s.getD k (0 : UInt8)).toNat - (48 : Nat)) : Int)))) (V1.c (Cell.int .i64 (↑(n * (10 : Nat) + ((s.getD k (0 : UInt8)).toNat - (48 : Nat))) : Int))), EqvD (V1.c (Cell.int .i64 ((↑n : Int) * (10 : Int) + (↑((s.getD k (0 : UInt8)).toNat - (48 : Nat)) : Int)))) (V1.c (Cell.int .i64 (↑(n * (10 : Nat) + ((s.getD k (0 : UInt8)).toNat - (48 : Nat))) : Int))), inR IntKind.i64 ((↑n : Int) * (10 : Int) + (↑((s.getD k (0 : UInt8)).toNat - (48 : Nat)) : Int)), inR IntKind.i64 ((↑k : Int) + (1 : Int))] (by kernel_rfl) (by kernel_rfl) (by kernel_rfl) ⟨(by simp; omega), inR64 (by omega) (by omega), (by omega), fun _ _ => trivial, (by assumption), fun _ _ => trivial, (by assumption), fun _ _ => trivial, (by assumption), inR64 (by omega) (by omega), inR64 (by omega) (by omega)⟩ ?_
    exact Wp.lpK (by kernel_rfl) (again _ (k + 1, n * 10 + ((s.getD k 0).toNat - 48)) ⟨(by assumption), (by assumption)⟩ (by omega) (Ent.of [] (by kernel_rfl) (by kernel_rfl) (by kernel_rfl) trivial))
  · rw [List.take_of_length_le hge] at hn
    subst hn
    clear hlt hnv hall ht
    refine Wp.go (mx := true) (fun _ => mixed) [] 100 [false] [decide ((↑k : Int) < (↑s.length : Int)) = false] (by kernel_rfl) (by kernel_rfl) (by kernel_rfl) (show decide ((↑k : Int) < (↑s.length : Int)) = false from (by simp; omega)) ?_
    refine Wp.ret' (by kernel_rfl) ?_
    exact FinQ.pure (rs' := [V1.c (Cell.int .i64 (↑(nv s) : Int)), V1.c (Cell.bool true)]) (by kernel_rfl) rfl (by kernel_rfl)
theorem numK_no {K : Nat} (s : List UInt8) (hl : s.length < 1000000000) (h : numK K s = false) : Pur Tryd.prog G 20 [.c (.str s), .c (.int .i64 (K : Int))] [.c (.int .i64 0), .c (.bool false)] := by
  refine Pur.of Tryd.func20 (by kernel_rfl) (by kernel_rfl) (by kernel_rfl) ?_
  have c := All_digit (G := G) s (by omega)
  have hi0 : (((s.getD 0 0).toNat : Int) == 48) = (s.getD 0 0 == 48) := ibeq (s.getD 0 0) 48
  have hi1 : decide ((s.length : Int) > 1) = true → 0 ≤ (0 : Int) ∧ (0 : Int) < (s.length : Int) := fun h => by have := of_decide_eq_true h; omega
  have ht : (bif bif bif s == [] then true else decide ((s.length : Int) > (K : Int)) then true else !s.all digitB then true else bif decide ((s.length : Int) > 1) then ((s.getD 0 0).toNat : Int) == 48 else false) = true := by
    rw [hi0]
    unfold numK canonB at h
    revert h
    have hd1 : decide ((s.length : Int) > (K : Int)) = !decide (s.length ≤ K) := by by_cases hh : s.length ≤ K <;> simp [hh] <;> omega
    have hd2 : decide ((s.length : Int) > 1) = decide (1 < s.length) := by by_cases hh : 1 < s.length <;> simp [hh] <;> omega
    rw [hd1, hd2]
    cases (s == []) <;> cases decide (s.length ≤ K) <;> cases (s.all digitB) <;> cases decide (1 < s.length) <;> cases (s.getD 0 0 == 48) <;> decide
  clear h hi0
  refine Wp.go (mx := true) (fun _ => mixed) [(1, {cs := [(10, pc c)]})] 100 [true] [decide ((↑s.length : Int) > (1 : Int)) = true ∧ (bif bif s == [] then true else decide ((↑s.length : Int) > (↑K : Int)) then true else !s.all digitB) = false → (0 : Int) ≤ (0 : Int) ∧ (0 : Int) < (↑s.length : Int), (bif bif bif s == [] then true else decide ((↑s.length : Int) > (↑K : Int)) then true else !s.all digitB then true else bif decide ((↑s.length : Int) > (1 : Int)) then (↑(s.getD (0 : Nat) (0 : UInt8)).toNat : Int) == (48 : Int) else false) = true] (by kernel_rfl) (by kernel_rfl) (by kernel_rfl) ⟨(by simp; omega), (show (bif bif bif s == [] then true else decide ((↑s.length : Int) > (↑K : Int)) then true else !s.all digitB then true else bif decide ((↑s.length : Int) > (1 : Int)) then (↑(s.getD (0 : Nat) (0 : UInt8)).toNat : Int) == (48 : Int) else false) = true from (by assumption))⟩ ?_
  refine Wp.ret' (by kernel_rfl) ?_
  exact FinQ.pure (rs' := [V1.c (Cell.int .i64 (0 : Int)), V1.c (Cell.bool false)]) (by kernel_rfl) rfl (by kernel_rfl)
end Go.Proofs.Tw
end

section
open Go Go.Sv Go.RowKit
namespace Go.Proofs.Tw

def HasPow (G : Nat → Option (List Cell)) : Prop := G 1 = some (Lib.pow10Tab.map fun z => .int .u64 z)
def HasLen (G : Nat → Option (List Cell)) : Prop := ∃ m : Int, G 0 = some [.int .i64 m]
theorem itoa_p {G : Nat → Option (List Cell)} (hp : HasPow G) (n : Int) (h0 : -9223372036854775808 ≤ n) (h1 : n ≤ 9223372036854775807) : Pur Tryd.prog G 41 [.c (.int .i64 n)] [.c (.str (Lib.itoa n))] := lib_Itoa 1 (by kernel_rfl) hp n h0 h1
end Go.Proofs.Tw
end

section
open Go Go.Sv
namespace Go.Proofs.Tw
attribute [local irreducible] Wp FinQ resV Ent Pur Go.Sv.Fn Sat0
set_option maxRecDepth 100000
set_option maxHeartbeats 4000000

/-- A builder's first text. -/
theorem ws_a {G : Nat → Option (List Cell)} (s : List UInt8) (hm : s.length ≤ 140737488355328) : FnB Tryd.prog G 49 [.box 78 [.nilptr, .nilsl]] [.c (.ptr 0 0), .c (.str s)] [.c (.int .i64 s.length), .c .nilif]
    [(0, .box 78 [.ptr 0 0, .row 1 1 0 (0 + s.length)]), (1, .row 5 1 (0 + s.length) (bytesF s))] := by
  refine Fn.of' Tryd.func49 (by kernel_rfl) (by kernel_rfl) (by kernel_rfl) (by kernel_rfl) trivial ?_
  refine Wp.go (mx := true) (fun _ => mixed) [(1, {cs := [(1, cb [0] cc_a)]}), (2, {bs := [(6, .row 5 1 (0 + s.length) (bytesF s))]})] 100 [] [(0 + s.length) * 1 ≤ 140737488355328, BlkEqv (.row 5 1 (0 + s.length) (catF 0 (fun _ _ => .nilif) (bytesF s))) (.row 5 1 (0 + s.length) (bytesF s))] (by kernel_rfl) (by kernel_rfl) (by kernel_rfl) ⟨by omega, ?_⟩ ?_
  · refine BlkEqv.row_ext rfl fun i hi j hj => ?_
    unfold catF
    rw [if_neg (by omega), Nat.sub_zero]
  refine Wp.ret' (by kernel_rfl) ?_
  exact FinQ.blk [161] (by kernel_rfl) (by kernel_rfl) (by kernel_rfl) (by kernel_rfl) (by kernel_rfl) trivial
/-- A message: its first line, its fields, its body. -/
structure MT where
  (first : List UInt8) (head : List FT) (body : List UInt8)
def encM (m : MT) : List Cell := [.str m.first, encH m.head, .str m.body]
def seenL (l : List (List UInt8)) : List (List UInt8 × V1) := l.map fun s => (s, .c (.bool true))
theorem seenL_get (l : List (List UInt8)) (s : List UInt8) : mget (seenL l) s (.c (.bool false)) = .c (.bool (l.contains s)) := by
  have := seen_get l l.length s
  rwa [seenM, List.take_length] at this
theorem seenL_set (l : List (List UInt8)) (s : List UInt8) (h : l.contains s = false) : mset (seenL l) s (.c (.bool true)) = seenL (l ++ [s]) := by
  have := seen_set (l ++ [s]) l.length (by simp) (by simpa using h)
  rw [seenM, seenM, List.take_left, show l.length + 1 = (l ++ [s]).length from by simp, List.take_length] at this
  simpa [seenL, List.getD] using this
def fOk (seen : List (List UInt8)) (f : FT) : Bool := !(bif bif bif !(tokenT f.name) then true else !(foldT f.name == f.name) then true else seen.contains f.name then true else !(f.value.all seenB))
def fieldsOk : List (List UInt8) → List FT → Bool
  | _, [] => true
  | seen, f :: r => fOk seen f && fieldsOk (seen ++ [f.name]) r
def namesF (l : List FT) (k : Nat) : List (List UInt8) := [99, 111, 110, 116, 101, 110, 116, 45, 108, 101, 110, 103, 116, 104] :: (l.take k).map (·.name)
def roomT (m : MT) : Int := if m.body == [] then 24 else 23
def fieldedT (m : MT) : Bool := fieldsOk [[99, 111, 110, 116, 101, 110, 116, 45, 108, 101, 110, 103, 116, 104]] m.head && decide ((m.head.length : Int) ≤ roomT m)
theorem namesF_succ (l : List FT) (k : Nat) (h : k < l.length) : namesF l (k + 1) = namesF l k ++ [(l.getD k .nil).name] := by
  unfold namesF
  rw [List.take_succ_eq_append_getElem h, List.map_append, List.getD_eq_getElem?_getD, List.getElem?_eq_getElem h]
  rfl
theorem fielded_ok {G : Nat → Option (List Cell)} (m : MT) (hn : m.head.length < 4611686018427387904) (hs : ∀ f ∈ m.head, f.name.length ≤ 140737488355328 ∧ f.value.length ≤ 140737488355328) : Pur Tryd.prog G 40 [.agg (encM m)] [.c (.bool (fieldedT m))] := by
  refine Pur.of Tryd.func40 (by kernel_rfl) (by kernel_rfl) (by kernel_rfl) ?_
  cases hb : m.body == [] with
  | true =>
    have hb' : (!(m.body == [])) = false := by rw [hb]; rfl
    have hr : roomT m = 24 := by unfold roomT; rw [if_pos hb]
    refine Wp.go (mx := true) (fun _ => mixed) [] 100 [false] [(!m.body == []) = false] (by kernel_rfl) (by kernel_rfl) (by kernel_rfl) hb' ?_
    refine Wp.loopK (by kernel_rfl) (fun (k : Nat) => ⟨[(1, TV.v (V1.c (Cell.ptr 0 0))), (3, TV.v (V1.c (Cell.int .i64 (24 : Int)))), (4, TV.v (V1.c (Cell.map 32))), (15, TV.v (V1.c (encH m.head))), (16, TV.v (V1.c (Cell.int .i64 (m.head.length : Int)))), (17, TV.v (V1.c (Cell.int .i64 (k : Int))))], [(0, Blk.box 53 (encM m)), (32, Blk.ob (Ob.ms (seenL (namesF m.head k))))], 224⟩) (fun k => k ≤ m.head.length ∧ fieldsOk [[99, 111, 110, 116, 101, 110, 116, 45, 108, 101, 110, 103, 116, 104]] m.head = fieldsOk (namesF m.head k) (m.head.drop k)) (fun k => m.head.length - k) 0 (Ent.of [] (by kernel_rfl) (by kernel_rfl) (by kernel_rfl) trivial) ⟨Nat.zero_le _, rfl⟩ ?_
    intro k L ⟨hk, hq⟩ again
    rcases Nat.lt_or_ge k m.head.length with hlt | hge
    · rw [drop_cons m.head k .nil hlt, fieldsOk] at hq
      have hm : m.head.getD k .nil ∈ m.head := by simp [List.getD, hlt]
      have hs1 := (hs _ hm).1
      have hs2 := (hs _ hm).2
      have e0 : EqvD (mget (seenL (namesF m.head k)) (m.head.getD k .nil).name (.c (.bool false))) (.c (.bool ((namesF m.head k).contains (m.head.getD k .nil).name))) := eqvD_of (seenL_get _ _)
      cases hf : fOk (namesF m.head k) (m.head.getD k .nil) with
      | false =>
        rw [hf, Bool.false_and] at hq
        have hb : fieldedT m = false := by unfold fieldedT; rw [hq]; rfl
        rw [hb]
        have ht : (bif bif bif !(tokenT (m.head.getD k .nil).name) then true else !(foldT (m.head.getD k .nil).name == (m.head.getD k .nil).name) then true else (namesF m.head k).contains (m.head.getD k .nil).name then true else !((m.head.getD k .nil).value.all seenB)) = true := by unfold fOk at hf; rw [Bool.not_eq_false'] at hf; exact hf
        refine Wp.go (mx := true) (fun _ => mixed) [(7, {cs := [(2, pc (token_ok ((m.head.getD k FT.nil).name) (by omega))), (7, pc (fold_ok ((m.head.getD k FT.nil).name) (by assumption))), (21, pc (seen_ok ((m.head.getD k FT.nil).value) (by omega)))], fm := [(16, .c (.bool ((namesF m.head k).contains (m.head.getD k .nil).name)))]})] 100 [true, true] [decide ((↑k : Int) < (↑m.head.length : Int)) = true, (0 : Int) ≤ (↑k : Int) ∧ (↑k : Int) < (↑m.head.length : Int), EqvI (mget (seenL (namesF m.head k)) (m.head.getD k FT.nil).name (V1.c (Cell.bool false))) (V1.c (Cell.bool ((namesF m.head k).contains (m.head.getD k FT.nil).name))), (bif !tokenT (m.head.getD k FT.nil).name then true else !foldT (m.head.getD k FT.nil).name == (m.head.getD k FT.nil).name) = false → EqvD (mget (seenL (namesF m.head k)) (m.head.getD k FT.nil).name (V1.c (Cell.bool false))) (V1.c (Cell.bool ((namesF m.head k).contains (m.head.getD k FT.nil).name))), (bif bif bif !tokenT (m.head.getD k FT.nil).name then true else !foldT (m.head.getD k FT.nil).name == (m.head.getD k FT.nil).name then true else (namesF m.head k).contains (m.head.getD k FT.nil).name then true else !(m.head.getD k FT.nil).value.all seenB) = true] (by kernel_rfl) (by kernel_rfl) (by kernel_rfl) ⟨(by simp; omega), (by omega), fun _ _ => trivial, (by intro _; assumption), (show (bif bif bif !tokenT (m.head.getD k FT.nil).name then true else !foldT (m.head.getD k FT.nil).name == (m.head.getD k FT.nil).name then true else (namesF m.head k).contains (m.head.getD k FT.nil).name then true else !(m.head.getD k FT.nil).value.all seenB) = true from (by assumption))⟩ ?_
        refine Wp.ret' (by kernel_rfl) ?_
        exact FinQ.pure (rs' := [V1.c (Cell.bool false)]) (by kernel_rfl) rfl (by kernel_rfl)
      | true =>
        rw [hf, Bool.true_and, ← namesF_succ _ _ hlt] at hq
        have ht : (bif bif bif !(tokenT (m.head.getD k .nil).name) then true else !(foldT (m.head.getD k .nil).name == (m.head.getD k .nil).name) then true else (namesF m.head k).contains (m.head.getD k .nil).name then true else !((m.head.getD k .nil).value.all seenB)) = false := by unfold fOk at hf; rw [Bool.not_eq_true'] at hf; exact hf
        have hc : (namesF m.head k).contains (m.head.getD k .nil).name = false := by
          cases hc : (namesF m.head k).contains (m.head.getD k .nil).name with
          | false => rfl
          | true => rw [hc] at ht; revert ht; cases tokenT (m.head.getD k .nil).name <;> cases foldT (m.head.getD k .nil).name == (m.head.getD k .nil).name <;> (intro h; cases h)
        have e2 : BlkEqv (.ob (.ms (mset (seenL (namesF m.head k)) (m.head.getD k .nil).name (.c (.bool true))))) (.ob (.ms (seenL (namesF m.head (k + 1))))) := BlkEqv.of_eq (by rw [seenL_set _ _ hc, namesF_succ _ _ hlt])
        refine Wp.go (mx := true) (fun _ => mixed) [(7, {cs := [(2, pc (token_ok ((m.head.getD k FT.nil).name) (by omega))), (7, pc (fold_ok ((m.head.getD k FT.nil).name) (by assumption))), (21, pc (seen_ok ((m.head.getD k FT.nil).value) (by omega)))], fm := [(16, .c (.bool ((namesF m.head k).contains (m.head.getD k .nil).name)))]}), (9, {bs := [(3, .ob (.ms (seenL (namesF m.head (k + 1)))))]})] 100 [true, false] [decide ((↑k : Int) < (↑m.head.length : Int)) = true, (0 : Int) ≤ (↑k : Int) ∧ (↑k : Int) < (↑m.head.length : Int), EqvI (mget (seenL (namesF m.head k)) (m.head.getD k FT.nil).name (V1.c (Cell.bool false))) (V1.c (Cell.bool ((namesF m.head k).contains (m.head.getD k FT.nil).name))), (bif !tokenT (m.head.getD k FT.nil).name then true else !foldT (m.head.getD k FT.nil).name == (m.head.getD k FT.nil).name) = false → EqvD (mget (seenL (namesF m.head k)) (m.head.getD k FT.nil).name (V1.c (Cell.bool false))) (V1.c (Cell.bool ((namesF m.head k).contains (m.head.getD k FT.nil).name))), (bif bif bif !tokenT (m.head.getD k FT.nil).name then true else !foldT (m.head.getD k FT.nil).name == (m.head.getD k FT.nil).name then true else (namesF m.head k).contains (m.head.getD k FT.nil).name then true else !(m.head.getD k FT.nil).value.all seenB) = false, BlkEqv (Blk.ob (Ob.ms (mset (seenL (namesF m.head k)) (m.head.getD k FT.nil).name (V1.c (Cell.bool true))))) (Blk.ob (Ob.ms (seenL (namesF m.head (k + (1 : Nat)))))), inR IntKind.i64 ((↑k : Int) + (1 : Int))] (by kernel_rfl) (by kernel_rfl) (by kernel_rfl) ⟨(by simp; omega), (by omega), fun _ _ => trivial, (by intro _; assumption), (by assumption), (by assumption), inR64 (by omega) (by omega)⟩ ?_
        exact Wp.lpK (by kernel_rfl) (again _ (k + 1) (⟨(by assumption), (by assumption)⟩) (by omega) (Ent.of [] (by kernel_rfl) (by kernel_rfl) (by kernel_rfl) trivial))
    · obtain rfl : k = m.head.length := by omega
      rw [List.drop_length, fieldsOk] at hq
      have hb : fieldedT m = decide ((m.head.length : Int) ≤ 24) := by unfold fieldedT; rw [hq, hr]; rfl
      rw [hb]
      refine Wp.go (mx := true) (fun _ => mixed) [] 100 [false] [decide ((↑m.head.length : Int) < (↑m.head.length : Int)) = false] (by kernel_rfl) (by kernel_rfl) (by kernel_rfl) ((show decide ((↑m.head.length : Int) < (↑m.head.length : Int)) = false from (by simp; done))) ?_
      refine Wp.ret' (by kernel_rfl) ?_
      exact FinQ.pure (rs' := [V1.c (Cell.bool (decide ((↑m.head.length : Int) ≤ (24 : Int))))]) (by kernel_rfl) rfl (by kernel_rfl)
  | false =>
    have hb' : (!(m.body == [])) = true := by rw [hb]; rfl
    have hr : roomT m = 23 := by unfold roomT; rw [if_neg (by rw [hb]; decide)]
    refine Wp.go (mx := true) (fun _ => mixed) [] 100 [true] [(!m.body == []) = true, inR .i64 ((24 : Int) - (1 : Int))] (by kernel_rfl) (by kernel_rfl) (by kernel_rfl) ⟨hb', inR64 (by decide) (by decide)⟩ ?_
    refine Wp.loopK (by kernel_rfl) (fun (k : Nat) => ⟨[(1, TV.v (V1.c (Cell.ptr 0 0))), (3, TV.v (V1.c (Cell.int .i64 ((24 : Int) - (1 : Int))))), (4, TV.v (V1.c (Cell.map 32))), (15, TV.v (V1.c (encH m.head))), (16, TV.v (V1.c (Cell.int .i64 (m.head.length : Int)))), (17, TV.v (V1.c (Cell.int .i64 (k : Int))))], [(0, Blk.box 53 (encM m)), (32, Blk.ob (Ob.ms (seenL (namesF m.head k))))], 272⟩) (fun k => k ≤ m.head.length ∧ fieldsOk [[99, 111, 110, 116, 101, 110, 116, 45, 108, 101, 110, 103, 116, 104]] m.head = fieldsOk (namesF m.head k) (m.head.drop k)) (fun k => m.head.length - k) 0 (Ent.of [] (by kernel_rfl) (by kernel_rfl) (by kernel_rfl) trivial) ⟨Nat.zero_le _, rfl⟩ ?_
    intro k L ⟨hk, hq⟩ again
    rcases Nat.lt_or_ge k m.head.length with hlt | hge
    · rw [drop_cons m.head k .nil hlt, fieldsOk] at hq
      have hm : m.head.getD k .nil ∈ m.head := by simp [List.getD, hlt]
      have hs1 := (hs _ hm).1
      have hs2 := (hs _ hm).2
      have e0 : EqvD (mget (seenL (namesF m.head k)) (m.head.getD k .nil).name (.c (.bool false))) (.c (.bool ((namesF m.head k).contains (m.head.getD k .nil).name))) := eqvD_of (seenL_get _ _)
      cases hf : fOk (namesF m.head k) (m.head.getD k .nil) with
      | false =>
        rw [hf, Bool.false_and] at hq
        have hb : fieldedT m = false := by unfold fieldedT; rw [hq]; rfl
        rw [hb]
        have ht : (bif bif bif !(tokenT (m.head.getD k .nil).name) then true else !(foldT (m.head.getD k .nil).name == (m.head.getD k .nil).name) then true else (namesF m.head k).contains (m.head.getD k .nil).name then true else !((m.head.getD k .nil).value.all seenB)) = true := by unfold fOk at hf; rw [Bool.not_eq_false'] at hf; exact hf
        refine Wp.go (mx := true) (fun _ => mixed) [(7, {cs := [(2, pc (token_ok ((m.head.getD k FT.nil).name) (by omega))), (7, pc (fold_ok ((m.head.getD k FT.nil).name) (by assumption))), (21, pc (seen_ok ((m.head.getD k FT.nil).value) (by omega)))], fm := [(16, .c (.bool ((namesF m.head k).contains (m.head.getD k .nil).name)))]})] 100 [true, true] [decide ((↑k : Int) < (↑m.head.length : Int)) = true, (0 : Int) ≤ (↑k : Int) ∧ (↑k : Int) < (↑m.head.length : Int), EqvI (mget (seenL (namesF m.head k)) (m.head.getD k FT.nil).name (V1.c (Cell.bool false))) (V1.c (Cell.bool ((namesF m.head k).contains (m.head.getD k FT.nil).name))), (bif !tokenT (m.head.getD k FT.nil).name then true else !foldT (m.head.getD k FT.nil).name == (m.head.getD k FT.nil).name) = false → EqvD (mget (seenL (namesF m.head k)) (m.head.getD k FT.nil).name (V1.c (Cell.bool false))) (V1.c (Cell.bool ((namesF m.head k).contains (m.head.getD k FT.nil).name))), (bif bif bif !tokenT (m.head.getD k FT.nil).name then true else !foldT (m.head.getD k FT.nil).name == (m.head.getD k FT.nil).name then true else (namesF m.head k).contains (m.head.getD k FT.nil).name then true else !(m.head.getD k FT.nil).value.all seenB) = true] (by kernel_rfl) (by kernel_rfl) (by kernel_rfl) ⟨(by simp; omega), (by omega), fun _ _ => trivial, (by intro _; assumption), (show (bif bif bif !tokenT (m.head.getD k FT.nil).name then true else !foldT (m.head.getD k FT.nil).name == (m.head.getD k FT.nil).name then true else (namesF m.head k).contains (m.head.getD k FT.nil).name then true else !(m.head.getD k FT.nil).value.all seenB) = true from (by assumption))⟩ ?_
        refine Wp.ret' (by kernel_rfl) ?_
        exact FinQ.pure (rs' := [V1.c (Cell.bool false)]) (by kernel_rfl) rfl (by kernel_rfl)
      | true =>
        rw [hf, Bool.true_and, ← namesF_succ _ _ hlt] at hq
        have ht : (bif bif bif !(tokenT (m.head.getD k .nil).name) then true else !(foldT (m.head.getD k .nil).name == (m.head.getD k .nil).name) then true else (namesF m.head k).contains (m.head.getD k .nil).name then true else !((m.head.getD k .nil).value.all seenB)) = false := by unfold fOk at hf; rw [Bool.not_eq_true'] at hf; exact hf
        have hc : (namesF m.head k).contains (m.head.getD k .nil).name = false := by
          cases hc : (namesF m.head k).contains (m.head.getD k .nil).name with
          | false => rfl
          | true => rw [hc] at ht; revert ht; cases tokenT (m.head.getD k .nil).name <;> cases foldT (m.head.getD k .nil).name == (m.head.getD k .nil).name <;> (intro h; cases h)
        have e2 : BlkEqv (.ob (.ms (mset (seenL (namesF m.head k)) (m.head.getD k .nil).name (.c (.bool true))))) (.ob (.ms (seenL (namesF m.head (k + 1))))) := BlkEqv.of_eq (by rw [seenL_set _ _ hc, namesF_succ _ _ hlt])
        refine Wp.go (mx := true) (fun _ => mixed) [(7, {cs := [(2, pc (token_ok ((m.head.getD k FT.nil).name) (by omega))), (7, pc (fold_ok ((m.head.getD k FT.nil).name) (by assumption))), (21, pc (seen_ok ((m.head.getD k FT.nil).value) (by omega)))], fm := [(16, .c (.bool ((namesF m.head k).contains (m.head.getD k .nil).name)))]}), (9, {bs := [(3, .ob (.ms (seenL (namesF m.head (k + 1)))))]})] 100 [true, false] [decide ((↑k : Int) < (↑m.head.length : Int)) = true, (0 : Int) ≤ (↑k : Int) ∧ (↑k : Int) < (↑m.head.length : Int), EqvI (mget (seenL (namesF m.head k)) (m.head.getD k FT.nil).name (V1.c (Cell.bool false))) (V1.c (Cell.bool ((namesF m.head k).contains (m.head.getD k FT.nil).name))), (bif !tokenT (m.head.getD k FT.nil).name then true else !foldT (m.head.getD k FT.nil).name == (m.head.getD k FT.nil).name) = false → EqvD (mget (seenL (namesF m.head k)) (m.head.getD k FT.nil).name (V1.c (Cell.bool false))) (V1.c (Cell.bool ((namesF m.head k).contains (m.head.getD k FT.nil).name))), (bif bif bif !tokenT (m.head.getD k FT.nil).name then true else !foldT (m.head.getD k FT.nil).name == (m.head.getD k FT.nil).name then true else (namesF m.head k).contains (m.head.getD k FT.nil).name then true else !(m.head.getD k FT.nil).value.all seenB) = false, BlkEqv (Blk.ob (Ob.ms (mset (seenL (namesF m.head k)) (m.head.getD k FT.nil).name (V1.c (Cell.bool true))))) (Blk.ob (Ob.ms (seenL (namesF m.head (k + (1 : Nat)))))), inR IntKind.i64 ((↑k : Int) + (1 : Int))] (by kernel_rfl) (by kernel_rfl) (by kernel_rfl) ⟨(by simp; omega), (by omega), fun _ _ => trivial, (by intro _; assumption), (by assumption), (by assumption), inR64 (by omega) (by omega)⟩ ?_
        exact Wp.lpK (by kernel_rfl) (again _ (k + 1) (⟨(by assumption), (by assumption)⟩) (by omega) (Ent.of [] (by kernel_rfl) (by kernel_rfl) (by kernel_rfl) trivial))
    · obtain rfl : k = m.head.length := by omega
      rw [List.drop_length, fieldsOk] at hq
      have hb : fieldedT m = decide ((m.head.length : Int) ≤ 23) := by unfold fieldedT; rw [hq, hr]; rfl
      rw [hb]
      refine Wp.go (mx := true) (fun _ => mixed) [] 100 [false] [decide ((↑m.head.length : Int) < (↑m.head.length : Int)) = false] (by kernel_rfl) (by kernel_rfl) (by kernel_rfl) ((show decide ((↑m.head.length : Int) < (↑m.head.length : Int)) = false from (by simp; done))) ?_
      refine Wp.ret' (by kernel_rfl) ?_
      exact FinQ.pure (rs' := [V1.c (Cell.bool (decide ((↑m.head.length : Int) ≤ (24 : Int) - (1 : Int))))]) (by kernel_rfl) rfl (by kernel_rfl)
def fieldL (f : FT) : List UInt8 := f.name ++ [58, 32] ++ f.value ++ [13, 10]
def headN (m : MT) (k : Nat) : List UInt8 := m.first ++ [13, 10] ++ (m.head.take k).flatMap fieldL
def lenL (m : MT) : List UInt8 := if m.body == [] then [] else [99, 111, 110, 116, 101, 110, 116, 45, 108, 101, 110, 103, 116, 104, 58, 32] ++ Lib.itoa m.body.length ++ [13, 10]
/-- What stands ahead of a body. -/
def aheadT (m : MT) : List UInt8 := headN m m.head.length ++ lenL m ++ [13, 10]
theorem headN_succ (m : MT) (k : Nat) (h : k < m.head.length) : headN m (k + 1) = headN m k ++ fieldL (m.head.getD k .nil) := by
  unfold headN
  rw [List.take_succ_eq_append_getElem h, List.flatMap_append, List.getD_eq_getElem?_getD, List.getElem?_eq_getElem h]
  simp
theorem headN_le (m : MT) {k n : Nat} (h : k ≤ n) : (headN m k).length ≤ (headN m n).length := by
  obtain ⟨d, rfl⟩ := Nat.exists_eq_add_of_le h
  induction d with
  | zero => exact Nat.le_refl _
  | succ d ih =>
    refine Nat.le_trans (ih (by omega)) ?_
    rcases Nat.lt_or_ge (k + d) m.head.length with hlt | hge
    · rw [← Nat.add_assoc, headN_succ m _ hlt]; simp
    · unfold headN
      rw [List.take_of_length_le hge, List.take_of_length_le (by omega)]
      exact Nat.le_refl _
theorem field_len (f : FT) : (fieldL f).length = f.name.length + f.value.length + 4 := by
  unfold fieldL; simp; omega
theorem ahead_ok {G : Nat → Option (List Cell)} (hp : HasPow G) (m : MT) (hn : m.head.length < 4611686018427387904) (hb : m.body.length ≤ 140737488355328) (hA : (aheadT m).length ≤ 100000000000000) : Pur Tryd.prog G 39 [.agg (encM m)] [.c (.str (aheadT m))] := by
  refine Pur.of Tryd.func39 (by kernel_rfl) (by kernel_rfl) (by kernel_rfl) ?_
  have hA1 : (headN m m.head.length).length + (lenL m).length + 2 ≤ 100000000000000 := by
    unfold aheadT at hA; simp only [List.length_append] at hA; simpa using hA
  have h0 := headN_le m (Nat.zero_le m.head.length)
  have h0' : (headN m 0).length = m.first.length + 2 := by unfold headN; simp
  refine Wp.go (mx := true) (fun _ => mixed) [(2, {cs := [(3, cb [32] (ws_a (m.first ++ [(13 : UInt8), 10]) (by simp; omega)))]})] 100 [] [m.first.length + (2 : Nat) ≤ (9223372036854775807 : Nat)] (by kernel_rfl) (by kernel_rfl) (by kernel_rfl) ((show m.first.length + (2 : Nat) ≤ (9223372036854775807 : Nat) from (by omega))) ?_
  refine Wp.loopK (by kernel_rfl) (fun (x : Nat × Nat × List UInt8) => ⟨[(1, TV.v (V1.c (Cell.ptr 0 0))), (3, TV.v (V1.c (Cell.ptr 32 0))), (11, TV.v (V1.c (encH m.head))), (12, TV.v (V1.c (Cell.int .i64 (m.head.length : Int)))), (13, TV.v (V1.c (Cell.int .i64 (x.1 : Int))))], [(0, Blk.box 53 (encM m)), (32, Blk.box 78 [Cell.ptr 32 0, Cell.row 1 96 0 x.2.1]), (96, Blk.row 5 1 x.2.1 (bytesF x.2.2))], 176⟩) (fun x => x.1 ≤ m.head.length ∧ x.2.2 = headN m x.1 ∧ x.2.1 = x.2.2.length) (fun x => m.head.length - x.1) (0, 0 + (m.first ++ [13, 10]).length, m.first ++ [13, 10]) (Ent.of [] (by kernel_rfl) (by kernel_rfl) (by kernel_rfl) trivial) ⟨Nat.zero_le _, by unfold headN; simp, by simp⟩ ?_
  rintro ⟨k, n, l⟩ L ⟨hk, hq, hnl⟩ again
  simp only at hk hq hnl
  have h1 := headN_le m hk
  rw [← hq, ← hnl] at h1
  rcases Nat.lt_or_ge k m.head.length with hlt | hge
  · have h2 := headN_le m (show k + 1 ≤ m.head.length from hlt)
    rw [headN_succ m k hlt, List.length_append, field_len, ← hq, ← hnl] at h2
    have h3 : l ++ ((m.head.getD k .nil).name ++ [58, 32] ++ (m.head.getD k .nil).value ++ [13, 10]) = headN m (k + 1) := by rw [headN_succ m k hlt, ← hq]; rfl
    have h4 : n + ((m.head.getD k .nil).name ++ [58, 32] ++ (m.head.getD k .nil).value ++ [13, 10]).length = (l ++ ((m.head.getD k .nil).name ++ [58, 32] ++ (m.head.getD k .nil).value ++ [13, 10])).length := by rw [hnl]; exact List.length_append.symm
    refine Wp.go (mx := true) (fun _ => mixed) [(6, {cs := [(7, cb [32, 96] (ws_b n l (by assumption) ((m.head.getD k FT.nil).name ++ [(58 : UInt8), 32] ++ (m.head.getD k FT.nil).value ++ [(13 : UInt8), 10]) (by simp_all <;> omega)))]})] 100 [true] [decide ((↑k : Int) < (↑m.head.length : Int)) = true, (0 : Int) ≤ (↑k : Int) ∧ (↑k : Int) < (↑m.head.length : Int), (m.head.getD k FT.nil).name.length + (2 : Nat) ≤ (9223372036854775807 : Nat), ((m.head.getD k FT.nil).name ++ [(58 : UInt8), 32]).length + (m.head.getD k FT.nil).value.length ≤ (9223372036854775807 : Nat), ((m.head.getD k FT.nil).name ++ [(58 : UInt8), 32] ++ (m.head.getD k FT.nil).value).length + (2 : Nat) ≤ (9223372036854775807 : Nat), inR IntKind.i64 ((↑k : Int) + (1 : Int))] (by kernel_rfl) (by kernel_rfl) (by kernel_rfl) ⟨(by simp; omega), (by omega), (by omega), (by simp_all <;> omega), (by simp_all <;> omega), inR64 (by omega) (by omega)⟩ ?_
    exact Wp.lpK (by kernel_rfl) (again _ (k + 1, n + ((m.head.getD k .nil).name ++ [58, 32] ++ (m.head.getD k .nil).value ++ [13, 10]).length, l ++ ((m.head.getD k .nil).name ++ [58, 32] ++ (m.head.getD k .nil).value ++ [13, 10])) ⟨(by assumption), ⟨(by assumption), (by assumption)⟩⟩ (by omega) (Ent.of [(96, 368)] (by kernel_rfl) (by kernel_rfl) (by kernel_rfl) trivial))
  · obtain rfl : k = m.head.length := by omega
    have h5 : (headN m 0).length ≤ n := by rw [hnl, hq]; exact headN_le m (Nat.zero_le _)
    have hpos : 0 < n := by omega
    cases hbo : m.body == [] with
    | true =>
      have hb' : (!(m.body == [])) = false := by rw [hbo]; rfl
      have hT : aheadT m = l ++ [13, 10] := by unfold aheadT lenL; rw [hbo, if_pos rfl, hq]; simp
      rw [hT]
      have h6 : n + 2 ≤ 100000000000000 := by omega
      refine Wp.go (mx := true) (fun _ => mixed) [(10, {cs := [(0, cb [32, 96] (str_b n l (by assumption) (by assumption) (by omega)))]})] 100 [false, false] [decide ((↑m.head.length : Int) < (↑m.head.length : Int)) = false, (!m.body == []) = false, l.length + (2 : Nat) ≤ (9223372036854775807 : Nat)] (by kernel_rfl) (by kernel_rfl) (by kernel_rfl) ⟨(by simp; done), (by assumption), (show l.length + (2 : Nat) ≤ (9223372036854775807 : Nat) from (by omega))⟩ ?_
      refine Wp.ret' (by kernel_rfl) ?_
      exact FinQ.pure (rs' := [V1.c (Cell.str (l ++ [(13 : UInt8), 10]))]) (by kernel_rfl) rfl (by kernel_rfl)
    | false =>
      have hb' : (!(m.body == [])) = true := by rw [hbo]; rfl
      have hT : aheadT m = l ++ ([99, 111, 110, 116, 101, 110, 116, 45, 108, 101, 110, 103, 116, 104, 58, 32] ++ Lib.itoa (m.body.length : Int) ++ [13, 10]) ++ [13, 10] := by unfold aheadT lenL; rw [hbo, if_neg (by decide), hq]
      rw [hT]
      have h6 : n + (16 + ((Lib.itoa (m.body.length : Int)).length + 2)) + 2 ≤ 100000000000000 := by
        have : (lenL m).length = 16 + ((Lib.itoa (m.body.length : Int)).length + 2) := by unfold lenL; rw [hbo, if_neg (by decide)]; simp; omega
        omega
      refine Wp.go (mx := true) (fun _ => mixed) [(9, {cs := [(3, pc (itoa_p hp (↑m.body.length : Int) (by omega) (by omega))), (6, cb [32, 96] (ws_b n l (by assumption) ([(99 : UInt8), 111, 110, 116, 101, 110, 116, 45, 108, 101, 110, 103, 116, 104, 58, 32] ++ Lib.itoa (↑m.body.length : Int) ++ [(13 : UInt8), 10]) (by simp; omega)))]}), (10, {cs := [(0, cb [32, 336] (str_b (n + ([(99 : UInt8), 111, 110, 116, 101, 110, 116, 45, 108, 101, 110, 103, 116, 104, 58, 32] ++ Lib.itoa (↑m.body.length : Int) ++ [(13 : UInt8), 10]).length) (l ++ ([(99 : UInt8), 111, 110, 116, 101, 110, 116, 45, 108, 101, 110, 103, 116, 104, 58, 32] ++ Lib.itoa (↑m.body.length : Int) ++ [(13 : UInt8), 10])) (by simp; omega) (by omega) (by simp; omega)))]})] 100 [false, true] [decide ((↑m.head.length : Int) < (↑m.head.length : Int)) = false, (!m.body == []) = true, (16 : Nat) + (Lib.itoa (↑m.body.length : Int)).length ≤ (9223372036854775807 : Nat), ([(99 : UInt8), 111, 110, 116, 101, 110, 116, 45, 108, 101, 110, 103, 116, 104, 58, 32] ++ Lib.itoa (↑m.body.length : Int)).length + (2 : Nat) ≤ (9223372036854775807 : Nat), (l ++ ([(99 : UInt8), 111, 110, 116, 101, 110, 116, 45, 108, 101, 110, 103, 116, 104, 58, 32] ++ Lib.itoa (↑m.body.length : Int) ++ [(13 : UInt8), 10])).length + (2 : Nat) ≤ (9223372036854775807 : Nat)] (by kernel_rfl) (by kernel_rfl) (by kernel_rfl) ⟨(by simp; done), (by assumption), (by omega), (by simp; omega), (show (l ++ ([(99 : UInt8), 111, 110, 116, 101, 110, 116, 45, 108, 101, 110, 103, 116, 104, 58, 32] ++ Lib.itoa (↑m.body.length : Int) ++ [(13 : UInt8), 10])).length + (2 : Nat) ≤ (9223372036854775807 : Nat) from (by simp; omega))⟩ ?_
      refine Wp.ret' (by kernel_rfl) ?_
      exact FinQ.pure (rs' := [V1.c (Cell.str (l ++ ([(99 : UInt8), 111, 110, 116, 101, 110, 116, 45, 108, 101, 110, 103, 116, 104, 58, 32] ++ Lib.itoa (↑m.body.length : Int) ++ [(13 : UInt8), 10]) ++ [(13 : UInt8), 10]))]) (by kernel_rfl) rfl (by kernel_rfl)
end Go.Proofs.Tw
end

section
open Go Go.Sv
namespace Go.Proofs.Tw
attribute [local irreducible] Wp FinQ resV Ent Pur Go.Sv.Fn Sat0
set_option maxRecDepth 100000
set_option maxHeartbeats 4000000
variable {G : Nat → Option (List Cell)}

def mayM (m : MT) : Bool := bif bif fieldedT m then decide ((m.body.length : Int) ≤ 4096) else false then decide (((aheadT m).length : Int) ≤ 2048) else false
/-- What may be shown of a message whose bytes are not too many. -/
structure FitM (m : MT) : Prop where
  hn : m.head.length < 4611686018427387904
  hs : ∀ f ∈ m.head, f.name.length ≤ 140737488355328 ∧ f.value.length ≤ 140737488355328
  hb : m.body.length ≤ 140737488355328
  hA : (aheadT m).length ≤ 100000000000000
theorem fielded_f (m : MT) (h : FitM m) : Pur Tryd.prog G 40 [.agg (encM m)] [.c (.bool (fieldedT m))] := fielded_ok m h.hn h.hs
theorem ahead_f (hp : HasPow G) (m : MT) (h : FitM m) : Pur Tryd.prog G 39 [.agg (encM m)] [.c (.str (aheadT m))] := ahead_ok hp m h.hn h.hb h.hA
theorem mayM_ok (hp : HasPow G) (m : MT) (h : FitM m) : Pur Tryd.prog G 26 [.agg (encM m)] [.c (.bool (mayM m))] := by
  refine Pur.of Tryd.func26 (by kernel_rfl) (by kernel_rfl) (by kernel_rfl) ?_
  have c1 := fielded_f (G := G) m h
  have c2 := ahead_f hp m h
  refine Wp.go (mx := true) (fun _ => mixed) [(1, {cs := [(1, pc c1), (10, pc c2)]})] 100 [] [] (by kernel_rfl) (by kernel_rfl) (by kernel_rfl) trivial ?_
  refine Wp.ret' (by kernel_rfl) ?_
  exact FinQ.pure (rs' := [V1.c (Cell.bool (bif bif fieldedT m then decide ((↑m.body.length : Int) ≤ (4096 : Int)) else false then decide ((↑(aheadT m).length : Int) ≤ (2048 : Int)) else false))]) (by kernel_rfl) rfl (by kernel_rfl)
theorem printM_ok (hp : HasPow G) (m : MT) (h : FitM m) : Pur Tryd.prog G 25 [.agg (encM m)] [.c (.str (aheadT m ++ m.body))] := by
  refine Pur.of Tryd.func25 (by kernel_rfl) (by kernel_rfl) (by kernel_rfl) ?_
  have c2 := ahead_f hp m h
  have h1 := h.hA
  have h2 := h.hb
  refine Wp.go (mx := true) (fun _ => mixed) [(1, {cs := [(1, pc c2)]})] 100 [] [(aheadT m).length + m.body.length ≤ (9223372036854775807 : Nat)] (by kernel_rfl) (by kernel_rfl) (by kernel_rfl) (show (aheadT m).length + m.body.length ≤ (9223372036854775807 : Nat) from (by omega)) ?_
  refine Wp.ret' (by kernel_rfl) ?_
  exact FinQ.pure (rs' := [V1.c (Cell.str (aheadT m ++ m.body))]) (by kernel_rfl) rfl (by kernel_rfl)
def statedT (n : Int) : Bool := bif decide (n ≥ 100) then decide (n ≤ 599) else false
theorem stated_ok (n : Int) : Pur Tryd.prog G 21 [.c (.int .i64 n)] [.c (.bool (statedT n))] := by
  refine Pur.of Tryd.func21 (by kernel_rfl) (by kernel_rfl) (by kernel_rfl) ?_
  refine Wp.go (mx := true) (fun _ => mixed) [] 100 [] [] (by kernel_rfl) (by kernel_rfl) (by kernel_rfl) trivial ?_
  refine Wp.ret' (by kernel_rfl) ?_
  exact FinQ.pure (rs' := [V1.c (Cell.bool (bif decide (n ≥ (100 : Int)) then decide (n ≤ (599 : Int)) else false))]) (by kernel_rfl) rfl (by kernel_rfl)
def reasonT (n : Int) : List UInt8 := if n = 200 then [79, 75] else if n = 302 then [70, 111, 117, 110, 100] else if n = 400 then [66, 97, 100, 32, 82, 101, 113, 117, 101, 115, 116] else if n = 401 then [85, 110, 97, 117, 116, 104, 111, 114, 105, 122, 101, 100] else if n = 403 then [70, 111, 114, 98, 105, 100, 100, 101, 110] else if n = 404 then [78, 111, 116, 32, 70, 111, 117, 110, 100] else if n = 405 then [77, 101, 116, 104, 111, 100, 32, 78, 111, 116, 32, 65, 108, 108, 111, 119, 101, 100] else if n = 413 then [67, 111, 110, 116, 101, 110, 116, 32, 84, 111, 111, 32, 76, 97, 114, 103, 101] else if n = 503 then [83, 101, 114, 118, 105, 99, 101, 32, 85, 110, 97, 118, 97, 105, 108, 97, 98, 108, 101] else [79, 116, 104, 101, 114]
theorem reason_ok (n : Int) : Pur Tryd.prog G 42 [.c (.int .i64 n)] [.c (.str (reasonT n))] := by
  refine Pur.of Tryd.func42 (by kernel_rfl) (by kernel_rfl) (by kernel_rfl) ?_
  refine Wp.go (mx := true) (fun _ => mixed) [] 100 [] [] (by kernel_rfl) (by kernel_rfl) (by kernel_rfl) trivial ?_
  refine Wp.cond' (by kernel_rfl) (n == (200 : Int)) (by kernel_rfl) (fun h0 => ?_) (fun h0 => ?_)
  · have g0 := eq_of_beq h0
    refine Wp.go (mx := true) (fun _ => mixed) [] 100 [] [] (by kernel_rfl) (by kernel_rfl) (by kernel_rfl) trivial ?_
    refine Wp.ret' (by kernel_rfl) ?_
    exact FinQ.pure (rs' := [V1.c (Cell.str [(79 : UInt8), 75])]) (by kernel_rfl) (by simp [reasonT, *]; done) (by kernel_rfl)
  · have g0 := ne_of_beq_false h0
    refine Wp.go (mx := true) (fun _ => mixed) [] 100 [] [] (by kernel_rfl) (by kernel_rfl) (by kernel_rfl) trivial ?_
    refine Wp.cond' (by kernel_rfl) (n == (302 : Int)) (by kernel_rfl) (fun h1 => ?_) (fun h1 => ?_)
    · have g1 := eq_of_beq h1
      refine Wp.go (mx := true) (fun _ => mixed) [] 100 [] [] (by kernel_rfl) (by kernel_rfl) (by kernel_rfl) trivial ?_
      refine Wp.ret' (by kernel_rfl) ?_
      exact FinQ.pure (rs' := [V1.c (Cell.str [(70 : UInt8), 111, 117, 110, 100])]) (by kernel_rfl) (by simp [reasonT, *]; done) (by kernel_rfl)
    · have g1 := ne_of_beq_false h1
      refine Wp.go (mx := true) (fun _ => mixed) [] 100 [] [] (by kernel_rfl) (by kernel_rfl) (by kernel_rfl) trivial ?_
      refine Wp.cond' (by kernel_rfl) (n == (400 : Int)) (by kernel_rfl) (fun h2 => ?_) (fun h2 => ?_)
      · have g2 := eq_of_beq h2
        refine Wp.go (mx := true) (fun _ => mixed) [] 100 [] [] (by kernel_rfl) (by kernel_rfl) (by kernel_rfl) trivial ?_
        refine Wp.ret' (by kernel_rfl) ?_
        exact FinQ.pure (rs' := [V1.c (Cell.str [(66 : UInt8), 97, 100, 32, 82, 101, 113, 117, 101, 115, 116])]) (by kernel_rfl) (by simp [reasonT, *]; done) (by kernel_rfl)
      · have g2 := ne_of_beq_false h2
        refine Wp.go (mx := true) (fun _ => mixed) [] 100 [] [] (by kernel_rfl) (by kernel_rfl) (by kernel_rfl) trivial ?_
        refine Wp.cond' (by kernel_rfl) (n == (401 : Int)) (by kernel_rfl) (fun h3 => ?_) (fun h3 => ?_)
        · have g3 := eq_of_beq h3
          refine Wp.go (mx := true) (fun _ => mixed) [] 100 [] [] (by kernel_rfl) (by kernel_rfl) (by kernel_rfl) trivial ?_
          refine Wp.ret' (by kernel_rfl) ?_
          exact FinQ.pure (rs' := [V1.c (Cell.str [(85 : UInt8), 110, 97, 117, 116, 104, 111, 114, 105, 122, 101, 100])]) (by kernel_rfl) (by simp [reasonT, *]; done) (by kernel_rfl)
        · have g3 := ne_of_beq_false h3
          refine Wp.go (mx := true) (fun _ => mixed) [] 100 [] [] (by kernel_rfl) (by kernel_rfl) (by kernel_rfl) trivial ?_
          refine Wp.cond' (by kernel_rfl) (n == (403 : Int)) (by kernel_rfl) (fun h4 => ?_) (fun h4 => ?_)
          · have g4 := eq_of_beq h4
            refine Wp.go (mx := true) (fun _ => mixed) [] 100 [] [] (by kernel_rfl) (by kernel_rfl) (by kernel_rfl) trivial ?_
            refine Wp.ret' (by kernel_rfl) ?_
            exact FinQ.pure (rs' := [V1.c (Cell.str [(70 : UInt8), 111, 114, 98, 105, 100, 100, 101, 110])]) (by kernel_rfl) (by simp [reasonT, *]; done) (by kernel_rfl)
          · have g4 := ne_of_beq_false h4
            refine Wp.go (mx := true) (fun _ => mixed) [] 100 [] [] (by kernel_rfl) (by kernel_rfl) (by kernel_rfl) trivial ?_
            refine Wp.cond' (by kernel_rfl) (n == (404 : Int)) (by kernel_rfl) (fun h5 => ?_) (fun h5 => ?_)
            · have g5 := eq_of_beq h5
              refine Wp.go (mx := true) (fun _ => mixed) [] 100 [] [] (by kernel_rfl) (by kernel_rfl) (by kernel_rfl) trivial ?_
              refine Wp.ret' (by kernel_rfl) ?_
              exact FinQ.pure (rs' := [V1.c (Cell.str [(78 : UInt8), 111, 116, 32, 70, 111, 117, 110, 100])]) (by kernel_rfl) (by simp [reasonT, *]; done) (by kernel_rfl)
            · have g5 := ne_of_beq_false h5
              refine Wp.go (mx := true) (fun _ => mixed) [] 100 [] [] (by kernel_rfl) (by kernel_rfl) (by kernel_rfl) trivial ?_
              refine Wp.cond' (by kernel_rfl) (n == (405 : Int)) (by kernel_rfl) (fun h6 => ?_) (fun h6 => ?_)
              · have g6 := eq_of_beq h6
                refine Wp.go (mx := true) (fun _ => mixed) [] 100 [] [] (by kernel_rfl) (by kernel_rfl) (by kernel_rfl) trivial ?_
                refine Wp.ret' (by kernel_rfl) ?_
                exact FinQ.pure (rs' := [V1.c (Cell.str [(77 : UInt8), 101, 116, 104, 111, 100, 32, 78, 111, 116, 32, 65, 108, 108, 111, 119, 101, 100])]) (by kernel_rfl) (by simp [reasonT, *]; done) (by kernel_rfl)
              · have g6 := ne_of_beq_false h6
                refine Wp.go (mx := true) (fun _ => mixed) [] 100 [] [] (by kernel_rfl) (by kernel_rfl) (by kernel_rfl) trivial ?_
                refine Wp.cond' (by kernel_rfl) (n == (413 : Int)) (by kernel_rfl) (fun h7 => ?_) (fun h7 => ?_)
                · have g7 := eq_of_beq h7
                  refine Wp.go (mx := true) (fun _ => mixed) [] 100 [] [] (by kernel_rfl) (by kernel_rfl) (by kernel_rfl) trivial ?_
                  refine Wp.ret' (by kernel_rfl) ?_
                  exact FinQ.pure (rs' := [V1.c (Cell.str [(67 : UInt8), 111, 110, 116, 101, 110, 116, 32, 84, 111, 111, 32, 76, 97, 114, 103, 101])]) (by kernel_rfl) (by simp [reasonT, *]; done) (by kernel_rfl)
                · have g7 := ne_of_beq_false h7
                  refine Wp.go (mx := true) (fun _ => mixed) [] 100 [] [] (by kernel_rfl) (by kernel_rfl) (by kernel_rfl) trivial ?_
                  refine Wp.cond' (by kernel_rfl) (n == (503 : Int)) (by kernel_rfl) (fun h8 => ?_) (fun h8 => ?_)
                  · have g8 := eq_of_beq h8
                    refine Wp.go (mx := true) (fun _ => mixed) [] 100 [] [] (by kernel_rfl) (by kernel_rfl) (by kernel_rfl) trivial ?_
                    refine Wp.ret' (by kernel_rfl) ?_
                    exact FinQ.pure (rs' := [V1.c (Cell.str [(83 : UInt8), 101, 114, 118, 105, 99, 101, 32, 85, 110, 97, 118, 97, 105, 108, 97, 98, 108, 101])]) (by kernel_rfl) (by simp [reasonT, *]; done) (by kernel_rfl)
                  · have g8 := ne_of_beq_false h8
                    refine Wp.go (mx := true) (fun _ => mixed) [] 100 [] [] (by kernel_rfl) (by kernel_rfl) (by kernel_rfl) trivial ?_
                    refine Wp.ret' (by kernel_rfl) ?_
                    exact FinQ.pure (rs' := [V1.c (Cell.str [(79 : UInt8), 116, 104, 101, 114])]) (by kernel_rfl) (by simp [reasonT, *]; done) (by kernel_rfl)
theorem reason_len (n : Int) : (reasonT n).length ≤ 30 := by
  unfold reasonT
  repeat' split
  all_goals decide
def toldM (r : RT) : MT := ⟨[72, 84, 84, 80, 47, 49, 46, 49, 32] ++ Lib.itoa r.status ++ [32] ++ reasonT r.status, r.head, r.body⟩
theorem itoa_len (n : Int) (h0 : 0 ≤ n) (h1 : n ≤ 1000) : (Lib.itoa n).length ≤ 1001 := by
  obtain ⟨k, rfl⟩ := Int.eq_ofNat_of_zero_le h0
  exact Nat.le_trans (dec_len k) (by omega)
theorem told_ok (hp : HasPow G) (r : RT) (h0 : 0 ≤ r.status) (h1 : r.status ≤ 1000) : Pur Tryd.prog G 27 [.agg (encT r)] [.agg (encM (toldM r) ++ encT r)] := by
  refine Pur.of Tryd.func27 (by kernel_rfl) (by kernel_rfl) (by kernel_rfl) ?_
  have h3 := itoa_len r.status h0 h1
  have h4 := reason_len r.status
  refine Wp.go (mx := true) (fun _ => mixed) [(1, {cs := [(2, pc (itoa_p hp r.status (by omega) (by omega))), (7, pc (reason_ok (G := G) r.status))]})] 100 [] [(9 : Nat) + (Lib.itoa r.status).length ≤ (9223372036854775807 : Nat), ([(72 : UInt8), 84, 84, 80, 47, 49, 46, 49, 32] ++ Lib.itoa r.status).length + (1 : Nat) ≤ (9223372036854775807 : Nat), ([(72 : UInt8), 84, 84, 80, 47, 49, 46, 49, 32] ++ Lib.itoa r.status ++ [(32 : UInt8)]).length + (reasonT r.status).length ≤ (9223372036854775807 : Nat)] (by kernel_rfl) (by kernel_rfl) (by kernel_rfl) ⟨(by omega), (by simp; omega), (show ([(72 : UInt8), 84, 84, 80, 47, 49, 46, 49, 32] ++ Lib.itoa r.status ++ [(32 : UInt8)]).length + (reasonT r.status).length ≤ (9223372036854775807 : Nat) from (by simp; omega))⟩ ?_
  refine Wp.ret' (by kernel_rfl) ?_
  exact FinQ.pure (rs' := [V1.agg [Cell.str ([(72 : UInt8), 84, 84, 80, 47, 49, 46, 49, 32] ++ Lib.itoa r.status ++ [(32 : UInt8)] ++ reasonT r.status), Cell.sl (2 : Nat) r.head.length fun (i j : Nat) => nthD (encF (r.head.getD i FT.nil)) j, Cell.str r.body, Cell.int .i64 r.status, Cell.sl (2 : Nat) r.head.length fun (i j : Nat) => nthD (encF (r.head.getD i FT.nil)) j, Cell.str r.body]]) (by kernel_rfl) rfl (by kernel_rfl)
def mayTell (r : RT) : Bool := bif statedT r.status then mayM (toldM r) else false
theorem mayTell_ok (hp : HasPow G) (r : RT) (h0 : 0 ≤ r.status) (h1 : r.status ≤ 1000) (h : FitM (toldM r)) : Pur Tryd.prog G 11 [.agg (encT r)] [.c (.bool (mayTell r))] := by
  refine Pur.of Tryd.func11 (by kernel_rfl) (by kernel_rfl) (by kernel_rfl) ?_
  have c := mayM_ok hp (toldM r) h
  refine Wp.go (mx := true) (fun _ => mixed) [(1, {cs := [(2, pc (stated_ok (G := G) r.status)), (5, pc (told_ok hp r (by assumption) (by assumption))), (7, pc c)]})] 100 [] [] (by kernel_rfl) (by kernel_rfl) (by kernel_rfl) trivial ?_
  refine Wp.ret' (by kernel_rfl) ?_
  exact FinQ.pure (rs' := [V1.c (Cell.bool (bif statedT r.status then mayM (toldM r) else false))]) (by kernel_rfl) rfl (by kernel_rfl)
def printTell (r : RT) : List UInt8 := if mayTell r then aheadT (toldM r) ++ r.body else []
theorem printTell_ok (hp : HasPow G) (r : RT) (h0 : 0 ≤ r.status) (h1 : r.status ≤ 1000) (h : FitM (toldM r)) : Pur Tryd.prog G 12 [.agg (encT r)] [.c (.str (printTell r))] := by
  refine Pur.of Tryd.func12 (by kernel_rfl) (by kernel_rfl) (by kernel_rfl) ?_
  have c1 := mayTell_ok hp r h0 h1 h
  have c := printM_ok hp (toldM r) h
  refine Wp.go (mx := true) (fun _ => mixed) [(1, {cs := [(1, pc c1)]})] 100 [] [] (by kernel_rfl) (by kernel_rfl) (by kernel_rfl) trivial ?_
  refine Wp.cond' (by kernel_rfl) (!mayTell r) (by kernel_rfl) (fun h0 => ?_) (fun h0 => ?_)
  · have g0 := h0
    simp at g0
    refine Wp.go (mx := true) (fun _ => mixed) [] 100 [] [] (by kernel_rfl) (by kernel_rfl) (by kernel_rfl) trivial ?_
    refine Wp.ret' (by kernel_rfl) ?_
    exact FinQ.pure (rs' := [V1.c (Cell.str [])]) (by kernel_rfl) (by simp [printTell, *]; done) (by kernel_rfl)
  · have g0 := h0
    simp at g0
    refine Wp.go (mx := true) (fun _ => mixed) [(3, {cs := [(1, pc (told_ok hp r (by assumption) (by assumption))), (3, pc c)]})] 100 [] [] (by kernel_rfl) (by kernel_rfl) (by kernel_rfl) trivial ?_
    refine Wp.ret' (by kernel_rfl) ?_
    exact FinQ.pure (rs' := [V1.c (Cell.str (aheadT (toldM r) ++ (toldM r).body))]) (by kernel_rfl) (by rw [printTell, if_pos (show mayTell r = true from by simpa using h0)]; rfl) (by kernel_rfl)
end Go.Proofs.Tw
end

section
open Go Go.Sv
namespace Go.Proofs.Tw
attribute [local irreducible] Wp FinQ resV Ent Pur Go.Sv.Fn Sat0
set_option maxRecDepth 100000
set_option maxHeartbeats 4000000

def hexU : List UInt8 := [48, 49, 50, 51, 52, 53, 54, 55, 56, 57, 65, 66, 67, 68, 69, 70]
def pctB (form : Bool) (c : UInt8) : List UInt8 := if plainB c then [c] else if form && c == 32 then [43] else [37, hexU.getD (c.toNat / 16) 0, hexU.getD (c.toNat % 16) 0]
def pctT (form : Bool) (s : List UInt8) : List UInt8 := s.flatMap (pctB form)
end Go.Proofs.Tw
end

section
open Go Go.Sv
namespace Go.Proofs.Tw
attribute [local irreducible] Wp FinQ resV Ent Pur Go.Sv.Fn Sat0
set_option maxRecDepth 100000
set_option maxHeartbeats 4000000

theorem Pur.grow {P : Program} {G G' : Nat → Option (List Cell)} {f : FuncId} {args rs : List V1} (h : ∀ g cs, G g = some cs → G' g = some cs) (hp : Pur P G f args rs) : Pur P G' f args rs := by
  unfold Pur Go.Sv.Fn at hp ⊢
  intro D ρ w vs h1 h2 h3
  exact hp D ρ w vs h1 (fun g cs hg => h2 g cs (h g cs hg)) (fun g cs hg => h3 g cs (h g cs hg))
def hiI (c : UInt8) : Int := (c.toNat : Int).fdiv (2 ^ 4)
def loI (c : UInt8) : Int := Int.ofNat ((BitVec.ofInt IntKind.u8.bits (c.toNat : Int) &&& BitVec.ofInt IntKind.u8.bits 15).toNat % (2 ^ IntKind.u8.bits : Int).natAbs)
end Go.Proofs.Tw
end

section
open Go Go.Sv
namespace Go.Proofs.Tw
attribute [local irreducible] Wp FinQ resV Ent Pur Go.Sv.Fn Sat0
set_option maxRecDepth 100000
set_option maxHeartbeats 4000000

def fieldQ (f : FT) : List UInt8 := pctT true f.name ++ [61] ++ pctT true f.value
def printQ (l : List FT) : List UInt8 := Lib.join (l.map fieldQ) [38]
end Go.Proofs.Tw
end

section
open Go Go.Sv
namespace Go.Proofs.Tw
attribute [local irreducible] Wp FinQ resV Ent Pur Go.Sv.Fn Sat0
set_option maxRecDepth 100000
set_option maxHeartbeats 4000000
variable {G : Nat → Option (List Cell)}

def isIn (l : List (List UInt8)) (s : List UInt8) : Bool := l.any (· == s)
end Go.Proofs.Tw
end

section
open Go Go.Sv
namespace Go.Proofs.Tw
attribute [local irreducible] Wp FinQ resV Ent Pur Go.Sv.Fn Sat0
set_option maxRecDepth 100000
set_option maxHeartbeats 4000000

def namesQ (l : List FT) (k : Nat) : List (List UInt8) := (l.take k).map (·.name)
def okQ (l : List FT) (i : Nat) : Bool := !((l.getD i .nil).name == []) && !isIn (namesQ l i) (l.getD i .nil).name
def unlikeQ (l : List FT) : Bool := (List.range l.length).all (okQ l)
structure FitU (u : UT) : Prop where
  hh : u.host.length ≤ 1000000000
  hp : u.path.length ≤ 1000000000
  hn : u.query.length < 1000000000
  hj : (printQ u.query).length ≤ 10000000000
theorem fGet_isIn (l : List FT) (k : Nat) (s : List UInt8) : (fGet (l.take k) s).isSome = isIn (namesQ l k) s := by
  unfold fGet isIn namesQ
  rw [Option.isSome_map, List.any_map, Bool.eq_iff_iff, List.find?_isSome]
  simp
end Go.Proofs.Tw
end

section
open Go Go.Sv
namespace Go.Proofs.Tw
attribute [local irreducible] Wp FinQ resV Ent Pur Go.Sv.Fn Sat0
set_option maxRecDepth 100000
set_option maxHeartbeats 4000000
variable {G : Nat → Option (List Cell)}

theorem CEqs.at {l l' : List Cell} (h : CEqs l l') : ∀ (j : Nat) (y : Cell), l'[j]? = some y → ∃ x, l[j]? = some x ∧ CEq x y := by
  induction h with
  | nil => intro j y hj; simp at hj
  | cons h1 h2 ih =>
    intro j y hj
    cases j with
    | zero => simp at hj; subst hj; exact ⟨_, by simp, h1⟩
    | succ j => simp at hj; obtain ⟨x, hx, hc⟩ := ih j y hj; exact ⟨x, by simpa using hx, hc⟩
theorem BlkEqv.boxOf {e : TypeId} {cs cs' : List Cell} (h : CEqs cs cs') (hf : flats cs' = true) : BlkEqv (.box e cs) (.box e cs') := by
  refine ⟨fun D ρ id w hs => ?_, fun S _ => flats_inS hf S⟩
  obtain ⟨h0, vs, fz, h1, h2, h3, h4⟩ := hs
  refine ⟨h0, vs, fz, h1, by rw [h2, h.len], h3, fun j y hj => ?_⟩
  obtain ⟨x, hx, hc⟩ := h.at j y hj
  obtain ⟨u, hu, hd⟩ := h4 j x hx
  exact ⟨u, hu, hc _ _ _ hd⟩

structure QT where
  (method target : List UInt8) (head : List FT) (body : List UInt8)
def QT.nil : QT := ⟨[], [], [], []⟩
def encQ (r : QT) : List Cell := [.str r.method, .str r.target, encH r.head, .str r.body]
def clN : List UInt8 := [99, 111, 110, 116, 101, 110, 116, 45, 108, 101, 110, 103, 116, 104]
def notCl (f : FT) : Bool := !(f.name == clN)
def tgB (c : UInt8) : Bool := 33 ≤ c && c ≤ 126
def methT (s : List UInt8) : Bool := s.all greatB && (decide (1 ≤ s.length) && decide (s.length ≤ 16))
def targT (s : List UInt8) : Bool := s.all tgB && (decide (1 ≤ s.length) && decide (s.length ≤ 1024))
def linedT (m t : List UInt8) : Bool := methT m && targT t
/-- The lines of a head, what stands behind, or why not. -/
def hdC (s : List UInt8) : List UInt8 × List UInt8 × Bool := Lib.cut s [13, 10, 13, 10]
def bigH (s : List UInt8) : Bool := bif (hdC s).2.2 then decide (((hdC s).1.length : Int) + 4 > 2048) else decide ((s.length : Int) > 2048)
def linesH (s : List UInt8) : List (List UInt8) := Lib.split (hdC s).1 [13, 10]
def splitH (s : List UInt8) : Int := if bigH s then 4 else if (hdC s).2.2 = false then 3 else if (linesH s).length > 25 then 4 else 0
/-- A line as a field. -/
def lineF (p : List UInt8) : FT := ⟨foldT (Lib.cut p [58, 32]).1, (Lib.cut p [58, 32]).2.1⟩
def okL (p : List UInt8) : Bool := (Lib.cut p [58, 32]).2.2 && (tokenT (Lib.cut p [58, 32]).1 && (Lib.cut p [58, 32]).2.1.all seenB)
def okA (acc : List FT) (p : List UInt8) : Bool := okL p && !(fGet acc (lineF p).name).isSome
def fieldsA : List (List UInt8) → List FT → List FT
  | [], acc => acc
  | p :: r, acc => if okA acc p then fieldsA r (acc ++ [lineF p]) else acc
def fieldsO : List (List UInt8) → List FT → Bool
  | [], _ => true
  | p :: r, acc => if okA acc p then fieldsO r (acc ++ [lineF p]) else false
def fieldsL (s : List UInt8) : List (List UInt8) := (linesH s).drop 1
def firstH (s : List UInt8) : List UInt8 := (linesH s).getD 0 []
/-- What content-length says of what stands behind. -/
def szE (z : List UInt8) (d : Bool) (b : List UInt8) : Int := if d then (if numK 9 z = false then 3 else if nv z > 4096 then 4 else if nv z = b.length then 0 else 3) else if b = [] then 0 else 3
def bodyE (l : List FT) (b : List UInt8) : Int := szE ((fGet l clN).getD []) (fGet l clN).isSome b
/-- A request's first line, a response's. -/
def askM (s : List UInt8) : List UInt8 := (Lib.cut s [32]).1
def askT (s : List UInt8) : List UInt8 := Lib.trimSuffix (Lib.cut s [32]).2.1 [32, 72, 84, 84, 80, 47, 49, 46, 49]
def askB (s : List UInt8) : Bool := Lib.hasSuffix (Lib.cut s [32]).2.1 [32, 72, 84, 84, 80, 47, 49, 46, 49] && linedT (askM s) (askT s)
def verS : List UInt8 := [72, 84, 84, 80, 47, 49, 46, 49, 32]
def tellC (s : List UInt8) : List UInt8 × List UInt8 × Bool := Lib.cut (Lib.trimPrefix s verS) [32]
def tellN (s : List UInt8) : Int := if numK 3 (tellC s).1 then ((nv (tellC s).1 : Nat) : Int) else 0
def tellB (s : List UInt8) : Bool := Lib.hasPrefix s verS && ((tellC s).2.2 && (numK 3 (tellC s).1 && (statedT (tellN s) && (tellC s).2.1.all seenB)))
/-- Fields and body of a text whose first line is of a kind; or why none. -/
def readH (line : List UInt8 → Bool) (s : List UInt8) : List FT × Int :=
  if splitH s ≠ 0 then ([], splitH s) else if line (firstH s) = false then ([], 3) else if fieldsO (fieldsL s) [] = false then ([], 3) else
    if bodyE (fieldsA (fieldsL s) []) (hdC s).2.1 = 0 then ((fieldsA (fieldsL s) []).filter notCl, 0) else ([], bodyE (fieldsA (fieldsL s) []) (hdC s).2.1)
def parseQ (s : List UInt8) : QT × Int := if (readH askB s).2 = 0 then (⟨askM (firstH s), askT (firstH s), (readH askB s).1, (hdC s).2.1⟩, 0) else (.nil, (readH askB s).2)
def nilR : RT := ⟨0, [], []⟩
def parseR (s : List UInt8) : RT × Int := if (readH tellB s).2 = 0 then (⟨tellN (firstH s), (readH tellB s).1, (hdC s).2.1⟩, 0) else (nilR, (readH tellB s).2)

theorem splitK_nil (sep : List UInt8) (k : Nat) (s : List UInt8) : Lib.splitK sep 0 k s ≠ [] := by
  cases k with
  | zero => simp [Lib.splitK]
  | succ k => unfold Lib.splitK; split <;> simp
end Go.Proofs.Tw
end

section
open Go Go.Sv Go.RowKit
namespace Go.Proofs.Tw
attribute [local irreducible] Wp FinQ resV Ent Pur Go.Sv.Fn Sat0
set_option maxRecDepth 100000
set_option maxHeartbeats 4000000
variable {G : Nat → Option (List Cell)}

theorem lib_CutPrefix (s p : List UInt8) : Pur Tryd.prog G 19 [.c (.str s), .c (.str p)] [.c (.str (Lib.trimPrefix s p)), .c (.bool (Lib.hasPrefix s p))] := by
  refine Pur.of_below rfl ?_
  intro D ρ w vs h1 _ _ _
  obtain ⟨u, v, rfl, hu, hv⟩ := h1.two
  have hu : u = .string ⟨s.toArray⟩ := hu
  have hv : v = .string ⟨p.toArray⟩ := hv
  subst hu hv
  refine (Go.Proofs.Tryd.strings_CutPrefix ⟨s.toArray⟩ ⟨p.toArray⟩ w).mono ?_
  rintro e w' ⟨rfl, rfl⟩
  refine ⟨_, rfl, ⟨_, rfl, rfl, fun j x hj => ?_⟩, Below.refl _ _⟩
  match j, hj with
  | 0, hj => simp at hj; subst hj; exact ⟨_, rfl, rfl⟩
  | 1, hj => simp at hj; subst hj; exact ⟨_, rfl, rfl⟩
  | j + 2, hj => simp at hj
theorem inTarget_ok (c : UInt8) : Pur Tryd.prog G 35 [.c (.int .u8 (c.toNat : Int))] [.c (.bool (tgB c))] := by
  refine Pur.of Tryd.func35 (by kernel_rfl) (by kernel_rfl) (by kernel_rfl) ?_
  refine Wp.go (mx := true) (fun _ => mixed) [] 100 [] [] (by kernel_rfl) (by kernel_rfl) (by kernel_rfl) trivial ?_
  refine Wp.ret' (by kernel_rfl) ?_
  exact FinQ.pure (rs' := [V1.c (Cell.bool (bif decide ((↑c.toNat : Int) ≥ (33 : Int)) then decide ((↑c.toNat : Int) ≤ (126 : Int)) else false))]) (by kernel_rfl) (by revert c; refine by_all _ _ ?_; kernel_rfl) (by kernel_rfl)
theorem All_target (s : List UInt8) (hl : s.length < 4611686018427387904) : Pur Tryd.prog G 33 [.c (.str s), .c (.clo 35 0 (fun _ => none) (fun _ _ => .nilif))] [.c (.bool (s.all tgB))] := by
  refine Pur.of Tryd.func33 (by kernel_rfl) (by kernel_rfl) (by kernel_rfl) ?_
  refine Wp.go (mx := true) (fun _ => mixed) [] 100 [] [] (by kernel_rfl) (by kernel_rfl) (by kernel_rfl) trivial ?_
  refine Wp.loopK (by kernel_rfl) (fun (k : Nat) => ⟨[(0, TV.v (V1.c (Cell.str s))), (1, TV.v (V1.c (Cell.clo 35 (0 : Nat) (fun _ => none) fun _ _ => Cell.nilif))), (7, TV.v (V1.c (Cell.int .i64 (↑s.length : Int)))), (8, TV.v (V1.c (Cell.int .i64 (k : Int))))], [], 32⟩) (fun k => k ≤ s.length ∧ s.all tgB = (s.drop k).all tgB) (fun k => s.length - k) 0 (Ent.of [] (by kernel_rfl) (by kernel_rfl) (by kernel_rfl) trivial) ⟨Nat.zero_le _, rfl⟩ ?_
  intro k L ⟨hk, hq⟩ again
  rcases Nat.lt_or_ge k s.length with hlt | hge
  · rw [dropS s k hlt, List.all_cons] at hq
    refine Wp.go (mx := true) (fun _ => mixed) [(4, {cs := [(4, pc (inTarget_ok (s.getD k (0 : UInt8))))]})] 100 [true] [decide ((↑k : Int) < (↑s.length : Int)) = true, (0 : Int) ≤ (↑k : Int) ∧ (↑k : Int) < (↑s.length : Int)] (by kernel_rfl) (by kernel_rfl) (by kernel_rfl) ⟨(by simp; omega), (show (0 : Int) ≤ (↑k : Int) ∧ (↑k : Int) < (↑s.length : Int) from (by omega))⟩ ?_
    refine Wp.cond' (by kernel_rfl) (!tgB (s.getD k (0 : UInt8))) (by kernel_rfl) (fun h0 => ?_) (fun h0 => ?_)
    · have g0 := h0
      simp at g0
      refine Wp.go (mx := true) (fun _ => mixed) [] 100 [] [] (by kernel_rfl) (by kernel_rfl) (by kernel_rfl) trivial ?_
      refine Wp.ret' (by kernel_rfl) ?_
      exact FinQ.pure (rs' := [V1.c (Cell.bool false)]) (by kernel_rfl) (by simp_all; done) (by kernel_rfl)
    · have g0 := h0
      simp at g0
      refine Wp.go (mx := true) (fun _ => mixed) [] 100 [] [inR IntKind.i64 ((↑k : Int) + (1 : Int))] (by kernel_rfl) (by kernel_rfl) (by kernel_rfl) (inR64 (by omega) (by omega)) ?_
      exact Wp.lpK (by kernel_rfl) (again _ (k + 1) (⟨(by assumption), (by simp_all <;> omega)⟩) (by omega) (Ent.of [] (by kernel_rfl) (by kernel_rfl) (by kernel_rfl) trivial))
  · obtain rfl : k = s.length := by omega
    rw [List.drop_length] at hq
    refine Wp.go (mx := true) (fun _ => mixed) [] 100 [false] [decide ((↑s.length : Int) < (↑s.length : Int)) = false] (by kernel_rfl) (by kernel_rfl) (by kernel_rfl) ((show decide ((↑s.length : Int) < (↑s.length : Int)) = false from (by simp; done))) ?_
    refine Wp.ret' (by kernel_rfl) ?_
    exact FinQ.pure (rs' := [V1.c (Cell.bool true)]) (by kernel_rfl) (by rw [hq]; rfl) (by kernel_rfl)
theorem lined_b (m t : List UInt8) : (bif bif bif bif bif !(m == []) then decide ((m.length : Int) ≤ 16) else false then m.all greatB else false then !(t == []) else false then decide ((t.length : Int) ≤ 1024) else false then t.all tgB else false) = linedT m t := by
  unfold linedT methT targT
  have h1 : ∀ s : List UInt8, (!(s == [])) = decide (1 ≤ s.length) := fun s => by cases s <;> simp
  rw [h1, h1, show decide ((m.length : Int) ≤ 16) = decide (m.length ≤ 16) from decide_eq_decide.2 (by omega), show decide ((t.length : Int) ≤ 1024) = decide (t.length ≤ 1024) from decide_eq_decide.2 (by omega)]
  cases decide (1 ≤ m.length) <;> cases decide (m.length ≤ 16) <;> cases m.all greatB <;> cases decide (1 ≤ t.length) <;> cases decide (t.length ≤ 1024) <;> cases t.all tgB <;> rfl
theorem lined_ok (m t : List UInt8) (h1 : m.length < 4611686018427387904) (h2 : t.length < 4611686018427387904) : Pur Tryd.prog G 17 [.c (.str m), .c (.str t)] [.c (.bool (linedT m t))] := by
  refine Pur.of Tryd.func17 (by kernel_rfl) (by kernel_rfl) (by kernel_rfl) ?_
  rw [← lined_b]
  have c1 := All_great (G := G) m h1
  have c2 := All_target (G := G) t h2
  refine Wp.go (mx := true) (fun _ => mixed) [(1, {cs := [(9, pc c1), (22, pc c2)]})] 100 [] [] (by kernel_rfl) (by kernel_rfl) (by kernel_rfl) trivial ?_
  refine Wp.ret' (by kernel_rfl) ?_
  exact FinQ.pure (rs' := [V1.c (Cell.bool (bif bif bif bif bif !m == [] then decide ((↑m.length : Int) ≤ (16 : Int)) else false then m.all greatB else false then !t == [] else false then decide ((↑t.length : Int) ≤ (1024 : Int)) else false then t.all tgB else false))]) (by kernel_rfl) rfl (by kernel_rfl)
theorem askL_ok (hL : HasLen G) (s m t : List UInt8) (hl : s.length < 1000000000) : FnB Tryd.prog G 14 [.box 26 [.str m, .str t, .nilsl, .str []]] [.c (.str s), .c (.ptr 0 0)] [.c (.bool (askB s))] [(0, .box 26 [.str (askM s), .str (askT s), .nilsl, .str []])] := by
  refine Fn.of' Tryd.func14 (by kernel_rfl) (by kernel_rfl) (by kernel_rfl) (by kernel_rfl) trivial ?_
  obtain ⟨mx, hG⟩ := hL
  have c1 := lib_Cut hG s [32] (by omega)
  have hc := cut_len s [32]
  have c2 := lib_CutSuffix (G := G) (Lib.cut s [32]).2.1 [32, 72, 84, 84, 80, 47, 49, 46, 49] (by omega)
  have ht : (Lib.trimSuffix (Lib.cut s [32]).2.1 [32, 72, 84, 84, 80, 47, 49, 46, 49]).length ≤ s.length := by
    unfold Lib.trimSuffix
    split
    · rw [List.length_take]; omega
    · omega
  have c3 := lined_ok (G := G) (askM s) (askT s) (by unfold askM; omega) (by unfold askT; omega)
  unfold askB
  have e : (Lib.hasSuffix (Lib.cut s [32]).2.1 [32, 72, 84, 84, 80, 47, 49, 46, 49] && linedT (askM s) (askT s)) = (bif Lib.hasSuffix (Lib.cut s [32]).2.1 [32, 72, 84, 84, 80, 47, 49, 46, 49] then linedT (askM s) (askT s) else false) := by cases Lib.hasSuffix (Lib.cut s [32]).2.1 [32, 72, 84, 84, 80, 47, 49, 46, 49] <;> rfl
  rw [e]
  unfold askM askT at c3 ⊢
  refine Wp.go (mx := true) (fun _ => mixed) [(1, {cs := [(1, pc c1)]}), (2, {cs := [(1, pc c2)]}), (4, {cs := [(4, pc c3)]})] 100 [] [] (by kernel_rfl) (by kernel_rfl) (by kernel_rfl) trivial ?_
  refine Wp.ret' (by kernel_rfl) ?_
  exact FinQ.blk [] (by kernel_rfl) (by kernel_rfl) (by kernel_rfl) (by kernel_rfl) (by kernel_rfl) trivial
theorem tellL_ok (hL : HasLen G) (s : List UInt8) (n : Int) (hl : s.length < 1000000000) : FnB Tryd.prog G 18 [.box 33 [.int .i64 n, .nilsl, .str []]] [.c (.str s), .c (.ptr 0 0)] [.c (.bool (tellB s))] [(0, .box 33 [.int .i64 (tellN s), .nilsl, .str []])] := by
  refine Fn.of' Tryd.func18 (by kernel_rfl) (by kernel_rfl) (by kernel_rfl) (by kernel_rfl) trivial ?_
  obtain ⟨mx, hG⟩ := hL
  have c1 := lib_CutPrefix (G := G) s verS
  have hp : (Lib.trimPrefix s verS).length ≤ s.length := by
    unfold Lib.trimPrefix
    split
    · rw [List.length_drop]; omega
    · omega
  have c2 : Pur Tryd.prog G 15 [.c (.str (Lib.trimPrefix s verS)), .c (.str [32])] [.c (.str (tellC s).1), .c (.str (tellC s).2.1), .c (.bool (tellC s).2.2)] := lib_Cut hG _ [32] (by omega)
  have hc := cut_len (Lib.trimPrefix s verS) [32]
  have hc1 : (tellC s).1.length < 1000000000 := by unfold tellC; omega
  have hc2 : (tellC s).2.1.length < 1000000000 := by unfold tellC; omega
  have c3 : Pur Tryd.prog G 20 [.c (.str (tellC s).1), .c (.int .i64 3)] [.c (.int .i64 (tellN s)), .c (.bool (numK 3 (tellC s).1))] := by
    unfold tellN
    cases hk : numK 3 (tellC s).1 with
    | true => rw [if_pos rfl]; exact numK_yes (K := 3) (by decide) _ hk
    | false => rw [if_neg (by decide)]; exact numK_no (K := 3) _ hc1 hk
  have c4 := stated_ok (G := G) (tellN s)
  have c5 := seen_ok (G := G) (tellC s).2.1 (by omega)
  have e : tellB s = (bif bif bif bif Lib.hasPrefix s verS then (tellC s).2.2 else false then numK 3 (tellC s).1 else false then statedT (tellN s) else false then (tellC s).2.1.all seenB else false) := by
    unfold tellB
    cases Lib.hasPrefix s verS <;> cases (tellC s).2.2 <;> cases numK 3 (tellC s).1 <;> cases statedT (tellN s) <;> rfl
  rw [e]
  generalize tellN s = N at c3 c4 ⊢
  generalize tellC s = C at c2 c3 c5 ⊢
  refine Wp.go (mx := true) (fun _ => mixed) [(1, {cs := [(1, pc c1)]}), (2, {cs := [(1, pc c2)]}), (3, {cs := [(1, pc c3)]}), (5, {cs := [(9, pc c4), (13, pc c5)]})] 100 [] [] (by kernel_rfl) (by kernel_rfl) (by kernel_rfl) trivial ?_
  refine Wp.ret' (by kernel_rfl) ?_
  exact FinQ.blk [] (by kernel_rfl) (by kernel_rfl) (by kernel_rfl) (by kernel_rfl) (by kernel_rfl) trivial
end Go.Proofs.Tw
end

section
open Go Go.Sv
namespace Go.Proofs.Tw
attribute [local irreducible] Wp FinQ resV Ent Pur Go.Sv.Fn Sat0
set_option maxRecDepth 100000
set_option maxHeartbeats 4000000
variable {G : Nat → Option (List Cell)}

def rdB (f : List UInt8) (h : Cell) (b : List UInt8) (l : Cell) (z : List UInt8) (d : Bool) : Blk := .box 56 [.str f, h, .str b, l, .str z, .bool d]
def rdZ : Blk := rdB [] .nilsl [] .nilsl [] false
def encL (l : List (List UInt8)) : Cell := .sl 1 l.length (strsF l)
theorem rdz_eqv (b : List UInt8) (l : List (List UInt8)) (f : List UInt8) : BlkEqv (rdB f .nilsl b (encL l) [] false) (rdB f (encH []) b (encL l) [] false) :=
  BlkEqv.boxOf (.cons CEq.rfl' (.cons CEq.nil (.cons CEq.rfl' (.cons CEq.rfl' (.cons CEq.rfl' (.cons CEq.rfl' .nil)))))) (by kernel_rfl)
theorem rdz_eqv0 : BlkEqv rdZ (rdB [] (encH []) [] (encL []) [] false) :=
  BlkEqv.boxOf (.cons CEq.rfl' (.cons CEq.nil (.cons CEq.rfl' (.cons CEq.nil (.cons CEq.rfl' (.cons CEq.rfl' .nil)))))) (by kernel_rfl)
theorem rcut_big (hL : HasLen G) (s : List UInt8) (hl : s.length < 1000000000) (h : bigH s = true) : FnB Tryd.prog G 28 [rdZ] [.c (.ptr 0 0), .c (.str s)] [.c (.int .i64 4)] [(0, rdB [] (encH []) [] (encL []) [] false)] := by
  refine Fn.of' Tryd.func28 (by kernel_rfl) (by kernel_rfl) (by kernel_rfl) (by kernel_rfl) trivial ?_
  obtain ⟨mx, hG⟩ := hL
  have c1 : Pur Tryd.prog G 15 [.c (.str s), .c (.str [13, 10, 13, 10])] [.c (.str (hdC s).1), .c (.str (hdC s).2.1), .c (.bool (hdC s).2.2)] := lib_Cut hG s [13, 10, 13, 10] (by omega)
  have hc : (hdC s).1.length ≤ s.length := (cut_len s [13, 10, 13, 10]).1
  unfold bigH at h
  generalize hdC s = C at c1 h hc
  cases hi : C.2.2 with
  | true =>
    rw [hi] at c1 h
    have ht : (bif true then decide ((C.1.length : Int) + 4 > 2048) else false) = true := h
    have hr : true = true → inR IntKind.i64 ((C.1.length : Int) + 4) := fun _ => inR64 (by omega) (by omega)
    refine Wp.go (mx := true) (fun _ => mixed) [(1, {cs := [(1, pc c1)]})] 100 [true, true] [true = true → inR IntKind.i64 ((↑C.1.length : Int) + (4 : Int)), (bif true then decide ((↑C.1.length : Int) + (4 : Int) > (2048 : Int)) else false) = true, (bif true then decide ((↑C.1.length : Int) + (4 : Int) > (2048 : Int)) else false) = true] (by kernel_rfl) (by kernel_rfl) (by kernel_rfl) ⟨(by assumption), (by assumption), (show (bif true then decide ((↑C.1.length : Int) + (4 : Int) > (2048 : Int)) else false) = true from (by assumption))⟩ ?_
    refine Wp.ent' (by kernel_rfl) (Ent.blkE (id := 0) (b := rdZ) (b' := rdB [] (encH []) [] (encL []) [] false) (by kernel_rfl) rdz_eqv0 rfl) ?_
    refine Wp.ret' (by kernel_rfl) ?_
    exact FinQ.blk [] (by kernel_rfl) (by kernel_rfl) (by kernel_rfl) (by kernel_rfl) (by kernel_rfl) trivial
  | false =>
    rw [hi] at c1 h
    have ht : (bif !false then decide ((s.length : Int) > 2048) else false) = true := h
    refine Wp.go (mx := true) (fun _ => mixed) [(1, {cs := [(1, pc c1)]})] 100 [false, true] [false = true → inR IntKind.i64 ((↑C.1.length : Int) + (4 : Int)), (bif false then decide ((↑C.1.length : Int) + (4 : Int) > (2048 : Int)) else false) = false, (bif !false then decide ((↑s.length : Int) > (2048 : Int)) else false) = true] (by kernel_rfl) (by kernel_rfl) (by kernel_rfl) ⟨(by simp; done), rfl, (show (bif !false then decide ((↑s.length : Int) > (2048 : Int)) else false) = true from (by assumption))⟩ ?_
    refine Wp.ent' (by kernel_rfl) (Ent.blkE (id := 0) (b := rdZ) (b' := rdB [] (encH []) [] (encL []) [] false) (by kernel_rfl) rdz_eqv0 rfl) ?_
    refine Wp.ret' (by kernel_rfl) ?_
    exact FinQ.blk [] (by kernel_rfl) (by kernel_rfl) (by kernel_rfl) (by kernel_rfl) (by kernel_rfl) trivial
theorem rcut_form (hL : HasLen G) (s : List UInt8) (hl : s.length < 1000000000) (h : bigH s = false) (hi : (hdC s).2.2 = false) : FnB Tryd.prog G 28 [rdZ] [.c (.ptr 0 0), .c (.str s)] [.c (.int .i64 3)] [(0, rdB [] (encH []) [] (encL []) [] false)] := by
  refine Fn.of' Tryd.func28 (by kernel_rfl) (by kernel_rfl) (by kernel_rfl) (by kernel_rfl) trivial ?_
  obtain ⟨mx, hG⟩ := hL
  have c1 : Pur Tryd.prog G 15 [.c (.str s), .c (.str [13, 10, 13, 10])] [.c (.str (hdC s).1), .c (.str (hdC s).2.1), .c (.bool (hdC s).2.2)] := lib_Cut hG s [13, 10, 13, 10] (by omega)
  unfold bigH at h
  generalize hdC s = C at c1 h hi
  rw [hi] at c1 h
  have ht : (bif !false then decide ((s.length : Int) > 2048) else false) = false := h
  refine Wp.go (mx := true) (fun _ => mixed) [(1, {cs := [(1, pc c1)]})] 100 [false, false, true] [false = true → inR IntKind.i64 ((↑C.1.length : Int) + (4 : Int)), (bif false then decide ((↑C.1.length : Int) + (4 : Int) > (2048 : Int)) else false) = false, (bif !false then decide ((↑s.length : Int) > (2048 : Int)) else false) = false, (!false) = true] (by kernel_rfl) (by kernel_rfl) (by kernel_rfl) ⟨(by simp; done), rfl, (by assumption), rfl⟩ ?_
  refine Wp.ent' (by kernel_rfl) (Ent.blkE (id := 0) (b := rdZ) (b' := rdB [] (encH []) [] (encL []) [] false) (by kernel_rfl) rdz_eqv0 rfl) ?_
  refine Wp.ret' (by kernel_rfl) ?_
  exact FinQ.blk [] (by kernel_rfl) (by kernel_rfl) (by kernel_rfl) (by kernel_rfl) (by kernel_rfl) trivial
theorem rcut_many (hL : HasLen G) (s : List UInt8) (hl : s.length < 1000000000) (h : bigH s = false) (hi : (hdC s).2.2 = true) (hm : (linesH s).length > 25) : FnB Tryd.prog G 28 [rdZ] [.c (.ptr 0 0), .c (.str s)] [.c (.int .i64 4)] [(0, rdB [] (encH []) (hdC s).2.1 (encL (linesH s)) [] false)] := by
  refine Fn.of' Tryd.func28 (by kernel_rfl) (by kernel_rfl) (by kernel_rfl) (by kernel_rfl) trivial ?_
  obtain ⟨mx, hG⟩ := hL
  have c1 : Pur Tryd.prog G 15 [.c (.str s), .c (.str [13, 10, 13, 10])] [.c (.str (hdC s).1), .c (.str (hdC s).2.1), .c (.bool (hdC s).2.2)] := lib_Cut hG s [13, 10, 13, 10] (by omega)
  have hc : (hdC s).1.length ≤ s.length := (cut_len s [13, 10, 13, 10]).1
  have c2 : Pur Tryd.prog G 43 [.c (.str (hdC s).1), .c (.str [13, 10])] [.c (.sl 1 (linesH s).length (strsF (linesH s)))] := lib_Split hG (hdC s).1 [13, 10] (by omega) (by decide)
  unfold bigH at h
  generalize linesH s = L at c2 hm ⊢
  generalize hdC s = C at c1 c2 h hi hc ⊢
  rw [hi] at c1 h
  have ht : (bif true then decide ((C.1.length : Int) + 4 > 2048) else false) = false := h
  have hr : true = true → inR IntKind.i64 ((C.1.length : Int) + 4) := fun _ => inR64 (by omega) (by omega)
  have ht2 : (bif !true then decide ((s.length : Int) > 2048) else false) = false := rfl
  have ht3 : decide ((L.length : Int) > 25) = true := by simp; omega
  refine Wp.go (mx := true) (fun _ => mixed) [(1, {cs := [(1, pc c1)]}), (7, {cs := [(3, pc c2)]})] 100 [false, false, false, true] [true = true → inR IntKind.i64 ((↑C.1.length : Int) + (4 : Int)), (bif true then decide ((↑C.1.length : Int) + (4 : Int) > (2048 : Int)) else false) = false, (bif !true then decide ((↑s.length : Int) > (2048 : Int)) else false) = false, (!true) = false, decide ((↑L.length : Int) > (25 : Int)) = true] (by kernel_rfl) (by kernel_rfl) (by kernel_rfl) ⟨(by assumption), (by assumption), rfl, rfl, (show decide ((↑L.length : Int) > (25 : Int)) = true from (by assumption))⟩ ?_
  refine Wp.ent' (by kernel_rfl) (Ent.blkE (id := 0) (b := rdB [] .nilsl C.2.1 (encL L) [] false) (b' := rdB [] (encH []) C.2.1 (encL L) [] false) (by kernel_rfl) (rdz_eqv _ _ _) rfl) ?_
  refine Wp.ret' (by kernel_rfl) ?_
  exact FinQ.blk [] (by kernel_rfl) (by kernel_rfl) (by kernel_rfl) (by kernel_rfl) (by kernel_rfl) trivial
theorem drop1_eqv (L : List (List UInt8)) (n : Nat) (hn : n = L.length - 1) : EqvD (.c (.sl 1 n (fun i j => strsF L (1 + i) j))) (.c (encL (L.drop 1))) := by
  refine EqvD.sl (by rw [hn, List.length_drop]) fun i hi j hj => ?_
  unfold strsF
  rw [List.getD_eq_getElem?_getD, List.getD_eq_getElem?_getD, List.getElem?_drop]
theorem rcut_yes (hL : HasLen G) (s : List UInt8) (hl : s.length < 1000000000) (h : bigH s = false) (hi : (hdC s).2.2 = true) (hm : (linesH s).length ≤ 25) : FnB Tryd.prog G 28 [rdZ] [.c (.ptr 0 0), .c (.str s)] [.c (.int .i64 0)] [(0, rdB (firstH s) .nilsl (hdC s).2.1 (encL (fieldsL s)) [] false)] := by
  refine Fn.of' Tryd.func28 (by kernel_rfl) (by kernel_rfl) (by kernel_rfl) (by kernel_rfl) trivial ?_
  obtain ⟨mx, hG⟩ := hL
  have c1 : Pur Tryd.prog G 15 [.c (.str s), .c (.str [13, 10, 13, 10])] [.c (.str (hdC s).1), .c (.str (hdC s).2.1), .c (.bool (hdC s).2.2)] := lib_Cut hG s [13, 10, 13, 10] (by omega)
  have hc : (hdC s).1.length ≤ s.length := (cut_len s [13, 10, 13, 10]).1
  have c2 : Pur Tryd.prog G 43 [.c (.str (hdC s).1), .c (.str [13, 10])] [.c (.sl 1 (linesH s).length (strsF (linesH s)))] := lib_Split hG (hdC s).1 [13, 10] (by omega) (by decide)
  have hpos : 1 ≤ (linesH s).length := by
    unfold linesH Lib.split
    exact List.length_pos_iff.2 (splitK_nil _ _ _)
  unfold bigH at h
  unfold firstH fieldsL
  generalize linesH s = L at c2 hm hpos ⊢
  generalize hdC s = C at c1 c2 h hi hc ⊢
  rw [hi] at c1 h
  have ht : (bif true then decide ((C.1.length : Int) + 4 > 2048) else false) = false := h
  have hr : true = true → inR IntKind.i64 ((C.1.length : Int) + 4) := fun _ => inR64 (by omega) (by omega)
  have ht2 : (bif !true then decide ((s.length : Int) > 2048) else false) = false := rfl
  have ht3 : decide ((L.length : Int) > 25) = false := by simp; omega
  have e1 := drop1_eqv L (L.length - 1) rfl
  refine Wp.go (mx := true) (fun _ => mixed) [(10, {fm := [(12, .c (encL (L.drop 1)))]}), (1, {cs := [(1, pc c1)]}), (7, {cs := [(3, pc c2)]})] 100 [false, false, false, false] [true = true → inR IntKind.i64 ((↑C.1.length : Int) + (4 : Int)), (bif true then decide ((↑C.1.length : Int) + (4 : Int) > (2048 : Int)) else false) = false, (bif !true then decide ((↑s.length : Int) > (2048 : Int)) else false) = false, (!true) = false, decide ((↑L.length : Int) > (25 : Int)) = false, (0 : Int) ≤ (0 : Int) ∧ (0 : Int) < (↑L.length : Int), EqvI (V1.c (Cell.sl (1 : Nat) ((Int.ofNat L.length).toNat - (1 : Nat)) fun (i j : Nat) => strsF L ((1 : Nat) + i) j)) (V1.c (encL (List.drop (1 : Nat) L))), EqvD (V1.c (Cell.sl (1 : Nat) ((Int.ofNat L.length).toNat - (1 : Nat)) fun (i j : Nat) => strsF L ((1 : Nat) + i) j)) (V1.c (encL (List.drop (1 : Nat) L))), (0 : Int) ≤ Int.ofNat (1) ∧ Int.ofNat (1) ≤ Int.ofNat L.length ∧ Int.ofNat L.length ≤ (↑L.length : Int)] (by kernel_rfl) (by kernel_rfl) (by kernel_rfl) ⟨(by assumption), (by assumption), rfl, rfl, (by assumption), (by omega), fun _ _ => trivial, (by assumption), ⟨(by decide), ⟨(by simp; omega), (by simp; done)⟩⟩⟩ ?_
  refine Wp.ret' (by kernel_rfl) ?_
  exact FinQ.blk [] (by kernel_rfl) (by kernel_rfl) (by kernel_rfl) (by kernel_rfl) (by kernel_rfl) trivial
theorem rsized_ok (f b z : List UInt8) (d : Bool) (hd : List FT) (l : List (List UInt8)) (hb : b.length < 1000000000) (hz : z.length < 1000000000) : FnB Tryd.prog G 30 [rdB f (encH hd) b (encL l) z d] [.c (.ptr 0 0)] [.c (.int .i64 (szE z d b))] [(0, rdB f (encH hd) b (encL l) z d)] := by
  refine Fn.of' Tryd.func30 (by kernel_rfl) (by kernel_rfl) (by kernel_rfl) (by kernel_rfl) trivial ?_
  unfold szE
  cases d with
  | false =>
    rw [if_neg (by decide)]
    by_cases hbe : b = []
    · rw [if_pos hbe]
      have ht : ((0 : Int) != (b.length : Int)) = false := by rw [hbe]; rfl
      refine Wp.go (mx := true) (fun _ => mixed) [] 100 [false, false, false, false] [false = false, (!true) = false, decide ((0 : Int) > (4096 : Int)) = false, ((0 : Int) != (↑b.length : Int)) = false] (by kernel_rfl) (by kernel_rfl) (by kernel_rfl) ⟨rfl, rfl, rfl, (show ((0 : Int) != (↑b.length : Int)) = false from (by assumption))⟩ ?_
      refine Wp.ret' (by kernel_rfl) ?_
      exact FinQ.blk [] (by kernel_rfl) (by kernel_rfl) (by kernel_rfl) (by kernel_rfl) (by kernel_rfl) trivial
    · rw [if_neg hbe]
      have ht : ((0 : Int) != (b.length : Int)) = true := by
        have : b.length ≠ 0 := fun h => hbe (List.length_eq_zero_iff.1 h)
        simp; omega
      refine Wp.go (mx := true) (fun _ => mixed) [] 100 [false, false, false, true] [false = false, (!true) = false, decide ((0 : Int) > (4096 : Int)) = false, ((0 : Int) != (↑b.length : Int)) = true] (by kernel_rfl) (by kernel_rfl) (by kernel_rfl) ⟨rfl, rfl, rfl, (show ((0 : Int) != (↑b.length : Int)) = true from (by assumption))⟩ ?_
      refine Wp.ret' (by kernel_rfl) ?_
      exact FinQ.blk [] (by kernel_rfl) (by kernel_rfl) (by kernel_rfl) (by kernel_rfl) (by kernel_rfl) trivial
  | true =>
    rw [if_pos rfl]
    cases hn : numK 9 z with
    | false =>
      rw [if_pos rfl]
      have c := numK_no (G := G) (K := 9) z hz hn
      refine Wp.go (mx := true) (fun _ => mixed) [(3, {cs := [(4, pc c)]})] 100 [true, true] [true = true, (!false) = true] (by kernel_rfl) (by kernel_rfl) (by kernel_rfl) ⟨rfl, rfl⟩ ?_
      refine Wp.ret' (by kernel_rfl) ?_
      exact FinQ.blk [] (by kernel_rfl) (by kernel_rfl) (by kernel_rfl) (by kernel_rfl) (by kernel_rfl) trivial
    | true =>
      rw [if_neg (by decide)]
      have c := numK_yes (G := G) (K := 9) (by decide) z hn
      generalize nv z = N at c ⊢
      by_cases h4 : N > 4096
      · rw [if_pos h4]
        have ht : decide ((N : Int) > 4096) = true := by simp; omega
        refine Wp.go (mx := true) (fun _ => mixed) [(3, {cs := [(4, pc c)]})] 100 [true, false, true] [true = true, (!true) = false, decide ((↑N : Int) > (4096 : Int)) = true] (by kernel_rfl) (by kernel_rfl) (by kernel_rfl) ⟨rfl, rfl, (show decide ((↑N : Int) > (4096 : Int)) = true from (by assumption))⟩ ?_
        refine Wp.ret' (by kernel_rfl) ?_
        exact FinQ.blk [] (by kernel_rfl) (by kernel_rfl) (by kernel_rfl) (by kernel_rfl) (by kernel_rfl) trivial
      · rw [if_neg h4]
        have ht : decide ((N : Int) > 4096) = false := by simp; omega
        by_cases h5 : N = b.length
        · rw [if_pos h5]
          have ht2 : ((N : Int) != (b.length : Int)) = false := by simp; omega
          refine Wp.go (mx := true) (fun _ => mixed) [(3, {cs := [(4, pc c)]})] 100 [true, false, false, false] [true = true, (!true) = false, decide ((↑N : Int) > (4096 : Int)) = false, ((↑N : Int) != (↑b.length : Int)) = false] (by kernel_rfl) (by kernel_rfl) (by kernel_rfl) ⟨rfl, rfl, (by assumption), (show ((↑N : Int) != (↑b.length : Int)) = false from (by assumption))⟩ ?_
          refine Wp.ret' (by kernel_rfl) ?_
          exact FinQ.blk [] (by kernel_rfl) (by kernel_rfl) (by kernel_rfl) (by kernel_rfl) (by kernel_rfl) trivial
        · rw [if_neg h5]
          have ht2 : ((N : Int) != (b.length : Int)) = true := by simp; omega
          refine Wp.go (mx := true) (fun _ => mixed) [(3, {cs := [(4, pc c)]})] 100 [true, false, false, true] [true = true, (!true) = false, decide ((↑N : Int) > (4096 : Int)) = false, ((↑N : Int) != (↑b.length : Int)) = true] (by kernel_rfl) (by kernel_rfl) (by kernel_rfl) ⟨rfl, rfl, (by assumption), (show ((↑N : Int) != (↑b.length : Int)) = true from (by assumption))⟩ ?_
          refine Wp.ret' (by kernel_rfl) ?_
          exact FinQ.blk [] (by kernel_rfl) (by kernel_rfl) (by kernel_rfl) (by kernel_rfl) (by kernel_rfl) trivial
end Go.Proofs.Tw
end

section
open Go Go.Sv Go.RowKit
namespace Go.Proofs.Tw
attribute [local irreducible] Wp FinQ resV Ent Pur Go.Sv.Fn Sat0
set_option maxRecDepth 100000
set_option maxHeartbeats 4000000
variable {G : Nat → Option (List Cell)}

theorem fGet_con (l : List FT) (n : List UInt8) : (l.map (·.name)).contains n = (fGet l n).isSome := by
  induction l with
  | nil => rfl
  | cons x l ih =>
    rw [fGet_cons, List.map_cons, List.contains_cons, ih]
    cases h : (x.name == n) with
    | true => rw [show (n == x.name) = true from by rw [eq_of_beq h]; simp]; rfl
    | false => rw [show (n == x.name) = false from by rw [beq_eq_false_iff_ne] at h ⊢; exact fun e => h e.symm]; rfl
theorem fGet_snoc (l : List FT) (x : FT) (n : List UInt8) : fGet (l ++ [x]) n = match fGet l n with
    | some v => some v
    | none => if x.name == n then some x.value else none := by
  induction l with
  | nil => rw [List.nil_append, fGet_cons, fGet_nil]
  | cons y l ih =>
    rw [List.cons_append, fGet_cons, fGet_cons, ih]
    split <;> rfl
theorem filt_cl (acc : List FT) (x : FT) (h : (x.name == clN) = true) : (acc ++ [x]).filter notCl = acc.filter notCl := by
  rw [List.filter_append]; simp [notCl, h]
theorem filt_no (acc : List FT) (x : FT) (h : (x.name == clN) = false) : (acc ++ [x]).filter notCl = acc.filter notCl ++ [x] := by
  rw [List.filter_append]; simp [notCl, h]
theorem snoc_cl (acc : List FT) (x : FT) (h : (x.name == clN) = true) (hn : fGet acc clN = none) : fGet (acc ++ [x]) clN = some x.value := by
  rw [fGet_snoc, hn]; simp only [h]; rfl
theorem snoc_no (acc : List FT) (x : FT) (h : (x.name == clN) = false) : fGet (acc ++ [x]) clN = fGet acc clN := by
  rw [fGet_snoc]; cases fGet acc clN <;> simp [h]
theorem fA_step (l : List (List UInt8)) (acc : List FT) (k : Nat) (hk : k < l.length) : fieldsA (l.drop k) acc = if okA acc (l.getD k []) then fieldsA (l.drop (k + 1)) (acc ++ [lineF (l.getD k [])]) else acc := by
  rw [dropM l [] k hk, fieldsA]
theorem fO_step (l : List (List UInt8)) (acc : List FT) (k : Nat) (hk : k < l.length) : fieldsO (l.drop k) acc = if okA acc (l.getD k []) then fieldsO (l.drop (k + 1)) (acc ++ [lineF (l.getD k [])]) else false := by
  rw [dropM l [] k hk, fieldsO]
theorem okA_b (c t s h : Bool) : (bif bif bif !c then true else !t then true else !s then true else h) = !((c && (t && s)) && !h) := by
  cases c <;> cases t <;> cases s <;> cases h <;> rfl
theorem rfields_ok (hL : HasLen G) (f b : List UInt8) (l : List (List UInt8)) (hl : ∀ k, (l.getD k []).length < 1000000000) (hn : l.length < 1000000) : FnB Tryd.prog G 29 [rdB f .nilsl b (encL l) [] false] [.c (.ptr 0 0)] [.c (.int .i64 (if fieldsO l [] then 0 else 3))]
    [(0, rdB f (encH ((fieldsA l []).filter notCl)) b (encL l) ((fGet (fieldsA l []) clN).getD []) (fGet (fieldsA l []) clN).isSome)] := by
  refine Fn.of' Tryd.func29 (by kernel_rfl) (by kernel_rfl) (by kernel_rfl) (by kernel_rfl) trivial ?_
  obtain ⟨mx, hG⟩ := hL
  refine Wp.go (mx := true) (fun _ => mixed) [] 100 [] [] (by kernel_rfl) (by kernel_rfl) (by kernel_rfl) trivial ?_
  refine Wp.loopK (by kernel_rfl) (fun (x : Nat × Nat × List FT × List FT × List UInt8 × Bool) => ⟨[(0, TV.v (V1.c (Cell.ptr 0 0))), (3, TV.v (V1.c (Cell.map 17))), (14, TV.v (V1.c (Cell.sl 1 l.length (strsF l)))), (15, TV.v (V1.c (Cell.int .i64 (l.length : Int)))), (16, TV.v (V1.c (Cell.int .i64 (x.1 : Int))))], [(0, Blk.box 56 [.str f, .row 2 145 0 x.2.1, .str b, encL l, .str x.2.2.2.2.1, .bool x.2.2.2.2.2]), (17, Blk.ob (Ob.ms (seenL (x.2.2.1.map (·.name))))), (145, Blk.row 39 2 x.2.1 (rowF encF .nil x.2.2.2.1))], 161⟩)
    (fun x => x.1 ≤ l.length ∧ x.2.1 = x.2.2.2.1.length ∧ x.2.1 ≤ x.1 ∧ fieldsA l [] = fieldsA (l.drop x.1) x.2.2.1 ∧ fieldsO l [] = fieldsO (l.drop x.1) x.2.2.1 ∧ x.2.2.2.1 = x.2.2.1.filter notCl ∧ x.2.2.2.2.1 = (fGet x.2.2.1 clN).getD [] ∧ x.2.2.2.2.2 = (fGet x.2.2.1 clN).isSome) (fun x => l.length - x.1) (0, 0, [], [], [], false)
    (Ent.trans (Ent.empC (b := 0) (o := 1) (sz := 2) (e := 39) (e' := 56) (cs := [.str f, .nilsl, .str b, encL l, .str [], .bool false]) (f := rowF encF .nil []) (by decide) (of_decide_eq_true (by kernel_rfl)) (by kernel_rfl) (by kernel_rfl) rfl) (Ent.of [] (by kernel_rfl) (by kernel_rfl) (by kernel_rfl) trivial)) ⟨Nat.zero_le _, rfl, Nat.le_refl _, rfl, rfl, rfl, rfl, rfl⟩ ?_
  rintro ⟨k, n, acc, H, z, d⟩ L ⟨hk, hnH, hnk, hA, hO, hH, hz, hd⟩ again
  simp only at hk hnH hnk hA hO hH hz hd
  rcases Nat.lt_or_ge k l.length with hlt | hge
  · rw [fA_step l acc k hlt] at hA
    rw [fO_step l acc k hlt] at hO
    have hp := hl k
    have hcl := cut_len (l.getD k []) [58, 32]
    have c1 := lib_Cut (G := G) hG (l.getD k []) [58, 32] (by omega)
    have c2 := fold_ok (G := G) (Lib.cut (l.getD k []) [58, 32]).1 (by omega)
    have c3 := token_ok (G := G) (Lib.cut (l.getD k []) [58, 32]).1 (by omega)
    have c4 := seen_ok (G := G) (Lib.cut (l.getD k []) [58, 32]).2.1 (by omega)
    have e0 : EqvD (mget (seenL (acc.map (·.name))) (foldT (Lib.cut (l.getD k []) [58, 32]).1) (.c (.bool false))) (.c (.bool ((acc.map (·.name)).contains (lineF (l.getD k [])).name))) := eqvD_of (seenL_get _ _)
    have ht := okA_b (Lib.cut (l.getD k []) [58, 32]).2.2 (tokenT (Lib.cut (l.getD k []) [58, 32]).1) ((Lib.cut (l.getD k []) [58, 32]).2.1.all seenB) ((acc.map (·.name)).contains (lineF (l.getD k [])).name)
    rw [show (((Lib.cut (l.getD k []) [58, 32]).2.2 && (tokenT (Lib.cut (l.getD k []) [58, 32]).1 && (Lib.cut (l.getD k []) [58, 32]).2.1.all seenB)) && !((acc.map (·.name)).contains (lineF (l.getD k [])).name)) = okA acc (l.getD k []) from by rw [fGet_con]; rfl] at ht
    cases hok : okA acc (l.getD k []) with
    | false =>
      rw [hok, if_neg (by decide)] at hA hO
      rw [hA, hO, ← hH, ← hz, ← hd]
      rw [hok] at ht
      have ht : (bif bif bif !(Lib.cut (l.getD k []) [58, 32]).2.2 then true else !tokenT (Lib.cut (l.getD k []) [58, 32]).1 then true else !(Lib.cut (l.getD k []) [58, 32]).2.1.all seenB then true else (acc.map (·.name)).contains (lineF (l.getD k [])).name) = true := ht
      clear hA hO hok hH hz hd
      refine Wp.ent' (by kernel_rfl) (Ent.pubC (id := 145) (b := 0) (o := 1) (off := 0) (m := n) (sz := 2) (n := n) (e := 39) (e' := 56) (cs := [.str f, .row 2 145 0 n, .str b, encL l, .str z, .bool d]) (f := rowF encF .nil H) (m' := H.length) (f' := fun i j => nthD (encF (H.getD i .nil)) j) (by kernel_rfl) (by kernel_rfl) (by kernel_rfl) (by omega) hnH (fun i _ j hj => by rw [Nat.zero_add]; rfl) rfl) ?_
      refine Wp.go (mx := true) (fun _ => mixed) [(7, {cs := [(4, pc c3), (9, pc c4)], fm := [(15, .c (.bool ((acc.map (·.name)).contains (lineF (l.getD k [])).name)))]}), (5, {cs := [(1, pc c1)]}), (6, {cs := [(1, pc c2)]})] 100 [true, true] [decide ((↑k : Int) < (↑l.length : Int)) = true, (0 : Int) ≤ (↑k : Int) ∧ (↑k : Int) < (↑l.length : Int), EqvI (mget (seenL (List.map (fun (x : FT) => x.name) acc)) (foldT (Lib.cut (l.getD k []) [(58 : UInt8), 32]).1) (V1.c (Cell.bool false))) (V1.c (Cell.bool ((List.map (fun (x : FT) => x.name) acc).contains (lineF (l.getD k [])).name))), (bif bif !(Lib.cut (l.getD k []) [(58 : UInt8), 32]).2.snd then true else !tokenT (Lib.cut (l.getD k []) [(58 : UInt8), 32]).1 then true else !(Lib.cut (l.getD k []) [(58 : UInt8), 32]).2.fst.all seenB) = false → EqvD (mget (seenL (List.map (fun (x : FT) => x.name) acc)) (foldT (Lib.cut (l.getD k []) [(58 : UInt8), 32]).1) (V1.c (Cell.bool false))) (V1.c (Cell.bool ((List.map (fun (x : FT) => x.name) acc).contains (lineF (l.getD k [])).name))), (bif bif bif !(Lib.cut (l.getD k []) [(58 : UInt8), 32]).2.snd then true else !tokenT (Lib.cut (l.getD k []) [(58 : UInt8), 32]).1 then true else !(Lib.cut (l.getD k []) [(58 : UInt8), 32]).2.fst.all seenB then true else (List.map (fun (x : FT) => x.name) acc).contains (lineF (l.getD k [])).name) = true] (by kernel_rfl) (by kernel_rfl) (by kernel_rfl) ⟨(by simp; omega), (by omega), fun _ _ => trivial, (by intro _; assumption), (show (bif bif bif !(Lib.cut (l.getD k []) [(58 : UInt8), 32]).2.snd then true else !tokenT (Lib.cut (l.getD k []) [(58 : UInt8), 32]).1 then true else !(Lib.cut (l.getD k []) [(58 : UInt8), 32]).2.fst.all seenB then true else (List.map (fun (x : FT) => x.name) acc).contains (lineF (l.getD k [])).name) = true from (by assumption))⟩ ?_
      refine Wp.ret' (by kernel_rfl) ?_
      exact FinQ.blk [] (by kernel_rfl) (by kernel_rfl) (by kernel_rfl) (by kernel_rfl) (by kernel_rfl) trivial
    | true =>
      rw [hok, if_pos rfl] at hA hO
      rw [hok] at ht
      have ht : (bif bif bif !(Lib.cut (l.getD k []) [58, 32]).2.2 then true else !tokenT (Lib.cut (l.getD k []) [58, 32]).1 then true else !(Lib.cut (l.getD k []) [58, 32]).2.1.all seenB then true else (acc.map (·.name)).contains (lineF (l.getD k [])).name) = false := ht
      have hno : (fGet acc (lineF (l.getD k [])).name) = none := by
        unfold okA at hok
        cases hg : fGet acc (lineF (l.getD k [])).name with
        | none => rfl
        | some v => rw [hg] at hok; simp at hok
      have hc : (acc.map (·.name)).contains (lineF (l.getD k [])).name = false := by rw [fGet_con, hno]; rfl
      have e2 : BlkEqv (.ob (.ms (mset (seenL (acc.map (·.name))) (lineF (l.getD k [])).name (.c (.bool true))))) (.ob (.ms (seenL ((acc ++ [lineF (l.getD k [])]).map (·.name))))) := BlkEqv.of_eq (by rw [seenL_set _ _ hc, List.map_append]; rfl)
      cases hcl2 : ((lineF (l.getD k [])).name == clN) with
      | true =>
        have hcl3 : (foldT (Lib.cut (l.getD k []) [58, 32]).1 == clN) = true := hcl2
        have hnone : fGet acc clN = none := by rw [← eq_of_beq hcl2]; exact hno
        have f1 : H = (acc ++ [lineF (l.getD k [])]).filter notCl := by rw [filt_cl _ _ hcl2, ← hH]
        have f2 : (Lib.cut (l.getD k []) [58, 32]).2.1 = (fGet (acc ++ [lineF (l.getD k [])]) clN).getD [] := by rw [snoc_cl _ _ hcl2 hnone]; rfl
        have f3 : true = (fGet (acc ++ [lineF (l.getD k [])]) clN).isSome := by rw [snoc_cl _ _ hcl2 hnone]; rfl
        clear hok hno hc hnone hcl2 hH hz hd
        refine Wp.go (mx := true) (fun _ => mixed) [(7, {cs := [(4, pc c3), (9, pc c4)], fm := [(15, .c (.bool ((acc.map (·.name)).contains (lineF (l.getD k [])).name)))]}), (9, {bs := [(2, .ob (.ms (seenL ((acc ++ [lineF (l.getD k [])]).map (·.name)))))]}), (5, {cs := [(1, pc c1)]}), (6, {cs := [(1, pc c2)]})] 100 [true, false, true] [decide ((↑k : Int) < (↑l.length : Int)) = true, (0 : Int) ≤ (↑k : Int) ∧ (↑k : Int) < (↑l.length : Int), EqvI (mget (seenL (List.map (fun (x : FT) => x.name) acc)) (foldT (Lib.cut (l.getD k []) [(58 : UInt8), 32]).1) (V1.c (Cell.bool false))) (V1.c (Cell.bool ((List.map (fun (x : FT) => x.name) acc).contains (lineF (l.getD k [])).name))), (bif bif !(Lib.cut (l.getD k []) [(58 : UInt8), 32]).2.snd then true else !tokenT (Lib.cut (l.getD k []) [(58 : UInt8), 32]).1 then true else !(Lib.cut (l.getD k []) [(58 : UInt8), 32]).2.fst.all seenB) = false → EqvD (mget (seenL (List.map (fun (x : FT) => x.name) acc)) (foldT (Lib.cut (l.getD k []) [(58 : UInt8), 32]).1) (V1.c (Cell.bool false))) (V1.c (Cell.bool ((List.map (fun (x : FT) => x.name) acc).contains (lineF (l.getD k [])).name))), (bif bif bif !(Lib.cut (l.getD k []) [(58 : UInt8), 32]).2.snd then true else !tokenT (Lib.cut (l.getD k []) [(58 : UInt8), 32]).1 then true else !(Lib.cut (l.getD k []) [(58 : UInt8), 32]).2.fst.all seenB then true else (List.map (fun (x : FT) => x.name) acc).contains (lineF (l.getD k [])).name) = false, BlkEqv (Blk.ob (Ob.ms (mset (seenL (List.map (fun (x : FT) => x.name) acc)) (foldT (Lib.cut (l.getD k []) [(58 : UInt8), 32]).1) (V1.c (Cell.bool true))))) (Blk.ob (Ob.ms (seenL (List.map (fun (x : FT) => x.name) (acc ++ [lineF (l.getD k [])]))))), (foldT (Lib.cut (l.getD k []) [(58 : UInt8), 32]).1 == [(99 : UInt8), 111, 110, 116, 101, 110, 116, 45, 108, 101, 110, 103, 116, 104]) = true, inR IntKind.i64 ((↑k : Int) + (1 : Int))] (by kernel_rfl) (by kernel_rfl) (by kernel_rfl) ⟨(by simp; omega), (by omega), fun _ _ => trivial, (by intro _; assumption), (by assumption), (by assumption), (by assumption), inR64 (by omega) (by omega)⟩ ?_
        exact Wp.lpK (by kernel_rfl) (again _ (k + 1, n, acc ++ [lineF (l.getD k [])], H, (Lib.cut (l.getD k []) [58, 32]).2.1, true) ⟨(by assumption), ⟨(by assumption), ⟨(by simp; omega), ⟨(by assumption), ⟨(by assumption), ⟨(by assumption), ⟨(by assumption), (by assumption)⟩⟩⟩⟩⟩⟩⟩ (by omega) (Ent.of [] (by kernel_rfl) (by kernel_rfl) (by kernel_rfl) trivial))
      | false =>
        have hcl3 : (foldT (Lib.cut (l.getD k []) [58, 32]).1 == clN) = false := hcl2
        have f1 : H ++ [lineF (l.getD k [])] = (acc ++ [lineF (l.getD k [])]).filter notCl := by rw [filt_no _ _ hcl2, ← hH]
        have f2 : z = (fGet (acc ++ [lineF (l.getD k [])]) clN).getD [] := by rw [snoc_no _ _ hcl2]; exact hz
        have f3 : d = (fGet (acc ++ [lineF (l.getD k [])]) clN).isSome := by rw [snoc_no _ _ hcl2]; exact hd
        have e3 : BlkEqv (.row 39 2 (n + 1) (catF n (rowF encF .nil H) (fun i j => nthD (encF (lineF (l.getD k []))) ((0 + i) * 2 + j)))) (.row 39 2 (n + 1) (rowF encF .nil (H ++ [lineF (l.getD k [])]))) := enc_app H _ hnH
        have q2 : n + 1 = (H ++ [lineF (l.getD k [])]).length := by simp [hnH]
        clear hok hno hc hcl2 hH hz hd
        refine Wp.go (mx := true) (fun _ => mixed) [(7, {cs := [(4, pc c3), (9, pc c4)], fm := [(15, .c (.bool ((acc.map (·.name)).contains (lineF (l.getD k [])).name)))]}), (9, {bs := [(2, .ob (.ms (seenL ((acc ++ [lineF (l.getD k [])]).map (·.name)))))]}), (12, {bs := [(10, Blk.row 39 2 (n + 1) (rowF encF .nil (H ++ [lineF (l.getD k [])])))]}), (5, {cs := [(1, pc c1)]}), (6, {cs := [(1, pc c2)]})] 100 [true, false, false] [decide ((↑k : Int) < (↑l.length : Int)) = true, (0 : Int) ≤ (↑k : Int) ∧ (↑k : Int) < (↑l.length : Int), EqvI (mget (seenL (List.map (fun (x : FT) => x.name) acc)) (foldT (Lib.cut (l.getD k []) [(58 : UInt8), 32]).1) (V1.c (Cell.bool false))) (V1.c (Cell.bool ((List.map (fun (x : FT) => x.name) acc).contains (lineF (l.getD k [])).name))), (bif bif !(Lib.cut (l.getD k []) [(58 : UInt8), 32]).2.snd then true else !tokenT (Lib.cut (l.getD k []) [(58 : UInt8), 32]).1 then true else !(Lib.cut (l.getD k []) [(58 : UInt8), 32]).2.fst.all seenB) = false → EqvD (mget (seenL (List.map (fun (x : FT) => x.name) acc)) (foldT (Lib.cut (l.getD k []) [(58 : UInt8), 32]).1) (V1.c (Cell.bool false))) (V1.c (Cell.bool ((List.map (fun (x : FT) => x.name) acc).contains (lineF (l.getD k [])).name))), (bif bif bif !(Lib.cut (l.getD k []) [(58 : UInt8), 32]).2.snd then true else !tokenT (Lib.cut (l.getD k []) [(58 : UInt8), 32]).1 then true else !(Lib.cut (l.getD k []) [(58 : UInt8), 32]).2.fst.all seenB then true else (List.map (fun (x : FT) => x.name) acc).contains (lineF (l.getD k [])).name) = false, BlkEqv (Blk.ob (Ob.ms (mset (seenL (List.map (fun (x : FT) => x.name) acc)) (foldT (Lib.cut (l.getD k []) [(58 : UInt8), 32]).1) (V1.c (Cell.bool true))))) (Blk.ob (Ob.ms (seenL (List.map (fun (x : FT) => x.name) (acc ++ [lineF (l.getD k [])]))))), (foldT (Lib.cut (l.getD k []) [(58 : UInt8), 32]).1 == [(99 : UInt8), 111, 110, 116, 101, 110, 116, 45, 108, 101, 110, 103, 116, 104]) = false, (n + (1 : Nat)) * (32 : Nat) ≤ (140737488355328 : Nat), BlkEqv (Blk.row 39 (2 : Nat) (n + (1 : Nat)) (catF n (fun (i j : Nat) => nthD [Cell.str (H.getD i FT.nil).name, Cell.str (H.getD i FT.nil).value] j) fun (i j : Nat) => nthD [Cell.str (foldT (Lib.cut (l.getD k []) [(58 : UInt8), 32]).1), Cell.str (Lib.cut (l.getD k []) [(58 : UInt8), 32]).2.fst] (((0 : Nat) + i) * (2 : Nat) + j))) (Blk.row 39 (2 : Nat) (n + (1 : Nat)) (rowF encF FT.nil (H ++ [lineF (l.getD k [])]))), n ≤ n, (0 : Nat) + (1 : Nat) ≤ (1 : Nat), inR IntKind.i64 ((↑k : Int) + (1 : Int))] (by kernel_rfl) (by kernel_rfl) (by kernel_rfl) ⟨(by simp; omega), (by omega), fun _ _ => trivial, (by intro _; assumption), (by assumption), (by assumption), (by assumption), (by omega), (by assumption), (by omega), (by omega), inR64 (by omega) (by omega)⟩ ?_
        exact Wp.lpK (by kernel_rfl) (again _ (k + 1, n + 1, acc ++ [lineF (l.getD k [])], H ++ [lineF (l.getD k [])], z, d) ⟨(by assumption), ⟨(by assumption), ⟨(by simp; omega), ⟨(by assumption), ⟨(by assumption), ⟨(by assumption), ⟨(by assumption), (by assumption)⟩⟩⟩⟩⟩⟩⟩ (by omega) (Ent.of [(145, 929)] (by kernel_rfl) (by kernel_rfl) (by kernel_rfl) trivial))
  · rw [List.drop_of_length_le hge] at hA hO
    rw [hA, hO, fieldsA, fieldsO, ← hH, ← hz, ← hd]
    clear hA hO hH hz hd
    refine Wp.ent' (by kernel_rfl) (Ent.pubC (id := 145) (b := 0) (o := 1) (off := 0) (m := n) (sz := 2) (n := n) (e := 39) (e' := 56) (cs := [.str f, .row 2 145 0 n, .str b, encL l, .str z, .bool d]) (f := rowF encF .nil H) (m' := H.length) (f' := fun i j => nthD (encF (H.getD i .nil)) j) (by kernel_rfl) (by kernel_rfl) (by kernel_rfl) (by omega) hnH (fun i _ j hj => by rw [Nat.zero_add]; rfl) rfl) ?_
    refine Wp.go (mx := true) (fun _ => mixed) [] 100 [false] [decide ((↑k : Int) < (↑l.length : Int)) = false] (by kernel_rfl) (by kernel_rfl) (by kernel_rfl) (show decide ((↑k : Int) < (↑l.length : Int)) = false from (by simp; omega)) ?_
    refine Wp.ret' (by kernel_rfl) ?_
    exact FinQ.blk [] (by kernel_rfl) (by kernel_rfl) (by kernel_rfl) (by kernel_rfl) (by kernel_rfl) trivial
end Go.Proofs.Tw
end

section
open Go Go.Sv Go.RowKit
namespace Go.Proofs.Tw
attribute [local irreducible] Wp FinQ resV Ent Pur Go.Sv.Fn Sat0
set_option maxRecDepth 100000
set_option maxHeartbeats 4000000
variable {G : Nat → Option (List Cell)}

theorem readH_no1 {line : List UInt8 → Bool} {s : List UInt8} (h : bigH s = true) : readH line s = ([], 4) := by
  unfold readH splitH; rw [h]; rfl
theorem readH_no2 {line : List UInt8 → Bool} {s : List UInt8} (h : bigH s = false) (hi : (hdC s).2.2 = false) : readH line s = ([], 3) := by
  unfold readH splitH; rw [h, hi]; rfl
theorem readH_no3 {line : List UInt8 → Bool} {s : List UInt8} (h : bigH s = false) (hi : (hdC s).2.2 = true) (hm : (linesH s).length > 25) : readH line s = ([], 4) := by
  unfold readH splitH; rw [h, hi, if_pos hm]; rfl
theorem splitH_yes {s : List UInt8} (h : bigH s = false) (hi : (hdC s).2.2 = true) (hm : ¬ (linesH s).length > 25) : splitH s = 0 := by
  unfold splitH; rw [h, hi, if_neg hm]; rfl
theorem readH_line {line : List UInt8 → Bool} {s : List UInt8} (h : splitH s = 0) (hf : line (firstH s) = false) : readH line s = ([], 3) := by
  unfold readH; rw [h, hf]; rfl
theorem readH_flds {line : List UInt8 → Bool} {s : List UInt8} (h : splitH s = 0) (hf : line (firstH s) = true) (hO : fieldsO (fieldsL s) [] = false) : readH line s = ([], 3) := by
  unfold readH; rw [h, hf, hO]; rfl
theorem readH_end {line : List UInt8 → Bool} {s : List UInt8} (h : splitH s = 0) (hf : line (firstH s) = true) (hO : fieldsO (fieldsL s) [] = true) : readH line s = if bodyE (fieldsA (fieldsL s) []) (hdC s).2.1 = 0 then ((fieldsA (fieldsL s) []).filter notCl, 0) else ([], bodyE (fieldsA (fieldsL s) []) (hdC s).2.1) := by
  unfold readH; rw [h, hf, hO]; rfl
/-- All that a field of a head is, is no longer than a bound of the lines. -/
theorem fA_sm {B : Nat} : ∀ (l : List (List UInt8)) (acc : List FT), (∀ p ∈ l, p.length ≤ B) → (∀ f ∈ acc, f.name.length ≤ B ∧ f.value.length ≤ B) → ∀ f ∈ fieldsA l acc, f.name.length ≤ B ∧ f.value.length ≤ B
  | [], acc, _, h => by simpa [fieldsA] using h
  | p :: r, acc, hl, h => by
    unfold fieldsA
    split
    · refine fA_sm r _ (fun q hq => hl q (by simp [hq])) (fun f hf => ?_)
      rcases List.mem_append.1 hf with hf | hf
      · exact h f hf
      · rw [List.mem_singleton.1 hf]
        have := cut_len p [58, 32]
        have hp := hl p (by simp)
        exact ⟨by show (foldT _).length ≤ _; unfold foldT; rw [List.length_map]; omega, by show (Lib.cut p [58, 32]).2.1.length ≤ _; omega⟩
    · exact h
theorem fGet_mem {l : List FT} {n v : List UInt8} (h : fGet l n = some v) : ∃ f ∈ l, f.name = n ∧ f.value = v := by
  unfold fGet at h
  cases hf : l.find? (fun f => f.name == n) with
  | none => rw [hf] at h; cases h
  | some f =>
    rw [hf] at h
    have h1 := List.find?_some hf
    exact ⟨f, List.mem_of_find?_eq_some hf, eq_of_beq h1, by simpa using h⟩
theorem fldsL_sm (s : List UInt8) : ∀ p ∈ fieldsL s, p.length ≤ s.length := by
  intro p hp
  have h1 := splitK_len [13, 10] _ (hdC s).1 p (List.mem_of_mem_drop hp)
  have h2 : (hdC s).1.length ≤ s.length := (cut_len s [13, 10, 13, 10]).1
  omega
theorem first_sm (s : List UInt8) : (firstH s).length ≤ s.length := by
  have h1 : (firstH s).length ≤ (hdC s).1.length := split_el (hdC s).1 [13, 10] 0
  have h2 : (hdC s).1.length ≤ s.length := (cut_len s [13, 10, 13, 10]).1
  omega
theorem cl_sm (s : List UInt8) : ((fGet (fieldsA (fieldsL s) []) clN).getD []).length ≤ s.length := by
  cases h : fGet (fieldsA (fieldsL s) []) clN with
  | none => simp
  | some v =>
    obtain ⟨f, hf, _, rfl⟩ := fGet_mem h
    exact (fA_sm (B := s.length) _ [] (fldsL_sm s) (fun f hf => by cases hf) f hf).2
theorem readsQ_no (hL : HasLen G) (s : List UInt8) (hl : s.length < 1000000000) (h : (readH askB s).2 ≠ 0) : ∃ (f b z : List UInt8) (hd : List FT) (l : List (List UInt8)) (d : Bool), FnB Tryd.prog G 13 [.box 26 [.str [], .str [], .nilsl, .str []]] [.c (.str s), .c (clo1 14 (.ptr 0 0))] [.c (.ptr 1 0), .c (.int .i64 (readH askB s).2)] [(1, rdB f (encH hd) b (encL l) z d)] := by
  have hb : (hdC s).2.1.length ≤ s.length := (cut_len s [13, 10, 13, 10]).2
  cases hbig : bigH s with
  | true =>
    rw [readH_no1 hbig]
    refine ⟨[], [], [], [], [], false, ?_⟩
    refine Fn.of' Tryd.func13 (by kernel_rfl) (by kernel_rfl) (by kernel_rfl) (by kernel_rfl) trivial ?_
    have c1 := rcut_big hL s hl hbig
    refine Wp.go (mx := true) (fun _ => mixed) [(2, {cs := [(2, cb [49] c1)]}), (3, {grd := [(3, false), (4, false), (5, false), (6, false), (7, false), (8, false), (9, false), (10, false), (11, false)]})] 100 [false, false, false] [((4 : Int) == (0 : Int)) = !true, ((4 : Int) == (0 : Int)) = !true, ((4 : Int) == (0 : Int)) = !true, ((4 : Int) == (0 : Int)) = !true, ((4 : Int) == (0 : Int)) = !true, ((4 : Int) == (0 : Int)) = !true, ((4 : Int) == (0 : Int)) = !true, ((4 : Int) == (0 : Int)) = !true, ((4 : Int) == (0 : Int)) = false, false = false, ((4 : Int) == (0 : Int)) = false, ((4 : Int) == (0 : Int)) = false] (by kernel_rfl) (by kernel_rfl) (by kernel_rfl) ⟨rfl, rfl, rfl, rfl, rfl, rfl, rfl, rfl, rfl, rfl, rfl, rfl⟩ ?_
    refine Wp.ret' (by kernel_rfl) ?_
    exact FinQ.blk [49] (by kernel_rfl) (by kernel_rfl) (by kernel_rfl) (by kernel_rfl) (by kernel_rfl) trivial
  | false =>
    cases hi : (hdC s).2.2 with
    | false =>
      rw [readH_no2 hbig hi]
      refine ⟨[], [], [], [], [], false, ?_⟩
      refine Fn.of' Tryd.func13 (by kernel_rfl) (by kernel_rfl) (by kernel_rfl) (by kernel_rfl) trivial ?_
      have c1 := rcut_form hL s hl hbig hi
      refine Wp.go (mx := true) (fun _ => mixed) [(2, {cs := [(2, cb [49] c1)]}), (3, {grd := [(3, false), (4, false), (5, false), (6, false), (7, false), (8, false), (9, false), (10, false), (11, false)]})] 100 [false, false, false] [((3 : Int) == (0 : Int)) = !true, ((3 : Int) == (0 : Int)) = !true, ((3 : Int) == (0 : Int)) = !true, ((3 : Int) == (0 : Int)) = !true, ((3 : Int) == (0 : Int)) = !true, ((3 : Int) == (0 : Int)) = !true, ((3 : Int) == (0 : Int)) = !true, ((3 : Int) == (0 : Int)) = !true, ((3 : Int) == (0 : Int)) = false, false = false, ((3 : Int) == (0 : Int)) = false, ((3 : Int) == (0 : Int)) = false] (by kernel_rfl) (by kernel_rfl) (by kernel_rfl) ⟨rfl, rfl, rfl, rfl, rfl, rfl, rfl, rfl, rfl, rfl, rfl, rfl⟩ ?_
      refine Wp.ret' (by kernel_rfl) ?_
      exact FinQ.blk [49] (by kernel_rfl) (by kernel_rfl) (by kernel_rfl) (by kernel_rfl) (by kernel_rfl) trivial
    | true =>
      by_cases hm : (linesH s).length > 25
      · rw [readH_no3 hbig hi hm]
        refine ⟨[], (hdC s).2.1, [], [], linesH s, false, ?_⟩
        refine Fn.of' Tryd.func13 (by kernel_rfl) (by kernel_rfl) (by kernel_rfl) (by kernel_rfl) trivial ?_
        have c1 := rcut_many hL s hl hbig hi hm
        refine Wp.go (mx := true) (fun _ => mixed) [(2, {cs := [(2, cb [49] c1)]}), (3, {grd := [(3, false), (4, false), (5, false), (6, false), (7, false), (8, false), (9, false), (10, false), (11, false)]})] 100 [false, false, false] [((4 : Int) == (0 : Int)) = !true, ((4 : Int) == (0 : Int)) = !true, ((4 : Int) == (0 : Int)) = !true, ((4 : Int) == (0 : Int)) = !true, ((4 : Int) == (0 : Int)) = !true, ((4 : Int) == (0 : Int)) = !true, ((4 : Int) == (0 : Int)) = !true, ((4 : Int) == (0 : Int)) = !true, ((4 : Int) == (0 : Int)) = false, false = false, ((4 : Int) == (0 : Int)) = false, ((4 : Int) == (0 : Int)) = false] (by kernel_rfl) (by kernel_rfl) (by kernel_rfl) ⟨rfl, rfl, rfl, rfl, rfl, rfl, rfl, rfl, rfl, rfl, rfl, rfl⟩ ?_
        refine Wp.ret' (by kernel_rfl) ?_
        exact FinQ.blk [49] (by kernel_rfl) (by kernel_rfl) (by kernel_rfl) (by kernel_rfl) (by kernel_rfl) trivial
      · have hsp := splitH_yes hbig hi hm
        have c1 := rcut_yes hL s hl hbig hi (by omega)
        have hfs := first_sm s
        have hfl := fldsL_sm s
        have hcl := cl_sm s
        have hfn : (fieldsL s).length < 1000000 := by unfold fieldsL; rw [List.length_drop]; omega
        have hfe : ∀ k, ((fieldsL s).getD k []).length < 1000000000 := fun k => by
          rw [List.getD_eq_getElem?_getD]
          cases hx : (fieldsL s)[k]? with
          | none => show 0 < _; omega
          | some x => have := hfl x (List.mem_of_getElem? hx); simp; omega
        have c2 := askL_ok hL (firstH s) [] [] (by omega)
        cases hf : askB (firstH s) with
        | false =>
          rw [readH_line hsp hf]
          rw [hf] at c2
          refine ⟨firstH s, (hdC s).2.1, [], [], fieldsL s, false, ?_⟩
          refine Fn.of' Tryd.func13 (by kernel_rfl) (by kernel_rfl) (by kernel_rfl) (by kernel_rfl) trivial ?_
          clear hf
          refine Wp.go (mx := true) (fun _ => mixed) [(3, {grd := [(3, true), (4, true), (5, true), (6, true), (7, true), (8, true), (9, true), (10, true)], cs := [(9, cb [0] c2)]}), (2, {cs := [(2, cb [49] c1)]})] 100 [true, false, false] [((0 : Int) == (0 : Int)) = true, ((0 : Int) == (0 : Int)) = true, ((0 : Int) == (0 : Int)) = true, ((0 : Int) == (0 : Int)) = true, ((0 : Int) == (0 : Int)) = true, ((0 : Int) == (0 : Int)) = true, ((0 : Int) == (0 : Int)) = true, ((0 : Int) == (0 : Int)) = true, (bif (0 : Int) == (0 : Int) then !false else false) = true, ((3 : Int) == (0 : Int)) = false, ((3 : Int) == (0 : Int)) = false] (by kernel_rfl) (by kernel_rfl) (by kernel_rfl) ⟨rfl, rfl, rfl, rfl, rfl, rfl, rfl, rfl, rfl, rfl, rfl⟩ ?_
          refine Wp.ent' (by kernel_rfl) (Ent.blkE (id := 49) (b := rdB (firstH s) .nilsl (hdC s).2.1 (encL (fieldsL s)) [] false) (b' := rdB (firstH s) (encH []) (hdC s).2.1 (encL (fieldsL s)) [] false) (by kernel_rfl) (rdz_eqv _ _ _) rfl) ?_
          refine Wp.ret' (by kernel_rfl) ?_
          exact FinQ.blk [49] (by kernel_rfl) (by kernel_rfl) (by kernel_rfl) (by kernel_rfl) (by kernel_rfl) trivial
        | true =>
          rw [hf] at c2
          have c3 := rfields_ok hL (firstH s) (hdC s).2.1 (fieldsL s) hfe hfn
          cases hO : fieldsO (fieldsL s) [] with
          | false =>
            rw [readH_flds hsp hf hO]
            rw [hO] at c3
            refine ⟨firstH s, (hdC s).2.1, (fGet (fieldsA (fieldsL s) []) clN).getD [], (fieldsA (fieldsL s) []).filter notCl, fieldsL s, (fGet (fieldsA (fieldsL s) []) clN).isSome, ?_⟩
            refine Fn.of' Tryd.func13 (by kernel_rfl) (by kernel_rfl) (by kernel_rfl) (by kernel_rfl) trivial ?_
            clear hf h
            refine Wp.go (mx := true) (fun _ => mixed) [(3, {grd := [(3, true), (4, true), (5, true), (6, true), (7, true), (8, true), (9, true), (10, true)], cs := [(9, cb [0] c2)]}), (2, {cs := [(2, cb [49] c1)]}), (6, {cs := [(1, cb [49] c3)]})] 100 [false, true, false] [((0 : Int) == (0 : Int)) = true, ((0 : Int) == (0 : Int)) = true, ((0 : Int) == (0 : Int)) = true, ((0 : Int) == (0 : Int)) = true, ((0 : Int) == (0 : Int)) = true, ((0 : Int) == (0 : Int)) = true, ((0 : Int) == (0 : Int)) = true, ((0 : Int) == (0 : Int)) = true, (bif (0 : Int) == (0 : Int) then !true else false) = false, ((0 : Int) == (0 : Int)) = true, ((if false = true then (0 : Int) else (3 : Int)) == (0 : Int)) = false] (by kernel_rfl) (by kernel_rfl) (by kernel_rfl) ⟨rfl, rfl, rfl, rfl, rfl, rfl, rfl, rfl, rfl, rfl, rfl⟩ ?_
            refine Wp.ret' (by kernel_rfl) ?_
            exact FinQ.blk [49] (by kernel_rfl) (by kernel_rfl) (by kernel_rfl) (by kernel_rfl) (by kernel_rfl) trivial
          | true =>
            rw [readH_end hsp hf hO] at h ⊢
            rw [hO] at c3
            have c4 := rsized_ok (G := G) (firstH s) (hdC s).2.1 ((fGet (fieldsA (fieldsL s) []) clN).getD []) (fGet (fieldsA (fieldsL s) []) clN).isSome ((fieldsA (fieldsL s) []).filter notCl) (fieldsL s) (by omega) (by omega)
            rw [show szE ((fGet (fieldsA (fieldsL s) []) clN).getD []) (fGet (fieldsA (fieldsL s) []) clN).isSome (hdC s).2.1 = bodyE (fieldsA (fieldsL s) []) (hdC s).2.1 from rfl] at c4
            by_cases he : bodyE (fieldsA (fieldsL s) []) (hdC s).2.1 = 0
            · rw [if_pos he] at h
              exact (h rfl).elim
            · rw [if_neg he]
              refine ⟨firstH s, (hdC s).2.1, (fGet (fieldsA (fieldsL s) []) clN).getD [], (fieldsA (fieldsL s) []).filter notCl, fieldsL s, (fGet (fieldsA (fieldsL s) []) clN).isSome, ?_⟩
              refine Fn.of' Tryd.func13 (by kernel_rfl) (by kernel_rfl) (by kernel_rfl) (by kernel_rfl) trivial ?_
              clear hf h
              refine Wp.go (mx := true) (fun _ => mixed) [(3, {grd := [(3, true), (4, true), (5, true), (6, true), (7, true), (8, true), (9, true), (10, true)], cs := [(9, cb [0] c2)]}), (2, {cs := [(2, cb [49] c1)]}), (6, {cs := [(1, cb [49] c3)]}), (8, {cs := [(1, cb [49] c4)]})] 100 [false, true, true] [((0 : Int) == (0 : Int)) = true, ((0 : Int) == (0 : Int)) = true, ((0 : Int) == (0 : Int)) = true, ((0 : Int) == (0 : Int)) = true, ((0 : Int) == (0 : Int)) = true, ((0 : Int) == (0 : Int)) = true, ((0 : Int) == (0 : Int)) = true, ((0 : Int) == (0 : Int)) = true, (bif (0 : Int) == (0 : Int) then !true else false) = false, ((0 : Int) == (0 : Int)) = true, ((if true = true then (0 : Int) else (3 : Int)) == (0 : Int)) = true] (by kernel_rfl) (by kernel_rfl) (by kernel_rfl) ⟨rfl, rfl, rfl, rfl, rfl, rfl, rfl, rfl, rfl, rfl, rfl⟩ ?_
              refine Wp.ret' (by kernel_rfl) ?_
              exact FinQ.blk [49] (by kernel_rfl) (by kernel_rfl) (by kernel_rfl) (by kernel_rfl) (by kernel_rfl) trivial
theorem readsQ_yes (hL : HasLen G) (s : List UInt8) (hl : s.length < 1000000000) (h : (readH askB s).2 = 0) : ∃ (f z : List UInt8) (l : List (List UInt8)) (d : Bool), FnB Tryd.prog G 13 [.box 26 [.str [], .str [], .nilsl, .str []]] [.c (.str s), .c (clo1 14 (.ptr 0 0))] [.c (.ptr 1 0), .c (.int .i64 0)] [(0, .box 26 [.str (askM (firstH s)), .str (askT (firstH s)), .nilsl, .str []]), (1, rdB f (encH (readH askB s).1) (hdC s).2.1 (encL l) z d)] := by
  have hb : (hdC s).2.1.length ≤ s.length := (cut_len s [13, 10, 13, 10]).2
  cases hbig : bigH s with
  | true => rw [readH_no1 hbig] at h; cases h
  | false =>
    cases hi : (hdC s).2.2 with
    | false => rw [readH_no2 hbig hi] at h; cases h
    | true =>
      by_cases hm : (linesH s).length > 25
      · rw [readH_no3 hbig hi hm] at h; cases h
      · have hsp := splitH_yes hbig hi hm
        have c1 := rcut_yes hL s hl hbig hi (by omega)
        have hfs := first_sm s
        have hfl := fldsL_sm s
        have hcl := cl_sm s
        have hfn : (fieldsL s).length < 1000000 := by unfold fieldsL; rw [List.length_drop]; omega
        have hfe : ∀ k, ((fieldsL s).getD k []).length < 1000000000 := fun k => by
          rw [List.getD_eq_getElem?_getD]
          cases hx : (fieldsL s)[k]? with
          | none => show 0 < _; omega
          | some x => have := hfl x (List.mem_of_getElem? hx); simp; omega
        have c2 := askL_ok hL (firstH s) [] [] (by omega)
        cases hf : askB (firstH s) with
        | false => rw [readH_line hsp hf] at h; cases h
        | true =>
          rw [hf] at c2
          have c3 := rfields_ok hL (firstH s) (hdC s).2.1 (fieldsL s) hfe hfn
          cases hO : fieldsO (fieldsL s) [] with
          | false => rw [readH_flds hsp hf hO] at h; cases h
          | true =>
            rw [readH_end hsp hf hO] at h ⊢
            rw [hO] at c3
            have c4 := rsized_ok (G := G) (firstH s) (hdC s).2.1 ((fGet (fieldsA (fieldsL s) []) clN).getD []) (fGet (fieldsA (fieldsL s) []) clN).isSome ((fieldsA (fieldsL s) []).filter notCl) (fieldsL s) (by omega) (by omega)
            rw [show szE ((fGet (fieldsA (fieldsL s) []) clN).getD []) (fGet (fieldsA (fieldsL s) []) clN).isSome (hdC s).2.1 = bodyE (fieldsA (fieldsL s) []) (hdC s).2.1 from rfl] at c4
            by_cases he : bodyE (fieldsA (fieldsL s) []) (hdC s).2.1 = 0
            · rw [if_pos he]
              rw [he] at c4
              refine ⟨firstH s, (fGet (fieldsA (fieldsL s) []) clN).getD [], fieldsL s, (fGet (fieldsA (fieldsL s) []) clN).isSome, ?_⟩
              refine Fn.of' Tryd.func13 (by kernel_rfl) (by kernel_rfl) (by kernel_rfl) (by kernel_rfl) trivial ?_
              clear hf h he
              refine Wp.go (mx := true) (fun _ => mixed) [(3, {grd := [(3, true), (4, true), (5, true), (6, true), (7, true), (8, true), (9, true), (10, true)], cs := [(9, cb [0] c2)]}), (2, {cs := [(2, cb [49] c1)]}), (6, {cs := [(1, cb [49] c3)]}), (8, {cs := [(1, cb [49] c4)]})] 100 [false, true, true] [((0 : Int) == (0 : Int)) = true, ((0 : Int) == (0 : Int)) = true, ((0 : Int) == (0 : Int)) = true, ((0 : Int) == (0 : Int)) = true, ((0 : Int) == (0 : Int)) = true, ((0 : Int) == (0 : Int)) = true, ((0 : Int) == (0 : Int)) = true, ((0 : Int) == (0 : Int)) = true, (bif (0 : Int) == (0 : Int) then !true else false) = false, ((0 : Int) == (0 : Int)) = true, ((if true = true then (0 : Int) else (3 : Int)) == (0 : Int)) = true] (by kernel_rfl) (by kernel_rfl) (by kernel_rfl) ⟨rfl, rfl, rfl, rfl, rfl, rfl, rfl, rfl, rfl, rfl, rfl⟩ ?_
              refine Wp.ret' (by kernel_rfl) ?_
              exact FinQ.blk [49] (by kernel_rfl) (by kernel_rfl) (by kernel_rfl) (by kernel_rfl) (by kernel_rfl) trivial
            · rw [if_neg he] at h
              exact (he h).elim
theorem readsR_no (hL : HasLen G) (s : List UInt8) (hl : s.length < 1000000000) (h : (readH tellB s).2 ≠ 0) : ∃ (f b z : List UInt8) (hd : List FT) (l : List (List UInt8)) (d : Bool), FnB Tryd.prog G 13 [.box 33 [.int .i64 0, .nilsl, .str []]] [.c (.str s), .c (clo1 18 (.ptr 0 0))] [.c (.ptr 1 0), .c (.int .i64 (readH tellB s).2)] [(1, rdB f (encH hd) b (encL l) z d)] := by
  have hb : (hdC s).2.1.length ≤ s.length := (cut_len s [13, 10, 13, 10]).2
  cases hbig : bigH s with
  | true =>
    rw [readH_no1 hbig]
    refine ⟨[], [], [], [], [], false, ?_⟩
    refine Fn.of' Tryd.func13 (by kernel_rfl) (by kernel_rfl) (by kernel_rfl) (by kernel_rfl) trivial ?_
    have c1 := rcut_big hL s hl hbig
    refine Wp.go (mx := true) (fun _ => mixed) [(2, {cs := [(2, cb [49] c1)]}), (3, {grd := [(3, false), (4, false), (5, false), (6, false), (7, false), (8, false), (9, false), (10, false), (11, false)]})] 100 [false, false, false] [((4 : Int) == (0 : Int)) = !true, ((4 : Int) == (0 : Int)) = !true, ((4 : Int) == (0 : Int)) = !true, ((4 : Int) == (0 : Int)) = !true, ((4 : Int) == (0 : Int)) = !true, ((4 : Int) == (0 : Int)) = !true, ((4 : Int) == (0 : Int)) = !true, ((4 : Int) == (0 : Int)) = !true, ((4 : Int) == (0 : Int)) = false, false = false, ((4 : Int) == (0 : Int)) = false, ((4 : Int) == (0 : Int)) = false] (by kernel_rfl) (by kernel_rfl) (by kernel_rfl) ⟨rfl, rfl, rfl, rfl, rfl, rfl, rfl, rfl, rfl, rfl, rfl, rfl⟩ ?_
    refine Wp.ret' (by kernel_rfl) ?_
    exact FinQ.blk [49] (by kernel_rfl) (by kernel_rfl) (by kernel_rfl) (by kernel_rfl) (by kernel_rfl) trivial
  | false =>
    cases hi : (hdC s).2.2 with
    | false =>
      rw [readH_no2 hbig hi]
      refine ⟨[], [], [], [], [], false, ?_⟩
      refine Fn.of' Tryd.func13 (by kernel_rfl) (by kernel_rfl) (by kernel_rfl) (by kernel_rfl) trivial ?_
      have c1 := rcut_form hL s hl hbig hi
      refine Wp.go (mx := true) (fun _ => mixed) [(2, {cs := [(2, cb [49] c1)]}), (3, {grd := [(3, false), (4, false), (5, false), (6, false), (7, false), (8, false), (9, false), (10, false), (11, false)]})] 100 [false, false, false] [((3 : Int) == (0 : Int)) = !true, ((3 : Int) == (0 : Int)) = !true, ((3 : Int) == (0 : Int)) = !true, ((3 : Int) == (0 : Int)) = !true, ((3 : Int) == (0 : Int)) = !true, ((3 : Int) == (0 : Int)) = !true, ((3 : Int) == (0 : Int)) = !true, ((3 : Int) == (0 : Int)) = !true, ((3 : Int) == (0 : Int)) = false, false = false, ((3 : Int) == (0 : Int)) = false, ((3 : Int) == (0 : Int)) = false] (by kernel_rfl) (by kernel_rfl) (by kernel_rfl) ⟨rfl, rfl, rfl, rfl, rfl, rfl, rfl, rfl, rfl, rfl, rfl, rfl⟩ ?_
      refine Wp.ret' (by kernel_rfl) ?_
      exact FinQ.blk [49] (by kernel_rfl) (by kernel_rfl) (by kernel_rfl) (by kernel_rfl) (by kernel_rfl) trivial
    | true =>
      by_cases hm : (linesH s).length > 25
      · rw [readH_no3 hbig hi hm]
        refine ⟨[], (hdC s).2.1, [], [], linesH s, false, ?_⟩
        refine Fn.of' Tryd.func13 (by kernel_rfl) (by kernel_rfl) (by kernel_rfl) (by kernel_rfl) trivial ?_
        have c1 := rcut_many hL s hl hbig hi hm
        refine Wp.go (mx := true) (fun _ => mixed) [(2, {cs := [(2, cb [49] c1)]}), (3, {grd := [(3, false), (4, false), (5, false), (6, false), (7, false), (8, false), (9, false), (10, false), (11, false)]})] 100 [false, false, false] [((4 : Int) == (0 : Int)) = !true, ((4 : Int) == (0 : Int)) = !true, ((4 : Int) == (0 : Int)) = !true, ((4 : Int) == (0 : Int)) = !true, ((4 : Int) == (0 : Int)) = !true, ((4 : Int) == (0 : Int)) = !true, ((4 : Int) == (0 : Int)) = !true, ((4 : Int) == (0 : Int)) = !true, ((4 : Int) == (0 : Int)) = false, false = false, ((4 : Int) == (0 : Int)) = false, ((4 : Int) == (0 : Int)) = false] (by kernel_rfl) (by kernel_rfl) (by kernel_rfl) ⟨rfl, rfl, rfl, rfl, rfl, rfl, rfl, rfl, rfl, rfl, rfl, rfl⟩ ?_
        refine Wp.ret' (by kernel_rfl) ?_
        exact FinQ.blk [49] (by kernel_rfl) (by kernel_rfl) (by kernel_rfl) (by kernel_rfl) (by kernel_rfl) trivial
      · have hsp := splitH_yes hbig hi hm
        have c1 := rcut_yes hL s hl hbig hi (by omega)
        have hfs := first_sm s
        have hfl := fldsL_sm s
        have hcl := cl_sm s
        have hfn : (fieldsL s).length < 1000000 := by unfold fieldsL; rw [List.length_drop]; omega
        have hfe : ∀ k, ((fieldsL s).getD k []).length < 1000000000 := fun k => by
          rw [List.getD_eq_getElem?_getD]
          cases hx : (fieldsL s)[k]? with
          | none => show 0 < _; omega
          | some x => have := hfl x (List.mem_of_getElem? hx); simp; omega
        have c2 := tellL_ok hL (firstH s) 0 (by omega)
        cases hf : tellB (firstH s) with
        | false =>
          rw [readH_line hsp hf]
          rw [hf] at c2
          refine ⟨firstH s, (hdC s).2.1, [], [], fieldsL s, false, ?_⟩
          refine Fn.of' Tryd.func13 (by kernel_rfl) (by kernel_rfl) (by kernel_rfl) (by kernel_rfl) trivial ?_
          clear hf
          refine Wp.go (mx := true) (fun _ => mixed) [(3, {grd := [(3, true), (4, true), (5, true), (6, true), (7, true), (8, true), (9, true), (10, true)], cs := [(9, cb [0] c2)]}), (2, {cs := [(2, cb [49] c1)]})] 100 [true, false, false] [((0 : Int) == (0 : Int)) = true, ((0 : Int) == (0 : Int)) = true, ((0 : Int) == (0 : Int)) = true, ((0 : Int) == (0 : Int)) = true, ((0 : Int) == (0 : Int)) = true, ((0 : Int) == (0 : Int)) = true, ((0 : Int) == (0 : Int)) = true, ((0 : Int) == (0 : Int)) = true, (bif (0 : Int) == (0 : Int) then !false else false) = true, ((3 : Int) == (0 : Int)) = false, ((3 : Int) == (0 : Int)) = false] (by kernel_rfl) (by kernel_rfl) (by kernel_rfl) ⟨rfl, rfl, rfl, rfl, rfl, rfl, rfl, rfl, rfl, rfl, rfl⟩ ?_
          refine Wp.ent' (by kernel_rfl) (Ent.blkE (id := 49) (b := rdB (firstH s) .nilsl (hdC s).2.1 (encL (fieldsL s)) [] false) (b' := rdB (firstH s) (encH []) (hdC s).2.1 (encL (fieldsL s)) [] false) (by kernel_rfl) (rdz_eqv _ _ _) rfl) ?_
          refine Wp.ret' (by kernel_rfl) ?_
          exact FinQ.blk [49] (by kernel_rfl) (by kernel_rfl) (by kernel_rfl) (by kernel_rfl) (by kernel_rfl) trivial
        | true =>
          rw [hf] at c2
          have c3 := rfields_ok hL (firstH s) (hdC s).2.1 (fieldsL s) hfe hfn
          cases hO : fieldsO (fieldsL s) [] with
          | false =>
            rw [readH_flds hsp hf hO]
            rw [hO] at c3
            refine ⟨firstH s, (hdC s).2.1, (fGet (fieldsA (fieldsL s) []) clN).getD [], (fieldsA (fieldsL s) []).filter notCl, fieldsL s, (fGet (fieldsA (fieldsL s) []) clN).isSome, ?_⟩
            refine Fn.of' Tryd.func13 (by kernel_rfl) (by kernel_rfl) (by kernel_rfl) (by kernel_rfl) trivial ?_
            clear hf h
            refine Wp.go (mx := true) (fun _ => mixed) [(3, {grd := [(3, true), (4, true), (5, true), (6, true), (7, true), (8, true), (9, true), (10, true)], cs := [(9, cb [0] c2)]}), (2, {cs := [(2, cb [49] c1)]}), (6, {cs := [(1, cb [49] c3)]})] 100 [false, true, false] [((0 : Int) == (0 : Int)) = true, ((0 : Int) == (0 : Int)) = true, ((0 : Int) == (0 : Int)) = true, ((0 : Int) == (0 : Int)) = true, ((0 : Int) == (0 : Int)) = true, ((0 : Int) == (0 : Int)) = true, ((0 : Int) == (0 : Int)) = true, ((0 : Int) == (0 : Int)) = true, (bif (0 : Int) == (0 : Int) then !true else false) = false, ((0 : Int) == (0 : Int)) = true, ((if false = true then (0 : Int) else (3 : Int)) == (0 : Int)) = false] (by kernel_rfl) (by kernel_rfl) (by kernel_rfl) ⟨rfl, rfl, rfl, rfl, rfl, rfl, rfl, rfl, rfl, rfl, rfl⟩ ?_
            refine Wp.ret' (by kernel_rfl) ?_
            exact FinQ.blk [49] (by kernel_rfl) (by kernel_rfl) (by kernel_rfl) (by kernel_rfl) (by kernel_rfl) trivial
          | true =>
            rw [readH_end hsp hf hO] at h ⊢
            rw [hO] at c3
            have c4 := rsized_ok (G := G) (firstH s) (hdC s).2.1 ((fGet (fieldsA (fieldsL s) []) clN).getD []) (fGet (fieldsA (fieldsL s) []) clN).isSome ((fieldsA (fieldsL s) []).filter notCl) (fieldsL s) (by omega) (by omega)
            rw [show szE ((fGet (fieldsA (fieldsL s) []) clN).getD []) (fGet (fieldsA (fieldsL s) []) clN).isSome (hdC s).2.1 = bodyE (fieldsA (fieldsL s) []) (hdC s).2.1 from rfl] at c4
            by_cases he : bodyE (fieldsA (fieldsL s) []) (hdC s).2.1 = 0
            · rw [if_pos he] at h
              exact (h rfl).elim
            · rw [if_neg he]
              refine ⟨firstH s, (hdC s).2.1, (fGet (fieldsA (fieldsL s) []) clN).getD [], (fieldsA (fieldsL s) []).filter notCl, fieldsL s, (fGet (fieldsA (fieldsL s) []) clN).isSome, ?_⟩
              refine Fn.of' Tryd.func13 (by kernel_rfl) (by kernel_rfl) (by kernel_rfl) (by kernel_rfl) trivial ?_
              clear hf h
              refine Wp.go (mx := true) (fun _ => mixed) [(3, {grd := [(3, true), (4, true), (5, true), (6, true), (7, true), (8, true), (9, true), (10, true)], cs := [(9, cb [0] c2)]}), (2, {cs := [(2, cb [49] c1)]}), (6, {cs := [(1, cb [49] c3)]}), (8, {cs := [(1, cb [49] c4)]})] 100 [false, true, true] [((0 : Int) == (0 : Int)) = true, ((0 : Int) == (0 : Int)) = true, ((0 : Int) == (0 : Int)) = true, ((0 : Int) == (0 : Int)) = true, ((0 : Int) == (0 : Int)) = true, ((0 : Int) == (0 : Int)) = true, ((0 : Int) == (0 : Int)) = true, ((0 : Int) == (0 : Int)) = true, (bif (0 : Int) == (0 : Int) then !true else false) = false, ((0 : Int) == (0 : Int)) = true, ((if true = true then (0 : Int) else (3 : Int)) == (0 : Int)) = true] (by kernel_rfl) (by kernel_rfl) (by kernel_rfl) ⟨rfl, rfl, rfl, rfl, rfl, rfl, rfl, rfl, rfl, rfl, rfl⟩ ?_
              refine Wp.ret' (by kernel_rfl) ?_
              exact FinQ.blk [49] (by kernel_rfl) (by kernel_rfl) (by kernel_rfl) (by kernel_rfl) (by kernel_rfl) trivial
theorem readsR_yes (hL : HasLen G) (s : List UInt8) (hl : s.length < 1000000000) (h : (readH tellB s).2 = 0) : ∃ (f z : List UInt8) (l : List (List UInt8)) (d : Bool), FnB Tryd.prog G 13 [.box 33 [.int .i64 0, .nilsl, .str []]] [.c (.str s), .c (clo1 18 (.ptr 0 0))] [.c (.ptr 1 0), .c (.int .i64 0)] [(0, .box 33 [.int .i64 (tellN (firstH s)), .nilsl, .str []]), (1, rdB f (encH (readH tellB s).1) (hdC s).2.1 (encL l) z d)] := by
  have hb : (hdC s).2.1.length ≤ s.length := (cut_len s [13, 10, 13, 10]).2
  cases hbig : bigH s with
  | true => rw [readH_no1 hbig] at h; cases h
  | false =>
    cases hi : (hdC s).2.2 with
    | false => rw [readH_no2 hbig hi] at h; cases h
    | true =>
      by_cases hm : (linesH s).length > 25
      · rw [readH_no3 hbig hi hm] at h; cases h
      · have hsp := splitH_yes hbig hi hm
        have c1 := rcut_yes hL s hl hbig hi (by omega)
        have hfs := first_sm s
        have hfl := fldsL_sm s
        have hcl := cl_sm s
        have hfn : (fieldsL s).length < 1000000 := by unfold fieldsL; rw [List.length_drop]; omega
        have hfe : ∀ k, ((fieldsL s).getD k []).length < 1000000000 := fun k => by
          rw [List.getD_eq_getElem?_getD]
          cases hx : (fieldsL s)[k]? with
          | none => show 0 < _; omega
          | some x => have := hfl x (List.mem_of_getElem? hx); simp; omega
        have c2 := tellL_ok hL (firstH s) 0 (by omega)
        cases hf : tellB (firstH s) with
        | false => rw [readH_line hsp hf] at h; cases h
        | true =>
          rw [hf] at c2
          have c3 := rfields_ok hL (firstH s) (hdC s).2.1 (fieldsL s) hfe hfn
          cases hO : fieldsO (fieldsL s) [] with
          | false => rw [readH_flds hsp hf hO] at h; cases h
          | true =>
            rw [readH_end hsp hf hO] at h ⊢
            rw [hO] at c3
            have c4 := rsized_ok (G := G) (firstH s) (hdC s).2.1 ((fGet (fieldsA (fieldsL s) []) clN).getD []) (fGet (fieldsA (fieldsL s) []) clN).isSome ((fieldsA (fieldsL s) []).filter notCl) (fieldsL s) (by omega) (by omega)
            rw [show szE ((fGet (fieldsA (fieldsL s) []) clN).getD []) (fGet (fieldsA (fieldsL s) []) clN).isSome (hdC s).2.1 = bodyE (fieldsA (fieldsL s) []) (hdC s).2.1 from rfl] at c4
            by_cases he : bodyE (fieldsA (fieldsL s) []) (hdC s).2.1 = 0
            · rw [if_pos he]
              rw [he] at c4
              refine ⟨firstH s, (fGet (fieldsA (fieldsL s) []) clN).getD [], fieldsL s, (fGet (fieldsA (fieldsL s) []) clN).isSome, ?_⟩
              refine Fn.of' Tryd.func13 (by kernel_rfl) (by kernel_rfl) (by kernel_rfl) (by kernel_rfl) trivial ?_
              clear hf h he
              refine Wp.go (mx := true) (fun _ => mixed) [(3, {grd := [(3, true), (4, true), (5, true), (6, true), (7, true), (8, true), (9, true), (10, true)], cs := [(9, cb [0] c2)]}), (2, {cs := [(2, cb [49] c1)]}), (6, {cs := [(1, cb [49] c3)]}), (8, {cs := [(1, cb [49] c4)]})] 100 [false, true, true] [((0 : Int) == (0 : Int)) = true, ((0 : Int) == (0 : Int)) = true, ((0 : Int) == (0 : Int)) = true, ((0 : Int) == (0 : Int)) = true, ((0 : Int) == (0 : Int)) = true, ((0 : Int) == (0 : Int)) = true, ((0 : Int) == (0 : Int)) = true, ((0 : Int) == (0 : Int)) = true, (bif (0 : Int) == (0 : Int) then !true else false) = false, ((0 : Int) == (0 : Int)) = true, ((if true = true then (0 : Int) else (3 : Int)) == (0 : Int)) = true] (by kernel_rfl) (by kernel_rfl) (by kernel_rfl) ⟨rfl, rfl, rfl, rfl, rfl, rfl, rfl, rfl, rfl, rfl, rfl⟩ ?_
              refine Wp.ret' (by kernel_rfl) ?_
              exact FinQ.blk [49] (by kernel_rfl) (by kernel_rfl) (by kernel_rfl) (by kernel_rfl) (by kernel_rfl) trivial
            · rw [if_neg he] at h
              exact (he h).elim
end Go.Proofs.Tw
end

section
open Go Go.Sv Go.RowKit
namespace Go.Proofs.Tw
attribute [local irreducible] Wp FinQ resV Ent Pur Go.Sv.Fn Sat0
set_option maxRecDepth 100000
set_option maxHeartbeats 4000000
variable {G : Nat → Option (List Cell)}

theorem parseQ_ok (hL : HasLen G) (s : List UInt8) (hl : s.length < 1000000000) : Pur Tryd.prog G 6 [.c (.str s)] [.agg (encQ (parseQ s).1), .c (.int .i64 (parseQ s).2)] := by
  have e0 : EqvD (.agg [.str [], .str [], .nilsl, .str []]) (.agg (encQ QT.nil)) := agg_eqv (.cons CEq.rfl' (.cons CEq.rfl' (.cons CEq.nil (.cons CEq.rfl' .nil))))
  cases hr : decide ((readH askB s).2 = 0) with
  | false =>
    have hr := of_decide_eq_false hr
    obtain ⟨f, b, z, hd, l, d, c⟩ := readsQ_no hL s hl hr
    have hp : parseQ s = (QT.nil, (readH askB s).2) := by unfold parseQ; rw [if_neg hr]
    rw [hp]
    have ht : ((readH askB s).2 != 0) = true := bne_iff_ne.2 hr
    generalize (readH askB s).2 = e at c ht
    clear hr hp
    refine Pur.of Tryd.func6 (by kernel_rfl) (by kernel_rfl) (by kernel_rfl) ?_
    refine Wp.go (mx := true) (fun _ => mixed) [(2, {cs := [(2, cb [32] c)], fm := [(1, .c (clo1 14 (.ptr 32 0)))]}), (4, {fm := [(0, .agg (encQ QT.nil))]})] 100 [true] [EqvI (V1.c (cloRaw (14 : Nat) [V1.c (Cell.ptr (32 : Nat) (0 : Nat))])) (V1.c (clo1 (14 : FuncId) (Cell.ptr (32 : Nat) (0 : Nat)))), EqvD (V1.c (cloRaw (14 : Nat) [V1.c (Cell.ptr (32 : Nat) (0 : Nat))])) (V1.c (clo1 (14 : FuncId) (Cell.ptr (32 : Nat) (0 : Nat)))), (e != (0 : Int)) = true, EqvI (V1.agg [Cell.str [], Cell.str [], Cell.nilsl, Cell.str []]) (V1.agg (encQ QT.nil)), EqvD (V1.agg [Cell.str [], Cell.str [], Cell.nilsl, Cell.str []]) (V1.agg (encQ QT.nil))] (by kernel_rfl) (by kernel_rfl) (by kernel_rfl) ⟨clo1_I _ _, clo1_D _ _, (by assumption), eqvI_flat _ _ (by kernel_rfl), (show EqvD (V1.agg [Cell.str [], Cell.str [], Cell.nilsl, Cell.str []]) (V1.agg (encQ QT.nil)) from (by assumption))⟩ ?_
    refine Wp.ret' (by kernel_rfl) ?_
    exact FinQ.pure (rs' := [V1.agg [Cell.str QT.nil.method, Cell.str QT.nil.target, Cell.sl (2 : Nat) QT.nil.head.length fun (i j : Nat) => nthD (encF (QT.nil.head.getD i FT.nil)) j, Cell.str QT.nil.body], V1.c (Cell.int .i64 e)]) (by kernel_rfl) rfl (by kernel_rfl)
  | true =>
    have hr := of_decide_eq_true hr
    obtain ⟨f, z, l, d, c⟩ := readsQ_yes hL s hl hr
    have hp : parseQ s = (⟨askM (firstH s), askT (firstH s), (readH askB s).1, (hdC s).2.1⟩, 0) := by unfold parseQ; rw [if_pos hr]
    rw [hp]
    have ht : ((0 : Int) != 0) = false := rfl
    generalize (readH askB s).1 = H at c
    clear hr hp
    refine Pur.of Tryd.func6 (by kernel_rfl) (by kernel_rfl) (by kernel_rfl) ?_
    refine Wp.go (mx := true) (fun _ => mixed) [(2, {cs := [(2, cb [32] c)], fm := [(1, .c (clo1 14 (.ptr 32 0)))]})] 100 [false] [EqvI (V1.c (cloRaw (14 : Nat) [V1.c (Cell.ptr (32 : Nat) (0 : Nat))])) (V1.c (clo1 (14 : FuncId) (Cell.ptr (32 : Nat) (0 : Nat)))), EqvD (V1.c (cloRaw (14 : Nat) [V1.c (Cell.ptr (32 : Nat) (0 : Nat))])) (V1.c (clo1 (14 : FuncId) (Cell.ptr (32 : Nat) (0 : Nat)))), ((0 : Int) != (0 : Int)) = false] (by kernel_rfl) (by kernel_rfl) (by kernel_rfl) ⟨clo1_I _ _, clo1_D _ _, rfl⟩ ?_
    refine Wp.ret' (by kernel_rfl) ?_
    exact FinQ.pure (rs' := [V1.agg [Cell.str (askM (firstH s)), Cell.str (askT (firstH s)), Cell.sl (2 : Nat) H.length fun (i j : Nat) => nthD (encF (H.getD i FT.nil)) j, Cell.str (hdC s).2.fst], V1.c (Cell.int .i64 (0 : Int))]) (by kernel_rfl) rfl (by kernel_rfl)
theorem parseR_ok (hL : HasLen G) (s : List UInt8) (hl : s.length < 1000000000) : Pur Tryd.prog G 7 [.c (.str s)] [.agg (encT (parseR s).1), .c (.int .i64 (parseR s).2)] := by
  have e0 : EqvD (.agg [.int .i64 0, .nilsl, .str []]) (.agg (encT nilR)) := agg_eqv (.cons CEq.rfl' (.cons CEq.nil (.cons CEq.rfl' .nil)))
  cases hr : decide ((readH tellB s).2 = 0) with
  | false =>
    have hr := of_decide_eq_false hr
    obtain ⟨f, b, z, hd, l, d, c⟩ := readsR_no hL s hl hr
    have hp : parseR s = (nilR, (readH tellB s).2) := by unfold parseR; rw [if_neg hr]
    rw [hp]
    have ht : ((readH tellB s).2 != 0) = true := bne_iff_ne.2 hr
    generalize (readH tellB s).2 = e at c ht
    clear hr hp
    refine Pur.of Tryd.func7 (by kernel_rfl) (by kernel_rfl) (by kernel_rfl) ?_
    refine Wp.go (mx := true) (fun _ => mixed) [(2, {cs := [(2, cb [32] c)], fm := [(1, .c (clo1 18 (.ptr 32 0)))]}), (4, {fm := [(0, .agg (encT nilR))]})] 100 [true] [EqvI (V1.c (cloRaw (18 : Nat) [V1.c (Cell.ptr (32 : Nat) (0 : Nat))])) (V1.c (clo1 (18 : FuncId) (Cell.ptr (32 : Nat) (0 : Nat)))), EqvD (V1.c (cloRaw (18 : Nat) [V1.c (Cell.ptr (32 : Nat) (0 : Nat))])) (V1.c (clo1 (18 : FuncId) (Cell.ptr (32 : Nat) (0 : Nat)))), (e != (0 : Int)) = true, EqvI (V1.agg [Cell.int .i64 (0 : Int), Cell.nilsl, Cell.str []]) (V1.agg (encT nilR)), EqvD (V1.agg [Cell.int .i64 (0 : Int), Cell.nilsl, Cell.str []]) (V1.agg (encT nilR))] (by kernel_rfl) (by kernel_rfl) (by kernel_rfl) ⟨clo1_I _ _, clo1_D _ _, (by assumption), eqvI_flat _ _ (by kernel_rfl), (show EqvD (V1.agg [Cell.int .i64 (0 : Int), Cell.nilsl, Cell.str []]) (V1.agg (encT nilR)) from (by assumption))⟩ ?_
    refine Wp.ret' (by kernel_rfl) ?_
    exact FinQ.pure (rs' := [V1.agg [Cell.int .i64 nilR.status, Cell.sl (2 : Nat) nilR.head.length fun (i j : Nat) => nthD (encF (nilR.head.getD i FT.nil)) j, Cell.str nilR.body], V1.c (Cell.int .i64 e)]) (by kernel_rfl) rfl (by kernel_rfl)
  | true =>
    have hr := of_decide_eq_true hr
    obtain ⟨f, z, l, d, c⟩ := readsR_yes hL s hl hr
    have hp : parseR s = (⟨tellN (firstH s), (readH tellB s).1, (hdC s).2.1⟩, 0) := by unfold parseR; rw [if_pos hr]
    rw [hp]
    have ht : ((0 : Int) != 0) = false := rfl
    generalize (readH tellB s).1 = H at c
    clear hr hp
    refine Pur.of Tryd.func7 (by kernel_rfl) (by kernel_rfl) (by kernel_rfl) ?_
    refine Wp.go (mx := true) (fun _ => mixed) [(2, {cs := [(2, cb [32] c)], fm := [(1, .c (clo1 18 (.ptr 32 0)))]})] 100 [false] [EqvI (V1.c (cloRaw (18 : Nat) [V1.c (Cell.ptr (32 : Nat) (0 : Nat))])) (V1.c (clo1 (18 : FuncId) (Cell.ptr (32 : Nat) (0 : Nat)))), EqvD (V1.c (cloRaw (18 : Nat) [V1.c (Cell.ptr (32 : Nat) (0 : Nat))])) (V1.c (clo1 (18 : FuncId) (Cell.ptr (32 : Nat) (0 : Nat)))), ((0 : Int) != (0 : Int)) = false] (by kernel_rfl) (by kernel_rfl) (by kernel_rfl) ⟨clo1_I _ _, clo1_D _ _, rfl⟩ ?_
    refine Wp.ret' (by kernel_rfl) ?_
    exact FinQ.pure (rs' := [V1.agg [Cell.int .i64 (tellN (firstH s)), Cell.sl (2 : Nat) H.length fun (i j : Nat) => nthD (encF (H.getD i FT.nil)) j, Cell.str (hdC s).2.fst], V1.c (Cell.int .i64 (0 : Int))]) (by kernel_rfl) rfl (by kernel_rfl)
end Go.Proofs.Tw
end

section
open Go Go.Sv
namespace Go.Proofs.Tw
attribute [local irreducible] Wp FinQ resV Ent Pur Go.Sv.Fn Sat0
set_option maxRecDepth 100000
set_option maxHeartbeats 4000000
variable {G : Nat → Option (List Cell)}

end Go.Proofs.Tw
end

section
open Go Go.Sv
namespace Go.Proofs.Tw
attribute [local irreducible] Wp FinQ resV Ent Pur Go.Sv.Fn Sat0
set_option maxRecDepth 100000
set_option maxHeartbeats 4000000
variable {G : Nat → Option (List Cell)}

end Go.Proofs.Tw
end

section
open Go Go.Sv
namespace Go.Proofs.Tw
attribute [local irreducible] Wp FinQ resV Ent Pur Go.Sv.Fn Sat0
set_option maxRecDepth 100000
set_option maxHeartbeats 4000000
variable {G : Nat → Option (List Cell)}

theorem idx_at (a t r : List UInt8) (c : UInt8) (h : c ∉ a) : Lib.index (a ++ (c :: r) ++ t) (c :: r) = a.length := by
  refine Lib.index_first (by simp only [List.length_append]; omega) ?_ (fun j hj => ?_)
  · unfold Lib.occAt
    rw [List.append_assoc, List.drop_left]
    exact List.isPrefixOf_iff_prefix.2 (List.prefix_append _ _)
  · unfold Lib.occAt
    have hx : (a ++ (c :: r) ++ t).drop j = a.getD j 0 :: (a ++ (c :: r) ++ t).drop (j + 1) := by
      rw [dropS _ j (by simp only [List.length_append]; omega)]
      congr 1
      rw [List.append_assoc, List.getD_eq_getElem?_getD, List.getD_eq_getElem?_getD, List.getElem?_append_left hj]
    rw [hx, List.isPrefixOf]
    have : (c == a.getD j 0) = false := by
      rw [beq_eq_false_iff_ne]
      rintro rfl
      exact h (by rw [List.getD_eq_getElem?_getD, List.getElem?_eq_getElem hj]; exact List.getElem_mem hj)
    rw [this]; rfl
theorem cut_at (a t r : List UInt8) (c : UInt8) (h : c ∉ a) : Lib.cut (a ++ (c :: r) ++ t) (c :: r) = (a, t, true) := by
  unfold Lib.cut
  rw [idx_at a t r c h, if_pos (by omega)]
  have e : ((a.length : Nat) : Int).toNat = a.length := by omega
  rw [e, List.append_assoc, List.take_left, ← List.append_assoc, show a.length + (c :: r).length = (a ++ (c :: r)).length from by simp, List.drop_left]
end Go.Proofs.Tw
end

section
open Go Go.Sv Go.RowKit
namespace Go.Proofs.Tw
attribute [local irreducible] Wp FinQ resV Ent Pur Go.Sv.Fn Sat0
set_option maxRecDepth 100000
set_option maxHeartbeats 4000000
variable {G : Nat → Option (List Cell)}

end Go.Proofs.Tw
end

section
open Go Go.Sv Go.RowKit
namespace Go.Proofs.Tw
attribute [local irreducible] Wp FinQ resV Ent Pur Go.Sv.Fn Sat0
set_option maxRecDepth 100000
set_option maxHeartbeats 4000000
variable {G : Nat → Option (List Cell)}

end Go.Proofs.Tw
end

section
open Go Go.Sv Go.RowKit
namespace Go.Proofs.Tw
attribute [local irreducible] Wp FinQ resV Ent Pur Go.Sv.Fn Sat0
set_option maxRecDepth 100000
set_option maxHeartbeats 4000000
variable {G : Nat → Option (List Cell)}

def httpV : List UInt8 := [72, 84, 84, 80, 47, 49, 46, 49]
theorem dig_seen {t : List UInt8} (h : t.all digitB = true) : t.all seenB = true := by
  rw [List.all_eq_true] at h ⊢
  intro c hc
  have : ∀ c : UInt8, (!digitB c || seenB c) = true := byte_all _ (by kernel_rfl)
  have := this c
  rw [h c hc] at this
  simpa using this
end Go.Proofs.Tw
end

section
open Go Go.Sv Go.RowKit
namespace Go.Proofs.Tw
attribute [local irreducible] Wp FinQ resV Ent Pur Go.Sv.Fn Sat0
set_option maxRecDepth 100000
set_option maxHeartbeats 4000000
variable {G : Nat → Option (List Cell)}

theorem filter_none {l : List FT} (h : fGet l clN = none) : l.filter notCl = l := by
  rw [List.filter_eq_self]
  intro f hf
  unfold notCl
  cases hc : f.name == clN with
  | false => rfl
  | true =>
    have : (fGet l clN).isSome = true := by rw [← fGet_con, List.contains_iff_mem]; exact List.mem_map.2 ⟨f, hf, eq_of_beq hc⟩
    rw [h] at this
    cases this
end Go.Proofs.Tw
end

section
open Go Go.Sv Go.RowKit
namespace Go.Proofs.Tw
attribute [local irreducible] Wp FinQ resV Ent Pur Go.Sv.Fn Sat0
set_option maxRecDepth 100000
set_option maxHeartbeats 4000000
variable {G : Nat → Option (List Cell)}

end Go.Proofs.Tw
end

section
open Go Go.Sv Go.RowKit
namespace Go.Proofs.Tw
attribute [local irreducible] Wp FinQ resV Ent Pur Go.Sv.Fn Sat0
set_option maxRecDepth 100000
set_option maxHeartbeats 4000000
variable {G : Nat → Option (List Cell)}

def askedM (r : QT) : MT := ⟨r.method ++ [32] ++ r.target ++ [32] ++ httpV, r.head, r.body⟩
theorem asked_ok (r : QT) (h1 : r.method.length < 1000000000) (h2 : r.target.length < 1000000000) : Pur Tryd.prog G 24 [.agg (encQ r)] [.agg (encM (askedM r) ++ encQ r)] := by
  refine Pur.of Tryd.func24 (by kernel_rfl) (by kernel_rfl) (by kernel_rfl) ?_
  have q1 : r.method.length + 1 ≤ 9223372036854775807 := by omega
  have q2 : (r.method ++ [32]).length + r.target.length ≤ 9223372036854775807 := by simp; omega
  have q3 : (r.method ++ [32] ++ r.target).length + 1 ≤ 9223372036854775807 := by simp; omega
  have q4 : (r.method ++ [32] ++ r.target ++ [32]).length + 8 ≤ 9223372036854775807 := by simp; omega
  refine Wp.go (mx := true) (fun _ => mixed) [] 100 [] [r.method.length + (1 : Nat) ≤ (9223372036854775807 : Nat), (r.method ++ [(32 : UInt8)]).length + r.target.length ≤ (9223372036854775807 : Nat), (r.method ++ [(32 : UInt8)] ++ r.target).length + (1 : Nat) ≤ (9223372036854775807 : Nat), (r.method ++ [(32 : UInt8)] ++ r.target ++ [(32 : UInt8)]).length + (8 : Nat) ≤ (9223372036854775807 : Nat)] (by kernel_rfl) (by kernel_rfl) (by kernel_rfl) ⟨(by assumption), (by assumption), (by assumption), (show (r.method ++ [(32 : UInt8)] ++ r.target ++ [(32 : UInt8)]).length + (8 : Nat) ≤ (9223372036854775807 : Nat) from (by assumption))⟩ ?_
  refine Wp.ret' (by kernel_rfl) ?_
  exact FinQ.pure (rs' := [V1.agg [Cell.str (r.method ++ [(32 : UInt8)] ++ r.target ++ [(32 : UInt8)] ++ [(72 : UInt8), 84, 84, 80, 47, 49, 46, 49]), Cell.sl (2 : Nat) r.head.length fun (i j : Nat) => nthD (encF (r.head.getD i FT.nil)) j, Cell.str r.body, Cell.str r.method, Cell.str r.target, Cell.sl (2 : Nat) r.head.length fun (i j : Nat) => nthD (encF (r.head.getD i FT.nil)) j, Cell.str r.body]]) (by kernel_rfl) rfl (by kernel_rfl)
def mayAskT (r : QT) : Bool := bif linedT r.method r.target then mayM (askedM r) else false
structure FitQ (r : QT) : Prop where
  h1 : r.method.length < 1000000000
  h2 : r.target.length < 1000000000
  h3 : FitM (askedM r)
theorem mayAsk_ok (hp : HasPow G) (r : QT) (h : FitQ r) : Pur Tryd.prog G 10 [.agg (encQ r)] [.c (.bool (mayAskT r))] := by
  refine Pur.of Tryd.func10 (by kernel_rfl) (by kernel_rfl) (by kernel_rfl) ?_
  have c1 := lined_ok (G := G) r.method r.target (Nat.lt_trans h.h1 (by decide)) (Nat.lt_trans h.h2 (by decide))
  have c2 := asked_ok (G := G) r h.h1 h.h2
  have c3 := mayM_ok hp (askedM r) h.h3
  unfold mayAskT
  refine Wp.go (mx := true) (fun _ => mixed) [(1, {cs := [(4, pc c1), (7, pc c2), (9, pc c3)]})] 100 [] [] (by kernel_rfl) (by kernel_rfl) (by kernel_rfl) trivial ?_
  refine Wp.ret' (by kernel_rfl) ?_
  exact FinQ.pure (rs' := [V1.c (Cell.bool (bif linedT r.method r.target then mayM (askedM r) else false))]) (by kernel_rfl) rfl (by kernel_rfl)
def printAskT (r : QT) : List UInt8 := if mayAskT r then aheadT (askedM r) ++ r.body else []
theorem printAsk_ok (hp : HasPow G) (r : QT) (h : FitQ r) : Pur Tryd.prog G 9 [.agg (encQ r)] [.c (.str (printAskT r))] := by
  refine Pur.of Tryd.func9 (by kernel_rfl) (by kernel_rfl) (by kernel_rfl) ?_
  have c1 := mayAsk_ok hp r h
  have c2 := asked_ok (G := G) r h.h1 h.h2
  have c3 : Pur Tryd.prog G 25 [.agg (encM (askedM r))] [.c (.str (aheadT (askedM r) ++ r.body))] := printM_ok hp (askedM r) h.h3
  unfold printAskT
  generalize aheadT (askedM r) ++ r.body = S at c3 ⊢
  cases hm : mayAskT r with
  | true =>
    rw [if_pos rfl]
    rw [hm] at c1
    clear hm
    refine Wp.go (mx := true) (fun _ => mixed) [(1, {cs := [(1, pc c1)]}), (3, {cs := [(1, pc c2), (3, pc c3)]})] 100 [false] [(!true) = false] (by kernel_rfl) (by kernel_rfl) (by kernel_rfl) rfl ?_
    refine Wp.ret' (by kernel_rfl) ?_
    exact FinQ.pure (rs' := [V1.c (Cell.str S)]) (by kernel_rfl) rfl (by kernel_rfl)
  | false =>
    rw [if_neg (by decide)]
    rw [hm] at c1
    clear hm
    refine Wp.go (mx := true) (fun _ => mixed) [(1, {cs := [(1, pc c1)]})] 100 [true] [(!false) = true] (by kernel_rfl) (by kernel_rfl) (by kernel_rfl) rfl ?_
    refine Wp.ret' (by kernel_rfl) ?_
    exact FinQ.pure (rs' := [V1.c (Cell.str [])]) (by kernel_rfl) rfl (by kernel_rfl)
theorem mayTell_any (hp : HasPow G) (r : RT) (h : 0 ≤ r.status → r.status ≤ 1000 → FitM (toldM r)) : Pur Tryd.prog G 11 [.agg (encT r)] [.c (.bool (mayTell r))] := by
  cases hs : statedT r.status with
  | true =>
    have hs' := hs
    unfold statedT at hs'
    rw [Bool.cond_false_right, Bool.and_eq_true, decide_eq_true_eq, decide_eq_true_eq] at hs'
    exact mayTell_ok hp r (by omega) (by omega) (h (by omega) (by omega))
  | false =>
    refine Pur.of Tryd.func11 (by kernel_rfl) (by kernel_rfl) (by kernel_rfl) ?_
    have c := stated_ok (G := G) r.status
    rw [show mayTell r = false from by unfold mayTell; rw [hs]; rfl]
    rw [hs] at c
    clear hs
    refine Wp.go (mx := true) (fun _ => mixed) [(1, {grd := [(4, false), (5, false), (6, false), (7, false), (8, false)], cs := [(2, pc c)]})] 100 [] [false = !true, false = !true, false = !true, false = !true, false = false] (by kernel_rfl) (by kernel_rfl) (by kernel_rfl) ⟨rfl, rfl, rfl, rfl, rfl⟩ ?_
    refine Wp.ret' (by kernel_rfl) ?_
    exact FinQ.pure (rs' := [V1.c (Cell.bool false)]) (by kernel_rfl) rfl (by kernel_rfl)
theorem printTell_any (hp : HasPow G) (r : RT) (h : 0 ≤ r.status → r.status ≤ 1000 → FitM (toldM r)) : Pur Tryd.prog G 12 [.agg (encT r)] [.c (.str (printTell r))] := by
  cases hs : statedT r.status with
  | true =>
    have hs' := hs
    unfold statedT at hs'
    rw [Bool.cond_false_right, Bool.and_eq_true, decide_eq_true_eq, decide_eq_true_eq] at hs'
    exact printTell_ok hp r (by omega) (by omega) (h (by omega) (by omega))
  | false =>
    refine Pur.of Tryd.func12 (by kernel_rfl) (by kernel_rfl) (by kernel_rfl) ?_
    have c := mayTell_any hp r h
    have hm : mayTell r = false := by unfold mayTell; rw [hs]; rfl
    rw [show printTell r = [] from by unfold printTell; rw [hm]; rfl]
    rw [hm] at c
    clear hs hm
    refine Wp.go (mx := true) (fun _ => mixed) [(1, {cs := [(1, pc c)]})] 100 [true] [(!false) = true] (by kernel_rfl) (by kernel_rfl) (by kernel_rfl) rfl ?_
    refine Wp.ret' (by kernel_rfl) ?_
    exact FinQ.pure (rs' := [V1.c (Cell.str [])]) (by kernel_rfl) rfl (by kernel_rfl)
def okF (f : FT) : Bool := tokenT f.name && ((foldT f.name == f.name) && (!(f.name == clN) && f.value.all seenB))
def mostT (b : List UInt8) : Int := if b == [] then 24 else 23
def headT (l : List FT) (b : List UInt8) : Bool := l.all okF && (decide ((l.length : Int) ≤ mostT b) && (unlikeQ l && decide ((b.length : Int) ≤ 4096)))
def clL (b : List UInt8) : List UInt8 := if b == [] then [] else [99, 111, 110, 116, 101, 110, 116, 45, 108, 101, 110, 103, 116, 104, 58, 32] ++ Lib.itoa b.length ++ [13, 10]
def linesT (l : List FT) (b : List UInt8) : List UInt8 := l.flatMap fieldL ++ clL b ++ [13, 10]
theorem ahead_lines (m : MT) : aheadT m = m.first ++ [13, 10] ++ linesT m.head m.body := by
  unfold aheadT headN linesT lenL clL
  rw [List.take_length]
  simp
end Go.Proofs.Tw
end

section
open Go Go.Sv Go.RowKit
namespace Go.Proofs.Tw
attribute [local irreducible] Wp FinQ resV Ent Pur Go.Sv.Fn Sat0
set_option maxRecDepth 100000
set_option maxHeartbeats 4000000
variable {G : Nat → Option (List Cell)}

theorem fieldsOk_iff : ∀ (l : List FT) (seen : List (List UInt8)), fieldsOk seen l = true ↔ ∀ i, i < l.length → fOk (seen ++ (l.take i).map (·.name)) (l.getD i .nil) = true
  | [], seen => by simp [fieldsOk]
  | x :: r, seen => by
    rw [fieldsOk, Bool.and_eq_true, fieldsOk_iff r]
    constructor
    · rintro ⟨h0, h⟩ i hi
      cases i with
      | zero => simpa using h0
      | succ i =>
        have := h i (by simpa using hi)
        simpa using this
    · intro h
      refine ⟨by simpa using h 0 (by simp), fun i hi => ?_⟩
      have := h (i + 1) (by simpa using hi)
      simpa using this
theorem fOk_iff (names : List (List UInt8)) (f : FT) : fOk ([clN] ++ names) f = true ↔ okF f = true ∧ names.contains f.name = false := by
  unfold fOk okF
  rw [List.contains_append]
  have : ([clN] : List (List UInt8)).contains f.name = (f.name == clN) := by rw [Bool.eq_iff_iff]; simp
  rw [this]
  cases tokenT f.name <;> cases (foldT f.name == f.name) <;> cases (f.name == clN) <;> cases f.value.all seenB <;> cases names.contains f.name <;> simp
theorem fieldsOk_eq (l : List FT) : fieldsOk [clN] l = (l.all okF && unlikeQ l) := by
  rw [Bool.eq_iff_iff, fieldsOk_iff, Bool.and_eq_true]
  have hall : l.all okF = true ↔ ∀ i, i < l.length → okF (l.getD i .nil) = true := by
    rw [List.all_eq_true]
    constructor
    · intro h i hi
      exact h _ (by simp [List.getD, hi])
    · intro h x hx
      obtain ⟨i, hi, rfl⟩ := List.getElem_of_mem hx
      have := h i hi
      simpa [List.getD, hi] using this
  have hunl : unlikeQ l = true ↔ ∀ i, i < l.length → okQ l i = true := by
    unfold unlikeQ
    rw [List.all_eq_true]
    exact ⟨fun h i hi => h i (List.mem_range.2 hi), fun h i hi => h i (List.mem_range.1 hi)⟩
  rw [hall, hunl]
  have hq : ∀ i, okQ l i = (!((l.getD i .nil).name == []) && !((l.take i).map (·.name)).contains (l.getD i .nil).name) := fun i => by
    unfold okQ; rw [← fGet_isIn, ← fGet_con]
  constructor
  · intro h
    refine ⟨fun i hi => ((fOk_iff _ _).1 (h i hi)).1, fun i hi => ?_⟩
    obtain ⟨h1, h2⟩ := (fOk_iff _ _).1 (h i hi)
    rw [hq, h2]
    have : tokenT (l.getD i .nil).name = true := by unfold okF at h1; rw [Bool.and_eq_true] at h1; exact h1.1
    unfold tokenT at this
    rw [Bool.and_eq_true] at this
    rw [this.1]; rfl
  · rintro ⟨h1, h2⟩ i hi
    refine (fOk_iff _ _).2 ⟨h1 i hi, ?_⟩
    have := h2 i hi
    rw [hq, Bool.and_eq_true] at this
    simpa using this.2
theorem mayM_eq (m : MT) : mayM m = (headT m.head m.body && decide (((aheadT m).length : Int) ≤ 2048)) := by
  unfold mayM fieldedT headT
  rw [show fieldsOk [[99, 111, 110, 116, 101, 110, 116, 45, 108, 101, 110, 103, 116, 104]] m.head = fieldsOk [clN] m.head from rfl, fieldsOk_eq, show roomT m = mostT m.body from rfl]
  cases m.head.all okF <;> cases unlikeQ m.head <;> cases decide ((m.head.length : Int) ≤ mostT m.body) <;> cases decide ((m.body.length : Int) ≤ 4096) <;> cases decide (((aheadT m).length : Int) ≤ 2048) <;> rfl
def firstQ (r : QT) : List UInt8 := r.method ++ [32] ++ r.target ++ [32, 72, 84, 84, 80, 47, 49, 46, 49] ++ [13, 10]
def firstR (r : RT) : List UInt8 := verS ++ Lib.itoa r.status ++ [32] ++ reasonT r.status ++ [13, 10]
theorem ahead_Q (r : QT) : aheadT (askedM r) = firstQ r ++ linesT r.head r.body := by
  rw [ahead_lines]
  unfold askedM firstQ httpV
  simp
theorem ahead_R (r : RT) : aheadT (toldM r) = firstR r ++ linesT r.head r.body := by
  rw [ahead_lines]
  unfold toldM firstR verS
  simp
structure FitH (l : List FT) (b : List UInt8) : Prop where
  hn : l.length < 1000000000
  hs : ∀ f ∈ l, f.name.length < 1000000000 ∧ f.value.length < 1000000000
  hb : b.length < 1000000000
  hl : (linesT l b).length ≤ 90000000000000
theorem FitH.q {r : QT} (h : FitH r.head r.body) (h1 : r.method.length < 1000000000) (h2 : r.target.length < 1000000000) : FitQ r := by
  refine ⟨h1, h2, Nat.lt_trans h.hn (by decide), fun f hf => ?_, ?_, ?_⟩
  · have := h.hs f hf; omega
  · have := h.hb; show r.body.length ≤ _; omega
  · rw [ahead_Q]
    unfold firstQ
    have := h.hl
    simp only [List.length_append, List.length_cons, List.length_nil]
    omega
theorem FitH.r {r : RT} (h : FitH r.head r.body) (h0 : 0 ≤ r.status) (h1 : r.status ≤ 1000) : FitM (toldM r) := by
  refine ⟨Nat.lt_trans h.hn (by decide), fun f hf => ?_, ?_, ?_⟩
  · have := h.hs f hf; omega
  · have := h.hb; show r.body.length ≤ _; omega
  · rw [ahead_R]
    unfold firstR verS
    have := h.hl
    have h3 := itoa_len r.status h0 h1
    have h4 := reason_len r.status
    simp only [List.length_append, List.length_cons, List.length_nil]
    omega
end Go.Proofs.Tw
end

section
open Go Go.Sv
namespace Go.Proofs.Tw
set_option maxRecDepth 100000
set_option maxHeartbeats 4000000

structure Flat (v : JV) : Prop where
  h1 : v.names.length ≤ 3
  h2 : v.kids.length ≤ 3
  h3 : v.kind = 6 → v.kids.length ≤ v.names.length
  h4 : ∀ x ∈ v.names, x.length ≤ 2
  h5 : v.s.length ≤ 20
  h6 : -4611686018427387904 ≤ v.n
  h7 : v.n ≤ 4611686018427387904
  h8 : (Lib.itoa v.n).length ≤ 100
end Go.Proofs.Tw
end

section
open Go Go.Sv Go.RowKit
namespace Go.Proofs.Tw
attribute [local irreducible] Wp FinQ resV Ent Pur Go.Sv.Fn Sat0
set_option maxRecDepth 100000
set_option maxHeartbeats 4000000
variable {G : Nat → Option (List Cell)}

/-- Fields that may be a head's, short, of unlike names. -/
def OkG (l : List FT) : Prop := (∀ f ∈ l, okF f = true ∧ f.name.length ≤ 40 ∧ f.value.length ≤ 40) ∧ l.Pairwise (fun x y => x.name ≠ y.name)
end Go.Proofs.Tw
end

section
open Go Go.Sv Go.RowKit
namespace Go.Proofs.Tw
attribute [local irreducible] Wp FinQ resV Ent Pur Go.Sv.Fn Sat0
set_option maxRecDepth 100000
set_option maxHeartbeats 4000000
variable {G : Nat → Option (List Cell)}

theorem getD_mem {l : List FT} {i : Nat} (h : i < l.length) : l.getD i .nil ∈ l := by simp [List.getD, h]
theorem unlike_ok {l : List FT} (h : OkG l) : unlikeQ l = true := by
  unfold unlikeQ
  rw [List.all_eq_true]
  intro i hi
  have hi := List.mem_range.1 hi
  unfold okQ
  have h1 := (h.1 _ (getD_mem hi)).1
  have ht : tokenT (l.getD i .nil).name = true := by unfold okF at h1; rw [Bool.and_eq_true] at h1; exact h1.1
  unfold tokenT at ht
  rw [Bool.and_eq_true] at ht
  rw [ht.1, Bool.true_and, ← fGet_isIn, ← fGet_con]
  cases hc : ((l.take i).map (·.name)).contains (l.getD i .nil).name with
  | false => rfl
  | true =>
    rw [List.contains_iff_mem] at hc
    obtain ⟨f, hf, he⟩ := List.mem_map.1 hc
    obtain ⟨j, hj, rfl⟩ := List.getElem_of_mem hf
    rw [List.length_take] at hj
    have := List.pairwise_iff_getElem.1 h.2 j i (by omega) hi (by omega)
    rw [List.getElem_take] at he
    refine (this ?_).elim
    rw [he]
    simp [List.getD, hi]
theorem flat_len {l : List FT} (h : OkG l) : (l.flatMap fieldL).length ≤ l.length * 84 := by
  induction l with
  | nil => simp
  | cons x r ih =>
    have := ih ⟨fun f hf => h.1 f (by simp [hf]), (List.pairwise_cons.1 h.2).2⟩
    have hx := h.1 x (by simp)
    rw [List.flatMap_cons, List.length_append, field_len, List.length_cons]
    omega
theorem itoa_nat (n : Nat) : Lib.itoa (n : Int) = Lib.decDigits n := by
  unfold Lib.itoa
  rw [if_neg (by omega)]
  simp
theorem dec_len4 {n : Nat} (h : n ≤ 5000) : (Lib.decDigits n).length ≤ 4 := dec_len_le 3 n (by omega)
theorem clL_len (b : List UInt8) (h : b.length ≤ 5000) : (clL b).length ≤ 22 := by
  unfold clL
  split
  · simp
  · rw [itoa_nat]
    have := dec_len4 h
    simp only [List.length_append, List.length_cons, List.length_nil]
    omega
theorem linesT_len {l : List FT} {b : List UInt8} (h : OkG l) (hl : l.length ≤ 3) (hb : b.length ≤ 5000) : (linesT l b).length ≤ 276 := by
  unfold linesT
  have h1 := flat_len h
  have h2 := clL_len b hb
  simp only [List.length_append, List.length_cons, List.length_nil]
  omega
theorem head_ok {l : List FT} {b : List UInt8} (h : OkG l) (hl : l.length ≤ 3) (hb : b.length ≤ 4096) : headT l b = true := by
  unfold headT
  rw [unlike_ok h, List.all_eq_true.2 (fun f hf => (h.1 f hf).1)]
  have : (l.length : Int) ≤ mostT b := by unfold mostT; split <;> omega
  rw [decide_eq_true this, decide_eq_true (by omega)]
  rfl
structure AskF (r : QT) : Prop where
  hm : methT r.method = true
  ht : targT r.target = true
  h1 : r.method.length ≤ 16
  h2 : r.target.length ≤ 20
  hh : OkG r.head
  hn : r.head.length ≤ 3
  hb : r.body.length ≤ 488
theorem AskF.fst {r : QT} (h : AskF r) : (firstQ r).length ≤ 48 := by
  have h1 := h.h1
  have h2 := h.h2
  unfold firstQ
  simp only [List.length_append, List.length_cons, List.length_nil]
  omega
theorem AskF.may {r : QT} (h : AskF r) : mayAskT r = true := by
  unfold mayAskT linedT
  rw [h.hm, h.ht, mayM_eq, ahead_Q]
  have h2 := h.hb
  have h3 := linesT_len h.hh h.hn (by omega : r.body.length ≤ 5000)
  have h4 := h.fst
  rw [show headT (askedM r).head (askedM r).body = true from head_ok h.hh h.hn (by show r.body.length ≤ 4096; omega), decide_eq_true (by rw [List.length_append]; omega)]
  rfl
theorem AskF.len {r : QT} (h : AskF r) : 0 < (printAskT r).length ∧ (printAskT r).length ≤ 900 := by
  unfold printAskT
  rw [h.may, if_pos rfl, ahead_Q]
  have h2 := h.hb
  have h3 := linesT_len h.hh h.hn (by omega : r.body.length ≤ 5000)
  have h4 := h.fst
  have h5 : 2 ≤ (firstQ r).length := by unfold firstQ; simp only [List.length_append, List.length_cons, List.length_nil]; omega
  simp only [List.length_append]
  omega
structure TellF (r : RT) : Prop where
  hs : statedT r.status = true
  h1 : 0 ≤ r.status
  h2 : r.status ≤ 1000
  hh : OkG r.head
  hn : r.head.length ≤ 3
  hb : r.body.length ≤ 488
theorem TellF.fst {r : RT} (h : TellF r) : (firstR r).length ≤ 48 := by
  have h1 := h.h1
  have h2 := h.h2
  have h3 := reason_len r.status
  obtain ⟨n, hn⟩ := Int.eq_ofNat_of_zero_le h1
  have h4 : (Lib.itoa r.status).length ≤ 4 := by rw [hn, itoa_nat]; exact dec_len4 (by omega)
  unfold firstR verS
  simp only [List.length_append, List.length_cons, List.length_nil]
  omega
theorem TellF.may {r : RT} (h : TellF r) : mayTell r = true := by
  unfold mayTell
  rw [h.hs, mayM_eq, ahead_R]
  have h2 := h.hb
  have h3 := linesT_len h.hh h.hn (by omega : r.body.length ≤ 5000)
  have h4 := h.fst
  rw [show headT (toldM r).head (toldM r).body = true from head_ok h.hh h.hn (by show r.body.length ≤ 4096; omega), decide_eq_true (by rw [List.length_append]; omega)]
  rfl
theorem TellF.len {r : RT} (h : TellF r) : 0 < (printTell r).length ∧ (printTell r).length ≤ 900 := by
  unfold printTell
  rw [h.may, if_pos rfl, ahead_R]
  have h2 := h.hb
  have h3 := linesT_len h.hh h.hn (by omega : r.body.length ≤ 5000)
  have h4 := h.fst
  have h5 : 2 ≤ (firstR r).length := by unfold firstR; simp only [List.length_append, List.length_cons, List.length_nil]; omega
  simp only [List.length_append]
  omega
theorem within13_ok (a n : Int) (hn : 0 < n) (hm : n ≤ 9223372036854775807) : Pur Tryd.prog G 5 [.c (.int .i64 a), .c (.int .i64 n)] [.c (.int .i64 (withT a n))] := by
  refine Pur.of Tryd.func5 (by kernel_rfl) (by kernel_rfl) (by kernel_rfl) ?_
  have h1 := Int.tmod_lt_of_pos a hn
  have h2 := tmod_lo a n hn
  refine Wp.go (mx := true) (fun _ => mixed) [] 100 [] [n = (0 : Int) → False] (by kernel_rfl) (by kernel_rfl) (by kernel_rfl) ((show n = (0 : Int) → False from (by omega))) ?_
  refine Wp.cond' (by kernel_rfl) (decide (a.tmod n < (0 : Int))) (by kernel_rfl) (fun h0 => ?_) (fun h0 => ?_)
  · have g0 := of_decide_eq_true h0
    refine Wp.go (mx := true) (fun _ => mixed) [] 100 [] [IntKind.i64.min ≤ a.tmod n + n ∧ a.tmod n + n ≤ IntKind.i64.max] (by kernel_rfl) (by kernel_rfl) (by kernel_rfl) (inR64 (by omega) (by omega)) ?_
    refine Wp.ret' (by kernel_rfl) ?_
    exact FinQ.pure (rs' := [V1.c (Cell.int .i64 (a.tmod n + n))]) (by kernel_rfl) (by simp [withT, *]; done) (by kernel_rfl)
  · have g0 := of_decide_eq_false h0
    refine Wp.go (mx := true) (fun _ => mixed) [] 100 [] [] (by kernel_rfl) (by kernel_rfl) (by kernel_rfl) trivial ?_
    refine Wp.ret' (by kernel_rfl) ?_
    exact FinQ.pure (rs' := [V1.c (Cell.int .i64 (a.tmod n))]) (by kernel_rfl) (by simp [withT, *]; done) (by kernel_rfl)
end Go.Proofs.Tw
end

section
open Go Go.Sv Go.RowKit
namespace Go.Proofs.Tw
attribute [local irreducible] Wp FinQ resV Ent Pur Go.Sv.Fn Sat0
set_option maxRecDepth 100000
set_option maxHeartbeats 4000000
variable {G : Nat → Option (List Cell)}

theorem qget_ok (l : List FT) (n : List UInt8) (hl : l.length < 4611686018427387904) : Pur Tryd.prog G 23 [.c (encH l), .c (.str n)] [.c (.str ((fGet l n).getD [])), .c (.bool (fGet l n).isSome)] := by
  refine Pur.of Tryd.func23 (by kernel_rfl) (by kernel_rfl) (by kernel_rfl) ?_
  refine Wp.go (mx := true) (fun _ => mixed) [] 100 [] [] (by kernel_rfl) (by kernel_rfl) (by kernel_rfl) trivial ?_
  refine Wp.loopK (by kernel_rfl) (fun (k : Nat) => ⟨[(1, .v (.c (.str n))), (8, .v (.c (encH l))), (9, .v (.c (.int .i64 (l.length : Int)))), (10, .v (.c (.int .i64 (k : Int))))], [], 80⟩) (fun k => k ≤ l.length ∧ fGet l n = fGet (l.drop k) n) (fun k => l.length - k) 0 (Ent.of [] (by kernel_rfl) (by kernel_rfl) (by kernel_rfl) trivial) ⟨Nat.zero_le _, rfl⟩ ?_
  intro k L ⟨hk, hq⟩ again
  rcases Nat.lt_or_ge k l.length with hlt | hge
  · rw [dropM l .nil k hlt, fGet_cons] at hq
    cases hb : (l.getD k .nil).name == n with
    | true =>
      rw [hb, if_pos rfl] at hq
      rw [hq]
      clear again hq
      refine Wp.go (mx := true) (fun _ => mixed) [] 100 [true, true] [decide ((↑k : Int) < (↑l.length : Int)) = true, (0 : Int) ≤ (↑k : Int) ∧ (↑k : Int) < (↑l.length : Int), ((l.getD k FT.nil).name == n) = true] (by kernel_rfl) (by kernel_rfl) (by kernel_rfl) ⟨(by simp; omega), (by omega), (show ((l.getD k FT.nil).name == n) = true from (by assumption))⟩ ?_
      refine Wp.ret' (by kernel_rfl) ?_
      exact FinQ.pure (rs' := [V1.c (Cell.str (l.getD k FT.nil).value), V1.c (Cell.bool true)]) (by kernel_rfl) rfl (by kernel_rfl)
    | false =>
      rw [hb, if_neg (by decide)] at hq
      refine Wp.go (mx := true) (fun _ => mixed) [] 100 [true, false] [decide ((↑k : Int) < (↑l.length : Int)) = true, (0 : Int) ≤ (↑k : Int) ∧ (↑k : Int) < (↑l.length : Int), ((l.getD k FT.nil).name == n) = false, inR IntKind.i64 ((↑k : Int) + (1 : Int))] (by kernel_rfl) (by kernel_rfl) (by kernel_rfl) ⟨(by simp; omega), (by omega), (by assumption), inR64 (by omega) (by omega)⟩ ?_
      exact Wp.lpK (by kernel_rfl) (again _ (k + 1) ⟨(by assumption), (by assumption)⟩ (by omega) (Ent.of [] (by kernel_rfl) (by kernel_rfl) (by kernel_rfl) trivial))
  · rw [List.drop_of_length_le hge, fGet_nil] at hq
    rw [hq]
    clear hq again
    refine Wp.go (mx := true) (fun _ => mixed) [] 100 [false] [decide ((↑k : Int) < (↑l.length : Int)) = false] (by kernel_rfl) (by kernel_rfl) (by kernel_rfl) (show decide ((↑k : Int) < (↑l.length : Int)) = false from (by simp; omega)) ?_
    refine Wp.ret' (by kernel_rfl) ?_
    exact FinQ.pure (rs' := [V1.c (Cell.str []), V1.c (Cell.bool false)]) (by kernel_rfl) rfl (by kernel_rfl)
theorem hget_ok (l : List FT) (n : List UInt8) (hl : l.length < 4611686018427387904) : Pur Tryd.prog G 8 [.c (encH l), .c (.str n)] [.c (.str ((fGet l n).getD [])), .c (.bool (fGet l n).isSome)] := by
  refine Pur.of Tryd.func8 (by kernel_rfl) (by kernel_rfl) (by kernel_rfl) ?_
  have c := qget_ok (G := G) l n hl
  refine Wp.go (mx := true) (fun _ => mixed) [(1, {cs := [(2, pc c)]})] 100 [] [] (by kernel_rfl) (by kernel_rfl) (by kernel_rfl) trivial ?_
  refine Wp.ret' (by kernel_rfl) ?_
  exact FinQ.pure (rs' := [V1.c (Cell.str ((fGet l n).getD [])), V1.c (Cell.bool (fGet l n).isSome)]) (by kernel_rfl) rfl (by kernel_rfl)
def tellS13 : List UInt8 := [72, 84, 84, 80, 47, 49, 46, 49, 32, 50, 48, 48, 32, 79, 75, 13, 10, 99, 111, 110, 116, 101, 110, 116, 45, 108, 101, 110, 103, 116, 104, 58, 32, 49, 13, 10, 13, 10, 120]
def getQ13 : QT := ⟨[71, 69, 84], [47, 97], [], []⟩
def tellR13 : RT := ⟨200, [], [120]⟩
theorem one_den (f : FT) : EqvD (.c (.sl 2 1 (fun i j => nthD [.str f.name, .str f.value] (i * 2 + j)))) (.c (encH [f])) := by
  refine EqvD.sl rfl fun i hi j hj => ?_
  obtain rfl : i = 0 := by omega
  rw [Nat.zero_mul, Nat.zero_add]; rfl
theorem known13_ok (hp : HasPow G) (hL : HasLen G) : Pur Tryd.prog G 4 [] [.c (.bool true)] := by
  refine Pur.of Tryd.func4 (by kernel_rfl) (by kernel_rfl) (by kernel_rfl) ?_
  have c1 := parseQ_ok hL [71, 69, 84, 32, 47, 97, 32, 72, 84, 84, 80, 47, 49, 46, 49, 13, 10, 13, 10] (by decide)
  rw [show parseQ [71, 69, 84, 32, 47, 97, 32, 72, 84, 84, 80, 47, 49, 46, 49, 13, 10, 13, 10] = (getQ13, 0) from (by kernel_rfl)] at c1
  have c2 := parseQ_ok hL [103, 101, 116] (by decide)
  rw [show parseQ [103, 101, 116] = (QT.nil, 3) from (by kernel_rfl)] at c2
  have c3 := parseR_ok hL tellS13 (by decide)
  rw [show parseR tellS13 = (tellR13, 0) from (by kernel_rfl)] at c3
  have c4 := hget_ok (G := G) [⟨[97], [98]⟩] [97] (by decide)
  have e4 := one_den ⟨[97], [98]⟩
  have fQ : FitH getQ13.head getQ13.body := ⟨by decide, fun f hf => (by cases hf), by decide, by show (2 : Nat) ≤ _; omega⟩
  have fR : FitH tellR13.head tellR13.body := ⟨by decide, fun f hf => (by cases hf), by decide, by have h21 : (linesT tellR13.head tellR13.body).length = 21 := (by kernel_rfl); omega⟩
  have c5 := mayAsk_ok hp getQ13 (fQ.q (by decide) (by decide))
  rw [show mayAskT getQ13 = true from (by kernel_rfl)] at c5
  have c6 := printAsk_ok hp getQ13 (fQ.q (by decide) (by decide))
  rw [show printAskT getQ13 = [71, 69, 84, 32, 47, 97, 32, 72, 84, 84, 80, 47, 49, 46, 49, 13, 10, 13, 10] from (by kernel_rfl)] at c6
  have c7 := mayTell_any hp tellR13 (fun h0 h1 => fR.r h0 h1)
  rw [show mayTell tellR13 = true from (by kernel_rfl)] at c7
  have c8 := printTell_any hp tellR13 (fun h0 h1 => fR.r h0 h1)
  rw [show printTell tellR13 = tellS13 from (by kernel_rfl)] at c8
  clear fQ fR
  refine Wp.go (mx := true) (fun _ => mixed) [(4, {cs := [(2, pc c4)], fm := [(1, .c (encH [⟨[97], [98]⟩]))]}), (1, {cs := [(0, pc c1)]}), (2, {cs := [(0, pc c2)]}), (3, {cs := [(0, pc c3)]}), (5, {cs := [(39, pc c6), (44, pc c5), (48, pc c7), (52, pc c8)]})] 100 [] [EqvI (V1.c (Cell.sl (2 : Nat) (1 : Nat) fun (i j : Nat) => nthD [Cell.str [(97 : UInt8)], Cell.str [(98 : UInt8)]] (i * (2 : Nat) + j))) (V1.c (encH [{ name := [(97 : UInt8)], value := [(98 : UInt8)] }])), EqvD (V1.c (Cell.sl (2 : Nat) (1 : Nat) fun (i j : Nat) => nthD [Cell.str [(97 : UInt8)], Cell.str [(98 : UInt8)]] (i * (2 : Nat) + j))) (V1.c (encH [{ name := [(97 : UInt8)], value := [(98 : UInt8)] }]))] (by kernel_rfl) (by kernel_rfl) (by kernel_rfl) ⟨fun _ _ => trivial, (show EqvD (V1.c (Cell.sl (2 : Nat) (1 : Nat) fun (i j : Nat) => nthD [Cell.str [(97 : UInt8)], Cell.str [(98 : UInt8)]] (i * (2 : Nat) + j))) (V1.c (encH [{ name := [(97 : UInt8)], value := [(98 : UInt8)] }])) from (by assumption))⟩ ?_
  refine Wp.ret' (by kernel_rfl) ?_
  exact FinQ.pure (rs' := [V1.c (Cell.bool (bif bif bif bif bif bif bif bif bif bif bif bif (0 : Int) == (0 : Int) then [(71 : UInt8), 69, 84] == [(71 : UInt8), 69, 84] else false then [(47 : UInt8), 97] == [(47 : UInt8), 97] else false then (3 : Int) == (3 : Int) else false then (0 : Int) == (0 : Int) else false then (200 : Int) == (200 : Int) else false then [(120 : UInt8)] == [(120 : UInt8)] else false then (fGet [{ name := [(97 : UInt8)], value := [(98 : UInt8)] }] [(97 : UInt8)]).getD [] == [(98 : UInt8)] else false then (fGet [{ name := [(97 : UInt8)], value := [(98 : UInt8)] }] [(97 : UInt8)]).isSome else false then [(71 : UInt8), 69, 84, 32, 47, 97, 32, 72, 84, 84, 80, 47, 49, 46, 49, 13, 10, 13, 10] == [(71 : UInt8), 69, 84, 32, 47, 97, 32, 72, 84, 84, 80, 47, 49, 46, 49, 13, 10, 13, 10] else false then true else false then true else false then decide ((↑tellS13.length : Int) > (0 : Int)) else false))]) (by kernel_rfl) rfl (by kernel_rfl)
end Go.Proofs.Tw
end

section
open Go Go.Sv
namespace Go.Proofs.Tw
set_option maxRecDepth 100000
set_option maxHeartbeats 4000000

theorem idx_no (a r : List UInt8) (c : UInt8) (h : c ∉ a) : Lib.index a (c :: r) = -1 := by
  refine Lib.index_none fun j hj => ?_
  cases hq : Lib.occAt a (c :: r) j with
  | false => rfl
  | true =>
    have := Lib.occAt_head rfl hq
    exact (h (List.mem_of_getElem? this)).elim
theorem join_two (x : List UInt8) (r : List (List UInt8)) (sep : List UInt8) (h : r ≠ []) : Lib.join (x :: r) sep = x ++ sep ++ Lib.join r sep := by
  cases r with
  | nil => exact (h rfl).elim
  | cons y r => rw [Lib.join_cons, Lib.join_cons]; simp [Lib.joinTail]
theorem split_join (c : UInt8) (r : List UInt8) : ∀ l : List (List UInt8), l ≠ [] → (∀ x ∈ l, c ∉ x) → Lib.split (Lib.join l (c :: r)) (c :: r) = l
  | [], h, _ => (h rfl).elim
  | [x], _, hx => by rw [Lib.join_one, split_miss (idx_no x r c (hx x (by simp)))]
  | x :: y :: l, _, hx => by
    rw [join_two x (y :: l) (c :: r) (by simp), split_hit (by simp) (idx_at x (Lib.join (y :: l) (c :: r)) r c (hx x (by simp)))]
    have ih := split_join c r (y :: l) (by simp) (fun z hz => hx z (by simp [hz]))
    rw [List.append_assoc, List.take_left, ← List.append_assoc, show x.length + (c :: r).length = (x ++ (c :: r)).length from by simp, List.drop_left, ih]
end Go.Proofs.Tw
end

section
open Go Go.Sv Go.RowKit
namespace Go.Proofs.Tw
set_option maxRecDepth 100000
set_option maxHeartbeats 4000000

/-- Lines: none is empty, none has a carriage return. -/
def OkLn (x : List UInt8) : Prop := x ≠ [] ∧ (13 : UInt8) ∉ x
theorem join_13 : ∀ (l : List (List UInt8)), l ≠ [] → (∀ x ∈ l, OkLn x) → ∀ j : Nat, (Lib.join l [13, 10])[j]? = some 13 → ∃ c, (Lib.join l [13, 10])[j + 2]? = some c ∧ c ≠ 13
  | [], h, _, _, _ => (h rfl).elim
  | [x], _, hx, j, hj => by
    rw [Lib.join_one] at hj
    exact ((hx x (by simp)).2 (List.mem_of_getElem? hj)).elim
  | x :: y :: l, _, hx, j, hj => by
    rw [join_two x (y :: l) [13, 10] (by simp)] at hj ⊢
    have h0 := hx x (by simp)
    have hy := hx y (by simp)
    have ih := join_13 (y :: l) (by simp) (fun z hz => hx z (by simp [hz]))
    rcases Nat.lt_or_ge j x.length with h1 | h1
    · rw [List.append_assoc, List.getElem?_append_left h1] at hj
      exact (h0.2 (List.mem_of_getElem? hj)).elim
    · rcases Nat.lt_or_ge j (x.length + 2) with h2 | h2
      · rcases Nat.lt_or_ge j (x.length + 1) with h3 | h3
        · obtain rfl : j = x.length := by omega
          rw [List.getElem?_append_right (by simp), show x.length + 2 - (x ++ ([13, 10] : List UInt8)).length = 0 from by simp]
          have : ∃ c r, Lib.join (y :: l) [13, 10] = c :: r ∧ c ∈ y := by
            rw [Lib.join_cons]
            cases y with
            | nil => exact (hy.1 rfl).elim
            | cons c r => exact ⟨c, r ++ Lib.joinTail [13, 10] l, rfl, by simp⟩
          obtain ⟨c, r, e, hc⟩ := this
          exact ⟨c, by rw [e]; rfl, fun e13 => hy.2 (e13 ▸ hc)⟩
        · obtain rfl : j = x.length + 1 := by omega
          rw [List.getElem?_append_left (by simp), List.getElem?_append_right (by omega)] at hj
          simp at hj
      · rw [List.getElem?_append_right (by simp; omega)] at hj ⊢
        simp only [List.length_append, List.length_cons, List.length_nil] at hj ⊢
        obtain ⟨c, hc, hn⟩ := ih _ hj
        exact ⟨c, by rw [← hc]; congr 1; omega, hn⟩
theorem cut_head (l : List (List UInt8)) (b : List UInt8) (hl : l ≠ []) (hx : ∀ x ∈ l, OkLn x) : Lib.cut (Lib.join l [13, 10] ++ [13, 10, 13, 10] ++ b) [13, 10, 13, 10] = (Lib.join l [13, 10], b, true) := by
  have h := join_13 l hl hx
  generalize Lib.join l [13, 10] = H at *
  have hi : Lib.index (H ++ [13, 10, 13, 10] ++ b) [13, 10, 13, 10] = H.length := by
    refine Lib.index_first (by simp) ?_ fun j hj => ?_
    · unfold Lib.occAt
      rw [List.append_assoc, List.drop_left]
      exact List.isPrefixOf_iff_prefix.2 ⟨b, rfl⟩
    · cases hq : Lib.occAt (H ++ [13, 10, 13, 10] ++ b) [13, 10, 13, 10] j with
      | false => rfl
      | true =>
        have h13 := Lib.occAt_head rfl hq
        rw [List.append_assoc, List.getElem?_append_left hj] at h13
        obtain ⟨c, hc, hn⟩ := h j h13
        have hc' : (H ++ [13, 10, 13, 10] ++ b)[j + 2]? = some c := by
          have : j + 2 < H.length := by
            rcases Nat.lt_or_ge (j + 2) H.length with h | h
            · exact h
            · rw [List.getElem?_eq_none h] at hc; cases hc
          rw [List.append_assoc, List.getElem?_append_left this]; exact hc
        unfold Lib.occAt at hq
        obtain ⟨t, ht⟩ := List.isPrefixOf_iff_prefix.1 hq
        have h2 : ((H ++ [13, 10, 13, 10] ++ b).drop j)[2]? = some 13 := by rw [← ht]; rfl
        rw [List.getElem?_drop, hc'] at h2
        exact (hn (Option.some.inj h2)).elim
  unfold Lib.cut
  rw [hi, if_pos (by omega)]
  simp only [Int.toNat_natCast]
  refine Prod.ext ?_ (Prod.ext ?_ rfl)
  · show (H ++ [13, 10, 13, 10] ++ b).take H.length = H
    rw [List.append_assoc, List.take_left]
  · show (H ++ [13, 10, 13, 10] ++ b).drop (H.length + 4) = b
    rw [show H.length + 4 = (H ++ [13, 10, 13, 10]).length from by simp, List.drop_left]
def lnF (f : FT) : List UInt8 := f.name ++ [58, 32] ++ f.value
def lnsT (l : List FT) (b : List UInt8) : List (List UInt8) := l.map lnF ++ if b = [] then [] else [clN ++ [58, 32] ++ Lib.decDigits b.length]
theorem tail_lines : ∀ (l : List (List UInt8)), [13, 10] ++ l.flatMap (fun p => p ++ [13, 10]) = Lib.joinTail [13, 10] l ++ [13, 10]
  | [] => rfl
  | x :: r => by
    have := tail_lines r
    unfold Lib.joinTail at *
    rw [List.map_cons, List.flatten_cons, List.flatMap_cons, List.append_assoc _ _ [13, 10], ← this]
    simp
theorem lines_join (F : List UInt8) (l : List FT) (b : List UInt8) : F ++ [13, 10] ++ linesT l b = Lib.join (F :: lnsT l b) [13, 10] ++ [13, 10, 13, 10] := by
  rw [Lib.join_cons]
  have h : l.flatMap fieldL ++ clL b = (lnsT l b).flatMap (fun p => p ++ [13, 10]) := by
    unfold lnsT clL
    rw [List.flatMap_append, List.flatMap_map]
    congr 1
    cases b with
    | nil => rfl
    | cons c r =>
      rw [if_neg (by simp), if_neg (by simp), itoa_nat]
      simp [clN]
  unfold linesT
  rw [h, List.append_assoc F, ← List.append_assoc [13, 10] _ (_ : List UInt8), tail_lines]
  simp
theorem okF_parts {f : FT} (h : okF f = true) : tokenT f.name = true ∧ foldT f.name = f.name ∧ f.name ≠ clN ∧ f.value.all seenB = true := by
  unfold okF at h
  simp only [Bool.and_eq_true, Bool.not_eq_true', beq_eq_false_iff_ne] at h
  exact ⟨h.1, eq_of_beq h.2.1, h.2.2.1, h.2.2.2⟩
theorem tok_no {s : List UInt8} (h : tokenT s = true) : (13 : UInt8) ∉ s ∧ (58 : UInt8) ∉ s ∧ s ≠ [] := by
  unfold tokenT at h
  rw [Bool.and_eq_true, List.all_eq_true] at h
  refine ⟨fun hc => ?_, fun hc => ?_, fun he => ?_⟩
  · have := h.2 _ hc; revert this; decide
  · have := h.2 _ hc; revert this; decide
  · rw [he] at h; exact absurd h.1 (by decide)
theorem seen_no {s : List UInt8} (h : s.all seenB = true) : (13 : UInt8) ∉ s := by
  rw [List.all_eq_true] at h
  intro hc
  have := h _ hc
  revert this
  decide
theorem dec_13 (n : Nat) : (13 : UInt8) ∉ Lib.decDigits n := by
  have h := dec_all n
  rw [List.all_eq_true] at h
  intro hc
  have := h _ hc
  revert this
  decide
theorem lnF_ok {f : FT} (h : okF f = true) : OkLn (lnF f) := by
  obtain ⟨h1, h2, h3, h4⟩ := okF_parts h
  obtain ⟨a, b, c⟩ := tok_no h1
  refine ⟨by unfold lnF; simp, ?_⟩
  unfold lnF
  simp only [List.mem_append, List.mem_cons, List.not_mem_nil, or_false, not_or]
  exact ⟨⟨a, by decide, by decide⟩, seen_no h4⟩
theorem lns_ok {l : List FT} {b : List UInt8} (h : ∀ f ∈ l, okF f = true) : ∀ x ∈ lnsT l b, OkLn x := by
  intro x hx
  unfold lnsT at hx
  rcases List.mem_append.1 hx with hx | hx
  · obtain ⟨f, hf, rfl⟩ := List.mem_map.1 hx
    exact lnF_ok (h f hf)
  · split at hx
    · cases hx
    · rw [List.mem_singleton.1 hx]
      refine ⟨by simp [clN], ?_⟩
      simp only [List.mem_append, List.mem_cons, List.not_mem_nil, or_false, not_or]
      exact ⟨⟨by decide, by decide, by decide⟩, dec_13 _⟩
theorem cut_ln {n v : List UInt8} (h : (58 : UInt8) ∉ n) : Lib.cut (n ++ [58, 32] ++ v) [58, 32] = (n, v, true) := cut_at n v [32] 58 h
theorem okA_ln {acc : List FT} {f : FT} (h : okF f = true) (hn : ∀ g ∈ acc, g.name ≠ f.name) : okA acc (lnF f) = true ∧ lineF (lnF f) = f := by
  obtain ⟨h1, h2, h3, h4⟩ := okF_parts h
  obtain ⟨_, h58, _⟩ := tok_no h1
  have hc : Lib.cut (lnF f) [58, 32] = (f.name, f.value, true) := cut_ln h58
  have hl : lineF (lnF f) = f := by unfold lineF; rw [hc]; show FT.mk (foldT f.name) f.value = f; rw [h2]
  refine ⟨?_, hl⟩
  unfold okA okL
  rw [hl, hc, h1, h4]
  cases hg : (fGet acc f.name).isSome with
  | false => rfl
  | true =>
    rw [← fGet_con, List.contains_iff_mem] at hg
    obtain ⟨g, hg1, hg2⟩ := List.mem_map.1 hg
    exact (hn g hg1 hg2).elim
theorem fA_lns : ∀ (l acc : List FT) (r : List (List UInt8)), (∀ f ∈ l, okF f = true) → (acc ++ l).Pairwise (fun x y => x.name ≠ y.name) → fieldsA (l.map lnF ++ r) acc = fieldsA r (acc ++ l) ∧ fieldsO (l.map lnF ++ r) acc = fieldsO r (acc ++ l)
  | [], acc, r, _, _ => by simp
  | f :: l, acc, r, h, hp => by
    have hn : ∀ g ∈ acc, g.name ≠ f.name := fun g hg => by
      rw [List.pairwise_append] at hp
      exact hp.2.2 g hg f (by simp)
    obtain ⟨h1, h2⟩ := okA_ln (h f (by simp)) hn
    have ih := fA_lns l (acc ++ [f]) r (fun g hg => h g (by simp [hg])) (by simpa using hp)
    rw [List.map_cons, List.cons_append, fieldsA, fieldsO, h1, if_pos rfl, if_pos rfl, h2, ih.1, ih.2]
    simp
theorem okA_cl {acc : List FT} {d : List UInt8} (hd : d.all seenB = true) (hn : fGet acc clN = none) : okA acc (clN ++ [58, 32] ++ d) = true ∧ lineF (clN ++ [58, 32] ++ d) = ⟨clN, d⟩ := by
  have hc : Lib.cut (clN ++ [58, 32] ++ d) [58, 32] = (clN, d, true) := cut_ln (by decide)
  have hl : lineF (clN ++ [58, 32] ++ d) = ⟨clN, d⟩ := by unfold lineF; rw [hc]; rfl
  refine ⟨?_, hl⟩
  unfold okA okL
  rw [hl, hc, hd, show (FT.mk clN d).name = clN from rfl, hn]
  rfl
theorem unlike_pw {l : List FT} (h : unlikeQ l = true) : l.Pairwise (fun x y => x.name ≠ y.name) := by
  unfold unlikeQ at h
  rw [List.all_eq_true] at h
  rw [List.pairwise_iff_getElem]
  intro i j hi hj hij he
  have := h j (List.mem_range.2 hj)
  unfold okQ at this
  rw [Bool.and_eq_true, ← fGet_isIn, ← fGet_con] at this
  have hm : ((l.take j).map (·.name)).contains (l.getD j .nil).name = true := by
    rw [List.contains_iff_mem]
    refine List.mem_map.2 ⟨l[i], ?_, ?_⟩
    · rw [List.mem_take_iff_getElem]
      exact ⟨i, by omega, rfl⟩
    · rw [he]; simp [List.getD, hj]
  rw [hm] at this
  simp at this
theorem numK_dec (n : Nat) (h : n ≤ 5000) : numK 9 (Lib.decDigits n) = true := by
  unfold numK
  have := dec_len4 h
  rw [canon_dec, decide_eq_true (by omega)]
  rfl
/-- What of a text comes that has a first line, fields, a body. -/
theorem read_text {line : List UInt8 → Bool} {F : List UInt8} {l : List FT} {b : List UInt8} (hF : OkLn F) (hl : line F = true) (hh : headT l b = true) (hs : (F ++ [13, 10] ++ linesT l b).length ≤ 2048) :
    readH line (F ++ [13, 10] ++ linesT l b ++ b) = (l, 0) ∧ firstH (F ++ [13, 10] ++ linesT l b ++ b) = F ∧ (hdC (F ++ [13, 10] ++ linesT l b ++ b)).2.1 = b := by
  unfold headT at hh
  simp only [Bool.and_eq_true, decide_eq_true_eq, List.all_eq_true] at hh
  obtain ⟨hok, hmost, hunl, hb⟩ := hh
  have hlo : ∀ x ∈ F :: lnsT l b, OkLn x := by
    intro x hx
    rcases List.mem_cons.1 hx with rfl | hx
    · exact hF
    · exact lns_ok hok x hx
  have hcut : hdC (F ++ [13, 10] ++ linesT l b ++ b) = (Lib.join (F :: lnsT l b) [13, 10], b, true) := by
    unfold hdC
    rw [lines_join]
    exact cut_head _ b (by simp) hlo
  have hlen : (Lib.join (F :: lnsT l b) [13, 10]).length + 4 ≤ 2048 := by
    rw [lines_join, List.length_append] at hs
    exact hs
  have hlin : linesH (F ++ [13, 10] ++ linesT l b ++ b) = F :: lnsT l b := by
    unfold linesH
    rw [hcut]
    exact split_join 13 [10] _ (by simp) (fun x hx => (hlo x hx).2)
  generalize F ++ [13, 10] ++ linesT l b ++ b = S at *
  have hbig : bigH S = false := by unfold bigH; rw [hcut]; show decide (((Lib.join (F :: lnsT l b) [13, 10]).length : Int) + 4 > 2048) = false; simp; omega
  have hll : (lnsT l b).length ≤ 24 := by
    unfold lnsT
    unfold mostT at hmost
    rw [List.length_append, List.length_map]
    by_cases hbe : b = []
    · subst hbe; rw [if_pos rfl]; simp at hmost ⊢; omega
    · have : (b == []) = false := by simpa using hbe
      rw [this, if_neg (by decide)] at hmost
      rw [if_neg hbe]; simp; omega
  have hsp : splitH S = 0 := splitH_yes hbig (by rw [hcut]) (by rw [hlin, List.length_cons]; omega)
  have hf : firstH S = F := by unfold firstH; rw [hlin]; rfl
  have hfl : fieldsL S = lnsT l b := by unfold fieldsL; rw [hlin]; rfl
  have hpw := unlike_pw hunl
  obtain ⟨fA, fO⟩ := fA_lns l [] (if b = [] then [] else [clN ++ [58, 32] ++ Lib.decDigits b.length]) hok (by simpa using hpw)
  rw [List.nil_append] at fA fO
  have hncl : ∀ g ∈ l, g.name ≠ clN := fun g hg => (okF_parts (hok g hg)).2.2.1
  have hno : fGet l clN = none := by
    cases hg : (fGet l clN).isSome with
    | false => simpa using hg
    | true =>
      rw [← fGet_con, List.contains_iff_mem] at hg
      obtain ⟨g, hg1, hg2⟩ := List.mem_map.1 hg
      exact (hncl g hg1 hg2).elim
  have hfil : l.filter notCl = l := filter_none hno
  have hds : (Lib.decDigits b.length).all seenB = true := dig_seen (dec_all _)
  obtain ⟨k1, k2⟩ := okA_cl hds hno
  have hO : fieldsO (fieldsL S) [] = true := by
    rw [hfl]
    unfold lnsT
    rw [fO]
    by_cases hbe : b = []
    · rw [if_pos hbe]; rfl
    · rw [if_neg hbe, fieldsO, k1, if_pos rfl]; rfl
  refine ⟨?_, hf, by rw [hcut]⟩
  rw [readH_end hsp (by rw [hf]; exact hl) hO, hfl, hcut]
  unfold lnsT
  rw [fA]
  by_cases hbe : b = []
  · rw [if_pos hbe, fieldsA]
    have : bodyE l b = 0 := by unfold bodyE; rw [hno, hbe]; rfl
    rw [if_pos this, hfil]
  · rw [if_neg hbe, fieldsA, k1, if_pos rfl, fieldsA, k2]
    have : bodyE (l ++ [⟨clN, Lib.decDigits b.length⟩]) b = 0 := by
      unfold bodyE
      rw [snoc_cl l _ (by simp) hno]
      show szE (Lib.decDigits b.length) true b = 0
      unfold szE
      rw [if_pos rfl, numK_dec _ (by omega), if_neg (by decide), nv_dec, if_neg (by omega), if_pos rfl]
    rw [if_pos this, filt_cl l _ (by simp), hfil]
end Go.Proofs.Tw
end
