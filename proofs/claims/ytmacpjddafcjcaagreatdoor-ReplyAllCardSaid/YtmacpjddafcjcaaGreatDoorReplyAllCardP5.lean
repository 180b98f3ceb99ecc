/- Own texts for this claim: Lib, Pri, Ref6, R12, Q12, P12, Rep, Tape, Bas, Q10, Uri, Http. -/
import Derived.Test.YtmacpjddafcjcaaGreatDoorReplyAllCardP3
import Derived.Test.YtmacpjddafcjcaaGreatDoorReplyAllCardP4
set_option linter.all false

section
open Go Go.Sv Go.RowKit
namespace Go.Proofs

theorem lib_FormatBool {G : Nat → Option (List Cell)} (b : Bool) : Pur Tryz.prog G 155 [.c (.bool b)] [.c (.str (Lib.formatBool b))] := by
  refine Pur.of_below rfl ?_
  intro D ρ w vs h1 _ _ _
  obtain ⟨u, rfl, hu⟩ := h1.one
  have hu : u = .bool b := hu
  subst hu
  refine (Tryz.strconv_FormatBool b w).mono ?_
  rintro e w' ⟨rfl, rfl⟩
  exact ⟨_, rfl, rfl, Below.refl _ _⟩

theorem lib_Join {G : Nat → Option (List Cell)} (xs : List (List UInt8)) (sep : List UInt8) (hN : xs.length ≤ 140737488355328) (hlen : (Lib.join xs sep).length ≤ 140737488355328) :
    Pur Tryz.prog G 157 [.c (.sl 1 xs.length (fun i j => nthD [.str (xs.getD i [])] j)), .c (.str sep)] [.c (.str (Lib.join xs sep))] := by
  refine Pur.of_below rfl ?_
  intro D ρ w vs h1 _ _ ha
  obtain ⟨u, v, rfl, hu, hv⟩ := h1.two
  have hv : v = .string ⟨sep.toArray⟩ := hv
  subst hv
  have hu : ∃ a cap, u = .slice a xs.length cap ∧ xs.length ≤ cap ∧ cap ≤ maxLen ∧ ((a = none ∧ cap = 0) ∨ ∃ b o, a = some ⟨b, o, none⟩ ∧ ∀ i, i < xs.length → ∀ j, j < 1 → ∃ u, D b (o + i * 1 + j) = some u ∧ Den D rho0 (nthD [.str (xs.getD i [])] j) u) := hu
  obtain ⟨a, cap, rfl, h2, h3, h4⟩ := hu
  by_cases h0 : xs = []
  · subst h0
    refine (Tryz.strings_Join_none a cap _ w).mono ?_
    rintro e w' ⟨rfl, rfl⟩
    exact ⟨_, rfl, rfl, Below.refl _ _⟩
  · have hpos : 0 < xs.length := List.length_pos_iff.2 h0
    rcases h4 with ⟨rfl, rfl⟩ | ⟨b, o, rfl, h4⟩
    · omega
    · have hcells : ∀ (j : Nat) x, (xs.map fun l => (⟨l.toArray⟩ : ByteArray))[j]? = some x → w.cell? ⟨b, o + j, none⟩ = some (.string x) := by
        intro j x hx
        rw [List.getElem?_map, Option.map_eq_some_iff] at hx
        obtain ⟨l, hl, rfl⟩ := hx
        have hj : j < xs.length := by
          rcases Nat.lt_or_ge j xs.length with h | h
          · exact h
          · rw [List.getElem?_eq_none h] at hl; cases hl
        obtain ⟨u, hu, hd⟩ := h4 j hj 0 (by omega)
        have hd : u = .string ⟨(xs.getD j []).toArray⟩ := hd
        subst hd
        have := ha _ _ _ hu
        rw [Nat.mul_one, Nat.add_zero] at this
        rw [this, List.getD_eq_getElem?_getD, hl]
        rfl
      have hmm : (xs.map fun l => (⟨l.toArray⟩ : ByteArray)).map (·.data.toList) = xs := by
        rw [List.map_map]
        conv => rhs; rw [← List.map_id xs]
        exact List.map_congr_left (fun l _ => by simp)
      have hb : b < w.heap.size := by
        obtain ⟨u, hu, _⟩ := h4 0 hpos 0 (by omega)
        exact heap_of_cell (ha _ _ _ hu)
      have := Tryz.strings_Join b o cap (xs.map fun l => (⟨l.toArray⟩ : ByteArray)) ⟨sep.toArray⟩ w hcells hb (by simpa using hN) (by simpa using h2) (by rw [hmm]; exact hlen)
      rw [hmm, List.length_map] at this
      refine this.mono ?_
      rintro e w' ⟨rfl, hbl⟩
      exact ⟨_, rfl, rfl, hbl⟩

/-- A listed table of integers, as the shelf speaks of it. -/
theorem tabIs {P : Program} {G : Nat → Option (List Cell)} {D : Dat} {w : World} {g : Nat} {name : String} {k : IntKind} {zs : List Int} (hg : P.globalNamed name = some g) (hG : G g = some (zs.map fun z => .int k z)) (hne : zs ≠ [])
    (h1 : GlobOk G D) (h2 : GlobW G w) (h3 : Agree D w) : Lib.TabIs P w name k zs := by
  obtain ⟨arr, e, fz, q1, q2⟩ := h2 g _ hG (by simpa using hne)
  unfold Lib.TabIs World.var?
  rw [hg]
  simp only [Option.bind_some, q1, Option.some.injEq]
  apply Array.ext_getElem?
  intro j
  rw [List.length_map] at q2
  rcases Nat.lt_or_ge j zs.length with hj | hj
  · obtain ⟨u, hu, hd⟩ := h1 g _ hG j (.int k zs[j]) (by simp [hj])
    have hd : u = .int k zs[j] := hd
    subst hd
    have := h3 _ _ _ hu
    simp only [World.cell?, q1, Option.isSome_none, Bool.false_eq_true, if_false] at this
    rw [this]
    simp [hj]
  · rw [Array.getElem?_eq_none (by omega), Array.getElem?_eq_none (by simpa using hj)]

theorem below_grow (w : World) (k : Nat) (os : Array Obj) : Below w.heap.size w (Go.Sort.grow (w.drewN k) os) := by
  refine ⟨rfl, rfl, rfl, ?_, ?_⟩
  · simp [Go.Sort.grow]
  · intro b hb
    simp [Go.Sort.grow, Array.getElem?_append, hb]

theorem lib_Itoa {G : Nat → Option (List Cell)} (gp : Nat) (hg : Tryz.prog.globalNamed "internal/strconv.uint64pow10" = some gp) (hG : G gp = some (Lib.pow10Tab.map fun z => .int .u64 z)) (n : Int) (h0 : -9223372036854775808 ≤ n) (h1 : n ≤ 9223372036854775807) :
    Pur Tryz.prog G 108 [.c (.int .i64 n)] [.c (.str (Lib.itoa n))] := by
  refine Pur.of_below rfl ?_
  intro D ρ w vs hv k1 k2 k3
  obtain ⟨u, rfl, hu⟩ := hv.one
  have hu : u = .int .i64 n := hu
  subst hu
  refine (Tryz.strconv_Itoa n h0 h1 w (tabIs hg hG (by decide) k1 k2 k3)).mono ?_
  rintro e w' ⟨rfl, k, os, rfl⟩
  exact ⟨_, rfl, rfl, below_grow w k os⟩
end Go.Proofs
end

section
open Go Go.Sv
namespace Go.Proofs.Tw
attribute [local irreducible] Wp FinQ resV Ent Pur Go.Sv.Fn Sat0
set_option maxRecDepth 100000
variable {G : Nat → Option (List Cell)}

mutual
def printJ : JV → List UInt8
  | .mk k b n s ns ks => if k == 1 then [110, 117, 108, 108] else if k == 2 then Lib.formatBool b else if k == 3 then Lib.itoa n else if k == 4 then quotedT s else
    if k == 6 then (123 :: Lib.join (partsJ k ns ks) [44]) ++ [125] else (91 :: Lib.join (partsJ k ns ks) [44]) ++ [93]
def partsJ : Int → List (List UInt8) → List JV → List (List UInt8)
  | _, _, [] => []
  | k, ns, x :: r => (if k == 6 then quotedT (ns.headD []) ++ [58] ++ printJ x else printJ x) :: partsJ k ns.tail r
end
def partAt (v : JV) (i : Nat) : List UInt8 := if v.kind == 6 then quotedT (v.names.getD i []) ++ [58] ++ printJ (v.kids.getD i .nil) else printJ (v.kids.getD i .nil)
def parts (v : JV) (k : Nat) : List (List UInt8) := (List.range k).map (partAt v)
theorem partsJ_eq (k : Int) : ∀ (ks : List JV) (ns : List (List UInt8)), partsJ k ns ks = (List.range ks.length).map (fun i => if k == 6 then quotedT (ns.getD i []) ++ [58] ++ printJ (ks.getD i .nil) else printJ (ks.getD i .nil))
  | [], ns => by rw [partsJ]; rfl
  | x :: r, ns => by
    rw [partsJ, partsJ_eq k r ns.tail, List.length_cons, List.range_succ_eq_map, List.map_cons, List.map_map]
    congr 1
    · cases ns <;> rfl
    · apply List.map_congr_left
      intro i _
      cases ns <;> simp [List.getD]
theorem printJ_eq (v : JV) : printJ v = if v.kind == 1 then [110, 117, 108, 108] else if v.kind == 2 then Lib.formatBool v.b else if v.kind == 3 then Lib.itoa v.n else if v.kind == 4 then quotedT v.s else
    if v.kind == 6 then (123 :: Lib.join (parts v v.kids.length) [44]) ++ [125] else (91 :: Lib.join (parts v v.kids.length) [44]) ++ [93] := by
  cases v; rw [printJ, partsJ_eq]; rfl
theorem join_part {x : List UInt8} {xs : List (List UInt8)} (sep : List UInt8) (h : x ∈ xs) : x.length ≤ (Lib.join xs sep).length := by
  cases xs with
  | nil => simp at h
  | cons y r =>
    rw [Lib.join_cons, List.length_append]
    rcases List.mem_cons.1 h with rfl | h
    · omega
    · have : x.length ≤ (Lib.joinTail sep r).length := by
        unfold Lib.joinTail
        induction r with
        | nil => simp at h
        | cons z t ih =>
          simp only [List.map_cons, List.flatten_cons, List.length_append]
          rcases List.mem_cons.1 h with rfl | h
          · omega
          · have := ih (by simp [h]) h; omega
      omega

/-- What can be printed. -/
inductive Fit : JV → Prop
  | mk {v : JV} (h2 : v.kids.length ≤ 1000000000000) (h6 : v.kind = 6 → v.kids.length ≤ v.names.length) (h0 : -4611686018427387904 ≤ v.n) (h1 : v.n ≤ 4611686018427387904) (hp : (printJ v).length ≤ 140737488355328) (h3 : ∀ x ∈ v.kids, Fit x) : Fit v

def strsF (l : List (List UInt8)) : Nat → Nat → Cell := fun i _ => .str (l.getD i [])
theorem parts_succ (v : JV) (k : Nat) : parts v (k + 1) = parts v k ++ [partAt v k] := by unfold parts; rw [List.range_succ, List.map_append]; rfl
theorem strs_app {e : TypeId} {k : Nat} (l : List (List UInt8)) (x : List UInt8) (hk : k = l.length) : BlkEqv (.row e 1 (k + 1) (catF k (strsF l) (fun i j => nthD [.str x] ((0 + i) * 1 + j)))) (.row e 1 (k + 1) (strsF (l ++ [x]))) := by
  refine BlkEqv.row_ext rfl fun i hi j hj => ?_
  subst hk
  unfold catF
  split
  · rename_i h; simp only [strsF, List.getD, List.getElem?_append, h, if_true]
  · obtain ⟨h1, rfl⟩ : i = l.length ∧ j = 0 := by omega
    subst h1
    rw [Nat.sub_self]
    simp only [strsF, List.getD, List.getElem?_append, Nat.lt_irrefl, if_false, Nat.sub_self]
    rfl
theorem parts_len (v : JV) (k : Nat) : k = (parts v k).length := by simp [parts]
theorem strs_flat (l : List (List UInt8)) (n : Nat) : ∀ i, i < n → ∀ j, j < 1 → (strsF l i j).flat = true := by
  intro i hi j hj
  obtain rfl : j = 0 := by omega
  rfl
theorem strs_sl {v : JV} {k m : Nat} (h : k = m) : ∀ i, i < k → ∀ j, j < 1 → strsF (parts v k) (0 + i) j = nthD [.str ((parts v m).getD i [])] j := by
  intro i hi j hj
  obtain rfl : j = 0 := by omega
  subst h
  rw [Nat.zero_add]; rfl
theorem strs_in (l : List (List UInt8)) (n : Nat) (S : Nat → Prop) : ∀ i, i < n → ∀ j, j < 1 → (strsF l i j).inS S := by
  intro i hi j hj
  obtain rfl : j = 0 := by omega
  trivial
def priInv (v : JV) (k : Nat) : St := ⟨[(1, .v (.c (.ptr 0 0))), (3, .v (.c (.row 1 1 0 k))), (28, .v (.c (.sl 6 v.kids.length (kidC v.kids)))), (29, .v (.c (.int .i64 (v.kids.length : Int)))), (30, .v (.c (.int .i64 (k : Int))))], [(0, .box 31 (encJ v)), (1, .row 9 1 k (strsF (parts v k)))], 16⟩
theorem prints_ok (gp : Nat) (hg : Tryz.prog.globalNamed "internal/strconv.uint64pow10" = some gp) (hG : G gp = some (Lib.pow10Tab.map fun z => .int .u64 z)) {v : JV} (hf : Fit v) : Pur Tryz.prog G 112 [.agg (encJ v)] [.c (.str (printJ v))] := by
  induction hf with
  | mk h2 h6 h0 h1 hp h3 ih =>
  rename_i v
  rw [printJ_eq] at hp ⊢
  refine Pur.of Tryz.func112 (by kernel_rfl) (by kernel_rfl) (by kernel_rfl) ?_
  refine Wp.go (mx := true) (fun _ => mixed) [] 100 [] [] (by kernel_rfl) (by kernel_rfl) (by kernel_rfl) trivial ?_
  refine Wp.cond' (by kernel_rfl) (v.kind == 1) (by kernel_rfl) (fun h => ?_) (fun h => ?_)
  · refine Wp.go (mx := true) (fun _ => mixed) [] 100 [] [] (by kernel_rfl) (by kernel_rfl) (by kernel_rfl) trivial ?_
    refine Wp.ret' (by kernel_rfl) ?_
    exact FinQ.pure (rs' := [.c (.str [110, 117, 108, 108])]) (by kernel_rfl) (by rw [if_pos h]) (by kernel_rfl)
  rw [if_neg (by simp [h])] at hp
  have k1 := h
  refine Wp.go (mx := true) (fun _ => mixed) [] 100 [] [] (by kernel_rfl) (by kernel_rfl) (by kernel_rfl) trivial ?_
  refine Wp.cond' (by kernel_rfl) (v.kind == 2) (by kernel_rfl) (fun h => ?_) (fun h => ?_)
  · refine Wp.go (mx := true) (fun _ => mixed) [(5, {cs := [(2, pc (lib_FormatBool v.b))]})] 100 [] [] (by kernel_rfl) (by kernel_rfl) (by kernel_rfl) trivial ?_
    refine Wp.ret' (by kernel_rfl) ?_
    exact FinQ.pure (rs' := [.c (.str (Lib.formatBool v.b))]) (by kernel_rfl) (by rw [if_neg (by simp [k1]), if_pos h]) (by kernel_rfl)
  rw [if_neg (by simp [h])] at hp
  have k2 := h
  refine Wp.go (mx := true) (fun _ => mixed) [] 100 [] [] (by kernel_rfl) (by kernel_rfl) (by kernel_rfl) trivial ?_
  refine Wp.cond' (by kernel_rfl) (v.kind == 3) (by kernel_rfl) (fun h => ?_) (fun h => ?_)
  · refine Wp.go (mx := true) (fun _ => mixed) [(7, {cs := [(2, pc (lib_Itoa gp hg hG v.n (by omega) (by omega)))]})] 100 [] [] (by kernel_rfl) (by kernel_rfl) (by kernel_rfl) trivial ?_
    refine Wp.ret' (by kernel_rfl) ?_
    exact FinQ.pure (rs' := [.c (.str (Lib.itoa v.n))]) (by kernel_rfl) (by rw [if_neg (by simp [k1]), if_neg (by simp [k2]), if_pos h]) (by kernel_rfl)
  rw [if_neg (by simp [h])] at hp
  have k3 := h
  refine Wp.go (mx := true) (fun _ => mixed) [] 100 [] [] (by kernel_rfl) (by kernel_rfl) (by kernel_rfl) trivial ?_
  refine Wp.cond' (by kernel_rfl) (v.kind == 4) (by kernel_rfl) (fun h => ?_) (fun h => ?_)
  · rw [if_pos h] at hp
    refine Wp.go (mx := true) (fun _ => mixed) [(9, {cs := [(2, pc (quoted_ok v.s hp))]})] 100 [] [] (by kernel_rfl) (by kernel_rfl) (by kernel_rfl) trivial ?_
    refine Wp.ret' (by kernel_rfl) ?_
    exact FinQ.pure (rs' := [.c (.str (quotedT v.s))]) (by kernel_rfl) (by rw [if_neg (by simp [k1]), if_neg (by simp [k2]), if_neg (by simp [k3]), if_pos h]) (by kernel_rfl)
  rw [if_neg (by simp [h])] at hp
  have k4 := h
  refine Wp.go (mx := true) (fun _ => mixed) [] 100 [] [] (by kernel_rfl) (by kernel_rfl) (by kernel_rfl) trivial ?_
  refine Wp.loopK (by kernel_rfl) (priInv v) (fun k => k ≤ v.kids.length) (fun k => v.kids.length - k) 0 (Ent.trans (Ent.empT (t := 3) (sz := 1) (e := 9) (f := strsF []) (by decide) (by kernel_rfl) rfl) (Ent.of [(1, 272)] (by kernel_rfl) (by kernel_rfl) (by kernel_rfl) trivial)) (Nat.zero_le _) ?_
  intro k L hk again
  refine Wp.go (mx := true) (fun _ => mixed) [] 100 [] [] (by kernel_rfl) (by kernel_rfl) (by kernel_rfl) trivial ?_
  refine Wp.cond' (by kernel_rfl) (decide ((k : Int) < (v.kids.length : Int))) (by kernel_rfl) (fun h => ?_) (fun h => ?_)
  · have hk' : k < v.kids.length := by simpa using h
    have hin : 0 ≤ (k : Int) ∧ (k : Int) < (v.kids.length : Int) := by omega
    have hm : v.kids.getD k .nil ∈ v.kids := by simp [List.getD, hk']
    have hpart : (partAt v k).length + 2 ≤ 140737488355328 := by
      have := join_part [44] (x := partAt v k) (xs := parts v v.kids.length) (List.mem_map.2 ⟨k, by simpa using hk', rfl⟩)
      split at hp <;> simp only [List.length_append, List.length_cons, List.length_nil] at hp <;> omega
    refine Wp.go (mx := true) (fun _ => mixed) [(13, {fm := [(2, .agg (encJ (v.kids.getD k .nil)))]}), (14, {cs := [(1, pc (ih _ hm))]})] 100 [] [0 ≤ (k : Int) ∧ (k : Int) < (v.kids.length : Int), EqvD (.agg [kidC v.kids k 0, kidC v.kids k 1, kidC v.kids k 2, kidC v.kids k 3, kidC v.kids k 4, kidC v.kids k 5]) (.agg (encJ (v.kids.getD k .nil)))] (by kernel_rfl) (by kernel_rfl) (by kernel_rfl) ⟨hin, kid_den hk'⟩ ?_
    refine Wp.cond' (by kernel_rfl) (v.kind == 6) (by kernel_rfl) (fun h => ?_) (fun h => ?_)
    · have hp1 : partAt v k = (quotedT (v.names.getD k []) ++ [58]) ++ printJ (v.kids.getD k .nil) := by unfold partAt; rw [if_pos h]
      have hq : (quotedT (v.names.getD k [])).length ≤ 140737488355328 := by rw [hp1] at hpart; simp only [List.length_append] at hpart; omega
      have hin2 : 0 ≤ (k : Int) ∧ (k : Int) < (v.names.length : Int) := by have := h6 (by simpa using h); omega
      have hb : BlkEqv (.row 9 1 (k + 1) (catF k (strsF (parts v k)) (fun i j => nthD [.str ((quotedT (v.names.getD k []) ++ [58]) ++ printJ (v.kids.getD k .nil))] ((0 + i) * 1 + j)))) (.row 9 1 (k + 1) (strsF (parts v (k + 1)))) := by
        rw [parts_succ, hp1]; exact strs_app _ _ (parts_len v k)
      rw [hp1] at hpart
      simp only [List.length_append, List.length_cons, List.length_nil] at hpart
      refine Wp.go (mx := true) (fun _ => mixed) [(16, {cs := [(5, pc (quoted_ok (v.names.getD k []) hq))]}), (17, {bs := [(3, .row 9 1 (k + 1) (strsF (parts v (k + 1))))]})] 100 [] [0 ≤ (k : Int) ∧ (k : Int) < (v.names.length : Int), (quotedT (v.names.getD k [])).length + 1 ≤ 9223372036854775807, (quotedT (v.names.getD k []) ++ [58]).length + (printJ (v.kids.getD k .nil)).length ≤ 9223372036854775807, (k + 1) * 16 ≤ 140737488355328, BlkEqv (.row 9 1 (k + 1) (catF k (strsF (parts v k)) (fun i j => nthD [.str ((quotedT (v.names.getD k []) ++ [58]) ++ printJ (v.kids.getD k .nil))] ((0 + i) * 1 + j)))) (.row 9 1 (k + 1) (strsF (parts v (k + 1)))), k ≤ k, 1 ≤ 1, inR .i64 ((k : Int) + 1)] (by kernel_rfl) (by kernel_rfl) (by kernel_rfl) ⟨hin2, by omega, by simp only [List.length_append, List.length_cons, List.length_nil]; omega, by omega, hb, Nat.le_refl _, Nat.le_refl _, inR64 (by omega) (by omega)⟩ ?_
      exact Wp.lpK (by kernel_rfl) (again _ (k + 1) hk' (by show v.kids.length - (k + 1) < v.kids.length - k; omega) (Ent.of [(1, 432)] (by kernel_rfl) (by kernel_rfl) (by kernel_rfl) trivial))
    · have hp1 : partAt v k = printJ (v.kids.getD k .nil) := by unfold partAt; rw [if_neg (by simp [h])]
      have hb : BlkEqv (.row 9 1 (k + 1) (catF k (strsF (parts v k)) (fun i j => nthD [.str (printJ (v.kids.getD k .nil))] ((0 + i) * 1 + j)))) (.row 9 1 (k + 1) (strsF (parts v (k + 1)))) := by
        rw [parts_succ, hp1]; exact strs_app _ _ (parts_len v k)
      refine Wp.go (mx := true) (fun _ => mixed) [(17, {bs := [(3, .row 9 1 (k + 1) (strsF (parts v (k + 1))))]})] 100 [] [(k + 1) * 16 ≤ 140737488355328, BlkEqv (.row 9 1 (k + 1) (catF k (strsF (parts v k)) (fun i j => nthD [.str (printJ (v.kids.getD k .nil))] ((0 + i) * 1 + j)))) (.row 9 1 (k + 1) (strsF (parts v (k + 1)))), k ≤ k, 1 ≤ 1, inR .i64 ((k : Int) + 1)] (by kernel_rfl) (by kernel_rfl) (by kernel_rfl) ⟨by omega, hb, Nat.le_refl _, Nat.le_refl _, inR64 (by omega) (by omega)⟩ ?_
      exact Wp.lpK (by kernel_rfl) (again _ (k + 1) hk' (by show v.kids.length - (k + 1) < v.kids.length - k; omega) (Ent.of [(1, 272)] (by kernel_rfl) (by kernel_rfl) (by kernel_rfl) trivial))
  · have hke : k = v.kids.length := by simp at h; omega
    refine Wp.ent' (by kernel_rfl) (Ent.pubT (e := 9) (id := 1) (t := 3) (off := 0) (m := k) (n := k) (f := strsF (parts v k)) (m' := (parts v v.kids.length).length) (f' := fun i j => nthD [.str ((parts v v.kids.length).getD i [])] j) (by kernel_rfl) (by kernel_rfl) (by omega) (by simp [parts, hke]) (strs_sl hke) rfl) ?_
    have hj : (Lib.join (parts v v.kids.length) [44]).length + 2 ≤ 140737488355328 := by
      split at hp <;> simp only [List.length_append, List.length_cons, List.length_nil] at hp <;> omega
    have hj2 : ∀ c : UInt8, (c :: Lib.join (parts v v.kids.length) [44]).length + 1 ≤ 9223372036854775807 := fun c => by simp only [List.length_cons]; omega
    refine Wp.go (mx := true) (fun _ => mixed) [(19, {cs := [(1, pc (lib_Join (parts v v.kids.length) [44] (by rw [← parts_len]; omega) (by omega)))]})] 100 [] [] (by kernel_rfl) (by kernel_rfl) (by kernel_rfl) trivial ?_
    refine Wp.cond' (by kernel_rfl) (v.kind == 6) (by kernel_rfl) (fun h => ?_) (fun h => ?_)
    · refine Wp.go (mx := true) (fun _ => mixed) [] 100 [] [1 + (Lib.join (parts v v.kids.length) [44]).length ≤ 9223372036854775807, (123 :: Lib.join (parts v v.kids.length) [44]).length + 1 ≤ 9223372036854775807] (by kernel_rfl) (by kernel_rfl) (by kernel_rfl) ⟨by omega, hj2 _⟩ ?_
      refine Wp.ret' (by kernel_rfl) ?_
      exact FinQ.pure (rs' := [.c (.str ((123 :: Lib.join (parts v v.kids.length) [44]) ++ [125]))]) (by kernel_rfl) (by rw [if_neg (by simp [k1]), if_neg (by simp [k2]), if_neg (by simp [k3]), if_neg (by simp [k4]), if_pos h]) (by kernel_rfl)
    · refine Wp.go (mx := true) (fun _ => mixed) [] 100 [] [1 + (Lib.join (parts v v.kids.length) [44]).length ≤ 9223372036854775807, (91 :: Lib.join (parts v v.kids.length) [44]).length + 1 ≤ 9223372036854775807] (by kernel_rfl) (by kernel_rfl) (by kernel_rfl) ⟨by omega, hj2 _⟩ ?_
      refine Wp.ret' (by kernel_rfl) ?_
      exact FinQ.pure (rs' := [.c (.str ((91 :: Lib.join (parts v v.kids.length) [44]) ++ [93]))]) (by kernel_rfl) (by rw [if_neg (by simp [k1]), if_neg (by simp [k2]), if_neg (by simp [k3]), if_neg (by simp [k4]), if_neg (by simp [h])]) (by kernel_rfl)

/-- What is printed: nothing, if it may not be. -/
def printT (v : JV) : List UInt8 := if mayJ v 0 then printJ v else []
theorem Print_ok (gp : Nat) (hg : Tryz.prog.globalNamed "internal/strconv.uint64pow10" = some gp) (hG : G gp = some (Lib.pow10Tab.map fun z => .int .u64 z)) {v : JV} (hs : Small v) (hf : mayJ v 0 = true → Fit v) : Pur Tryz.prog G 61 [.agg (encJ v)] [.c (.str (printT v))] := by
  refine Pur.of Tryz.func61 (by kernel_rfl) (by kernel_rfl) (by kernel_rfl) ?_
  refine Wp.go (mx := true) (fun _ => mixed) [(1, {cs := [(1, pc (May_ok hs))]})] 100 [] [] (by kernel_rfl) (by kernel_rfl) (by kernel_rfl) trivial ?_
  refine Wp.cond' (by kernel_rfl) (!(mayJ v 0)) (by kernel_rfl) (fun h => ?_) (fun h => ?_)
  · refine Wp.go (mx := true) (fun _ => mixed) [] 100 [] [] (by kernel_rfl) (by kernel_rfl) (by kernel_rfl) trivial ?_
    refine Wp.ret' (by kernel_rfl) ?_
    exact FinQ.pure (rs' := [.c (.str [])]) (by kernel_rfl) (by unfold printT; rw [if_neg (by simpa using h)]) (by kernel_rfl)
  · have hm : mayJ v 0 = true := by simpa using h
    refine Wp.go (mx := true) (fun _ => mixed) [(3, {cs := [(1, pc (prints_ok gp hg hG (hf hm)))]})] 100 [] [] (by kernel_rfl) (by kernel_rfl) (by kernel_rfl) trivial ?_
    refine Wp.ret' (by kernel_rfl) ?_
    exact FinQ.pure (rs' := [.c (.str (printJ v))]) (by kernel_rfl) (by unfold printT; rw [if_pos hm]) (by kernel_rfl)
end Go.Proofs.Tw
end

section
open Go Go.Sv
namespace Go.Proofs.Tw
attribute [local irreducible] Wp FinQ resV Ent Pur Go.Sv.Fn Sat0
set_option maxRecDepth 100000
variable {G : Nat → Option (List Cell)}

def moreB (s : List UInt8) (i : Nat) : Bool := cond (cond (decide ((i : Int) ≥ (s.length : Int))) true (decide (((s.getD i 0).toNat : Int) < 128))) true (decide (((s.getD i 0).toNat : Int) > 191))
def moreT (s : List UInt8) (i : Nat) : Int := if moreB s i then -1 else ((s.getD i 0).toNat : Int) - 128
def fB1 (c a : Int) : Bool := cond (cond (decide (c ≥ 194)) (decide (c < 224)) false) (decide (a ≥ 0)) false
def fB2 (c a b : Int) : Bool := cond (cond (cond (decide (c ≥ 224)) (decide (c < 240)) false) (decide (a ≥ 0)) false) (decide (b ≥ 0)) false
def r3 (c a b : Int) : Int := (c - 224) * 4096 + a * 64 + b
def fC2 (r : Int) : Bool := cond (decide (r ≥ 2048)) (cond (decide (r < 55296)) true (decide (r > 57343))) false
def fB3 (c a b d : Int) : Bool := cond (cond (cond (cond (decide (c ≥ 240)) (decide (c < 245)) false) (decide (a ≥ 0)) false) (decide (b ≥ 0)) false) (decide (d ≥ 0)) false
def r4 (c a b d : Int) : Int := (c - 240) * 262144 + a * 4096 + b * 64 + d
def fC3 (r : Int) : Bool := cond (decide (r ≥ 65536)) (decide (r ≤ 1114111)) false
def firstT (c a b d : Int) : Int × Int := if c < 128 then (c, 1) else if fB1 c a then ((c - 192) * 64 + a, 2) else if fB2 c a b then (if fC2 (r3 c a b) then (r3 c a b, 3) else (65533, 1)) else if fB3 c a b d then (if fC3 (r4 c a b d) then (r4 c a b d, 4) else (65533, 1)) else (65533, 1)

theorem get_mk (s : List UInt8) (k : Nat) : (⟨s.toArray⟩ : ByteArray).get! k = s.getD k 0 := by
  simp only [ByteArray.get!, List.getD]
  rw [getElem!_def]
  cases h : s[k]? with
  | none => simp [h]; rfl
  | some x => simp [h]

theorem more_cases (s : List UInt8) (k : Nat) : let x := (s.getD k 0).toNat
    (k < s.length ∧ x / 64 = 2 ∧ moreT s k = ((x % 64 : Nat) : Int)) ∨ ((¬ k < s.length ∨ x / 64 ≠ 2) ∧ moreT s k = -1) := by
  intro x
  have hx : x < 256 := UInt8.toNat_lt _
  unfold moreT moreB
  by_cases h1 : k < s.length
  · have e1 : decide ((k : Int) ≥ (s.length : Int)) = false := by simp; omega
    rw [e1]
    by_cases h2 : x / 64 = 2
    · have e2 : decide (((s.getD k 0).toNat : Int) < 128) = false := by simp only [decide_eq_false_iff_not]; omega
      have e3 : decide (((s.getD k 0).toNat : Int) > 191) = false := by simp only [decide_eq_false_iff_not]; omega
      rw [e2, e3]
      refine .inl ⟨h1, h2, ?_⟩
      show ((s.getD k 0).toNat : Int) - 128 = _
      omega
    · refine .inr ⟨.inr h2, ?_⟩
      rw [if_pos]
      by_cases h3 : x < 128
      · have e2 : decide (((s.getD k 0).toNat : Int) < 128) = true := by simp only [decide_eq_true_eq]; omega
        rw [e2]; rfl
      · have e3 : decide (((s.getD k 0).toNat : Int) > 191) = true := by simp only [decide_eq_true_eq]; omega
        rw [e3]; cases decide (((s.getD k 0).toNat : Int) < 128) <;> rfl
  · refine .inr ⟨.inl h1, ?_⟩
    have e1 : decide ((k : Int) ≥ (s.length : Int)) = true := by simp; omega
    rw [e1]; rfl

theorem first_eq (s : List UInt8) (hs : s ≠ []) : firstT ((s.getD 0 0).toNat : Int) (moreT s 1) (moreT s 2) (moreT s 3) = (runeAt s 0, (runeW s 0 : Int)) := by
  unfold runeAt runeW Utf8.decode
  have hsz : (⟨s.toArray⟩ : ByteArray).size = s.length := size_mk s
  simp only [get_mk, Nat.zero_add, hsz]
  have m1 := more_cases s 1
  have m2 := more_cases s 2
  have m3 := more_cases s 3
  generalize (s.getD 0 0) = c0, (s.getD 1 0) = c1, (s.getD 2 0) = c2, (s.getD 3 0) = c3 at *
  have hc : c0.toNat < 256 := UInt8.toNat_lt _
  generalize c0.toNat = c, c1.toNat = x1, c2.toNat = x2, c3.toNat = x3 at *
  simp only at m1 m2 m3
  generalize moreT s 1 = a, moreT s 2 = b, moreT s 3 = d at *
  have q1 : (decide (1 < s.length) && x1 / 64 == 2) = decide (0 ≤ a) := by
    rcases m1 with ⟨h1, h2, h3⟩ | ⟨h1, h3⟩
    · rw [h3]; simp [h1, h2]; omega
    · rcases h1 with h1 | h1 <;> simp [h1, h3]
  have q2 : (decide (2 < s.length) && x2 / 64 == 2) = decide (0 ≤ b) := by
    rcases m2 with ⟨h1, h2, h3⟩ | ⟨h1, h3⟩
    · rw [h3]; simp [h1, h2]; omega
    · rcases h1 with h1 | h1 <;> simp [h1, h3]
  have q3 : (decide (3 < s.length) && x3 / 64 == 2) = decide (0 ≤ d) := by
    rcases m3 with ⟨h1, h2, h3⟩ | ⟨h1, h3⟩
    · rw [h3]; simp [h1, h2]; omega
    · rcases h1 with h1 | h1 <;> simp [h1, h3]
  rw [q1, q2, q3]
  have ha : 0 ≤ a → a = ((x1 % 64 : Nat) : Int) := by intro h; rcases m1 with ⟨_, _, h3⟩ | ⟨_, h3⟩ <;> omega
  have hb : 0 ≤ b → b = ((x2 % 64 : Nat) : Int) := by intro h; rcases m2 with ⟨_, _, h3⟩ | ⟨_, h3⟩ <;> omega
  have hd : 0 ≤ d → d = ((x3 % 64 : Nat) : Int) := by intro h; rcases m3 with ⟨_, _, h3⟩ | ⟨_, h3⟩ <;> omega
  clear m1 m2 m3 q1 q2 q3
  unfold firstT fB1 fB2 fB3 fC2 fC3 r3 r4 Utf8.valid Utf8.runeError
  by_cases p1 : c < 128
  · rw [if_pos (by omega), if_pos p1]; simp
  rw [if_neg (by omega), if_neg p1]
  have e1 : ∀ p q : Bool, cond p q false = (p && q) := by intro p q; cases p <;> rfl
  have e2 : ∀ p q : Bool, cond p true q = (p || q) := by intro p q; cases p <;> rfl
  simp only [e1, e2, Bool.and_eq_true, Bool.or_eq_true, decide_eq_true_eq, beq_iff_eq, ge_iff_le, gt_iff_lt]
  repeat' split
  all_goals simp only [Prod.mk.injEq]
  all_goals (first | (exfalso; omega) | (constructor <;> omega) | skip)

theorem wrap64 {n : Int} (h1 : -9223372036854775808 ≤ n) (h2 : n ≤ 9223372036854775807) : IntKind.i64.wrap n = n := by
  simp [IntKind.wrap, IntKind.signed, IntKind.bits]
  omega

theorem byte_lt (s : List UInt8) (i : Nat) : ((s.getD i 0).toNat : Int) < 256 := by have := UInt8.toNat_lt (s.getD i 0); omega

theorem more_ok (s : List UInt8) (i : Nat) (hi : i < 10) : Pur Tryz.prog G 191 [.c (.str s), .c (.int .i64 (i : Int))] [.c (.int .i64 (moreT s i))] := by
  refine Pur.of Tryz.func191 (by kernel_rfl) (by kernel_rfl) (by kernel_rfl) ?_
  have hb := byte_lt s i
  have h0 : 0 ≤ ((s.getD i 0).toNat : Int) := Int.natCast_nonneg _
  refine Wp.go (mx := true) (fun _ => mixed) [] 100 [] [decide ((i : Int) ≥ (s.length : Int)) = false → 0 ≤ (i : Int) ∧ (i : Int) < (s.length : Int), cond (decide ((i : Int) ≥ (s.length : Int))) true (decide (((s.getD i 0).toNat : Int) < 128)) = false → 0 ≤ (i : Int) ∧ (i : Int) < (s.length : Int)] (by kernel_rfl) (by kernel_rfl) (by kernel_rfl) ⟨fun h => by simp at h; omega, fun h => by cases h1 : decide ((i : Int) ≥ (s.length : Int)) with | true => rw [h1] at h; cases h | false => simp at h1; omega⟩ ?_
  refine Wp.cond' (by kernel_rfl) (moreB s i) (by kernel_rfl) (fun h => ?_) (fun h => ?_)
  · refine Wp.go (mx := true) (fun _ => mixed) [] 100 [] [] (by kernel_rfl) (by kernel_rfl) (by kernel_rfl) trivial ?_
    refine Wp.ret' (by kernel_rfl) ?_
    exact FinQ.pure (rs' := [.c (.int .i64 (-1))]) (by kernel_rfl) (by unfold moreT; rw [if_pos h]) (by kernel_rfl)
  · have hi2 : (i : Int) < (s.length : Int) := by
      unfold moreB at h
      cases h1 : decide ((i : Int) ≥ (s.length : Int)) with
      | true => rw [h1] at h; cases h
      | false => simp at h1; omega
    refine Wp.go (mx := true) (fun _ => mixed) [] 100 [] [0 ≤ (i : Int) ∧ (i : Int) < (s.length : Int), inR .i64 (IntKind.i64.wrap ((s.getD i 0).toNat : Int) - 128)] (by kernel_rfl) (by kernel_rfl) (by kernel_rfl) ⟨⟨by omega, hi2⟩, by rw [wrap64 (by omega) (by omega)]; exact inR64 (by omega) (by omega)⟩ ?_
    refine Wp.ret' (by kernel_rfl) ?_
    exact FinQ.pure (rs' := [.c (.int .i64 (IntKind.i64.wrap ((s.getD i 0).toNat : Int) - 128))]) (by kernel_rfl) (by unfold moreT; rw [if_neg (by simp [h]), wrap64 (by omega) (by omega)]) (by kernel_rfl)

theorem more_rng (s : List UInt8) (i : Nat) : -1 ≤ moreT s i ∧ moreT s i ≤ 63 := by
  have := more_cases s i
  simp only at this
  rcases this with ⟨_, _, h⟩ | ⟨_, h⟩ <;> omega

theorem first_gen (s : List UInt8) (hl : 0 < s.length) (c a b d : Int) (hc : c = ((s.getD 0 0).toNat : Int)) (a1 : -1 ≤ a) (a2 : a ≤ 63) (b1 : -1 ≤ b) (b2 : b ≤ 63) (d1 : -1 ≤ d) (d2 : d ≤ 63)
    (ca : Pur Tryz.prog G 191 [.c (.str s), .c (.int .i64 1)] [.c (.int .i64 a)]) (cb : Pur Tryz.prog G 191 [.c (.str s), .c (.int .i64 2)] [.c (.int .i64 b)])
    (cd : Pur Tryz.prog G 191 [.c (.str s), .c (.int .i64 3)] [.c (.int .i64 d)]) :
    Pur Tryz.prog G 149 [.c (.str s)] [.c (.int .i64 (firstT c a b d).1), .c (.int .i64 (firstT c a b d).2)] := by
  have hb := byte_lt s 0
  have h0 : 0 ≤ ((s.getD 0 0).toNat : Int) := Int.natCast_nonneg _
  have ew : IntKind.i64.wrap ((s.getD 0 0).toNat : Int) = c := by rw [hc]; exact wrap64 (by omega) (by omega)
  have c1 : 0 ≤ c := by omega
  have c2 : c < 256 := by omega
  refine Pur.of Tryz.func149 (by kernel_rfl) (by kernel_rfl) (by kernel_rfl) ?_
  refine Wp.go (mx := true) (fun _ => mixed) [(1, {fm := [(2, .c (.int .i64 c))]}), (2, {cs := [(1, pc ca), (3, pc cb), (5, pc cd)]})] 100 [] [0 ≤ (0 : Int) ∧ (0 : Int) < (s.length : Int), EqvI (.c (.int .i64 (IntKind.i64.wrap ((s.getD 0 0).toNat : Int)))) (.c (.int .i64 c)), EqvD (.c (.int .i64 (IntKind.i64.wrap ((s.getD 0 0).toNat : Int)))) (.c (.int .i64 c))] (by kernel_rfl) (by kernel_rfl) (by kernel_rfl) ⟨⟨by omega, by omega⟩, fun _ _ => trivial, by rw [ew]; exact fun _ _ _ h => h⟩ ?_
  unfold firstT
  refine Wp.cond' (by kernel_rfl) (decide (c < 128)) (by kernel_rfl) (fun h => ?_) (fun h => ?_)
  · have p1 : c < 128 := by simpa using h
    refine Wp.go (mx := true) (fun _ => mixed) [] 100 [] [] (by kernel_rfl) (by kernel_rfl) (by kernel_rfl) trivial ?_
    refine Wp.ret' (by kernel_rfl) ?_
    exact FinQ.pure (rs' := [.c (.int .i64 c), .c (.int .i64 1)]) (by kernel_rfl) (by rw [if_pos p1]) (by kernel_rfl)
  have p1 : ¬ c < 128 := by simpa using h
  refine Wp.go (mx := true) (fun _ => mixed) [] 100 [] [] (by kernel_rfl) (by kernel_rfl) (by kernel_rfl) trivial ?_
  refine Wp.cond' (by kernel_rfl) (fB1 c a) (by kernel_rfl) (fun h => ?_) (fun h => ?_)
  · refine Wp.go (mx := true) (fun _ => mixed) [] 100 [] [inR .i64 (c - 192), inR .i64 ((c - 192) * 64), inR .i64 ((c - 192) * 64 + a)] (by kernel_rfl) (by kernel_rfl) (by kernel_rfl) ⟨inR64 (by omega) (by omega), inR64 (by omega) (by omega), inR64 (by omega) (by omega)⟩ ?_
    refine Wp.ret' (by kernel_rfl) ?_
    exact FinQ.pure (rs' := [.c (.int .i64 ((c - 192) * 64 + a)), .c (.int .i64 2)]) (by kernel_rfl) (by rw [if_neg p1, if_pos h]) (by kernel_rfl)
  have p2 := h
  refine Wp.go (mx := true) (fun _ => mixed) [] 100 [] [] (by kernel_rfl) (by kernel_rfl) (by kernel_rfl) trivial ?_
  refine Wp.cond' (by kernel_rfl) (fB2 c a b) (by kernel_rfl) (fun h => ?_) (fun h => ?_)
  · have p3 := h
    refine Wp.go (mx := true) (fun _ => mixed) [] 100 [] [inR .i64 (c - 224), inR .i64 ((c - 224) * 4096), inR .i64 (a * 64), inR .i64 ((c - 224) * 4096 + a * 64), inR .i64 ((c - 224) * 4096 + a * 64 + b)] (by kernel_rfl) (by kernel_rfl) (by kernel_rfl) ⟨inR64 (by omega) (by omega), inR64 (by omega) (by omega), inR64 (by omega) (by omega), inR64 (by omega) (by omega), inR64 (by omega) (by omega)⟩ ?_
    refine Wp.cond' (by kernel_rfl) (fC2 (r3 c a b)) (by kernel_rfl) (fun h => ?_) (fun h => ?_)
    · refine Wp.go (mx := true) (fun _ => mixed) [] 100 [] [] (by kernel_rfl) (by kernel_rfl) (by kernel_rfl) trivial ?_
      refine Wp.ret' (by kernel_rfl) ?_
      exact FinQ.pure (rs' := [.c (.int .i64 (r3 c a b)), .c (.int .i64 3)]) (by kernel_rfl) (by rw [if_neg p1, if_neg (by simp [p2]), if_pos p3, if_pos h]) (by kernel_rfl)
    · refine Wp.go (mx := true) (fun _ => mixed) [] 100 [] [] (by kernel_rfl) (by kernel_rfl) (by kernel_rfl) trivial ?_
      refine Wp.ret' (by kernel_rfl) ?_
      exact FinQ.pure (rs' := [.c (.int .i64 65533), .c (.int .i64 1)]) (by kernel_rfl) (by rw [if_neg p1, if_neg (by simp [p2]), if_pos p3, if_neg (by simp [h])]) (by kernel_rfl)
  have p3 := h
  refine Wp.go (mx := true) (fun _ => mixed) [] 100 [] [] (by kernel_rfl) (by kernel_rfl) (by kernel_rfl) trivial ?_
  refine Wp.cond' (by kernel_rfl) (fB3 c a b d) (by kernel_rfl) (fun h => ?_) (fun h => ?_)
  · have p4 := h
    refine Wp.go (mx := true) (fun _ => mixed) [] 100 [] [inR .i64 (c - 240), inR .i64 ((c - 240) * 262144), inR .i64 (a * 4096), inR .i64 ((c - 240) * 262144 + a * 4096), inR .i64 (b * 64), inR .i64 ((c - 240) * 262144 + a * 4096 + b * 64), inR .i64 ((c - 240) * 262144 + a * 4096 + b * 64 + d)] (by kernel_rfl) (by kernel_rfl) (by kernel_rfl) ⟨inR64 (by omega) (by omega), inR64 (by omega) (by omega), inR64 (by omega) (by omega), inR64 (by omega) (by omega), inR64 (by omega) (by omega), inR64 (by omega) (by omega), inR64 (by omega) (by omega)⟩ ?_
    refine Wp.cond' (by kernel_rfl) (fC3 (r4 c a b d)) (by kernel_rfl) (fun h => ?_) (fun h => ?_)
    · refine Wp.go (mx := true) (fun _ => mixed) [] 100 [] [] (by kernel_rfl) (by kernel_rfl) (by kernel_rfl) trivial ?_
      refine Wp.ret' (by kernel_rfl) ?_
      exact FinQ.pure (rs' := [.c (.int .i64 (r4 c a b d)), .c (.int .i64 4)]) (by kernel_rfl) (by rw [if_neg p1, if_neg (by simp [p2]), if_neg (by simp [p3]), if_pos p4, if_pos h]) (by kernel_rfl)
    · refine Wp.go (mx := true) (fun _ => mixed) [] 100 [] [] (by kernel_rfl) (by kernel_rfl) (by kernel_rfl) trivial ?_
      refine Wp.ret' (by kernel_rfl) ?_
      exact FinQ.pure (rs' := [.c (.int .i64 65533), .c (.int .i64 1)]) (by kernel_rfl) (by rw [if_neg p1, if_neg (by simp [p2]), if_neg (by simp [p3]), if_pos p4, if_neg (by simp [h])]) (by kernel_rfl)
  · refine Wp.go (mx := true) (fun _ => mixed) [] 100 [] [] (by kernel_rfl) (by kernel_rfl) (by kernel_rfl) trivial ?_
    refine Wp.ret' (by kernel_rfl) ?_
    exact FinQ.pure (rs' := [.c (.int .i64 65533), .c (.int .i64 1)]) (by kernel_rfl) (by rw [if_neg p1, if_neg (by simp [p2]), if_neg (by simp [p3]), if_neg (by simp [h])]) (by kernel_rfl)

theorem first_ok (s : List UInt8) (hs : s ≠ []) : Pur Tryz.prog G 149 [.c (.str s)] [.c (.int .i64 (runeAt s 0)), .c (.int .i64 (runeW s 0 : Int))] := by
  obtain ⟨r1, r2⟩ := more_rng s 1
  obtain ⟨r3, r4⟩ := more_rng s 2
  obtain ⟨r5, r6⟩ := more_rng s 3
  have := first_gen (G := G) s (List.length_pos_iff.2 hs) _ _ _ _ rfl r1 r2 r3 r4 r5 r6 (more_ok s 1 (by omega)) (more_ok s 2 (by omega)) (more_ok s 3 (by omega))
  rw [first_eq s hs] at this
  exact this

theorem runeW_le (s : List UInt8) (pos : Nat) : runeW s pos ≤ 4 := by
  unfold runeW Utf8.decode
  simp only
  repeat' split
  all_goals (show _ ≤ 4; simp)
theorem rune_drop (s : List UInt8) (pos : Nat) : runeAt (s.drop pos) 0 = runeAt s pos ∧ runeW (s.drop pos) 0 = runeW s pos := by
  unfold runeAt runeW Utf8.decode
  have e1 : (⟨(s.drop pos).toArray⟩ : ByteArray).size = s.length - pos := by rw [size_mk]; simp
  have e2 : (⟨s.toArray⟩ : ByteArray).size = s.length := size_mk s
  have e3 : ∀ k, (s.drop pos).getD k 0 = s.getD (pos + k) 0 := by intro k; simp [List.getD]
  have e4 : ∀ k, decide (0 + k < s.length - pos) = decide (pos + k < s.length) := by intro k; apply decide_eq_decide.2; omega
  simp only [get_mk, e1, e2, e3, Nat.zero_add]
  have e5 : ∀ k, decide (k < s.length - pos) = decide (pos + k < s.length) := by intro k; apply decide_eq_decide.2; omega
  simp only [e5, and_self]

theorem valid6_ok (s : List UInt8) (hm : s.length < 4611686018427387904) : Pur Tryz.prog G 104 [.c (.str s)] [.c (.bool (validT s))] := by
  refine Pur.of Tryz.func104 (by kernel_rfl) (by kernel_rfl) (by kernel_rfl) ?_
  refine Wp.go (mx := true) (fun _ => mixed) [] 100 [] [] (by kernel_rfl) (by kernel_rfl) (by kernel_rfl) trivial ?_
  refine Wp.loopK (by kernel_rfl) (fun (x : Nat × Nat) => ⟨[(0, .v (.c (.str s))), (3, .v (.c (.int .i64 (x.1 : Int))))], [], 0⟩) (fun x => validT s = validN s x.2 x.1 ∧ s.length - x.1 ≤ x.2 ∧ x.1 ≤ s.length + 4) (fun x => x.2) (0, s.length) (Ent.of [] (by kernel_rfl) (by kernel_rfl) (by kernel_rfl) trivial) ⟨rfl, Nat.le_refl _, Nat.zero_le _⟩ ?_
  rintro ⟨pos, n⟩ L ⟨h1, h2, h3⟩ again
  simp only at h1 h2 h3
  refine Wp.go (mx := true) (fun _ => mixed) [] 100 [] [] (by kernel_rfl) (by kernel_rfl) (by kernel_rfl) trivial ?_
  refine Wp.cond' (by kernel_rfl) (decide ((pos : Int) < (s.length : Int))) (by kernel_rfl) (fun h => ?_) (fun h => ?_)
  · have hp : pos < s.length := by simpa using h
    obtain ⟨n, rfl⟩ : ∃ m, n = m + 1 := ⟨n - 1, by omega⟩
    have hne : s.drop pos ≠ [] := by intro e; have := congrArg List.length e; simp at this; omega
    have hw := runeW_pos s pos
    simp only [validN, if_pos hp] at h1
    have hf := first_ok (G := G) (s.drop pos) hne
    rw [(rune_drop s pos).1, (rune_drop s pos).2] at hf
    have hsl : (s.take s.length).drop pos = s.drop pos := by rw [List.take_length]
    refine Wp.go (mx := true) (fun _ => mixed) [(3, {fm := [(2, .c (.str (s.drop pos)))], cs := [(3, pc hf)]})] 100 [] [EqvI (.c (.str ((s.take s.length).drop pos))) (.c (.str (s.drop pos))), EqvD (.c (.str ((s.take s.length).drop pos))) (.c (.str (s.drop pos))), 0 ≤ (pos : Int) ∧ (pos : Int) ≤ (s.length : Int) ∧ (s.length : Int) ≤ (s.length : Int)] (by kernel_rfl) (by kernel_rfl) (by kernel_rfl) ⟨fun _ _ => trivial, by rw [hsl]; exact fun _ _ _ h => h, by omega, by omega, by omega⟩ ?_
    refine Wp.cond' (by kernel_rfl) (runeAt s pos == 65533) (by kernel_rfl) (fun h => ?_) (fun h => ?_)
    · refine Wp.go (mx := true) (fun _ => mixed) [] 100 [] [] (by kernel_rfl) (by kernel_rfl) (by kernel_rfl) trivial ?_
      refine Wp.ret' (by kernel_rfl) ?_
      exact FinQ.pure (rs' := [.c (.bool false)]) (by kernel_rfl) (by rw [h1, if_pos h]) (by kernel_rfl)
    · have hw4 := runeW_le s pos
      refine Wp.go (mx := true) (fun _ => mixed) [] 100 [] [inR .i64 ((pos : Int) + (runeW s pos : Int))] (by kernel_rfl) (by kernel_rfl) (by kernel_rfl) (inR64 (by omega) (by omega)) ?_
      exact Wp.lpK (by kernel_rfl) (again _ (pos + runeW s pos, n) ⟨by rw [h1, if_neg (by simp [h])], by simp only; omega, by simp only; omega⟩ (by simp only; omega) (Ent.of [] (by kernel_rfl) (by kernel_rfl) (by kernel_rfl) trivial))
  · refine Wp.go (mx := true) (fun _ => mixed) [] 100 [] [] (by kernel_rfl) (by kernel_rfl) (by kernel_rfl) trivial ?_
    refine Wp.ret' (by kernel_rfl) ?_
    exact FinQ.pure (rs' := [.c (.bool true)]) (by kernel_rfl) (by rw [h1]; have : ¬ pos < s.length := by { simp at h; omega }; cases n <;> simp [validN, this]) (by kernel_rfl)
end Go.Proofs.Tw
end

section
open Go Go.Sv
namespace Go.Proofs.Tw
attribute [local irreducible] Wp FinQ resV Ent Pur Go.Sv.Fn Sat0
set_option maxRecDepth 100000
variable {G : Nat → Option (List Cell)}

/-! the document's own -/
def twiceT (l : List (List UInt8)) (i : Nat) : Bool := (l.take i).contains (l.getD i [])
theorem twice_true {l : List (List UInt8)} {k i : Nat} (hk : k < i) (hi : i < l.length) (h : l.getD k [] == l.getD i []) : twiceT l i = true := by
  unfold twiceT
  rw [List.contains_iff_mem]
  have : l.getD k [] = l.getD i [] := by simpa using h
  rw [← this]
  rw [List.mem_take_iff_getElem]
  exact ⟨k, by omega, by simp [List.getD, show k < l.length from by omega]⟩
theorem twice_false {l : List (List UInt8)} {i : Nat} (hi : i < l.length) (h : ∀ k, k < i → (l.getD k [] == l.getD i []) = false) : twiceT l i = false := by
  unfold twiceT
  cases hc : (l.take i).contains (l.getD i []) with
  | false => rfl
  | true =>
    rw [List.contains_iff_mem, List.mem_take_iff_getElem] at hc
    obtain ⟨k, hk, e⟩ := hc
    have := h k (by omega)
    rw [beq_eq_false_iff_ne] at this
    exact absurd (by simpa [List.getD, show k < l.length from by omega] using e) this
theorem twice_ok (l : List (List UInt8)) (i : Nat) (hi : i < l.length) (hl : l.length < 4611686018427387904) : Pur Tryz.prog G 105 [.c (encS l), .c (.int .i64 (i : Int))] [.c (.bool (twiceT l i))] := by
  refine Pur.of Tryz.func105 (by kernel_rfl) (by kernel_rfl) (by kernel_rfl) ?_
  refine Wp.go (mx := true) (fun _ => mixed) [] 100 [] [] (by kernel_rfl) (by kernel_rfl) (by kernel_rfl) trivial ?_
  refine Wp.loopK (by kernel_rfl) (fun k : Nat => ⟨[(0, .v (.c (encS l))), (1, .v (.c (.int .i64 (i : Int)))), (5, .v (.c (.int .i64 (k : Int))))], [], 0⟩) (fun k => k ≤ i ∧ ∀ j, j < k → (l.getD j [] == l.getD i []) = false) (fun k => i - k) 0 (Ent.of [] (by kernel_rfl) (by kernel_rfl) (by kernel_rfl) trivial) ⟨Nat.zero_le _, fun j hj => absurd hj (Nat.not_lt_zero j)⟩ ?_
  rintro k L ⟨hk, hall⟩ again
  refine Wp.go (mx := true) (fun _ => mixed) [] 100 [] [] (by kernel_rfl) (by kernel_rfl) (by kernel_rfl) trivial ?_
  refine Wp.cond' (by kernel_rfl) (decide ((k : Int) < (i : Int))) (by kernel_rfl) (fun h => ?_) (fun h => ?_)
  · have hk' : k < i := by simpa using h
    refine Wp.go (mx := true) (fun _ => mixed) [] 100 [] [0 ≤ (k : Int) ∧ (k : Int) < (l.length : Int), 0 ≤ (i : Int) ∧ (i : Int) < (l.length : Int)] (by kernel_rfl) (by kernel_rfl) (by kernel_rfl) ⟨by omega, by show 0 ≤ (i : Int) ∧ (i : Int) < (l.length : Int); omega⟩ ?_
    refine Wp.cond' (by kernel_rfl) (l.getD k [] == l.getD i []) (by kernel_rfl) (fun h => ?_) (fun h => ?_)
    · refine Wp.go (mx := true) (fun _ => mixed) [] 100 [] [] (by kernel_rfl) (by kernel_rfl) (by kernel_rfl) trivial ?_
      refine Wp.ret' (by kernel_rfl) ?_
      exact FinQ.pure (rs' := [.c (.bool true)]) (by kernel_rfl) (by rw [twice_true hk' hi h]) (by kernel_rfl)
    · refine Wp.go (mx := true) (fun _ => mixed) [] 100 [] [inR .i64 ((k : Int) + 1)] (by kernel_rfl) (by kernel_rfl) (by kernel_rfl) (inR64 (by omega) (by omega)) ?_
      exact Wp.lpK (by kernel_rfl) (again _ (k + 1) ⟨hk', up1 hall h⟩ (by show i - (k + 1) < i - k; omega) (Ent.of [] (by kernel_rfl) (by kernel_rfl) (by kernel_rfl) trivial))
  · refine Wp.go (mx := true) (fun _ => mixed) [] 100 [] [] (by kernel_rfl) (by kernel_rfl) (by kernel_rfl) trivial ?_
    refine Wp.ret' (by kernel_rfl) ?_
    exact FinQ.pure (rs' := [.c (.bool false)]) (by kernel_rfl) (by rw [twice_false hi (fun j hj => hall j (by simp at h; omega))]) (by kernel_rfl)

def x2 (v : JV) : Bool := cond (a1 v) true (cond (v.kind != 2) v.b false)
def x3 (v : JV) : Bool := cond (x2 v) true (cond (v.kind != 3) (v.n != 0) false)
def x4 (v : JV) : Bool := cond (x3 v) true (decide (v.n < -9007199254740992))
def x5 (v : JV) : Bool := cond (x4 v) true (decide (v.n > 9007199254740992))
def x6 (v : JV) : Bool := cond (x5 v) true (cond (v.kind != 4) (!(v.s == [])) false)
def x7 (v : JV) : Bool := cond (x6 v) true (!(validT v.s))
def x8 (v : JV) : Bool := cond (x7 v) true (cond (!(listed v)) (decide ((v.kids.length : Int) > 0)) false)
def x9 (v : JV) (d : Int) : Bool := cond (x8 v) true (cond (listed v) (decide (d ≥ 8)) false)
def y1 (v : JV) : Bool := cond (v.kind != 6) (decide ((v.names.length : Int) > 0)) false
def y2 (v : JV) : Bool := cond (y1 v) true (cond (v.kind == 6) ((v.names.length : Int) != (v.kids.length : Int)) false)

def aA (v : JV) : Bool := a1 v || a2 v || a3 v || a4 v || a5 v
theorem x6_b : ∀ A1 k2 b k3 n0 l g k4 s0 : Bool, cond (cond (cond (cond (cond A1 true (cond (!k2) b false)) true (cond (!k3) (!n0) false)) true l) true g) true (cond (!k4) (!s0) false) = (A1 || cond b (!k2) false || cond (!n0) (!k3) false || cond l true g || cond (!s0) (!k4) false) := by decide
theorem x6_eq (v : JV) : x6 v = aA v := x6_b _ _ _ _ _ _ _ _ _
theorem x9_b : ∀ A va li K ge : Bool, cond (cond (cond A true (!va)) true (cond (!li) K false)) true (cond li ge false) = (A || !va || (!li && K) || (li && ge)) := by decide
def kK (v : JV) : Bool := decide ((v.kids.length : Int) > 0)
def kN (v : JV) : Bool := decide ((v.names.length : Int) > 0)
def k6 (v : JV) : Bool := v.kind == 6
def qE (v : JV) : Bool := (v.names.length : Int) == (v.kids.length : Int)
theorem x9_eq (v : JV) (d : Int) : x9 v d = (aA v || !(validT v.s) || (!(listed v) && kK v) || (listed v && decide (d ≥ 8))) := by
  rw [← x6_eq]; exact x9_b _ _ _ _ _
theorem y2_b : ∀ N k q : Bool, cond (cond (!k) N false) true (cond k (!q) false) = ((N && !k) || (k && !q)) := by decide
theorem y2_eq (v : JV) : y2 v = ((kN v && !(k6 v)) || (k6 v && !(qE v))) := y2_b _ _ _
theorem may_b : ∀ A1 A2 A3 A4 A5 K li N k va nok q k5 x : Bool, li = cond k5 true k → (!(A1 || A2 || A3 || A4 || A5 || cond K (!li) false || cond N (!k) false) && cond va (cond (!k) true (nok && q)) false && (cond (!k5) (!k) false || x)) = (!((A1 || A2 || A3 || A4 || A5) || (K && !li) || (N && !k)) && (va && (!k || (nok && q))) && (!li || x)) := by decide
theorem may_A (v : JV) (d : Int) : mayJ v d = (!(aA v || (kK v && !(listed v)) || (kN v && !(k6 v))) && (validT v.s && (!(k6 v) || (namesOk v.names && qE v))) && (!(listed v) || cond (decide (d < 8)) (!(anyNot v.kids (d + 1))) false)) := by
  rw [mayJ_eq]; exact may_b _ _ _ _ _ _ _ _ _ _ _ _ (v.kind == 5) _ rfl
theorem ge_lt (d : Int) : decide (d ≥ 8) = !(decide (d < 8)) := by
  by_cases h : d < 8
  · have : ¬ d ≥ 8 := by omega
    simp [h, this]
  · have : d ≥ 8 := by omega
    simp [h, this]
theorem e1_b : ∀ A va li K N k nk d8 an : Bool, (A || !va || (!li && K) || (li && !d8)) = true → (!(A || (K && !li) || (N && !k)) && (va && (!k || nk)) && (!li || cond d8 an false)) = false := by decide
theorem e2_b : ∀ A va li K N k nok q x : Bool, ((N && !k) || (k && !q)) = true → (!(A || (K && !li) || (N && !k)) && (va && (!k || (nok && q))) && (!li || x)) = false := by decide
theorem e3_b : ∀ A va li K k q x : Bool, ((true && !k) || (k && !q)) = false → (!(A || (K && !li) || (true && !k)) && (va && (!k || (false && q))) && (!li || x)) = false := by decide
theorem e4_b : ∀ A va li N k nk d8 : Bool, (A || !va || (!li && true) || (li && !d8)) = false → (!(A || (true && !li) || (N && !k)) && (va && (!k || nk)) && (!li || cond d8 (!true) false)) = false := by decide
theorem e5_b : ∀ A va li K N k q d8 : Bool, (A || !va || (!li && K) || (li && !d8)) = false → ((N && !k) || (k && !q)) = false → (!(A || (K && !li) || (N && !k)) && (va && (!k || (true && q))) && (!li || cond d8 (!false) false)) = true := by decide

theorem may_e1 {v : JV} {d : Int} (h : x9 v d = true) : mayJ v d = false := by
  rw [x9_eq, ge_lt] at h; rw [may_A]; exact e1_b _ _ _ _ _ _ _ _ _ h
theorem may_e2 {v : JV} (d : Int) (h : y2 v = true) : mayJ v d = false := by
  rw [y2_eq] at h; rw [may_A]; exact e2_b _ _ _ _ _ _ _ _ _ h
theorem may_e3 {v : JV} (d : Int) (h : y2 v = false) (hn : 0 < v.names.length) (ho : namesOk v.names = false) : mayJ v d = false := by
  rw [y2_eq] at h; rw [may_A]
  have : kN v = true := by unfold kN; simp only [decide_eq_true_eq]; omega
  rw [this] at h ⊢; rw [ho]; exact e3_b _ _ _ _ _ _ _ h
theorem may_e4 {v : JV} {d : Int} (h : x9 v d = false) (hn : 0 < v.kids.length) (ho : anyNot v.kids (d + 1) = true) : mayJ v d = false := by
  rw [x9_eq, ge_lt] at h; rw [may_A]
  have : kK v = true := by unfold kK; simp only [decide_eq_true_eq]; omega
  rw [this] at h ⊢; rw [ho]; exact e4_b _ _ _ _ _ _ _ h
theorem may_e5 {v : JV} {d : Int} (h : x9 v d = false) (h2 : y2 v = false) (hn : namesOk v.names = true) (ho : anyNot v.kids (d + 1) = false) : mayJ v d = true := by
  rw [x9_eq, ge_lt] at h; rw [y2_eq] at h2; rw [may_A, hn, ho]
  exact e5_b _ _ _ _ _ _ _ _ h h2

theorem d8_b : ∀ A va li d8 : Bool, (A || !va || (!li && true) || (li && !d8)) = false → d8 = true := by decide
theorem may_d8 {v : JV} {d : Int} (h : x9 v d = false) (hn : 0 < v.kids.length) : d < 8 := by
  rw [x9_eq, ge_lt] at h
  have : kK v = true := by unfold kK; simp only [decide_eq_true_eq]; omega
  rw [this] at h
  simpa using d8_b _ _ _ _ h
/-- All texts are short enough, too. -/
inductive Short : JV → Prop
  | mk {v : JV} (h0 : v.s.length < 4611686018427387904) (h1 : v.names.length < 4611686018427387904) (hs : ∀ x ∈ v.names, x.length < 4611686018427387904) (h2 : v.kids.length < 4611686018427387904) (h3 : ∀ x ∈ v.kids, Short x) : Short v
theorem may12_ok {v : JV} (hs : Short v) : ∀ d : Int, -1000 < d → d < 9 → Pur Tryz.prog G 56 [.agg (encJ v), .c (.int .i64 d)] [.c (.bool (mayJ v d))] := by
  induction hs with
  | mk h0 h1 hns h2 h3 ih =>
  rename_i v
  intro d hd0 hd1
  refine Pur.of Tryz.func56 (by kernel_rfl) (by kernel_rfl) (by kernel_rfl) ?_
  refine Wp.go (mx := true) (fun _ => mixed) [(2, {cs := [(50, pc (valid6_ok v.s h0))]})] 100 [] [] (by kernel_rfl) (by kernel_rfl) (by kernel_rfl) trivial ?_
  refine Wp.cond' (by kernel_rfl) (x9 v d) (by kernel_rfl) (fun h => ?_) (fun h => ?_)
  · refine Wp.go (mx := true) (fun _ => mixed) [] 100 [] [] (by kernel_rfl) (by kernel_rfl) (by kernel_rfl) trivial ?_
    refine Wp.ret' (by kernel_rfl) ?_
    exact FinQ.pure (rs' := [.c (.bool false)]) (by kernel_rfl) (by rw [may_e1 h]) (by kernel_rfl)
  have hx := h
  refine Wp.go (mx := true) (fun _ => mixed) [] 100 [] [] (by kernel_rfl) (by kernel_rfl) (by kernel_rfl) trivial ?_
  refine Wp.cond' (by kernel_rfl) (y2 v) (by kernel_rfl) (fun h => ?_) (fun h => ?_)
  · refine Wp.go (mx := true) (fun _ => mixed) [] 100 [] [] (by kernel_rfl) (by kernel_rfl) (by kernel_rfl) trivial ?_
    refine Wp.ret' (by kernel_rfl) ?_
    exact FinQ.pure (rs' := [.c (.bool false)]) (by kernel_rfl) (by rw [may_e2 d h]) (by kernel_rfl)
  have hy := h
  refine Wp.go (mx := true) (fun _ => mixed) [] 100 [] [] (by kernel_rfl) (by kernel_rfl) (by kernel_rfl) trivial ?_
  refine Wp.loopK (by kernel_rfl) (fun k : Nat => ⟨[(1, .v (.c (.int .i64 d))), (2, .v (.c (.ptr 0 0))), (5, .v (.c (.bool (listed v)))), (6, .v (.c (.int .i64 (k : Int))))], [(0, .box 31 (encJ v))], 16⟩) (fun k => k ≤ v.names.length ∧ ∀ i, i < k → okAt v.names i = true) (fun k => v.names.length - k) 0 (Ent.of [] (by kernel_rfl) (by kernel_rfl) (by kernel_rfl) trivial) ⟨Nat.zero_le _, fun i hi => absurd hi (Nat.not_lt_zero i)⟩ ?_
  rintro k L ⟨hk, hall⟩ again
  refine Wp.go (mx := true) (fun _ => mixed) [] 100 [] [] (by kernel_rfl) (by kernel_rfl) (by kernel_rfl) trivial ?_
  refine Wp.cond' (by kernel_rfl) (decide ((k : Int) < (v.names.length : Int))) (by kernel_rfl) (fun h => ?_) (fun h => ?_)
  · have hk' : k < v.names.length := by simpa using h
    have hm : v.names.getD k [] ∈ v.names := by simp [List.getD, hk']
    refine Wp.go (mx := true) (fun _ => mixed) [(9, {cs := [(5, pc (valid6_ok (v.names.getD k []) (hns _ hm))), (11, pc (twice_ok v.names k hk' h1))]})] 100 [] [0 ≤ (k : Int) ∧ (k : Int) < (v.names.length : Int)] (by kernel_rfl) (by kernel_rfl) (by kernel_rfl) (by show 0 ≤ (k : Int) ∧ (k : Int) < (v.names.length : Int); omega) ?_
    refine Wp.cond' (by kernel_rfl) (cond (!(validT (v.names.getD k []))) true (twiceT v.names k)) (by kernel_rfl) (fun h => ?_) (fun h => ?_)
    · have ho : okAt v.names k = false := by
        unfold okAt
        have : cond (!(validT (v.names.getD k []))) true (twiceT v.names k) = true := h
        unfold twiceT at this
        cases e1 : validT (v.names.getD k []) <;> rw [e1] at this <;> simp at this ⊢
        exact this
      refine Wp.go (mx := true) (fun _ => mixed) [] 100 [] [] (by kernel_rfl) (by kernel_rfl) (by kernel_rfl) trivial ?_
      refine Wp.ret' (by kernel_rfl) ?_
      exact FinQ.pure (rs' := [.c (.bool false)]) (by kernel_rfl) (by rw [may_e3 d hy (by omega) (all_range_false hk' ho)]) (by kernel_rfl)
    · have ho : okAt v.names k = true := by
        unfold okAt
        have : cond (!(validT (v.names.getD k []))) true (twiceT v.names k) = false := h
        unfold twiceT at this
        cases e1 : validT (v.names.getD k []) <;> rw [e1] at this <;> simp at this ⊢
        exact this
      refine Wp.go (mx := true) (fun _ => mixed) [] 100 [] [inR .i64 ((k : Int) + 1)] (by kernel_rfl) (by kernel_rfl) (by kernel_rfl) (inR64 (by omega) (by omega)) ?_
      exact Wp.lpK (by kernel_rfl) (again _ (k + 1) ⟨hk', up1 hall ho⟩ (by show v.names.length - (k + 1) < v.names.length - k; omega) (Ent.of [] (by kernel_rfl) (by kernel_rfl) (by kernel_rfl) trivial))
  have hno : namesOk v.names = true := all_range_true fun i hi => hall i (by simp at h; omega)
  refine Wp.go (mx := true) (fun _ => mixed) [] 100 [] [] (by kernel_rfl) (by kernel_rfl) (by kernel_rfl) trivial ?_
  refine Wp.loopK (by kernel_rfl) (fun k : Nat => ⟨[(1, .v (.c (.int .i64 d))), (2, .v (.c (.ptr 0 0))), (7, .v (.c (.int .i64 (k : Int))))], [(0, .box 31 (encJ v))], 16⟩) (fun k => k ≤ v.kids.length ∧ ∀ i, i < k → mayJ (v.kids.getD i .nil) (d + 1) = true) (fun k => v.kids.length - k) 0 (Ent.of [] (by kernel_rfl) (by kernel_rfl) (by kernel_rfl) trivial) ⟨Nat.zero_le _, fun i hi => absurd hi (Nat.not_lt_zero i)⟩ ?_
  rintro k L ⟨hk, hall⟩ again
  refine Wp.go (mx := true) (fun _ => mixed) [] 100 [] [] (by kernel_rfl) (by kernel_rfl) (by kernel_rfl) trivial ?_
  refine Wp.cond' (by kernel_rfl) (decide ((k : Int) < (v.kids.length : Int))) (by kernel_rfl) (fun h => ?_) (fun h => ?_)
  · have hk' : k < v.kids.length := by simpa using h
    have hm : v.kids.getD k .nil ∈ v.kids := by simp [List.getD, hk']
    have hin : 0 ≤ (k : Int) ∧ (k : Int) < (v.kids.length : Int) := by omega
    have h8 := may_d8 hx (show 0 < v.kids.length by omega)
    refine Wp.go (mx := true) (fun _ => mixed) [(14, {fm := [(4, .agg (encJ (v.kids.getD k .nil)))], cs := [(7, pc (ih _ hm (d + 1) (by omega) (by omega)))]})] 100 [] [0 ≤ (k : Int) ∧ (k : Int) < (v.kids.length : Int), EqvD (.agg [kidC v.kids k 0, kidC v.kids k 1, kidC v.kids k 2, kidC v.kids k 3, kidC v.kids k 4, kidC v.kids k 5]) (.agg (encJ (v.kids.getD k .nil))), inR .i64 (d + 1)] (by kernel_rfl) (by kernel_rfl) (by kernel_rfl) ⟨hin, kid_den hk', inR64 (by omega) (by omega)⟩ ?_
    refine Wp.cond' (by kernel_rfl) (!(mayJ (v.kids.getD k .nil) (d + 1))) (by kernel_rfl) (fun h => ?_) (fun h => ?_)
    · have ha : anyNot v.kids (d + 1) = true := by rw [anyNot_eq, List.any_eq_true]; exact ⟨_, hm, h⟩
      refine Wp.go (mx := true) (fun _ => mixed) [] 100 [] [] (by kernel_rfl) (by kernel_rfl) (by kernel_rfl) trivial ?_
      refine Wp.ret' (by kernel_rfl) ?_
      exact FinQ.pure (rs' := [.c (.bool false)]) (by kernel_rfl) (by rw [may_e4 hx (by omega) ha]) (by kernel_rfl)
    · have ho : mayJ (v.kids.getD k .nil) (d + 1) = true := by simpa using h
      refine Wp.go (mx := true) (fun _ => mixed) [] 100 [] [inR .i64 ((k : Int) + 1)] (by kernel_rfl) (by kernel_rfl) (by kernel_rfl) (inR64 (by omega) (by omega)) ?_
      exact Wp.lpK (by kernel_rfl) (again _ (k + 1) ⟨hk', up1 hall ho⟩ (by show v.kids.length - (k + 1) < v.kids.length - k; omega) (Ent.of [] (by kernel_rfl) (by kernel_rfl) (by kernel_rfl) trivial))
  · have ha : anyNot v.kids (d + 1) = false := by
      rw [anyNot_eq, List.any_eq_false]
      intro x hxm
      obtain ⟨i, hi, rfl⟩ := List.getElem_of_mem hxm
      have := hall i (by simp at h; omega)
      simpa [List.getD, hi] using this
    refine Wp.go (mx := true) (fun _ => mixed) [] 100 [] [] (by kernel_rfl) (by kernel_rfl) (by kernel_rfl) trivial ?_
    refine Wp.ret' (by kernel_rfl) ?_
    exact FinQ.pure (rs' := [.c (.bool true)]) (by kernel_rfl) (by rw [may_e5 hx hy hno ha]) (by kernel_rfl)
theorem May12_ok {v : JV} (hs : Short v) : Pur Tryz.prog G 15 [.agg (encJ v)] [.c (.bool (mayJ v 0))] := by
  refine Pur.of Tryz.func15 (by kernel_rfl) (by kernel_rfl) (by kernel_rfl) ?_
  refine Wp.go (mx := true) (fun _ => mixed) [(1, {cs := [(1, pc (may12_ok hs 0 (by omega) (by omega)))]})] 100 [] [] (by kernel_rfl) (by kernel_rfl) (by kernel_rfl) trivial ?_
  refine Wp.ret' (by kernel_rfl) ?_
  exact FinQ.pure (rs' := [.c (.bool (mayJ v 0))]) (by kernel_rfl) rfl (by kernel_rfl)
end Go.Proofs.Tw
end

section
open Go Go.Sv
namespace Go.Proofs.Tw
attribute [local irreducible] Wp FinQ resV Ent Pur Go.Sv.Fn Sat0
set_option maxRecDepth 100000
variable {G : Nat → Option (List Cell)}

theorem bytes_in (l : List UInt8) (n : Nat) (S : Nat → Prop) : ∀ i, i < n → ∀ j, j < 1 → (bytesF l i j).inS S := fun _ _ _ _ => trivial
def w16 (n : Nat) : Int := IntKind.u8.wrap ((n : Int).tdiv 16)
def m16 (n : Nat) : Int := (n : Int).tmod 16
theorem dig12 : ∀ n : Nat, n < 32 → (0 ≤ w16 n ∧ w16 n < 2) ∧ (0 ≤ m16 n ∧ m16 n < 16) ∧ ([48, 49] : List UInt8).getD (w16 n).toNat 0 = hexT.getD (n / 16) 0 ∧ hexT.getD (m16 n).toNat 0 = hexT.getD (n % 16) 0 := by decide

def q12Inv (s : List UInt8) (x : Nat × Nat × List UInt8) : St := ⟨[(0, .v (.c (.str s))), (3, .v (.c (.row 1 0 0 x.2.1))), (4, .v (.c (.int .i64 (x.1 : Int))))], [(0, .row 5 1 x.2.1 (bytesF x.2.2))], 16⟩
theorem quoted12_ok (s : List UInt8) (hs : (quotedT s).length ≤ 140737488355328) : Pur Tryz.prog G 160 [.c (.str s)] [.c (.str (quotedT s))] := by
  have hlen : s.length ≤ (s.flatMap qByte).length := by
    clear hs
    induction s with
    | nil => simp
    | cons c r ih =>
      have : 1 ≤ (qByte c).length := by unfold qByte; split <;> (try split) <;> simp
      simp only [List.flatMap_cons, List.length_append, List.length_cons]; omega
  simp only [quotedT, List.length_cons, List.length_append, List.length_nil] at hs
  refine Pur.of Tryz.func160 (by kernel_rfl) (by kernel_rfl) (by kernel_rfl) ?_
  refine Wp.go (mx := true) (fun _ => mixed) [] 100 [] [] (by kernel_rfl) (by kernel_rfl) (by kernel_rfl) trivial ?_
  refine Wp.ent' (by kernel_rfl) (Ent.blkE (id := 16) (by kernel_rfl) (bytes_new (e := 5) [34]) rfl) ?_
  refine Wp.loopK (by kernel_rfl) (q12Inv s) (fun x => x.1 ≤ s.length ∧ x.2.1 = x.2.2.length ∧ x.2.2 = 34 :: (s.take x.1).flatMap qByte) (fun x => s.length - x.1) (0, 1, [34]) (Ent.of [(0, 16)] (by kernel_rfl) (by kernel_rfl) (by kernel_rfl) trivial) ⟨Nat.zero_le _, rfl, by simp⟩ ?_
  rintro ⟨k, n, l⟩ L ⟨hk, hn, hl⟩ again
  simp only at hk hn hl
  refine Wp.go (mx := true) (fun _ => mixed) [] 100 [] [] (by kernel_rfl) (by kernel_rfl) (by kernel_rfl) trivial ?_
  refine Wp.cond' (by kernel_rfl) (decide ((k : Int) < (s.length : Int))) (by kernel_rfl) (fun h => ?_) (fun h => ?_)
  · have hk' : k < s.length := by simpa using h
    have hin : 0 ≤ (k : Int) ∧ (k : Int) < (s.length : Int) := by omega
    obtain ⟨c, hc⟩ : ∃ c, c = s.getD k 0 := ⟨_, rfl⟩
    have htk : s.take (k + 1) = s.take k ++ [c] := by rw [hc, List.take_succ]; simp [List.getD, hk']
    have hst : s = s.take k ++ c :: s.drop (k + 1) := by
      have := List.take_append_drop (k + 1) s
      rw [htk] at this
      simpa using this.symm
    have hbound : n + (qByte c).length + 1 ≤ 140737488355328 := by
      have e : (s.flatMap qByte).length = ((s.take k).flatMap qByte).length + (qByte c).length + ((s.drop (k + 1)).flatMap qByte).length := by
        conv => lhs; rw [hst]
        simp only [List.flatMap_append, List.flatMap_cons, List.length_append]; omega
      rw [hl] at hn
      simp only [List.length_cons] at hn
      omega
    have hnext : l ++ qByte c = 34 :: (s.take (k + 1)).flatMap qByte := by
      rw [htk, hl]; simp
    refine Wp.go (mx := true) (fun _ => mixed) [] 100 [] [0 ≤ (k : Int) ∧ (k : Int) < (s.length : Int), (((s.getD k 0).toNat : Int) == 34) = false → 0 ≤ (k : Int) ∧ (k : Int) < (s.length : Int)] (by kernel_rfl) (by kernel_rfl) (by kernel_rfl) ⟨hin, fun _ => hin⟩ ?_
    refine Wp.cond' (by kernel_rfl) (cond (((s.getD k 0).toNat : Int) == 34) true (((s.getD k 0).toNat : Int) == 92)) (by kernel_rfl) (fun h => ?_) (fun h => ?_)
    · rw [← hc] at h
      have hb : (c == 34 || c == 92) = true := by
        have e1 := byte_eq (c := c) (n := 34) (by omega)
        have e2 := byte_eq (c := c) (n := 92) (by omega)
        rw [show ((c.toNat : Int) == 34) = (c == 34) from e1, show ((c.toNat : Int) == 92) = (c == 92) from e2] at h
        exact (cond_or _ _).symm.trans h
      have hq : qByte c = [92, c] := by unfold qByte; rw [if_pos hb]
      rw [hq] at hbound hnext
      simp only [List.length_cons, List.length_nil] at hbound
      refine Wp.go (mx := true) (fun _ => mixed) [(7, {bs := [(5, .row 5 1 (n + 2) (bytesF (l ++ [92, s.getD k 0])))]})] 100 [] [0 ≤ (k : Int) ∧ (k : Int) < (s.length : Int), (n + 2) * 1 ≤ 140737488355328, BlkEqv (.row 5 1 (n + 2) (catF n (bytesF l) (fun i j => nthD (bl [92, s.getD k 0]) ((0 + i) * 1 + j)))) (.row 5 1 (n + 2) (bytesF (l ++ [92, s.getD k 0]))), n ≤ n, 2 ≤ 2, inR .i64 ((k : Int) + 1)] (by kernel_rfl) (by kernel_rfl) (by kernel_rfl) ⟨hin, by omega, bytes_app l [92, s.getD k 0] hn, Nat.le_refl _, Nat.le_refl _, inR64 (by omega) (by omega)⟩ ?_
      exact Wp.lpK (by kernel_rfl) (again _ (k + 1, n + 2, l ++ [92, s.getD k 0]) ⟨hk', by simp only; rw [hn]; simp, by rw [← hc]; exact hnext⟩ (by show s.length - (k + 1) < s.length - k; omega) (Ent.of [(0, 336)] (by kernel_rfl) (by kernel_rfl) (by kernel_rfl) trivial))
    rw [← hc] at h
    have hb : (c == 34 || c == 92) = false := by
      have e1 := byte_eq (c := c) (n := 34) (by omega)
      have e2 := byte_eq (c := c) (n := 92) (by omega)
      rw [show ((c.toNat : Int) == 34) = (c == 34) from e1, show ((c.toNat : Int) == 92) = (c == 92) from e2] at h
      exact (cond_or _ _).symm.trans h
    refine Wp.go (mx := true) (fun _ => mixed) [] 100 [] [0 ≤ (k : Int) ∧ (k : Int) < (s.length : Int)] (by kernel_rfl) (by kernel_rfl) (by kernel_rfl) hin ?_
    refine Wp.cond' (by kernel_rfl) (decide (((s.getD k 0).toNat : Int) < 32)) (by kernel_rfl) (fun h => ?_) (fun h => ?_)
    · have hlt : c.toNat < 32 := by rw [← hc] at h; simp at h; omega
      have hq : qByte c = [92, 117, 48, 48, hexT.getD (c.toNat / 16) 0, hexT.getD (c.toNat % 16) 0] := by
        unfold qByte; rw [if_neg (by simp [hb]), if_pos (show c < 32 from hlt)]
      obtain ⟨d1, d2, d3, d4⟩ := dig12 c.toNat hlt
      rw [hq] at hbound hnext
      simp only [List.length_cons, List.length_nil] at hbound
      rw [hc] at d1 d2 d3 d4 hnext
      refine Wp.go (mx := true) (fun _ => mixed) [(9, {fm := [(5, .c (.int .u8 ((hexT.getD ((s.getD k 0).toNat / 16) 0).toNat : Int))), (10, .c (.int .u8 ((hexT.getD ((s.getD k 0).toNat % 16) 0).toNat : Int)))], bs := [(12, .row 5 1 (n + 6) (bytesF (l ++ [92, 117, 48, 48, hexT.getD ((s.getD k 0).toNat / 16) 0, hexT.getD ((s.getD k 0).toNat % 16) 0])))]})] 100 [] [0 ≤ (k : Int) ∧ (k : Int) < (s.length : Int), (16 : Int) ≠ 0, EqvI (.c (.int .u8 ((([48, 49] : List UInt8).getD (w16 (s.getD k 0).toNat).toNat 0).toNat : Int))) (.c (.int .u8 ((hexT.getD ((s.getD k 0).toNat / 16) 0).toNat : Int))), EqvD (.c (.int .u8 ((([48, 49] : List UInt8).getD (w16 (s.getD k 0).toNat).toNat 0).toNat : Int))) (.c (.int .u8 ((hexT.getD ((s.getD k 0).toNat / 16) 0).toNat : Int))), 0 ≤ w16 (s.getD k 0).toNat ∧ w16 (s.getD k 0).toNat < 2, 0 ≤ (k : Int) ∧ (k : Int) < (s.length : Int), (16 : Int) ≠ 0, EqvI (.c (.int .u8 ((hexT.getD (m16 (s.getD k 0).toNat).toNat 0).toNat : Int))) (.c (.int .u8 ((hexT.getD ((s.getD k 0).toNat % 16) 0).toNat : Int))), EqvD (.c (.int .u8 ((hexT.getD (m16 (s.getD k 0).toNat).toNat 0).toNat : Int))) (.c (.int .u8 ((hexT.getD ((s.getD k 0).toNat % 16) 0).toNat : Int))), 0 ≤ m16 (s.getD k 0).toNat ∧ m16 (s.getD k 0).toNat < 16, (n + 6) * 1 ≤ 140737488355328, BlkEqv (.row 5 1 (n + 6) (catF n (bytesF l) (fun i j => nthD (bl [92, 117, 48, 48, hexT.getD ((s.getD k 0).toNat / 16) 0, hexT.getD ((s.getD k 0).toNat % 16) 0]) ((0 + i) * 1 + j)))) (.row 5 1 (n + 6) (bytesF (l ++ [92, 117, 48, 48, hexT.getD ((s.getD k 0).toNat / 16) 0, hexT.getD ((s.getD k 0).toNat % 16) 0]))), n ≤ n, 6 ≤ 6, inR .i64 ((k : Int) + 1)] (by kernel_rfl) (by kernel_rfl) (by kernel_rfl) ⟨hin, by decide, fun _ _ => trivial, by rw [d3]; exact fun _ _ _ h => h, d1, hin, by decide, fun _ _ => trivial, by rw [d4]; exact fun _ _ _ h => h, d2, by omega, bytes_app l [92, 117, 48, 48, hexT.getD ((s.getD k 0).toNat / 16) 0, hexT.getD ((s.getD k 0).toNat % 16) 0] hn, Nat.le_refl _, Nat.le_refl _, inR64 (by omega) (by omega)⟩ ?_
      exact Wp.lpK (by kernel_rfl) (again _ (k + 1, n + 6, l ++ [92, 117, 48, 48, hexT.getD ((s.getD k 0).toNat / 16) 0, hexT.getD ((s.getD k 0).toNat % 16) 0]) ⟨hk', by simp only; rw [hn]; simp, hnext⟩ (by show s.length - (k + 1) < s.length - k; omega) (Ent.of [(0, 528)] (by kernel_rfl) (by kernel_rfl) (by kernel_rfl) trivial))
    · have hlt : ¬ c.toNat < 32 := by rw [← hc] at h; simp at h; omega
      have hq : qByte c = [c] := by
        unfold qByte; rw [if_neg (by simp [hb]), if_neg (show ¬ c < 32 from hlt)]
      rw [hq] at hbound hnext
      simp only [List.length_cons, List.length_nil] at hbound
      refine Wp.go (mx := true) (fun _ => mixed) [(5, {bs := [(5, .row 5 1 (n + 1) (bytesF (l ++ [s.getD k 0])))]})] 100 [] [0 ≤ (k : Int) ∧ (k : Int) < (s.length : Int), (n + 1) * 1 ≤ 140737488355328, BlkEqv (.row 5 1 (n + 1) (catF n (bytesF l) (fun i j => nthD (bl [s.getD k 0]) ((0 + i) * 1 + j)))) (.row 5 1 (n + 1) (bytesF (l ++ [s.getD k 0]))), n ≤ n, 1 ≤ 1, inR .i64 ((k : Int) + 1)] (by kernel_rfl) (by kernel_rfl) (by kernel_rfl) ⟨hin, by omega, bytes_app l [s.getD k 0] hn, Nat.le_refl _, Nat.le_refl _, inR64 (by omega) (by omega)⟩ ?_
      exact Wp.lpK (by kernel_rfl) (again _ (k + 1, n + 1, l ++ [s.getD k 0]) ⟨hk', by simp only; rw [hn]; simp, by rw [← hc]; exact hnext⟩ (by show s.length - (k + 1) < s.length - k; omega) (Ent.of [(0, 416)] (by kernel_rfl) (by kernel_rfl) (by kernel_rfl) trivial))
  · have hke : k = s.length := by simp at h; omega
    have hl2 : l ++ [34] = quotedT s := by rw [hl, hke]; simp [quotedT]
    have hn2 : n + 1 ≤ 140737488355328 := by
      rw [hl, hke] at hn
      simp only [List.take_length, List.length_cons] at hn
      omega
    have hn3 : n + 1 = (quotedT s).length := by rw [← hl2, hn]; simp
    have hbl : byteL (bytesF (quotedT s)) 0 (n + 1) = quotedT s := byteL_F _ hn3
    have hbe := bytes_app (e := 5) l [34] hn
    rw [hl2] at hbe
    refine Wp.go (mx := true) (fun _ => mixed) [(10, {fm := [(3, .c (.str (quotedT s)))], bs := [(2, .row 5 1 (n + 1) (bytesF (quotedT s)))]})] 100 [] [(n + 1) * 1 ≤ 140737488355328, BlkEqv (.row 5 1 (n + 1) (catF n (bytesF l) (fun i j => nthD (bl [34]) ((0 + i) * 1 + j)))) (.row 5 1 (n + 1) (bytesF (quotedT s))), n ≤ n, 1 ≤ 1, EqvI (.c (.str (byteL (bytesF (quotedT s)) 0 (n + 1)))) (.c (.str (quotedT s))), EqvD (.c (.str (byteL (bytesF (quotedT s)) 0 (n + 1)))) (.c (.str (quotedT s))), 0 + (n + 1) ≤ n + 1, areBytes (bytesF (quotedT s)) 0 (n + 1)] (by kernel_rfl) (by kernel_rfl) (by kernel_rfl) ⟨by omega, hbe, Nat.le_refl _, Nat.le_refl _, fun _ _ => trivial, by rw [hbl]; exact fun _ _ _ h => h, by omega, areBytes_F _ _ _⟩ ?_
    refine Wp.ret' (by kernel_rfl) ?_
    exact FinQ.pure (rs' := [.c (.str (quotedT s))]) (by kernel_rfl) rfl (by kernel_rfl)
end Go.Proofs.Tw
end

section
open Go Go.Sv
namespace Go.Proofs.Tw
attribute [local irreducible] Wp FinQ resV Ent Pur Go.Sv.Fn Sat0
set_option maxRecDepth 100000
variable {G : Nat → Option (List Cell)}

theorem dec_len (m : Nat) : (Lib.decDigits m).length ≤ m + 1 := by
  induction m using Nat.strongRecOn with
  | _ m ih =>
  rw [Lib.decDigits]
  split
  · simp
  · rename_i h
    have := ih (m / 10) (by omega)
    simp only [List.length_append, List.length_cons, List.length_nil]; omega
theorem dec_len2 (m : Nat) (h : 10 ≤ m * 10) : (Lib.decDigits m).length ≤ m := by
  rw [Lib.decDigits]
  split
  · simp; omega
  · have := dec_len (m / 10)
    simp only [List.length_append, List.length_cons, List.length_nil]; omega
theorem dig_nat (m : Nat) : m < 9223372036854775808 → Pur Tryz.prog G 123 [.c (.int .i64 (m : Int))] [.c (.str (Lib.decDigits m))] := by
  induction m using Nat.strongRecOn with
  | _ m ih =>
  intro hm
  refine Pur.of Tryz.func123 (by kernel_rfl) (by kernel_rfl) (by kernel_rfl) ?_
  refine Wp.go (mx := true) (fun _ => mixed) [] 100 [] [] (by kernel_rfl) (by kernel_rfl) (by kernel_rfl) trivial ?_
  refine Wp.cond' (by kernel_rfl) (decide ((m : Int) < 0)) (by kernel_rfl) (fun h => ?_) (fun h => ?_)
  · simp at h
    omega
  refine Wp.go (mx := true) (fun _ => mixed) [] 100 [] [] (by kernel_rfl) (by kernel_rfl) (by kernel_rfl) trivial ?_
  refine Wp.cond' (by kernel_rfl) (decide ((m : Int) < 10)) (by kernel_rfl) (fun h => ?_) (fun h => ?_)
  · have h10 : m < 10 := by simp at h; omega
    have e1 : IntKind.u8.wrap (48 + (m : Int)) = ((UInt8.ofNat (48 + m)).toNat : Int) := by rw [wrap8 (by omega) (by omega), UInt8.toNat_ofNat', Nat.mod_eq_of_lt (by omega)]; omega
    have e2 : byteL (rowB [UInt8.ofNat (48 + m)]) 0 1 = Lib.decDigits m := by rw [byteL_B (n := 1) [UInt8.ofNat (48 + m)] rfl, Lib.decDigits_one h10]
    refine Wp.go (mx := true) (fun _ => mixed) [(4, {fm := [(2, .c (.int .u8 ((UInt8.ofNat (48 + m)).toNat : Int))), (4, .c (.str (Lib.decDigits m)))]})] 100 [] [inR .i64 (48 + (m : Int)), EqvI (.c (.int .u8 (IntKind.u8.wrap (48 + (m : Int))))) (.c (.int .u8 ((UInt8.ofNat (48 + m)).toNat : Int))), EqvD (.c (.int .u8 (IntKind.u8.wrap (48 + (m : Int))))) (.c (.int .u8 ((UInt8.ofNat (48 + m)).toNat : Int))), EqvI (.c (.str (byteL (rowB [UInt8.ofNat (48 + m)]) 0 1))) (.c (.str (Lib.decDigits m))), EqvD (.c (.str (byteL (rowB [UInt8.ofNat (48 + m)]) 0 1))) (.c (.str (Lib.decDigits m))), 0 + 1 ≤ 1, areBytes (rowB [UInt8.ofNat (48 + m)]) 0 1] (by kernel_rfl) (by kernel_rfl) (by kernel_rfl) ⟨inR64 (by omega) (by omega), fun _ _ => trivial, by rw [e1]; exact fun _ _ _ h => h, fun _ _ => trivial, by rw [e2]; exact fun _ _ _ h => h, Nat.le_refl _, areBytes_B _ rfl⟩ ?_
    refine Wp.ret' (by kernel_rfl) ?_
    exact FinQ.pure (rs' := [.c (.str (Lib.decDigits m))]) (by kernel_rfl) rfl (by kernel_rfl)
  · have h10 : ¬ m < 10 := by simp at h; omega
    have hd : Lib.decDigits m = Lib.decDigits (m / 10) ++ [UInt8.ofNat (48 + m % 10)] := by conv => lhs; rw [Lib.decDigits, dif_neg h10]
    have hq : IntKind.i64.wrap ((m : Int).tdiv 10) = ((m / 10 : Nat) : Int) := by
      rw [Int.tdiv_eq_ediv_of_nonneg (by omega), wrap64 (n := (m : Int) / 10) (by omega) (by omega)]; omega
    have hr : (m : Int).tmod 10 = ((m % 10 : Nat) : Int) := by rw [Int.tmod_eq_emod_of_nonneg (by omega)]; omega
    have e1 : IntKind.u8.wrap (48 + (m : Int).tmod 10) = ((UInt8.ofNat (48 + m % 10)).toNat : Int) := by rw [hr, wrap8 (n := 48 + ((m % 10 : Nat) : Int)) (by omega) (by omega), UInt8.toNat_ofNat', Nat.mod_eq_of_lt (a := 48 + m % 10) (b := 2 ^ 8) (by omega)]; omega
    have e2 : byteL (rowB [UInt8.ofNat (48 + m % 10)]) 0 1 = [UInt8.ofNat (48 + m % 10)] := byteL_B _ rfl
    have hlen : (Lib.decDigits (m / 10)).length ≤ m / 10 + 1 := dec_len _
    have hle : (Lib.decDigits (m / 10)).length + 1 ≤ 9223372036854775807 := by omega
    refine Wp.go (mx := true) (fun _ => mixed) [(5, {fm := [(1, .c (.int .i64 ((m / 10 : Nat) : Int))), (6, .c (.int .u8 ((UInt8.ofNat (48 + m % 10)).toNat : Int))), (8, .c (.str [UInt8.ofNat (48 + m % 10)]))], cs := [(2, pc (ih (m / 10) (by omega) (by omega)))]})] 100 [] [EqvI (.c (.int .i64 (IntKind.i64.wrap ((m : Int).tdiv 10)))) (.c (.int .i64 ((m / 10 : Nat) : Int))), EqvD (.c (.int .i64 (IntKind.i64.wrap ((m : Int).tdiv 10)))) (.c (.int .i64 ((m / 10 : Nat) : Int))), (10 : Int) ≠ 0, (10 : Int) ≠ 0, inR .i64 (48 + (m : Int).tmod 10), EqvI (.c (.int .u8 (IntKind.u8.wrap (48 + (m : Int).tmod 10)))) (.c (.int .u8 ((UInt8.ofNat (48 + m % 10)).toNat : Int))), EqvD (.c (.int .u8 (IntKind.u8.wrap (48 + (m : Int).tmod 10)))) (.c (.int .u8 ((UInt8.ofNat (48 + m % 10)).toNat : Int))), EqvI (.c (.str (byteL (rowB [UInt8.ofNat (48 + m % 10)]) 0 1))) (.c (.str [UInt8.ofNat (48 + m % 10)])), EqvD (.c (.str (byteL (rowB [UInt8.ofNat (48 + m % 10)]) 0 1))) (.c (.str [UInt8.ofNat (48 + m % 10)])), 0 + 1 ≤ 1, areBytes (rowB [UInt8.ofNat (48 + m % 10)]) 0 1, (Lib.decDigits (m / 10)).length + 1 ≤ 9223372036854775807] (by kernel_rfl) (by kernel_rfl) (by kernel_rfl) ⟨fun _ _ => trivial, by rw [hq]; exact fun _ _ _ h => h, by decide, by decide, by rw [hr]; exact inR64 (by omega) (by omega), fun _ _ => trivial, by rw [e1]; exact fun _ _ _ h => h, fun _ _ => trivial, by rw [e2]; exact fun _ _ _ h => h, Nat.le_refl _, areBytes_B _ rfl, hle⟩ ?_
    refine Wp.ret' (by kernel_rfl) ?_
    exact FinQ.pure (rs' := [.c (.str (Lib.decDigits (m / 10) ++ [UInt8.ofNat (48 + m % 10)]))]) (by kernel_rfl) (by rw [hd]) (by kernel_rfl)

theorem digits_ok (n : Int) (h0 : -4611686018427387904 ≤ n) (h1 : n ≤ 4611686018427387904) : Pur Tryz.prog G 123 [.c (.int .i64 n)] [.c (.str (Lib.itoa n))] := by
  by_cases hn : n < 0
  · have hm := dig_nat (G := G) n.natAbs (by omega)
    rw [show ((n.natAbs : Nat) : Int) = 0 - n from by omega] at hm
    have hl := dec_len n.natAbs
    refine Pur.of Tryz.func123 (by kernel_rfl) (by kernel_rfl) (by kernel_rfl) ?_
    refine Wp.go (mx := true) (fun _ => mixed) [] 100 [] [] (by kernel_rfl) (by kernel_rfl) (by kernel_rfl) trivial ?_
    refine Wp.cond' (by kernel_rfl) (decide (n < 0)) (by kernel_rfl) (fun h => ?_) (fun h => ?_)
    · have hl2 : 1 + (Lib.decDigits n.natAbs).length ≤ 9223372036854775807 := by have := dec_len2 n.natAbs (by omega); omega
      refine Wp.go (mx := true) (fun _ => mixed) [(2, {cs := [(2, pc hm)]})] 100 [] [inR .i64 (0 - n), 1 + (Lib.decDigits n.natAbs).length ≤ 9223372036854775807] (by kernel_rfl) (by kernel_rfl) (by kernel_rfl) ⟨inR64 (by omega) (by omega), hl2⟩ ?_
      refine Wp.ret' (by kernel_rfl) ?_
      exact FinQ.pure (rs' := [.c (.str (45 :: Lib.decDigits n.natAbs))]) (by kernel_rfl) (by unfold Lib.itoa; rw [if_pos hn]) (by kernel_rfl)
    · simp at h; omega
  · have hm := dig_nat (G := G) n.toNat (by omega)
    rw [show ((n.toNat : Nat) : Int) = n from by omega] at hm
    rw [show Lib.itoa n = Lib.decDigits n.toNat from by unfold Lib.itoa; rw [if_neg hn]]
    exact hm

/-! printing, as the document does it -/
theorem join_snoc (l : List (List UInt8)) (x sep : List UInt8) : Lib.join (l ++ [x]) sep = if l = [] then x else Lib.join l sep ++ sep ++ x := by
  cases l with
  | nil => rw [if_pos rfl]; exact Lib.join_one x sep
  | cons y r => rw [if_neg (by simp), List.cons_append, Lib.join_cons, Lib.join_cons]; simp [Lib.joinTail]
def accT (v : JV) (k : Nat) : List UInt8 := Lib.join (parts v k) [44]
theorem acc_zero (v : JV) : accT v 0 = [] := rfl
theorem acc_succ (v : JV) (k : Nat) : accT v (k + 1) = if k = 0 then partAt v k else accT v k ++ [44] ++ partAt v k := by
  unfold accT
  rw [parts_succ, join_snoc]
  by_cases hk : k = 0
  · subst hk; rfl
  · rw [if_neg hk, if_neg (by intro e; have := congrArg List.length e; simp [parts] at this; exact hk this)]
theorem acc_le (v : JV) {k m : Nat} (h : k ≤ m) : (accT v k).length ≤ (accT v m).length := by
  induction h with
  | refl => exact Nat.le_refl _
  | step h ih =>
    rw [acc_succ]
    split
    · rename_i e; subst e; have : k = 0 := Nat.le_zero.1 h
      subst this; rw [acc_zero]; simp
    · simp only [List.length_append]; omega

def p12Inv (v : JV) (k : Nat) : St := ⟨[(1, .v (.c (.ptr 0 0))), (3, .v (.c (.str (accT v k)))), (4, .v (.c (.int .i64 (k : Int))))], [(0, .box 31 (encJ v))], 16⟩
theorem print12_ok {v : JV} (hf : Fit v) : Pur Tryz.prog G 115 [.agg (encJ v)] [.c (.str (printJ v))] := by
  induction hf with
  | mk h2 h6 h0 h1 hp h3 ih =>
  rename_i v
  rw [printJ_eq] at hp ⊢
  refine Pur.of Tryz.func115 (by kernel_rfl) (by kernel_rfl) (by kernel_rfl) ?_
  refine Wp.go (mx := true) (fun _ => mixed) [] 100 [] [] (by kernel_rfl) (by kernel_rfl) (by kernel_rfl) trivial ?_
  refine Wp.cond' (by kernel_rfl) (v.kind == 1) (by kernel_rfl) (fun h => ?_) (fun h => ?_)
  · refine Wp.go (mx := true) (fun _ => mixed) [] 100 [] [] (by kernel_rfl) (by kernel_rfl) (by kernel_rfl) trivial ?_
    refine Wp.ret' (by kernel_rfl) ?_
    exact FinQ.pure (rs' := [.c (.str [110, 117, 108, 108])]) (by kernel_rfl) (by rw [if_pos h]) (by kernel_rfl)
  rw [if_neg (by simp [h])] at hp
  have k1 := h
  refine Wp.go (mx := true) (fun _ => mixed) [] 100 [] [] (by kernel_rfl) (by kernel_rfl) (by kernel_rfl) trivial ?_
  refine Wp.cond' (by kernel_rfl) (v.kind == 2) (by kernel_rfl) (fun h => ?_) (fun h => ?_)
  · have k2 := h
    refine Wp.go (mx := true) (fun _ => mixed) [] 100 [] [] (by kernel_rfl) (by kernel_rfl) (by kernel_rfl) trivial ?_
    refine Wp.cond' (by kernel_rfl) (v.b) (by kernel_rfl) (fun h => ?_) (fun h => ?_)
    · refine Wp.go (mx := true) (fun _ => mixed) [] 100 [] [] (by kernel_rfl) (by kernel_rfl) (by kernel_rfl) trivial ?_
      refine Wp.ret' (by kernel_rfl) ?_
      exact FinQ.pure (rs' := [.c (.str [116, 114, 117, 101])]) (by kernel_rfl) (by rw [if_neg (by simp [k1]), if_pos k2, h]; rfl) (by kernel_rfl)
    · refine Wp.go (mx := true) (fun _ => mixed) [] 100 [] [] (by kernel_rfl) (by kernel_rfl) (by kernel_rfl) trivial ?_
      refine Wp.ret' (by kernel_rfl) ?_
      exact FinQ.pure (rs' := [.c (.str [102, 97, 108, 115, 101])]) (by kernel_rfl) (by rw [if_neg (by simp [k1]), if_pos k2, h]; rfl) (by kernel_rfl)
  rw [if_neg (by simp [h])] at hp
  have k2 := h
  refine Wp.go (mx := true) (fun _ => mixed) [] 100 [] [] (by kernel_rfl) (by kernel_rfl) (by kernel_rfl) trivial ?_
  refine Wp.cond' (by kernel_rfl) (v.kind == 3) (by kernel_rfl) (fun h => ?_) (fun h => ?_)
  · refine Wp.go (mx := true) (fun _ => mixed) [(9, {cs := [(2, pc (digits_ok v.n h0 h1))]})] 100 [] [] (by kernel_rfl) (by kernel_rfl) (by kernel_rfl) trivial ?_
    refine Wp.ret' (by kernel_rfl) ?_
    exact FinQ.pure (rs' := [.c (.str (Lib.itoa v.n))]) (by kernel_rfl) (by rw [if_neg (by simp [k1]), if_neg (by simp [k2]), if_pos h]) (by kernel_rfl)
  rw [if_neg (by simp [h])] at hp
  have k3 := h
  refine Wp.go (mx := true) (fun _ => mixed) [] 100 [] [] (by kernel_rfl) (by kernel_rfl) (by kernel_rfl) trivial ?_
  refine Wp.cond' (by kernel_rfl) (v.kind == 4) (by kernel_rfl) (fun h => ?_) (fun h => ?_)
  · rw [if_pos h] at hp
    refine Wp.go (mx := true) (fun _ => mixed) [(11, {cs := [(2, pc (quoted12_ok v.s hp))]})] 100 [] [] (by kernel_rfl) (by kernel_rfl) (by kernel_rfl) trivial ?_
    refine Wp.ret' (by kernel_rfl) ?_
    exact FinQ.pure (rs' := [.c (.str (quotedT v.s))]) (by kernel_rfl) (by rw [if_neg (by simp [k1]), if_neg (by simp [k2]), if_neg (by simp [k3]), if_pos h]) (by kernel_rfl)
  rw [if_neg (by simp [h])] at hp
  have k4 := h
  have hj : (accT v v.kids.length).length + 2 ≤ 140737488355328 := by
    unfold accT
    split at hp <;> simp only [List.length_append, List.length_cons, List.length_nil] at hp <;> omega
  refine Wp.go (mx := true) (fun _ => mixed) [] 100 [] [] (by kernel_rfl) (by kernel_rfl) (by kernel_rfl) trivial ?_
  refine Wp.loopK (by kernel_rfl) (p12Inv v) (fun k => k ≤ v.kids.length) (fun k => v.kids.length - k) 0 (Ent.of [] (by kernel_rfl) (by kernel_rfl) (by kernel_rfl) trivial) (Nat.zero_le _) ?_
  intro k L hk again
  refine Wp.go (mx := true) (fun _ => mixed) [] 100 [] [] (by kernel_rfl) (by kernel_rfl) (by kernel_rfl) trivial ?_
  refine Wp.cond' (by kernel_rfl) (decide ((k : Int) < (v.kids.length : Int))) (by kernel_rfl) (fun h => ?_) (fun h => ?_)
  · have hk' : k < v.kids.length := by simpa using h
    have hin : 0 ≤ (k : Int) ∧ (k : Int) < (v.kids.length : Int) := by omega
    have hm : v.kids.getD k .nil ∈ v.kids := by simp [List.getD, hk']
    have ha1 := acc_le v (show k + 1 ≤ v.kids.length from hk')
    have hacc := acc_succ v k
    -- what stands ahead of the element
    obtain ⟨pre, hpre⟩ : ∃ pre, pre = if k = 0 then accT v k else accT v k ++ [44] := ⟨_, rfl⟩
    have hs1 : accT v (k + 1) = pre ++ partAt v k := by
      rw [hacc, hpre]; split
      · rename_i e; subst e; rw [acc_zero]; rfl
      · rfl
    have hlen : pre.length + (partAt v k).length ≤ 140737488355326 := by rw [hs1, List.length_append] at ha1; omega
    rcases Nat.eq_zero_or_pos k with hk0 | hk0
    · have hdk : decide ((k : Int) > 0) = false := by simp; omega
      have hpe : pre = accT v k := by rw [hpre, if_pos hk0]
      rw [hpe] at hs1 hlen
      refine Wp.go (mx := true) (fun _ => mixed) [] 100 [false] [decide ((k : Int) > 0) = false] (by kernel_rfl) (by kernel_rfl) (by kernel_rfl) hdk ?_
      refine Wp.cond' (by kernel_rfl) (v.kind == 6) (by kernel_rfl) (fun h => ?_) (fun h => ?_)
      · have hp1 : partAt v k = (quotedT (v.names.getD k []) ++ [58]) ++ printJ (v.kids.getD k .nil) := by unfold partAt; rw [if_pos h]
        have hin2 : 0 ≤ (k : Int) ∧ (k : Int) < (v.names.length : Int) := by have := h6 (by simpa using h); omega
        rw [hp1] at hs1 hlen
        have hq : (quotedT (v.names.getD k [])).length ≤ 140737488355328 := by simp only [List.length_append] at hlen; omega
        have l1 : (accT v k).length + (quotedT (v.names.getD k [])).length ≤ 9223372036854775807 := by simp only [List.length_append, List.length_cons, List.length_nil] at hlen ⊢; omega
        have l2 : (accT v k ++ quotedT (v.names.getD k [])).length + 1 ≤ 9223372036854775807 := by simp only [List.length_append, List.length_cons, List.length_nil] at hlen ⊢; omega
        have l3 : ((accT v k ++ quotedT (v.names.getD k [])) ++ [58]).length + (printJ (v.kids.getD k .nil)).length ≤ 9223372036854775807 := by simp only [List.length_append, List.length_cons, List.length_nil] at hlen ⊢; omega
        have he : ((accT v k ++ quotedT (v.names.getD k [])) ++ [58]) ++ printJ (v.kids.getD k .nil) = accT v (k + 1) := by rw [hs1]; simp
        refine Wp.go (mx := true) (fun _ => mixed) [(19, {cs := [(6, pc (quoted12_ok (v.names.getD k []) hq))]}), (20, {fm := [(5, .agg (encJ (v.kids.getD k .nil))), (8, .c (.str (accT v (k + 1))))], cs := [(6, pc (ih _ hm))]})] 100 [] [0 ≤ (k : Int) ∧ (k : Int) < (v.names.length : Int), (accT v k).length + (quotedT (v.names.getD k [])).length ≤ 9223372036854775807, (accT v k ++ quotedT (v.names.getD k [])).length + 1 ≤ 9223372036854775807, 0 ≤ (k : Int) ∧ (k : Int) < (v.kids.length : Int), EqvD (.agg [kidC v.kids k 0, kidC v.kids k 1, kidC v.kids k 2, kidC v.kids k 3, kidC v.kids k 4, kidC v.kids k 5]) (.agg (encJ (v.kids.getD k .nil))), ((accT v k ++ quotedT (v.names.getD k [])) ++ [58]).length + (printJ (v.kids.getD k .nil)).length ≤ 9223372036854775807, EqvI (.c (.str (((accT v k ++ quotedT (v.names.getD k [])) ++ [58]) ++ printJ (v.kids.getD k .nil)))) (.c (.str (accT v (k + 1)))), EqvD (.c (.str (((accT v k ++ quotedT (v.names.getD k [])) ++ [58]) ++ printJ (v.kids.getD k .nil)))) (.c (.str (accT v (k + 1)))), inR .i64 ((k : Int) + 1)] (by kernel_rfl) (by kernel_rfl) (by kernel_rfl) ⟨hin2, l1, l2, hin, kid_den hk', l3, fun _ _ => trivial, by rw [he]; exact fun _ _ _ h => h, inR64 (by omega) (by omega)⟩ ?_
        exact Wp.lpK (by kernel_rfl) (again _ (k + 1) hk' (by show v.kids.length - (k + 1) < v.kids.length - k; omega) (Ent.of [] (by kernel_rfl) (by kernel_rfl) (by kernel_rfl) trivial))
      · have hp1 : partAt v k = printJ (v.kids.getD k .nil) := by unfold partAt; rw [if_neg (by simp [h])]
        rw [hp1] at hs1 hlen
        have l3 : (accT v k).length + (printJ (v.kids.getD k .nil)).length ≤ 9223372036854775807 := by omega
        refine Wp.go (mx := true) (fun _ => mixed) [(20, {fm := [(5, .agg (encJ (v.kids.getD k .nil))), (8, .c (.str (accT v (k + 1))))], cs := [(6, pc (ih _ hm))]})] 100 [] [0 ≤ (k : Int) ∧ (k : Int) < (v.kids.length : Int), EqvD (.agg [kidC v.kids k 0, kidC v.kids k 1, kidC v.kids k 2, kidC v.kids k 3, kidC v.kids k 4, kidC v.kids k 5]) (.agg (encJ (v.kids.getD k .nil))), (accT v k).length + (printJ (v.kids.getD k .nil)).length ≤ 9223372036854775807, EqvI (.c (.str (accT v k ++ printJ (v.kids.getD k .nil)))) (.c (.str (accT v (k + 1)))), EqvD (.c (.str (accT v k ++ printJ (v.kids.getD k .nil)))) (.c (.str (accT v (k + 1)))), inR .i64 ((k : Int) + 1)] (by kernel_rfl) (by kernel_rfl) (by kernel_rfl) ⟨hin, kid_den hk', l3, fun _ _ => trivial, by rw [← hs1]; exact fun _ _ _ h => h, inR64 (by omega) (by omega)⟩ ?_
        exact Wp.lpK (by kernel_rfl) (again _ (k + 1) hk' (by show v.kids.length - (k + 1) < v.kids.length - k; omega) (Ent.of [] (by kernel_rfl) (by kernel_rfl) (by kernel_rfl) trivial))
    · have hdk : decide ((k : Int) > 0) = true := by simp; omega
      have hpe : pre = (accT v k ++ [44]) := by rw [hpre, if_neg (by omega)]
      rw [hpe] at hs1 hlen
      have hcm : (accT v k).length + 1 ≤ 9223372036854775807 := by simp only [List.length_append, List.length_cons, List.length_nil] at hlen; omega
      refine Wp.go (mx := true) (fun _ => mixed) [] 100 [true] [decide ((k : Int) > 0) = true, (accT v k).length + 1 ≤ 9223372036854775807] (by kernel_rfl) (by kernel_rfl) (by kernel_rfl) ⟨hdk, hcm⟩ ?_
      refine Wp.cond' (by kernel_rfl) (v.kind == 6) (by kernel_rfl) (fun h => ?_) (fun h => ?_)
      · have hp1 : partAt v k = (quotedT (v.names.getD k []) ++ [58]) ++ printJ (v.kids.getD k .nil) := by unfold partAt; rw [if_pos h]
        have hin2 : 0 ≤ (k : Int) ∧ (k : Int) < (v.names.length : Int) := by have := h6 (by simpa using h); omega
        rw [hp1] at hs1 hlen
        have hq : (quotedT (v.names.getD k [])).length ≤ 140737488355328 := by simp only [List.length_append] at hlen; omega
        have l1 : ((accT v k ++ [44])).length + (quotedT (v.names.getD k [])).length ≤ 9223372036854775807 := by simp only [List.length_append, List.length_cons, List.length_nil] at hlen ⊢; omega
        have l2 : ((accT v k ++ [44]) ++ quotedT (v.names.getD k [])).length + 1 ≤ 9223372036854775807 := by simp only [List.length_append, List.length_cons, List.length_nil] at hlen ⊢; omega
        have l3 : (((accT v k ++ [44]) ++ quotedT (v.names.getD k [])) ++ [58]).length + (printJ (v.kids.getD k .nil)).length ≤ 9223372036854775807 := by simp only [List.length_append, List.length_cons, List.length_nil] at hlen ⊢; omega
        have he : (((accT v k ++ [44]) ++ quotedT (v.names.getD k [])) ++ [58]) ++ printJ (v.kids.getD k .nil) = accT v (k + 1) := by rw [hs1]; simp
        refine Wp.go (mx := true) (fun _ => mixed) [(19, {cs := [(6, pc (quoted12_ok (v.names.getD k []) hq))]}), (20, {fm := [(5, .agg (encJ (v.kids.getD k .nil))), (8, .c (.str (accT v (k + 1))))], cs := [(6, pc (ih _ hm))]})] 100 [] [0 ≤ (k : Int) ∧ (k : Int) < (v.names.length : Int), ((accT v k ++ [44])).length + (quotedT (v.names.getD k [])).length ≤ 9223372036854775807, ((accT v k ++ [44]) ++ quotedT (v.names.getD k [])).length + 1 ≤ 9223372036854775807, 0 ≤ (k : Int) ∧ (k : Int) < (v.kids.length : Int), EqvD (.agg [kidC v.kids k 0, kidC v.kids k 1, kidC v.kids k 2, kidC v.kids k 3, kidC v.kids k 4, kidC v.kids k 5]) (.agg (encJ (v.kids.getD k .nil))), (((accT v k ++ [44]) ++ quotedT (v.names.getD k [])) ++ [58]).length + (printJ (v.kids.getD k .nil)).length ≤ 9223372036854775807, EqvI (.c (.str ((((accT v k ++ [44]) ++ quotedT (v.names.getD k [])) ++ [58]) ++ printJ (v.kids.getD k .nil)))) (.c (.str (accT v (k + 1)))), EqvD (.c (.str ((((accT v k ++ [44]) ++ quotedT (v.names.getD k [])) ++ [58]) ++ printJ (v.kids.getD k .nil)))) (.c (.str (accT v (k + 1)))), inR .i64 ((k : Int) + 1)] (by kernel_rfl) (by kernel_rfl) (by kernel_rfl) ⟨hin2, l1, l2, hin, kid_den hk', l3, fun _ _ => trivial, by rw [he]; exact fun _ _ _ h => h, inR64 (by omega) (by omega)⟩ ?_
        exact Wp.lpK (by kernel_rfl) (again _ (k + 1) hk' (by show v.kids.length - (k + 1) < v.kids.length - k; omega) (Ent.of [] (by kernel_rfl) (by kernel_rfl) (by kernel_rfl) trivial))
      · have hp1 : partAt v k = printJ (v.kids.getD k .nil) := by unfold partAt; rw [if_neg (by simp [h])]
        rw [hp1] at hs1 hlen
        have l3 : ((accT v k ++ [44])).length + (printJ (v.kids.getD k .nil)).length ≤ 9223372036854775807 := by omega
        refine Wp.go (mx := true) (fun _ => mixed) [(20, {fm := [(5, .agg (encJ (v.kids.getD k .nil))), (8, .c (.str (accT v (k + 1))))], cs := [(6, pc (ih _ hm))]})] 100 [] [0 ≤ (k : Int) ∧ (k : Int) < (v.kids.length : Int), EqvD (.agg [kidC v.kids k 0, kidC v.kids k 1, kidC v.kids k 2, kidC v.kids k 3, kidC v.kids k 4, kidC v.kids k 5]) (.agg (encJ (v.kids.getD k .nil))), ((accT v k ++ [44])).length + (printJ (v.kids.getD k .nil)).length ≤ 9223372036854775807, EqvI (.c (.str ((accT v k ++ [44]) ++ printJ (v.kids.getD k .nil)))) (.c (.str (accT v (k + 1)))), EqvD (.c (.str ((accT v k ++ [44]) ++ printJ (v.kids.getD k .nil)))) (.c (.str (accT v (k + 1)))), inR .i64 ((k : Int) + 1)] (by kernel_rfl) (by kernel_rfl) (by kernel_rfl) ⟨hin, kid_den hk', l3, fun _ _ => trivial, by rw [← hs1]; exact fun _ _ _ h => h, inR64 (by omega) (by omega)⟩ ?_
        exact Wp.lpK (by kernel_rfl) (again _ (k + 1) hk' (by show v.kids.length - (k + 1) < v.kids.length - k; omega) (Ent.of [] (by kernel_rfl) (by kernel_rfl) (by kernel_rfl) trivial))
  · have hke : k = v.kids.length := by simp at h; omega
    subst hke
    have hj1 : 1 + (accT v v.kids.length).length ≤ 9223372036854775807 := by omega
    have hj2 : ∀ c : UInt8, (c :: accT v v.kids.length).length + 1 ≤ 9223372036854775807 := fun c => by simp only [List.length_cons]; omega
    refine Wp.go (mx := true) (fun _ => mixed) [] 100 [] [] (by kernel_rfl) (by kernel_rfl) (by kernel_rfl) trivial ?_
    refine Wp.cond' (by kernel_rfl) (v.kind == 6) (by kernel_rfl) (fun h => ?_) (fun h => ?_)
    · refine Wp.go (mx := true) (fun _ => mixed) [] 100 [] [1 + (accT v v.kids.length).length ≤ 9223372036854775807, (123 :: accT v v.kids.length).length + 1 ≤ 9223372036854775807] (by kernel_rfl) (by kernel_rfl) (by kernel_rfl) ⟨hj1, hj2 _⟩ ?_
      refine Wp.ret' (by kernel_rfl) ?_
      exact FinQ.pure (rs' := [.c (.str ((123 :: accT v v.kids.length) ++ [125]))]) (by kernel_rfl) (by rw [if_neg (by simp [k1]), if_neg (by simp [k2]), if_neg (by simp [k3]), if_neg (by simp [k4]), if_pos h]; rfl) (by kernel_rfl)
    · refine Wp.go (mx := true) (fun _ => mixed) [] 100 [] [1 + (accT v v.kids.length).length ≤ 9223372036854775807, (91 :: accT v v.kids.length).length + 1 ≤ 9223372036854775807] (by kernel_rfl) (by kernel_rfl) (by kernel_rfl) ⟨hj1, hj2 _⟩ ?_
      refine Wp.ret' (by kernel_rfl) ?_
      exact FinQ.pure (rs' := [.c (.str ((91 :: accT v v.kids.length) ++ [93]))]) (by kernel_rfl) (by rw [if_neg (by simp [k1]), if_neg (by simp [k2]), if_neg (by simp [k3]), if_neg (by simp [k4]), if_neg (by simp [h])]; rfl) (by kernel_rfl)

theorem Print12_ok {v : JV} (hs : Short v) (hf : mayJ v 0 = true → Fit v) : Pur Tryz.prog G 66 [.agg (encJ v)] [.c (.str (printT v))] := by
  refine Pur.of Tryz.func66 (by kernel_rfl) (by kernel_rfl) (by kernel_rfl) ?_
  refine Wp.go (mx := true) (fun _ => mixed) [(1, {cs := [(1, pc (May12_ok hs))]})] 100 [] [] (by kernel_rfl) (by kernel_rfl) (by kernel_rfl) trivial ?_
  refine Wp.cond' (by kernel_rfl) (!(mayJ v 0)) (by kernel_rfl) (fun h => ?_) (fun h => ?_)
  · refine Wp.go (mx := true) (fun _ => mixed) [] 100 [] [] (by kernel_rfl) (by kernel_rfl) (by kernel_rfl) trivial ?_
    refine Wp.ret' (by kernel_rfl) ?_
    exact FinQ.pure (rs' := [.c (.str [])]) (by kernel_rfl) (by unfold printT; rw [if_neg (by simpa using h)]) (by kernel_rfl)
  · have hm : mayJ v 0 = true := by simpa using h
    refine Wp.go (mx := true) (fun _ => mixed) [(3, {cs := [(1, pc (print12_ok (hf hm)))]})] 100 [] [] (by kernel_rfl) (by kernel_rfl) (by kernel_rfl) trivial ?_
    refine Wp.ret' (by kernel_rfl) ?_
    exact FinQ.pure (rs' := [.c (.str (printJ v))]) (by kernel_rfl) (by unfold printT; rw [if_pos hm]) (by kernel_rfl)
end Go.Proofs.Tw
end

section
open Go Go.Sv
namespace Go.Proofs.Tw
attribute [local irreducible] Wp FinQ resV Ent Pur Go.Sv.Fn Sat0
set_option maxRecDepth 100000
variable {G : Nat → Option (List Cell)}

/-! fields, responses -/
def CEq (x y : Cell) : Prop := ∀ D ρ u, Den D ρ x u → Den D ρ y u
theorem CEq.rfl' {x : Cell} : CEq x x := fun _ _ _ h => h
theorem CEq.nil {sz : Nat} {f : Nat → Nat → Cell} : CEq .nilsl (.sl sz 0 f) := by
  intro D ρ u h
  have h : u = .slice none 0 0 := h
  subst h
  exact ⟨none, 0, rfl, Nat.le_refl _, by unfold maxLen; omega, .inl ⟨rfl, rfl⟩⟩
inductive CEqs : List Cell → List Cell → Prop
  | nil : CEqs [] []
  | cons {x y : Cell} {l l' : List Cell} (h : CEq x y) (t : CEqs l l') : CEqs (x :: l) (y :: l')
theorem CEqs.len {l l' : List Cell} (h : CEqs l l') : l.length = l'.length := by
  induction h with
  | nil => rfl
  | cons _ _ ih => simp [ih]
theorem agg_eqv {l l' : List Cell} (h : CEqs l l') : EqvD (.agg l) (.agg l') := by
  intro D ρ u hd
  obtain ⟨us, e, hs, hx⟩ := hd
  have hl := h.len
  refine ⟨us, e, by rw [hs, hl], fun j y hj => ?_⟩
  have : ∀ (l l' : List Cell), CEqs l l' → ∀ (j : Nat) (y : Cell), l'[j]? = some y → ∃ x, l[j]? = some x ∧ CEq x y := by
    intro l l' h
    induction h with
    | nil => intro j y hj; simp at hj
    | cons h1 h2 ih =>
      intro j y hj
      cases j with
      | zero => simp at hj; subst hj; exact ⟨_, by simp, h1⟩
      | succ j => simp at hj; obtain ⟨x, hx, hc⟩ := ih j y hj; exact ⟨x, by simpa using hx, hc⟩
  obtain ⟨x, hxl, hc⟩ := this l l' h j y hj
  obtain ⟨v, hv, hd⟩ := hx j x hxl
  exact ⟨v, hv, hc _ _ _ hd⟩

theorem EqvI.flatA {v : V1} {l : List Cell} (h : flats l = true) : EqvI v (.agg l) := fun S _ => flats_inS h S
structure FT where (name value : List UInt8)
def FT.nil : FT := ⟨[], []⟩
def encF (x : FT) : List Cell := [.str x.name, .str x.value]
def encH (l : List FT) : Cell := .sl 2 l.length (fun i j => nthD (encF (l.getD i .nil)) j)
structure RT where
  (status : Int) (head : List FT) (body : List UInt8)
def encT (r : RT) : List Cell := [.int .i64 r.status, encH r.head, .str r.body]

def eqF (x y : FT) : Bool := (x.name == y.name) && ((x.value == y.value) && true)
def sameF (a b : List FT) : Bool := !((a.length : Int) != (b.length : Int)) && (List.range a.length).all (fun i => eqF (a.getD i .nil) (b.getD i .nil))
def same_inv (a b : List FT) (k : Nat) : St := ⟨[(0, .v (.c (encH a))), (1, .v (.c (encH b))), (5, .v (.c (.int .i64 (k : Int))))], [], 0⟩
theorem same_ok (a b : List FT) (ha : a.length < 4611686018427387904) : Pur Tryz.prog G 69 [.c (encH a), .c (encH b)] [.c (.bool (sameF a b))] := by
  refine Pur.of Tryz.func69 (by kernel_rfl) (by kernel_rfl) (by kernel_rfl) ?_
  refine Wp.go (mx := true) (fun _ => mixed) [] 100 [] [] (by kernel_rfl) (by kernel_rfl) (by kernel_rfl) trivial ?_
  refine Wp.cond' (by kernel_rfl) ((a.length : Int) != (b.length : Int)) (by kernel_rfl) (fun h => ?_) (fun h => ?_)
  · refine Wp.go (mx := true) (fun _ => mixed) [] 100 [] [] (by kernel_rfl) (by kernel_rfl) (by kernel_rfl) trivial ?_
    refine Wp.ret' (by kernel_rfl) ?_
    exact FinQ.pure (rs' := [.c (.bool false)]) (by kernel_rfl) (by rw [sameF, h]; rfl) (by kernel_rfl)
  · refine Wp.go (mx := true) (fun _ => mixed) [] 100 [] [] (by kernel_rfl) (by kernel_rfl) (by kernel_rfl) trivial ?_
    have hl : a.length = b.length := by simp at h; omega
    refine Wp.loopK (by kernel_rfl) (same_inv a b) (fun k => k ≤ a.length ∧ ∀ i, i < k → eqF (a.getD i .nil) (b.getD i .nil) = true) (fun k => a.length - k) 0 (Ent.of [] (by kernel_rfl) (by kernel_rfl) (by kernel_rfl) trivial) ⟨Nat.zero_le _, fun i hi => absurd hi (Nat.not_lt_zero i)⟩ ?_
    rintro k L ⟨hk, hall⟩ again
    have hne := h
    refine Wp.go (mx := true) (fun _ => mixed) [] 100 [] [] (by kernel_rfl) (by kernel_rfl) (by kernel_rfl) trivial ?_
    refine Wp.cond' (by kernel_rfl) (decide ((k : Int) < (a.length : Int))) (by kernel_rfl) (fun h => ?_) (fun h => ?_)
    · have hk' : k < a.length := by simpa using h
      refine Wp.go (mx := true) (fun _ => mixed) [] 100 [] [0 ≤ (k : Int) ∧ (k : Int) < (a.length : Int), 0 ≤ (k : Int) ∧ (k : Int) < (b.length : Int)] (by kernel_rfl) (by kernel_rfl) (by kernel_rfl) ⟨by omega, by show 0 ≤ (k : Int) ∧ (k : Int) < (b.length : Int); omega⟩ ?_
      refine Wp.cond' (by kernel_rfl) (!(eqF (a.getD k .nil) (b.getD k .nil))) (by kernel_rfl) (fun h => ?_) (fun h => ?_)
      · refine Wp.go (mx := true) (fun _ => mixed) [] 100 [] [] (by kernel_rfl) (by kernel_rfl) (by kernel_rfl) trivial ?_
        refine Wp.ret' (by kernel_rfl) ?_
        exact FinQ.pure (rs' := [.c (.bool false)]) (by kernel_rfl) (by rw [sameF, all_range_false hk' (by simpa using h)]; simp) (by kernel_rfl)
      · refine Wp.go (mx := true) (fun _ => mixed) [] 100 [] [inR .i64 ((k : Int) + 1)] (by kernel_rfl) (by kernel_rfl) (by kernel_rfl) (inR64 (by omega) (by omega)) ?_
        exact Wp.lpK (by kernel_rfl) (again _ (k + 1) ⟨hk', up1 hall (by simpa using h)⟩ (by show a.length - (k + 1) < a.length - k; omega) (Ent.of [] (by kernel_rfl) (by kernel_rfl) (by kernel_rfl) trivial))
    · refine Wp.go (mx := true) (fun _ => mixed) [] 100 [] [] (by kernel_rfl) (by kernel_rfl) (by kernel_rfl) trivial ?_
      refine Wp.ret' (by kernel_rfl) ?_
      exact FinQ.pure (rs' := [.c (.bool true)]) (by kernel_rfl) (by rw [sameF, hne, all_range_true (fun i hi => hall i (by simp at h; omega))]; rfl) (by kernel_rfl)

def sameT (a b : RT) : Bool := cond (cond (a.status == b.status) (sameF a.head b.head) false) (a.body == b.body) false
theorem sameT_ok (a b : RT) (ha : a.head.length < 4611686018427387904) : Pur Tryz.prog G 25 [.agg (encT a), .agg (encT b)] [.c (.bool (sameT a b))] := by
  refine Pur.of Tryz.func25 (by kernel_rfl) (by kernel_rfl) (by kernel_rfl) ?_
  refine Wp.go (mx := true) (fun _ => mixed) [(1, {cs := [(10, pc (same_ok a.head b.head ha))]})] 100 [] [] (by kernel_rfl) (by kernel_rfl) (by kernel_rfl) trivial ?_
  refine Wp.ret' (by kernel_rfl) ?_
  exact FinQ.pure (rs' := [.c (.bool (sameT a b))]) (by kernel_rfl) rfl (by kernel_rfl)
theorem sameF_refl (a : List FT) : sameF a a = true := by
  unfold sameF
  rw [all_range_true (fun i _ => by unfold eqF; simp)]
  simp
theorem sameT_refl (a : RT) : sameT a a = true := by unfold sameT; rw [sameF_refl]; simp

/-! what an error is called -/
def rowsL : List (Int × List UInt8 × Int) := [
  (9, [105, 110, 118, 97, 108, 105, 100, 95, 99, 108, 105, 101, 110, 116], 401), (11, [117, 110, 115, 117, 112, 112, 111, 114, 116, 101, 100, 95, 114, 101, 115, 112, 111, 110, 115, 101, 95, 116, 121, 112, 101], 400), (12, [105, 110, 118, 97, 108, 105, 100, 95, 115, 99, 111, 112, 101], 400), (13, [105, 110, 118, 97, 108, 105, 100, 95, 103, 114, 97, 110, 116], 400), (19, [117, 110, 115, 117, 112, 112, 111, 114, 116, 101, 100, 95, 103, 114, 97, 110, 116, 95, 116, 121, 112, 101], 400), (14, [108, 111, 103, 105, 110, 95, 114, 101, 113, 117, 105, 114, 101, 100], 401),
  (15, [97, 99, 99, 101, 115, 115, 95, 100, 101, 110, 105, 101, 100], 403), (18, [110, 111, 116, 95, 102, 111, 117, 110, 100], 404), (17, [109, 101, 116, 104, 111, 100, 95, 110, 111, 116, 95, 97, 108, 108, 111, 119, 101, 100], 405), (4, [116, 111, 111, 95, 108, 97, 114, 103, 101], 413), (16, [116, 101, 109, 112, 111, 114, 97, 114, 105, 108, 121, 95, 117, 110, 97, 118, 97, 105, 108, 97, 98, 108, 101], 503)]
def rowNil : Int × List UInt8 × Int := (0, [], 0)
def encR (r : Int × List UInt8 × Int) : List Cell := [.int .i64 r.1, .str r.2.1, .int .i64 r.2.2]
def rowsC : List Cell := rowsL.flatMap encR
def ofT (e : Int) : Int × List UInt8 × Int := match rowsL.find? (fun r => r.1 == e) with
  | some r => r
  | none => (e, [105, 110, 118, 97, 108, 105, 100, 95, 114, 101, 113, 117, 101, 115, 116], 400)

theorem row_at : ∀ k : Nat, k < 11 → [nthD rowsC (k * 3), nthD rowsC (k * 3 + 1), nthD rowsC (k * 3 + 2)] = encR (rowsL.getD k rowNil) := by
  intro k hk
  obtain rfl | rfl | rfl | rfl | rfl | rfl | rfl | rfl | rfl | rfl | rfl : k = 0 ∨ k = 1 ∨ k = 2 ∨ k = 3 ∨ k = 4 ∨ k = 5 ∨ k = 6 ∨ k = 7 ∨ k = 8 ∨ k = 9 ∨ k = 10 := by omega
  all_goals rfl
theorem of_some {e : Int} {k : Nat} (hk : k < 11) (hall : ∀ i, i < k → ((rowsL.getD i rowNil).1 == e) = false) (h : ((rowsL.getD k rowNil).1 == e) = true) : ofT e = rowsL.getD k rowNil := by
  unfold ofT
  have : rowsL.find? (fun r => r.1 == e) = some (rowsL.getD k rowNil) := by
    rw [List.find?_eq_some_iff_getElem]
    refine ⟨h, k, hk, by rw [List.getD, List.getElem?_eq_getElem (show k < rowsL.length from hk)]; rfl, fun j hj => ?_⟩
    have := hall j hj
    simpa [List.getD, show j < rowsL.length from Nat.lt_trans hj hk] using this
  rw [this]
theorem of_none {e : Int} (hall : ∀ i, i < 11 → ((rowsL.getD i rowNil).1 == e) = false) : ofT e = (e, [105, 110, 118, 97, 108, 105, 100, 95, 114, 101, 113, 117, 101, 115, 116], 400) := by
  unfold ofT
  have : rowsL.find? (fun r => r.1 == e) = none := by
    rw [List.find?_eq_none]
    intro x hx
    obtain ⟨i, hi, rfl⟩ := List.getElem_of_mem hx
    have := hall i hi
    simpa [List.getD, hi] using this
  rw [this]
/-- The seat's tables. -/
def Gd : Nat → Option (List Cell)
  | 0 => some rowsC
  | 2 => some (Lib.pow10Tab.map fun z => .int .u64 z)
  | _ => none
def ofInv (e : Int) (k : Nat) : St := ⟨[(0, .v (.c (.int .i64 e))), (2, .v (.c (.ptr 0 0))), (5, .v (.agg rowsC)), (6, .v (.c (.int .i64 (k : Int))))], [(0, .box 149 [.int .i64 0, .str [], .int .i64 0])], 16⟩
theorem of_ok (e : Int) : Pur Tryz.prog Gd 100 [.c (.int .i64 e)] [.agg (encR (ofT e))] := by
  refine Pur.of Tryz.func100 (by kernel_rfl) (by kernel_rfl) (by kernel_rfl) ?_
  refine Wp.go (mx := true) (fun _ => mixed) [] 100 [] [] (by kernel_rfl) (by kernel_rfl) (by kernel_rfl) trivial ?_
  refine Wp.loopK (by kernel_rfl) (ofInv e) (fun k => k ≤ 11 ∧ ∀ i, i < k → ((rowsL.getD i rowNil).1 == e) = false) (fun k => 11 - k) 0 (Ent.of [] (by kernel_rfl) (by kernel_rfl) (by kernel_rfl) trivial) ⟨Nat.zero_le _, fun i hi => absurd hi (Nat.not_lt_zero i)⟩ ?_
  rintro k L ⟨hk, hall⟩ again
  refine Wp.go (mx := true) (fun _ => mixed) [] 100 [] [] (by kernel_rfl) (by kernel_rfl) (by kernel_rfl) trivial ?_
  refine Wp.cond' (by kernel_rfl) (decide ((k : Int) < 11)) (by kernel_rfl) (fun h => ?_) (fun h => ?_)
  · have hk' : k < 11 := by simp at h; omega
    have hin : 0 ≤ (k : Int) ∧ (k : Int) < ((11 : Nat) : Int) := by omega
    refine Wp.go (mx := true) (fun _ => mixed) [(3, {fm := [(0, .agg (encR (rowsL.getD k rowNil)))]})] 100 [] [EqvI (.agg [nthD rowsC (k * 3), nthD rowsC (k * 3 + 1), nthD rowsC (k * 3 + 2)]) (.agg (encR (rowsL.getD k rowNil))), EqvD (.agg [nthD rowsC (k * 3), nthD rowsC (k * 3 + 1), nthD rowsC (k * 3 + 2)]) (.agg (encR (rowsL.getD k rowNil))), 0 ≤ (k : Int) ∧ (k : Int) < ((11 : Nat) : Int)] (by kernel_rfl) (by kernel_rfl) (by kernel_rfl) ⟨EqvI.flatA rfl, by rw [row_at k hk']; exact fun _ _ _ h => h, hin⟩ ?_
    refine Wp.cond' (by kernel_rfl) ((rowsL.getD k rowNil).1 == e) (by kernel_rfl) (fun h => ?_) (fun h => ?_)
    · rw [of_some hk' hall h]
      refine Wp.go (mx := true) (fun _ => mixed) [] 100 [] [] (by kernel_rfl) (by kernel_rfl) (by kernel_rfl) trivial ?_
      refine Wp.ret' (by kernel_rfl) ?_
      exact FinQ.pure (rs' := [.agg (encR (rowsL.getD k rowNil))]) (by kernel_rfl) rfl (by kernel_rfl)
    · refine Wp.go (mx := true) (fun _ => mixed) [] 100 [] [inR .i64 ((k : Int) + 1)] (by kernel_rfl) (by kernel_rfl) (by kernel_rfl) (inR64 (by omega) (by omega)) ?_
      exact Wp.lpK (by kernel_rfl) (again _ (k + 1) ⟨hk', up1 hall h⟩ (by show 11 - (k + 1) < 11 - k; omega) (Ent.of [] (by kernel_rfl) (by kernel_rfl) (by kernel_rfl) trivial))
  · rw [of_none (fun i hi => hall i (by simp at h; omega))]
    refine Wp.go (mx := true) (fun _ => mixed) [] 100 [] [] (by kernel_rfl) (by kernel_rfl) (by kernel_rfl) trivial ?_
    refine Wp.ret' (by kernel_rfl) ?_
    exact FinQ.pure (rs' := [.agg (encR (e, [105, 110, 118, 97, 108, 105, 100, 95, 114, 101, 113, 117, 101, 115, 116], 400))]) (by kernel_rfl) rfl (by kernel_rfl)

def wordT (e : Int) : List UInt8 := (ofT e).2.1
def statT (e : Int) : Int := (ofT e).2.2
theorem Word_ok (e : Int) : Pur Tryz.prog Gd 48 [.c (.int .i64 e)] [.c (.str (wordT e))] := by
  refine Pur.of Tryz.func48 (by kernel_rfl) (by kernel_rfl) (by kernel_rfl) ?_
  refine Wp.go (mx := true) (fun _ => mixed) [(1, {cs := [(1, pc (of_ok e))]})] 100 [] [] (by kernel_rfl) (by kernel_rfl) (by kernel_rfl) trivial ?_
  refine Wp.ret' (by kernel_rfl) ?_
  exact FinQ.pure (rs' := [.c (.str (wordT e))]) (by kernel_rfl) rfl (by kernel_rfl)
theorem Status_ok (e : Int) : Pur Tryz.prog Gd 49 [.c (.int .i64 e)] [.c (.int .i64 (statT e))] := by
  refine Pur.of Tryz.func49 (by kernel_rfl) (by kernel_rfl) (by kernel_rfl) ?_
  refine Wp.go (mx := true) (fun _ => mixed) [(1, {cs := [(1, pc (of_ok e))]})] 100 [] [] (by kernel_rfl) (by kernel_rfl) (by kernel_rfl) trivial ?_
  refine Wp.ret' (by kernel_rfl) ?_
  exact FinQ.pure (rs' := [.c (.int .i64 (statT e))]) (by kernel_rfl) rfl (by kernel_rfl)

theorem of_hit : ∀ k : Nat, k < 11 → ofT (rowsL.getD k rowNil).1 = rowsL.getD k rowNil := by decide
theorem of_miss {e : Int} (h : ∀ k : Nat, k < 11 → (e == (rowsL.getD k rowNil).1) = false) : ofT e = (e, [105, 110, 118, 97, 108, 105, 100, 95, 114, 101, 113, 117, 101, 115, 116], 400) := of_none fun i hi => by
  have := h i hi
  rw [beq_eq_false_iff_ne] at this ⊢
  exact fun e => this e.symm
theorem miss {e : Int} (p0 : (e == 9) = false) (p1 : (e == 11) = false) (p2 : (e == 12) = false) (p3 : (e == 13) = false) (p4 : (e == 19) = false) (p5 : (e == 14) = false) (p6 : (e == 15) = false) (p7 : (e == 18) = false) (p8 : (e == 17) = false) (p9 : (e == 4) = false) (p10 : (e == 16) = false) : ∀ k : Nat, k < 11 → (e == (rowsL.getD k rowNil).1) = false := by
  intro k hk
  obtain rfl | rfl | rfl | rfl | rfl | rfl | rfl | rfl | rfl | rfl | rfl : k = 0 ∨ k = 1 ∨ k = 2 ∨ k = 3 ∨ k = 4 ∨ k = 5 ∨ k = 6 ∨ k = 7 ∨ k = 8 ∨ k = 9 ∨ k = 10 := by omega
  · exact p0
  · exact p1
  · exact p2
  · exact p3
  · exact p4
  · exact p5
  · exact p6
  · exact p7
  · exact p8
  · exact p9
  · exact p10
/-! answers -/
def textJ (s : List UInt8) : JV := .mk 4 false 0 s [] []
def objJ (ns : List (List UInt8)) (ks : List JV) : JV := .mk 6 false 0 [] ns ks
theorem flatA {l : List Cell} (h : flats l = true) : ∀ S (j : Nat) (x : Cell), l[j]? = some x → x.inS S := fun S => flats_inS h S
def rawText (s : List UInt8) : List Cell := [.int .i64 4, .bool false, .int .i64 0, .str s, .nilsl, .nilsl]
theorem text_eqv (s : List UInt8) : EqvD (.agg (rawText s)) (.agg (encJ (textJ s))) := agg_eqv (.cons CEq.rfl' (.cons CEq.rfl' (.cons CEq.rfl' (.cons CEq.rfl' (.cons CEq.nil (.cons CEq.nil .nil))))))
theorem text_ok (s : List UInt8) : Pur Tryz.prog G 52 [.c (.str s)] [.agg (encJ (textJ s))] := by
  refine Pur.of Tryz.func52 (by kernel_rfl) (by kernel_rfl) (by kernel_rfl) ?_
  refine Wp.go (mx := true) (fun _ => mixed) [(1, {fm := [(1, .agg (encJ (textJ s)))]})] 100 [] [EqvI (.agg (rawText s)) (.agg (encJ (textJ s))), EqvD (.agg (rawText s)) (.agg (encJ (textJ s)))] (by kernel_rfl) (by kernel_rfl) (by kernel_rfl) ⟨EqvI.flatA rfl, text_eqv s⟩ ?_
  refine Wp.ret' (by kernel_rfl) ?_
  exact FinQ.pure (rs' := [.agg (encJ (textJ s))]) (by kernel_rfl) rfl (by kernel_rfl)
theorem S_ok (s : List UInt8) : Pur Tryz.prog G 24 [.c (.str s)] [.agg (encJ (textJ s))] := by
  refine Pur.of Tryz.func24 (by kernel_rfl) (by kernel_rfl) (by kernel_rfl) ?_
  refine Wp.go (mx := true) (fun _ => mixed) [(1, {fm := [(1, .agg (encJ (textJ s)))]})] 100 [] [EqvI (.agg (rawText s)) (.agg (encJ (textJ s))), EqvD (.agg (rawText s)) (.agg (encJ (textJ s)))] (by kernel_rfl) (by kernel_rfl) (by kernel_rfl) ⟨EqvI.flatA rfl, text_eqv s⟩ ?_
  refine Wp.ret' (by kernel_rfl) ?_
  exact FinQ.pure (rs' := [.agg (encJ (textJ s))]) (by kernel_rfl) rfl (by kernel_rfl)
theorem O_ok (ns : List (List UInt8)) (ks : List JV) : Pur Tryz.prog G 74 [.c (encS ns), .c (.sl 6 ks.length (kidC ks))] [.agg (encJ (objJ ns ks))] := by
  refine Pur.of Tryz.func74 (by kernel_rfl) (by kernel_rfl) (by kernel_rfl) ?_
  refine Wp.go (mx := true) (fun _ => mixed) [] 100 [] [] (by kernel_rfl) (by kernel_rfl) (by kernel_rfl) trivial ?_
  refine Wp.ret' (by kernel_rfl) ?_
  exact FinQ.pure (rs' := [.agg (encJ (objJ ns ks))]) (by kernel_rfl) rfl (by kernel_rfl)
theorem kept_ok : Pur Tryz.prog G 60 [] [.agg (encF ⟨[99, 97, 99, 104, 101, 45, 99, 111, 110, 116, 114, 111, 108], [110, 111, 45, 115, 116, 111, 114, 101]⟩)] := by
  refine Pur.of Tryz.func60 (by kernel_rfl) (by kernel_rfl) (by kernel_rfl) ?_
  refine Wp.go (mx := true) (fun _ => mixed) [] 100 [] [] (by kernel_rfl) (by kernel_rfl) (by kernel_rfl) trivial ?_
  refine Wp.ret' (by kernel_rfl) ?_
  exact FinQ.pure (rs' := [.agg (encF ⟨[99, 97, 99, 104, 101, 45, 99, 111, 110, 116, 114, 111, 108], [110, 111, 45, 115, 116, 111, 114, 101]⟩)]) (by kernel_rfl) rfl (by kernel_rfl)
def jsonH : List FT := [⟨[99, 111, 110, 116, 101, 110, 116, 45, 116, 121, 112, 101], [97, 112, 112, 108, 105, 99, 97, 116, 105, 111, 110, 47, 106, 115, 111, 110]⟩, ⟨[99, 97, 99, 104, 101, 45, 99, 111, 110, 116, 114, 111, 108], [110, 111, 45, 115, 116, 111, 114, 101]⟩]
def jsonT (v : JV) : RT := ⟨200, jsonH, printT v⟩
theorem flat_get {α : Type} (enc : α → List Cell) (d : α) {sz : Nat} (hs : ∀ x, (enc x).length = sz) : ∀ (l : List α) (i : Nat), i < l.length → ∀ j, j < sz → nthD (l.flatMap enc) (i * sz + j) = nthD (enc (l.getD i d)) j
  | [], i, h, _, _ => by simp at h
  | x :: r, 0, _, j, hj => by
    simp only [nthD, nth_eq, List.flatMap_cons, Nat.zero_mul, Nat.zero_add]
    rw [List.getElem?_append_left (by rw [hs]; exact hj)]; rfl
  | x :: r, i + 1, h, j, hj => by
    have ih := flat_get enc d hs r i (by simpa using h) j hj
    simp only [nthD, nth_eq, List.flatMap_cons] at ih ⊢
    rw [List.getElem?_append_right (by rw [hs, Nat.add_mul]; omega), hs, show (i + 1) * sz + j - sz = i * sz + j from by rw [Nat.add_mul]; omega]
    exact ih
def rawH : Nat → Nat → Cell := fun i j => nthD [.str [99, 111, 110, 116, 101, 110, 116, 45, 116, 121, 112, 101], .str [97, 112, 112, 108, 105, 99, 97, 116, 105, 111, 110, 47, 106, 115, 111, 110], .str [99, 97, 99, 104, 101, 45, 99, 111, 110, 116, 114, 111, 108], .str [110, 111, 45, 115, 116, 111, 114, 101]] (i * 2 + j)
theorem rawH_eq : ∀ i, i < 2 → ∀ j, j < 2 → rawH i j = nthD (encF (jsonH.getD i .nil)) j := by
  intro i hi j hj
  obtain rfl | rfl : i = 0 ∨ i = 1 := by omega
  all_goals (obtain rfl | rfl : j = 0 ∨ j = 1 := by omega)
  all_goals rfl
theorem Json_ok {v : JV} (hs : Small v) (hf : mayJ v 0 = true → Fit v) : Pur Tryz.prog Gd 17 [.agg (encJ v)] [.agg (encT (jsonT v))] := by
  refine Pur.of Tryz.func17 (by kernel_rfl) (by kernel_rfl) (by kernel_rfl) ?_
  refine Wp.go (mx := true) (fun _ => mixed) [(1, {fm := [(2, .c (encH jsonH))], cs := [(1, pc kept_ok), (4, pc (Print_ok (G := Gd) 2 (by kernel_rfl) rfl hs hf))]})] 100 [] [EqvI (.c (.sl 2 2 (fun i j => nthD (jsonH.flatMap encF) (i * 2 + j)))) (.c (encH jsonH)), EqvD (.c (.sl 2 2 (fun i j => nthD (jsonH.flatMap encF) (i * 2 + j)))) (.c (encH jsonH))] (by kernel_rfl) (by kernel_rfl) (by kernel_rfl) ⟨fun _ _ => trivial, EqvD.sl rfl (fun i hi j hj => flat_get encF .nil (fun _ => rfl) jsonH i hi j hj)⟩ ?_
  refine Wp.ret' (by kernel_rfl) ?_
  exact FinQ.pure (rs' := [.agg (encT (jsonT v))]) (by kernel_rfl) rfl (by kernel_rfl)
theorem Json24_ok {v : JV} (hs : Short v) (hf : mayJ v 0 = true → Fit v) : Pur Tryz.prog G 21 [.agg (encJ v)] [.agg (encT (jsonT v))] := by
  refine Pur.of Tryz.func21 (by kernel_rfl) (by kernel_rfl) (by kernel_rfl) ?_
  refine Wp.go (mx := true) (fun _ => mixed) [(1, {fm := [(2, .c (encH jsonH))], cs := [(4, pc (Print12_ok hs hf))]})] 100 [] [EqvI (.c (.sl 2 2 (fun i j => nthD (jsonH.flatMap encF) (i * 2 + j)))) (.c (encH jsonH)), EqvD (.c (.sl 2 2 (fun i j => nthD (jsonH.flatMap encF) (i * 2 + j)))) (.c (encH jsonH))] (by kernel_rfl) (by kernel_rfl) (by kernel_rfl) ⟨fun _ _ => trivial, EqvD.sl rfl (fun i hi j hj => flat_get encF .nil (fun _ => rfl) jsonH i hi j hj)⟩ ?_
  refine Wp.ret' (by kernel_rfl) ?_
  exact FinQ.pure (rs' := [.agg (encT (jsonT v))]) (by kernel_rfl) rfl (by kernel_rfl)

def errJ (w : List UInt8) : JV := objJ [[101, 114, 114, 111, 114]] [textJ w]
def failT (e : Int) : RT := ⟨statT e, jsonH, printT (errJ (wordT e))⟩
theorem strs_new (l : List (List UInt8)) : EqvD (.c (.sl 1 l.length (fun i j => nthD (l.map Cell.str) (i * 1 + j)))) (.c (encS l)) := by
  refine EqvD.sl rfl fun i hi j hj => ?_
  obtain rfl : j = 0 := by omega
  show nthD (l.map Cell.str) (i * 1 + 0) = nthD [.str (l.getD i [])] 0
  rw [show i * 1 + 0 = i from by omega]
  simp [nthD, nth_eq, List.getD, hi]
theorem kids_new (ks : List JV) : EqvD (.c (.sl 6 ks.length (fun i j => nthD (ks.flatMap encJ) (i * 6 + j)))) (.c (.sl 6 ks.length (kidC ks))) := by
  refine EqvD.sl rfl fun i hi j hj => ?_
  rw [flat_get encJ .nil (fun _ => rfl) ks i hi j hj]
  unfold kidC
  rw [cellsL_eq ks i hi]
theorem word_short (e : Int) : (wordT e).length ≤ 30 := by
  unfold wordT
  by_cases q : ∃ k, k < 11 ∧ e = (rowsL.getD k rowNil).1
  · obtain ⟨k, hk, rfl⟩ := q
    rw [of_hit k hk]
    have : ∀ k : Nat, k < 11 → (rowsL.getD k rowNil).2.1.length ≤ 30 := by decide
    exact this k hk
  · rw [of_miss (fun k hk => by rw [beq_eq_false_iff_ne]; exact fun h => q ⟨k, hk, h⟩)]
    show List.length _ ≤ 30
    simp
theorem quoted_len (s : List UInt8) : (quotedT s).length ≤ 6 * s.length + 2 := by
  unfold quotedT
  have : (s.flatMap qByte).length ≤ 6 * s.length := by
    induction s with
    | nil => simp
    | cons c r ih =>
      have : (qByte c).length ≤ 6 := by unfold qByte; split <;> (try split) <;> simp
      simp only [List.flatMap_cons, List.length_append, List.length_cons]; omega
  simp only [List.length_cons, List.length_append, List.length_nil]; omega
theorem text_print (w : List UInt8) : printJ (textJ w) = quotedT w := by rw [printJ_eq]; rfl
theorem err_print (w : List UInt8) : printJ (errJ w) = (123 :: ((quotedT [101, 114, 114, 111, 114] ++ [58]) ++ quotedT w)) ++ [125] := by
  rw [printJ_eq]
  show (123 :: Lib.join (parts (errJ w) 1) [44]) ++ [125] = _
  have : parts (errJ w) 1 = [(quotedT [101, 114, 114, 111, 114] ++ [58]) ++ quotedT w] := by
    show [partAt (errJ w) 0] = _
    unfold partAt
    rw [if_pos (by rfl)]
    show [(quotedT [101, 114, 114, 111, 114] ++ [58]) ++ printJ (textJ w)] = _
    rw [text_print]
  rw [this, Lib.join_one]
theorem text_small (w : List UInt8) : Small (textJ w) := .mk (by show 0 < _; omega) (by show 0 < _; omega) (by intro x hx; cases hx)
theorem err_small (w : List UInt8) : Small (errJ w) := .mk (by show 1 < _; omega) (by show 1 < _; omega) (by intro x hx; rcases List.mem_singleton.1 hx with rfl; exact text_small w)
theorem text_short (w : List UInt8) (hw : w.length ≤ 1000000) : Short (textJ w) := .mk (by show w.length < _; omega) (by show 0 < _; omega) (by intro x hx; cases hx) (by show 0 < _; omega) (by intro x hx; cases hx)
theorem err_short (w : List UInt8) (hw : w.length ≤ 1000000) : Short (errJ w) := .mk (by show 0 < _; omega) (by show 1 < _; omega) (by intro x hx; rcases List.mem_singleton.1 hx with rfl; decide) (by show 1 < _; omega) (by intro x hx; rcases List.mem_singleton.1 hx with rfl; exact text_short w hw)
theorem text_fit (w : List UInt8) (hw : w.length ≤ 1000000) : Fit (textJ w) := .mk (by show 0 ≤ _; omega) (by intro h; have h : (4 : Int) = 6 := h; omega) (by show _ ≤ (0 : Int); omega) (by show (0 : Int) ≤ _; omega) (by rw [text_print]; have := quoted_len w; omega) (by intro x hx; cases hx)
theorem err_fit (w : List UInt8) (hw : w.length ≤ 1000000) : Fit (errJ w) := by
  have h1 := quoted_len w
  have h2 : (quotedT [101, 114, 114, 111, 114]).length = 7 := by decide
  refine .mk (by show 1 ≤ _; omega) (by intro h; show 1 ≤ 1; omega) (by show _ ≤ (0 : Int); omega) (by show (0 : Int) ≤ _; omega) ?_ (by intro x hx; rcases List.mem_singleton.1 hx with rfl; exact text_fit w hw)
  rw [err_print]
  simp only [List.length_append, List.length_cons, List.length_nil, h2]; omega

theorem Fail_ok (e : Int) : Pur Tryz.prog Gd 47 [.c (.int .i64 e)] [.agg (encT (failT e))] := by
  have hw := word_short e
  refine Pur.of Tryz.func47 (by kernel_rfl) (by kernel_rfl) (by kernel_rfl) ?_
  refine Wp.go (mx := true) (fun _ => mixed) [(1, {fm := [(0, .c (encS [[101, 114, 114, 111, 114]])), (4, .c (.sl 6 1 (kidC [textJ (wordT e)])))], cs := [(2, pc (Word_ok e)), (3, pc (text_ok (wordT e))), (6, pc (Json_ok (err_small (wordT e)) (fun _ => err_fit _ (by omega))))]}), (2, {cs := [(1, pc (Status_ok e))]})] 100 [] [EqvI (.c (.sl 1 1 (fun i j => nthD ([[101, 114, 114, 111, 114]].map Cell.str) (i * 1 + j)))) (.c (encS [[101, 114, 114, 111, 114]])), EqvD (.c (.sl 1 1 (fun i j => nthD ([[101, 114, 114, 111, 114]].map Cell.str) (i * 1 + j)))) (.c (encS [[101, 114, 114, 111, 114]])), EqvI (.c (.sl 6 1 (fun i j => nthD ([textJ (wordT e)].flatMap encJ) (i * 6 + j)))) (.c (.sl 6 1 (kidC [textJ (wordT e)]))), EqvD (.c (.sl 6 1 (fun i j => nthD ([textJ (wordT e)].flatMap encJ) (i * 6 + j)))) (.c (.sl 6 1 (kidC [textJ (wordT e)])))] (by kernel_rfl) (by kernel_rfl) (by kernel_rfl) ⟨fun _ _ => trivial, strs_new [[101, 114, 114, 111, 114]], fun _ _ => trivial, kids_new [textJ (wordT e)]⟩ ?_
  refine Wp.ret' (by kernel_rfl) ?_
  exact FinQ.pure (rs' := [.agg (encT (failT e))]) (by kernel_rfl) rfl (by kernel_rfl)
/-! what an issuer says of itself -/
def docNs : List (List UInt8) := [[105, 115, 115, 117, 101, 114], [112, 117, 115, 104, 101, 100, 95, 97, 117, 116, 104, 111, 114, 105, 122, 97, 116, 105, 111, 110, 95, 114, 101, 113, 117, 101, 115, 116, 95, 101, 110, 100, 112, 111, 105, 110, 116], [97, 117, 116, 104, 111, 114, 105, 122, 97, 116, 105, 111, 110, 95, 101, 110, 100, 112, 111, 105, 110, 116], [116, 111, 107, 101, 110, 95, 101, 110, 100, 112, 111, 105, 110, 116], [105, 110, 116, 114, 111, 115, 112, 101, 99, 116, 105, 111, 110, 95, 101, 110, 100, 112, 111, 105, 110, 116], [114, 101, 118, 111, 99, 97, 116, 105, 111, 110, 95, 101, 110, 100, 112, 111, 105, 110, 116], [114, 101, 113, 117, 105, 114, 101, 95, 112, 117, 115, 104, 101, 100, 95, 97, 117, 116, 104, 111, 114, 105, 122, 97, 116, 105, 111, 110, 95, 114, 101, 113, 117, 101, 115, 116, 115], [97, 117, 116, 104, 111, 114, 105, 122, 97, 116, 105, 111, 110, 95, 114, 101, 115, 112, 111, 110, 115, 101, 95, 105, 115, 115, 95, 112, 97, 114, 97, 109, 101, 116, 101, 114, 95, 115, 117, 112, 112, 111, 114, 116, 101, 100], [99, 111, 100, 101, 95, 99, 104, 97, 108, 108, 101, 110, 103, 101, 95, 109, 101, 116, 104, 111, 100, 115, 95, 115, 117, 112, 112, 111, 114, 116, 101, 100]]
def trueJ : JV := .mk 2 true 0 [] [] []
def listJ (ks : List JV) : JV := .mk 5 false 0 [] [] ks
def docB (name : List UInt8) : List UInt8 := [104, 116, 116, 112, 115, 58, 47, 47] ++ name
def docKs (name : List UInt8) : List JV := [textJ (docB name), textJ (docB name ++ [47, 112, 97, 114]), textJ (docB name ++ [47, 97, 117, 116, 104, 111, 114, 105, 122, 101]), textJ (docB name ++ [47, 116, 111, 107, 101, 110]), textJ (docB name ++ [47, 105, 110, 116, 114, 111, 115, 112, 101, 99, 116]), textJ (docB name ++ [47, 114, 101, 118, 111, 107, 101]), trueJ, trueJ, listJ [textJ [83, 50, 53, 54]]]
def docJ (name : List UInt8) : JV := objJ docNs (docKs name)
def rawTrue : List Cell := [.int .i64 2, .bool true, .int .i64 0, .str [], .nilsl, .nilsl]
theorem yes_ok : Pur Tryz.prog G 53 [] [.agg (encJ trueJ)] := by
  refine Pur.of Tryz.func53 (by kernel_rfl) (by kernel_rfl) (by kernel_rfl) ?_
  refine Wp.go (mx := true) (fun _ => mixed) [(1, {fm := [(0, .agg (encJ trueJ))]})] 100 [] [EqvI (.agg rawTrue) (.agg (encJ trueJ)), EqvD (.agg rawTrue) (.agg (encJ trueJ))] (by kernel_rfl) (by kernel_rfl) (by kernel_rfl) ⟨EqvI.flatA rfl, agg_eqv (.cons CEq.rfl' (.cons CEq.rfl' (.cons CEq.rfl' (.cons CEq.rfl' (.cons CEq.nil (.cons CEq.nil .nil))))))⟩ ?_
  refine Wp.ret' (by kernel_rfl) ?_
  exact FinQ.pure (rs' := [.agg (encJ trueJ)]) (by kernel_rfl) rfl (by kernel_rfl)
def rawList (ks : List JV) : List Cell := [.int .i64 5, .bool false, .int .i64 0, .str [], .nilsl, .sl 6 ks.length (kidC ks)]
theorem Doc_ok (name : List UInt8) (hn : name.length ≤ 1000000) : Pur Tryz.prog G 11 [.c (.str name)] [.agg (encJ (docJ name))] := by
  have hb : (docB name).length = 8 + name.length := by unfold docB; simp; omega
  refine Pur.of Tryz.func11 (by kernel_rfl) (by kernel_rfl) (by kernel_rfl) ?_
  refine Wp.go (mx := true) (fun _ => mixed) [(2, {fm := [(0, .c (encS docNs)), (21, .c (.sl 6 1 (kidC [textJ [83, 50, 53, 54]]))), (22, .agg (encJ (listJ [textJ [83, 50, 53, 54]]))), (23, .c (.sl 6 9 (kidC (docKs name))))], cs := [(2, pc (text_ok (docB name))), (5, pc (text_ok (docB name ++ [47, 112, 97, 114]))), (8, pc (text_ok (docB name ++ [47, 97, 117, 116, 104, 111, 114, 105, 122, 101]))), (11, pc (text_ok (docB name ++ [47, 116, 111, 107, 101, 110]))), (14, pc (text_ok (docB name ++ [47, 105, 110, 116, 114, 111, 115, 112, 101, 99, 116]))), (17, pc (text_ok (docB name ++ [47, 114, 101, 118, 111, 107, 101]))), (18, pc yes_ok), (19, pc yes_ok), (20, pc (text_ok [83, 50, 53, 54]))]})] 100 [] [8 + name.length ≤ 9223372036854775807, EqvI (.c (.sl 1 9 (fun i j => nthD (docNs.map Cell.str) (i * 1 + j)))) (.c (encS docNs)), EqvD (.c (.sl 1 9 (fun i j => nthD (docNs.map Cell.str) (i * 1 + j)))) (.c (encS docNs)), (docB name).length + 4 ≤ 9223372036854775807, (docB name).length + 10 ≤ 9223372036854775807, (docB name).length + 6 ≤ 9223372036854775807, (docB name).length + 11 ≤ 9223372036854775807, (docB name).length + 7 ≤ 9223372036854775807, EqvI (.c (.sl 6 1 (fun i j => nthD ([textJ [83, 50, 53, 54]].flatMap encJ) (i * 6 + j)))) (.c (.sl 6 1 (kidC [textJ [83, 50, 53, 54]]))), EqvD (.c (.sl 6 1 (fun i j => nthD ([textJ [83, 50, 53, 54]].flatMap encJ) (i * 6 + j)))) (.c (.sl 6 1 (kidC [textJ [83, 50, 53, 54]]))), EqvI (.agg (rawList [textJ [83, 50, 53, 54]])) (.agg (encJ (listJ [textJ [83, 50, 53, 54]]))), EqvD (.agg (rawList [textJ [83, 50, 53, 54]])) (.agg (encJ (listJ [textJ [83, 50, 53, 54]]))), EqvI (.c (.sl 6 9 (fun i j => nthD ((docKs name).flatMap encJ) (i * 6 + j)))) (.c (.sl 6 9 (kidC (docKs name)))), EqvD (.c (.sl 6 9 (fun i j => nthD ((docKs name).flatMap encJ) (i * 6 + j)))) (.c (.sl 6 9 (kidC (docKs name))))] (by kernel_rfl) (by kernel_rfl) (by kernel_rfl) ⟨by omega, fun _ _ => trivial, strs_new docNs, by omega, by omega, by omega, by omega, by omega, fun _ _ => trivial, kids_new [textJ [83, 50, 53, 54]], EqvI.flatA rfl, agg_eqv (.cons CEq.rfl' (.cons CEq.rfl' (.cons CEq.rfl' (.cons CEq.rfl' (.cons CEq.nil (.cons CEq.rfl' .nil)))))), fun _ _ => trivial, kids_new (docKs name)⟩ ?_
  refine Wp.ret' (by kernel_rfl) ?_
  exact FinQ.pure (rs' := [.agg (encJ (docJ name))]) (by kernel_rfl) rfl (by kernel_rfl)
end Go.Proofs.Tw
end

section
open Go Go.Sv
namespace Go.Proofs.Tw
attribute [local irreducible] Wp FinQ resV Ent Pur Go.Sv.Fn Sat0
set_option maxRecDepth 100000
set_option maxHeartbeats 4000000
variable {G : Nat → Option (List Cell)}

def intsF (l : List Int) : Nat → Nat → Cell := fun i _ => .int .i64 (l.getD i 0)
/-- The tape: its numbers, and how many of them are read. -/
def tapeB (l : List Int) (a : Nat) : Blk := .box 48 [.sl 1 l.length (intsF l), .int .i64 (a : Int)]
def withT (at_ n : Int) : Int := if at_.tmod n < 0 then at_.tmod n + n else at_.tmod n

theorem tmod_lo (a n : Int) (hn : 0 < n) : -n < a.tmod n := by
  rcases Int.lt_or_le a 0 with h | h
  · have := Int.tmod_lt_of_pos (-a) hn
    rw [Int.neg_tmod] at this
    omega
  · have := Int.tmod_nonneg n h
    omega
theorem withT_rng (a n : Int) (hn : 0 < n) : 0 ≤ withT a n ∧ withT a n < n := by
  unfold withT
  have h1 := Int.tmod_lt_of_pos a hn
  have h2 := tmod_lo a n hn
  split <;> omega
theorem within1_ok (a n : Int) (hn : 0 < n) (hm : n ≤ 9223372036854775807) : Pur Tryz.prog G 67 [.c (.int .i64 a), .c (.int .i64 n)] [.c (.int .i64 (withT a n))] := by
  refine Pur.of Tryz.func67 (by kernel_rfl) (by kernel_rfl) (by kernel_rfl) ?_
  have h1 := Int.tmod_lt_of_pos a hn
  have h2 := tmod_lo a n hn
  refine Wp.go (mx := true) (fun _ => mixed) [] 100 [] [n = (0 : Int) → False] (by kernel_rfl) (by kernel_rfl) (by kernel_rfl) ((show n = (0 : Int) → False from (by omega))) ?_
  refine Wp.cond' (by kernel_rfl) (decide (a.tmod n < (0 : Int))) (by kernel_rfl) (fun h0 => ?_) (fun h0 => ?_)
  · have g0 := of_decide_eq_true h0
    refine Wp.go (mx := true) (fun _ => mixed) [] 100 [] [IntKind.i64.min ≤ a.tmod n + n ∧ a.tmod n + n ≤ IntKind.i64.max] (by kernel_rfl) (by kernel_rfl) (by kernel_rfl) (inR64 (by omega) (by omega)) ?_
    refine Wp.ret' (by kernel_rfl) ?_
    exact FinQ.pure (rs' := [V1.c (Cell.int .i64 (a.tmod n + n))]) (by kernel_rfl) (by simp [withT, *]; done) (by kernel_rfl)
  · have g0 := of_decide_eq_false h0
    refine Wp.go (mx := true) (fun _ => mixed) [] 100 [] [] (by kernel_rfl) (by kernel_rfl) (by kernel_rfl) trivial ?_
    refine Wp.ret' (by kernel_rfl) ?_
    exact FinQ.pure (rs' := [V1.c (Cell.int .i64 (a.tmod n))]) (by kernel_rfl) (by simp [withT, *]; done) (by kernel_rfl)
theorem more1_ok (l : List Int) (a : Nat) : FnB Tryz.prog G 42 [tapeB l a] [.c (.ptr 0 0)] [.c (.bool (decide (a < l.length)))] [(0, tapeB l a)] := by
  refine Fn.of' Tryz.func42 (by kernel_rfl) (by kernel_rfl) (by kernel_rfl) (by kernel_rfl) trivial ?_
  refine Wp.go (mx := true) (fun _ => mixed) [] 100 [] [] (by kernel_rfl) (by kernel_rfl) (by kernel_rfl) trivial ?_
  refine Wp.ret' (by kernel_rfl) ?_
  exact FinQ.blkE (rs' := [V1.c (Cell.bool (decide ((↑a : Int) < (↑l.length : Int))))]) (hout' := [(0, tapeB l a)]) (by simp) [] (by kernel_rfl) (by kernel_rfl) (by kernel_rfl) (by kernel_rfl) (by kernel_rfl) trivial
/-- What a tape gives, and where it then stands. -/
def nextV (l : List Int) (a : Nat) (n : Int) : Int := cond (cond (!decide ((a : Int) < (l.length : Int))) true (decide (n < 1))) 0 (withT (l.getD a 0) n)
def nextA (l : List Int) (a : Nat) (n : Int) : Nat := cond (cond (!decide ((a : Int) < (l.length : Int))) true (decide (n < 1))) a (a + 1)
theorem next_ok (l : List Int) (a : Nat) (n : Int) (hl : l.length ≤ 9223372036854775807) (hm : n ≤ 9223372036854775807) : FnB Tryz.prog G 22 [tapeB l a] [.c (.ptr 0 0), .c (.int .i64 n)] [.c (.int .i64 (nextV l a n))] [(0, tapeB l (nextA l a n))] := by
  refine Fn.of' Tryz.func22 (by kernel_rfl) (by kernel_rfl) (by kernel_rfl) (by kernel_rfl) trivial ?_
  refine Wp.go (mx := true) (fun _ => mixed) [(1, {cs := [(1, cb [0] (more1_ok l a))]})] 100 [] [] (by kernel_rfl) (by kernel_rfl) (by kernel_rfl) trivial ?_
  refine Wp.cond' (by kernel_rfl) (bif !decide (a < l.length) then true else decide (n < (1 : Int))) (by kernel_rfl) (fun h0 => ?_) (fun h0 => ?_)
  · have g0 := h0
    simp at g0
    refine Wp.go (mx := true) (fun _ => mixed) [] 100 [] [] (by kernel_rfl) (by kernel_rfl) (by kernel_rfl) trivial ?_
    refine Wp.ret' (by kernel_rfl) ?_
    exact FinQ.blkE (rs' := [V1.c (Cell.int .i64 (0 : Int))]) (hout' := [(0, Blk.box 48 [Cell.sl (1 : Nat) l.length (intsF l), Cell.int .i64 (↑a : Int)])]) (by simp [nextV, tapeB, nextA, h0]) [] (by kernel_rfl) (by kernel_rfl) (by kernel_rfl) (by kernel_rfl) (by kernel_rfl) trivial
  · have g0 := h0
    simp at g0
    refine Wp.go (mx := true) (fun _ => mixed) [(4, {cs := [(12, pc (within1_ok (l.getD a (0 : Int)) n (by omega) (by assumption)))], fm := [(10, .c (.int .i64 (l.getD a 0)))]})] 100 [] [inR IntKind.i64 ((↑a : Int) + (1 : Int)), inR IntKind.i64 ((↑a : Int) + (1 : Int) - (1 : Int)), (0 : Int) ≤ (↑a : Int) + (1 : Int) - (1 : Int) ∧ (↑a : Int) + (1 : Int) - (1 : Int) < (↑l.length : Int), EqvD (V1.c (Cell.int .i64 (l.getD ((↑a : Int) + (1 : Int) - (1 : Int)).toNat (0 : Int)))) (V1.c (Cell.int .i64 (l.getD a (0 : Int))))] (by kernel_rfl) (by kernel_rfl) (by kernel_rfl) ⟨inR64 (by omega) (by omega), inR64 (by omega) (by omega), (by omega), (show EqvD (V1.c (Cell.int .i64 (l.getD ((↑a : Int) + (1 : Int) - (1 : Int)).toNat (0 : Int)))) (V1.c (Cell.int .i64 (l.getD a (0 : Int)))) from (by simp; exact fun _ _ _ h => h))⟩ ?_
    refine Wp.ret' (by kernel_rfl) ?_
    exact FinQ.blkE (rs' := [V1.c (Cell.int .i64 (withT (l.getD a (0 : Int)) n))]) (hout' := [(0, Blk.box 48 [Cell.sl (1 : Nat) l.length (intsF l), Cell.int .i64 ((↑a : Int) + (1 : Int))])]) (by simp [nextV, tapeB, nextA, h0]) [] (by kernel_rfl) (by kernel_rfl) (by kernel_rfl) (by kernel_rfl) (by kernel_rfl) trivial
theorem nextV_rng (l : List Int) (a : Nat) (n : Int) (hn : 0 < n) : 0 ≤ nextV l a n ∧ nextV l a n < n := by
  unfold nextV
  have := withT_rng (l.getD a 0) n hn
  cases (cond (!decide ((a : Int) < (l.length : Int))) true (decide (n < 1))) with
  | true => show 0 ≤ (0 : Int) ∧ (0 : Int) < n; omega
  | false => exact this
theorem pick_ok (ss : List (List UInt8)) (l : List Int) (a : Nat) (hl : l.length ≤ 9223372036854775807) (hs : ss.length < 4611686018427387904) : FnB Tryz.prog G 50 [tapeB l a] [.c (.ptr 0 0), .c (.sl 1 ss.length (strsF ss))] [.c (.str (ss.getD (nextV l a ss.length).toNat []))] [(0, tapeB l (nextA l a ss.length))] := by
  refine Fn.of' Tryz.func50 (by kernel_rfl) (by kernel_rfl) (by kernel_rfl) (by kernel_rfl) trivial ?_
  have hr := fun h => nextV_rng l a ss.length h
  refine Wp.go (mx := true) (fun _ => mixed) [] 100 [] [] (by kernel_rfl) (by kernel_rfl) (by kernel_rfl) trivial ?_
  refine Wp.cond' (by kernel_rfl) ((↑ss.length : Int) == (0 : Int)) (by kernel_rfl) (fun h0 => ?_) (fun h0 => ?_)
  · have g0 := eq_of_beq h0
    refine Wp.go (mx := true) (fun _ => mixed) [] 100 [] [] (by kernel_rfl) (by kernel_rfl) (by kernel_rfl) trivial ?_
    refine Wp.ret' (by kernel_rfl) ?_
    exact FinQ.blkE (rs' := [V1.c (Cell.str [])]) (hout' := [(0, Blk.box 48 [Cell.sl (1 : Nat) l.length (intsF l), Cell.int .i64 (↑a : Int)])]) (by simp_all [nextV, tapeB, nextA]) [] (by kernel_rfl) (by kernel_rfl) (by kernel_rfl) (by kernel_rfl) (by kernel_rfl) trivial
  · have g0 := ne_of_beq_false h0
    refine Wp.go (mx := true) (fun _ => mixed) [(3, {cs := [(4, cb [0] (next_ok l a (↑ss.length : Int) (by assumption) (by omega)))]})] 100 [] [(0 : Int) ≤ nextV l a (↑ss.length : Int) ∧ nextV l a (↑ss.length : Int) < (↑ss.length : Int)] (by kernel_rfl) (by kernel_rfl) (by kernel_rfl) ((show (0 : Int) ≤ nextV l a (↑ss.length : Int) ∧ nextV l a (↑ss.length : Int) < (↑ss.length : Int) from (by omega))) ?_
    refine Wp.ret' (by kernel_rfl) ?_
    exact FinQ.blk [] (by kernel_rfl) (by kernel_rfl) (by kernel_rfl) (by kernel_rfl) (by kernel_rfl) trivial
end Go.Proofs.Tw
end

section
open Go Go.Sv Go.RowKit
namespace Go.Proofs.Tw
attribute [local irreducible] Wp FinQ resV Ent Pur Go.Sv.Fn Sat0
set_option maxRecDepth 100000
set_option maxHeartbeats 4000000
variable {G : Nat → Option (List Cell)}

/-! kinds of bytes -/
theorem byte_all (p : UInt8 → Bool) (h : (List.range 256).all (fun n => p (UInt8.ofNat n)) = true) (c : UInt8) : p c = true := by
  have := List.all_eq_true.1 h c.toNat (List.mem_range.2 (UInt8.toNat_lt c))
  rwa [UInt8.ofNat_toNat] at this
theorem byte_eq2 {α : Type} [DecidableEq α] (p q : UInt8 → α) (h : (List.range 256).all (fun n => decide (p (UInt8.ofNat n) = q (UInt8.ofNat n))) = true) (c : UInt8) : p c = q c :=
  of_decide_eq_true (byte_all (fun c => decide (p c = q c)) h c)
theorem by_all (p q : UInt8 → Bool) (h : (List.range 256).all (fun n => p (UInt8.ofNat n) == q (UInt8.ofNat n)) = true) : ∀ c : UInt8, [V1.c (Cell.bool (p c))] = [V1.c (Cell.bool (q c))] := by
  intro c
  have h' : p c = q c := eq_of_beq (byte_all (fun c => p c == q c) h c)
  rw [h']
theorem by_fun (p q : UInt8 → Bool) (h : (List.range 256).all (fun n => p (UInt8.ofNat n) == q (UInt8.ofNat n)) = true) (c : UInt8) : p c = q c :=
  eq_of_beq (byte_all (fun c => p c == q c) h c)
theorem by_b {a b : Bool} (h : a = b) : [V1.c (Cell.bool a)] = [V1.c (Cell.bool b)] := by rw [h]
def greatB (c : UInt8) : Bool := 65 ≤ c && c ≤ 90
def smallB (c : UInt8) : Bool := 97 ≤ c && c ≤ 122
def digitB (c : UInt8) : Bool := 48 ≤ c && c ≤ 57
def letterB (c : UInt8) : Bool := greatB c || smallB c
def plainB (c : UInt8) : Bool := letterB c || digitB c || [45, 46, 95, 126].contains c
def tokenB (c : UInt8) : Bool := letterB c || digitB c || [33, 35, 36, 37, 38, 39, 42, 43, 45, 46, 94, 95, 124, 126, 96].contains c
def seenB (c : UInt8) : Bool := 32 ≤ c && c ≤ 126
def bC (c : UInt8) : V1 := .c (.int .u8 (c.toNat : Int))
theorem great_ok (c : UInt8) : Pur Tryz.prog G 214 [.c (.int .u8 (c.toNat : Int))] [.c (.bool (greatB c))] := by
  refine Pur.of Tryz.func214 (by kernel_rfl) (by kernel_rfl) (by kernel_rfl) ?_
  refine Wp.go (mx := true) (fun _ => mixed) [] 100 [] [] (by kernel_rfl) (by kernel_rfl) (by kernel_rfl) trivial ?_
  refine Wp.ret' (by kernel_rfl) ?_
  exact FinQ.pure (rs' := [V1.c (Cell.bool (bif decide ((↑c.toNat : Int) ≥ (65 : Int)) then decide ((↑c.toNat : Int) ≤ (90 : Int)) else false))]) (by kernel_rfl) (by revert c; refine by_all _ _ ?_; kernel_rfl) (by kernel_rfl)
theorem small_ok (c : UInt8) : Pur Tryz.prog G 215 [.c (.int .u8 (c.toNat : Int))] [.c (.bool (smallB c))] := by
  refine Pur.of Tryz.func215 (by kernel_rfl) (by kernel_rfl) (by kernel_rfl) ?_
  refine Wp.go (mx := true) (fun _ => mixed) [] 100 [] [] (by kernel_rfl) (by kernel_rfl) (by kernel_rfl) trivial ?_
  refine Wp.ret' (by kernel_rfl) ?_
  exact FinQ.pure (rs' := [V1.c (Cell.bool (bif decide ((↑c.toNat : Int) ≥ (97 : Int)) then decide ((↑c.toNat : Int) ≤ (122 : Int)) else false))]) (by kernel_rfl) (by revert c; refine by_all _ _ ?_; kernel_rfl) (by kernel_rfl)
theorem digit_ok (c : UInt8) : Pur Tryz.prog G 216 [.c (.int .u8 (c.toNat : Int))] [.c (.bool (digitB c))] := by
  refine Pur.of Tryz.func216 (by kernel_rfl) (by kernel_rfl) (by kernel_rfl) ?_
  refine Wp.go (mx := true) (fun _ => mixed) [] 100 [] [] (by kernel_rfl) (by kernel_rfl) (by kernel_rfl) trivial ?_
  refine Wp.ret' (by kernel_rfl) ?_
  exact FinQ.pure (rs' := [V1.c (Cell.bool (bif decide ((↑c.toNat : Int) ≥ (48 : Int)) then decide ((↑c.toNat : Int) ≤ (57 : Int)) else false))]) (by kernel_rfl) (by revert c; refine by_all _ _ ?_; kernel_rfl) (by kernel_rfl)
theorem digit6_ok (c : UInt8) : Pur Tryz.prog G 75 [.c (.int .u8 (c.toNat : Int))] [.c (.bool (digitB c))] := by
  refine Pur.of Tryz.func75 (by kernel_rfl) (by kernel_rfl) (by kernel_rfl) ?_
  refine Wp.go (mx := true) (fun _ => mixed) [] 100 [] [] (by kernel_rfl) (by kernel_rfl) (by kernel_rfl) trivial ?_
  refine Wp.ret' (by kernel_rfl) ?_
  exact FinQ.pure (rs' := [V1.c (Cell.bool (bif decide ((↑c.toNat : Int) ≥ (48 : Int)) then decide ((↑c.toNat : Int) ≤ (57 : Int)) else false))]) (by kernel_rfl) (by revert c; refine by_all _ _ ?_; kernel_rfl) (by kernel_rfl)
theorem letter6_ok (c : UInt8) : Pur Tryz.prog G 175 [.c (.int .u8 (c.toNat : Int))] [.c (.bool (letterB c))] := by
  refine Pur.of Tryz.func175 (by kernel_rfl) (by kernel_rfl) (by kernel_rfl) ?_
  refine Wp.go (mx := true) (fun _ => mixed) [] 100 [] [] (by kernel_rfl) (by kernel_rfl) (by kernel_rfl) trivial ?_
  refine Wp.ret' (by kernel_rfl) ?_
  exact FinQ.pure (rs' := [V1.c (Cell.bool (bif bif decide ((↑c.toNat : Int) ≥ (65 : Int)) then decide ((↑c.toNat : Int) ≤ (90 : Int)) else false then true else bif decide ((↑c.toNat : Int) ≥ (97 : Int)) then decide ((↑c.toNat : Int) ≤ (122 : Int)) else false))]) (by kernel_rfl) (by revert c; refine by_all _ _ ?_; kernel_rfl) (by kernel_rfl)
theorem seen1_ok (c : UInt8) : Pur Tryz.prog G 227 [.c (.int .u8 (c.toNat : Int))] [.c (.bool (seenB c))] := by
  refine Pur.of Tryz.func227 (by kernel_rfl) (by kernel_rfl) (by kernel_rfl) ?_
  refine Wp.go (mx := true) (fun _ => mixed) [] 100 [] [] (by kernel_rfl) (by kernel_rfl) (by kernel_rfl) trivial ?_
  refine Wp.ret' (by kernel_rfl) ?_
  exact FinQ.pure (rs' := [V1.c (Cell.bool (bif decide ((↑c.toNat : Int) ≥ (32 : Int)) then decide ((↑c.toNat : Int) ≤ (126 : Int)) else false))]) (by kernel_rfl) (by revert c; refine by_all _ _ ?_; kernel_rfl) (by kernel_rfl)
theorem lib_IndexByte {G : Nat → Option (List Cell)} (s : List UInt8) (c : UInt8) : Pur Tryz.prog G 226 [.c (.str s), .c (.int .u8 (c.toNat : Int))] [.c (.int .i64 (Lib.indexByte s c))] := by
  refine Pur.of_below rfl ?_
  intro D ρ w vs h1 _ _ _
  obtain ⟨u, v, rfl, hu, hv⟩ := h1.two
  have hu : u = .string ⟨s.toArray⟩ := hu
  have hv : v = .int .u8 (c.toNat : Int) := hv
  subst hu hv
  refine (Go.Proofs.Tryz.strings_IndexByte ⟨s.toArray⟩ (c.toNat : Int) w).mono ?_
  rintro e w' ⟨rfl, rfl⟩
  exact ⟨_, rfl, by simp [ResDen, DenV, Den], Below.refl _ _⟩
theorem token1_ok (c : UInt8) : Pur Tryz.prog G 225 [.c (.int .u8 (c.toNat : Int))] [.c (.bool (tokenB c))] := by
  refine Pur.of Tryz.func225 (by kernel_rfl) (by kernel_rfl) (by kernel_rfl) ?_
  refine Wp.go (mx := true) (fun _ => mixed) [(1, {cs := [(1, pc (great_ok c)), (4, pc (small_ok c)), (8, pc (digit_ok c)), (12, pc (lib_IndexByte [(33 : UInt8), 35, 36, 37, 38, 39, 42, 43, 45, 46, 94, 95, 124, 126, 96] c))]})] 100 [] [] (by kernel_rfl) (by kernel_rfl) (by kernel_rfl) trivial ?_
  refine Wp.ret' (by kernel_rfl) ?_
  exact FinQ.pure (rs' := [V1.c (Cell.bool (bif bif bif greatB c then true else smallB c then true else digitB c then true else decide (Lib.indexByte [(33 : UInt8), 35, 36, 37, 38, 39, 42, 43, 45, 46, 94, 95, 124, 126, 96] c ≥ (0 : Int))))]) (by kernel_rfl) (by revert c; refine by_all _ _ ?_; kernel_rfl) (by kernel_rfl)
theorem ibeq (a b : UInt8) : ((a.toNat : Int) == (b.toNat : Int)) = (a == b) := by
  rw [Bool.eq_iff_iff, beq_iff_eq, beq_iff_eq, Int.ofNat_inj, UInt8.toNat_inj]
theorem dropS (l : List UInt8) (k : Nat) (h : k < l.length) : l.drop k = l.getD k 0 :: l.drop (k + 1) := by
  rw [List.getD_eq_getElem?_getD, List.getElem?_eq_getElem h]; exact List.drop_eq_getElem_cons h
theorem in6_ok (c : UInt8) (s : List UInt8) (hl : s.length < 4611686018427387904) : Pur Tryz.prog G 176 [.c (.int .u8 (c.toNat : Int)), .c (.str s)] [.c (.bool (s.contains c))] := by
  refine Pur.of Tryz.func176 (by kernel_rfl) (by kernel_rfl) (by kernel_rfl) ?_
  refine Wp.go (mx := true) (fun _ => mixed) [] 100 [] [] (by kernel_rfl) (by kernel_rfl) (by kernel_rfl) trivial ?_
  refine Wp.loopK (by kernel_rfl) (fun (k : Nat) => ⟨[(0, TV.v (V1.c (Cell.int .u8 (↑c.toNat : Int)))), (1, TV.v (V1.c (Cell.str s))), (5, TV.v (V1.c (Cell.int .i64 (k : Int))))], [], 32⟩) (fun k => k ≤ s.length ∧ s.contains c = (s.drop k).contains c) (fun k => s.length - k) 0 (Ent.of [] (by kernel_rfl) (by kernel_rfl) (by kernel_rfl) trivial) ⟨Nat.zero_le _, rfl⟩ ?_
  intro k L ⟨hk, hq⟩ again
  rcases Nat.lt_or_ge k s.length with hlt | hge
  · rw [dropS s k hlt, List.contains_cons] at hq
    refine Wp.go (mx := true) (fun _ => mixed) [] 100 [true] [decide ((↑k : Int) < (↑s.length : Int)) = true, (0 : Int) ≤ (↑k : Int) ∧ (↑k : Int) < (↑s.length : Int)] (by kernel_rfl) (by kernel_rfl) (by kernel_rfl) ⟨(by simp; omega), (show (0 : Int) ≤ (↑k : Int) ∧ (↑k : Int) < (↑s.length : Int) from (by omega))⟩ ?_
    refine Wp.cond' (by kernel_rfl) ((↑(s.getD k (0 : UInt8)).toNat : Int) == (↑c.toNat : Int)) (by kernel_rfl) (fun h0 => ?_) (fun h0 => ?_)
    · have g0 := eq_of_beq h0
      refine Wp.go (mx := true) (fun _ => mixed) [] 100 [] [] (by kernel_rfl) (by kernel_rfl) (by kernel_rfl) trivial ?_
      refine Wp.ret' (by kernel_rfl) ?_
      exact FinQ.pure (rs' := [V1.c (Cell.bool true)]) (by kernel_rfl) (by rw [ibeq] at h0; rw [hq, eq_of_beq h0]; simp) (by kernel_rfl)
    · have g0 := ne_of_beq_false h0
      refine Wp.go (mx := true) (fun _ => mixed) [] 100 [] [inR IntKind.i64 ((↑k : Int) + (1 : Int))] (by kernel_rfl) (by kernel_rfl) (by kernel_rfl) (inR64 (by omega) (by omega)) ?_
      exact Wp.lpK (by kernel_rfl) (again _ (k + 1) ⟨hlt, (by rw [ibeq] at h0; rw [hq, show (c == s.getD k 0) = false from by rw [beq_eq_false_iff_ne] at h0 ⊢; exact fun e => h0 e.symm]; rfl)⟩ (by omega) (Ent.of [] (by kernel_rfl) (by kernel_rfl) (by kernel_rfl) trivial))
  · obtain rfl : k = s.length := by omega
    rw [List.drop_length] at hq
    refine Wp.go (mx := true) (fun _ => mixed) [] 100 [false] [decide ((↑s.length : Int) < (↑s.length : Int)) = false] (by kernel_rfl) (by kernel_rfl) (by kernel_rfl) ((show decide ((↑s.length : Int) < (↑s.length : Int)) = false from (by simp; done))) ?_
    refine Wp.ret' (by kernel_rfl) ?_
    exact FinQ.pure (rs' := [V1.c (Cell.bool false)]) (by kernel_rfl) (by simp_all; done) (by kernel_rfl)
theorem plain6_ok (c : UInt8) : Pur Tryz.prog G 132 [.c (.int .u8 (c.toNat : Int))] [.c (.bool (plainB c))] := by
  refine Pur.of Tryz.func132 (by kernel_rfl) (by kernel_rfl) (by kernel_rfl) ?_
  have hl : ([45, 46, 95, 126] : List UInt8).length < 4611686018427387904 := by decide
  refine Wp.go (mx := true) (fun _ => mixed) [(1, {cs := [(1, pc (letter6_ok c)), (4, pc (digit6_ok c)), (8, pc (in6_ok c [(45 : UInt8), 46, 95, 126] (by assumption)))]})] 100 [] [] (by kernel_rfl) (by kernel_rfl) (by kernel_rfl) trivial ?_
  refine Wp.ret' (by kernel_rfl) ?_
  exact FinQ.pure (rs' := [V1.c (Cell.bool (bif bif letterB c then true else digitB c then true else [(45 : UInt8), 46, 95, 126].contains c))]) (by kernel_rfl) rfl (by kernel_rfl)
theorem All_great (s : List UInt8) (hl : s.length < 4611686018427387904) : Pur Tryz.prog G 128 [.c (.str s), .c (.clo 214 0 (fun _ => none) (fun _ _ => .nilif))] [.c (.bool (s.all greatB))] := by
  refine Pur.of Tryz.func128 (by kernel_rfl) (by kernel_rfl) (by kernel_rfl) ?_
  refine Wp.go (mx := true) (fun _ => mixed) [] 100 [] [] (by kernel_rfl) (by kernel_rfl) (by kernel_rfl) trivial ?_
  refine Wp.loopK (by kernel_rfl) (fun (k : Nat) => ⟨[(0, TV.v (V1.c (Cell.str s))), (1, TV.v (V1.c (Cell.clo 214 (0 : Nat) (fun _ => none) fun _ _ => Cell.nilif))), (7, TV.v (V1.c (Cell.int .i64 (↑s.length : Int)))), (8, TV.v (V1.c (Cell.int .i64 (k : Int))))], [], 32⟩) (fun k => k ≤ s.length ∧ s.all greatB = (s.drop k).all greatB) (fun k => s.length - k) 0 (Ent.of [] (by kernel_rfl) (by kernel_rfl) (by kernel_rfl) trivial) ⟨Nat.zero_le _, rfl⟩ ?_
  intro k L ⟨hk, hq⟩ again
  rcases Nat.lt_or_ge k s.length with hlt | hge
  · rw [dropS s k hlt, List.all_cons] at hq
    refine Wp.go (mx := true) (fun _ => mixed) [(4, {cs := [(4, pc (great_ok (s.getD k (0 : UInt8))))]})] 100 [true] [decide ((↑k : Int) < (↑s.length : Int)) = true, (0 : Int) ≤ (↑k : Int) ∧ (↑k : Int) < (↑s.length : Int)] (by kernel_rfl) (by kernel_rfl) (by kernel_rfl) ⟨(by simp; omega), (show (0 : Int) ≤ (↑k : Int) ∧ (↑k : Int) < (↑s.length : Int) from (by omega))⟩ ?_
    refine Wp.cond' (by kernel_rfl) (!greatB (s.getD k (0 : UInt8))) (by kernel_rfl) (fun h0 => ?_) (fun h0 => ?_)
    · have g0 := h0
      simp at g0
      refine Wp.go (mx := true) (fun _ => mixed) [] 100 [] [] (by kernel_rfl) (by kernel_rfl) (by kernel_rfl) trivial ?_
      refine Wp.ret' (by kernel_rfl) ?_
      exact FinQ.pure (rs' := [V1.c (Cell.bool false)]) (by kernel_rfl) (by simp_all; done) (by kernel_rfl)
    · have g0 := h0
      simp at g0
      refine Wp.go (mx := true) (fun _ => mixed) [] 100 [] [inR IntKind.i64 ((↑k : Int) + (1 : Int))] (by kernel_rfl) (by kernel_rfl) (by kernel_rfl) (inR64 (by omega) (by omega)) ?_
      exact Wp.lpK (by kernel_rfl) (again _ (k + 1) (⟨(by assumption), (by simp_all <;> omega)⟩) (by omega) (Ent.of [] (by kernel_rfl) (by kernel_rfl) (by kernel_rfl) trivial))
  · obtain rfl : k = s.length := by omega
    rw [List.drop_length] at hq
    refine Wp.go (mx := true) (fun _ => mixed) [] 100 [false] [decide ((↑s.length : Int) < (↑s.length : Int)) = false] (by kernel_rfl) (by kernel_rfl) (by kernel_rfl) ((show decide ((↑s.length : Int) < (↑s.length : Int)) = false from (by simp; done))) ?_
    refine Wp.ret' (by kernel_rfl) ?_
    exact FinQ.pure (rs' := [V1.c (Cell.bool true)]) (by kernel_rfl) (by simp [*]; done) (by kernel_rfl)
theorem All_tok (s : List UInt8) (hl : s.length < 4611686018427387904) : Pur Tryz.prog G 128 [.c (.str s), .c (.clo 225 0 (fun _ => none) (fun _ _ => .nilif))] [.c (.bool (s.all tokenB))] := by
  refine Pur.of Tryz.func128 (by kernel_rfl) (by kernel_rfl) (by kernel_rfl) ?_
  refine Wp.go (mx := true) (fun _ => mixed) [] 100 [] [] (by kernel_rfl) (by kernel_rfl) (by kernel_rfl) trivial ?_
  refine Wp.loopK (by kernel_rfl) (fun (k : Nat) => ⟨[(0, TV.v (V1.c (Cell.str s))), (1, TV.v (V1.c (Cell.clo 225 (0 : Nat) (fun _ => none) fun _ _ => Cell.nilif))), (7, TV.v (V1.c (Cell.int .i64 (↑s.length : Int)))), (8, TV.v (V1.c (Cell.int .i64 (k : Int))))], [], 32⟩) (fun k => k ≤ s.length ∧ s.all tokenB = (s.drop k).all tokenB) (fun k => s.length - k) 0 (Ent.of [] (by kernel_rfl) (by kernel_rfl) (by kernel_rfl) trivial) ⟨Nat.zero_le _, rfl⟩ ?_
  intro k L ⟨hk, hq⟩ again
  rcases Nat.lt_or_ge k s.length with hlt | hge
  · rw [dropS s k hlt, List.all_cons] at hq
    refine Wp.go (mx := true) (fun _ => mixed) [(4, {cs := [(4, pc (token1_ok (s.getD k (0 : UInt8))))]})] 100 [true] [decide ((↑k : Int) < (↑s.length : Int)) = true, (0 : Int) ≤ (↑k : Int) ∧ (↑k : Int) < (↑s.length : Int)] (by kernel_rfl) (by kernel_rfl) (by kernel_rfl) ⟨(by simp; omega), (show (0 : Int) ≤ (↑k : Int) ∧ (↑k : Int) < (↑s.length : Int) from (by omega))⟩ ?_
    refine Wp.cond' (by kernel_rfl) (!tokenB (s.getD k (0 : UInt8))) (by kernel_rfl) (fun h0 => ?_) (fun h0 => ?_)
    · have g0 := h0
      simp at g0
      refine Wp.go (mx := true) (fun _ => mixed) [] 100 [] [] (by kernel_rfl) (by kernel_rfl) (by kernel_rfl) trivial ?_
      refine Wp.ret' (by kernel_rfl) ?_
      exact FinQ.pure (rs' := [V1.c (Cell.bool false)]) (by kernel_rfl) (by simp_all; done) (by kernel_rfl)
    · have g0 := h0
      simp at g0
      refine Wp.go (mx := true) (fun _ => mixed) [] 100 [] [inR IntKind.i64 ((↑k : Int) + (1 : Int))] (by kernel_rfl) (by kernel_rfl) (by kernel_rfl) (inR64 (by omega) (by omega)) ?_
      exact Wp.lpK (by kernel_rfl) (again _ (k + 1) (⟨(by assumption), (by simp_all <;> omega)⟩) (by omega) (Ent.of [] (by kernel_rfl) (by kernel_rfl) (by kernel_rfl) trivial))
  · obtain rfl : k = s.length := by omega
    rw [List.drop_length] at hq
    refine Wp.go (mx := true) (fun _ => mixed) [] 100 [false] [decide ((↑s.length : Int) < (↑s.length : Int)) = false] (by kernel_rfl) (by kernel_rfl) (by kernel_rfl) ((show decide ((↑s.length : Int) < (↑s.length : Int)) = false from (by simp; done))) ?_
    refine Wp.ret' (by kernel_rfl) ?_
    exact FinQ.pure (rs' := [V1.c (Cell.bool true)]) (by kernel_rfl) (by simp [*]; done) (by kernel_rfl)
theorem All_seen (s : List UInt8) (hl : s.length < 4611686018427387904) : Pur Tryz.prog G 128 [.c (.str s), .c (.clo 227 0 (fun _ => none) (fun _ _ => .nilif))] [.c (.bool (s.all seenB))] := by
  refine Pur.of Tryz.func128 (by kernel_rfl) (by kernel_rfl) (by kernel_rfl) ?_
  refine Wp.go (mx := true) (fun _ => mixed) [] 100 [] [] (by kernel_rfl) (by kernel_rfl) (by kernel_rfl) trivial ?_
  refine Wp.loopK (by kernel_rfl) (fun (k : Nat) => ⟨[(0, TV.v (V1.c (Cell.str s))), (1, TV.v (V1.c (Cell.clo 227 (0 : Nat) (fun _ => none) fun _ _ => Cell.nilif))), (7, TV.v (V1.c (Cell.int .i64 (↑s.length : Int)))), (8, TV.v (V1.c (Cell.int .i64 (k : Int))))], [], 32⟩) (fun k => k ≤ s.length ∧ s.all seenB = (s.drop k).all seenB) (fun k => s.length - k) 0 (Ent.of [] (by kernel_rfl) (by kernel_rfl) (by kernel_rfl) trivial) ⟨Nat.zero_le _, rfl⟩ ?_
  intro k L ⟨hk, hq⟩ again
  rcases Nat.lt_or_ge k s.length with hlt | hge
  · rw [dropS s k hlt, List.all_cons] at hq
    refine Wp.go (mx := true) (fun _ => mixed) [(4, {cs := [(4, pc (seen1_ok (s.getD k (0 : UInt8))))]})] 100 [true] [decide ((↑k : Int) < (↑s.length : Int)) = true, (0 : Int) ≤ (↑k : Int) ∧ (↑k : Int) < (↑s.length : Int)] (by kernel_rfl) (by kernel_rfl) (by kernel_rfl) ⟨(by simp; omega), (show (0 : Int) ≤ (↑k : Int) ∧ (↑k : Int) < (↑s.length : Int) from (by omega))⟩ ?_
    refine Wp.cond' (by kernel_rfl) (!seenB (s.getD k (0 : UInt8))) (by kernel_rfl) (fun h0 => ?_) (fun h0 => ?_)
    · have g0 := h0
      simp at g0
      refine Wp.go (mx := true) (fun _ => mixed) [] 100 [] [] (by kernel_rfl) (by kernel_rfl) (by kernel_rfl) trivial ?_
      refine Wp.ret' (by kernel_rfl) ?_
      exact FinQ.pure (rs' := [V1.c (Cell.bool false)]) (by kernel_rfl) (by simp_all; done) (by kernel_rfl)
    · have g0 := h0
      simp at g0
      refine Wp.go (mx := true) (fun _ => mixed) [] 100 [] [inR IntKind.i64 ((↑k : Int) + (1 : Int))] (by kernel_rfl) (by kernel_rfl) (by kernel_rfl) (inR64 (by omega) (by omega)) ?_
      exact Wp.lpK (by kernel_rfl) (again _ (k + 1) (⟨(by assumption), (by simp_all <;> omega)⟩) (by omega) (Ent.of [] (by kernel_rfl) (by kernel_rfl) (by kernel_rfl) trivial))
  · obtain rfl : k = s.length := by omega
    rw [List.drop_length] at hq
    refine Wp.go (mx := true) (fun _ => mixed) [] 100 [false] [decide ((↑s.length : Int) < (↑s.length : Int)) = false] (by kernel_rfl) (by kernel_rfl) (by kernel_rfl) ((show decide ((↑s.length : Int) < (↑s.length : Int)) = false from (by simp; done))) ?_
    refine Wp.ret' (by kernel_rfl) ?_
    exact FinQ.pure (rs' := [V1.c (Cell.bool true)]) (by kernel_rfl) (by simp [*]; done) (by kernel_rfl)
def tokenT (s : List UInt8) : Bool := !(s == []) && s.all tokenB
def foldB (c : UInt8) : UInt8 := if greatB c then c + 32 else c
def foldT (s : List UInt8) : List UInt8 := s.map foldB
def foldN (s : List UInt8) (k : Nat) : List UInt8 := (s.take k).map foldB ++ s.drop k
theorem token_ok (s : List UInt8) (hl : s.length < 4611686018427387904) : Pur Tryz.prog G 192 [.c (.str s)] [.c (.bool (tokenT s))] := by
  refine Pur.of Tryz.func192 (by kernel_rfl) (by kernel_rfl) (by kernel_rfl) ?_
  refine Wp.go (mx := true) (fun _ => mixed) [(1, {cs := [(4, pc (All_tok s (by assumption)))]})] 100 [] [] (by kernel_rfl) (by kernel_rfl) (by kernel_rfl) trivial ?_
  refine Wp.ret' (by kernel_rfl) ?_
  exact FinQ.pure (rs' := [V1.c (Cell.bool (bif !s == [] then s.all tokenB else false))]) (by kernel_rfl) (by simp [tokenT]; done) (by kernel_rfl)
theorem seen_ok (s : List UInt8) (hl : s.length < 4611686018427387904) : Pur Tryz.prog G 194 [.c (.str s)] [.c (.bool (s.all seenB))] := by
  refine Pur.of Tryz.func194 (by kernel_rfl) (by kernel_rfl) (by kernel_rfl) ?_
  refine Wp.go (mx := true) (fun _ => mixed) [(1, {cs := [(1, pc (All_seen s (by assumption)))]})] 100 [] [] (by kernel_rfl) (by kernel_rfl) (by kernel_rfl) trivial ?_
  refine Wp.ret' (by kernel_rfl) ?_
  exact FinQ.pure (rs' := [V1.c (Cell.bool (s.all seenB))]) (by kernel_rfl) rfl (by kernel_rfl)
theorem foldN_len (s : List UInt8) (k : Nat) : (foldN s k).length = s.length := by
  unfold foldN; simp; omega
theorem foldN_at (s : List UInt8) (k : Nat) (h : k < s.length) : (foldN s k).getD k 0 = s.getD k 0 := by
  unfold foldN
  simp only [List.getD, List.getElem?_append]
  rw [if_neg (by simp; omega)]
  simp [Nat.min_eq_left (Nat.le_of_lt h)]
theorem foldN_succ (s : List UInt8) (k : Nat) (h : k < s.length) : foldN s (k + 1) = (foldN s k).set k (foldB (s.getD k 0)) := by
  unfold foldN
  rw [List.take_succ_eq_append_getElem h, List.map_append]
  simp [List.set_append, Nat.min_eq_left (Nat.le_of_lt h), List.getD, h]
  rw [dropS s k h, List.set_cons_zero]
theorem foldN_end (s : List UInt8) : foldN s s.length = foldT s := by simp [foldN, foldT]
theorem great_32 (c : UInt8) (h : greatB c = true) : IntKind.u8.wrap (IntKind.u8.wrap ((c.toNat : Int) - 65) + 97) = ((foldB c).toNat : Int) := by
  have : ∀ c : UInt8, (!(greatB c) || IntKind.u8.wrap (IntKind.u8.wrap ((c.toNat : Int) - 65) + 97) == ((foldB c).toNat : Int)) = true := byte_all _ (by kernel_rfl)
  have := this c
  rw [h] at this
  exact eq_of_beq this
theorem fold_ok (s : List UInt8) (hl : s.length ≤ 140737488355328) : Pur Tryz.prog G 193 [.c (.str s)] [.c (.str (foldT s))] := by
  refine Pur.of Tryz.func193 (by kernel_rfl) (by kernel_rfl) (by kernel_rfl) ?_
  refine Wp.go (mx := true) (fun _ => mixed) [] 100 [] [s.length ≤ 140737488355328] (by kernel_rfl) (by kernel_rfl) (by kernel_rfl) hl ?_
  refine Wp.loopK (by kernel_rfl) (fun (k : Nat) => ⟨[(3, TV.v (V1.c (Cell.row (1 : Nat) (32 : Nat) (0 : Nat) s.length))), (8, TV.v (V1.c (Cell.row (1 : Nat) (32 : Nat) (0 : Nat) s.length))), (9, TV.v (V1.c (Cell.int .i64 (↑s.length : Int)))), (10, TV.v (V1.c (Cell.int .i64 (k : Int))))], [(32, Blk.row 5 (1 : Nat) s.length (bytesF (foldN s k)))], 112⟩) (fun k => k ≤ s.length) (fun k => s.length - k) 0 (Ent.of [] (by kernel_rfl) (by kernel_rfl) (by kernel_rfl) trivial) (Nat.zero_le _) ?_
  intro k L hk again
  rcases Nat.lt_or_ge k s.length with hlt | hge
  · have e1 : EqvD (V1.c (Cell.int .u8 (((foldN s k).getD (0 + k) 0).toNat : Int))) (.c (.int .u8 ((s.getD k 0).toNat : Int))) := eqvD_of (by rw [Nat.zero_add, foldN_at s k hlt])
    have e2 : greatB (s.getD k 0) = true → BlkEqv (.row 5 1 s.length (rowSet (bytesF (foldN s k)) (0 + k) 0 1 [.int .u8 (IntKind.u8.wrap (IntKind.u8.wrap (((s.getD k 0).toNat : Int) - 65) + 97))])) (.row 5 1 s.length (bytesF (foldN s (k + 1)))) := fun h => by
      rw [foldN_succ s k hlt]
      exact bytes_set _ _ (great_32 _ h) (by rw [foldN_len]; exact hlt)
    have e3 : greatB (s.getD k 0) = false → foldN s k = foldN s (k + 1) := fun h => by
      rw [foldN_succ s k hlt, ← foldN_at s k hlt, foldB, foldN_at s k hlt, if_neg (by rw [h]; decide), ← foldN_at s k hlt]
      rw [List.getD_eq_getElem?_getD, List.getElem?_eq_getElem (by rw [foldN_len]; exact hlt)]
      simp
    by_cases hg : greatB (s.getD k 0) = true
    · have e2 := e2 hg
      refine Wp.go (mx := true) (fun _ => mixed) [(4, {fm := [(2, .c (.int .u8 ((s.getD k 0).toNat : Int)))]}), (6, {bs := [(6, Blk.row 5 1 s.length (bytesF (foldN s (k + 1))))]}), (5, {cs := [(1, pc (great_ok (s.getD k (0 : UInt8))))]})] 100 [true, true] [decide ((↑k : Int) < (↑s.length : Int)) = true, (0 : Int) ≤ (↑k : Int) ∧ (↑k : Int) < (↑s.length : Int), (0 : Nat) + k < s.length, EqvD (V1.c (Cell.int .u8 (↑((foldN s k).getD ((0 : Nat) + k) (0 : UInt8)).toNat : Int))) (V1.c (Cell.int .u8 (↑(s.getD k (0 : UInt8)).toNat : Int))), greatB (s.getD k (0 : UInt8)) = true, (0 : Int) ≤ (↑k : Int) ∧ (↑k : Int) < (↑s.length : Int), BlkEqv (Blk.row 5 (1 : Nat) s.length fun (i j : Nat) => if i = (0 : Nat) + k ∧ (0 : Nat) ≤ j ∧ j < (1 : Nat) then nthD (V1.c (Cell.int .u8 (IntKind.u8.wrap (IntKind.u8.wrap ((↑(s.getD k (0 : UInt8)).toNat : Int) - (65 : Int)) + (97 : Int))))).cells (j - (0 : Nat)) else Cell.int .u8 (↑((foldN s k).getD i (0 : UInt8)).toNat : Int)) (Blk.row 5 (1 : Nat) s.length (bytesF (foldN s (k + (1 : Nat))))), (0 : Nat) + k < s.length, inR IntKind.i64 ((↑k : Int) + (1 : Int))] (by kernel_rfl) (by kernel_rfl) (by kernel_rfl) ⟨(by simp; omega), (by omega), (by omega), (by assumption), (by assumption), (by omega), (by assumption), (by omega), inR64 (by omega) (by omega)⟩ ?_
      exact Wp.lpK (by kernel_rfl) (again _ (k + 1) (by assumption) (by omega) (Ent.of [] (by kernel_rfl) (by kernel_rfl) (by kernel_rfl) trivial))
    · have hg : greatB (s.getD k 0) = false := by simpa using hg
      rw [e3 hg] at e1 ⊢
      refine Wp.go (mx := true) (fun _ => mixed) [(4, {fm := [(2, .c (.int .u8 ((s.getD k 0).toNat : Int)))]}), (5, {cs := [(1, pc (great_ok (s.getD k (0 : UInt8))))]})] 100 [true, false] [decide ((↑k : Int) < (↑s.length : Int)) = true, (0 : Int) ≤ (↑k : Int) ∧ (↑k : Int) < (↑s.length : Int), (0 : Nat) + k < s.length, EqvD (V1.c (Cell.int .u8 (↑((foldN s (k + (1 : Nat))).getD ((0 : Nat) + k) (0 : UInt8)).toNat : Int))) (V1.c (Cell.int .u8 (↑(s.getD k (0 : UInt8)).toNat : Int))), greatB (s.getD k (0 : UInt8)) = false, inR IntKind.i64 ((↑k : Int) + (1 : Int))] (by kernel_rfl) (by kernel_rfl) (by kernel_rfl) ⟨(by simp; omega), (by omega), (by omega), (by assumption), (by assumption), inR64 (by omega) (by omega)⟩ ?_
      exact Wp.lpK (by kernel_rfl) (again _ (k + 1) (by assumption) (by omega) (Ent.of [] (by kernel_rfl) (by kernel_rfl) (by kernel_rfl) trivial))
  · obtain rfl : k = s.length := by omega
    have ee : byteL (bytesF (foldN s s.length)) 0 s.length = foldT s := by rw [byteL_F _ (by rw [foldN_len]), foldN_end]
    refine Wp.go (mx := true) (fun _ => mixed) [] 100 [false] [decide ((↑s.length : Int) < (↑s.length : Int)) = false, (0 : Nat) + s.length ≤ s.length, areBytes (bytesF (foldN s s.length)) (0 : Nat) s.length] (by kernel_rfl) (by kernel_rfl) (by kernel_rfl) ⟨(by simp; done), (by omega), areBytes_F _ _ _⟩ ?_
    refine Wp.ret' (by kernel_rfl) ?_
    exact FinQ.pure (rs' := [V1.c (Cell.str (byteL (bytesF (foldN s s.length)) (0 : Nat) s.length))]) (by kernel_rfl) (by simp [*]; done) (by kernel_rfl)
/-! Cut -/
theorem occ_at (s sep : List UInt8) (k : Nat) (hk : k + sep.length ≤ s.length) : Lib.occAt s sep k = (List.drop k (List.take (k + sep.length) s) == sep) := by
  rw [Lib.occAt_iff_take s sep k hk, List.take_drop]
theorem occ_none {s sep : List UInt8} (hs : sep ≠ []) {k : Nat} (hk : ¬ (k + sep.length ≤ s.length)) (hall : ∀ j, j < k → Lib.occAt s sep j = false) : Lib.index s sep = -1 := by
  refine Lib.index_none fun j hj => ?_
  rcases Nat.lt_or_ge j k with h | h
  · exact hall j h
  · cases hq : Lib.occAt s sep j with
    | false => rfl
    | true =>
      rcases Lib.occAt_room hq with h' | h'
      · omega
      · exact (hs h').elim
theorem cut6_ok (s sep : List UInt8) (hl : s.length < 4611686018427387904) (hs : sep ≠ []) (hn : sep.length < 1000) : Pur Tryz.prog G 54 [.c (.str s), .c (.str sep)] [.c (.str (Lib.cut s sep).1), .c (.str (Lib.cut s sep).2.1), .c (.bool (Lib.cut s sep).2.2)] := by
  refine Pur.of Tryz.func54 (by kernel_rfl) (by kernel_rfl) (by kernel_rfl) ?_
  refine Wp.go (mx := true) (fun _ => mixed) [] 100 [] [] (by kernel_rfl) (by kernel_rfl) (by kernel_rfl) trivial ?_
  refine Wp.loopK (by kernel_rfl) (fun (k : Nat) => ⟨[(0, TV.v (V1.c (Cell.str s))), (1, TV.v (V1.c (Cell.str sep))), (7, TV.v (V1.c (Cell.int .i64 (k : Int))))], [], 64⟩) (fun k => k ≤ s.length ∧ ∀ j, j < k → Lib.occAt s sep j = false) (fun k => s.length - k) 0 (Ent.of [] (by kernel_rfl) (by kernel_rfl) (by kernel_rfl) trivial) ⟨Nat.zero_le _, fun _ h => absurd h (Nat.not_lt_zero _)⟩ ?_
  intro k L ⟨hk, hall⟩ again
  have hp : 0 < sep.length := List.length_pos_iff.2 hs
  by_cases hlt : k + sep.length ≤ s.length
  · have ho := occ_at s sep k hlt
    cases hq : Lib.occAt s sep k with
    | true =>
      have hi := Lib.index_first hk hq hall
      have hc : Lib.cut s sep = (s.take k, s.drop (k + sep.length), true) := by
        unfold Lib.cut; rw [hi]; simp
      rw [hc]
      rw [hq] at ho
      have ho := ho.symm
      refine Wp.go (mx := true) (fun _ => mixed) [] 100 [true, true] [inR IntKind.i64 ((↑k : Int) + (↑sep.length : Int)), decide ((↑k : Int) + (↑sep.length : Int) ≤ (↑s.length : Int)) = true, inR IntKind.i64 ((↑k : Int) + (↑sep.length : Int)), (0 : Int) ≤ Int.ofNat k ∧ Int.ofNat k ≤ Int.ofNat (k + sep.length) ∧ Int.ofNat (k + sep.length) ≤ (↑s.length : Int), (List.drop (Int.ofNat k).toNat (List.take (Int.ofNat (k + sep.length)).toNat s) == sep) = true, (0 : Int) ≤ Int.ofNat (0) ∧ Int.ofNat (0) ≤ Int.ofNat k ∧ Int.ofNat k ≤ (↑s.length : Int), inR IntKind.i64 ((↑k : Int) + (↑sep.length : Int)), (0 : Int) ≤ Int.ofNat (k + sep.length) ∧ Int.ofNat (k + sep.length) ≤ Int.ofNat s.length ∧ Int.ofNat s.length ≤ (↑s.length : Int)] (by kernel_rfl) (by kernel_rfl) (by kernel_rfl) ⟨inR64 (by omega) (by omega), (by simp; omega), inR64 (by omega) (by omega), ⟨(by simp; done), ⟨(by simp; omega), (by simp; omega)⟩⟩, (by assumption), ⟨(by decide), ⟨(by simp; done), (by simp; omega)⟩⟩, inR64 (by omega) (by omega), ⟨(by simp; omega), ⟨(by simp; omega), (by simp; done)⟩⟩⟩ ?_
      refine Wp.ret' (by kernel_rfl) ?_
      exact FinQ.pure (rs' := [V1.c (Cell.str (List.drop (0 : Nat) (List.take (Int.ofNat k).toNat s))), V1.c (Cell.str (List.drop (Int.ofNat (k + sep.length)).toNat (List.take (Int.ofNat s.length).toNat s))), V1.c (Cell.bool true)]) (by kernel_rfl) (by simp only [Int.ofNat_eq_natCast, Int.toNat_natCast, List.take_length, List.drop_zero]) (by kernel_rfl)
    | false =>
      have hall' := up1 hall hq
      rw [hq] at ho
      have ho := ho.symm
      refine Wp.go (mx := true) (fun _ => mixed) [] 100 [true, false] [inR IntKind.i64 ((↑k : Int) + (↑sep.length : Int)), decide ((↑k : Int) + (↑sep.length : Int) ≤ (↑s.length : Int)) = true, inR IntKind.i64 ((↑k : Int) + (↑sep.length : Int)), (0 : Int) ≤ Int.ofNat k ∧ Int.ofNat k ≤ Int.ofNat (k + sep.length) ∧ Int.ofNat (k + sep.length) ≤ (↑s.length : Int), (List.drop (Int.ofNat k).toNat (List.take (Int.ofNat (k + sep.length)).toNat s) == sep) = false, inR IntKind.i64 ((↑k : Int) + (1 : Int))] (by kernel_rfl) (by kernel_rfl) (by kernel_rfl) ⟨inR64 (by omega) (by omega), (by simp; omega), inR64 (by omega) (by omega), ⟨(by simp; done), ⟨(by simp; omega), (by simp; omega)⟩⟩, (by assumption), inR64 (by omega) (by omega)⟩ ?_
      exact Wp.lpK (by kernel_rfl) (again _ (k + 1) (⟨(by omega), (by assumption)⟩) (by omega) (Ent.of [] (by kernel_rfl) (by kernel_rfl) (by kernel_rfl) trivial))
  · have hi := occ_none hs hlt hall
    have hc : Lib.cut s sep = (s, [], false) := by
      unfold Lib.cut; rw [hi]; rfl
    rw [hc]
    refine Wp.go (mx := true) (fun _ => mixed) [] 100 [false] [inR IntKind.i64 ((↑k : Int) + (↑sep.length : Int)), decide ((↑k : Int) + (↑sep.length : Int) ≤ (↑s.length : Int)) = false] (by kernel_rfl) (by kernel_rfl) (by kernel_rfl) ⟨inR64 (by omega) (by omega), (show decide ((↑k : Int) + (↑sep.length : Int) ≤ (↑s.length : Int)) = false from (by simp; omega))⟩ ?_
    refine Wp.ret' (by kernel_rfl) ?_
    exact FinQ.pure (rs' := [V1.c (Cell.str s), V1.c (Cell.str []), V1.c (Cell.bool false)]) (by kernel_rfl) rfl (by kernel_rfl)
end Go.Proofs.Tw
end

section
open Go Go.Sv
namespace Go.Proofs.Tw
attribute [local irreducible] Wp FinQ resV Ent Pur Go.Sv.Fn Sat0
set_option maxRecDepth 100000
set_option maxHeartbeats 4000000
variable {G : Nat → Option (List Cell)}

def fldF (l : List FT) : Nat → Nat → Cell := rowF encF .nil l
def fGet (l : List FT) (n : List UInt8) : Option (List UInt8) := (l.find? fun f => f.name == n).map (·.value)
theorem fGet_nil (n : List UInt8) : fGet [] n = none := rfl
theorem fGet_cons (x : FT) (l : List FT) (n : List UInt8) : fGet (x :: l) n = if x.name == n then some x.value else fGet l n := by
  unfold fGet
  rw [List.find?_cons]
  cases x.name == n <;> rfl
theorem drop_cons {α : Type} (l : List α) (k : Nat) (d : α) (h : k < l.length) : l.drop k = l.getD k d :: l.drop (k + 1) := by
  rw [List.getD_eq_getElem?_getD, List.getElem?_eq_getElem h]; exact List.drop_eq_getElem_cons h
theorem get10_ok (l : List FT) (n : List UInt8) (hl : l.length < 4611686018427387904) : Pur Tryz.prog G 146 [.c (.sl 2 l.length (fldF l)), .c (.str n)] [.c (.str ((fGet l n).getD [])), .c (.bool (fGet l n).isSome)] := by
  refine Pur.of Tryz.func146 (by kernel_rfl) (by kernel_rfl) (by kernel_rfl) ?_
  refine Wp.go (mx := true) (fun _ => mixed) [] 100 [] [] (by kernel_rfl) (by kernel_rfl) (by kernel_rfl) trivial ?_
  refine Wp.loopK (by kernel_rfl) (fun (k : Nat) => ⟨[(0, TV.v (V1.c (Cell.sl (2 : Nat) l.length (fldF l)))), (1, TV.v (V1.c (Cell.str n))), (6, .v (.c (.int .i64 (k : Int))))], [], 48⟩) (fun k => k ≤ l.length ∧ fGet l n = fGet (l.drop k) n) (fun k => l.length - k) 0 (Ent.of [] (by kernel_rfl) (by kernel_rfl) (by kernel_rfl) trivial) ⟨Nat.zero_le _, rfl⟩ ?_
  intro k L ⟨hk, hq⟩ again
  rcases Nat.lt_or_ge k l.length with hlt | hge
  · rw [drop_cons l k ⟨[], []⟩ hlt, fGet_cons] at hq
    refine Wp.go (mx := true) (fun _ => mixed) [] 100 [true] [decide ((↑k : Int) < (↑l.length : Int)) = true, (0 : Int) ≤ (↑k : Int) ∧ (↑k : Int) < (↑l.length : Int)] (by kernel_rfl) (by kernel_rfl) (by kernel_rfl) ⟨(by simp; omega), (show (0 : Int) ≤ (↑k : Int) ∧ (↑k : Int) < (↑l.length : Int) from (by omega))⟩ ?_
    refine Wp.cond' (by kernel_rfl) ((l.getD (↑k : Int).toNat FT.nil).name == n) (by kernel_rfl) (fun h0 => ?_) (fun h0 => ?_)
    · have g0 := eq_of_beq h0
      refine Wp.go (mx := true) (fun _ => mixed) [] 100 [] [(0 : Int) ≤ (↑k : Int) ∧ (↑k : Int) < (↑l.length : Int)] (by kernel_rfl) (by kernel_rfl) (by kernel_rfl) ((show (0 : Int) ≤ (↑k : Int) ∧ (↑k : Int) < (↑l.length : Int) from (by omega))) ?_
      refine Wp.ret' (by kernel_rfl) ?_
      exact FinQ.pure (rs' := [V1.c (Cell.str (l.getD (↑k : Int).toNat FT.nil).value), V1.c (Cell.bool true)]) (by kernel_rfl) (by simp_all [fGet]; done) (by kernel_rfl)
    · have g0 := ne_of_beq_false h0
      refine Wp.go (mx := true) (fun _ => mixed) [] 100 [] [inR IntKind.i64 ((↑k : Int) + (1 : Int))] (by kernel_rfl) (by kernel_rfl) (by kernel_rfl) (inR64 (by omega) (by omega)) ?_
      exact Wp.lpK (by kernel_rfl) (again _ (k + 1) (⟨(by assumption), (by simp_all <;> omega)⟩) (by omega) (Ent.of [] (by kernel_rfl) (by kernel_rfl) (by kernel_rfl) trivial))
  · obtain rfl : k = l.length := by omega
    rw [List.drop_length, fGet_nil] at hq
    refine Wp.go (mx := true) (fun _ => mixed) [] 100 [false] [decide ((↑l.length : Int) < (↑l.length : Int)) = false] (by kernel_rfl) (by kernel_rfl) (by kernel_rfl) ((show decide ((↑l.length : Int) < (↑l.length : Int)) = false from (by simp; done))) ?_
    refine Wp.ret' (by kernel_rfl) ?_
    exact FinQ.pure (rs' := [V1.c (Cell.str []), V1.c (Cell.bool false)]) (by kernel_rfl) (by simp [hq]; done) (by kernel_rfl)
theorem has10_ok (l : List FT) (n : List UInt8) (hl : l.length < 4611686018427387904) : Pur Tryz.prog G 101 [.c (.sl 2 l.length (fldF l)), .c (.str n)] [.c (.bool (fGet l n).isSome)] := by
  refine Pur.of Tryz.func101 (by kernel_rfl) (by kernel_rfl) (by kernel_rfl) ?_
  refine Wp.go (mx := true) (fun _ => mixed) [(1, {cs := [(2, pc (get10_ok l n (by assumption)))]})] 100 [] [] (by kernel_rfl) (by kernel_rfl) (by kernel_rfl) trivial ?_
  refine Wp.ret' (by kernel_rfl) ?_
  exact FinQ.pure (rs' := [V1.c (Cell.bool (fGet l n).isSome)]) (by kernel_rfl) rfl (by kernel_rfl)
def names10 : List (List UInt8) := [[97], [98], [99, 111, 100, 101], [115, 116, 97, 116, 101], [120, 32, 121], [195, 169], [61], [38], [126]]
def vals10 : List (List UInt8) := [[], [49], [97, 32, 98], [126, 65, 103, 65, 65, 65, 65, 69, 126], [37], [43], [0], [104, 116, 116, 112, 115, 58, 47, 47, 99, 49, 47, 99, 98]]
def pickT (ss : List (List UInt8)) (ns : List Int) (a : Nat) : List UInt8 := ss.getD (nextV ns a ss.length).toNat []
/-- The fields that a tape gives. -/
def fldsN (ns : List Int) : Nat → Nat → List FT → List FT
  | 0, _, l => l
  | k + 1, a, l => if a < ns.length then fldsN ns k (nextA ns (nextA ns a 9) 8) (if (fGet l (pickT names10 ns a)).isSome then l else l ++ [⟨pickT names10 ns a, pickT vals10 ns (nextA ns a 9)⟩]) else l
def fldsT (ns : List Int) (m : Nat) : List FT := fldsN ns m 0 []
theorem strs_lit (l : List (List UInt8)) {cs : List Cell} (hc : cs = l.map Cell.str) {n : Nat} (hn : n = l.length) : EqvD (.c (.sl 1 n (fun i j => nthD cs (i * 1 + j)))) (.c (.sl 1 l.length (strsF l))) := by
  subst hc hn
  refine EqvD.sl rfl fun i hi j hj => ?_
  obtain rfl : j = 0 := by omega
  simp [strsF, nthD, nth_eq, List.getD, hi]
theorem has10_n (l : List FT) (n : Nat) (s : List UInt8) (hn : n = l.length) (hl : n < 4611686018427387904) : Pur Tryz.prog G 101 [.c (.sl 2 n (fldF l)), .c (.str s)] [.c (.bool (fGet l s).isSome)] := by
  subst hn
  exact has10_ok l s hl
theorem flds_ok (ns : List Int) (m : Nat) (hl : ns.length ≤ 9223372036854775807) (hm : m < 1000) : Pur Tryz.prog G 51 [.c (.sl 1 ns.length (intsF ns)), .c (.int .i64 (m : Int))] [.c (.sl 2 (fldsT ns m).length (fldF (fldsT ns m)))] := by
  refine Pur.of Tryz.func51 (by kernel_rfl) (by kernel_rfl) (by kernel_rfl) ?_
  refine Wp.go (mx := true) (fun _ => mixed) [] 100 [] [] (by kernel_rfl) (by kernel_rfl) (by kernel_rfl) trivial ?_
  refine Wp.loopK (by kernel_rfl) (fun (x : Nat × Nat × Nat × List FT) => ⟨[(1, .v (.c (.int .i64 (m : Int)))), (5, .v (.c (.ptr 48 0))), (6, .v (.c (.row 2 112 0 x.2.2.1))), (7, .v (.c (.int .i64 (x.1 : Int))))], [(48, tapeB ns x.2.1), (112, .row 108 2 x.2.2.1 (fldF x.2.2.2))], 128⟩)
    (fun x => x.1 ≤ m ∧ x.2.2.1 = x.2.2.2.length ∧ x.2.2.1 ≤ x.1 ∧ fldsT ns m = fldsN ns (m - x.1) x.2.1 x.2.2.2) (fun x => m - x.1) (0, 0, 0, []) (Ent.trans (Ent.empT (t := 6) (sz := 2) (e := 108) (f := fldF []) (by decide) (by kernel_rfl) rfl) (Ent.of [] (by kernel_rfl) (by kernel_rfl) (by kernel_rfl) trivial)) ⟨Nat.zero_le _, rfl, Nat.le_refl _, rfl⟩ ?_
  rintro ⟨i, a, n, l⟩ L ⟨hi, hn, hll, hq⟩ again
  simp only at hi hn hll hq
  have hz : m - i = 0 → fldsT ns m = l := fun h => by rw [hq, h]; rfl
  have hs : i < m → fldsT ns m = (if a < ns.length then fldsN ns (m - i - 1) (nextA ns (nextA ns a 9) 8) (if (fGet l (pickT names10 ns a)).isSome then l else l ++ [⟨pickT names10 ns a, pickT vals10 ns (nextA ns a 9)⟩]) else l) := fun h => by
    rw [hq, show m - i = (m - i - 1) + 1 from by omega]; rfl
  rcases Nat.lt_or_ge i m with him | him
  · have hs := hs him
    have hm1 : m - (i + 1) = m - i - 1 := by omega
    by_cases ha : a < ns.length
    · rw [if_pos ha] at hs
      have e1 : EqvD (.c (.sl 1 9 (fun i j => nthD [Cell.str [97], Cell.str [98], Cell.str [99, 111, 100, 101], Cell.str [115, 116, 97, 116, 101], Cell.str [120, 32, 121], Cell.str [195, 169], Cell.str [61], Cell.str [38], Cell.str [126]] (i * 1 + j)))) (.c (.sl 1 names10.length (strsF names10))) := strs_lit names10 rfl rfl
      have e2 : EqvD (.c (.sl 1 8 (fun i j => nthD [Cell.str [], Cell.str [49], Cell.str [97, 32, 98], Cell.str [126, 65, 103, 65, 65, 65, 65, 69, 126], Cell.str [37], Cell.str [43], Cell.str [0], Cell.str [104, 116, 116, 112, 115, 58, 47, 47, 99, 49, 47, 99, 98]] (i * 1 + j)))) (.c (.sl 1 vals10.length (strsF vals10))) := strs_lit vals10 rfl rfl
      cases hg : (fGet l (pickT names10 ns a)).isSome with
      | true =>
        rw [hg, if_pos rfl, ← hm1] at hs
        have hb : (!(fGet l (pickT names10 ns a)).isSome) = false := by rw [hg]; rfl
        clear hz hq hg
        refine Wp.go (mx := true) (fun _ => mixed) [(6, {cs := [(2, cb [48] (pick_ok names10 ns a (by assumption) (by decide))), (5, cb [48] (pick_ok vals10 ns (nextA ns a (↑names10.length : Int)) (by assumption) (by decide)))], fm := [(1, .c (.sl 1 names10.length (strsF names10))), (4, .c (.sl 1 vals10.length (strsF vals10)))]}), (8, {bs := [(3, Blk.row 108 2 (n + 1) (fldF (l ++ [⟨pickT names10 ns a, pickT vals10 ns (nextA ns a 9)⟩])))]}), (4, {grd := [(4, true), (5, true)], cs := [(5, cb [48] (more1_ok ns a))]}), (7, {cs := [(3, lc [112] [Blk.row 108 (2 : Nat) n (fldF l)] [V1.c (Cell.row (2 : Nat) (0 : Nat) (0 : Nat) n), V1.c (Cell.str (names10.getD (nextV ns a (↑names10.length : Int)).toNat []))] (has10_n l n (names10.getD (nextV ns a (↑names10.length : Int)).toNat []) (by assumption) (by omega)) (by kernel_rfl) (by kernel_rfl) (by kernel_rfl) ((show (0 : Nat) + n ≤ n from (by omega))))]})] 100 [true, false] [decide ((↑i : Int) < (↑m : Int)) = true, decide ((↑i : Int) < (↑m : Int)) = true, (bif decide ((↑i : Int) < (↑m : Int)) then decide (a < ns.length) else false) = true, EqvI (V1.c (Cell.sl (1 : Nat) (9 : Nat) fun (i j : Nat) => nthD [Cell.str [(97 : UInt8)], Cell.str [(98 : UInt8)], Cell.str [(99 : UInt8), 111, 100, 101], Cell.str [(115 : UInt8), 116, 97, 116, 101], Cell.str [(120 : UInt8), 32, 121], Cell.str [(195 : UInt8), 169], Cell.str [(61 : UInt8)], Cell.str [(38 : UInt8)], Cell.str [(126 : UInt8)]] (i * (1 : Nat) + j))) (V1.c (Cell.sl (1 : Nat) names10.length (strsF names10))), EqvD (V1.c (Cell.sl (1 : Nat) (9 : Nat) fun (i j : Nat) => nthD [Cell.str [(97 : UInt8)], Cell.str [(98 : UInt8)], Cell.str [(99 : UInt8), 111, 100, 101], Cell.str [(115 : UInt8), 116, 97, 116, 101], Cell.str [(120 : UInt8), 32, 121], Cell.str [(195 : UInt8), 169], Cell.str [(61 : UInt8)], Cell.str [(38 : UInt8)], Cell.str [(126 : UInt8)]] (i * (1 : Nat) + j))) (V1.c (Cell.sl (1 : Nat) names10.length (strsF names10))), EqvI (V1.c (Cell.sl (1 : Nat) (8 : Nat) fun (i j : Nat) => nthD [Cell.str [], Cell.str [(49 : UInt8)], Cell.str [(97 : UInt8), 32, 98], Cell.str [(126 : UInt8), 65, 103, 65, 65, 65, 65, 69, 126], Cell.str [(37 : UInt8)], Cell.str [(43 : UInt8)], Cell.str [(0 : UInt8)], Cell.str [(104 : UInt8), 116, 116, 112, 115, 58, 47, 47, 99, 49, 47, 99, 98]] (i * (1 : Nat) + j))) (V1.c (Cell.sl (1 : Nat) vals10.length (strsF vals10))), EqvD (V1.c (Cell.sl (1 : Nat) (8 : Nat) fun (i j : Nat) => nthD [Cell.str [], Cell.str [(49 : UInt8)], Cell.str [(97 : UInt8), 32, 98], Cell.str [(126 : UInt8), 65, 103, 65, 65, 65, 65, 69, 126], Cell.str [(37 : UInt8)], Cell.str [(43 : UInt8)], Cell.str [(0 : UInt8)], Cell.str [(104 : UInt8), 116, 116, 112, 115, 58, 47, 47, 99, 49, 47, 99, 98]] (i * (1 : Nat) + j))) (V1.c (Cell.sl (1 : Nat) vals10.length (strsF vals10))), (!(fGet l (names10.getD (nextV ns a (↑names10.length : Int)).toNat [])).isSome) = false, inR IntKind.i64 ((↑i : Int) + (1 : Int))] (by kernel_rfl) (by kernel_rfl) (by kernel_rfl) ⟨(by simp; omega), (by simp; omega), (by simp; omega), fun _ _ => trivial, (by assumption), fun _ _ => trivial, (by assumption), (by assumption), inR64 (by omega) (by omega)⟩ ?_
        exact Wp.lpK (by kernel_rfl) (again _ ((i + 1, nextA ns (nextA ns a 9) 8, n, l)) (⟨(by assumption), ⟨(by assumption), ⟨(by simp; omega), (by assumption)⟩⟩⟩) (by omega) (Ent.of [] (by kernel_rfl) (by kernel_rfl) (by kernel_rfl) trivial))
      | false =>
        rw [hg, if_neg (by decide), ← hm1] at hs
        have hb : (!(fGet l (pickT names10 ns a)).isSome) = true := by rw [hg]; rfl
        have e3 : BlkEqv (.row 108 2 (n + 1) (catF n (fldF l) (fun i j => nthD (encF ⟨pickT names10 ns a, pickT vals10 ns (nextA ns a 9)⟩) ((0 + i) * 2 + j)))) (.row 108 2 (n + 1) (fldF (l ++ [⟨pickT names10 ns a, pickT vals10 ns (nextA ns a 9)⟩]))) := enc_app l _ hn
        clear hz hq hg
        refine Wp.go (mx := true) (fun _ => mixed) [(6, {cs := [(2, cb [48] (pick_ok names10 ns a (by assumption) (by decide))), (5, cb [48] (pick_ok vals10 ns (nextA ns a (↑names10.length : Int)) (by assumption) (by decide)))], fm := [(1, .c (.sl 1 names10.length (strsF names10))), (4, .c (.sl 1 vals10.length (strsF vals10)))]}), (8, {bs := [(3, Blk.row 108 2 (n + 1) (fldF (l ++ [⟨pickT names10 ns a, pickT vals10 ns (nextA ns a 9)⟩])))]}), (4, {grd := [(4, true), (5, true)], cs := [(5, cb [48] (more1_ok ns a))]}), (7, {cs := [(3, lc [112] [Blk.row 108 (2 : Nat) n (fldF l)] [V1.c (Cell.row (2 : Nat) (0 : Nat) (0 : Nat) n), V1.c (Cell.str (names10.getD (nextV ns a (↑names10.length : Int)).toNat []))] (has10_n l n (names10.getD (nextV ns a (↑names10.length : Int)).toNat []) (by assumption) (by omega)) (by kernel_rfl) (by kernel_rfl) (by kernel_rfl) ((show (0 : Nat) + n ≤ n from (by omega))))]})] 100 [true, true] [decide ((↑i : Int) < (↑m : Int)) = true, decide ((↑i : Int) < (↑m : Int)) = true, (bif decide ((↑i : Int) < (↑m : Int)) then decide (a < ns.length) else false) = true, EqvI (V1.c (Cell.sl (1 : Nat) (9 : Nat) fun (i j : Nat) => nthD [Cell.str [(97 : UInt8)], Cell.str [(98 : UInt8)], Cell.str [(99 : UInt8), 111, 100, 101], Cell.str [(115 : UInt8), 116, 97, 116, 101], Cell.str [(120 : UInt8), 32, 121], Cell.str [(195 : UInt8), 169], Cell.str [(61 : UInt8)], Cell.str [(38 : UInt8)], Cell.str [(126 : UInt8)]] (i * (1 : Nat) + j))) (V1.c (Cell.sl (1 : Nat) names10.length (strsF names10))), EqvD (V1.c (Cell.sl (1 : Nat) (9 : Nat) fun (i j : Nat) => nthD [Cell.str [(97 : UInt8)], Cell.str [(98 : UInt8)], Cell.str [(99 : UInt8), 111, 100, 101], Cell.str [(115 : UInt8), 116, 97, 116, 101], Cell.str [(120 : UInt8), 32, 121], Cell.str [(195 : UInt8), 169], Cell.str [(61 : UInt8)], Cell.str [(38 : UInt8)], Cell.str [(126 : UInt8)]] (i * (1 : Nat) + j))) (V1.c (Cell.sl (1 : Nat) names10.length (strsF names10))), EqvI (V1.c (Cell.sl (1 : Nat) (8 : Nat) fun (i j : Nat) => nthD [Cell.str [], Cell.str [(49 : UInt8)], Cell.str [(97 : UInt8), 32, 98], Cell.str [(126 : UInt8), 65, 103, 65, 65, 65, 65, 69, 126], Cell.str [(37 : UInt8)], Cell.str [(43 : UInt8)], Cell.str [(0 : UInt8)], Cell.str [(104 : UInt8), 116, 116, 112, 115, 58, 47, 47, 99, 49, 47, 99, 98]] (i * (1 : Nat) + j))) (V1.c (Cell.sl (1 : Nat) vals10.length (strsF vals10))), EqvD (V1.c (Cell.sl (1 : Nat) (8 : Nat) fun (i j : Nat) => nthD [Cell.str [], Cell.str [(49 : UInt8)], Cell.str [(97 : UInt8), 32, 98], Cell.str [(126 : UInt8), 65, 103, 65, 65, 65, 65, 69, 126], Cell.str [(37 : UInt8)], Cell.str [(43 : UInt8)], Cell.str [(0 : UInt8)], Cell.str [(104 : UInt8), 116, 116, 112, 115, 58, 47, 47, 99, 49, 47, 99, 98]] (i * (1 : Nat) + j))) (V1.c (Cell.sl (1 : Nat) vals10.length (strsF vals10))), (!(fGet l (names10.getD (nextV ns a (↑names10.length : Int)).toNat [])).isSome) = true, (n + (1 : Nat)) * (32 : Nat) ≤ (140737488355328 : Nat), BlkEqv (Blk.row 108 (2 : Nat) (n + (1 : Nat)) (catF n (fldF l) fun (i j : Nat) => nthD [Cell.str (names10.getD (nextV ns a (↑names10.length : Int)).toNat []), Cell.str (vals10.getD (nextV ns (nextA ns a (↑names10.length : Int)) (↑vals10.length : Int)).toNat [])] (((0 : Nat) + i) * (2 : Nat) + j))) (Blk.row 108 (2 : Nat) (n + (1 : Nat)) (fldF (l ++ [{ name := pickT names10 ns a, value := pickT vals10 ns (nextA ns a (9 : Int)) }]))), n ≤ n, (0 : Nat) + (1 : Nat) ≤ (1 : Nat), inR IntKind.i64 ((↑i : Int) + (1 : Int))] (by kernel_rfl) (by kernel_rfl) (by kernel_rfl) ⟨(by simp; omega), (by simp; omega), (by simp; omega), fun _ _ => trivial, (by assumption), fun _ _ => trivial, (by assumption), (by assumption), (by omega), (by assumption), (by omega), (by omega), inR64 (by omega) (by omega)⟩ ?_
        exact Wp.lpK (by kernel_rfl) (again _ ((i + 1, nextA ns (nextA ns a 9) 8, n + 1, l ++ [⟨pickT names10 ns a, pickT vals10 ns (nextA ns a 9)⟩])) (⟨(by assumption), ⟨(by simp; omega), ⟨(by simp; omega), (by assumption)⟩⟩⟩) (by omega) (Ent.of [(112, 512)] (by kernel_rfl) (by kernel_rfl) (by kernel_rfl) trivial))
    · rw [if_neg ha] at hs
      refine Wp.ent' (by kernel_rfl) (Ent.pubT (e := 108) (sz := 2) (id := 112) (t := 6) (off := 0) (m := n) (n := n) (f := (fldF l)) (m' := (fldsT ns m).length) (f' := (fldF (fldsT ns m))) (by kernel_rfl) (by kernel_rfl) (by omega) (by rw [hs]; exact hn) (fun i _ j _ => by rw [hs, Nat.zero_add]) rfl) ?_
      refine Wp.go (mx := true) (fun _ => mixed) [(4, {grd := [(4, true), (5, true)], cs := [(5, cb [48] (more1_ok ns a))]})] 100 [false] [decide ((↑i : Int) < (↑m : Int)) = true, decide ((↑i : Int) < (↑m : Int)) = true, (bif decide ((↑i : Int) < (↑m : Int)) then decide (a < ns.length) else false) = false] (by kernel_rfl) (by kernel_rfl) (by kernel_rfl) ⟨(by simp; omega), (by simp; omega), (show (bif decide ((↑i : Int) < (↑m : Int)) then decide (a < ns.length) else false) = false from (by simp; omega))⟩ ?_
      refine Wp.ret' (by kernel_rfl) ?_
      exact FinQ.pure (rs' := [V1.c (Cell.sl (2 : Nat) (fldsT ns m).length (fldF (fldsT ns m)))]) (by kernel_rfl) rfl (by kernel_rfl)
  · have hs := hz (by omega)
    refine Wp.ent' (by kernel_rfl) (Ent.pubT (e := 108) (sz := 2) (id := 112) (t := 6) (off := 0) (m := n) (n := n) (f := (fldF l)) (m' := (fldsT ns m).length) (f' := (fldF (fldsT ns m))) (by kernel_rfl) (by kernel_rfl) (by omega) (by rw [hs]; exact hn) (fun i _ j _ => by rw [hs, Nat.zero_add]) rfl) ?_
    refine Wp.go (mx := true) (fun _ => mixed) [(4, {grd := [(4, false), (5, false), (6, false)], cs := [(5, cb [48] (more1_ok ns a))]})] 100 [false] [decide ((↑i : Int) < (↑m : Int)) = !true, decide ((↑i : Int) < (↑m : Int)) = !true, decide ((↑i : Int) < (↑m : Int)) = false, false = false] (by kernel_rfl) (by kernel_rfl) (by kernel_rfl) ⟨(by simp; omega), (by simp; omega), (by simp; omega), rfl⟩ ?_
    refine Wp.ret' (by kernel_rfl) ?_
    exact FinQ.pure (rs' := [V1.c (Cell.sl (2 : Nat) (fldsT ns m).length (fldF (fldsT ns m)))]) (by kernel_rfl) rfl (by kernel_rfl)
end Go.Proofs.Tw
end

section
open Go Go.Sv
namespace Go.Proofs.Tw
attribute [local irreducible] Wp FinQ resV Ent Pur Go.Sv.Fn Sat0
set_option maxRecDepth 100000
set_option maxHeartbeats 4000000
variable {G : Nat → Option (List Cell)}

/-- An address. -/
structure UT where
  (host path : List UInt8) (query : List FT)
def encU (u : UT) : List Cell := [.str u.host, .str u.path, encH u.query]
theorem flds_i (ns : List Int) (k : Int) (hl : ns.length ≤ 9223372036854775807) (h0 : 0 ≤ k) (hm : k < 1000) : Pur Tryz.prog G 51 [.c (.sl 1 ns.length (intsF ns)), .c (.int .i64 k)] [.c (encH (fldsT ns k.toNat))] := by
  obtain ⟨m, rfl⟩ := Int.eq_ofNat_of_zero_le h0
  exact flds_ok ns m hl (by omega)
def hostsU : List (List UInt8) := [[97, 115], [99, 49], [99, 50], [114, 115], [97, 116], [97, 45, 49, 46, 98], [48]]
def pathsU : List (List UInt8) := [[47], [47, 99, 98], [47, 115, 116, 97, 114, 116], [47, 97, 117, 116, 104, 111, 114, 105, 122, 101], [47, 97, 47, 98, 47, 47], [47, 126, 120, 95, 49, 46, 50, 45, 51]]
/-- The address that a tape gives. -/
def uriT (ns : List Int) : UT := ⟨pickT hostsU ns 0, pickT pathsU ns (nextA ns 0 7), fldsT ns (nextV ns (nextA ns (nextA ns 0 7) 6) 6).toNat⟩
theorem uri_ok (ns : List Int) (hl : ns.length ≤ 9223372036854775807) : Pur Tryz.prog G 10 [.c (.sl 1 ns.length (intsF ns))] [.agg (encU (uriT ns))] := by
  refine Pur.of Tryz.func10 (by kernel_rfl) (by kernel_rfl) (by kernel_rfl) ?_
  have e1 : EqvD (.c (.sl 1 7 (fun i j => nthD [Cell.str [97, 115], Cell.str [99, 49], Cell.str [99, 50], Cell.str [114, 115], Cell.str [97, 116], Cell.str [97, 45, 49, 46, 98], Cell.str [48]] (i * 1 + j)))) (.c (.sl 1 hostsU.length (strsF hostsU))) := strs_lit hostsU rfl rfl
  have e2 : EqvD (.c (.sl 1 6 (fun i j => nthD [Cell.str [47], Cell.str [47, 99, 98], Cell.str [47, 115, 116, 97, 114, 116], Cell.str [47, 97, 117, 116, 104, 111, 114, 105, 122, 101], Cell.str [47, 97, 47, 98, 47, 47], Cell.str [47, 126, 120, 95, 49, 46, 50, 45, 51]] (i * 1 + j)))) (.c (.sl 1 pathsU.length (strsF pathsU))) := strs_lit pathsU rfl rfl
  have h1 : 0 ≤ nextV ns (nextA ns (nextA ns 0 (hostsU.length : Nat)) (pathsU.length : Nat)) 6 ∧ nextV ns (nextA ns (nextA ns 0 (hostsU.length : Nat)) (pathsU.length : Nat)) 6 < 6 := nextV_rng ns _ 6 (by decide)
  refine Wp.go (mx := true) (fun _ => mixed) [(2, {cs := [(2, cb [48] (pick_ok hostsU ns (0) (by assumption) (by decide))), (5, cb [48] (pick_ok pathsU ns (nextA ns (0) (↑hostsU.length : Int)) (by assumption) (by decide))), (8, cb [48] (next_ok ns (nextA ns (nextA ns (0) (↑hostsU.length : Int)) (↑pathsU.length : Int)) (6 : Int) (by assumption) (by omega))), (9, pc (flds_i ns (nextV ns (nextA ns (nextA ns (0) (↑hostsU.length : Int)) (↑pathsU.length : Int)) (6 : Int)) (by assumption) (by omega) (by omega)))], fm := [(1, .c (.sl 1 hostsU.length (strsF hostsU))), (4, .c (.sl 1 pathsU.length (strsF pathsU)))]})] 100 [] [EqvI (V1.c (Cell.sl (1 : Nat) (7 : Nat) fun (i j : Nat) => nthD [Cell.str [(97 : UInt8), 115], Cell.str [(99 : UInt8), 49], Cell.str [(99 : UInt8), 50], Cell.str [(114 : UInt8), 115], Cell.str [(97 : UInt8), 116], Cell.str [(97 : UInt8), 45, 49, 46, 98], Cell.str [(48 : UInt8)]] (i * (1 : Nat) + j))) (V1.c (Cell.sl (1 : Nat) hostsU.length (strsF hostsU))), EqvD (V1.c (Cell.sl (1 : Nat) (7 : Nat) fun (i j : Nat) => nthD [Cell.str [(97 : UInt8), 115], Cell.str [(99 : UInt8), 49], Cell.str [(99 : UInt8), 50], Cell.str [(114 : UInt8), 115], Cell.str [(97 : UInt8), 116], Cell.str [(97 : UInt8), 45, 49, 46, 98], Cell.str [(48 : UInt8)]] (i * (1 : Nat) + j))) (V1.c (Cell.sl (1 : Nat) hostsU.length (strsF hostsU))), EqvI (V1.c (Cell.sl (1 : Nat) (6 : Nat) fun (i j : Nat) => nthD [Cell.str [(47 : UInt8)], Cell.str [(47 : UInt8), 99, 98], Cell.str [(47 : UInt8), 115, 116, 97, 114, 116], Cell.str [(47 : UInt8), 97, 117, 116, 104, 111, 114, 105, 122, 101], Cell.str [(47 : UInt8), 97, 47, 98, 47, 47], Cell.str [(47 : UInt8), 126, 120, 95, 49, 46, 50, 45, 51]] (i * (1 : Nat) + j))) (V1.c (Cell.sl (1 : Nat) pathsU.length (strsF pathsU))), EqvD (V1.c (Cell.sl (1 : Nat) (6 : Nat) fun (i j : Nat) => nthD [Cell.str [(47 : UInt8)], Cell.str [(47 : UInt8), 99, 98], Cell.str [(47 : UInt8), 115, 116, 97, 114, 116], Cell.str [(47 : UInt8), 97, 117, 116, 104, 111, 114, 105, 122, 101], Cell.str [(47 : UInt8), 97, 47, 98, 47, 47], Cell.str [(47 : UInt8), 126, 120, 95, 49, 46, 50, 45, 51]] (i * (1 : Nat) + j))) (V1.c (Cell.sl (1 : Nat) pathsU.length (strsF pathsU)))] (by kernel_rfl) (by kernel_rfl) (by kernel_rfl) ⟨fun _ _ => trivial, (by assumption), fun _ _ => trivial, (show EqvD (V1.c (Cell.sl (1 : Nat) (6 : Nat) fun (i j : Nat) => nthD [Cell.str [(47 : UInt8)], Cell.str [(47 : UInt8), 99, 98], Cell.str [(47 : UInt8), 115, 116, 97, 114, 116], Cell.str [(47 : UInt8), 97, 117, 116, 104, 111, 114, 105, 122, 101], Cell.str [(47 : UInt8), 97, 47, 98, 47, 47], Cell.str [(47 : UInt8), 126, 120, 95, 49, 46, 50, 45, 51]] (i * (1 : Nat) + j))) (V1.c (Cell.sl (1 : Nat) pathsU.length (strsF pathsU))) from (by assumption))⟩ ?_
  refine Wp.ret' (by kernel_rfl) ?_
  exact FinQ.pure (rs' := [V1.agg [Cell.str (hostsU.getD (nextV ns (0) (↑hostsU.length : Int)).toNat []), Cell.str (pathsU.getD (nextV ns (nextA ns (0) (↑hostsU.length : Int)) (↑pathsU.length : Int)).toNat []), Cell.sl (2 : Nat) (fldsT ns (nextV ns (nextA ns (nextA ns (0) (↑hostsU.length : Int)) (↑pathsU.length : Int)) (6 : Int)).toNat).length fun (i j : Nat) => nthD [Cell.str ((fldsT ns (nextV ns (nextA ns (nextA ns (0) (↑hostsU.length : Int)) (↑pathsU.length : Int)) (6 : Int)).toNat).getD i FT.nil).name, Cell.str ((fldsT ns (nextV ns (nextA ns (nextA ns (0) (↑hostsU.length : Int)) (↑pathsU.length : Int)) (6 : Int)).toNat).getD i FT.nil).value] j]]) (by kernel_rfl) rfl (by kernel_rfl)
def hostB (c : UInt8) : Bool := smallB c || digitB c || c == 45 || c == 46
def pathB (c : UInt8) : Bool := plainB c || c == 47
def hostT (s : List UInt8) : Bool := s.all hostB && (decide (1 ≤ s.length) && decide (s.length ≤ 64))
def pathT (s : List UInt8) : Bool := s.all pathB && (decide (1 ≤ s.length) && s.getD 0 0 == 47)
theorem host11_ok (s : List UInt8) (hl : s.length < 4611686018427387904) : Pur Tryz.prog G 31 [.c (.str s)] [.c (.bool (hostT s))] := by
  refine Pur.of Tryz.func31 (by kernel_rfl) (by kernel_rfl) (by kernel_rfl) ?_
  refine Wp.go (mx := true) (fun _ => mixed) [] 100 [] [] (by kernel_rfl) (by kernel_rfl) (by kernel_rfl) trivial ?_
  refine Wp.loopK (by kernel_rfl) (fun (k : Nat) => ⟨[(0, TV.v (V1.c (Cell.str s))), (3, TV.v (V1.c (Cell.int .i64 (k : Int))))], [], 32⟩) (fun k => k ≤ s.length ∧ s.all hostB = (s.drop k).all hostB) (fun k => s.length - k) 0 (Ent.of [] (by kernel_rfl) (by kernel_rfl) (by kernel_rfl) trivial) ⟨Nat.zero_le _, rfl⟩ ?_
  intro k L ⟨hk, hq⟩ again
  rcases Nat.lt_or_ge k s.length with hlt | hge
  · rw [dropS s k hlt, List.all_cons] at hq
    refine Wp.go (mx := true) (fun _ => mixed) [(4, {cs := [(15, pc (digit6_ok (s.getD k (0 : UInt8))))]})] 100 [true] [decide ((↑k : Int) < (↑s.length : Int)) = true, (0 : Int) ≤ (↑k : Int) ∧ (↑k : Int) < (↑s.length : Int), decide ((↑(s.getD k (0 : UInt8)).toNat : Int) ≥ (97 : Int)) = true → (0 : Int) ≤ (↑k : Int) ∧ (↑k : Int) < (↑s.length : Int), (!bif decide ((↑(s.getD k (0 : UInt8)).toNat : Int) ≥ (97 : Int)) then decide ((↑(s.getD k (0 : UInt8)).toNat : Int) ≤ (122 : Int)) else false) = true → (0 : Int) ≤ (↑k : Int) ∧ (↑k : Int) < (↑s.length : Int), (bif !bif decide ((↑(s.getD k (0 : UInt8)).toNat : Int) ≥ (97 : Int)) then decide ((↑(s.getD k (0 : UInt8)).toNat : Int) ≤ (122 : Int)) else false then !digitB (s.getD k (0 : UInt8)) else false) = true → (0 : Int) ≤ (↑k : Int) ∧ (↑k : Int) < (↑s.length : Int), (bif bif !bif decide ((↑(s.getD k (0 : UInt8)).toNat : Int) ≥ (97 : Int)) then decide ((↑(s.getD k (0 : UInt8)).toNat : Int) ≤ (122 : Int)) else false then !digitB (s.getD k (0 : UInt8)) else false then (↑(s.getD k (0 : UInt8)).toNat : Int) != (45 : Int) else false) = true → (0 : Int) ≤ (↑k : Int) ∧ (↑k : Int) < (↑s.length : Int)] (by kernel_rfl) (by kernel_rfl) (by kernel_rfl) ⟨(by simp; omega), (by omega), (by omega), (by omega), (by omega), (show (bif bif !bif decide ((↑(s.getD k (0 : UInt8)).toNat : Int) ≥ (97 : Int)) then decide ((↑(s.getD k (0 : UInt8)).toNat : Int) ≤ (122 : Int)) else false then !digitB (s.getD k (0 : UInt8)) else false then (↑(s.getD k (0 : UInt8)).toNat : Int) != (45 : Int) else false) = true → (0 : Int) ≤ (↑k : Int) ∧ (↑k : Int) < (↑s.length : Int) from (by omega))⟩ ?_
    have hb : (bif bif bif !bif decide ((↑(s.getD k (0 : UInt8)).toNat : Int) ≥ (97 : Int)) then decide ((↑(s.getD k (0 : UInt8)).toNat : Int) ≤ (122 : Int)) else false then !digitB (s.getD k (0 : UInt8)) else false then (↑(s.getD k (0 : UInt8)).toNat : Int) != (45 : Int) else false then (↑(s.getD k (0 : UInt8)).toNat : Int) != (46 : Int) else false) = !hostB (s.getD k (0 : UInt8)) := by_fun (fun c => bif bif bif !bif decide ((↑c.toNat : Int) ≥ (97 : Int)) then decide ((↑c.toNat : Int) ≤ (122 : Int)) else false then !digitB c else false then (↑c.toNat : Int) != (45 : Int) else false then (↑c.toNat : Int) != (46 : Int) else false) (fun c => !hostB c) (by kernel_rfl) (s.getD k (0 : UInt8))
    refine Wp.cond' (by kernel_rfl) (bif bif bif !bif decide ((↑(s.getD k (0 : UInt8)).toNat : Int) ≥ (97 : Int)) then decide ((↑(s.getD k (0 : UInt8)).toNat : Int) ≤ (122 : Int)) else false then !digitB (s.getD k (0 : UInt8)) else false then (↑(s.getD k (0 : UInt8)).toNat : Int) != (45 : Int) else false then (↑(s.getD k (0 : UInt8)).toNat : Int) != (46 : Int) else false) (by kernel_rfl) (fun h0 => ?_) (fun h0 => ?_)
    · have g0 : hostB (s.getD k (0 : UInt8)) = false := by rw [hb] at h0; simpa using h0
      refine Wp.go (mx := true) (fun _ => mixed) [] 100 [] [] (by kernel_rfl) (by kernel_rfl) (by kernel_rfl) trivial ?_
      refine Wp.ret' (by kernel_rfl) ?_
      exact FinQ.pure (rs' := [V1.c (Cell.bool false)]) (by kernel_rfl) (by first | (rw [hostT, hq, g0]; rfl) | (rw [pathT, hq, g0]; rfl)) (by kernel_rfl)
    · have g0 : hostB (s.getD k (0 : UInt8)) = true := by rw [hb] at h0; simpa using h0
      refine Wp.go (mx := true) (fun _ => mixed) [] 100 [] [inR IntKind.i64 ((↑k : Int) + (1 : Int))] (by kernel_rfl) (by kernel_rfl) (by kernel_rfl) (inR64 (by omega) (by omega)) ?_
      exact Wp.lpK (by kernel_rfl) (again _ (k + 1) ⟨hlt, by rw [hq, g0]; rfl⟩ (by omega) (Ent.of [] (by kernel_rfl) (by kernel_rfl) (by kernel_rfl) trivial))
  · obtain rfl : k = s.length := by omega
    rw [List.drop_length] at hq
    refine Wp.go (mx := true) (fun _ => mixed) [] 100 [false] [decide ((↑s.length : Int) < (↑s.length : Int)) = false] (by kernel_rfl) (by kernel_rfl) (by kernel_rfl) ((show decide ((↑s.length : Int) < (↑s.length : Int)) = false from (by simp; done))) ?_
    refine Wp.ret' (by kernel_rfl) ?_
    exact FinQ.pure (rs' := [V1.c (Cell.bool (bif decide ((↑s.length : Int) ≥ (1 : Int)) then decide ((↑s.length : Int) ≤ (64 : Int)) else false))]) (by kernel_rfl) (by rw [hostT, hq, List.all_nil, Bool.true_and]; exact congrArg (fun b => [V1.c (Cell.bool b)]) (by rw [Bool.cond_false_right]; congr 1 <;> (apply decide_eq_decide.2; omega))) (by kernel_rfl)
theorem path11_ok (s : List UInt8) (hl : s.length < 4611686018427387904) : Pur Tryz.prog G 102 [.c (.str s)] [.c (.bool (pathT s))] := by
  refine Pur.of Tryz.func102 (by kernel_rfl) (by kernel_rfl) (by kernel_rfl) ?_
  refine Wp.go (mx := true) (fun _ => mixed) [] 100 [] [] (by kernel_rfl) (by kernel_rfl) (by kernel_rfl) trivial ?_
  refine Wp.loopK (by kernel_rfl) (fun (k : Nat) => ⟨[(0, TV.v (V1.c (Cell.str s))), (3, TV.v (V1.c (Cell.int .i64 (k : Int))))], [], 32⟩) (fun k => k ≤ s.length ∧ s.all pathB = (s.drop k).all pathB) (fun k => s.length - k) 0 (Ent.of [] (by kernel_rfl) (by kernel_rfl) (by kernel_rfl) trivial) ⟨Nat.zero_le _, rfl⟩ ?_
  intro k L ⟨hk, hq⟩ again
  rcases Nat.lt_or_ge k s.length with hlt | hge
  · rw [dropS s k hlt, List.all_cons] at hq
    refine Wp.go (mx := true) (fun _ => mixed) [(4, {cs := [(3, pc (plain6_ok (s.getD k (0 : UInt8))))]})] 100 [true] [decide ((↑k : Int) < (↑s.length : Int)) = true, (0 : Int) ≤ (↑k : Int) ∧ (↑k : Int) < (↑s.length : Int), (!plainB (s.getD k (0 : UInt8))) = true → (0 : Int) ≤ (↑k : Int) ∧ (↑k : Int) < (↑s.length : Int)] (by kernel_rfl) (by kernel_rfl) (by kernel_rfl) ⟨(by simp; omega), (by omega), (show (!plainB (s.getD k (0 : UInt8))) = true → (0 : Int) ≤ (↑k : Int) ∧ (↑k : Int) < (↑s.length : Int) from (by omega))⟩ ?_
    have hb : (bif !plainB (s.getD k (0 : UInt8)) then (↑(s.getD k (0 : UInt8)).toNat : Int) != (47 : Int) else false) = !pathB (s.getD k (0 : UInt8)) := by_fun (fun c => bif !plainB c then (↑c.toNat : Int) != (47 : Int) else false) (fun c => !pathB c) (by kernel_rfl) (s.getD k (0 : UInt8))
    refine Wp.cond' (by kernel_rfl) (bif !plainB (s.getD k (0 : UInt8)) then (↑(s.getD k (0 : UInt8)).toNat : Int) != (47 : Int) else false) (by kernel_rfl) (fun h0 => ?_) (fun h0 => ?_)
    · have g0 : pathB (s.getD k (0 : UInt8)) = false := by rw [hb] at h0; simpa using h0
      refine Wp.go (mx := true) (fun _ => mixed) [] 100 [] [] (by kernel_rfl) (by kernel_rfl) (by kernel_rfl) trivial ?_
      refine Wp.ret' (by kernel_rfl) ?_
      exact FinQ.pure (rs' := [V1.c (Cell.bool false)]) (by kernel_rfl) (by first | (rw [hostT, hq, g0]; rfl) | (rw [pathT, hq, g0]; rfl)) (by kernel_rfl)
    · have g0 : pathB (s.getD k (0 : UInt8)) = true := by rw [hb] at h0; simpa using h0
      refine Wp.go (mx := true) (fun _ => mixed) [] 100 [] [inR IntKind.i64 ((↑k : Int) + (1 : Int))] (by kernel_rfl) (by kernel_rfl) (by kernel_rfl) (inR64 (by omega) (by omega)) ?_
      exact Wp.lpK (by kernel_rfl) (again _ (k + 1) ⟨hlt, by rw [hq, g0]; rfl⟩ (by omega) (Ent.of [] (by kernel_rfl) (by kernel_rfl) (by kernel_rfl) trivial))
  · obtain rfl : k = s.length := by omega
    rw [List.drop_length] at hq
    refine Wp.go (mx := true) (fun _ => mixed) [] 100 [false] [decide ((↑s.length : Int) < (↑s.length : Int)) = false, decide ((↑s.length : Int) ≥ (1 : Int)) = true → (0 : Int) ≤ (0 : Int) ∧ (0 : Int) < (↑s.length : Int)] (by kernel_rfl) (by kernel_rfl) (by kernel_rfl) ⟨(by simp; done), (show decide ((↑s.length : Int) ≥ (1 : Int)) = true → (0 : Int) ≤ (0 : Int) ∧ (0 : Int) < (↑s.length : Int) from (by simp; omega))⟩ ?_
    refine Wp.ret' (by kernel_rfl) ?_
    exact FinQ.pure (rs' := [V1.c (Cell.bool (bif decide ((↑s.length : Int) ≥ (1 : Int)) then (↑(s.getD (0 : Nat) (0 : UInt8)).toNat : Int) == (47 : Int) else false))]) (by kernel_rfl) (by rw [pathT, hq, List.all_nil, Bool.true_and]; exact congrArg (fun b => [V1.c (Cell.bool b)]) (by rw [Bool.cond_false_right, show (((s.getD 0 0).toNat : Int) == 47) = (s.getD 0 0 == 47) from byte_eq (by decide)]; congr 1; apply decide_eq_decide.2; omega)) (by kernel_rfl)
theorem parse10_nil : Pur Tryz.prog G 103 [.c (.str [])] [.c .nilsl, .c (.int .i64 0)] := by
  refine Pur.of Tryz.func103 (by kernel_rfl) (by kernel_rfl) (by kernel_rfl) ?_
  refine Wp.go (mx := true) (fun _ => mixed) [] 100 [true] [(([] : List UInt8) == []) = true] (by kernel_rfl) (by kernel_rfl) (by kernel_rfl) rfl ?_
  refine Wp.ret' (by kernel_rfl) ?_
  exact FinQ.pure (rs' := [V1.c Cell.nilsl, V1.c (Cell.int .i64 (0 : Int))]) (by kernel_rfl) rfl (by kernel_rfl)
/-- An address without a query. -/
theorem split11_nq (s : List UInt8) (hl : s.length ≤ 1024) (hc : Lib.cut s [63] = (s, [], false)) (hp : pathT s = true) : Pur Tryz.prog G 55 [.c (.str s)] [.c (.str s), .c .nilsl, .c (.int .i64 0)] := by
  refine Pur.of Tryz.func55 (by kernel_rfl) (by kernel_rfl) (by kernel_rfl) ?_
  have c1 := cut6_ok (G := G) s [63] (by omega) (by decide) (by decide)
  rw [hc] at c1
  have c2 := path11_ok (G := G) s (by omega)
  rw [hp] at c2
  refine Wp.go (mx := true) (fun _ => mixed) [(3, {cs := [(1, pc c1)]}), (4, {cs := [(1, pc c2)]}), (6, {cs := [(1, pc parse10_nil)]})] 100 [false, false, false] [decide ((↑s.length : Int) > (1024 : Int)) = false, (bif !true then true else bif false then ([] : List UInt8) == [] else false) = false, ((0 : Int) != (0 : Int)) = false] (by kernel_rfl) (by kernel_rfl) (by kernel_rfl) ⟨(by simp; omega), rfl, rfl⟩ ?_
  refine Wp.ret' (by kernel_rfl) ?_
  exact FinQ.pure (rs' := [V1.c (Cell.str s), V1.c Cell.nilsl, V1.c (Cell.int .i64 (0 : Int))]) (by kernel_rfl) rfl (by kernel_rfl)
theorem parse11_nq (s h r : List UInt8) (hl : s.length ≤ 1024) (h8 : 8 ≤ s.length) (ht : s.take 8 = [104, 116, 116, 112, 115, 58, 47, 47]) (hc : Lib.cut (s.drop 8) [47] = (h, r, true)) (hh : hostT h = true) (hr : Lib.cut (47 :: r) [63] = (47 :: r, [], false)) (hp : pathT (47 :: r) = true) (hlr : (47 :: r).length ≤ 1024) (hlh : h.length ≤ 64) :
    Pur Tryz.prog G 13 [.c (.str s)] [.agg [.str h, .str (47 :: r), .nilsl], .c (.int .i64 0)] := by
  refine Pur.of Tryz.func13 (by kernel_rfl) (by kernel_rfl) (by kernel_rfl) ?_
  have c1 := cut6_ok (G := G) ((s.take s.length).drop 8) [47] (by simp; omega) (by decide) (by decide)
  rw [List.take_length, hc] at c1
  rw [show s.drop 8 = (s.take s.length).drop 8 from by rw [List.take_length]] at c1
  have c2 := host11_ok (G := G) h (by omega)
  rw [hh] at c2
  have c3 := split11_nq (G := G) (47 :: r) hlr hr hp
  refine Wp.go (mx := true) (fun _ => mixed) [(6, {cs := [(3, pc c1)]}), (7, {cs := [(4, pc c2)]}), (9, {cs := [(2, pc c3)]})] 100 [false, false, false, false] [decide ((↑s.length : Int) > (1024 : Int)) = false, decide ((↑s.length : Int) < (8 : Int)) = false → (0 : Int) ≤ Int.ofNat (0) ∧ Int.ofNat (0) ≤ Int.ofNat (8) ∧ Int.ofNat (8) ≤ (↑s.length : Int), (bif decide ((↑s.length : Int) < (8 : Int)) then true else !List.drop (0 : Nat) (List.take (8 : Nat) s) == [(104 : UInt8), 116, 116, 112, 115, 58, 47, 47]) = false, (0 : Int) ≤ Int.ofNat (8) ∧ Int.ofNat (8) ≤ Int.ofNat s.length ∧ Int.ofNat s.length ≤ (↑s.length : Int), (bif !true then true else !true) = false, (1 : Nat) + r.length ≤ (9223372036854775807 : Nat), ((0 : Int) != (0 : Int)) = false] (by kernel_rfl) (by kernel_rfl) (by kernel_rfl) ⟨(by simp; omega), (by simp; done), (by simp_all <;> omega), ⟨(by decide), ⟨(by simp; omega), (by simp; done)⟩⟩, rfl, (by simp_all <;> omega), rfl⟩ ?_
  refine Wp.ret' (by kernel_rfl) ?_
  exact FinQ.pure (rs' := [V1.agg [Cell.str h, Cell.str ((47 : UInt8) :: r), Cell.nilsl], V1.c (Cell.int .i64 (0 : Int))]) (by kernel_rfl) rfl (by kernel_rfl)
end Go.Proofs.Tw
end

section
open Go Go.Sv
namespace Go.Proofs.Tw
attribute [local irreducible] Wp FinQ resV Ent Pur Go.Sv.Fn Sat0
set_option maxRecDepth 100000
set_option maxHeartbeats 4000000

/-- A builder's first text. -/
theorem ws_a {G : Nat → Option (List Cell)} (s : List UInt8) (hm : s.length ≤ 140737488355328) : FnB Tryz.prog G 152 [.box 186 [.nilptr, .nilsl]] [.c (.ptr 0 0), .c (.str s)] [.c (.int .i64 s.length), .c .nilif]
    [(0, .box 186 [.ptr 0 0, .row 1 1 0 (0 + s.length)]), (1, .row 5 1 (0 + s.length) (bytesF s))] := by
  refine Fn.of' Tryz.func152 (by kernel_rfl) (by kernel_rfl) (by kernel_rfl) (by kernel_rfl) trivial ?_
  refine Wp.go (mx := true) (fun _ => mixed) [(1, {cs := [(1, cb [0] cc_a)]}), (2, {bs := [(6, .row 5 1 (0 + s.length) (bytesF s))]})] 100 [] [(0 + s.length) * 1 ≤ 140737488355328, BlkEqv (.row 5 1 (0 + s.length) (catF 0 (fun _ _ => .nilif) (bytesF s))) (.row 5 1 (0 + s.length) (bytesF s))] (by kernel_rfl) (by kernel_rfl) (by kernel_rfl) ⟨by omega, ?_⟩ ?_
  · refine BlkEqv.row_ext rfl fun i hi j hj => ?_
    unfold catF
    rw [if_neg (by omega), Nat.sub_zero]
  refine Wp.ret' (by kernel_rfl) ?_
  exact FinQ.blk [161] (by kernel_rfl) (by kernel_rfl) (by kernel_rfl) (by kernel_rfl) (by kernel_rfl) trivial
theorem itoa_ok (n : Int) (h0 : -9223372036854775808 ≤ n) (h1 : n ≤ 9223372036854775807) : Pur Tryz.prog Gd 108 [.c (.int .i64 n)] [.c (.str (Lib.itoa n))] := lib_Itoa 2 (by kernel_rfl) rfl n h0 h1
/-- A message: its first line, its fields, its body. -/
structure MT where
  (first : List UInt8) (head : List FT) (body : List UInt8)
def encM (m : MT) : List Cell := [.str m.first, encH m.head, .str m.body]
def seenL (l : List (List UInt8)) : List (List UInt8 × V1) := l.map fun s => (s, .c (.bool true))
theorem seenL_get (l : List (List UInt8)) (s : List UInt8) : mget (seenL l) s (.c (.bool false)) = .c (.bool (l.contains s)) := by
  have := seen_get l l.length s
  rwa [seenM, List.take_length] at this
theorem seenL_set (l : List (List UInt8)) (s : List UInt8) (h : l.contains s = false) : mset (seenL l) s (.c (.bool true)) = seenL (l ++ [s]) := by
  have := seen_set (l ++ [s]) l.length (by simp) (by simpa using h)
  rw [seenM, seenM, List.take_left, show l.length + 1 = (l ++ [s]).length from by simp, List.take_length] at this
  simpa [seenL, List.getD] using this
def fOk (seen : List (List UInt8)) (f : FT) : Bool := !(bif bif bif !(tokenT f.name) then true else !(foldT f.name == f.name) then true else seen.contains f.name then true else !(f.value.all seenB))
def fieldsOk : List (List UInt8) → List FT → Bool
  | _, [] => true
  | seen, f :: r => fOk seen f && fieldsOk (seen ++ [f.name]) r
def namesF (l : List FT) (k : Nat) : List (List UInt8) := [99, 111, 110, 116, 101, 110, 116, 45, 108, 101, 110, 103, 116, 104] :: (l.take k).map (·.name)
def roomT (m : MT) : Int := if m.body == [] then 24 else 23
def fieldedT (m : MT) : Bool := fieldsOk [[99, 111, 110, 116, 101, 110, 116, 45, 108, 101, 110, 103, 116, 104]] m.head && decide ((m.head.length : Int) ≤ roomT m)
theorem namesF_succ (l : List FT) (k : Nat) (h : k < l.length) : namesF l (k + 1) = namesF l k ++ [(l.getD k .nil).name] := by
  unfold namesF
  rw [List.take_succ_eq_append_getElem h, List.map_append, List.getD_eq_getElem?_getD, List.getElem?_eq_getElem h]
  rfl
theorem fielded_ok (m : MT) (hn : m.head.length < 4611686018427387904) (hs : ∀ f ∈ m.head, f.name.length ≤ 140737488355328 ∧ f.value.length ≤ 140737488355328) : Pur Tryz.prog Gd 150 [.agg (encM m)] [.c (.bool (fieldedT m))] := by
  refine Pur.of Tryz.func150 (by kernel_rfl) (by kernel_rfl) (by kernel_rfl) ?_
  cases hb : m.body == [] with
  | true =>
    have hb' : (!(m.body == [])) = false := by rw [hb]; rfl
    have hr : roomT m = 24 := by unfold roomT; rw [if_pos hb]
    refine Wp.go (mx := true) (fun _ => mixed) [] 100 [false] [(!m.body == []) = false] (by kernel_rfl) (by kernel_rfl) (by kernel_rfl) hb' ?_
    refine Wp.loopK (by kernel_rfl) (fun (k : Nat) => ⟨[(1, TV.v (V1.c (Cell.ptr 0 0))), (3, TV.v (V1.c (Cell.int .i64 (24 : Int)))), (4, TV.v (V1.c (Cell.map 32))), (15, TV.v (V1.c (encH m.head))), (16, TV.v (V1.c (Cell.int .i64 (m.head.length : Int)))), (17, TV.v (V1.c (Cell.int .i64 (k : Int))))], [(0, Blk.box 102 (encM m)), (32, Blk.ob (Ob.ms (seenL (namesF m.head k))))], 224⟩) (fun k => k ≤ m.head.length ∧ fieldsOk [[99, 111, 110, 116, 101, 110, 116, 45, 108, 101, 110, 103, 116, 104]] m.head = fieldsOk (namesF m.head k) (m.head.drop k)) (fun k => m.head.length - k) 0 (Ent.of [] (by kernel_rfl) (by kernel_rfl) (by kernel_rfl) trivial) ⟨Nat.zero_le _, rfl⟩ ?_
    intro k L ⟨hk, hq⟩ again
    rcases Nat.lt_or_ge k m.head.length with hlt | hge
    · rw [drop_cons m.head k .nil hlt, fieldsOk] at hq
      have hm : m.head.getD k .nil ∈ m.head := by simp [List.getD, hlt]
      have hs1 := (hs _ hm).1
      have hs2 := (hs _ hm).2
      have e0 : EqvD (mget (seenL (namesF m.head k)) (m.head.getD k .nil).name (.c (.bool false))) (.c (.bool ((namesF m.head k).contains (m.head.getD k .nil).name))) := eqvD_of (seenL_get _ _)
      cases hf : fOk (namesF m.head k) (m.head.getD k .nil) with
      | false =>
        rw [hf, Bool.false_and] at hq
        have hb : fieldedT m = false := by unfold fieldedT; rw [hq]; rfl
        rw [hb]
        have ht : (bif bif bif !(tokenT (m.head.getD k .nil).name) then true else !(foldT (m.head.getD k .nil).name == (m.head.getD k .nil).name) then true else (namesF m.head k).contains (m.head.getD k .nil).name then true else !((m.head.getD k .nil).value.all seenB)) = true := by unfold fOk at hf; rw [Bool.not_eq_false'] at hf; exact hf
        refine Wp.go (mx := true) (fun _ => mixed) [(7, {cs := [(2, pc (token_ok ((m.head.getD k FT.nil).name) (by omega))), (7, pc (fold_ok ((m.head.getD k FT.nil).name) (by assumption))), (21, pc (seen_ok ((m.head.getD k FT.nil).value) (by omega)))], fm := [(16, .c (.bool ((namesF m.head k).contains (m.head.getD k .nil).name)))]})] 100 [true, true] [decide ((↑k : Int) < (↑m.head.length : Int)) = true, (0 : Int) ≤ (↑k : Int) ∧ (↑k : Int) < (↑m.head.length : Int), EqvI (mget (seenL (namesF m.head k)) (m.head.getD k FT.nil).name (V1.c (Cell.bool false))) (V1.c (Cell.bool ((namesF m.head k).contains (m.head.getD k FT.nil).name))), (bif !tokenT (m.head.getD k FT.nil).name then true else !foldT (m.head.getD k FT.nil).name == (m.head.getD k FT.nil).name) = false → EqvD (mget (seenL (namesF m.head k)) (m.head.getD k FT.nil).name (V1.c (Cell.bool false))) (V1.c (Cell.bool ((namesF m.head k).contains (m.head.getD k FT.nil).name))), (bif bif bif !tokenT (m.head.getD k FT.nil).name then true else !foldT (m.head.getD k FT.nil).name == (m.head.getD k FT.nil).name then true else (namesF m.head k).contains (m.head.getD k FT.nil).name then true else !(m.head.getD k FT.nil).value.all seenB) = true] (by kernel_rfl) (by kernel_rfl) (by kernel_rfl) ⟨(by simp; omega), (by omega), fun _ _ => trivial, (by intro _; assumption), (show (bif bif bif !tokenT (m.head.getD k FT.nil).name then true else !foldT (m.head.getD k FT.nil).name == (m.head.getD k FT.nil).name then true else (namesF m.head k).contains (m.head.getD k FT.nil).name then true else !(m.head.getD k FT.nil).value.all seenB) = true from (by assumption))⟩ ?_
        refine Wp.ret' (by kernel_rfl) ?_
        exact FinQ.pure (rs' := [V1.c (Cell.bool false)]) (by kernel_rfl) rfl (by kernel_rfl)
      | true =>
        rw [hf, Bool.true_and, ← namesF_succ _ _ hlt] at hq
        have ht : (bif bif bif !(tokenT (m.head.getD k .nil).name) then true else !(foldT (m.head.getD k .nil).name == (m.head.getD k .nil).name) then true else (namesF m.head k).contains (m.head.getD k .nil).name then true else !((m.head.getD k .nil).value.all seenB)) = false := by unfold fOk at hf; rw [Bool.not_eq_true'] at hf; exact hf
        have hc : (namesF m.head k).contains (m.head.getD k .nil).name = false := by
          cases hc : (namesF m.head k).contains (m.head.getD k .nil).name with
          | false => rfl
          | true => rw [hc] at ht; revert ht; cases tokenT (m.head.getD k .nil).name <;> cases foldT (m.head.getD k .nil).name == (m.head.getD k .nil).name <;> (intro h; cases h)
        have e2 : BlkEqv (.ob (.ms (mset (seenL (namesF m.head k)) (m.head.getD k .nil).name (.c (.bool true))))) (.ob (.ms (seenL (namesF m.head (k + 1))))) := BlkEqv.of_eq (by rw [seenL_set _ _ hc, namesF_succ _ _ hlt])
        refine Wp.go (mx := true) (fun _ => mixed) [(7, {cs := [(2, pc (token_ok ((m.head.getD k FT.nil).name) (by omega))), (7, pc (fold_ok ((m.head.getD k FT.nil).name) (by assumption))), (21, pc (seen_ok ((m.head.getD k FT.nil).value) (by omega)))], fm := [(16, .c (.bool ((namesF m.head k).contains (m.head.getD k .nil).name)))]}), (9, {bs := [(3, .ob (.ms (seenL (namesF m.head (k + 1)))))]})] 100 [true, false] [decide ((↑k : Int) < (↑m.head.length : Int)) = true, (0 : Int) ≤ (↑k : Int) ∧ (↑k : Int) < (↑m.head.length : Int), EqvI (mget (seenL (namesF m.head k)) (m.head.getD k FT.nil).name (V1.c (Cell.bool false))) (V1.c (Cell.bool ((namesF m.head k).contains (m.head.getD k FT.nil).name))), (bif !tokenT (m.head.getD k FT.nil).name then true else !foldT (m.head.getD k FT.nil).name == (m.head.getD k FT.nil).name) = false → EqvD (mget (seenL (namesF m.head k)) (m.head.getD k FT.nil).name (V1.c (Cell.bool false))) (V1.c (Cell.bool ((namesF m.head k).contains (m.head.getD k FT.nil).name))), (bif bif bif !tokenT (m.head.getD k FT.nil).name then true else !foldT (m.head.getD k FT.nil).name == (m.head.getD k FT.nil).name then true else (namesF m.head k).contains (m.head.getD k FT.nil).name then true else !(m.head.getD k FT.nil).value.all seenB) = false, BlkEqv (Blk.ob (Ob.ms (mset (seenL (namesF m.head k)) (m.head.getD k FT.nil).name (V1.c (Cell.bool true))))) (Blk.ob (Ob.ms (seenL (namesF m.head (k + (1 : Nat)))))), inR IntKind.i64 ((↑k : Int) + (1 : Int))] (by kernel_rfl) (by kernel_rfl) (by kernel_rfl) ⟨(by simp; omega), (by omega), fun _ _ => trivial, (by intro _; assumption), (by assumption), (by assumption), inR64 (by omega) (by omega)⟩ ?_
        exact Wp.lpK (by kernel_rfl) (again _ (k + 1) (⟨(by assumption), (by assumption)⟩) (by omega) (Ent.of [] (by kernel_rfl) (by kernel_rfl) (by kernel_rfl) trivial))
    · obtain rfl : k = m.head.length := by omega
      rw [List.drop_length, fieldsOk] at hq
      have hb : fieldedT m = decide ((m.head.length : Int) ≤ 24) := by unfold fieldedT; rw [hq, hr]; rfl
      rw [hb]
      refine Wp.go (mx := true) (fun _ => mixed) [] 100 [false] [decide ((↑m.head.length : Int) < (↑m.head.length : Int)) = false] (by kernel_rfl) (by kernel_rfl) (by kernel_rfl) ((show decide ((↑m.head.length : Int) < (↑m.head.length : Int)) = false from (by simp; done))) ?_
      refine Wp.ret' (by kernel_rfl) ?_
      exact FinQ.pure (rs' := [V1.c (Cell.bool (decide ((↑m.head.length : Int) ≤ (24 : Int))))]) (by kernel_rfl) rfl (by kernel_rfl)
  | false =>
    have hb' : (!(m.body == [])) = true := by rw [hb]; rfl
    have hr : roomT m = 23 := by unfold roomT; rw [if_neg (by rw [hb]; decide)]
    refine Wp.go (mx := true) (fun _ => mixed) [] 100 [true] [(!m.body == []) = true, inR .i64 ((24 : Int) - (1 : Int))] (by kernel_rfl) (by kernel_rfl) (by kernel_rfl) ⟨hb', inR64 (by decide) (by decide)⟩ ?_
    refine Wp.loopK (by kernel_rfl) (fun (k : Nat) => ⟨[(1, TV.v (V1.c (Cell.ptr 0 0))), (3, TV.v (V1.c (Cell.int .i64 ((24 : Int) - (1 : Int))))), (4, TV.v (V1.c (Cell.map 32))), (15, TV.v (V1.c (encH m.head))), (16, TV.v (V1.c (Cell.int .i64 (m.head.length : Int)))), (17, TV.v (V1.c (Cell.int .i64 (k : Int))))], [(0, Blk.box 102 (encM m)), (32, Blk.ob (Ob.ms (seenL (namesF m.head k))))], 272⟩) (fun k => k ≤ m.head.length ∧ fieldsOk [[99, 111, 110, 116, 101, 110, 116, 45, 108, 101, 110, 103, 116, 104]] m.head = fieldsOk (namesF m.head k) (m.head.drop k)) (fun k => m.head.length - k) 0 (Ent.of [] (by kernel_rfl) (by kernel_rfl) (by kernel_rfl) trivial) ⟨Nat.zero_le _, rfl⟩ ?_
    intro k L ⟨hk, hq⟩ again
    rcases Nat.lt_or_ge k m.head.length with hlt | hge
    · rw [drop_cons m.head k .nil hlt, fieldsOk] at hq
      have hm : m.head.getD k .nil ∈ m.head := by simp [List.getD, hlt]
      have hs1 := (hs _ hm).1
      have hs2 := (hs _ hm).2
      have e0 : EqvD (mget (seenL (namesF m.head k)) (m.head.getD k .nil).name (.c (.bool false))) (.c (.bool ((namesF m.head k).contains (m.head.getD k .nil).name))) := eqvD_of (seenL_get _ _)
      cases hf : fOk (namesF m.head k) (m.head.getD k .nil) with
      | false =>
        rw [hf, Bool.false_and] at hq
        have hb : fieldedT m = false := by unfold fieldedT; rw [hq]; rfl
        rw [hb]
        have ht : (bif bif bif !(tokenT (m.head.getD k .nil).name) then true else !(foldT (m.head.getD k .nil).name == (m.head.getD k .nil).name) then true else (namesF m.head k).contains (m.head.getD k .nil).name then true else !((m.head.getD k .nil).value.all seenB)) = true := by unfold fOk at hf; rw [Bool.not_eq_false'] at hf; exact hf
        refine Wp.go (mx := true) (fun _ => mixed) [(7, {cs := [(2, pc (token_ok ((m.head.getD k FT.nil).name) (by omega))), (7, pc (fold_ok ((m.head.getD k FT.nil).name) (by assumption))), (21, pc (seen_ok ((m.head.getD k FT.nil).value) (by omega)))], fm := [(16, .c (.bool ((namesF m.head k).contains (m.head.getD k .nil).name)))]})] 100 [true, true] [decide ((↑k : Int) < (↑m.head.length : Int)) = true, (0 : Int) ≤ (↑k : Int) ∧ (↑k : Int) < (↑m.head.length : Int), EqvI (mget (seenL (namesF m.head k)) (m.head.getD k FT.nil).name (V1.c (Cell.bool false))) (V1.c (Cell.bool ((namesF m.head k).contains (m.head.getD k FT.nil).name))), (bif !tokenT (m.head.getD k FT.nil).name then true else !foldT (m.head.getD k FT.nil).name == (m.head.getD k FT.nil).name) = false → EqvD (mget (seenL (namesF m.head k)) (m.head.getD k FT.nil).name (V1.c (Cell.bool false))) (V1.c (Cell.bool ((namesF m.head k).contains (m.head.getD k FT.nil).name))), (bif bif bif !tokenT (m.head.getD k FT.nil).name then true else !foldT (m.head.getD k FT.nil).name == (m.head.getD k FT.nil).name then true else (namesF m.head k).contains (m.head.getD k FT.nil).name then true else !(m.head.getD k FT.nil).value.all seenB) = true] (by kernel_rfl) (by kernel_rfl) (by kernel_rfl) ⟨(by simp; omega), (by omega), fun _ _ => trivial, (by intro _; assumption), (show (bif bif bif !tokenT (m.head.getD k FT.nil).name then true else !foldT (m.head.getD k FT.nil).name == (m.head.getD k FT.nil).name then true else (namesF m.head k).contains (m.head.getD k FT.nil).name then true else !(m.head.getD k FT.nil).value.all seenB) = true from (by assumption))⟩ ?_
        refine Wp.ret' (by kernel_rfl) ?_
        exact FinQ.pure (rs' := [V1.c (Cell.bool false)]) (by kernel_rfl) rfl (by kernel_rfl)
      | true =>
        rw [hf, Bool.true_and, ← namesF_succ _ _ hlt] at hq
        have ht : (bif bif bif !(tokenT (m.head.getD k .nil).name) then true else !(foldT (m.head.getD k .nil).name == (m.head.getD k .nil).name) then true else (namesF m.head k).contains (m.head.getD k .nil).name then true else !((m.head.getD k .nil).value.all seenB)) = false := by unfold fOk at hf; rw [Bool.not_eq_true'] at hf; exact hf
        have hc : (namesF m.head k).contains (m.head.getD k .nil).name = false := by
          cases hc : (namesF m.head k).contains (m.head.getD k .nil).name with
          | false => rfl
          | true => rw [hc] at ht; revert ht; cases tokenT (m.head.getD k .nil).name <;> cases foldT (m.head.getD k .nil).name == (m.head.getD k .nil).name <;> (intro h; cases h)
        have e2 : BlkEqv (.ob (.ms (mset (seenL (namesF m.head k)) (m.head.getD k .nil).name (.c (.bool true))))) (.ob (.ms (seenL (namesF m.head (k + 1))))) := BlkEqv.of_eq (by rw [seenL_set _ _ hc, namesF_succ _ _ hlt])
        refine Wp.go (mx := true) (fun _ => mixed) [(7, {cs := [(2, pc (token_ok ((m.head.getD k FT.nil).name) (by omega))), (7, pc (fold_ok ((m.head.getD k FT.nil).name) (by assumption))), (21, pc (seen_ok ((m.head.getD k FT.nil).value) (by omega)))], fm := [(16, .c (.bool ((namesF m.head k).contains (m.head.getD k .nil).name)))]}), (9, {bs := [(3, .ob (.ms (seenL (namesF m.head (k + 1)))))]})] 100 [true, false] [decide ((↑k : Int) < (↑m.head.length : Int)) = true, (0 : Int) ≤ (↑k : Int) ∧ (↑k : Int) < (↑m.head.length : Int), EqvI (mget (seenL (namesF m.head k)) (m.head.getD k FT.nil).name (V1.c (Cell.bool false))) (V1.c (Cell.bool ((namesF m.head k).contains (m.head.getD k FT.nil).name))), (bif !tokenT (m.head.getD k FT.nil).name then true else !foldT (m.head.getD k FT.nil).name == (m.head.getD k FT.nil).name) = false → EqvD (mget (seenL (namesF m.head k)) (m.head.getD k FT.nil).name (V1.c (Cell.bool false))) (V1.c (Cell.bool ((namesF m.head k).contains (m.head.getD k FT.nil).name))), (bif bif bif !tokenT (m.head.getD k FT.nil).name then true else !foldT (m.head.getD k FT.nil).name == (m.head.getD k FT.nil).name then true else (namesF m.head k).contains (m.head.getD k FT.nil).name then true else !(m.head.getD k FT.nil).value.all seenB) = false, BlkEqv (Blk.ob (Ob.ms (mset (seenL (namesF m.head k)) (m.head.getD k FT.nil).name (V1.c (Cell.bool true))))) (Blk.ob (Ob.ms (seenL (namesF m.head (k + (1 : Nat)))))), inR IntKind.i64 ((↑k : Int) + (1 : Int))] (by kernel_rfl) (by kernel_rfl) (by kernel_rfl) ⟨(by simp; omega), (by omega), fun _ _ => trivial, (by intro _; assumption), (by assumption), (by assumption), inR64 (by omega) (by omega)⟩ ?_
        exact Wp.lpK (by kernel_rfl) (again _ (k + 1) (⟨(by assumption), (by assumption)⟩) (by omega) (Ent.of [] (by kernel_rfl) (by kernel_rfl) (by kernel_rfl) trivial))
    · obtain rfl : k = m.head.length := by omega
      rw [List.drop_length, fieldsOk] at hq
      have hb : fieldedT m = decide ((m.head.length : Int) ≤ 23) := by unfold fieldedT; rw [hq, hr]; rfl
      rw [hb]
      refine Wp.go (mx := true) (fun _ => mixed) [] 100 [false] [decide ((↑m.head.length : Int) < (↑m.head.length : Int)) = false] (by kernel_rfl) (by kernel_rfl) (by kernel_rfl) ((show decide ((↑m.head.length : Int) < (↑m.head.length : Int)) = false from (by simp; done))) ?_
      refine Wp.ret' (by kernel_rfl) ?_
      exact FinQ.pure (rs' := [V1.c (Cell.bool (decide ((↑m.head.length : Int) ≤ (24 : Int) - (1 : Int))))]) (by kernel_rfl) rfl (by kernel_rfl)
def fieldL (f : FT) : List UInt8 := f.name ++ [58, 32] ++ f.value ++ [13, 10]
def headN (m : MT) (k : Nat) : List UInt8 := m.first ++ [13, 10] ++ (m.head.take k).flatMap fieldL
def lenL (m : MT) : List UInt8 := if m.body == [] then [] else [99, 111, 110, 116, 101, 110, 116, 45, 108, 101, 110, 103, 116, 104, 58, 32] ++ Lib.itoa m.body.length ++ [13, 10]
/-- What stands ahead of a body. -/
def aheadT (m : MT) : List UInt8 := headN m m.head.length ++ lenL m ++ [13, 10]
theorem headN_succ (m : MT) (k : Nat) (h : k < m.head.length) : headN m (k + 1) = headN m k ++ fieldL (m.head.getD k .nil) := by
  unfold headN
  rw [List.take_succ_eq_append_getElem h, List.flatMap_append, List.getD_eq_getElem?_getD, List.getElem?_eq_getElem h]
  simp
theorem headN_le (m : MT) {k n : Nat} (h : k ≤ n) : (headN m k).length ≤ (headN m n).length := by
  obtain ⟨d, rfl⟩ := Nat.exists_eq_add_of_le h
  induction d with
  | zero => exact Nat.le_refl _
  | succ d ih =>
    refine Nat.le_trans (ih (by omega)) ?_
    rcases Nat.lt_or_ge (k + d) m.head.length with hlt | hge
    · rw [← Nat.add_assoc, headN_succ m _ hlt]; simp
    · unfold headN
      rw [List.take_of_length_le hge, List.take_of_length_le (by omega)]
      exact Nat.le_refl _
theorem field_len (f : FT) : (fieldL f).length = f.name.length + f.value.length + 4 := by
  unfold fieldL; simp; omega
theorem ahead_ok (m : MT) (hn : m.head.length < 4611686018427387904) (hb : m.body.length ≤ 140737488355328) (hA : (aheadT m).length ≤ 100000000000000) : Pur Tryz.prog Gd 110 [.agg (encM m)] [.c (.str (aheadT m))] := by
  refine Pur.of Tryz.func110 (by kernel_rfl) (by kernel_rfl) (by kernel_rfl) ?_
  have hA1 : (headN m m.head.length).length + (lenL m).length + 2 ≤ 100000000000000 := by
    unfold aheadT at hA; simp only [List.length_append] at hA; simpa using hA
  have h0 := headN_le m (Nat.zero_le m.head.length)
  have h0' : (headN m 0).length = m.first.length + 2 := by unfold headN; simp
  refine Wp.go (mx := true) (fun _ => mixed) [(2, {cs := [(3, cb [32] (ws_a (m.first ++ [(13 : UInt8), 10]) (by simp; omega)))]})] 100 [] [m.first.length + (2 : Nat) ≤ (9223372036854775807 : Nat)] (by kernel_rfl) (by kernel_rfl) (by kernel_rfl) ((show m.first.length + (2 : Nat) ≤ (9223372036854775807 : Nat) from (by omega))) ?_
  refine Wp.loopK (by kernel_rfl) (fun (x : Nat × Nat × List UInt8) => ⟨[(1, TV.v (V1.c (Cell.ptr 0 0))), (3, TV.v (V1.c (Cell.ptr 32 0))), (11, TV.v (V1.c (encH m.head))), (12, TV.v (V1.c (Cell.int .i64 (m.head.length : Int)))), (13, TV.v (V1.c (Cell.int .i64 (x.1 : Int))))], [(0, Blk.box 102 (encM m)), (32, Blk.box 186 [Cell.ptr 32 0, Cell.row 1 96 0 x.2.1]), (96, Blk.row 5 1 x.2.1 (bytesF x.2.2))], 176⟩) (fun x => x.1 ≤ m.head.length ∧ x.2.2 = headN m x.1 ∧ x.2.1 = x.2.2.length) (fun x => m.head.length - x.1) (0, 0 + (m.first ++ [13, 10]).length, m.first ++ [13, 10]) (Ent.of [] (by kernel_rfl) (by kernel_rfl) (by kernel_rfl) trivial) ⟨Nat.zero_le _, by unfold headN; simp, by simp⟩ ?_
  rintro ⟨k, n, l⟩ L ⟨hk, hq, hnl⟩ again
  simp only at hk hq hnl
  have h1 := headN_le m hk
  rw [← hq, ← hnl] at h1
  rcases Nat.lt_or_ge k m.head.length with hlt | hge
  · have h2 := headN_le m (show k + 1 ≤ m.head.length from hlt)
    rw [headN_succ m k hlt, List.length_append, field_len, ← hq, ← hnl] at h2
    have h3 : l ++ ((m.head.getD k .nil).name ++ [58, 32] ++ (m.head.getD k .nil).value ++ [13, 10]) = headN m (k + 1) := by rw [headN_succ m k hlt, ← hq]; rfl
    have h4 : n + ((m.head.getD k .nil).name ++ [58, 32] ++ (m.head.getD k .nil).value ++ [13, 10]).length = (l ++ ((m.head.getD k .nil).name ++ [58, 32] ++ (m.head.getD k .nil).value ++ [13, 10])).length := by rw [hnl]; exact List.length_append.symm
    refine Wp.go (mx := true) (fun _ => mixed) [(6, {cs := [(7, cb [32, 96] (ws_b n l (by assumption) ((m.head.getD k FT.nil).name ++ [(58 : UInt8), 32] ++ (m.head.getD k FT.nil).value ++ [(13 : UInt8), 10]) (by simp_all <;> omega)))]})] 100 [true] [decide ((↑k : Int) < (↑m.head.length : Int)) = true, (0 : Int) ≤ (↑k : Int) ∧ (↑k : Int) < (↑m.head.length : Int), (m.head.getD k FT.nil).name.length + (2 : Nat) ≤ (9223372036854775807 : Nat), ((m.head.getD k FT.nil).name ++ [(58 : UInt8), 32]).length + (m.head.getD k FT.nil).value.length ≤ (9223372036854775807 : Nat), ((m.head.getD k FT.nil).name ++ [(58 : UInt8), 32] ++ (m.head.getD k FT.nil).value).length + (2 : Nat) ≤ (9223372036854775807 : Nat), inR IntKind.i64 ((↑k : Int) + (1 : Int))] (by kernel_rfl) (by kernel_rfl) (by kernel_rfl) ⟨(by simp; omega), (by omega), (by omega), (by simp_all <;> omega), (by simp_all <;> omega), inR64 (by omega) (by omega)⟩ ?_
    exact Wp.lpK (by kernel_rfl) (again _ (k + 1, n + ((m.head.getD k .nil).name ++ [58, 32] ++ (m.head.getD k .nil).value ++ [13, 10]).length, l ++ ((m.head.getD k .nil).name ++ [58, 32] ++ (m.head.getD k .nil).value ++ [13, 10])) ⟨(by assumption), ⟨(by assumption), (by assumption)⟩⟩ (by omega) (Ent.of [(96, 368)] (by kernel_rfl) (by kernel_rfl) (by kernel_rfl) trivial))
  · obtain rfl : k = m.head.length := by omega
    have h5 : (headN m 0).length ≤ n := by rw [hnl, hq]; exact headN_le m (Nat.zero_le _)
    have hpos : 0 < n := by omega
    cases hbo : m.body == [] with
    | true =>
      have hb' : (!(m.body == [])) = false := by rw [hbo]; rfl
      have hT : aheadT m = l ++ [13, 10] := by unfold aheadT lenL; rw [hbo, if_pos rfl, hq]; simp
      rw [hT]
      have h6 : n + 2 ≤ 100000000000000 := by omega
      refine Wp.go (mx := true) (fun _ => mixed) [(10, {cs := [(0, cb [32, 96] (str_b n l (by assumption) (by assumption) (by omega)))]})] 100 [false, false] [decide ((↑m.head.length : Int) < (↑m.head.length : Int)) = false, (!m.body == []) = false, l.length + (2 : Nat) ≤ (9223372036854775807 : Nat)] (by kernel_rfl) (by kernel_rfl) (by kernel_rfl) ⟨(by simp; done), (by assumption), (show l.length + (2 : Nat) ≤ (9223372036854775807 : Nat) from (by omega))⟩ ?_
      refine Wp.ret' (by kernel_rfl) ?_
      exact FinQ.pure (rs' := [V1.c (Cell.str (l ++ [(13 : UInt8), 10]))]) (by kernel_rfl) rfl (by kernel_rfl)
    | false =>
      have hb' : (!(m.body == [])) = true := by rw [hbo]; rfl
      have hT : aheadT m = l ++ ([99, 111, 110, 116, 101, 110, 116, 45, 108, 101, 110, 103, 116, 104, 58, 32] ++ Lib.itoa (m.body.length : Int) ++ [13, 10]) ++ [13, 10] := by unfold aheadT lenL; rw [hbo, if_neg (by decide), hq]
      rw [hT]
      have h6 : n + (16 + ((Lib.itoa (m.body.length : Int)).length + 2)) + 2 ≤ 100000000000000 := by
        have : (lenL m).length = 16 + ((Lib.itoa (m.body.length : Int)).length + 2) := by unfold lenL; rw [hbo, if_neg (by decide)]; simp; omega
        omega
      refine Wp.go (mx := true) (fun _ => mixed) [(9, {cs := [(3, pc (itoa_ok (↑m.body.length : Int) (by omega) (by omega))), (6, cb [32, 96] (ws_b n l (by assumption) ([(99 : UInt8), 111, 110, 116, 101, 110, 116, 45, 108, 101, 110, 103, 116, 104, 58, 32] ++ Lib.itoa (↑m.body.length : Int) ++ [(13 : UInt8), 10]) (by simp; omega)))]}), (10, {cs := [(0, cb [32, 336] (str_b (n + ([(99 : UInt8), 111, 110, 116, 101, 110, 116, 45, 108, 101, 110, 103, 116, 104, 58, 32] ++ Lib.itoa (↑m.body.length : Int) ++ [(13 : UInt8), 10]).length) (l ++ ([(99 : UInt8), 111, 110, 116, 101, 110, 116, 45, 108, 101, 110, 103, 116, 104, 58, 32] ++ Lib.itoa (↑m.body.length : Int) ++ [(13 : UInt8), 10])) (by simp; omega) (by omega) (by simp; omega)))]})] 100 [false, true] [decide ((↑m.head.length : Int) < (↑m.head.length : Int)) = false, (!m.body == []) = true, (16 : Nat) + (Lib.itoa (↑m.body.length : Int)).length ≤ (9223372036854775807 : Nat), ([(99 : UInt8), 111, 110, 116, 101, 110, 116, 45, 108, 101, 110, 103, 116, 104, 58, 32] ++ Lib.itoa (↑m.body.length : Int)).length + (2 : Nat) ≤ (9223372036854775807 : Nat), (l ++ ([(99 : UInt8), 111, 110, 116, 101, 110, 116, 45, 108, 101, 110, 103, 116, 104, 58, 32] ++ Lib.itoa (↑m.body.length : Int) ++ [(13 : UInt8), 10])).length + (2 : Nat) ≤ (9223372036854775807 : Nat)] (by kernel_rfl) (by kernel_rfl) (by kernel_rfl) ⟨(by simp; done), (by assumption), (by omega), (by simp; omega), (show (l ++ ([(99 : UInt8), 111, 110, 116, 101, 110, 116, 45, 108, 101, 110, 103, 116, 104, 58, 32] ++ Lib.itoa (↑m.body.length : Int) ++ [(13 : UInt8), 10])).length + (2 : Nat) ≤ (9223372036854775807 : Nat) from (by simp; omega))⟩ ?_
      refine Wp.ret' (by kernel_rfl) ?_
      exact FinQ.pure (rs' := [V1.c (Cell.str (l ++ ([(99 : UInt8), 111, 110, 116, 101, 110, 116, 45, 108, 101, 110, 103, 116, 104, 58, 32] ++ Lib.itoa (↑m.body.length : Int) ++ [(13 : UInt8), 10]) ++ [(13 : UInt8), 10]))]) (by kernel_rfl) rfl (by kernel_rfl)
end Go.Proofs.Tw
end
