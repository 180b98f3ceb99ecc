import Derived.Test.YtmacpjddafcjcaaDoorQuo
import Derived.Test.YtmacpjddafcjcaaDoorLib
set_option linter.all false
open Go Go.Sv
namespace Go.Proofs.Tw
attribute [local irreducible] Wp FinQ resV Ent Pur Go.Sv.Fn Sat0
set_option maxRecDepth 100000
variable {G : Nat → Option (List Cell)}

mutual
def printJ : JV → List UInt8
  | .mk k b n s ns ks => if k == 1 then [110, 117, 108, 108] else if k == 2 then Lib.formatBool b else if k == 3 then Lib.itoa n else if k == 4 then quotedT s else
    if k == 6 then (123 :: Lib.join (partsJ k ns ks) [44]) ++ [125] else (91 :: Lib.join (partsJ k ns ks) [44]) ++ [93]
def partsJ : Int → List (List UInt8) → List JV → List (List UInt8)
  | _, _, [] => []
  | k, ns, x :: r => (if k == 6 then quotedT (ns.headD []) ++ [58] ++ printJ x else printJ x) :: partsJ k ns.tail r
end
def partAt (v : JV) (i : Nat) : List UInt8 := if v.kind == 6 then quotedT (v.names.getD i []) ++ [58] ++ printJ (v.kids.getD i .nil) else printJ (v.kids.getD i .nil)
def parts (v : JV) (k : Nat) : List (List UInt8) := (List.range k).map (partAt v)
theorem partsJ_eq (k : Int) : ∀ (ks : List JV) (ns : List (List UInt8)), partsJ k ns ks = (List.range ks.length).map (fun i => if k == 6 then quotedT (ns.getD i []) ++ [58] ++ printJ (ks.getD i .nil) else printJ (ks.getD i .nil))
  | [], ns => by rw [partsJ]; rfl
  | x :: r, ns => by
    rw [partsJ, partsJ_eq k r ns.tail, List.length_cons, List.range_succ_eq_map, List.map_cons, List.map_map]
    congr 1
    · cases ns <;> rfl
    · apply List.map_congr_left
      intro i _
      cases ns <;> simp [List.getD]
theorem printJ_eq (v : JV) : printJ v = if v.kind == 1 then [110, 117, 108, 108] else if v.kind == 2 then Lib.formatBool v.b else if v.kind == 3 then Lib.itoa v.n else if v.kind == 4 then quotedT v.s else
    if v.kind == 6 then (123 :: Lib.join (parts v v.kids.length) [44]) ++ [125] else (91 :: Lib.join (parts v v.kids.length) [44]) ++ [93] := by
  cases v; rw [printJ, partsJ_eq]; rfl
theorem join_part {x : List UInt8} {xs : List (List UInt8)} (sep : List UInt8) (h : x ∈ xs) : x.length ≤ (Lib.join xs sep).length := by
  cases xs with
  | nil => simp at h
  | cons y r =>
    rw [Lib.join_cons, List.length_append]
    rcases List.mem_cons.1 h with rfl | h
    · omega
    · have : x.length ≤ (Lib.joinTail sep r).length := by
        unfold Lib.joinTail
        induction r with
        | nil => simp at h
        | cons z t ih =>
          simp only [List.map_cons, List.flatten_cons, List.length_append]
          rcases List.mem_cons.1 h with rfl | h
          · omega
          · have := ih (by simp [h]) h; omega
      omega

/-- What can be printed. -/
inductive Fit : JV → Prop
  | mk {v : JV} (h2 : v.kids.length ≤ 1000000000000) (h6 : v.kind = 6 → v.kids.length ≤ v.names.length) (h0 : -4611686018427387904 ≤ v.n) (h1 : v.n ≤ 4611686018427387904) (hp : (printJ v).length ≤ 140737488355328) (h3 : ∀ x ∈ v.kids, Fit x) : Fit v

def strsF (l : List (List UInt8)) : Nat → Nat → Cell := fun i _ => .str (l.getD i [])
theorem parts_succ (v : JV) (k : Nat) : parts v (k + 1) = parts v k ++ [partAt v k] := by unfold parts; rw [List.range_succ, List.map_append]; rfl
theorem strs_app {e : TypeId} {k : Nat} (l : List (List UInt8)) (x : List UInt8) (hk : k = l.length) : BlkEqv (.row e 1 (k + 1) (catF k (strsF l) (fun i j => nthD [.str x] ((0 + i) * 1 + j)))) (.row e 1 (k + 1) (strsF (l ++ [x]))) := by
  refine BlkEqv.row_ext rfl fun i hi j hj => ?_
  subst hk
  unfold catF
  split
  · rename_i h; simp only [strsF, List.getD, List.getElem?_append, h, if_true]
  · obtain ⟨h1, rfl⟩ : i = l.length ∧ j = 0 := by omega
    subst h1
    rw [Nat.sub_self]
    simp only [strsF, List.getD, List.getElem?_append, Nat.lt_irrefl, if_false, Nat.sub_self]
    rfl
theorem parts_len (v : JV) (k : Nat) : k = (parts v k).length := by simp [parts]
theorem strs_flat (l : List (List UInt8)) (n : Nat) : ∀ i, i < n → ∀ j, j < 1 → (strsF l i j).flat = true := by
  intro i hi j hj
  obtain rfl : j = 0 := by omega
  rfl
theorem strs_sl {v : JV} {k m : Nat} (h : k = m) : ∀ i, i < k → ∀ j, j < 1 → strsF (parts v k) (0 + i) j = nthD [.str ((parts v m).getD i [])] j := by
  intro i hi j hj
  obtain rfl : j = 0 := by omega
  subst h
  rw [Nat.zero_add]; rfl
theorem strs_in (l : List (List UInt8)) (n : Nat) (S : Nat → Prop) : ∀ i, i < n → ∀ j, j < 1 → (strsF l i j).inS S := by
  intro i hi j hj
  obtain rfl : j = 0 := by omega
  trivial
def priInv (v : JV) (k : Nat) : St := ⟨[(1, .v (.c (.ptr 0 0))), (3, .v (.c (.row 1 1 0 k))), (28, .v (.c (.sl 6 v.kids.length (kidC v.kids)))), (29, .v (.c (.int .i64 (v.kids.length : Int)))), (30, .v (.c (.int .i64 (k : Int))))], [(0, .box 38 (encJ v)), (1, .row 9 1 k (strsF (parts v k)))], 16⟩
theorem prints_ok (gp : Nat) (hg : Tryd.prog.globalNamed "internal/strconv.uint64pow10" = some gp) (hG : G gp = some (Lib.pow10Tab.map fun z => .int .u64 z)) {v : JV} (hf : Fit v) : Pur Tryd.prog G 26 [.agg (encJ v)] [.c (.str (printJ v))] := by
  induction hf with
  | mk h2 h6 h0 h1 hp h3 ih =>
  rename_i v
  rw [printJ_eq] at hp ⊢
  refine Pur.of Tryd.func26 (by kernel_rfl) (by kernel_rfl) (by kernel_rfl) ?_
  refine Wp.go (mx := true) (fun _ => mixed) [] 100 [] [] (by kernel_rfl) (by kernel_rfl) (by kernel_rfl) trivial ?_
  refine Wp.cond' (by kernel_rfl) (v.kind == 1) (by kernel_rfl) (fun h => ?_) (fun h => ?_)
  · refine Wp.go (mx := true) (fun _ => mixed) [] 100 [] [] (by kernel_rfl) (by kernel_rfl) (by kernel_rfl) trivial ?_
    refine Wp.ret' (by kernel_rfl) ?_
    exact FinQ.pure (rs' := [.c (.str [110, 117, 108, 108])]) (by kernel_rfl) (by rw [if_pos h]) (by kernel_rfl)
  rw [if_neg (by simp [h])] at hp
  have k1 := h
  refine Wp.go (mx := true) (fun _ => mixed) [] 100 [] [] (by kernel_rfl) (by kernel_rfl) (by kernel_rfl) trivial ?_
  refine Wp.cond' (by kernel_rfl) (v.kind == 2) (by kernel_rfl) (fun h => ?_) (fun h => ?_)
  · refine Wp.go (mx := true) (fun _ => mixed) [(5, {cs := [(2, pc (lib_FormatBool v.b))]})] 100 [] [] (by kernel_rfl) (by kernel_rfl) (by kernel_rfl) trivial ?_
    refine Wp.ret' (by kernel_rfl) ?_
    exact FinQ.pure (rs' := [.c (.str (Lib.formatBool v.b))]) (by kernel_rfl) (by rw [if_neg (by simp [k1]), if_pos h]) (by kernel_rfl)
  rw [if_neg (by simp [h])] at hp
  have k2 := h
  refine Wp.go (mx := true) (fun _ => mixed) [] 100 [] [] (by kernel_rfl) (by kernel_rfl) (by kernel_rfl) trivial ?_
  refine Wp.cond' (by kernel_rfl) (v.kind == 3) (by kernel_rfl) (fun h => ?_) (fun h => ?_)
  · refine Wp.go (mx := true) (fun _ => mixed) [(7, {cs := [(2, pc (lib_Itoa gp hg hG v.n (by omega) (by omega)))]})] 100 [] [] (by kernel_rfl) (by kernel_rfl) (by kernel_rfl) trivial ?_
    refine Wp.ret' (by kernel_rfl) ?_
    exact FinQ.pure (rs' := [.c (.str (Lib.itoa v.n))]) (by kernel_rfl) (by rw [if_neg (by simp [k1]), if_neg (by simp [k2]), if_pos h]) (by kernel_rfl)
  rw [if_neg (by simp [h])] at hp
  have k3 := h
  refine Wp.go (mx := true) (fun _ => mixed) [] 100 [] [] (by kernel_rfl) (by kernel_rfl) (by kernel_rfl) trivial ?_
  refine Wp.cond' (by kernel_rfl) (v.kind == 4) (by kernel_rfl) (fun h => ?_) (fun h => ?_)
  · rw [if_pos h] at hp
    refine Wp.go (mx := true) (fun _ => mixed) [(9, {cs := [(2, pc (quoted_ok v.s hp))]})] 100 [] [] (by kernel_rfl) (by kernel_rfl) (by kernel_rfl) trivial ?_
    refine Wp.ret' (by kernel_rfl) ?_
    exact FinQ.pure (rs' := [.c (.str (quotedT v.s))]) (by kernel_rfl) (by rw [if_neg (by simp [k1]), if_neg (by simp [k2]), if_neg (by simp [k3]), if_pos h]) (by kernel_rfl)
  rw [if_neg (by simp [h])] at hp
  have k4 := h
  refine Wp.go (mx := true) (fun _ => mixed) [] 100 [] [] (by kernel_rfl) (by kernel_rfl) (by kernel_rfl) trivial ?_
  refine Wp.loopK (by kernel_rfl) (priInv v) (fun k => k ≤ v.kids.length) (fun k => v.kids.length - k) 0 (Ent.trans (Ent.empT (t := 3) (sz := 1) (e := 9) (f := strsF []) (by decide) (by kernel_rfl) rfl) (Ent.of [(1, 272)] (by kernel_rfl) (by kernel_rfl) (by kernel_rfl) ⟨fun i hi => absurd hi (Nat.not_lt_zero i), trivial⟩)) (Nat.zero_le _) ?_
  intro k L hk again
  refine Wp.go (mx := true) (fun _ => mixed) [] 100 [] [] (by kernel_rfl) (by kernel_rfl) (by kernel_rfl) trivial ?_
  refine Wp.cond' (by kernel_rfl) (decide ((k : Int) < (v.kids.length : Int))) (by kernel_rfl) (fun h => ?_) (fun h => ?_)
  · have hk' : k < v.kids.length := by simpa using h
    have hin : 0 ≤ (k : Int) ∧ (k : Int) < (v.kids.length : Int) := by omega
    have hm : v.kids.getD k .nil ∈ v.kids := by simp [List.getD, hk']
    have hpart : (partAt v k).length + 2 ≤ 140737488355328 := by
      have := join_part [44] (x := partAt v k) (xs := parts v v.kids.length) (List.mem_map.2 ⟨k, by simpa using hk', rfl⟩)
      split at hp <;> simp only [List.length_append, List.length_cons, List.length_nil] at hp <;> omega
    refine Wp.go (mx := true) (fun _ => mixed) [(13, {fm := [(2, .agg (encJ (v.kids.getD k .nil)))]}), (14, {cs := [(1, pc (ih _ hm))]})] 100 [] [0 ≤ (k : Int) ∧ (k : Int) < (v.kids.length : Int), EqvD (.agg [kidC v.kids k 0, kidC v.kids k 1, kidC v.kids k 2, kidC v.kids k 3, kidC v.kids k 4, kidC v.kids k 5]) (.agg (encJ (v.kids.getD k .nil)))] (by kernel_rfl) (by kernel_rfl) (by kernel_rfl) ⟨hin, kid_den hk'⟩ ?_
    refine Wp.cond' (by kernel_rfl) (v.kind == 6) (by kernel_rfl) (fun h => ?_) (fun h => ?_)
    · have hp1 : partAt v k = (quotedT (v.names.getD k []) ++ [58]) ++ printJ (v.kids.getD k .nil) := by unfold partAt; rw [if_pos h]
      have hq : (quotedT (v.names.getD k [])).length ≤ 140737488355328 := by rw [hp1] at hpart; simp only [List.length_append] at hpart; omega
      have hin2 : 0 ≤ (k : Int) ∧ (k : Int) < (v.names.length : Int) := by have := h6 (by simpa using h); omega
      have hb : BlkEqv (.row 9 1 (k + 1) (catF k (strsF (parts v k)) (fun i j => nthD [.str ((quotedT (v.names.getD k []) ++ [58]) ++ printJ (v.kids.getD k .nil))] ((0 + i) * 1 + j)))) (.row 9 1 (k + 1) (strsF (parts v (k + 1)))) := by
        rw [parts_succ, hp1]; exact strs_app _ _ (parts_len v k)
      rw [hp1] at hpart
      simp only [List.length_append, List.length_cons, List.length_nil] at hpart
      refine Wp.go (mx := true) (fun _ => mixed) [(16, {cs := [(5, pc (quoted_ok (v.names.getD k []) hq))]}), (17, {bs := [(3, .row 9 1 (k + 1) (strsF (parts v (k + 1))))]})] 100 [] [0 ≤ (k : Int) ∧ (k : Int) < (v.names.length : Int), (quotedT (v.names.getD k [])).length + 1 ≤ 9223372036854775807, (quotedT (v.names.getD k []) ++ [58]).length + (printJ (v.kids.getD k .nil)).length ≤ 9223372036854775807, (k + 1) * 16 ≤ 140737488355328, BlkEqv (.row 9 1 (k + 1) (catF k (strsF (parts v k)) (fun i j => nthD [.str ((quotedT (v.names.getD k []) ++ [58]) ++ printJ (v.kids.getD k .nil))] ((0 + i) * 1 + j)))) (.row 9 1 (k + 1) (strsF (parts v (k + 1)))), k ≤ k, 1 ≤ 1, inR .i64 ((k : Int) + 1)] (by kernel_rfl) (by kernel_rfl) (by kernel_rfl) ⟨hin2, by omega, by simp only [List.length_append, List.length_cons, List.length_nil]; omega, by omega, hb, Nat.le_refl _, Nat.le_refl _, inR64 (by omega) (by omega)⟩ ?_
      exact Wp.lpK (by kernel_rfl) (again _ (k + 1) hk' (by show v.kids.length - (k + 1) < v.kids.length - k; omega) (Ent.of [(1, 432)] (by kernel_rfl) (by kernel_rfl) (by kernel_rfl) ⟨strs_in _ _ _, trivial⟩))
    · have hp1 : partAt v k = printJ (v.kids.getD k .nil) := by unfold partAt; rw [if_neg (by simp [h])]
      have hb : BlkEqv (.row 9 1 (k + 1) (catF k (strsF (parts v k)) (fun i j => nthD [.str (printJ (v.kids.getD k .nil))] ((0 + i) * 1 + j)))) (.row 9 1 (k + 1) (strsF (parts v (k + 1)))) := by
        rw [parts_succ, hp1]; exact strs_app _ _ (parts_len v k)
      refine Wp.go (mx := true) (fun _ => mixed) [(17, {bs := [(3, .row 9 1 (k + 1) (strsF (parts v (k + 1))))]})] 100 [] [(k + 1) * 16 ≤ 140737488355328, BlkEqv (.row 9 1 (k + 1) (catF k (strsF (parts v k)) (fun i j => nthD [.str (printJ (v.kids.getD k .nil))] ((0 + i) * 1 + j)))) (.row 9 1 (k + 1) (strsF (parts v (k + 1)))), k ≤ k, 1 ≤ 1, inR .i64 ((k : Int) + 1)] (by kernel_rfl) (by kernel_rfl) (by kernel_rfl) ⟨by omega, hb, Nat.le_refl _, Nat.le_refl _, inR64 (by omega) (by omega)⟩ ?_
      exact Wp.lpK (by kernel_rfl) (again _ (k + 1) hk' (by show v.kids.length - (k + 1) < v.kids.length - k; omega) (Ent.of [(1, 272)] (by kernel_rfl) (by kernel_rfl) (by kernel_rfl) ⟨strs_in _ _ _, trivial⟩))
  · have hke : k = v.kids.length := by simp at h; omega
    refine Wp.ent' (by kernel_rfl) (Ent.pubT (e := 9) (id := 1) (t := 3) (off := 0) (m := k) (n := k) (f := strsF (parts v k)) (m' := (parts v v.kids.length).length) (f' := fun i j => nthD [.str ((parts v v.kids.length).getD i [])] j) (by kernel_rfl) (by kernel_rfl) (by omega) (by simp [parts, hke]) (strs_sl hke) (strs_flat _ _) rfl) ?_
    have hj : (Lib.join (parts v v.kids.length) [44]).length + 2 ≤ 140737488355328 := by
      split at hp <;> simp only [List.length_append, List.length_cons, List.length_nil] at hp <;> omega
    have hj2 : ∀ c : UInt8, (c :: Lib.join (parts v v.kids.length) [44]).length + 1 ≤ 9223372036854775807 := fun c => by simp only [List.length_cons]; omega
    refine Wp.go (mx := true) (fun _ => mixed) [(19, {cs := [(1, pc (lib_Join (parts v v.kids.length) [44] (by rw [← parts_len]; omega) (by omega)))]})] 100 [] [] (by kernel_rfl) (by kernel_rfl) (by kernel_rfl) trivial ?_
    refine Wp.cond' (by kernel_rfl) (v.kind == 6) (by kernel_rfl) (fun h => ?_) (fun h => ?_)
    · refine Wp.go (mx := true) (fun _ => mixed) [] 100 [] [1 + (Lib.join (parts v v.kids.length) [44]).length ≤ 9223372036854775807, (123 :: Lib.join (parts v v.kids.length) [44]).length + 1 ≤ 9223372036854775807] (by kernel_rfl) (by kernel_rfl) (by kernel_rfl) ⟨by omega, hj2 _⟩ ?_
      refine Wp.ret' (by kernel_rfl) ?_
      exact FinQ.pure (rs' := [.c (.str ((123 :: Lib.join (parts v v.kids.length) [44]) ++ [125]))]) (by kernel_rfl) (by rw [if_neg (by simp [k1]), if_neg (by simp [k2]), if_neg (by simp [k3]), if_neg (by simp [k4]), if_pos h]) (by kernel_rfl)
    · refine Wp.go (mx := true) (fun _ => mixed) [] 100 [] [1 + (Lib.join (parts v v.kids.length) [44]).length ≤ 9223372036854775807, (91 :: Lib.join (parts v v.kids.length) [44]).length + 1 ≤ 9223372036854775807] (by kernel_rfl) (by kernel_rfl) (by kernel_rfl) ⟨by omega, hj2 _⟩ ?_
      refine Wp.ret' (by kernel_rfl) ?_
      exact FinQ.pure (rs' := [.c (.str ((91 :: Lib.join (parts v v.kids.length) [44]) ++ [93]))]) (by kernel_rfl) (by rw [if_neg (by simp [k1]), if_neg (by simp [k2]), if_neg (by simp [k3]), if_neg (by simp [k4]), if_neg (by simp [h])]) (by kernel_rfl)

/-- What is printed: nothing, if it may not be. -/
def printT (v : JV) : List UInt8 := if mayJ v 0 then printJ v else []
theorem Print_ok (gp : Nat) (hg : Tryd.prog.globalNamed "internal/strconv.uint64pow10" = some gp) (hG : G gp = some (Lib.pow10Tab.map fun z => .int .u64 z)) {v : JV} (hs : Small v) (hf : mayJ v 0 = true → Fit v) : Pur Tryd.prog G 22 [.agg (encJ v)] [.c (.str (printT v))] := by
  refine Pur.of Tryd.func22 (by kernel_rfl) (by kernel_rfl) (by kernel_rfl) ?_
  refine Wp.go (mx := true) (fun _ => mixed) [(1, {cs := [(1, pc (May_ok hs))]})] 100 [] [] (by kernel_rfl) (by kernel_rfl) (by kernel_rfl) trivial ?_
  refine Wp.cond' (by kernel_rfl) (!(mayJ v 0)) (by kernel_rfl) (fun h => ?_) (fun h => ?_)
  · refine Wp.go (mx := true) (fun _ => mixed) [] 100 [] [] (by kernel_rfl) (by kernel_rfl) (by kernel_rfl) trivial ?_
    refine Wp.ret' (by kernel_rfl) ?_
    exact FinQ.pure (rs' := [.c (.str [])]) (by kernel_rfl) (by unfold printT; rw [if_neg (by simpa using h)]) (by kernel_rfl)
  · have hm : mayJ v 0 = true := by simpa using h
    refine Wp.go (mx := true) (fun _ => mixed) [(3, {cs := [(1, pc (prints_ok gp hg hG (hf hm)))]})] 100 [] [] (by kernel_rfl) (by kernel_rfl) (by kernel_rfl) trivial ?_
    refine Wp.ret' (by kernel_rfl) ?_
    exact FinQ.pure (rs' := [.c (.str (printJ v))]) (by kernel_rfl) (by unfold printT; rw [if_pos hm]) (by kernel_rfl)
end Go.Proofs.Tw
