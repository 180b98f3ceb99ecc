/- Own texts for this claim: Qry, Unl, Ury, Hp0, Hp1, Hp2, Hp3, Hp4, Hp5, Ck5, Ck6, Ck7, Hp6, Hp7, Hp8, Hp9. -/
import Derived.Test.YtgoblgakkbodlaaGreatDoorHttpMayCardP5
set_option linter.all false

section
open Go Go.Sv
namespace Go.Proofs.Tw
attribute [local irreducible] Wp FinQ resV Ent Pur Go.Sv.Fn Sat0
set_option maxRecDepth 100000
set_option maxHeartbeats 4000000

/-! fields as a text -/
def fieldQ (f : FT) : List UInt8 := pctT true f.name ++ [61] ++ pctT true f.value
def partsQ (l : List FT) (k : Nat) : List (List UInt8) := (l.take k).map fieldQ
def printQ (l : List FT) : List UInt8 := Lib.join (l.map fieldQ) [38]
theorem partsQ_succ (l : List FT) (k : Nat) (h : k < l.length) : partsQ l (k + 1) = partsQ l k ++ [fieldQ (l.getD k .nil)] := by
  unfold partsQ
  rw [List.take_succ_eq_append_getElem h, List.map_append, List.getD_eq_getElem?_getD, List.getElem?_eq_getElem h]
  rfl
theorem partsQ_end (l : List FT) : Lib.join (partsQ l l.length) [38] = printQ l := by unfold partsQ printQ; rw [List.take_length]
theorem partsQ_len (l : List FT) (k : Nat) (h : k ≤ l.length) : (partsQ l k).length = k := by unfold partsQ; simp; omega
theorem pctT_len (form : Bool) (s : List UInt8) : s.length ≤ (pctT form s).length := by
  have := pctN_len form s s.length (Nat.le_refl _)
  rw [pctN_end] at this
  exact this.1
theorem fieldQ_len (f : FT) : (fieldQ f).length = (pctT true f.name).length + (pctT true f.value).length + 1 := by unfold fieldQ; simp; omega
theorem joinQ_le (l : List FT) {k : Nat} (h : k ≤ l.length) : (Lib.join (partsQ l k) [38]).length ≤ (printQ l).length := by
  rw [← partsQ_end]
  obtain ⟨d, hd⟩ := Nat.exists_eq_add_of_le h
  rw [hd]
  clear hd
  induction d with
  | zero => exact Nat.le_refl _
  | succ d ih =>
    refine Nat.le_trans ih ?_
    rcases Nat.lt_or_ge (k + d) l.length with hlt | hge
    · rw [← Nat.add_assoc, partsQ_succ l _ hlt, join_snoc]
      split
      · rename_i h0; rw [h0]; exact Nat.zero_le _
      · simp only [List.length_append]; omega
    · have : partsQ l (k + (d + 1)) = partsQ l (k + d) := by unfold partsQ; rw [List.take_of_length_le hge, List.take_of_length_le (by omega)]
      rw [this]; exact Nat.le_refl _
theorem fieldQ_le (l : List FT) {k : Nat} (h : k < l.length) : (fieldQ (l.getD k .nil)).length ≤ (printQ l).length := by
  have hm : fieldQ (l.getD k .nil) ∈ l.map fieldQ := List.mem_map.2 ⟨_, by rw [List.getD_eq_getElem?_getD, List.getElem?_eq_getElem h]; exact List.getElem_mem h, rfl⟩
  exact join_part [38] hm
theorem str_one (l : List (List UInt8)) (i j : Nat) (hj : j < 1) : strsF l (0 + i) j = nthD [.str (l.getD i [])] j := by
  obtain rfl : j = 0 := by omega
  rw [Nat.zero_add]; rfl
theorem print10_ok {G : Nat → Option (List Cell)} (l : List FT) (hn : l.length ≤ 1000000000000) (hj : (printQ l).length ≤ 10000000000000) : Pur Tryz.prog G 49 [.c (encH l)] [.c (.str (printQ l))] := by
  refine Pur.of Tryz.func49 (by kernel_rfl) (by kernel_rfl) (by kernel_rfl) ?_
  refine Wp.go (mx := true) (fun _ => mixed) [] 100 [] [] (by kernel_rfl) (by kernel_rfl) (by kernel_rfl) trivial ?_
  refine Wp.loopK (by kernel_rfl) (fun (k : Nat) => ⟨[(0, TV.v (V1.c (encH l))), (3, TV.v (V1.c (Cell.str (Lib.join (partsQ l k) [38])))), (4, TV.v (V1.c (Cell.int .i64 (k : Int))))], [], 48⟩) (fun k => k ≤ l.length) (fun k => l.length - k) 0 (Ent.of [] (by kernel_rfl) (by kernel_rfl) (by kernel_rfl) trivial) (Nat.zero_le _) ?_
  intro k L hk again
  have h0 := joinQ_le l hk
  rcases Nat.lt_or_ge k l.length with hlt | hge
  · have h1 := fieldQ_le l hlt
    rw [fieldQ_len] at h1
    have h2 := pctT_len true (l.getD k .nil).name
    have h3 := pctT_len true (l.getD k .nil).value
    have h4 := joinQ_le l (show k + 1 ≤ l.length from hlt)
    have hs := join_snoc (partsQ l k) (fieldQ (l.getD k .nil)) [38]
    rw [← partsQ_succ l k hlt] at hs
    rcases Nat.eq_zero_or_pos k with rfl | hpos
    · rw [if_pos (show partsQ l 0 = [] from rfl)] at hs
      rw [show Lib.join (partsQ l 0) [38] = [] from rfl]
      have hs' : [] ++ pctT true (l.getD 0 .nil).name ++ [61] ++ pctT true (l.getD 0 .nil).value = Lib.join (partsQ l (0 + 1)) [38] := by rw [hs]; rfl
      have e1 : EqvD (V1.c (Cell.str ([] ++ pctT true (l.getD 0 .nil).name ++ [61] ++ pctT true (l.getD 0 .nil).value))) (.c (.str (Lib.join (partsQ l (0 + 1)) [38]))) := eqvD_of (by rw [hs'])
      refine Wp.go (mx := true) (fun _ => mixed) [(7, {cs := [(6, pc (enc7_ok ((l.getD (0 : Nat) FT.nil).name) true (by omega))), (14, pc (enc7_ok ((l.getD (0 : Nat) FT.nil).value) true (by omega)))], fm := [(16, .c (.str (Lib.join (partsQ l (0 + 1)) [38])))]})] 100 [true, false] [decide ((↑(0 : Nat) : Int) < (↑l.length : Int)) = true, decide ((↑(0 : Nat) : Int) > (0 : Int)) = false, (0 : Int) ≤ (↑(0 : Nat) : Int) ∧ (↑(0 : Nat) : Int) < (↑l.length : Int), ([] : List UInt8).length + (pctT true (l.getD (0 : Nat) FT.nil).name).length ≤ (9223372036854775807 : Nat), ([] ++ pctT true (l.getD (0 : Nat) FT.nil).name).length + (1 : Nat) ≤ (9223372036854775807 : Nat), (0 : Int) ≤ (↑(0 : Nat) : Int) ∧ (↑(0 : Nat) : Int) < (↑l.length : Int), ([] ++ pctT true (l.getD (0 : Nat) FT.nil).name ++ [(61 : UInt8)]).length + (pctT true (l.getD (0 : Nat) FT.nil).value).length ≤ (9223372036854775807 : Nat), EqvI (V1.c (Cell.str ([] ++ pctT true (l.getD (0 : Nat) FT.nil).name ++ [(61 : UInt8)] ++ pctT true (l.getD (0 : Nat) FT.nil).value))) (V1.c (Cell.str (Lib.join (partsQ l ((0 : Nat) + (1 : Nat))) [(38 : UInt8)]))), EqvD (V1.c (Cell.str ([] ++ pctT true (l.getD (0 : Nat) FT.nil).name ++ [(61 : UInt8)] ++ pctT true (l.getD (0 : Nat) FT.nil).value))) (V1.c (Cell.str (Lib.join (partsQ l ((0 : Nat) + (1 : Nat))) [(38 : UInt8)]))), inR IntKind.i64 ((↑(0 : Nat) : Int) + (1 : Int))] (by kernel_rfl) (by kernel_rfl) (by kernel_rfl) ⟨(by simp; omega), rfl, (by omega), (by simp_all <;> omega), (by simp_all <;> omega), (by omega), (by simp_all <;> omega), fun _ _ => trivial, (by assumption), inR64 (by omega) (by omega)⟩ ?_
      exact Wp.lpK (by kernel_rfl) (again _ (0 + 1) (by assumption) (by omega) (Ent.of [] (by kernel_rfl) (by kernel_rfl) (by kernel_rfl) trivial))
    · rw [if_neg (by intro h0; have := partsQ_len l k hk; rw [h0] at this; simp at this; omega)] at hs
      have hs' : Lib.join (partsQ l k) [38] ++ [38] ++ pctT true (l.getD k .nil).name ++ [61] ++ pctT true (l.getD k .nil).value = Lib.join (partsQ l (k + 1)) [38] := by rw [hs]; unfold fieldQ; simp
      have h5 := congrArg List.length hs'
      simp only [List.length_append, List.length_cons, List.length_nil] at h5
      have e1 : EqvD (V1.c (Cell.str (Lib.join (partsQ l k) [38] ++ [38] ++ pctT true (l.getD k .nil).name ++ [61] ++ pctT true (l.getD k .nil).value))) (.c (.str (Lib.join (partsQ l (k + 1)) [38]))) := eqvD_of (by rw [hs'])
      refine Wp.go (mx := true) (fun _ => mixed) [(7, {cs := [(6, pc (enc7_ok ((l.getD k FT.nil).name) true (by omega))), (14, pc (enc7_ok ((l.getD k FT.nil).value) true (by omega)))], fm := [(16, .c (.str (Lib.join (partsQ l (k + 1)) [38])))]})] 100 [true, true] [decide ((↑k : Int) < (↑l.length : Int)) = true, decide ((↑k : Int) > (0 : Int)) = true, (Lib.join (partsQ l k) [(38 : UInt8)]).length + (1 : Nat) ≤ (9223372036854775807 : Nat), (0 : Int) ≤ (↑k : Int) ∧ (↑k : Int) < (↑l.length : Int), (Lib.join (partsQ l k) [(38 : UInt8)] ++ [(38 : UInt8)]).length + (pctT true (l.getD k FT.nil).name).length ≤ (9223372036854775807 : Nat), (Lib.join (partsQ l k) [(38 : UInt8)] ++ [(38 : UInt8)] ++ pctT true (l.getD k FT.nil).name).length + (1 : Nat) ≤ (9223372036854775807 : Nat), (0 : Int) ≤ (↑k : Int) ∧ (↑k : Int) < (↑l.length : Int), (Lib.join (partsQ l k) [(38 : UInt8)] ++ [(38 : UInt8)] ++ pctT true (l.getD k FT.nil).name ++ [(61 : UInt8)]).length + (pctT true (l.getD k FT.nil).value).length ≤ (9223372036854775807 : Nat), EqvI (V1.c (Cell.str (Lib.join (partsQ l k) [(38 : UInt8)] ++ [(38 : UInt8)] ++ pctT true (l.getD k FT.nil).name ++ [(61 : UInt8)] ++ pctT true (l.getD k FT.nil).value))) (V1.c (Cell.str (Lib.join (partsQ l (k + (1 : Nat))) [(38 : UInt8)]))), EqvD (V1.c (Cell.str (Lib.join (partsQ l k) [(38 : UInt8)] ++ [(38 : UInt8)] ++ pctT true (l.getD k FT.nil).name ++ [(61 : UInt8)] ++ pctT true (l.getD k FT.nil).value))) (V1.c (Cell.str (Lib.join (partsQ l (k + (1 : Nat))) [(38 : UInt8)]))), inR IntKind.i64 ((↑k : Int) + (1 : Int))] (by kernel_rfl) (by kernel_rfl) (by kernel_rfl) ⟨(by simp; omega), (by simp; omega), (by omega), (by omega), (by simp_all <;> omega), (by simp_all <;> omega), (by omega), (by simp_all <;> omega), fun _ _ => trivial, (by assumption), inR64 (by omega) (by omega)⟩ ?_
      exact Wp.lpK (by kernel_rfl) (again _ (k + 1) (by assumption) (by omega) (Ent.of [] (by kernel_rfl) (by kernel_rfl) (by kernel_rfl) trivial))
  · obtain rfl : k = l.length := by omega
    rw [partsQ_end]
    refine Wp.go (mx := true) (fun _ => mixed) [] 100 [false] [decide ((↑l.length : Int) < (↑l.length : Int)) = false] (by kernel_rfl) (by kernel_rfl) (by kernel_rfl) (show decide ((↑l.length : Int) < (↑l.length : Int)) = false from (by simp; done)) ?_
    refine Wp.ret' (by kernel_rfl) ?_
    exact FinQ.pure (rs' := [V1.c (Cell.str (printQ l))]) (by kernel_rfl) rfl (by kernel_rfl)
end Go.Proofs.Tw
end

section
open Go Go.Sv
namespace Go.Proofs.Tw
attribute [local irreducible] Wp FinQ resV Ent Pur Go.Sv.Fn Sat0
set_option maxRecDepth 100000
set_option maxHeartbeats 4000000
variable {G : Nat → Option (List Cell)}

/-! names that are unlike -/
def isIn (l : List (List UInt8)) (s : List UInt8) : Bool := l.any (· == s)
end Go.Proofs.Tw
end

section
open Go Go.Sv
namespace Go.Proofs.Tw
attribute [local irreducible] Wp FinQ resV Ent Pur Go.Sv.Fn Sat0
set_option maxRecDepth 100000
set_option maxHeartbeats 4000000

def namesQ (l : List FT) (k : Nat) : List (List UInt8) := (l.take k).map (·.name)
def okQ (l : List FT) (i : Nat) : Bool := !((l.getD i .nil).name == []) && !isIn (namesQ l i) (l.getD i .nil).name
def unlikeQ (l : List FT) : Bool := (List.range l.length).all (okQ l)
theorem namesQ_succ (l : List FT) (k : Nat) (h : k < l.length) : namesQ l (k + 1) = namesQ l k ++ [(l.getD k .nil).name] := by
  unfold namesQ
  rw [List.take_succ_eq_append_getElem h, List.map_append, List.getD_eq_getElem?_getD, List.getElem?_eq_getElem h]
  rfl
theorem namesQ_len (l : List FT) (k : Nat) (h : k ≤ l.length) : k = (namesQ l k).length := by unfold namesQ; simp; omega
def dupI (l : List FT) : Int := ixF (fun i => !okQ l i) (List.range l.length)
theorem dup_some {l : List FT} {k : Nat} (hk : k < l.length) (hall : ∀ i, i < k → okQ l i = true) (h : okQ l k = false) : dupI l = (k : Int) := by
  unfold dupI
  refine ixF_some (d := 0) (by simpa using hk) (fun i hi => ?_) ?_
  · rw [List.getD_eq_getElem?_getD, List.getElem?_range (by omega)]; simp [hall i hi]
  · rw [List.getD_eq_getElem?_getD, List.getElem?_range hk]; simp [h]
theorem dup_none {l : List FT} (hall : ∀ i, i < l.length → okQ l i = true) : dupI l = -1 := by
  unfold dupI
  refine ixF_none (d := 0) (fun i hi => ?_)
  rw [List.length_range] at hi
  rw [List.getD_eq_getElem?_getD, List.getElem?_range hi]; simp [hall i hi]
theorem dup_unl (l : List FT) : decide (dupI l ≥ 0) = !unlikeQ l := by
  unfold dupI unlikeQ
  rw [ixF_any, List.not_all_eq_any_not]
def idxFacts (l : List FT) : Option Nat → Prop
  | none => True
  | some k => k ≤ l.length ∧ (∀ i, i < k → okQ l i = true)
def idxMu (l : List FT) : Option Nat → Nat
  | none => l.length + 1
  | some k => l.length - k
def targetU (u : UT) : List UInt8 := if u.query.length = 0 then u.path else u.path ++ [63] ++ printQ u.query
structure FitU (u : UT) : Prop where
  hh : u.host.length ≤ 1000000000
  hp : u.path.length ≤ 1000000000
  hn : u.query.length < 1000000000
  hj : (printQ u.query).length ≤ 10000000000
def mayU (u : UT) : Bool := hostT u.host && pathT u.path && decide ((u.query.length : Int) ≤ 24) && unlikeQ u.query && decide ((([104, 116, 116, 112, 115, 58, 47, 47] ++ u.host ++ targetU u).length : Int) ≤ 1024)
theorem may_b1 (u : UT) : (bif bif bif bif hostT u.host then pathT u.path else false then decide ((u.query.length : Int) ≤ 24) else false then unlikeQ u.query else false then decide ((([104, 116, 116, 112, 115, 58, 47, 47] ++ u.host ++ targetU u).length : Int) ≤ 1024) else false) = mayU u := by
  unfold mayU
  simp only [Bool.cond_false_right]
def printU (u : UT) : List UInt8 := if mayU u then [104, 116, 116, 112, 115, 58, 47, 47] ++ u.host ++ targetU u else []
theorem fGet_isIn (l : List FT) (k : Nat) (s : List UInt8) : (fGet (l.take k) s).isSome = isIn (namesQ l k) s := by
  unfold fGet isIn namesQ
  rw [Option.isSome_map, List.any_map, Bool.eq_iff_iff, List.find?_isSome]
  simp
theorem unlike10_ok {G : Nat → Option (List Cell)} (l : List FT) (hl : l.length < 1000000000000) : Pur Tryz.prog G 90 [.c (encH l)] [.c (.bool (unlikeQ l))] := by
  refine Pur.of Tryz.func90 (by kernel_rfl) (by kernel_rfl) (by kernel_rfl) ?_
  refine Wp.go (mx := true) (fun _ => mixed) [] 100 [] [] (by kernel_rfl) (by kernel_rfl) (by kernel_rfl) trivial ?_
  refine Wp.loopK (by kernel_rfl) (fun (k : Nat) => ⟨[(0, TV.v (V1.c (encH l))), (3, TV.v (V1.c (Cell.int .i64 (k : Int))))], [], 32⟩) (fun k => k ≤ l.length ∧ ∀ i, i < k → okQ l i = true) (fun k => l.length - k) 0 (Ent.of [] (by kernel_rfl) (by kernel_rfl) (by kernel_rfl) trivial) ⟨Nat.zero_le _, fun _ h => absurd h (Nat.not_lt_zero _)⟩ ?_
  intro k L ⟨hk, hall⟩ again
  rcases Nat.lt_or_ge k l.length with hlt | hge
  · have htl : (l.take k).length = k := by rw [List.length_take]; omega
    have e1 : EqvD (V1.c (Cell.sl 2 k (fun i j => nthD (encF (l.getD (0 + i) .nil)) j))) (.c (encH (l.take k))) := by
      refine EqvD.sl htl.symm fun i hi j hj => ?_
      simp [List.getD, List.getElem?_take, hi]
    have c := has10_n (G := G) (l.take k) (l.take k).length (l.getD k .nil).name rfl (by omega)
    rw [fGet_isIn l k] at c
    cases hn : (l.getD k .nil).name == [] with
    | true =>
      have hu : unlikeQ l = false := all_range_false hlt (by unfold okQ; rw [hn]; rfl)
      rw [hu]
      refine Wp.go (mx := true) (fun _ => mixed) [(4, {cs := [(15, pc c)], fm := [(9, .c (encH (l.take k)))]})] 100 [true, true] [decide ((↑k : Int) < (↑l.length : Int)) = true, (0 : Int) ≤ (↑k : Int) ∧ (↑k : Int) < (↑l.length : Int), EqvI (V1.c (Cell.sl (2 : Nat) ((Int.ofNat k).toNat - (0 : Nat)) fun (i j : Nat) => nthD [Cell.str (l.getD ((0 : Nat) + i) FT.nil).name, Cell.str (l.getD ((0 : Nat) + i) FT.nil).value] j)) (V1.c (encH (List.take k l))), ((l.getD k FT.nil).name == []) = false → EqvD (V1.c (Cell.sl (2 : Nat) ((Int.ofNat k).toNat - (0 : Nat)) fun (i j : Nat) => nthD [Cell.str (l.getD ((0 : Nat) + i) FT.nil).name, Cell.str (l.getD ((0 : Nat) + i) FT.nil).value] j)) (V1.c (encH (List.take k l))), ((l.getD k FT.nil).name == []) = false → (0 : Int) ≤ Int.ofNat (0) ∧ Int.ofNat (0) ≤ Int.ofNat k ∧ Int.ofNat k ≤ (↑l.length : Int), ((l.getD k FT.nil).name == []) = false → (0 : Int) ≤ (↑k : Int) ∧ (↑k : Int) < (↑l.length : Int), (bif (l.getD k FT.nil).name == [] then true else isIn (namesQ l k) (l.getD k FT.nil).name) = true] (by kernel_rfl) (by kernel_rfl) (by kernel_rfl) ⟨(by simp; omega), (by omega), fun _ _ => trivial, (by intro _; assumption), (by simp; omega), (by omega), (show (bif (l.getD k FT.nil).name == [] then true else isIn (namesQ l k) (l.getD k FT.nil).name) = true from (by simp_all <;> omega))⟩ ?_
      refine Wp.ret' (by kernel_rfl) ?_
      exact FinQ.pure (rs' := [V1.c (Cell.bool false)]) (by kernel_rfl) rfl (by kernel_rfl)
    | false =>
      cases hi : isIn (namesQ l k) (l.getD k .nil).name with
      | true =>
        have hu : unlikeQ l = false := all_range_false hlt (by unfold okQ; rw [hn, hi]; rfl)
        rw [hu]
        rw [hi] at c
        refine Wp.go (mx := true) (fun _ => mixed) [(4, {cs := [(15, pc c)], fm := [(9, .c (encH (l.take k)))]})] 100 [true, true] [decide ((↑k : Int) < (↑l.length : Int)) = true, (0 : Int) ≤ (↑k : Int) ∧ (↑k : Int) < (↑l.length : Int), EqvI (V1.c (Cell.sl (2 : Nat) ((Int.ofNat k).toNat - (0 : Nat)) fun (i j : Nat) => nthD [Cell.str (l.getD ((0 : Nat) + i) FT.nil).name, Cell.str (l.getD ((0 : Nat) + i) FT.nil).value] j)) (V1.c (encH (List.take k l))), ((l.getD k FT.nil).name == []) = false → EqvD (V1.c (Cell.sl (2 : Nat) ((Int.ofNat k).toNat - (0 : Nat)) fun (i j : Nat) => nthD [Cell.str (l.getD ((0 : Nat) + i) FT.nil).name, Cell.str (l.getD ((0 : Nat) + i) FT.nil).value] j)) (V1.c (encH (List.take k l))), ((l.getD k FT.nil).name == []) = false → (0 : Int) ≤ Int.ofNat (0) ∧ Int.ofNat (0) ≤ Int.ofNat k ∧ Int.ofNat k ≤ (↑l.length : Int), ((l.getD k FT.nil).name == []) = false → (0 : Int) ≤ (↑k : Int) ∧ (↑k : Int) < (↑l.length : Int), (bif (l.getD k FT.nil).name == [] then true else true) = true] (by kernel_rfl) (by kernel_rfl) (by kernel_rfl) ⟨(by simp; omega), (by omega), fun _ _ => trivial, (by intro _; assumption), (by simp; omega), (by omega), (show (bif (l.getD k FT.nil).name == [] then true else true) = true from (by simp; done))⟩ ?_
        refine Wp.ret' (by kernel_rfl) ?_
        exact FinQ.pure (rs' := [V1.c (Cell.bool false)]) (by kernel_rfl) rfl (by kernel_rfl)
      | false =>
        have ho : okQ l k = true := by unfold okQ; rw [hn, hi]; rfl
        have hall' := up1 hall ho
        rw [hi] at c
        refine Wp.go (mx := true) (fun _ => mixed) [(4, {cs := [(15, pc c)], fm := [(9, .c (encH (l.take k)))]})] 100 [true, false] [decide ((↑k : Int) < (↑l.length : Int)) = true, (0 : Int) ≤ (↑k : Int) ∧ (↑k : Int) < (↑l.length : Int), EqvI (V1.c (Cell.sl (2 : Nat) ((Int.ofNat k).toNat - (0 : Nat)) fun (i j : Nat) => nthD [Cell.str (l.getD ((0 : Nat) + i) FT.nil).name, Cell.str (l.getD ((0 : Nat) + i) FT.nil).value] j)) (V1.c (encH (List.take k l))), ((l.getD k FT.nil).name == []) = false → EqvD (V1.c (Cell.sl (2 : Nat) ((Int.ofNat k).toNat - (0 : Nat)) fun (i j : Nat) => nthD [Cell.str (l.getD ((0 : Nat) + i) FT.nil).name, Cell.str (l.getD ((0 : Nat) + i) FT.nil).value] j)) (V1.c (encH (List.take k l))), ((l.getD k FT.nil).name == []) = false → (0 : Int) ≤ Int.ofNat (0) ∧ Int.ofNat (0) ≤ Int.ofNat k ∧ Int.ofNat k ≤ (↑l.length : Int), ((l.getD k FT.nil).name == []) = false → (0 : Int) ≤ (↑k : Int) ∧ (↑k : Int) < (↑l.length : Int), (bif (l.getD k FT.nil).name == [] then true else false) = false, inR IntKind.i64 ((↑k : Int) + (1 : Int))] (by kernel_rfl) (by kernel_rfl) (by kernel_rfl) ⟨(by simp; omega), (by omega), fun _ _ => trivial, (by intro _; assumption), (by simp; omega), (by omega), (by simp_all <;> omega), inR64 (by omega) (by omega)⟩ ?_
        exact Wp.lpK (by kernel_rfl) (again _ (k + 1) ⟨(by assumption), (by assumption)⟩ (by omega) (Ent.of [] (by kernel_rfl) (by kernel_rfl) (by kernel_rfl) trivial))
  · have hu : unlikeQ l = true := all_range_true (fun i hi => hall i (by omega))
    rw [hu]
    refine Wp.go (mx := true) (fun _ => mixed) [] 100 [false] [decide ((↑k : Int) < (↑l.length : Int)) = false] (by kernel_rfl) (by kernel_rfl) (by kernel_rfl) (show decide ((↑k : Int) < (↑l.length : Int)) = false from (by simp; omega)) ?_
    refine Wp.ret' (by kernel_rfl) ?_
    exact FinQ.pure (rs' := [V1.c (Cell.bool true)]) (by kernel_rfl) rfl (by kernel_rfl)
theorem target11_ok {G : Nat → Option (List Cell)} (u : UT) (h : FitU u) : Pur Tryz.prog G 62 [.agg (encU u)] [.c (.str (targetU u))] := by
  refine Pur.of Tryz.func62 (by kernel_rfl) (by kernel_rfl) (by kernel_rfl) ?_
  have hp := h.hp
  have hn := h.hn
  have hj := h.hj
  by_cases h0 : u.query.length = 0
  · have ht : targetU u = u.path := by unfold targetU; rw [if_pos h0]
    rw [ht]
    refine Wp.go (mx := true) (fun _ => mixed) [] 100 [true] [((↑u.query.length : Int) == (0 : Int)) = true] (by kernel_rfl) (by kernel_rfl) (by kernel_rfl) (show ((↑u.query.length : Int) == (0 : Int)) = true from (by simp_all <;> omega)) ?_
    refine Wp.ret' (by kernel_rfl) ?_
    exact FinQ.pure (rs' := [V1.c (Cell.str u.path)]) (by kernel_rfl) rfl (by kernel_rfl)
  · have ht : targetU u = u.path ++ [63] ++ printQ u.query := by unfold targetU; rw [if_neg h0]
    rw [ht]
    refine Wp.go (mx := true) (fun _ => mixed) [(3, {cs := [(5, pc (print10_ok u.query (by omega) (by omega)))]})] 100 [false] [((↑u.query.length : Int) == (0 : Int)) = false, u.path.length + (1 : Nat) ≤ (9223372036854775807 : Nat), (u.path ++ [(63 : UInt8)]).length + (printQ u.query).length ≤ (9223372036854775807 : Nat)] (by kernel_rfl) (by kernel_rfl) (by kernel_rfl) ⟨(by simp_all <;> omega), (by omega), (show (u.path ++ [(63 : UInt8)]).length + (printQ u.query).length ≤ (9223372036854775807 : Nat) from (by simp; omega))⟩ ?_
    refine Wp.ret' (by kernel_rfl) ?_
    exact FinQ.pure (rs' := [V1.c (Cell.str (u.path ++ [(63 : UInt8)] ++ printQ u.query))]) (by kernel_rfl) rfl (by kernel_rfl)
theorem targetU_len (u : UT) (h : FitU u) : (targetU u).length ≤ 20000000000 := by
  have hp := h.hp
  have hj := h.hj
  unfold targetU
  split
  · omega
  · simp only [List.length_append, List.length_cons, List.length_nil]; omega
theorem may11_ok {G : Nat → Option (List Cell)} (u : UT) (h : FitU u) : Pur Tryz.prog G 61 [.agg (encU u)] [.c (.bool (mayU u))] := by
  refine Pur.of Tryz.func61 (by kernel_rfl) (by kernel_rfl) (by kernel_rfl) ?_
  have hh := h.hh
  have hp := h.hp
  have hn := h.hn
  have ht := targetU_len u h
  have c := target11_ok (G := G) u h
  rw [← may_b1]
  refine Wp.go (mx := true) (fun _ => mixed) [(1, {cs := [(2, pc (host11_ok u.host (by omega))), (6, pc (path11_ok u.path (by omega))), (17, pc (unlike10_ok u.query (by omega))), (24, pc c)]})] 100 [] [(bif bif bif hostT u.host then pathT u.path else false then decide ((↑u.query.length : Int) ≤ (24 : Int)) else false then unlikeQ u.query else false) = true → (8 : Nat) + u.host.length ≤ (9223372036854775807 : Nat), (bif bif bif hostT u.host then pathT u.path else false then decide ((↑u.query.length : Int) ≤ (24 : Int)) else false then unlikeQ u.query else false) = true → ([(104 : UInt8), 116, 116, 112, 115, 58, 47, 47] ++ u.host).length + (targetU u).length ≤ (9223372036854775807 : Nat)] (by kernel_rfl) (by kernel_rfl) (by kernel_rfl) ⟨(by omega), (show (bif bif bif hostT u.host then pathT u.path else false then decide ((↑u.query.length : Int) ≤ (24 : Int)) else false then unlikeQ u.query else false) = true → ([(104 : UInt8), 116, 116, 112, 115, 58, 47, 47] ++ u.host).length + (targetU u).length ≤ (9223372036854775807 : Nat) from (by simp; omega))⟩ ?_
  refine Wp.ret' (by kernel_rfl) ?_
  exact FinQ.pure (rs' := [V1.c (Cell.bool (bif bif bif bif hostT u.host then pathT u.path else false then decide ((↑u.query.length : Int) ≤ (24 : Int)) else false then unlikeQ u.query else false then decide ((↑([(104 : UInt8), 116, 116, 112, 115, 58, 47, 47] ++ u.host ++ targetU u).length : Int) ≤ (1024 : Int)) else false))]) (by kernel_rfl) rfl (by kernel_rfl)
theorem may_b2 (u : UT) : (bif (bif bif !hostT u.host then true else !pathT u.path then true else decide ((u.query.length : Int) > 24)) then false else (bif !(!unlikeQ u.query) then decide ((8 : Int) + (u.host.length : Int) + ((targetU u).length : Int) ≤ 1024) else false)) = mayU u := by
  unfold mayU
  have h1 : decide ((u.query.length : Int) > 24) = !decide ((u.query.length : Int) ≤ 24) := by rw [← decide_not]; exact decide_eq_decide.2 (by omega)
  have h2 : decide ((([104, 116, 116, 112, 115, 58, 47, 47] ++ u.host ++ targetU u).length : Int) ≤ 1024) = decide ((8 : Int) + (u.host.length : Int) + ((targetU u).length : Int) ≤ 1024) := decide_eq_decide.2 (by simp only [List.length_append, List.length_cons, List.length_nil]; omega)
  rw [h1, h2]
  cases hostT u.host <;> cases pathT u.path <;> cases decide ((u.query.length : Int) ≤ 24) <;> cases unlikeQ u.query <;> simp
end Go.Proofs.Tw
end

section
open Go Go.Sv
namespace Go.Proofs.Tw
attribute [local irreducible] Wp FinQ resV Ent Pur Go.Sv.Fn Sat0
set_option maxRecDepth 100000
set_option maxHeartbeats 4000000
variable {G : Nat → Option (List Cell)}

/-! boxes in another form -/
theorem CEqs.at {l l' : List Cell} (h : CEqs l l') : ∀ (j : Nat) (y : Cell), l'[j]? = some y → ∃ x, l[j]? = some x ∧ CEq x y := by
  induction h with
  | nil => intro j y hj; simp at hj
  | cons h1 h2 ih =>
    intro j y hj
    cases j with
    | zero => simp at hj; subst hj; exact ⟨_, by simp, h1⟩
    | succ j => simp at hj; obtain ⟨x, hx, hc⟩ := ih j y hj; exact ⟨x, by simpa using hx, hc⟩
theorem BlkEqv.boxOf {e : TypeId} {cs cs' : List Cell} (h : CEqs cs cs') (hf : flats cs' = true) : BlkEqv (.box e cs) (.box e cs') := by
  refine ⟨fun D ρ id w hs => ?_, fun S _ => flats_inS hf S⟩
  obtain ⟨h0, vs, fz, h1, h2, h3, h4⟩ := hs
  refine ⟨h0, vs, fz, h1, by rw [h2, h.len], h3, fun j y hj => ?_⟩
  obtain ⟨x, hx, hc⟩ := h.at j y hj
  obtain ⟨u, hu, hd⟩ := h4 j x hx
  exact ⟨u, hu, hc _ _ _ hd⟩

/-! requests; what a text says -/
structure QT where
  (method target : List UInt8) (head : List FT) (body : List UInt8)
def QT.nil : QT := ⟨[], [], [], []⟩
def encQ (r : QT) : List Cell := [.str r.method, .str r.target, encH r.head, .str r.body]
def clN : List UInt8 := [99, 111, 110, 116, 101, 110, 116, 45, 108, 101, 110, 103, 116, 104]
def notCl (f : FT) : Bool := !(f.name == clN)
def tgB (c : UInt8) : Bool := 33 ≤ c && c ≤ 126
def methT (s : List UInt8) : Bool := s.all greatB && (decide (1 ≤ s.length) && decide (s.length ≤ 16))
def targT (s : List UInt8) : Bool := s.all tgB && (decide (1 ≤ s.length) && decide (s.length ≤ 1024))
def linedT (m t : List UInt8) : Bool := methT m && targT t
/-- The lines of a head, what stands behind, or why not. -/
def hdC (s : List UInt8) : List UInt8 × List UInt8 × Bool := Lib.cut s [13, 10, 13, 10]
def bigH (s : List UInt8) : Bool := bif (hdC s).2.2 then decide (((hdC s).1.length : Int) + 4 > 2048) else decide ((s.length : Int) > 2048)
def linesH (s : List UInt8) : List (List UInt8) := Lib.split (hdC s).1 [13, 10]
def splitH (s : List UInt8) : Int := if bigH s then 4 else if (hdC s).2.2 = false then 3 else if (linesH s).length > 25 then 4 else 0
/-- A line as a field. -/
def lineF (p : List UInt8) : FT := ⟨foldT (Lib.cut p [58, 32]).1, (Lib.cut p [58, 32]).2.1⟩
def okL (p : List UInt8) : Bool := (Lib.cut p [58, 32]).2.2 && (tokenT (Lib.cut p [58, 32]).1 && (Lib.cut p [58, 32]).2.1.all seenB)
def okA (acc : List FT) (p : List UInt8) : Bool := okL p && !(fGet acc (lineF p).name).isSome
def fieldsA : List (List UInt8) → List FT → List FT
  | [], acc => acc
  | p :: r, acc => if okA acc p then fieldsA r (acc ++ [lineF p]) else acc
def fieldsO : List (List UInt8) → List FT → Bool
  | [], _ => true
  | p :: r, acc => if okA acc p then fieldsO r (acc ++ [lineF p]) else false
def fieldsL (s : List UInt8) : List (List UInt8) := (linesH s).drop 1
def firstH (s : List UInt8) : List UInt8 := (linesH s).getD 0 []
/-- What content-length says of what stands behind. -/
def szE (z : List UInt8) (d : Bool) (b : List UInt8) : Int := if d then (if numK 9 z = false then 3 else if nv z > 4096 then 4 else if nv z = b.length then 0 else 3) else if b = [] then 0 else 3
def bodyE (l : List FT) (b : List UInt8) : Int := szE ((fGet l clN).getD []) (fGet l clN).isSome b
/-- A request's first line, a response's. -/
def askM (s : List UInt8) : List UInt8 := (Lib.cut s [32]).1
def askT (s : List UInt8) : List UInt8 := Lib.trimSuffix (Lib.cut s [32]).2.1 [32, 72, 84, 84, 80, 47, 49, 46, 49]
def askB (s : List UInt8) : Bool := Lib.hasSuffix (Lib.cut s [32]).2.1 [32, 72, 84, 84, 80, 47, 49, 46, 49] && linedT (askM s) (askT s)
def verS : List UInt8 := [72, 84, 84, 80, 47, 49, 46, 49, 32]
def tellC (s : List UInt8) : List UInt8 × List UInt8 × Bool := Lib.cut (Lib.trimPrefix s verS) [32]
def tellN (s : List UInt8) : Int := if numK 3 (tellC s).1 then ((nv (tellC s).1 : Nat) : Int) else 0
def tellB (s : List UInt8) : Bool := Lib.hasPrefix s verS && ((tellC s).2.2 && (numK 3 (tellC s).1 && (statedT (tellN s) && (tellC s).2.1.all seenB)))
/-- Fields and body of a text whose first line is of a kind; or why none. -/
def readH (line : List UInt8 → Bool) (s : List UInt8) : List FT × Int :=
  if splitH s ≠ 0 then ([], splitH s) else if line (firstH s) = false then ([], 3) else if fieldsO (fieldsL s) [] = false then ([], 3) else
    if bodyE (fieldsA (fieldsL s) []) (hdC s).2.1 = 0 then ((fieldsA (fieldsL s) []).filter notCl, 0) else ([], bodyE (fieldsA (fieldsL s) []) (hdC s).2.1)
def parseQ (s : List UInt8) : QT × Int := if (readH askB s).2 = 0 then (⟨askM (firstH s), askT (firstH s), (readH askB s).1, (hdC s).2.1⟩, 0) else (.nil, (readH askB s).2)
def nilR : RT := ⟨0, [], []⟩
def parseR (s : List UInt8) : RT × Int := if (readH tellB s).2 = 0 then (⟨tellN (firstH s), (readH tellB s).1, (hdC s).2.1⟩, 0) else (nilR, (readH tellB s).2)

theorem splitK_nil (sep : List UInt8) (k : Nat) (s : List UInt8) : Lib.splitK sep 0 k s ≠ [] := by
  cases k with
  | zero => simp [Lib.splitK]
  | succ k => unfold Lib.splitK; split <;> simp
end Go.Proofs.Tw
end

section
open Go Go.Sv Go.RowKit
namespace Go.Proofs.Tw
attribute [local irreducible] Wp FinQ resV Ent Pur Go.Sv.Fn Sat0
set_option maxRecDepth 100000
set_option maxHeartbeats 4000000
variable {G : Nat → Option (List Cell)}

/-! first lines -/
theorem lib_CutPrefix (s p : List UInt8) : Pur Tryz.prog G 42 [.c (.str s), .c (.str p)] [.c (.str (Lib.trimPrefix s p)), .c (.bool (Lib.hasPrefix s p))] := by
  refine Pur.of_below rfl ?_
  intro D ρ w vs h1 _ _ _
  obtain ⟨u, v, rfl, hu, hv⟩ := h1.two
  have hu : u = .string ⟨s.toArray⟩ := hu
  have hv : v = .string ⟨p.toArray⟩ := hv
  subst hu hv
  refine (Go.Proofs.Tryz.strings_CutPrefix ⟨s.toArray⟩ ⟨p.toArray⟩ w).mono ?_
  rintro e w' ⟨rfl, rfl⟩
  refine ⟨_, rfl, ⟨_, rfl, rfl, fun j x hj => ?_⟩, Below.refl _ _⟩
  match j, hj with
  | 0, hj => simp at hj; subst hj; exact ⟨_, rfl, rfl⟩
  | 1, hj => simp at hj; subst hj; exact ⟨_, rfl, rfl⟩
  | j + 2, hj => simp at hj
theorem inTarget_ok (c : UInt8) : Pur Tryz.prog G 74 [.c (.int .u8 (c.toNat : Int))] [.c (.bool (tgB c))] := by
  refine Pur.of Tryz.func74 (by kernel_rfl) (by kernel_rfl) (by kernel_rfl) ?_
  refine Wp.go (mx := true) (fun _ => mixed) [] 100 [] [] (by kernel_rfl) (by kernel_rfl) (by kernel_rfl) trivial ?_
  refine Wp.ret' (by kernel_rfl) ?_
  exact FinQ.pure (rs' := [V1.c (Cell.bool (bif decide ((↑c.toNat : Int) ≥ (33 : Int)) then decide ((↑c.toNat : Int) ≤ (126 : Int)) else false))]) (by kernel_rfl) (by revert c; refine by_all _ _ ?_; kernel_rfl) (by kernel_rfl)
theorem All_target (s : List UInt8) (hl : s.length < 4611686018427387904) : Pur Tryz.prog G 72 [.c (.str s), .c (.clo 74 0 (fun _ => none) (fun _ _ => .nilif))] [.c (.bool (s.all tgB))] := by
  refine Pur.of Tryz.func72 (by kernel_rfl) (by kernel_rfl) (by kernel_rfl) ?_
  refine Wp.go (mx := true) (fun _ => mixed) [] 100 [] [] (by kernel_rfl) (by kernel_rfl) (by kernel_rfl) trivial ?_
  refine Wp.loopK (by kernel_rfl) (fun (k : Nat) => ⟨[(0, TV.v (V1.c (Cell.str s))), (1, TV.v (V1.c (Cell.clo 74 (0 : Nat) (fun _ => none) fun _ _ => Cell.nilif))), (7, TV.v (V1.c (Cell.int .i64 (↑s.length : Int)))), (8, TV.v (V1.c (Cell.int .i64 (k : Int))))], [], 32⟩) (fun k => k ≤ s.length ∧ s.all tgB = (s.drop k).all tgB) (fun k => s.length - k) 0 (Ent.of [] (by kernel_rfl) (by kernel_rfl) (by kernel_rfl) trivial) ⟨Nat.zero_le _, rfl⟩ ?_
  intro k L ⟨hk, hq⟩ again
  rcases Nat.lt_or_ge k s.length with hlt | hge
  · rw [dropS s k hlt, List.all_cons] at hq
    refine Wp.go (mx := true) (fun _ => mixed) [(4, {cs := [(4, pc (inTarget_ok (s.getD k (0 : UInt8))))]})] 100 [true] [decide ((↑k : Int) < (↑s.length : Int)) = true, (0 : Int) ≤ (↑k : Int) ∧ (↑k : Int) < (↑s.length : Int)] (by kernel_rfl) (by kernel_rfl) (by kernel_rfl) ⟨(by simp; omega), (show (0 : Int) ≤ (↑k : Int) ∧ (↑k : Int) < (↑s.length : Int) from (by omega))⟩ ?_
    refine Wp.cond' (by kernel_rfl) (!tgB (s.getD k (0 : UInt8))) (by kernel_rfl) (fun h0 => ?_) (fun h0 => ?_)
    · have g0 := h0
      simp at g0
      refine Wp.go (mx := true) (fun _ => mixed) [] 100 [] [] (by kernel_rfl) (by kernel_rfl) (by kernel_rfl) trivial ?_
      refine Wp.ret' (by kernel_rfl) ?_
      exact FinQ.pure (rs' := [V1.c (Cell.bool false)]) (by kernel_rfl) (by simp_all; done) (by kernel_rfl)
    · have g0 := h0
      simp at g0
      refine Wp.go (mx := true) (fun _ => mixed) [] 100 [] [inR IntKind.i64 ((↑k : Int) + (1 : Int))] (by kernel_rfl) (by kernel_rfl) (by kernel_rfl) (inR64 (by omega) (by omega)) ?_
      exact Wp.lpK (by kernel_rfl) (again _ (k + 1) (⟨(by assumption), (by simp_all <;> omega)⟩) (by omega) (Ent.of [] (by kernel_rfl) (by kernel_rfl) (by kernel_rfl) trivial))
  · obtain rfl : k = s.length := by omega
    rw [List.drop_length] at hq
    refine Wp.go (mx := true) (fun _ => mixed) [] 100 [false] [decide ((↑s.length : Int) < (↑s.length : Int)) = false] (by kernel_rfl) (by kernel_rfl) (by kernel_rfl) ((show decide ((↑s.length : Int) < (↑s.length : Int)) = false from (by simp; done))) ?_
    refine Wp.ret' (by kernel_rfl) ?_
    exact FinQ.pure (rs' := [V1.c (Cell.bool true)]) (by kernel_rfl) (by rw [hq]; rfl) (by kernel_rfl)
theorem lined_b (m t : List UInt8) : (bif bif bif bif bif !(m == []) then decide ((m.length : Int) ≤ 16) else false then m.all greatB else false then !(t == []) else false then decide ((t.length : Int) ≤ 1024) else false then t.all tgB else false) = linedT m t := by
  unfold linedT methT targT
  have h1 : ∀ s : List UInt8, (!(s == [])) = decide (1 ≤ s.length) := fun s => by cases s <;> simp
  rw [h1, h1, show decide ((m.length : Int) ≤ 16) = decide (m.length ≤ 16) from decide_eq_decide.2 (by omega), show decide ((t.length : Int) ≤ 1024) = decide (t.length ≤ 1024) from decide_eq_decide.2 (by omega)]
  cases decide (1 ≤ m.length) <;> cases decide (m.length ≤ 16) <;> cases m.all greatB <;> cases decide (1 ≤ t.length) <;> cases decide (t.length ≤ 1024) <;> cases t.all tgB <;> rfl
theorem lined_ok (m t : List UInt8) (h1 : m.length < 4611686018427387904) (h2 : t.length < 4611686018427387904) : Pur Tryz.prog G 36 [.c (.str m), .c (.str t)] [.c (.bool (linedT m t))] := by
  refine Pur.of Tryz.func36 (by kernel_rfl) (by kernel_rfl) (by kernel_rfl) ?_
  rw [← lined_b]
  have c1 := All_great (G := G) m h1
  have c2 := All_target (G := G) t h2
  refine Wp.go (mx := true) (fun _ => mixed) [(1, {cs := [(9, pc c1), (22, pc c2)]})] 100 [] [] (by kernel_rfl) (by kernel_rfl) (by kernel_rfl) trivial ?_
  refine Wp.ret' (by kernel_rfl) ?_
  exact FinQ.pure (rs' := [V1.c (Cell.bool (bif bif bif bif bif !m == [] then decide ((↑m.length : Int) ≤ (16 : Int)) else false then m.all greatB else false then !t == [] else false then decide ((↑t.length : Int) ≤ (1024 : Int)) else false then t.all tgB else false))]) (by kernel_rfl) rfl (by kernel_rfl)
def qBox (r : QT) : Blk := .box 28 [.str r.method, .str r.target, .nilsl, .str []]
def rBox (n : Int) : Blk := .box 33 [.int .i64 n, .nilsl, .str []]
theorem askL_ok (hL : HasLen G) (s m t : List UInt8) (hl : s.length < 1000000000) : FnB Tryz.prog G 33 [.box 28 [.str m, .str t, .nilsl, .str []]] [.c (.str s), .c (.ptr 0 0)] [.c (.bool (askB s))] [(0, .box 28 [.str (askM s), .str (askT s), .nilsl, .str []])] := by
  refine Fn.of' Tryz.func33 (by kernel_rfl) (by kernel_rfl) (by kernel_rfl) (by kernel_rfl) trivial ?_
  obtain ⟨mx, hG⟩ := hL
  have c1 := lib_Cut hG s [32] (by omega)
  have hc := cut_len s [32]
  have c2 := lib_CutSuffix (G := G) (Lib.cut s [32]).2.1 [32, 72, 84, 84, 80, 47, 49, 46, 49] (by omega)
  have ht : (Lib.trimSuffix (Lib.cut s [32]).2.1 [32, 72, 84, 84, 80, 47, 49, 46, 49]).length ≤ s.length := by
    unfold Lib.trimSuffix
    split
    · rw [List.length_take]; omega
    · omega
  have c3 := lined_ok (G := G) (askM s) (askT s) (by unfold askM; omega) (by unfold askT; omega)
  unfold askB
  have e : (Lib.hasSuffix (Lib.cut s [32]).2.1 [32, 72, 84, 84, 80, 47, 49, 46, 49] && linedT (askM s) (askT s)) = (bif Lib.hasSuffix (Lib.cut s [32]).2.1 [32, 72, 84, 84, 80, 47, 49, 46, 49] then linedT (askM s) (askT s) else false) := by cases Lib.hasSuffix (Lib.cut s [32]).2.1 [32, 72, 84, 84, 80, 47, 49, 46, 49] <;> rfl
  rw [e]
  unfold askM askT at c3 ⊢
  refine Wp.go (mx := true) (fun _ => mixed) [(1, {cs := [(1, pc c1)]}), (2, {cs := [(1, pc c2)]}), (4, {cs := [(4, pc c3)]})] 100 [] [] (by kernel_rfl) (by kernel_rfl) (by kernel_rfl) trivial ?_
  refine Wp.ret' (by kernel_rfl) ?_
  exact FinQ.blk [] (by kernel_rfl) (by kernel_rfl) (by kernel_rfl) (by kernel_rfl) (by kernel_rfl) trivial
theorem tellL_ok (hL : HasLen G) (s : List UInt8) (n : Int) (hl : s.length < 1000000000) : FnB Tryz.prog G 41 [.box 33 [.int .i64 n, .nilsl, .str []]] [.c (.str s), .c (.ptr 0 0)] [.c (.bool (tellB s))] [(0, .box 33 [.int .i64 (tellN s), .nilsl, .str []])] := by
  refine Fn.of' Tryz.func41 (by kernel_rfl) (by kernel_rfl) (by kernel_rfl) (by kernel_rfl) trivial ?_
  obtain ⟨mx, hG⟩ := hL
  have c1 := lib_CutPrefix (G := G) s verS
  have hp : (Lib.trimPrefix s verS).length ≤ s.length := by
    unfold Lib.trimPrefix
    split
    · rw [List.length_drop]; omega
    · omega
  have c2 : Pur Tryz.prog G 34 [.c (.str (Lib.trimPrefix s verS)), .c (.str [32])] [.c (.str (tellC s).1), .c (.str (tellC s).2.1), .c (.bool (tellC s).2.2)] := lib_Cut hG _ [32] (by omega)
  have hc := cut_len (Lib.trimPrefix s verS) [32]
  have hc1 : (tellC s).1.length < 1000000000 := by unfold tellC; omega
  have hc2 : (tellC s).2.1.length < 1000000000 := by unfold tellC; omega
  have c3 : Pur Tryz.prog G 43 [.c (.str (tellC s).1), .c (.int .i64 3)] [.c (.int .i64 (tellN s)), .c (.bool (numK 3 (tellC s).1))] := by
    unfold tellN
    cases hk : numK 3 (tellC s).1 with
    | true => rw [if_pos rfl]; exact numK_yes (K := 3) (by decide) _ hk
    | false => rw [if_neg (by decide)]; exact numK_no (K := 3) _ hc1 hk
  have c4 := stated_ok (G := G) (tellN s)
  have c5 := seen_ok (G := G) (tellC s).2.1 (by omega)
  have e : tellB s = (bif bif bif bif Lib.hasPrefix s verS then (tellC s).2.2 else false then numK 3 (tellC s).1 else false then statedT (tellN s) else false then (tellC s).2.1.all seenB else false) := by
    unfold tellB
    cases Lib.hasPrefix s verS <;> cases (tellC s).2.2 <;> cases numK 3 (tellC s).1 <;> cases statedT (tellN s) <;> rfl
  rw [e]
  generalize tellN s = N at c3 c4 ⊢
  generalize tellC s = C at c2 c3 c5 ⊢
  refine Wp.go (mx := true) (fun _ => mixed) [(1, {cs := [(1, pc c1)]}), (2, {cs := [(1, pc c2)]}), (3, {cs := [(1, pc c3)]}), (5, {cs := [(9, pc c4), (13, pc c5)]})] 100 [] [] (by kernel_rfl) (by kernel_rfl) (by kernel_rfl) trivial ?_
  refine Wp.ret' (by kernel_rfl) ?_
  exact FinQ.blk [] (by kernel_rfl) (by kernel_rfl) (by kernel_rfl) (by kernel_rfl) (by kernel_rfl) trivial
end Go.Proofs.Tw
end

section
open Go Go.Sv
namespace Go.Proofs.Tw
attribute [local irreducible] Wp FinQ resV Ent Pur Go.Sv.Fn Sat0
set_option maxRecDepth 100000
set_option maxHeartbeats 4000000
variable {G : Nat → Option (List Cell)}

/-! a reader's steps -/
def rdB (f : List UInt8) (h : Cell) (b : List UInt8) (l : Cell) (z : List UInt8) (d : Bool) : Blk := .box 77 [.str f, h, .str b, l, .str z, .bool d]
def rdZ : Blk := rdB [] .nilsl [] .nilsl [] false
def encL (l : List (List UInt8)) : Cell := .sl 1 l.length (strsF l)
theorem rdz_eqv (b : List UInt8) (l : List (List UInt8)) (f : List UInt8) : BlkEqv (rdB f .nilsl b (encL l) [] false) (rdB f (encH []) b (encL l) [] false) :=
  BlkEqv.boxOf (.cons CEq.rfl' (.cons CEq.nil (.cons CEq.rfl' (.cons CEq.rfl' (.cons CEq.rfl' (.cons CEq.rfl' .nil)))))) (by kernel_rfl)
theorem rdz_eqv0 : BlkEqv rdZ (rdB [] (encH []) [] (encL []) [] false) :=
  BlkEqv.boxOf (.cons CEq.rfl' (.cons CEq.nil (.cons CEq.rfl' (.cons CEq.nil (.cons CEq.rfl' (.cons CEq.rfl' .nil)))))) (by kernel_rfl)
theorem rcut_big (hL : HasLen G) (s : List UInt8) (hl : s.length < 1000000000) (h : bigH s = true) : FnB Tryz.prog G 67 [rdZ] [.c (.ptr 0 0), .c (.str s)] [.c (.int .i64 4)] [(0, rdB [] (encH []) [] (encL []) [] false)] := by
  refine Fn.of' Tryz.func67 (by kernel_rfl) (by kernel_rfl) (by kernel_rfl) (by kernel_rfl) trivial ?_
  obtain ⟨mx, hG⟩ := hL
  have c1 : Pur Tryz.prog G 34 [.c (.str s), .c (.str [13, 10, 13, 10])] [.c (.str (hdC s).1), .c (.str (hdC s).2.1), .c (.bool (hdC s).2.2)] := lib_Cut hG s [13, 10, 13, 10] (by omega)
  have hc : (hdC s).1.length ≤ s.length := (cut_len s [13, 10, 13, 10]).1
  unfold bigH at h
  generalize hdC s = C at c1 h hc
  cases hi : C.2.2 with
  | true =>
    rw [hi] at c1 h
    have ht : (bif true then decide ((C.1.length : Int) + 4 > 2048) else false) = true := h
    have hr : true = true → inR IntKind.i64 ((C.1.length : Int) + 4) := fun _ => inR64 (by omega) (by omega)
    refine Wp.go (mx := true) (fun _ => mixed) [(1, {cs := [(1, pc c1)]})] 100 [true, true] [true = true → inR IntKind.i64 ((↑C.1.length : Int) + (4 : Int)), (bif true then decide ((↑C.1.length : Int) + (4 : Int) > (2048 : Int)) else false) = true, (bif true then decide ((↑C.1.length : Int) + (4 : Int) > (2048 : Int)) else false) = true] (by kernel_rfl) (by kernel_rfl) (by kernel_rfl) ⟨(by assumption), (by assumption), (show (bif true then decide ((↑C.1.length : Int) + (4 : Int) > (2048 : Int)) else false) = true from (by assumption))⟩ ?_
    refine Wp.ent' (by kernel_rfl) (Ent.blkE (id := 0) (b := rdZ) (b' := rdB [] (encH []) [] (encL []) [] false) (by kernel_rfl) rdz_eqv0 rfl) ?_
    refine Wp.ret' (by kernel_rfl) ?_
    exact FinQ.blk [] (by kernel_rfl) (by kernel_rfl) (by kernel_rfl) (by kernel_rfl) (by kernel_rfl) trivial
  | false =>
    rw [hi] at c1 h
    have ht : (bif !false then decide ((s.length : Int) > 2048) else false) = true := h
    refine Wp.go (mx := true) (fun _ => mixed) [(1, {cs := [(1, pc c1)]})] 100 [false, true] [false = true → inR IntKind.i64 ((↑C.1.length : Int) + (4 : Int)), (bif false then decide ((↑C.1.length : Int) + (4 : Int) > (2048 : Int)) else false) = false, (bif !false then decide ((↑s.length : Int) > (2048 : Int)) else false) = true] (by kernel_rfl) (by kernel_rfl) (by kernel_rfl) ⟨(by simp; done), rfl, (show (bif !false then decide ((↑s.length : Int) > (2048 : Int)) else false) = true from (by assumption))⟩ ?_
    refine Wp.ent' (by kernel_rfl) (Ent.blkE (id := 0) (b := rdZ) (b' := rdB [] (encH []) [] (encL []) [] false) (by kernel_rfl) rdz_eqv0 rfl) ?_
    refine Wp.ret' (by kernel_rfl) ?_
    exact FinQ.blk [] (by kernel_rfl) (by kernel_rfl) (by kernel_rfl) (by kernel_rfl) (by kernel_rfl) trivial
theorem rcut_form (hL : HasLen G) (s : List UInt8) (hl : s.length < 1000000000) (h : bigH s = false) (hi : (hdC s).2.2 = false) : FnB Tryz.prog G 67 [rdZ] [.c (.ptr 0 0), .c (.str s)] [.c (.int .i64 3)] [(0, rdB [] (encH []) [] (encL []) [] false)] := by
  refine Fn.of' Tryz.func67 (by kernel_rfl) (by kernel_rfl) (by kernel_rfl) (by kernel_rfl) trivial ?_
  obtain ⟨mx, hG⟩ := hL
  have c1 : Pur Tryz.prog G 34 [.c (.str s), .c (.str [13, 10, 13, 10])] [.c (.str (hdC s).1), .c (.str (hdC s).2.1), .c (.bool (hdC s).2.2)] := lib_Cut hG s [13, 10, 13, 10] (by omega)
  unfold bigH at h
  generalize hdC s = C at c1 h hi
  rw [hi] at c1 h
  have ht : (bif !false then decide ((s.length : Int) > 2048) else false) = false := h
  refine Wp.go (mx := true) (fun _ => mixed) [(1, {cs := [(1, pc c1)]})] 100 [false, false, true] [false = true → inR IntKind.i64 ((↑C.1.length : Int) + (4 : Int)), (bif false then decide ((↑C.1.length : Int) + (4 : Int) > (2048 : Int)) else false) = false, (bif !false then decide ((↑s.length : Int) > (2048 : Int)) else false) = false, (!false) = true] (by kernel_rfl) (by kernel_rfl) (by kernel_rfl) ⟨(by simp; done), rfl, (by assumption), rfl⟩ ?_
  refine Wp.ent' (by kernel_rfl) (Ent.blkE (id := 0) (b := rdZ) (b' := rdB [] (encH []) [] (encL []) [] false) (by kernel_rfl) rdz_eqv0 rfl) ?_
  refine Wp.ret' (by kernel_rfl) ?_
  exact FinQ.blk [] (by kernel_rfl) (by kernel_rfl) (by kernel_rfl) (by kernel_rfl) (by kernel_rfl) trivial
theorem rcut_many (hL : HasLen G) (s : List UInt8) (hl : s.length < 1000000000) (h : bigH s = false) (hi : (hdC s).2.2 = true) (hm : (linesH s).length > 25) : FnB Tryz.prog G 67 [rdZ] [.c (.ptr 0 0), .c (.str s)] [.c (.int .i64 4)] [(0, rdB [] (encH []) (hdC s).2.1 (encL (linesH s)) [] false)] := by
  refine Fn.of' Tryz.func67 (by kernel_rfl) (by kernel_rfl) (by kernel_rfl) (by kernel_rfl) trivial ?_
  obtain ⟨mx, hG⟩ := hL
  have c1 : Pur Tryz.prog G 34 [.c (.str s), .c (.str [13, 10, 13, 10])] [.c (.str (hdC s).1), .c (.str (hdC s).2.1), .c (.bool (hdC s).2.2)] := lib_Cut hG s [13, 10, 13, 10] (by omega)
  have hc : (hdC s).1.length ≤ s.length := (cut_len s [13, 10, 13, 10]).1
  have c2 : Pur Tryz.prog G 98 [.c (.str (hdC s).1), .c (.str [13, 10])] [.c (.sl 1 (linesH s).length (strsF (linesH s)))] := lib_Split hG (hdC s).1 [13, 10] (by omega) (by decide)
  unfold bigH at h
  generalize linesH s = L at c2 hm ⊢
  generalize hdC s = C at c1 c2 h hi hc ⊢
  rw [hi] at c1 h
  have ht : (bif true then decide ((C.1.length : Int) + 4 > 2048) else false) = false := h
  have hr : true = true → inR IntKind.i64 ((C.1.length : Int) + 4) := fun _ => inR64 (by omega) (by omega)
  have ht2 : (bif !true then decide ((s.length : Int) > 2048) else false) = false := rfl
  have ht3 : decide ((L.length : Int) > 25) = true := by simp; omega
  refine Wp.go (mx := true) (fun _ => mixed) [(1, {cs := [(1, pc c1)]}), (7, {cs := [(3, pc c2)]})] 100 [false, false, false, true] [true = true → inR IntKind.i64 ((↑C.1.length : Int) + (4 : Int)), (bif true then decide ((↑C.1.length : Int) + (4 : Int) > (2048 : Int)) else false) = false, (bif !true then decide ((↑s.length : Int) > (2048 : Int)) else false) = false, (!true) = false, decide ((↑L.length : Int) > (25 : Int)) = true] (by kernel_rfl) (by kernel_rfl) (by kernel_rfl) ⟨(by assumption), (by assumption), rfl, rfl, (show decide ((↑L.length : Int) > (25 : Int)) = true from (by assumption))⟩ ?_
  refine Wp.ent' (by kernel_rfl) (Ent.blkE (id := 0) (b := rdB [] .nilsl C.2.1 (encL L) [] false) (b' := rdB [] (encH []) C.2.1 (encL L) [] false) (by kernel_rfl) (rdz_eqv _ _ _) rfl) ?_
  refine Wp.ret' (by kernel_rfl) ?_
  exact FinQ.blk [] (by kernel_rfl) (by kernel_rfl) (by kernel_rfl) (by kernel_rfl) (by kernel_rfl) trivial
theorem drop1_eqv (L : List (List UInt8)) (n : Nat) (hn : n = L.length - 1) : EqvD (.c (.sl 1 n (fun i j => strsF L (1 + i) j))) (.c (encL (L.drop 1))) := by
  refine EqvD.sl (by rw [hn, List.length_drop]) fun i hi j hj => ?_
  unfold strsF
  rw [List.getD_eq_getElem?_getD, List.getD_eq_getElem?_getD, List.getElem?_drop]
theorem rcut_yes (hL : HasLen G) (s : List UInt8) (hl : s.length < 1000000000) (h : bigH s = false) (hi : (hdC s).2.2 = true) (hm : (linesH s).length ≤ 25) : FnB Tryz.prog G 67 [rdZ] [.c (.ptr 0 0), .c (.str s)] [.c (.int .i64 0)] [(0, rdB (firstH s) .nilsl (hdC s).2.1 (encL (fieldsL s)) [] false)] := by
  refine Fn.of' Tryz.func67 (by kernel_rfl) (by kernel_rfl) (by kernel_rfl) (by kernel_rfl) trivial ?_
  obtain ⟨mx, hG⟩ := hL
  have c1 : Pur Tryz.prog G 34 [.c (.str s), .c (.str [13, 10, 13, 10])] [.c (.str (hdC s).1), .c (.str (hdC s).2.1), .c (.bool (hdC s).2.2)] := lib_Cut hG s [13, 10, 13, 10] (by omega)
  have hc : (hdC s).1.length ≤ s.length := (cut_len s [13, 10, 13, 10]).1
  have c2 : Pur Tryz.prog G 98 [.c (.str (hdC s).1), .c (.str [13, 10])] [.c (.sl 1 (linesH s).length (strsF (linesH s)))] := lib_Split hG (hdC s).1 [13, 10] (by omega) (by decide)
  have hpos : 1 ≤ (linesH s).length := by
    unfold linesH Lib.split
    exact List.length_pos_iff.2 (splitK_nil _ _ _)
  unfold bigH at h
  unfold firstH fieldsL
  generalize linesH s = L at c2 hm hpos ⊢
  generalize hdC s = C at c1 c2 h hi hc ⊢
  rw [hi] at c1 h
  have ht : (bif true then decide ((C.1.length : Int) + 4 > 2048) else false) = false := h
  have hr : true = true → inR IntKind.i64 ((C.1.length : Int) + 4) := fun _ => inR64 (by omega) (by omega)
  have ht2 : (bif !true then decide ((s.length : Int) > 2048) else false) = false := rfl
  have ht3 : decide ((L.length : Int) > 25) = false := by simp; omega
  have e1 := drop1_eqv L (L.length - 1) rfl
  refine Wp.go (mx := true) (fun _ => mixed) [(10, {fm := [(12, .c (encL (L.drop 1)))]}), (1, {cs := [(1, pc c1)]}), (7, {cs := [(3, pc c2)]})] 100 [false, false, false, false] [true = true → inR IntKind.i64 ((↑C.1.length : Int) + (4 : Int)), (bif true then decide ((↑C.1.length : Int) + (4 : Int) > (2048 : Int)) else false) = false, (bif !true then decide ((↑s.length : Int) > (2048 : Int)) else false) = false, (!true) = false, decide ((↑L.length : Int) > (25 : Int)) = false, (0 : Int) ≤ (0 : Int) ∧ (0 : Int) < (↑L.length : Int), EqvI (V1.c (Cell.sl (1 : Nat) ((Int.ofNat L.length).toNat - (1 : Nat)) fun (i j : Nat) => strsF L ((1 : Nat) + i) j)) (V1.c (encL (List.drop (1 : Nat) L))), EqvD (V1.c (Cell.sl (1 : Nat) ((Int.ofNat L.length).toNat - (1 : Nat)) fun (i j : Nat) => strsF L ((1 : Nat) + i) j)) (V1.c (encL (List.drop (1 : Nat) L))), (0 : Int) ≤ Int.ofNat (1) ∧ Int.ofNat (1) ≤ Int.ofNat L.length ∧ Int.ofNat L.length ≤ (↑L.length : Int)] (by kernel_rfl) (by kernel_rfl) (by kernel_rfl) ⟨(by assumption), (by assumption), rfl, rfl, (by assumption), (by omega), fun _ _ => trivial, (by assumption), ⟨(by decide), ⟨(by simp; omega), (by simp; done)⟩⟩⟩ ?_
  refine Wp.ret' (by kernel_rfl) ?_
  exact FinQ.blk [] (by kernel_rfl) (by kernel_rfl) (by kernel_rfl) (by kernel_rfl) (by kernel_rfl) trivial
theorem rsized_ok (f b z : List UInt8) (d : Bool) (hd : List FT) (l : List (List UInt8)) (hb : b.length < 1000000000) (hz : z.length < 1000000000) : FnB Tryz.prog G 69 [rdB f (encH hd) b (encL l) z d] [.c (.ptr 0 0)] [.c (.int .i64 (szE z d b))] [(0, rdB f (encH hd) b (encL l) z d)] := by
  refine Fn.of' Tryz.func69 (by kernel_rfl) (by kernel_rfl) (by kernel_rfl) (by kernel_rfl) trivial ?_
  unfold szE
  cases d with
  | false =>
    rw [if_neg (by decide)]
    by_cases hbe : b = []
    · rw [if_pos hbe]
      have ht : ((0 : Int) != (b.length : Int)) = false := by rw [hbe]; rfl
      refine Wp.go (mx := true) (fun _ => mixed) [] 100 [false, false, false, false] [false = false, (!true) = false, decide ((0 : Int) > (4096 : Int)) = false, ((0 : Int) != (↑b.length : Int)) = false] (by kernel_rfl) (by kernel_rfl) (by kernel_rfl) ⟨rfl, rfl, rfl, (show ((0 : Int) != (↑b.length : Int)) = false from (by assumption))⟩ ?_
      refine Wp.ret' (by kernel_rfl) ?_
      exact FinQ.blk [] (by kernel_rfl) (by kernel_rfl) (by kernel_rfl) (by kernel_rfl) (by kernel_rfl) trivial
    · rw [if_neg hbe]
      have ht : ((0 : Int) != (b.length : Int)) = true := by
        have : b.length ≠ 0 := fun h => hbe (List.length_eq_zero_iff.1 h)
        simp; omega
      refine Wp.go (mx := true) (fun _ => mixed) [] 100 [false, false, false, true] [false = false, (!true) = false, decide ((0 : Int) > (4096 : Int)) = false, ((0 : Int) != (↑b.length : Int)) = true] (by kernel_rfl) (by kernel_rfl) (by kernel_rfl) ⟨rfl, rfl, rfl, (show ((0 : Int) != (↑b.length : Int)) = true from (by assumption))⟩ ?_
      refine Wp.ret' (by kernel_rfl) ?_
      exact FinQ.blk [] (by kernel_rfl) (by kernel_rfl) (by kernel_rfl) (by kernel_rfl) (by kernel_rfl) trivial
  | true =>
    rw [if_pos rfl]
    cases hn : numK 9 z with
    | false =>
      rw [if_pos rfl]
      have c := numK_no (G := G) (K := 9) z hz hn
      refine Wp.go (mx := true) (fun _ => mixed) [(3, {cs := [(4, pc c)]})] 100 [true, true] [true = true, (!false) = true] (by kernel_rfl) (by kernel_rfl) (by kernel_rfl) ⟨rfl, rfl⟩ ?_
      refine Wp.ret' (by kernel_rfl) ?_
      exact FinQ.blk [] (by kernel_rfl) (by kernel_rfl) (by kernel_rfl) (by kernel_rfl) (by kernel_rfl) trivial
    | true =>
      rw [if_neg (by decide)]
      have c := numK_yes (G := G) (K := 9) (by decide) z hn
      generalize nv z = N at c ⊢
      by_cases h4 : N > 4096
      · rw [if_pos h4]
        have ht : decide ((N : Int) > 4096) = true := by simp; omega
        refine Wp.go (mx := true) (fun _ => mixed) [(3, {cs := [(4, pc c)]})] 100 [true, false, true] [true = true, (!true) = false, decide ((↑N : Int) > (4096 : Int)) = true] (by kernel_rfl) (by kernel_rfl) (by kernel_rfl) ⟨rfl, rfl, (show decide ((↑N : Int) > (4096 : Int)) = true from (by assumption))⟩ ?_
        refine Wp.ret' (by kernel_rfl) ?_
        exact FinQ.blk [] (by kernel_rfl) (by kernel_rfl) (by kernel_rfl) (by kernel_rfl) (by kernel_rfl) trivial
      · rw [if_neg h4]
        have ht : decide ((N : Int) > 4096) = false := by simp; omega
        by_cases h5 : N = b.length
        · rw [if_pos h5]
          have ht2 : ((N : Int) != (b.length : Int)) = false := by simp; omega
          refine Wp.go (mx := true) (fun _ => mixed) [(3, {cs := [(4, pc c)]})] 100 [true, false, false, false] [true = true, (!true) = false, decide ((↑N : Int) > (4096 : Int)) = false, ((↑N : Int) != (↑b.length : Int)) = false] (by kernel_rfl) (by kernel_rfl) (by kernel_rfl) ⟨rfl, rfl, (by assumption), (show ((↑N : Int) != (↑b.length : Int)) = false from (by assumption))⟩ ?_
          refine Wp.ret' (by kernel_rfl) ?_
          exact FinQ.blk [] (by kernel_rfl) (by kernel_rfl) (by kernel_rfl) (by kernel_rfl) (by kernel_rfl) trivial
        · rw [if_neg h5]
          have ht2 : ((N : Int) != (b.length : Int)) = true := by simp; omega
          refine Wp.go (mx := true) (fun _ => mixed) [(3, {cs := [(4, pc c)]})] 100 [true, false, false, true] [true = true, (!true) = false, decide ((↑N : Int) > (4096 : Int)) = false, ((↑N : Int) != (↑b.length : Int)) = true] (by kernel_rfl) (by kernel_rfl) (by kernel_rfl) ⟨rfl, rfl, (by assumption), (show ((↑N : Int) != (↑b.length : Int)) = true from (by assumption))⟩ ?_
          refine Wp.ret' (by kernel_rfl) ?_
          exact FinQ.blk [] (by kernel_rfl) (by kernel_rfl) (by kernel_rfl) (by kernel_rfl) (by kernel_rfl) trivial
end Go.Proofs.Tw
end

section
open Go Go.Sv Go.RowKit
namespace Go.Proofs.Tw
attribute [local irreducible] Wp FinQ resV Ent Pur Go.Sv.Fn Sat0
set_option maxRecDepth 100000
set_option maxHeartbeats 4000000
variable {G : Nat → Option (List Cell)}

theorem fGet_con (l : List FT) (n : List UInt8) : (l.map (·.name)).contains n = (fGet l n).isSome := by
  induction l with
  | nil => rfl
  | cons x l ih =>
    rw [fGet_cons, List.map_cons, List.contains_cons, ih]
    cases h : (x.name == n) with
    | true => rw [show (n == x.name) = true from by rw [eq_of_beq h]; simp]; rfl
    | false => rw [show (n == x.name) = false from by rw [beq_eq_false_iff_ne] at h ⊢; exact fun e => h e.symm]; rfl
theorem fGet_snoc (l : List FT) (x : FT) (n : List UInt8) : fGet (l ++ [x]) n = match fGet l n with
    | some v => some v
    | none => if x.name == n then some x.value else none := by
  induction l with
  | nil => rw [List.nil_append, fGet_cons, fGet_nil]
  | cons y l ih =>
    rw [List.cons_append, fGet_cons, fGet_cons, ih]
    split <;> rfl
theorem filt_cl (acc : List FT) (x : FT) (h : (x.name == clN) = true) : (acc ++ [x]).filter notCl = acc.filter notCl := by
  rw [List.filter_append]; simp [notCl, h]
theorem filt_no (acc : List FT) (x : FT) (h : (x.name == clN) = false) : (acc ++ [x]).filter notCl = acc.filter notCl ++ [x] := by
  rw [List.filter_append]; simp [notCl, h]
theorem snoc_cl (acc : List FT) (x : FT) (h : (x.name == clN) = true) (hn : fGet acc clN = none) : fGet (acc ++ [x]) clN = some x.value := by
  rw [fGet_snoc, hn]; simp only [h]; rfl
theorem snoc_no (acc : List FT) (x : FT) (h : (x.name == clN) = false) : fGet (acc ++ [x]) clN = fGet acc clN := by
  rw [fGet_snoc]; cases fGet acc clN <;> simp [h]
theorem fA_step (l : List (List UInt8)) (acc : List FT) (k : Nat) (hk : k < l.length) : fieldsA (l.drop k) acc = if okA acc (l.getD k []) then fieldsA (l.drop (k + 1)) (acc ++ [lineF (l.getD k [])]) else acc := by
  rw [dropM l [] k hk, fieldsA]
theorem fO_step (l : List (List UInt8)) (acc : List FT) (k : Nat) (hk : k < l.length) : fieldsO (l.drop k) acc = if okA acc (l.getD k []) then fieldsO (l.drop (k + 1)) (acc ++ [lineF (l.getD k [])]) else false := by
  rw [dropM l [] k hk, fieldsO]
theorem okA_b (c t s h : Bool) : (bif bif bif !c then true else !t then true else !s then true else h) = !((c && (t && s)) && !h) := by
  cases c <;> cases t <;> cases s <;> cases h <;> rfl
theorem rfields_ok (hL : HasLen G) (f b : List UInt8) (l : List (List UInt8)) (hl : ∀ k, (l.getD k []).length < 1000000000) (hn : l.length < 1000000) : FnB Tryz.prog G 68 [rdB f .nilsl b (encL l) [] false] [.c (.ptr 0 0)] [.c (.int .i64 (if fieldsO l [] then 0 else 3))]
    [(0, rdB f (encH ((fieldsA l []).filter notCl)) b (encL l) ((fGet (fieldsA l []) clN).getD []) (fGet (fieldsA l []) clN).isSome)] := by
  refine Fn.of' Tryz.func68 (by kernel_rfl) (by kernel_rfl) (by kernel_rfl) (by kernel_rfl) trivial ?_
  obtain ⟨mx, hG⟩ := hL
  refine Wp.go (mx := true) (fun _ => mixed) [] 100 [] [] (by kernel_rfl) (by kernel_rfl) (by kernel_rfl) trivial ?_
  refine Wp.loopK (by kernel_rfl) (fun (x : Nat × Nat × List FT × List FT × List UInt8 × Bool) => ⟨[(0, TV.v (V1.c (Cell.ptr 0 0))), (3, TV.v (V1.c (Cell.map 17))), (14, TV.v (V1.c (Cell.sl 1 l.length (strsF l)))), (15, TV.v (V1.c (Cell.int .i64 (l.length : Int)))), (16, TV.v (V1.c (Cell.int .i64 (x.1 : Int))))], [(0, Blk.box 77 [.str f, .row 2 145 0 x.2.1, .str b, encL l, .str x.2.2.2.2.1, .bool x.2.2.2.2.2]), (17, Blk.ob (Ob.ms (seenL (x.2.2.1.map (·.name))))), (145, Blk.row 40 2 x.2.1 (rowF encF .nil x.2.2.2.1))], 161⟩)
    (fun x => x.1 ≤ l.length ∧ x.2.1 = x.2.2.2.1.length ∧ x.2.1 ≤ x.1 ∧ fieldsA l [] = fieldsA (l.drop x.1) x.2.2.1 ∧ fieldsO l [] = fieldsO (l.drop x.1) x.2.2.1 ∧ x.2.2.2.1 = x.2.2.1.filter notCl ∧ x.2.2.2.2.1 = (fGet x.2.2.1 clN).getD [] ∧ x.2.2.2.2.2 = (fGet x.2.2.1 clN).isSome) (fun x => l.length - x.1) (0, 0, [], [], [], false)
    (Ent.trans (Ent.empC (b := 0) (o := 1) (sz := 2) (e := 40) (e' := 77) (cs := [.str f, .nilsl, .str b, encL l, .str [], .bool false]) (f := rowF encF .nil []) (by decide) (of_decide_eq_true (by kernel_rfl)) (by kernel_rfl) (by kernel_rfl) rfl) (Ent.of [] (by kernel_rfl) (by kernel_rfl) (by kernel_rfl) trivial)) ⟨Nat.zero_le _, rfl, Nat.le_refl _, rfl, rfl, rfl, rfl, rfl⟩ ?_
  rintro ⟨k, n, acc, H, z, d⟩ L ⟨hk, hnH, hnk, hA, hO, hH, hz, hd⟩ again
  simp only at hk hnH hnk hA hO hH hz hd
  rcases Nat.lt_or_ge k l.length with hlt | hge
  · rw [fA_step l acc k hlt] at hA
    rw [fO_step l acc k hlt] at hO
    have hp := hl k
    have hcl := cut_len (l.getD k []) [58, 32]
    have c1 := lib_Cut (G := G) hG (l.getD k []) [58, 32] (by omega)
    have c2 := fold_ok (G := G) (Lib.cut (l.getD k []) [58, 32]).1 (by omega)
    have c3 := token_ok (G := G) (Lib.cut (l.getD k []) [58, 32]).1 (by omega)
    have c4 := seen_ok (G := G) (Lib.cut (l.getD k []) [58, 32]).2.1 (by omega)
    have e0 : EqvD (mget (seenL (acc.map (·.name))) (foldT (Lib.cut (l.getD k []) [58, 32]).1) (.c (.bool false))) (.c (.bool ((acc.map (·.name)).contains (lineF (l.getD k [])).name))) := eqvD_of (seenL_get _ _)
    have ht := okA_b (Lib.cut (l.getD k []) [58, 32]).2.2 (tokenT (Lib.cut (l.getD k []) [58, 32]).1) ((Lib.cut (l.getD k []) [58, 32]).2.1.all seenB) ((acc.map (·.name)).contains (lineF (l.getD k [])).name)
    rw [show (((Lib.cut (l.getD k []) [58, 32]).2.2 && (tokenT (Lib.cut (l.getD k []) [58, 32]).1 && (Lib.cut (l.getD k []) [58, 32]).2.1.all seenB)) && !((acc.map (·.name)).contains (lineF (l.getD k [])).name)) = okA acc (l.getD k []) from by rw [fGet_con]; rfl] at ht
    cases hok : okA acc (l.getD k []) with
    | false =>
      rw [hok, if_neg (by decide)] at hA hO
      rw [hA, hO, ← hH, ← hz, ← hd]
      rw [hok] at ht
      have ht : (bif bif bif !(Lib.cut (l.getD k []) [58, 32]).2.2 then true else !tokenT (Lib.cut (l.getD k []) [58, 32]).1 then true else !(Lib.cut (l.getD k []) [58, 32]).2.1.all seenB then true else (acc.map (·.name)).contains (lineF (l.getD k [])).name) = true := ht
      clear hA hO hok hH hz hd
      refine Wp.ent' (by kernel_rfl) (Ent.pubC (id := 145) (b := 0) (o := 1) (off := 0) (m := n) (sz := 2) (n := n) (e := 40) (e' := 77) (cs := [.str f, .row 2 145 0 n, .str b, encL l, .str z, .bool d]) (f := rowF encF .nil H) (m' := H.length) (f' := fun i j => nthD (encF (H.getD i .nil)) j) (by kernel_rfl) (by kernel_rfl) (by kernel_rfl) (by omega) hnH (fun i _ j hj => by rw [Nat.zero_add]; rfl) rfl) ?_
      refine Wp.go (mx := true) (fun _ => mixed) [(7, {cs := [(4, pc c3), (9, pc c4)], fm := [(15, .c (.bool ((acc.map (·.name)).contains (lineF (l.getD k [])).name)))]}), (5, {cs := [(1, pc c1)]}), (6, {cs := [(1, pc c2)]})] 100 [true, true] [decide ((↑k : Int) < (↑l.length : Int)) = true, (0 : Int) ≤ (↑k : Int) ∧ (↑k : Int) < (↑l.length : Int), EqvI (mget (seenL (List.map (fun (x : FT) => x.name) acc)) (foldT (Lib.cut (l.getD k []) [(58 : UInt8), 32]).1) (V1.c (Cell.bool false))) (V1.c (Cell.bool ((List.map (fun (x : FT) => x.name) acc).contains (lineF (l.getD k [])).name))), (bif bif !(Lib.cut (l.getD k []) [(58 : UInt8), 32]).2.snd then true else !tokenT (Lib.cut (l.getD k []) [(58 : UInt8), 32]).1 then true else !(Lib.cut (l.getD k []) [(58 : UInt8), 32]).2.fst.all seenB) = false → EqvD (mget (seenL (List.map (fun (x : FT) => x.name) acc)) (foldT (Lib.cut (l.getD k []) [(58 : UInt8), 32]).1) (V1.c (Cell.bool false))) (V1.c (Cell.bool ((List.map (fun (x : FT) => x.name) acc).contains (lineF (l.getD k [])).name))), (bif bif bif !(Lib.cut (l.getD k []) [(58 : UInt8), 32]).2.snd then true else !tokenT (Lib.cut (l.getD k []) [(58 : UInt8), 32]).1 then true else !(Lib.cut (l.getD k []) [(58 : UInt8), 32]).2.fst.all seenB then true else (List.map (fun (x : FT) => x.name) acc).contains (lineF (l.getD k [])).name) = true] (by kernel_rfl) (by kernel_rfl) (by kernel_rfl) ⟨(by simp; omega), (by omega), fun _ _ => trivial, (by intro _; assumption), (show (bif bif bif !(Lib.cut (l.getD k []) [(58 : UInt8), 32]).2.snd then true else !tokenT (Lib.cut (l.getD k []) [(58 : UInt8), 32]).1 then true else !(Lib.cut (l.getD k []) [(58 : UInt8), 32]).2.fst.all seenB then true else (List.map (fun (x : FT) => x.name) acc).contains (lineF (l.getD k [])).name) = true from (by assumption))⟩ ?_
      refine Wp.ret' (by kernel_rfl) ?_
      exact FinQ.blk [] (by kernel_rfl) (by kernel_rfl) (by kernel_rfl) (by kernel_rfl) (by kernel_rfl) trivial
    | true =>
      rw [hok, if_pos rfl] at hA hO
      rw [hok] at ht
      have ht : (bif bif bif !(Lib.cut (l.getD k []) [58, 32]).2.2 then true else !tokenT (Lib.cut (l.getD k []) [58, 32]).1 then true else !(Lib.cut (l.getD k []) [58, 32]).2.1.all seenB then true else (acc.map (·.name)).contains (lineF (l.getD k [])).name) = false := ht
      have hno : (fGet acc (lineF (l.getD k [])).name) = none := by
        unfold okA at hok
        cases hg : fGet acc (lineF (l.getD k [])).name with
        | none => rfl
        | some v => rw [hg] at hok; simp at hok
      have hc : (acc.map (·.name)).contains (lineF (l.getD k [])).name = false := by rw [fGet_con, hno]; rfl
      have e2 : BlkEqv (.ob (.ms (mset (seenL (acc.map (·.name))) (lineF (l.getD k [])).name (.c (.bool true))))) (.ob (.ms (seenL ((acc ++ [lineF (l.getD k [])]).map (·.name))))) := BlkEqv.of_eq (by rw [seenL_set _ _ hc, List.map_append]; rfl)
      cases hcl2 : ((lineF (l.getD k [])).name == clN) with
      | true =>
        have hcl3 : (foldT (Lib.cut (l.getD k []) [58, 32]).1 == clN) = true := hcl2
        have hnone : fGet acc clN = none := by rw [← eq_of_beq hcl2]; exact hno
        have f1 : H = (acc ++ [lineF (l.getD k [])]).filter notCl := by rw [filt_cl _ _ hcl2, ← hH]
        have f2 : (Lib.cut (l.getD k []) [58, 32]).2.1 = (fGet (acc ++ [lineF (l.getD k [])]) clN).getD [] := by rw [snoc_cl _ _ hcl2 hnone]; rfl
        have f3 : true = (fGet (acc ++ [lineF (l.getD k [])]) clN).isSome := by rw [snoc_cl _ _ hcl2 hnone]; rfl
        clear hok hno hc hnone hcl2 hH hz hd
        refine Wp.go (mx := true) (fun _ => mixed) [(7, {cs := [(4, pc c3), (9, pc c4)], fm := [(15, .c (.bool ((acc.map (·.name)).contains (lineF (l.getD k [])).name)))]}), (9, {bs := [(2, .ob (.ms (seenL ((acc ++ [lineF (l.getD k [])]).map (·.name)))))]}), (5, {cs := [(1, pc c1)]}), (6, {cs := [(1, pc c2)]})] 100 [true, false, true] [decide ((↑k : Int) < (↑l.length : Int)) = true, (0 : Int) ≤ (↑k : Int) ∧ (↑k : Int) < (↑l.length : Int), EqvI (mget (seenL (List.map (fun (x : FT) => x.name) acc)) (foldT (Lib.cut (l.getD k []) [(58 : UInt8), 32]).1) (V1.c (Cell.bool false))) (V1.c (Cell.bool ((List.map (fun (x : FT) => x.name) acc).contains (lineF (l.getD k [])).name))), (bif bif !(Lib.cut (l.getD k []) [(58 : UInt8), 32]).2.snd then true else !tokenT (Lib.cut (l.getD k []) [(58 : UInt8), 32]).1 then true else !(Lib.cut (l.getD k []) [(58 : UInt8), 32]).2.fst.all seenB) = false → EqvD (mget (seenL (List.map (fun (x : FT) => x.name) acc)) (foldT (Lib.cut (l.getD k []) [(58 : UInt8), 32]).1) (V1.c (Cell.bool false))) (V1.c (Cell.bool ((List.map (fun (x : FT) => x.name) acc).contains (lineF (l.getD k [])).name))), (bif bif bif !(Lib.cut (l.getD k []) [(58 : UInt8), 32]).2.snd then true else !tokenT (Lib.cut (l.getD k []) [(58 : UInt8), 32]).1 then true else !(Lib.cut (l.getD k []) [(58 : UInt8), 32]).2.fst.all seenB then true else (List.map (fun (x : FT) => x.name) acc).contains (lineF (l.getD k [])).name) = false, BlkEqv (Blk.ob (Ob.ms (mset (seenL (List.map (fun (x : FT) => x.name) acc)) (foldT (Lib.cut (l.getD k []) [(58 : UInt8), 32]).1) (V1.c (Cell.bool true))))) (Blk.ob (Ob.ms (seenL (List.map (fun (x : FT) => x.name) (acc ++ [lineF (l.getD k [])]))))), (foldT (Lib.cut (l.getD k []) [(58 : UInt8), 32]).1 == [(99 : UInt8), 111, 110, 116, 101, 110, 116, 45, 108, 101, 110, 103, 116, 104]) = true, inR IntKind.i64 ((↑k : Int) + (1 : Int))] (by kernel_rfl) (by kernel_rfl) (by kernel_rfl) ⟨(by simp; omega), (by omega), fun _ _ => trivial, (by intro _; assumption), (by assumption), (by assumption), (by assumption), inR64 (by omega) (by omega)⟩ ?_
        exact Wp.lpK (by kernel_rfl) (again _ (k + 1, n, acc ++ [lineF (l.getD k [])], H, (Lib.cut (l.getD k []) [58, 32]).2.1, true) ⟨(by assumption), ⟨(by assumption), ⟨(by simp; omega), ⟨(by assumption), ⟨(by assumption), ⟨(by assumption), ⟨(by assumption), (by assumption)⟩⟩⟩⟩⟩⟩⟩ (by omega) (Ent.of [] (by kernel_rfl) (by kernel_rfl) (by kernel_rfl) trivial))
      | false =>
        have hcl3 : (foldT (Lib.cut (l.getD k []) [58, 32]).1 == clN) = false := hcl2
        have f1 : H ++ [lineF (l.getD k [])] = (acc ++ [lineF (l.getD k [])]).filter notCl := by rw [filt_no _ _ hcl2, ← hH]
        have f2 : z = (fGet (acc ++ [lineF (l.getD k [])]) clN).getD [] := by rw [snoc_no _ _ hcl2]; exact hz
        have f3 : d = (fGet (acc ++ [lineF (l.getD k [])]) clN).isSome := by rw [snoc_no _ _ hcl2]; exact hd
        have e3 : BlkEqv (.row 40 2 (n + 1) (catF n (rowF encF .nil H) (fun i j => nthD (encF (lineF (l.getD k []))) ((0 + i) * 2 + j)))) (.row 40 2 (n + 1) (rowF encF .nil (H ++ [lineF (l.getD k [])]))) := enc_app H _ hnH
        have q2 : n + 1 = (H ++ [lineF (l.getD k [])]).length := by simp [hnH]
        clear hok hno hc hcl2 hH hz hd
        refine Wp.go (mx := true) (fun _ => mixed) [(7, {cs := [(4, pc c3), (9, pc c4)], fm := [(15, .c (.bool ((acc.map (·.name)).contains (lineF (l.getD k [])).name)))]}), (9, {bs := [(2, .ob (.ms (seenL ((acc ++ [lineF (l.getD k [])]).map (·.name)))))]}), (12, {bs := [(10, Blk.row 40 2 (n + 1) (rowF encF .nil (H ++ [lineF (l.getD k [])])))]}), (5, {cs := [(1, pc c1)]}), (6, {cs := [(1, pc c2)]})] 100 [true, false, false] [decide ((↑k : Int) < (↑l.length : Int)) = true, (0 : Int) ≤ (↑k : Int) ∧ (↑k : Int) < (↑l.length : Int), EqvI (mget (seenL (List.map (fun (x : FT) => x.name) acc)) (foldT (Lib.cut (l.getD k []) [(58 : UInt8), 32]).1) (V1.c (Cell.bool false))) (V1.c (Cell.bool ((List.map (fun (x : FT) => x.name) acc).contains (lineF (l.getD k [])).name))), (bif bif !(Lib.cut (l.getD k []) [(58 : UInt8), 32]).2.snd then true else !tokenT (Lib.cut (l.getD k []) [(58 : UInt8), 32]).1 then true else !(Lib.cut (l.getD k []) [(58 : UInt8), 32]).2.fst.all seenB) = false → EqvD (mget (seenL (List.map (fun (x : FT) => x.name) acc)) (foldT (Lib.cut (l.getD k []) [(58 : UInt8), 32]).1) (V1.c (Cell.bool false))) (V1.c (Cell.bool ((List.map (fun (x : FT) => x.name) acc).contains (lineF (l.getD k [])).name))), (bif bif bif !(Lib.cut (l.getD k []) [(58 : UInt8), 32]).2.snd then true else !tokenT (Lib.cut (l.getD k []) [(58 : UInt8), 32]).1 then true else !(Lib.cut (l.getD k []) [(58 : UInt8), 32]).2.fst.all seenB then true else (List.map (fun (x : FT) => x.name) acc).contains (lineF (l.getD k [])).name) = false, BlkEqv (Blk.ob (Ob.ms (mset (seenL (List.map (fun (x : FT) => x.name) acc)) (foldT (Lib.cut (l.getD k []) [(58 : UInt8), 32]).1) (V1.c (Cell.bool true))))) (Blk.ob (Ob.ms (seenL (List.map (fun (x : FT) => x.name) (acc ++ [lineF (l.getD k [])]))))), (foldT (Lib.cut (l.getD k []) [(58 : UInt8), 32]).1 == [(99 : UInt8), 111, 110, 116, 101, 110, 116, 45, 108, 101, 110, 103, 116, 104]) = false, (n + (1 : Nat)) * (32 : Nat) ≤ (140737488355328 : Nat), BlkEqv (Blk.row 40 (2 : Nat) (n + (1 : Nat)) (catF n (fun (i j : Nat) => nthD [Cell.str (H.getD i FT.nil).name, Cell.str (H.getD i FT.nil).value] j) fun (i j : Nat) => nthD [Cell.str (foldT (Lib.cut (l.getD k []) [(58 : UInt8), 32]).1), Cell.str (Lib.cut (l.getD k []) [(58 : UInt8), 32]).2.fst] (((0 : Nat) + i) * (2 : Nat) + j))) (Blk.row 40 (2 : Nat) (n + (1 : Nat)) (rowF encF FT.nil (H ++ [lineF (l.getD k [])]))), n ≤ n, (0 : Nat) + (1 : Nat) ≤ (1 : Nat), inR IntKind.i64 ((↑k : Int) + (1 : Int))] (by kernel_rfl) (by kernel_rfl) (by kernel_rfl) ⟨(by simp; omega), (by omega), fun _ _ => trivial, (by intro _; assumption), (by assumption), (by assumption), (by assumption), (by omega), (by assumption), (by omega), (by omega), inR64 (by omega) (by omega)⟩ ?_
        exact Wp.lpK (by kernel_rfl) (again _ (k + 1, n + 1, acc ++ [lineF (l.getD k [])], H ++ [lineF (l.getD k [])], z, d) ⟨(by assumption), ⟨(by assumption), ⟨(by simp; omega), ⟨(by assumption), ⟨(by assumption), ⟨(by assumption), ⟨(by assumption), (by assumption)⟩⟩⟩⟩⟩⟩⟩ (by omega) (Ent.of [(145, 929)] (by kernel_rfl) (by kernel_rfl) (by kernel_rfl) trivial))
  · rw [List.drop_of_length_le hge] at hA hO
    rw [hA, hO, fieldsA, fieldsO, ← hH, ← hz, ← hd]
    clear hA hO hH hz hd
    refine Wp.ent' (by kernel_rfl) (Ent.pubC (id := 145) (b := 0) (o := 1) (off := 0) (m := n) (sz := 2) (n := n) (e := 40) (e' := 77) (cs := [.str f, .row 2 145 0 n, .str b, encL l, .str z, .bool d]) (f := rowF encF .nil H) (m' := H.length) (f' := fun i j => nthD (encF (H.getD i .nil)) j) (by kernel_rfl) (by kernel_rfl) (by kernel_rfl) (by omega) hnH (fun i _ j hj => by rw [Nat.zero_add]; rfl) rfl) ?_
    refine Wp.go (mx := true) (fun _ => mixed) [] 100 [false] [decide ((↑k : Int) < (↑l.length : Int)) = false] (by kernel_rfl) (by kernel_rfl) (by kernel_rfl) (show decide ((↑k : Int) < (↑l.length : Int)) = false from (by simp; omega)) ?_
    refine Wp.ret' (by kernel_rfl) ?_
    exact FinQ.blk [] (by kernel_rfl) (by kernel_rfl) (by kernel_rfl) (by kernel_rfl) (by kernel_rfl) trivial
end Go.Proofs.Tw
end

section
open Go Go.Sv Go.RowKit
namespace Go.Proofs.Tw
attribute [local irreducible] Wp FinQ resV Ent Pur Go.Sv.Fn Sat0
set_option maxRecDepth 100000
set_option maxHeartbeats 4000000
variable {G : Nat → Option (List Cell)}

theorem readH_no1 {line : List UInt8 → Bool} {s : List UInt8} (h : bigH s = true) : readH line s = ([], 4) := by
  unfold readH splitH; rw [h]; rfl
theorem readH_no2 {line : List UInt8 → Bool} {s : List UInt8} (h : bigH s = false) (hi : (hdC s).2.2 = false) : readH line s = ([], 3) := by
  unfold readH splitH; rw [h, hi]; rfl
theorem readH_no3 {line : List UInt8 → Bool} {s : List UInt8} (h : bigH s = false) (hi : (hdC s).2.2 = true) (hm : (linesH s).length > 25) : readH line s = ([], 4) := by
  unfold readH splitH; rw [h, hi, if_pos hm]; rfl
theorem splitH_yes {s : List UInt8} (h : bigH s = false) (hi : (hdC s).2.2 = true) (hm : ¬ (linesH s).length > 25) : splitH s = 0 := by
  unfold splitH; rw [h, hi, if_neg hm]; rfl
theorem readH_line {line : List UInt8 → Bool} {s : List UInt8} (h : splitH s = 0) (hf : line (firstH s) = false) : readH line s = ([], 3) := by
  unfold readH; rw [h, hf]; rfl
theorem readH_flds {line : List UInt8 → Bool} {s : List UInt8} (h : splitH s = 0) (hf : line (firstH s) = true) (hO : fieldsO (fieldsL s) [] = false) : readH line s = ([], 3) := by
  unfold readH; rw [h, hf, hO]; rfl
theorem readH_end {line : List UInt8 → Bool} {s : List UInt8} (h : splitH s = 0) (hf : line (firstH s) = true) (hO : fieldsO (fieldsL s) [] = true) : readH line s = if bodyE (fieldsA (fieldsL s) []) (hdC s).2.1 = 0 then ((fieldsA (fieldsL s) []).filter notCl, 0) else ([], bodyE (fieldsA (fieldsL s) []) (hdC s).2.1) := by
  unfold readH; rw [h, hf, hO]; rfl
theorem fA_len : ∀ (l : List (List UInt8)) (acc : List FT), (fieldsA l acc).length ≤ acc.length + l.length
  | [], acc => by simp [fieldsA]
  | p :: r, acc => by
    unfold fieldsA
    split
    · have := fA_len r (acc ++ [lineF p])
      simp at this ⊢
      omega
    · omega
/-- All that a field of a head is, is no longer than a bound of the lines. -/
theorem fA_sm {B : Nat} : ∀ (l : List (List UInt8)) (acc : List FT), (∀ p ∈ l, p.length ≤ B) → (∀ f ∈ acc, f.name.length ≤ B ∧ f.value.length ≤ B) → ∀ f ∈ fieldsA l acc, f.name.length ≤ B ∧ f.value.length ≤ B
  | [], acc, _, h => by simpa [fieldsA] using h
  | p :: r, acc, hl, h => by
    unfold fieldsA
    split
    · refine fA_sm r _ (fun q hq => hl q (by simp [hq])) (fun f hf => ?_)
      rcases List.mem_append.1 hf with hf | hf
      · exact h f hf
      · rw [List.mem_singleton.1 hf]
        have := cut_len p [58, 32]
        have hp := hl p (by simp)
        exact ⟨by show (foldT _).length ≤ _; unfold foldT; rw [List.length_map]; omega, by show (Lib.cut p [58, 32]).2.1.length ≤ _; omega⟩
    · exact h
theorem fGet_mem {l : List FT} {n v : List UInt8} (h : fGet l n = some v) : ∃ f ∈ l, f.name = n ∧ f.value = v := by
  unfold fGet at h
  cases hf : l.find? (fun f => f.name == n) with
  | none => rw [hf] at h; cases h
  | some f =>
    rw [hf] at h
    have h1 := List.find?_some hf
    exact ⟨f, List.mem_of_find?_eq_some hf, eq_of_beq h1, by simpa using h⟩
theorem fldsL_sm (s : List UInt8) : ∀ p ∈ fieldsL s, p.length ≤ s.length := by
  intro p hp
  have h1 := splitK_len [13, 10] _ (hdC s).1 p (List.mem_of_mem_drop hp)
  have h2 : (hdC s).1.length ≤ s.length := (cut_len s [13, 10, 13, 10]).1
  omega
theorem first_sm (s : List UInt8) : (firstH s).length ≤ s.length := by
  have h1 : (firstH s).length ≤ (hdC s).1.length := split_el (hdC s).1 [13, 10] 0
  have h2 : (hdC s).1.length ≤ s.length := (cut_len s [13, 10, 13, 10]).1
  omega
theorem cl_sm (s : List UInt8) : ((fGet (fieldsA (fieldsL s) []) clN).getD []).length ≤ s.length := by
  cases h : fGet (fieldsA (fieldsL s) []) clN with
  | none => simp
  | some v =>
    obtain ⟨f, hf, _, rfl⟩ := fGet_mem h
    exact (fA_sm (B := s.length) _ [] (fldsL_sm s) (fun f hf => by cases hf) f hf).2
theorem readsQ_no (hL : HasLen G) (s : List UInt8) (hl : s.length < 1000000000) (h : (readH askB s).2 ≠ 0) : ∃ (f b z : List UInt8) (hd : List FT) (l : List (List UInt8)) (d : Bool), FnB Tryz.prog G 32 [.box 28 [.str [], .str [], .nilsl, .str []]] [.c (.str s), .c (clo1 33 (.ptr 0 0))] [.c (.ptr 1 0), .c (.int .i64 (readH askB s).2)] [(1, rdB f (encH hd) b (encL l) z d)] := by
  have hb : (hdC s).2.1.length ≤ s.length := (cut_len s [13, 10, 13, 10]).2
  cases hbig : bigH s with
  | true =>
    rw [readH_no1 hbig]
    refine ⟨[], [], [], [], [], false, ?_⟩
    refine Fn.of' Tryz.func32 (by kernel_rfl) (by kernel_rfl) (by kernel_rfl) (by kernel_rfl) trivial ?_
    have c1 := rcut_big hL s hl hbig
    refine Wp.go (mx := true) (fun _ => mixed) [(2, {cs := [(2, cb [49] c1)]}), (3, {grd := [(3, false), (4, false), (5, false), (6, false), (7, false), (8, false), (9, false), (10, false), (11, false)]})] 100 [false, false, false] [((4 : Int) == (0 : Int)) = !true, ((4 : Int) == (0 : Int)) = !true, ((4 : Int) == (0 : Int)) = !true, ((4 : Int) == (0 : Int)) = !true, ((4 : Int) == (0 : Int)) = !true, ((4 : Int) == (0 : Int)) = !true, ((4 : Int) == (0 : Int)) = !true, ((4 : Int) == (0 : Int)) = !true, ((4 : Int) == (0 : Int)) = false, false = false, ((4 : Int) == (0 : Int)) = false, ((4 : Int) == (0 : Int)) = false] (by kernel_rfl) (by kernel_rfl) (by kernel_rfl) ⟨rfl, rfl, rfl, rfl, rfl, rfl, rfl, rfl, rfl, rfl, rfl, rfl⟩ ?_
    refine Wp.ret' (by kernel_rfl) ?_
    exact FinQ.blk [49] (by kernel_rfl) (by kernel_rfl) (by kernel_rfl) (by kernel_rfl) (by kernel_rfl) trivial
  | false =>
    cases hi : (hdC s).2.2 with
    | false =>
      rw [readH_no2 hbig hi]
      refine ⟨[], [], [], [], [], false, ?_⟩
      refine Fn.of' Tryz.func32 (by kernel_rfl) (by kernel_rfl) (by kernel_rfl) (by kernel_rfl) trivial ?_
      have c1 := rcut_form hL s hl hbig hi
      refine Wp.go (mx := true) (fun _ => mixed) [(2, {cs := [(2, cb [49] c1)]}), (3, {grd := [(3, false), (4, false), (5, false), (6, false), (7, false), (8, false), (9, false), (10, false), (11, false)]})] 100 [false, false, false] [((3 : Int) == (0 : Int)) = !true, ((3 : Int) == (0 : Int)) = !true, ((3 : Int) == (0 : Int)) = !true, ((3 : Int) == (0 : Int)) = !true, ((3 : Int) == (0 : Int)) = !true, ((3 : Int) == (0 : Int)) = !true, ((3 : Int) == (0 : Int)) = !true, ((3 : Int) == (0 : Int)) = !true, ((3 : Int) == (0 : Int)) = false, false = false, ((3 : Int) == (0 : Int)) = false, ((3 : Int) == (0 : Int)) = false] (by kernel_rfl) (by kernel_rfl) (by kernel_rfl) ⟨rfl, rfl, rfl, rfl, rfl, rfl, rfl, rfl, rfl, rfl, rfl, rfl⟩ ?_
      refine Wp.ret' (by kernel_rfl) ?_
      exact FinQ.blk [49] (by kernel_rfl) (by kernel_rfl) (by kernel_rfl) (by kernel_rfl) (by kernel_rfl) trivial
    | true =>
      by_cases hm : (linesH s).length > 25
      · rw [readH_no3 hbig hi hm]
        refine ⟨[], (hdC s).2.1, [], [], linesH s, false, ?_⟩
        refine Fn.of' Tryz.func32 (by kernel_rfl) (by kernel_rfl) (by kernel_rfl) (by kernel_rfl) trivial ?_
        have c1 := rcut_many hL s hl hbig hi hm
        refine Wp.go (mx := true) (fun _ => mixed) [(2, {cs := [(2, cb [49] c1)]}), (3, {grd := [(3, false), (4, false), (5, false), (6, false), (7, false), (8, false), (9, false), (10, false), (11, false)]})] 100 [false, false, false] [((4 : Int) == (0 : Int)) = !true, ((4 : Int) == (0 : Int)) = !true, ((4 : Int) == (0 : Int)) = !true, ((4 : Int) == (0 : Int)) = !true, ((4 : Int) == (0 : Int)) = !true, ((4 : Int) == (0 : Int)) = !true, ((4 : Int) == (0 : Int)) = !true, ((4 : Int) == (0 : Int)) = !true, ((4 : Int) == (0 : Int)) = false, false = false, ((4 : Int) == (0 : Int)) = false, ((4 : Int) == (0 : Int)) = false] (by kernel_rfl) (by kernel_rfl) (by kernel_rfl) ⟨rfl, rfl, rfl, rfl, rfl, rfl, rfl, rfl, rfl, rfl, rfl, rfl⟩ ?_
        refine Wp.ret' (by kernel_rfl) ?_
        exact FinQ.blk [49] (by kernel_rfl) (by kernel_rfl) (by kernel_rfl) (by kernel_rfl) (by kernel_rfl) trivial
      · have hsp := splitH_yes hbig hi hm
        have c1 := rcut_yes hL s hl hbig hi (by omega)
        have hfs := first_sm s
        have hfl := fldsL_sm s
        have hcl := cl_sm s
        have hfn : (fieldsL s).length < 1000000 := by unfold fieldsL; rw [List.length_drop]; omega
        have hfe : ∀ k, ((fieldsL s).getD k []).length < 1000000000 := fun k => by
          rw [List.getD_eq_getElem?_getD]
          cases hx : (fieldsL s)[k]? with
          | none => show 0 < _; omega
          | some x => have := hfl x (List.mem_of_getElem? hx); simp; omega
        have c2 := askL_ok hL (firstH s) [] [] (by omega)
        cases hf : askB (firstH s) with
        | false =>
          rw [readH_line hsp hf]
          rw [hf] at c2
          refine ⟨firstH s, (hdC s).2.1, [], [], fieldsL s, false, ?_⟩
          refine Fn.of' Tryz.func32 (by kernel_rfl) (by kernel_rfl) (by kernel_rfl) (by kernel_rfl) trivial ?_
          clear hf
          refine Wp.go (mx := true) (fun _ => mixed) [(3, {grd := [(3, true), (4, true), (5, true), (6, true), (7, true), (8, true), (9, true), (10, true)], cs := [(9, cb [0] c2)]}), (2, {cs := [(2, cb [49] c1)]})] 100 [true, false, false] [((0 : Int) == (0 : Int)) = true, ((0 : Int) == (0 : Int)) = true, ((0 : Int) == (0 : Int)) = true, ((0 : Int) == (0 : Int)) = true, ((0 : Int) == (0 : Int)) = true, ((0 : Int) == (0 : Int)) = true, ((0 : Int) == (0 : Int)) = true, ((0 : Int) == (0 : Int)) = true, (bif (0 : Int) == (0 : Int) then !false else false) = true, ((3 : Int) == (0 : Int)) = false, ((3 : Int) == (0 : Int)) = false] (by kernel_rfl) (by kernel_rfl) (by kernel_rfl) ⟨rfl, rfl, rfl, rfl, rfl, rfl, rfl, rfl, rfl, rfl, rfl⟩ ?_
          refine Wp.ent' (by kernel_rfl) (Ent.blkE (id := 49) (b := rdB (firstH s) .nilsl (hdC s).2.1 (encL (fieldsL s)) [] false) (b' := rdB (firstH s) (encH []) (hdC s).2.1 (encL (fieldsL s)) [] false) (by kernel_rfl) (rdz_eqv _ _ _) rfl) ?_
          refine Wp.ret' (by kernel_rfl) ?_
          exact FinQ.blk [49] (by kernel_rfl) (by kernel_rfl) (by kernel_rfl) (by kernel_rfl) (by kernel_rfl) trivial
        | true =>
          rw [hf] at c2
          have c3 := rfields_ok hL (firstH s) (hdC s).2.1 (fieldsL s) hfe hfn
          cases hO : fieldsO (fieldsL s) [] with
          | false =>
            rw [readH_flds hsp hf hO]
            rw [hO] at c3
            refine ⟨firstH s, (hdC s).2.1, (fGet (fieldsA (fieldsL s) []) clN).getD [], (fieldsA (fieldsL s) []).filter notCl, fieldsL s, (fGet (fieldsA (fieldsL s) []) clN).isSome, ?_⟩
            refine Fn.of' Tryz.func32 (by kernel_rfl) (by kernel_rfl) (by kernel_rfl) (by kernel_rfl) trivial ?_
            clear hf h
            refine Wp.go (mx := true) (fun _ => mixed) [(3, {grd := [(3, true), (4, true), (5, true), (6, true), (7, true), (8, true), (9, true), (10, true)], cs := [(9, cb [0] c2)]}), (2, {cs := [(2, cb [49] c1)]}), (6, {cs := [(1, cb [49] c3)]})] 100 [false, true, false] [((0 : Int) == (0 : Int)) = true, ((0 : Int) == (0 : Int)) = true, ((0 : Int) == (0 : Int)) = true, ((0 : Int) == (0 : Int)) = true, ((0 : Int) == (0 : Int)) = true, ((0 : Int) == (0 : Int)) = true, ((0 : Int) == (0 : Int)) = true, ((0 : Int) == (0 : Int)) = true, (bif (0 : Int) == (0 : Int) then !true else false) = false, ((0 : Int) == (0 : Int)) = true, ((if false = true then (0 : Int) else (3 : Int)) == (0 : Int)) = false] (by kernel_rfl) (by kernel_rfl) (by kernel_rfl) ⟨rfl, rfl, rfl, rfl, rfl, rfl, rfl, rfl, rfl, rfl, rfl⟩ ?_
            refine Wp.ret' (by kernel_rfl) ?_
            exact FinQ.blk [49] (by kernel_rfl) (by kernel_rfl) (by kernel_rfl) (by kernel_rfl) (by kernel_rfl) trivial
          | true =>
            rw [readH_end hsp hf hO] at h ⊢
            rw [hO] at c3
            have c4 := rsized_ok (G := G) (firstH s) (hdC s).2.1 ((fGet (fieldsA (fieldsL s) []) clN).getD []) (fGet (fieldsA (fieldsL s) []) clN).isSome ((fieldsA (fieldsL s) []).filter notCl) (fieldsL s) (by omega) (by omega)
            rw [show szE ((fGet (fieldsA (fieldsL s) []) clN).getD []) (fGet (fieldsA (fieldsL s) []) clN).isSome (hdC s).2.1 = bodyE (fieldsA (fieldsL s) []) (hdC s).2.1 from rfl] at c4
            by_cases he : bodyE (fieldsA (fieldsL s) []) (hdC s).2.1 = 0
            · rw [if_pos he] at h
              exact (h rfl).elim
            · rw [if_neg he]
              refine ⟨firstH s, (hdC s).2.1, (fGet (fieldsA (fieldsL s) []) clN).getD [], (fieldsA (fieldsL s) []).filter notCl, fieldsL s, (fGet (fieldsA (fieldsL s) []) clN).isSome, ?_⟩
              refine Fn.of' Tryz.func32 (by kernel_rfl) (by kernel_rfl) (by kernel_rfl) (by kernel_rfl) trivial ?_
              clear hf h
              refine Wp.go (mx := true) (fun _ => mixed) [(3, {grd := [(3, true), (4, true), (5, true), (6, true), (7, true), (8, true), (9, true), (10, true)], cs := [(9, cb [0] c2)]}), (2, {cs := [(2, cb [49] c1)]}), (6, {cs := [(1, cb [49] c3)]}), (8, {cs := [(1, cb [49] c4)]})] 100 [false, true, true] [((0 : Int) == (0 : Int)) = true, ((0 : Int) == (0 : Int)) = true, ((0 : Int) == (0 : Int)) = true, ((0 : Int) == (0 : Int)) = true, ((0 : Int) == (0 : Int)) = true, ((0 : Int) == (0 : Int)) = true, ((0 : Int) == (0 : Int)) = true, ((0 : Int) == (0 : Int)) = true, (bif (0 : Int) == (0 : Int) then !true else false) = false, ((0 : Int) == (0 : Int)) = true, ((if true = true then (0 : Int) else (3 : Int)) == (0 : Int)) = true] (by kernel_rfl) (by kernel_rfl) (by kernel_rfl) ⟨rfl, rfl, rfl, rfl, rfl, rfl, rfl, rfl, rfl, rfl, rfl⟩ ?_
              refine Wp.ret' (by kernel_rfl) ?_
              exact FinQ.blk [49] (by kernel_rfl) (by kernel_rfl) (by kernel_rfl) (by kernel_rfl) (by kernel_rfl) trivial
theorem readsQ_yes (hL : HasLen G) (s : List UInt8) (hl : s.length < 1000000000) (h : (readH askB s).2 = 0) : ∃ (f z : List UInt8) (l : List (List UInt8)) (d : Bool), FnB Tryz.prog G 32 [.box 28 [.str [], .str [], .nilsl, .str []]] [.c (.str s), .c (clo1 33 (.ptr 0 0))] [.c (.ptr 1 0), .c (.int .i64 0)] [(0, .box 28 [.str (askM (firstH s)), .str (askT (firstH s)), .nilsl, .str []]), (1, rdB f (encH (readH askB s).1) (hdC s).2.1 (encL l) z d)] := by
  have hb : (hdC s).2.1.length ≤ s.length := (cut_len s [13, 10, 13, 10]).2
  cases hbig : bigH s with
  | true => rw [readH_no1 hbig] at h; cases h
  | false =>
    cases hi : (hdC s).2.2 with
    | false => rw [readH_no2 hbig hi] at h; cases h
    | true =>
      by_cases hm : (linesH s).length > 25
      · rw [readH_no3 hbig hi hm] at h; cases h
      · have hsp := splitH_yes hbig hi hm
        have c1 := rcut_yes hL s hl hbig hi (by omega)
        have hfs := first_sm s
        have hfl := fldsL_sm s
        have hcl := cl_sm s
        have hfn : (fieldsL s).length < 1000000 := by unfold fieldsL; rw [List.length_drop]; omega
        have hfe : ∀ k, ((fieldsL s).getD k []).length < 1000000000 := fun k => by
          rw [List.getD_eq_getElem?_getD]
          cases hx : (fieldsL s)[k]? with
          | none => show 0 < _; omega
          | some x => have := hfl x (List.mem_of_getElem? hx); simp; omega
        have c2 := askL_ok hL (firstH s) [] [] (by omega)
        cases hf : askB (firstH s) with
        | false => rw [readH_line hsp hf] at h; cases h
        | true =>
          rw [hf] at c2
          have c3 := rfields_ok hL (firstH s) (hdC s).2.1 (fieldsL s) hfe hfn
          cases hO : fieldsO (fieldsL s) [] with
          | false => rw [readH_flds hsp hf hO] at h; cases h
          | true =>
            rw [readH_end hsp hf hO] at h ⊢
            rw [hO] at c3
            have c4 := rsized_ok (G := G) (firstH s) (hdC s).2.1 ((fGet (fieldsA (fieldsL s) []) clN).getD []) (fGet (fieldsA (fieldsL s) []) clN).isSome ((fieldsA (fieldsL s) []).filter notCl) (fieldsL s) (by omega) (by omega)
            rw [show szE ((fGet (fieldsA (fieldsL s) []) clN).getD []) (fGet (fieldsA (fieldsL s) []) clN).isSome (hdC s).2.1 = bodyE (fieldsA (fieldsL s) []) (hdC s).2.1 from rfl] at c4
            by_cases he : bodyE (fieldsA (fieldsL s) []) (hdC s).2.1 = 0
            · rw [if_pos he]
              rw [he] at c4
              refine ⟨firstH s, (fGet (fieldsA (fieldsL s) []) clN).getD [], fieldsL s, (fGet (fieldsA (fieldsL s) []) clN).isSome, ?_⟩
              refine Fn.of' Tryz.func32 (by kernel_rfl) (by kernel_rfl) (by kernel_rfl) (by kernel_rfl) trivial ?_
              clear hf h he
              refine Wp.go (mx := true) (fun _ => mixed) [(3, {grd := [(3, true), (4, true), (5, true), (6, true), (7, true), (8, true), (9, true), (10, true)], cs := [(9, cb [0] c2)]}), (2, {cs := [(2, cb [49] c1)]}), (6, {cs := [(1, cb [49] c3)]}), (8, {cs := [(1, cb [49] c4)]})] 100 [false, true, true] [((0 : Int) == (0 : Int)) = true, ((0 : Int) == (0 : Int)) = true, ((0 : Int) == (0 : Int)) = true, ((0 : Int) == (0 : Int)) = true, ((0 : Int) == (0 : Int)) = true, ((0 : Int) == (0 : Int)) = true, ((0 : Int) == (0 : Int)) = true, ((0 : Int) == (0 : Int)) = true, (bif (0 : Int) == (0 : Int) then !true else false) = false, ((0 : Int) == (0 : Int)) = true, ((if true = true then (0 : Int) else (3 : Int)) == (0 : Int)) = true] (by kernel_rfl) (by kernel_rfl) (by kernel_rfl) ⟨rfl, rfl, rfl, rfl, rfl, rfl, rfl, rfl, rfl, rfl, rfl⟩ ?_
              refine Wp.ret' (by kernel_rfl) ?_
              exact FinQ.blk [49] (by kernel_rfl) (by kernel_rfl) (by kernel_rfl) (by kernel_rfl) (by kernel_rfl) trivial
            · rw [if_neg he] at h
              exact (he h).elim
theorem readsR_no (hL : HasLen G) (s : List UInt8) (hl : s.length < 1000000000) (h : (readH tellB s).2 ≠ 0) : ∃ (f b z : List UInt8) (hd : List FT) (l : List (List UInt8)) (d : Bool), FnB Tryz.prog G 32 [.box 33 [.int .i64 0, .nilsl, .str []]] [.c (.str s), .c (clo1 41 (.ptr 0 0))] [.c (.ptr 1 0), .c (.int .i64 (readH tellB s).2)] [(1, rdB f (encH hd) b (encL l) z d)] := by
  have hb : (hdC s).2.1.length ≤ s.length := (cut_len s [13, 10, 13, 10]).2
  cases hbig : bigH s with
  | true =>
    rw [readH_no1 hbig]
    refine ⟨[], [], [], [], [], false, ?_⟩
    refine Fn.of' Tryz.func32 (by kernel_rfl) (by kernel_rfl) (by kernel_rfl) (by kernel_rfl) trivial ?_
    have c1 := rcut_big hL s hl hbig
    refine Wp.go (mx := true) (fun _ => mixed) [(2, {cs := [(2, cb [49] c1)]}), (3, {grd := [(3, false), (4, false), (5, false), (6, false), (7, false), (8, false), (9, false), (10, false), (11, false)]})] 100 [false, false, false] [((4 : Int) == (0 : Int)) = !true, ((4 : Int) == (0 : Int)) = !true, ((4 : Int) == (0 : Int)) = !true, ((4 : Int) == (0 : Int)) = !true, ((4 : Int) == (0 : Int)) = !true, ((4 : Int) == (0 : Int)) = !true, ((4 : Int) == (0 : Int)) = !true, ((4 : Int) == (0 : Int)) = !true, ((4 : Int) == (0 : Int)) = false, false = false, ((4 : Int) == (0 : Int)) = false, ((4 : Int) == (0 : Int)) = false] (by kernel_rfl) (by kernel_rfl) (by kernel_rfl) ⟨rfl, rfl, rfl, rfl, rfl, rfl, rfl, rfl, rfl, rfl, rfl, rfl⟩ ?_
    refine Wp.ret' (by kernel_rfl) ?_
    exact FinQ.blk [49] (by kernel_rfl) (by kernel_rfl) (by kernel_rfl) (by kernel_rfl) (by kernel_rfl) trivial
  | false =>
    cases hi : (hdC s).2.2 with
    | false =>
      rw [readH_no2 hbig hi]
      refine ⟨[], [], [], [], [], false, ?_⟩
      refine Fn.of' Tryz.func32 (by kernel_rfl) (by kernel_rfl) (by kernel_rfl) (by kernel_rfl) trivial ?_
      have c1 := rcut_form hL s hl hbig hi
      refine Wp.go (mx := true) (fun _ => mixed) [(2, {cs := [(2, cb [49] c1)]}), (3, {grd := [(3, false), (4, false), (5, false), (6, false), (7, false), (8, false), (9, false), (10, false), (11, false)]})] 100 [false, false, false] [((3 : Int) == (0 : Int)) = !true, ((3 : Int) == (0 : Int)) = !true, ((3 : Int) == (0 : Int)) = !true, ((3 : Int) == (0 : Int)) = !true, ((3 : Int) == (0 : Int)) = !true, ((3 : Int) == (0 : Int)) = !true, ((3 : Int) == (0 : Int)) = !true, ((3 : Int) == (0 : Int)) = !true, ((3 : Int) == (0 : Int)) = false, false = false, ((3 : Int) == (0 : Int)) = false, ((3 : Int) == (0 : Int)) = false] (by kernel_rfl) (by kernel_rfl) (by kernel_rfl) ⟨rfl, rfl, rfl, rfl, rfl, rfl, rfl, rfl, rfl, rfl, rfl, rfl⟩ ?_
      refine Wp.ret' (by kernel_rfl) ?_
      exact FinQ.blk [49] (by kernel_rfl) (by kernel_rfl) (by kernel_rfl) (by kernel_rfl) (by kernel_rfl) trivial
    | true =>
      by_cases hm : (linesH s).length > 25
      · rw [readH_no3 hbig hi hm]
        refine ⟨[], (hdC s).2.1, [], [], linesH s, false, ?_⟩
        refine Fn.of' Tryz.func32 (by kernel_rfl) (by kernel_rfl) (by kernel_rfl) (by kernel_rfl) trivial ?_
        have c1 := rcut_many hL s hl hbig hi hm
        refine Wp.go (mx := true) (fun _ => mixed) [(2, {cs := [(2, cb [49] c1)]}), (3, {grd := [(3, false), (4, false), (5, false), (6, false), (7, false), (8, false), (9, false), (10, false), (11, false)]})] 100 [false, false, false] [((4 : Int) == (0 : Int)) = !true, ((4 : Int) == (0 : Int)) = !true, ((4 : Int) == (0 : Int)) = !true, ((4 : Int) == (0 : Int)) = !true, ((4 : Int) == (0 : Int)) = !true, ((4 : Int) == (0 : Int)) = !true, ((4 : Int) == (0 : Int)) = !true, ((4 : Int) == (0 : Int)) = !true, ((4 : Int) == (0 : Int)) = false, false = false, ((4 : Int) == (0 : Int)) = false, ((4 : Int) == (0 : Int)) = false] (by kernel_rfl) (by kernel_rfl) (by kernel_rfl) ⟨rfl, rfl, rfl, rfl, rfl, rfl, rfl, rfl, rfl, rfl, rfl, rfl⟩ ?_
        refine Wp.ret' (by kernel_rfl) ?_
        exact FinQ.blk [49] (by kernel_rfl) (by kernel_rfl) (by kernel_rfl) (by kernel_rfl) (by kernel_rfl) trivial
      · have hsp := splitH_yes hbig hi hm
        have c1 := rcut_yes hL s hl hbig hi (by omega)
        have hfs := first_sm s
        have hfl := fldsL_sm s
        have hcl := cl_sm s
        have hfn : (fieldsL s).length < 1000000 := by unfold fieldsL; rw [List.length_drop]; omega
        have hfe : ∀ k, ((fieldsL s).getD k []).length < 1000000000 := fun k => by
          rw [List.getD_eq_getElem?_getD]
          cases hx : (fieldsL s)[k]? with
          | none => show 0 < _; omega
          | some x => have := hfl x (List.mem_of_getElem? hx); simp; omega
        have c2 := tellL_ok hL (firstH s) 0 (by omega)
        cases hf : tellB (firstH s) with
        | false =>
          rw [readH_line hsp hf]
          rw [hf] at c2
          refine ⟨firstH s, (hdC s).2.1, [], [], fieldsL s, false, ?_⟩
          refine Fn.of' Tryz.func32 (by kernel_rfl) (by kernel_rfl) (by kernel_rfl) (by kernel_rfl) trivial ?_
          clear hf
          refine Wp.go (mx := true) (fun _ => mixed) [(3, {grd := [(3, true), (4, true), (5, true), (6, true), (7, true), (8, true), (9, true), (10, true)], cs := [(9, cb [0] c2)]}), (2, {cs := [(2, cb [49] c1)]})] 100 [true, false, false] [((0 : Int) == (0 : Int)) = true, ((0 : Int) == (0 : Int)) = true, ((0 : Int) == (0 : Int)) = true, ((0 : Int) == (0 : Int)) = true, ((0 : Int) == (0 : Int)) = true, ((0 : Int) == (0 : Int)) = true, ((0 : Int) == (0 : Int)) = true, ((0 : Int) == (0 : Int)) = true, (bif (0 : Int) == (0 : Int) then !false else false) = true, ((3 : Int) == (0 : Int)) = false, ((3 : Int) == (0 : Int)) = false] (by kernel_rfl) (by kernel_rfl) (by kernel_rfl) ⟨rfl, rfl, rfl, rfl, rfl, rfl, rfl, rfl, rfl, rfl, rfl⟩ ?_
          refine Wp.ent' (by kernel_rfl) (Ent.blkE (id := 49) (b := rdB (firstH s) .nilsl (hdC s).2.1 (encL (fieldsL s)) [] false) (b' := rdB (firstH s) (encH []) (hdC s).2.1 (encL (fieldsL s)) [] false) (by kernel_rfl) (rdz_eqv _ _ _) rfl) ?_
          refine Wp.ret' (by kernel_rfl) ?_
          exact FinQ.blk [49] (by kernel_rfl) (by kernel_rfl) (by kernel_rfl) (by kernel_rfl) (by kernel_rfl) trivial
        | true =>
          rw [hf] at c2
          have c3 := rfields_ok hL (firstH s) (hdC s).2.1 (fieldsL s) hfe hfn
          cases hO : fieldsO (fieldsL s) [] with
          | false =>
            rw [readH_flds hsp hf hO]
            rw [hO] at c3
            refine ⟨firstH s, (hdC s).2.1, (fGet (fieldsA (fieldsL s) []) clN).getD [], (fieldsA (fieldsL s) []).filter notCl, fieldsL s, (fGet (fieldsA (fieldsL s) []) clN).isSome, ?_⟩
            refine Fn.of' Tryz.func32 (by kernel_rfl) (by kernel_rfl) (by kernel_rfl) (by kernel_rfl) trivial ?_
            clear hf h
            refine Wp.go (mx := true) (fun _ => mixed) [(3, {grd := [(3, true), (4, true), (5, true), (6, true), (7, true), (8, true), (9, true), (10, true)], cs := [(9, cb [0] c2)]}), (2, {cs := [(2, cb [49] c1)]}), (6, {cs := [(1, cb [49] c3)]})] 100 [false, true, false] [((0 : Int) == (0 : Int)) = true, ((0 : Int) == (0 : Int)) = true, ((0 : Int) == (0 : Int)) = true, ((0 : Int) == (0 : Int)) = true, ((0 : Int) == (0 : Int)) = true, ((0 : Int) == (0 : Int)) = true, ((0 : Int) == (0 : Int)) = true, ((0 : Int) == (0 : Int)) = true, (bif (0 : Int) == (0 : Int) then !true else false) = false, ((0 : Int) == (0 : Int)) = true, ((if false = true then (0 : Int) else (3 : Int)) == (0 : Int)) = false] (by kernel_rfl) (by kernel_rfl) (by kernel_rfl) ⟨rfl, rfl, rfl, rfl, rfl, rfl, rfl, rfl, rfl, rfl, rfl⟩ ?_
            refine Wp.ret' (by kernel_rfl) ?_
            exact FinQ.blk [49] (by kernel_rfl) (by kernel_rfl) (by kernel_rfl) (by kernel_rfl) (by kernel_rfl) trivial
          | true =>
            rw [readH_end hsp hf hO] at h ⊢
            rw [hO] at c3
            have c4 := rsized_ok (G := G) (firstH s) (hdC s).2.1 ((fGet (fieldsA (fieldsL s) []) clN).getD []) (fGet (fieldsA (fieldsL s) []) clN).isSome ((fieldsA (fieldsL s) []).filter notCl) (fieldsL s) (by omega) (by omega)
            rw [show szE ((fGet (fieldsA (fieldsL s) []) clN).getD []) (fGet (fieldsA (fieldsL s) []) clN).isSome (hdC s).2.1 = bodyE (fieldsA (fieldsL s) []) (hdC s).2.1 from rfl] at c4
            by_cases he : bodyE (fieldsA (fieldsL s) []) (hdC s).2.1 = 0
            · rw [if_pos he] at h
              exact (h rfl).elim
            · rw [if_neg he]
              refine ⟨firstH s, (hdC s).2.1, (fGet (fieldsA (fieldsL s) []) clN).getD [], (fieldsA (fieldsL s) []).filter notCl, fieldsL s, (fGet (fieldsA (fieldsL s) []) clN).isSome, ?_⟩
              refine Fn.of' Tryz.func32 (by kernel_rfl) (by kernel_rfl) (by kernel_rfl) (by kernel_rfl) trivial ?_
              clear hf h
              refine Wp.go (mx := true) (fun _ => mixed) [(3, {grd := [(3, true), (4, true), (5, true), (6, true), (7, true), (8, true), (9, true), (10, true)], cs := [(9, cb [0] c2)]}), (2, {cs := [(2, cb [49] c1)]}), (6, {cs := [(1, cb [49] c3)]}), (8, {cs := [(1, cb [49] c4)]})] 100 [false, true, true] [((0 : Int) == (0 : Int)) = true, ((0 : Int) == (0 : Int)) = true, ((0 : Int) == (0 : Int)) = true, ((0 : Int) == (0 : Int)) = true, ((0 : Int) == (0 : Int)) = true, ((0 : Int) == (0 : Int)) = true, ((0 : Int) == (0 : Int)) = true, ((0 : Int) == (0 : Int)) = true, (bif (0 : Int) == (0 : Int) then !true else false) = false, ((0 : Int) == (0 : Int)) = true, ((if true = true then (0 : Int) else (3 : Int)) == (0 : Int)) = true] (by kernel_rfl) (by kernel_rfl) (by kernel_rfl) ⟨rfl, rfl, rfl, rfl, rfl, rfl, rfl, rfl, rfl, rfl, rfl⟩ ?_
              refine Wp.ret' (by kernel_rfl) ?_
              exact FinQ.blk [49] (by kernel_rfl) (by kernel_rfl) (by kernel_rfl) (by kernel_rfl) (by kernel_rfl) trivial
theorem readsR_yes (hL : HasLen G) (s : List UInt8) (hl : s.length < 1000000000) (h : (readH tellB s).2 = 0) : ∃ (f z : List UInt8) (l : List (List UInt8)) (d : Bool), FnB Tryz.prog G 32 [.box 33 [.int .i64 0, .nilsl, .str []]] [.c (.str s), .c (clo1 41 (.ptr 0 0))] [.c (.ptr 1 0), .c (.int .i64 0)] [(0, .box 33 [.int .i64 (tellN (firstH s)), .nilsl, .str []]), (1, rdB f (encH (readH tellB s).1) (hdC s).2.1 (encL l) z d)] := by
  have hb : (hdC s).2.1.length ≤ s.length := (cut_len s [13, 10, 13, 10]).2
  cases hbig : bigH s with
  | true => rw [readH_no1 hbig] at h; cases h
  | false =>
    cases hi : (hdC s).2.2 with
    | false => rw [readH_no2 hbig hi] at h; cases h
    | true =>
      by_cases hm : (linesH s).length > 25
      · rw [readH_no3 hbig hi hm] at h; cases h
      · have hsp := splitH_yes hbig hi hm
        have c1 := rcut_yes hL s hl hbig hi (by omega)
        have hfs := first_sm s
        have hfl := fldsL_sm s
        have hcl := cl_sm s
        have hfn : (fieldsL s).length < 1000000 := by unfold fieldsL; rw [List.length_drop]; omega
        have hfe : ∀ k, ((fieldsL s).getD k []).length < 1000000000 := fun k => by
          rw [List.getD_eq_getElem?_getD]
          cases hx : (fieldsL s)[k]? with
          | none => show 0 < _; omega
          | some x => have := hfl x (List.mem_of_getElem? hx); simp; omega
        have c2 := tellL_ok hL (firstH s) 0 (by omega)
        cases hf : tellB (firstH s) with
        | false => rw [readH_line hsp hf] at h; cases h
        | true =>
          rw [hf] at c2
          have c3 := rfields_ok hL (firstH s) (hdC s).2.1 (fieldsL s) hfe hfn
          cases hO : fieldsO (fieldsL s) [] with
          | false => rw [readH_flds hsp hf hO] at h; cases h
          | true =>
            rw [readH_end hsp hf hO] at h ⊢
            rw [hO] at c3
            have c4 := rsized_ok (G := G) (firstH s) (hdC s).2.1 ((fGet (fieldsA (fieldsL s) []) clN).getD []) (fGet (fieldsA (fieldsL s) []) clN).isSome ((fieldsA (fieldsL s) []).filter notCl) (fieldsL s) (by omega) (by omega)
            rw [show szE ((fGet (fieldsA (fieldsL s) []) clN).getD []) (fGet (fieldsA (fieldsL s) []) clN).isSome (hdC s).2.1 = bodyE (fieldsA (fieldsL s) []) (hdC s).2.1 from rfl] at c4
            by_cases he : bodyE (fieldsA (fieldsL s) []) (hdC s).2.1 = 0
            · rw [if_pos he]
              rw [he] at c4
              refine ⟨firstH s, (fGet (fieldsA (fieldsL s) []) clN).getD [], fieldsL s, (fGet (fieldsA (fieldsL s) []) clN).isSome, ?_⟩
              refine Fn.of' Tryz.func32 (by kernel_rfl) (by kernel_rfl) (by kernel_rfl) (by kernel_rfl) trivial ?_
              clear hf h he
              refine Wp.go (mx := true) (fun _ => mixed) [(3, {grd := [(3, true), (4, true), (5, true), (6, true), (7, true), (8, true), (9, true), (10, true)], cs := [(9, cb [0] c2)]}), (2, {cs := [(2, cb [49] c1)]}), (6, {cs := [(1, cb [49] c3)]}), (8, {cs := [(1, cb [49] c4)]})] 100 [false, true, true] [((0 : Int) == (0 : Int)) = true, ((0 : Int) == (0 : Int)) = true, ((0 : Int) == (0 : Int)) = true, ((0 : Int) == (0 : Int)) = true, ((0 : Int) == (0 : Int)) = true, ((0 : Int) == (0 : Int)) = true, ((0 : Int) == (0 : Int)) = true, ((0 : Int) == (0 : Int)) = true, (bif (0 : Int) == (0 : Int) then !true else false) = false, ((0 : Int) == (0 : Int)) = true, ((if true = true then (0 : Int) else (3 : Int)) == (0 : Int)) = true] (by kernel_rfl) (by kernel_rfl) (by kernel_rfl) ⟨rfl, rfl, rfl, rfl, rfl, rfl, rfl, rfl, rfl, rfl, rfl⟩ ?_
              refine Wp.ret' (by kernel_rfl) ?_
              exact FinQ.blk [49] (by kernel_rfl) (by kernel_rfl) (by kernel_rfl) (by kernel_rfl) (by kernel_rfl) trivial
            · rw [if_neg he] at h
              exact (he h).elim
end Go.Proofs.Tw
end

section
open Go Go.Sv Go.RowKit
namespace Go.Proofs.Tw
attribute [local irreducible] Wp FinQ resV Ent Pur Go.Sv.Fn Sat0
set_option maxRecDepth 100000
set_option maxHeartbeats 4000000
variable {G : Nat → Option (List Cell)}

theorem parseQ_ok (hL : HasLen G) (s : List UInt8) (hl : s.length < 1000000000) : Pur Tryz.prog G 9 [.c (.str s)] [.agg (encQ (parseQ s).1), .c (.int .i64 (parseQ s).2)] := by
  have e0 : EqvD (.agg [.str [], .str [], .nilsl, .str []]) (.agg (encQ QT.nil)) := agg_eqv (.cons CEq.rfl' (.cons CEq.rfl' (.cons CEq.nil (.cons CEq.rfl' .nil))))
  cases hr : decide ((readH askB s).2 = 0) with
  | false =>
    have hr := of_decide_eq_false hr
    obtain ⟨f, b, z, hd, l, d, c⟩ := readsQ_no hL s hl hr
    have hp : parseQ s = (QT.nil, (readH askB s).2) := by unfold parseQ; rw [if_neg hr]
    rw [hp]
    have ht : ((readH askB s).2 != 0) = true := bne_iff_ne.2 hr
    generalize (readH askB s).2 = e at c ht
    clear hr hp
    refine Pur.of Tryz.func9 (by kernel_rfl) (by kernel_rfl) (by kernel_rfl) ?_
    refine Wp.go (mx := true) (fun _ => mixed) [(2, {cs := [(2, cb [32] c)], fm := [(1, .c (clo1 33 (.ptr 32 0)))]}), (4, {fm := [(0, .agg (encQ QT.nil))]})] 100 [true] [EqvI (V1.c (cloRaw (33 : Nat) [V1.c (Cell.ptr (32 : Nat) (0 : Nat))])) (V1.c (clo1 (33 : FuncId) (Cell.ptr (32 : Nat) (0 : Nat)))), EqvD (V1.c (cloRaw (33 : Nat) [V1.c (Cell.ptr (32 : Nat) (0 : Nat))])) (V1.c (clo1 (33 : FuncId) (Cell.ptr (32 : Nat) (0 : Nat)))), (e != (0 : Int)) = true, EqvI (V1.agg [Cell.str [], Cell.str [], Cell.nilsl, Cell.str []]) (V1.agg (encQ QT.nil)), EqvD (V1.agg [Cell.str [], Cell.str [], Cell.nilsl, Cell.str []]) (V1.agg (encQ QT.nil))] (by kernel_rfl) (by kernel_rfl) (by kernel_rfl) ⟨clo1_I _ _, clo1_D _ _, (by assumption), eqvI_flat _ _ (by kernel_rfl), (show EqvD (V1.agg [Cell.str [], Cell.str [], Cell.nilsl, Cell.str []]) (V1.agg (encQ QT.nil)) from (by assumption))⟩ ?_
    refine Wp.ret' (by kernel_rfl) ?_
    exact FinQ.pure (rs' := [V1.agg [Cell.str QT.nil.method, Cell.str QT.nil.target, Cell.sl (2 : Nat) QT.nil.head.length fun (i j : Nat) => nthD (encF (QT.nil.head.getD i FT.nil)) j, Cell.str QT.nil.body], V1.c (Cell.int .i64 e)]) (by kernel_rfl) rfl (by kernel_rfl)
  | true =>
    have hr := of_decide_eq_true hr
    obtain ⟨f, z, l, d, c⟩ := readsQ_yes hL s hl hr
    have hp : parseQ s = (⟨askM (firstH s), askT (firstH s), (readH askB s).1, (hdC s).2.1⟩, 0) := by unfold parseQ; rw [if_pos hr]
    rw [hp]
    have ht : ((0 : Int) != 0) = false := rfl
    generalize (readH askB s).1 = H at c
    clear hr hp
    refine Pur.of Tryz.func9 (by kernel_rfl) (by kernel_rfl) (by kernel_rfl) ?_
    refine Wp.go (mx := true) (fun _ => mixed) [(2, {cs := [(2, cb [32] c)], fm := [(1, .c (clo1 33 (.ptr 32 0)))]})] 100 [false] [EqvI (V1.c (cloRaw (33 : Nat) [V1.c (Cell.ptr (32 : Nat) (0 : Nat))])) (V1.c (clo1 (33 : FuncId) (Cell.ptr (32 : Nat) (0 : Nat)))), EqvD (V1.c (cloRaw (33 : Nat) [V1.c (Cell.ptr (32 : Nat) (0 : Nat))])) (V1.c (clo1 (33 : FuncId) (Cell.ptr (32 : Nat) (0 : Nat)))), ((0 : Int) != (0 : Int)) = false] (by kernel_rfl) (by kernel_rfl) (by kernel_rfl) ⟨clo1_I _ _, clo1_D _ _, rfl⟩ ?_
    refine Wp.ret' (by kernel_rfl) ?_
    exact FinQ.pure (rs' := [V1.agg [Cell.str (askM (firstH s)), Cell.str (askT (firstH s)), Cell.sl (2 : Nat) H.length fun (i j : Nat) => nthD (encF (H.getD i FT.nil)) j, Cell.str (hdC s).2.fst], V1.c (Cell.int .i64 (0 : Int))]) (by kernel_rfl) rfl (by kernel_rfl)
theorem parseR_ok (hL : HasLen G) (s : List UInt8) (hl : s.length < 1000000000) : Pur Tryz.prog G 11 [.c (.str s)] [.agg (encT (parseR s).1), .c (.int .i64 (parseR s).2)] := by
  have e0 : EqvD (.agg [.int .i64 0, .nilsl, .str []]) (.agg (encT nilR)) := agg_eqv (.cons CEq.rfl' (.cons CEq.nil (.cons CEq.rfl' .nil)))
  cases hr : decide ((readH tellB s).2 = 0) with
  | false =>
    have hr := of_decide_eq_false hr
    obtain ⟨f, b, z, hd, l, d, c⟩ := readsR_no hL s hl hr
    have hp : parseR s = (nilR, (readH tellB s).2) := by unfold parseR; rw [if_neg hr]
    rw [hp]
    have ht : ((readH tellB s).2 != 0) = true := bne_iff_ne.2 hr
    generalize (readH tellB s).2 = e at c ht
    clear hr hp
    refine Pur.of Tryz.func11 (by kernel_rfl) (by kernel_rfl) (by kernel_rfl) ?_
    refine Wp.go (mx := true) (fun _ => mixed) [(2, {cs := [(2, cb [32] c)], fm := [(1, .c (clo1 41 (.ptr 32 0)))]}), (4, {fm := [(0, .agg (encT nilR))]})] 100 [true] [EqvI (V1.c (cloRaw (41 : Nat) [V1.c (Cell.ptr (32 : Nat) (0 : Nat))])) (V1.c (clo1 (41 : FuncId) (Cell.ptr (32 : Nat) (0 : Nat)))), EqvD (V1.c (cloRaw (41 : Nat) [V1.c (Cell.ptr (32 : Nat) (0 : Nat))])) (V1.c (clo1 (41 : FuncId) (Cell.ptr (32 : Nat) (0 : Nat)))), (e != (0 : Int)) = true, EqvI (V1.agg [Cell.int .i64 (0 : Int), Cell.nilsl, Cell.str []]) (V1.agg (encT nilR)), EqvD (V1.agg [Cell.int .i64 (0 : Int), Cell.nilsl, Cell.str []]) (V1.agg (encT nilR))] (by kernel_rfl) (by kernel_rfl) (by kernel_rfl) ⟨clo1_I _ _, clo1_D _ _, (by assumption), eqvI_flat _ _ (by kernel_rfl), (show EqvD (V1.agg [Cell.int .i64 (0 : Int), Cell.nilsl, Cell.str []]) (V1.agg (encT nilR)) from (by assumption))⟩ ?_
    refine Wp.ret' (by kernel_rfl) ?_
    exact FinQ.pure (rs' := [V1.agg [Cell.int .i64 nilR.status, Cell.sl (2 : Nat) nilR.head.length fun (i j : Nat) => nthD (encF (nilR.head.getD i FT.nil)) j, Cell.str nilR.body], V1.c (Cell.int .i64 e)]) (by kernel_rfl) rfl (by kernel_rfl)
  | true =>
    have hr := of_decide_eq_true hr
    obtain ⟨f, z, l, d, c⟩ := readsR_yes hL s hl hr
    have hp : parseR s = (⟨tellN (firstH s), (readH tellB s).1, (hdC s).2.1⟩, 0) := by unfold parseR; rw [if_pos hr]
    rw [hp]
    have ht : ((0 : Int) != 0) = false := rfl
    generalize (readH tellB s).1 = H at c
    clear hr hp
    refine Pur.of Tryz.func11 (by kernel_rfl) (by kernel_rfl) (by kernel_rfl) ?_
    refine Wp.go (mx := true) (fun _ => mixed) [(2, {cs := [(2, cb [32] c)], fm := [(1, .c (clo1 41 (.ptr 32 0)))]})] 100 [false] [EqvI (V1.c (cloRaw (41 : Nat) [V1.c (Cell.ptr (32 : Nat) (0 : Nat))])) (V1.c (clo1 (41 : FuncId) (Cell.ptr (32 : Nat) (0 : Nat)))), EqvD (V1.c (cloRaw (41 : Nat) [V1.c (Cell.ptr (32 : Nat) (0 : Nat))])) (V1.c (clo1 (41 : FuncId) (Cell.ptr (32 : Nat) (0 : Nat)))), ((0 : Int) != (0 : Int)) = false] (by kernel_rfl) (by kernel_rfl) (by kernel_rfl) ⟨clo1_I _ _, clo1_D _ _, rfl⟩ ?_
    refine Wp.ret' (by kernel_rfl) ?_
    exact FinQ.pure (rs' := [V1.agg [Cell.int .i64 (tellN (firstH s)), Cell.sl (2 : Nat) H.length fun (i j : Nat) => nthD (encF (H.getD i FT.nil)) j, Cell.str (hdC s).2.fst], V1.c (Cell.int .i64 (0 : Int))]) (by kernel_rfl) rfl (by kernel_rfl)
end Go.Proofs.Tw
end

section
open Go Go.Sv
namespace Go.Proofs.Tw
attribute [local irreducible] Wp FinQ resV Ent Pur Go.Sv.Fn Sat0
set_option maxRecDepth 100000
set_option maxHeartbeats 4000000
variable {G : Nat → Option (List Cell)}

end Go.Proofs.Tw
end

section
open Go Go.Sv
namespace Go.Proofs.Tw
attribute [local irreducible] Wp FinQ resV Ent Pur Go.Sv.Fn Sat0
set_option maxRecDepth 100000
set_option maxHeartbeats 4000000
variable {G : Nat → Option (List Cell)}

/-! a number read -/
def numB (s : List UInt8) : Bool := decide (s.length ≤ 13) && canonB s
theorem number_yes (s : List UInt8) (h : numB s = true) : Pur Tryz.prog G 43 [.c (.str s), .c (.int .i64 13)] [.c (.int .i64 ((nv s : Nat) : Int)), .c (.bool true)] := by
  refine Pur.of Tryz.func43 (by kernel_rfl) (by kernel_rfl) (by kernel_rfl) ?_
  unfold numB canonB at h
  simp only [Bool.and_eq_true, decide_eq_true_eq, Bool.not_eq_true'] at h
  obtain ⟨hl, hd, hne, hh⟩ := h
  have c := All_digit (G := G) s (by omega)
  rw [hd] at c
  have hp : 0 < s.length := by
    cases s with
    | nil => simp at hne
    | cons a r => simp
  have hi0 : (((s.getD 0 0).toNat : Int) == 48) = (s.getD 0 0 == 48) := ibeq (s.getD 0 0) 48
  have ht : (bif bif bif s == [] then true else decide ((s.length : Int) > 13) then true else !true then true else bif decide ((s.length : Int) > 1) then ((s.getD 0 0).toNat : Int) == 48 else false) = false := by
    rw [hne, hi0, decide_eq_false (show ¬ ((s.length : Int) > 13) by omega)]
    by_cases h1 : 1 < s.length
    · rw [decide_eq_true h1, Bool.true_and] at hh
      rw [hh, decide_eq_true (show (s.length : Int) > 1 by omega)]; rfl
    · rw [decide_eq_false (show ¬ ((s.length : Int) > 1) by omega)]; rfl
  have hall : ∀ k, k < s.length → digitB (s.getD k 0) = true := fun k hk => by
    rw [List.all_eq_true] at hd
    exact hd _ (by simp [List.getD, hk])
  have hlt : ∀ k, k ≤ s.length → nv (s.take k) < 10 ^ 13 := fun k hk => nv_lt 13 _ (by simp; omega) (by rw [List.all_eq_true] at hd ⊢; exact fun x hx => hd x (List.mem_of_mem_take hx))
  have hnv : ∀ k, k < s.length → nv (s.take (k + 1)) = nv (s.take k) * 10 + ((s.getD k 0).toNat - 48) := fun k hk => by
    rw [List.take_succ_eq_append_getElem hk, nv_snoc]; simp [List.getD, hk]
  have hi1 : 0 ≤ (0 : Int) ∧ (0 : Int) < (s.length : Int) := by omega
  clear hd hh hne hi0
  refine Wp.go (mx := true) (fun _ => mixed) [(1, {cs := [(10, pc c)]})] 100 [false] [decide ((↑s.length : Int) > (1 : Int)) = true ∧ (bif bif s == [] then true else decide ((↑s.length : Int) > (13 : Int)) then true else !true) = false → (0 : Int) ≤ (0 : Int) ∧ (0 : Int) < (↑s.length : Int), (bif bif bif s == [] then true else decide ((↑s.length : Int) > (13 : Int)) then true else !true then true else bif decide ((↑s.length : Int) > (1 : Int)) then (↑(s.getD (0 : Nat) (0 : UInt8)).toNat : Int) == (48 : Int) else false) = false] (by kernel_rfl) (by kernel_rfl) (by kernel_rfl) ⟨(by omega), (show (bif bif bif s == [] then true else decide ((↑s.length : Int) > (13 : Int)) then true else !true then true else bif decide ((↑s.length : Int) > (1 : Int)) then (↑(s.getD (0 : Nat) (0 : UInt8)).toNat : Int) == (48 : Int) else false) = false from (by assumption))⟩ ?_
  refine Wp.loopK (by kernel_rfl) (fun (x : Nat × Nat) => ⟨[(0, .v (.c (.str s))), (6, .v (.c (.int .i64 (x.2 : Int)))), (32, .v (.c (.int .i64 (s.length : Int)))), (33, .v (.c (.int .i64 (x.1 : Int))))], [], 448⟩) (fun x => x.1 ≤ s.length ∧ x.2 = nv (s.take x.1)) (fun x => s.length - x.1) (0, 0) (Ent.of [] (by kernel_rfl) (by kernel_rfl) (by kernel_rfl) trivial) ⟨Nat.zero_le _, rfl⟩ ?_
  rintro ⟨k, n⟩ L ⟨hk, hn⟩ again
  simp only at hk hn
  rcases Nat.lt_or_ge k s.length with hlk | hge
  · have hb := dig_to (hall k hlk)
    have hlim := hlt k hk
    rw [← hn] at hlim
    have hn2 : n * 10 + ((s.getD k 0).toNat - 48) = nv (s.take (k + 1)) := by rw [hnv k hlk, hn]
    have ew : IntKind.u8.wrap (((s.getD k 0).toNat : Int) - 48) = (((s.getD k 0).toNat - 48 : Nat) : Int) := by rw [wrap8 (by omega) (by omega)]; omega
    have ew2 : IntKind.i64.wrap (((s.getD k 0).toNat - 48 : Nat) : Int) = (((s.getD k 0).toNat - 48 : Nat) : Int) := wrap64 (by omega) (by omega)
    have e7 : EqvD (.c (.int .u8 (IntKind.u8.wrap (((s.getD k 0).toNat : Int) - 48)))) (.c (.int .u8 (((s.getD k 0).toNat - 48 : Nat) : Int))) := eqvD_of (by rw [ew])
    have e8 : EqvD (.c (.int .i64 (IntKind.i64.wrap (((s.getD k 0).toNat - 48 : Nat) : Int)))) (.c (.int .i64 (((s.getD k 0).toNat - 48 : Nat) : Int))) := eqvD_of (by rw [ew2])
    have e9 : EqvD (.c (.int .i64 ((n : Int) * 10 + (((s.getD k 0).toNat - 48 : Nat) : Int)))) (.c (.int .i64 ((n * 10 + ((s.getD k 0).toNat - 48) : Nat) : Int))) := eqvD_of (by rw [show (n : Int) * 10 + (((s.getD k 0).toNat - 48 : Nat) : Int) = ((n * 10 + ((s.getD k 0).toNat - 48) : Nat) : Int) from by omega])
    have hlim2 : n < 10000000000000 := by simpa using hlim
    clear ew ew2 hlt hnv hall ht hlim hn
    refine Wp.go (mx := true) (fun _ => mixed) [(7, {fm := [(5, .c (.int .u8 (((s.getD k 0).toNat - 48 : Nat) : Int))), (6, .c (.int .i64 (((s.getD k 0).toNat - 48 : Nat) : Int))), (7, .c (.int .i64 ((n * 10 + ((s.getD k 0).toNat - 48) : Nat) : Int)))]})] 100 [true] [decide ((↑k : Int) < (↑s.length : Int)) = true, inR IntKind.i64 ((↑n : Int) * (10 : Int)), (0 : Int) ≤ (↑k : Int) ∧ (↑k : Int) < (↑s.length : Int), EqvI (V1.c (Cell.int .u8 (IntKind.u8.wrap ((↑(s.getD k (0 : UInt8)).toNat : Int) - (48 : Int))))) (V1.c (Cell.int .u8 (↑((s.getD k (0 : UInt8)).toNat - (48 : Nat)) : Int))), EqvD (V1.c (Cell.int .u8 (IntKind.u8.wrap ((↑(s.getD k (0 : UInt8)).toNat : Int) - (48 : Int))))) (V1.c (Cell.int .u8 (↑((s.getD k (0 : UInt8)).toNat - (48 : Nat)) : Int))), EqvI (V1.c (Cell.int .i64 (IntKind.i64.wrap (↑((s.getD k (0 : UInt8)).toNat - (48 : Nat)) : Int)))) (V1.c (Cell.int .i64 (↑((s.getD k (0 : UInt8)).toNat - (48 : Nat)) : Int))), EqvD (V1.c (Cell.int .i64 (IntKind.i64.wrap (↑((s.getD k (0 : UInt8)).toNat - (48 : Nat)) : Int)))) (V1.c (Cell.int .i64 (↑((s.getD k (0 : UInt8)).toNat - (48 : Nat)) : Int))), EqvI (V1.c (Cell.int .i64 ((↑n : Int) * (10 : Int) + (↑((s.getD k (0 : UInt8)).toNat - (48 : Nat)) : Int)))) (V1.c (Cell.int .i64 (↑(n * (10 : Nat) + ((s.getD k (0 : UInt8)).toNat - (48 : Nat))) : Int))), EqvD (V1.c (Cell.int .i64 ((↑n : Int) * (10 : Int) + (↑((s.getD k (0 : UInt8)).toNat - (48 : Nat)) : Int)))) (V1.c (Cell.int .i64 (↑(n * (10 : Nat) + ((s.getD k (0 : UInt8)).toNat - (48 : Nat))) : Int))), inR IntKind.i64 ((↑n : Int) * (10 : Int) + (↑((s.getD k (0 : UInt8)).toNat - (48 : Nat)) : Int)), inR IntKind.i64 ((↑k : Int) + (1 : Int))] (by kernel_rfl) (by kernel_rfl) (by kernel_rfl) ⟨(by simp; omega), inR64 (by omega) (by omega), (by omega), fun _ _ => trivial, (by assumption), fun _ _ => trivial, (by assumption), fun _ _ => trivial, (by assumption), inR64 (by omega) (by omega), inR64 (by omega) (by omega)⟩ ?_
    exact Wp.lpK (by kernel_rfl) (again _ (k + 1, n * 10 + ((s.getD k 0).toNat - 48)) ⟨(by assumption), (by assumption)⟩ (by omega) (Ent.of [] (by kernel_rfl) (by kernel_rfl) (by kernel_rfl) trivial))
  · rw [List.take_of_length_le hge] at hn
    subst hn
    clear hlt hnv hall ht
    refine Wp.go (mx := true) (fun _ => mixed) [] 100 [false] [decide ((↑k : Int) < (↑s.length : Int)) = false] (by kernel_rfl) (by kernel_rfl) (by kernel_rfl) (show decide ((↑k : Int) < (↑s.length : Int)) = false from (by simp; omega)) ?_
    refine Wp.ret' (by kernel_rfl) ?_
    exact FinQ.pure (rs' := [V1.c (Cell.int .i64 (↑(nv s) : Int)), V1.c (Cell.bool true)]) (by kernel_rfl) rfl (by kernel_rfl)
theorem number_no (s : List UInt8) (hl : s.length < 1000000000) (h : numB s = false) : Pur Tryz.prog G 43 [.c (.str s), .c (.int .i64 13)] [.c (.int .i64 0), .c (.bool false)] := by
  refine Pur.of Tryz.func43 (by kernel_rfl) (by kernel_rfl) (by kernel_rfl) ?_
  have c := All_digit (G := G) s (by omega)
  have hi0 : (((s.getD 0 0).toNat : Int) == 48) = (s.getD 0 0 == 48) := ibeq (s.getD 0 0) 48
  have hi1 : decide ((s.length : Int) > 1) = true → 0 ≤ (0 : Int) ∧ (0 : Int) < (s.length : Int) := fun h => by have := of_decide_eq_true h; omega
  have ht : (bif bif bif s == [] then true else decide ((s.length : Int) > 13) then true else !s.all digitB then true else bif decide ((s.length : Int) > 1) then ((s.getD 0 0).toNat : Int) == 48 else false) = true := by
    rw [hi0]
    unfold numB canonB at h
    revert h
    have hd1 : decide ((s.length : Int) > 13) = !decide (s.length ≤ 13) := by by_cases hh : s.length ≤ 13 <;> simp [hh] <;> omega
    have hd2 : decide ((s.length : Int) > 1) = decide (1 < s.length) := by by_cases hh : 1 < s.length <;> simp [hh] <;> omega
    rw [hd1, hd2]
    cases (s == []) <;> cases decide (s.length ≤ 13) <;> cases (s.all digitB) <;> cases decide (1 < s.length) <;> cases (s.getD 0 0 == 48) <;> decide
  clear h hi0
  refine Wp.go (mx := true) (fun _ => mixed) [(1, {cs := [(10, pc c)]})] 100 [true] [decide ((↑s.length : Int) > (1 : Int)) = true ∧ (bif bif s == [] then true else decide ((↑s.length : Int) > (13 : Int)) then true else !s.all digitB) = false → (0 : Int) ≤ (0 : Int) ∧ (0 : Int) < (↑s.length : Int), (bif bif bif s == [] then true else decide ((↑s.length : Int) > (13 : Int)) then true else !s.all digitB then true else bif decide ((↑s.length : Int) > (1 : Int)) then (↑(s.getD (0 : Nat) (0 : UInt8)).toNat : Int) == (48 : Int) else false) = true] (by kernel_rfl) (by kernel_rfl) (by kernel_rfl) ⟨(by simp; omega), (show (bif bif bif s == [] then true else decide ((↑s.length : Int) > (13 : Int)) then true else !s.all digitB then true else bif decide ((↑s.length : Int) > (1 : Int)) then (↑(s.getD (0 : Nat) (0 : UInt8)).toNat : Int) == (48 : Int) else false) = true from (by assumption))⟩ ?_
  refine Wp.ret' (by kernel_rfl) ?_
  exact FinQ.pure (rs' := [V1.c (Cell.int .i64 (0 : Int)), V1.c (Cell.bool false)]) (by kernel_rfl) rfl (by kernel_rfl)
end Go.Proofs.Tw
end

section
open Go Go.Sv
namespace Go.Proofs.Tw
attribute [local irreducible] Wp FinQ resV Ent Pur Go.Sv.Fn Sat0
set_option maxRecDepth 100000
set_option maxHeartbeats 4000000
variable {G : Nat → Option (List Cell)}

/-! texts cut -/
theorem idx_at (a t r : List UInt8) (c : UInt8) (h : c ∉ a) : Lib.index (a ++ (c :: r) ++ t) (c :: r) = a.length := by
  refine Lib.index_first (by simp only [List.length_append]; omega) ?_ (fun j hj => ?_)
  · unfold Lib.occAt
    rw [List.append_assoc, List.drop_left]
    exact List.isPrefixOf_iff_prefix.2 (List.prefix_append _ _)
  · unfold Lib.occAt
    have hx : (a ++ (c :: r) ++ t).drop j = a.getD j 0 :: (a ++ (c :: r) ++ t).drop (j + 1) := by
      rw [dropS _ j (by simp only [List.length_append]; omega)]
      congr 1
      rw [List.append_assoc, List.getD_eq_getElem?_getD, List.getD_eq_getElem?_getD, List.getElem?_append_left hj]
    rw [hx, List.isPrefixOf]
    have : (c == a.getD j 0) = false := by
      rw [beq_eq_false_iff_ne]
      rintro rfl
      exact h (by rw [List.getD_eq_getElem?_getD, List.getElem?_eq_getElem hj]; exact List.getElem_mem hj)
    rw [this]; rfl
theorem cut_at (a t r : List UInt8) (c : UInt8) (h : c ∉ a) : Lib.cut (a ++ (c :: r) ++ t) (c :: r) = (a, t, true) := by
  unfold Lib.cut
  rw [idx_at a t r c h, if_pos (by omega)]
  have e : ((a.length : Nat) : Int).toNat = a.length := by omega
  rw [e, List.append_assoc, List.take_left, ← List.append_assoc, show a.length + (c :: r).length = (a ++ (c :: r)).length from by simp, List.drop_left]
theorem cut_true {s p : List UInt8} (h : (Lib.cut s p).2.2 = true) : s = (Lib.cut s p).1 ++ p ++ (Lib.cut s p).2.1 := by
  unfold Lib.cut at h ⊢
  split
  · rename_i h0
    rw [if_pos h0] at h
    have ho : Lib.occAt s p (Lib.index s p).toNat = true := by
      rcases Lib.index_spec s p with ⟨h1, _⟩ | ⟨i, h1, _, h2, _⟩
      · rw [h1] at h0; exact absurd h0 (by decide)
      · rw [h1, show ((i : Nat) : Int).toNat = i from by omega]; exact h2
    generalize (Lib.index s p).toNat = i at ho
    have hp := List.isPrefixOf_iff_prefix.1 ho
    obtain ⟨t, ht⟩ := hp
    show s = s.take i ++ p ++ s.drop (i + p.length)
    have h2 : s.drop (i + p.length) = t := by rw [← List.drop_drop, ← ht, List.drop_left]
    rw [h2, List.append_assoc, ht, List.take_append_drop]
  · rename_i h0
    rw [if_neg h0] at h
    cases h
theorem suf_true {s p : List UInt8} (h : Lib.hasSuffix s p = true) : s = Lib.trimSuffix s p ++ p := by
  unfold Lib.trimSuffix
  rw [if_pos h]
  obtain ⟨t, rfl⟩ := List.isSuffixOf_iff_suffix.1 h
  simp
theorem suf_app (a p : List UInt8) : Lib.hasSuffix (a ++ p) p = true ∧ Lib.trimSuffix (a ++ p) p = a := by
  have h : Lib.hasSuffix (a ++ p) p = true := List.isSuffixOf_iff_suffix.2 (List.suffix_append _ _)
  refine ⟨h, ?_⟩
  unfold Lib.trimSuffix
  rw [if_pos h]; simp
theorem plain_ne (c : UInt8) (h : plainB c = true) : c ≠ 59 ∧ c ≠ 61 := by
  have := byte_all (fun c => !plainB c || (!(c == 59) && !(c == 61))) (by kernel_rfl) c
  simp only [h, Bool.not_true, Bool.false_or, Bool.and_eq_true, Bool.not_eq_true', beq_eq_false_iff_ne] at this
  exact this
theorem dig_ne (c : UInt8) (h : digitB c = true) : c ≠ 59 := by
  have := byte_all (fun c => !digitB c || !(c == 59)) (by kernel_rfl) c
  simp only [h, Bool.not_true, Bool.false_or, Bool.not_eq_true', beq_eq_false_iff_ne] at this
  exact this
theorem may_parts {f : FT} (h : mayC f = true) : (∀ c ∈ f.name, plainB c = true) ∧ (∀ c ∈ f.value, plainB c = true) ∧ f.name.length ≤ 128 ∧ f.value.length ≤ 128 := by
  unfold mayC at h
  cases h1 : wdT f.name with
  | false => rw [h1] at h; cases h
  | true =>
    rw [h1] at h
    have h : wdT f.value = true := h
    unfold wdT at h h1
    simp only [Bool.and_eq_true, decide_eq_true_eq, List.all_eq_true] at h h1
    exact ⟨h1.1, h.1, h1.2.2, h.2.2⟩
theorem pair_59 {f : FT} (h : mayC f = true) : (59 : UInt8) ∉ pairC f := by
  obtain ⟨h1, h2, _⟩ := may_parts h
  unfold pairC
  simp only [List.mem_append, List.mem_singleton, not_or]
  exact ⟨⟨fun hc => (plain_ne _ (h1 _ hc)).1 rfl, by decide⟩, fun hc => (plain_ne _ (h2 _ hc)).1 rfl⟩
theorem pair_cut {f : FT} (h : mayC f = true) : Lib.cut (pairC f) [61] = (f.name, f.value, true) := by
  obtain ⟨h1, _⟩ := may_parts h
  exact cut_at f.name f.value [] 61 (fun hc => (plain_ne _ (h1 _ hc)).2 rfl)
theorem pair_one {f : FT} (h : mayC f = true) : oneF (pairC f) = f := by unfold oneF; rw [pair_cut h]
theorem one_pair {p : List UInt8} (h : mayC (oneF p) = true) : pairC (oneF p) = p := (cut_true (may_cut p h)).symm
theorem dec_59 (m : Nat) : (59 : UInt8) ∉ Lib.decDigits m := fun hc => by
  have := dec_all m
  rw [List.all_eq_true] at this
  exact dig_ne _ (this _ hc) rfl
/-- What is set of a cookie. -/
def setT (f : FT) (m : Nat) : List UInt8 := pairC f ++ ageC ++ Lib.decDigits m ++ behC
theorem set_set {f : FT} {m : Nat} (h : mayC f = true) (hm : m ≤ 1099511627776) : setC f (m : Int) = setT f m := by
  have hb : badC f (m : Int) = false := by
    unfold badC; rw [h, decide_eq_false (by omega), decide_eq_false (by omega)]; rfl
  unfold setC setT
  rw [if_neg (by rw [hb]; decide), Lib.itoa_nonneg]
theorem set_no {f : FT} {m : Nat} (h : mayC f = false) : setC f (m : Int) = [] := by
  have hb : badC f (m : Int) = true := by unfold badC; rw [h]; rfl
  unfold setC
  rw [if_pos hb]
def RdC (s : List UInt8) : Prop := ∃ f m, mayC f = true ∧ m ≤ 1099511627776 ∧ s = setT f m

theorem age_nil : ageT [] = -1 := by unfold ageT ageL; rw [Lib.decDigits_one (by decide)]; rfl
/-! what was set is read -/
end Go.Proofs.Tw
end

section
open Go Go.Sv Go.RowKit
namespace Go.Proofs.Tw
attribute [local irreducible] Wp FinQ resV Ent Pur Go.Sv.Fn Sat0
set_option maxRecDepth 100000
set_option maxHeartbeats 4000000
variable {G : Nat → Option (List Cell)}

/-! the document's: a number, a first line -/
def cntT (s : List UInt8) : Int := if numK 9 s then ((nv s : Nat) : Int) else -1
theorem cnt_end {s : List UInt8} (hd : s.all digitB = true) (h9 : s.length ≤ 9) : (Lib.decDigits (nv s) == s) = numK 9 s := by
  cases h : canonB s with
  | true =>
    rw [canon_back s.length s rfl h]
    unfold numK
    rw [h, decide_eq_true h9]
    simp
  | false =>
    have : numK 9 s = false := by unfold numK; rw [h, Bool.and_false]
    rw [this, beq_eq_false_iff_ne]
    intro e
    have := canon_dec (nv s)
    rw [e, h] at this
    cases this
theorem count_ok (s : List UInt8) (hl : s.length < 1000000000) : Pur Tryz.prog G 81 [.c (.str s)] [.c (.int .i64 (cntT s))] := by
  refine Pur.of Tryz.func81 (by kernel_rfl) (by kernel_rfl) (by kernel_rfl) ?_
  refine Wp.go (mx := true) (fun _ => mixed) [] 100 [] [] (by kernel_rfl) (by kernel_rfl) (by kernel_rfl) trivial ?_
  refine Wp.loopK (by kernel_rfl) (fun (x : Nat × Nat) => ⟨[(0, .v (.c (.str s))), (3, .v (.c (.int .i64 (x.2 : Int)))), (4, .v (.c (.int .i64 (x.1 : Int))))], [], 48⟩) (fun x => x.1 ≤ s.length ∧ x.2 = nv (s.take x.1) ∧ (s.take x.1).all digitB = true ∧ (0 < x.1 → s.length ≤ 9)) (fun x => s.length - x.1) (0, 0) (Ent.of [] (by kernel_rfl) (by kernel_rfl) (by kernel_rfl) trivial) ⟨Nat.zero_le _, rfl, rfl, fun h => absurd h (Nat.lt_irrefl _)⟩ ?_
  rintro ⟨k, n⟩ L ⟨hk, hn, hd, h9⟩ again
  simp only at hk hn hd h9
  rcases Nat.lt_or_ge k s.length with hlt | hge
  · have c := digit6_ok (G := G) (s.getD k 0)
    have hlim : n < 10 ^ k := by rw [hn]; exact nv_lt k _ (by rw [List.length_take]; omega) hd
    have hmem : s.getD k 0 ∈ s := by simp [List.getD, hlt]
    cases hdk : digitB (s.getD k 0) with
    | false =>
      have hno : numK 9 s = false := by
        unfold numK canonB
        rw [show s.all digitB = false from by rw [List.all_eq_false]; exact ⟨_, hmem, by rw [hdk]; decide⟩]
        simp
      have hq : cntT s = -1 := by unfold cntT; rw [hno]; rfl
      rw [hq]
      rw [hdk] at c
      have ht : (bif !false then true else decide ((s.length : Int) > 9)) = true := rfl
      clear hlim hno hq hdk again
      refine Wp.go (mx := true) (fun _ => mixed) [(5, {cs := [(3, pc c)]})] 100 [true, true] [decide ((↑k : Int) < (↑s.length : Int)) = true, (0 : Int) ≤ (↑k : Int) ∧ (↑k : Int) < (↑s.length : Int), (bif !false then true else decide ((↑s.length : Int) > (9 : Int))) = true] (by kernel_rfl) (by kernel_rfl) (by kernel_rfl) ⟨(by simp; omega), (by omega), rfl⟩ ?_
      refine Wp.ret' (by kernel_rfl) ?_
      exact FinQ.pure (rs' := [V1.c (Cell.int .i64 (-1 : Int))]) (by kernel_rfl) rfl (by kernel_rfl)
    | true =>
      rw [hdk] at c
      by_cases h10 : s.length ≤ 9
      · have hb := dig_to hdk
        have hn2 : n * 10 + ((s.getD k 0).toNat - 48) = nv (s.take (k + 1)) := by rw [List.take_succ_eq_append_getElem hlt, nv_snoc, ← hn]; simp [List.getD, hlt]
        have hd2 : (s.take (k + 1)).all digitB = true := by
          rw [List.take_succ_eq_append_getElem hlt, List.all_append, hd]
          have : digitB s[k] = true := by rw [← hdk]; simp [List.getD, hlt]
          simp [this]
        have ew : IntKind.u8.wrap (((s.getD k 0).toNat : Int) - 48) = (((s.getD k 0).toNat - 48 : Nat) : Int) := by rw [wrap8 (by omega) (by omega)]; omega
        have ew2 : IntKind.i64.wrap (((s.getD k 0).toNat - 48 : Nat) : Int) = (((s.getD k 0).toNat - 48 : Nat) : Int) := wrap64 (by omega) (by omega)
        have e7 : EqvD (.c (.int .u8 (IntKind.u8.wrap (((s.getD k 0).toNat : Int) - 48)))) (.c (.int .u8 (((s.getD k 0).toNat - 48 : Nat) : Int))) := eqvD_of (by rw [ew])
        have e8 : EqvD (.c (.int .i64 (IntKind.i64.wrap (((s.getD k 0).toNat - 48 : Nat) : Int)))) (.c (.int .i64 (((s.getD k 0).toNat - 48 : Nat) : Int))) := eqvD_of (by rw [ew2])
        have e9 : EqvD (.c (.int .i64 ((n : Int) * 10 + (((s.getD k 0).toNat - 48 : Nat) : Int)))) (.c (.int .i64 ((n * 10 + ((s.getD k 0).toNat - 48) : Nat) : Int))) := eqvD_of (by rw [show (n : Int) * 10 + (((s.getD k 0).toNat - 48 : Nat) : Int) = ((n * 10 + ((s.getD k 0).toNat - 48) : Nat) : Int) from by omega])
        have hlim2 : n < 1000000000 := Nat.lt_of_lt_of_le hlim (Nat.pow_le_pow_right (n := 10) (by decide) (show k ≤ 9 by omega))
        have ht : (bif !true then true else decide ((s.length : Int) > 9)) = false := by simp; omega
        have h9' : 0 < k + 1 → s.length ≤ 9 := fun _ => h10
        clear hlim ew ew2 hn hd hdk h9
        refine Wp.go (mx := true) (fun _ => mixed) [(7, {fm := [(5, .c (.int .u8 (((s.getD k 0).toNat - 48 : Nat) : Int))), (6, .c (.int .i64 (((s.getD k 0).toNat - 48 : Nat) : Int))), (7, .c (.int .i64 ((n * 10 + ((s.getD k 0).toNat - 48) : Nat) : Int)))]}), (5, {cs := [(3, pc c)]})] 100 [true, false] [decide ((↑k : Int) < (↑s.length : Int)) = true, (0 : Int) ≤ (↑k : Int) ∧ (↑k : Int) < (↑s.length : Int), (bif !true then true else decide ((↑s.length : Int) > (9 : Int))) = false, inR IntKind.i64 ((↑n : Int) * (10 : Int)), (0 : Int) ≤ (↑k : Int) ∧ (↑k : Int) < (↑s.length : Int), EqvI (V1.c (Cell.int .u8 (IntKind.u8.wrap ((↑(s.getD k (0 : UInt8)).toNat : Int) - (48 : Int))))) (V1.c (Cell.int .u8 (↑((s.getD k (0 : UInt8)).toNat - (48 : Nat)) : Int))), EqvD (V1.c (Cell.int .u8 (IntKind.u8.wrap ((↑(s.getD k (0 : UInt8)).toNat : Int) - (48 : Int))))) (V1.c (Cell.int .u8 (↑((s.getD k (0 : UInt8)).toNat - (48 : Nat)) : Int))), EqvI (V1.c (Cell.int .i64 (IntKind.i64.wrap (↑((s.getD k (0 : UInt8)).toNat - (48 : Nat)) : Int)))) (V1.c (Cell.int .i64 (↑((s.getD k (0 : UInt8)).toNat - (48 : Nat)) : Int))), EqvD (V1.c (Cell.int .i64 (IntKind.i64.wrap (↑((s.getD k (0 : UInt8)).toNat - (48 : Nat)) : Int)))) (V1.c (Cell.int .i64 (↑((s.getD k (0 : UInt8)).toNat - (48 : Nat)) : Int))), EqvI (V1.c (Cell.int .i64 ((↑n : Int) * (10 : Int) + (↑((s.getD k (0 : UInt8)).toNat - (48 : Nat)) : Int)))) (V1.c (Cell.int .i64 (↑(n * (10 : Nat) + ((s.getD k (0 : UInt8)).toNat - (48 : Nat))) : Int))), EqvD (V1.c (Cell.int .i64 ((↑n : Int) * (10 : Int) + (↑((s.getD k (0 : UInt8)).toNat - (48 : Nat)) : Int)))) (V1.c (Cell.int .i64 (↑(n * (10 : Nat) + ((s.getD k (0 : UInt8)).toNat - (48 : Nat))) : Int))), inR IntKind.i64 ((↑n : Int) * (10 : Int) + (↑((s.getD k (0 : UInt8)).toNat - (48 : Nat)) : Int)), inR IntKind.i64 ((↑k : Int) + (1 : Int))] (by kernel_rfl) (by kernel_rfl) (by kernel_rfl) ⟨(by simp; omega), (by omega), (by assumption), inR64 (by omega) (by omega), (by omega), fun _ _ => trivial, (by assumption), fun _ _ => trivial, (by assumption), fun _ _ => trivial, (by assumption), inR64 (by omega) (by omega), inR64 (by omega) (by omega)⟩ ?_
        exact Wp.lpK (by kernel_rfl) (again _ (k + 1, n * 10 + ((s.getD k 0).toNat - 48)) ⟨(by assumption), ⟨(by assumption), ⟨(by assumption), (by assumption)⟩⟩⟩ (by omega) (Ent.of [] (by kernel_rfl) (by kernel_rfl) (by kernel_rfl) trivial))
      · have hno : numK 9 s = false := by
          unfold numK
          rw [decide_eq_false h10]
          rfl
        have hq : cntT s = -1 := by unfold cntT; rw [hno]; rfl
        rw [hq]
        have ht : (bif !true then true else decide ((s.length : Int) > 9)) = true := by simp; omega
        clear hlim hno hq hdk again
        refine Wp.go (mx := true) (fun _ => mixed) [(5, {cs := [(3, pc c)]})] 100 [true, true] [decide ((↑k : Int) < (↑s.length : Int)) = true, (0 : Int) ≤ (↑k : Int) ∧ (↑k : Int) < (↑s.length : Int), (bif !true then true else decide ((↑s.length : Int) > (9 : Int))) = true] (by kernel_rfl) (by kernel_rfl) (by kernel_rfl) ⟨(by simp; omega), (by omega), (show (bif !true then true else decide ((↑s.length : Int) > (9 : Int))) = true from (by assumption))⟩ ?_
        refine Wp.ret' (by kernel_rfl) ?_
        exact FinQ.pure (rs' := [V1.c (Cell.int .i64 (-1 : Int))]) (by kernel_rfl) rfl (by kernel_rfl)
  · rw [List.take_of_length_le hge] at hn hd
    by_cases he : s = []
    · subst he
      have hq : cntT [] = -1 := by unfold cntT; rfl
      rw [hq]
      have hn0 : n = 0 := hn
      subst hn0
      have c : Pur Tryz.prog G 91 [.c (.int .i64 ((0 : Nat) : Int))] [.c (.str (Lib.decDigits 0))] := dig_nat 0 (by omega)
      have hb : (!(Lib.decDigits 0 == [])) = true := by
        have := dec_ne 0
        cases h : Lib.decDigits 0 with
        | nil => exact (this h).elim
        | cons a b => rfl
      clear again hd hn
      refine Wp.go (mx := true) (fun _ => mixed) [(8, {cs := [(1, pc c)]})] 100 [false, true] [decide ((↑k : Int) < (↑([] : List UInt8).length : Int)) = false, (!Lib.decDigits (0 : Nat) == []) = true] (by kernel_rfl) (by kernel_rfl) (by kernel_rfl) ⟨rfl, (show (!Lib.decDigits (0 : Nat) == []) = true from (by assumption))⟩ ?_
      refine Wp.ret' (by kernel_rfl) ?_
      exact FinQ.pure (rs' := [V1.c (Cell.int .i64 (-1 : Int))]) (by kernel_rfl) rfl (by kernel_rfl)
    · have hpos : 0 < s.length := List.length_pos_iff.2 he
      have h9' := h9 (by omega)
      have hend := cnt_end hd h9'
      rw [← hn] at hend
      have hlim : n < 1000000000 := by rw [hn]; exact Nat.lt_of_lt_of_le (nv_lt 9 s h9' hd) (by decide)
      have c := dig_nat (G := G) n (by omega)
      unfold cntT
      rw [← hn]
      cases hk9 : numK 9 s with
      | true =>
        rw [hk9] at hend
        rw [if_pos rfl]
        have hb : (!(Lib.decDigits n == s)) = false := by rw [hend]; rfl
        clear again hd hn hend h9
        refine Wp.go (mx := true) (fun _ => mixed) [(8, {cs := [(1, pc c)]})] 100 [false, false] [decide ((↑k : Int) < (↑s.length : Int)) = false, (!Lib.decDigits n == s) = false] (by kernel_rfl) (by kernel_rfl) (by kernel_rfl) ⟨(by simp; omega), (show (!Lib.decDigits n == s) = false from (by assumption))⟩ ?_
        refine Wp.ret' (by kernel_rfl) ?_
        exact FinQ.pure (rs' := [V1.c (Cell.int .i64 (↑n : Int))]) (by kernel_rfl) rfl (by kernel_rfl)
      | false =>
        rw [hk9] at hend
        rw [if_neg (by decide)]
        have hb : (!(Lib.decDigits n == s)) = true := by rw [hend]; rfl
        clear again hd hn hend h9
        refine Wp.go (mx := true) (fun _ => mixed) [(8, {cs := [(1, pc c)]})] 100 [false, true] [decide ((↑k : Int) < (↑s.length : Int)) = false, (!Lib.decDigits n == s) = true] (by kernel_rfl) (by kernel_rfl) (by kernel_rfl) ⟨(by simp; omega), (show (!Lib.decDigits n == s) = true from (by assumption))⟩ ?_
        refine Wp.ret' (by kernel_rfl) ?_
        exact FinQ.pure (rs' := [V1.c (Cell.int .i64 (-1 : Int))]) (by kernel_rfl) rfl (by kernel_rfl)
theorem method13_ok (s : List UInt8) (hl : s.length < 4611686018427387904) : Pur Tryz.prog G 53 [.c (.str s)] [.c (.bool (methT s))] := by
  refine Pur.of Tryz.func53 (by kernel_rfl) (by kernel_rfl) (by kernel_rfl) ?_
  refine Wp.go (mx := true) (fun _ => mixed) [] 100 [] [] (by kernel_rfl) (by kernel_rfl) (by kernel_rfl) trivial ?_
  refine Wp.loopK (by kernel_rfl) (fun (k : Nat) => ⟨[(0, .v (.c (.str s))), (3, .v (.c (.int .i64 (k : Int))))], [], 32⟩) (fun k => k ≤ s.length ∧ s.all greatB = (s.drop k).all greatB) (fun k => s.length - k) 0 (Ent.of [] (by kernel_rfl) (by kernel_rfl) (by kernel_rfl) trivial) ⟨Nat.zero_le _, rfl⟩ ?_
  intro k L ⟨hk, hq⟩ again
  rcases Nat.lt_or_ge k s.length with hlt | hge
  · rw [dropS s k hlt, List.all_cons] at hq
    have hb : (bif decide (((s.getD k (0 : UInt8)).toNat : Int) < 65) then true else decide (((s.getD k (0 : UInt8)).toNat : Int) > 90)) = !greatB (s.getD k (0 : UInt8)) := by_fun (fun c => bif decide ((c.toNat : Int) < 65) then true else decide ((c.toNat : Int) > 90)) (fun c => !greatB c) (by kernel_rfl) (s.getD k (0 : UInt8))
    cases hg : greatB (s.getD k 0) with
    | false =>
      rw [hg] at hb hq
      have hb : (bif decide (((s.getD k (0 : UInt8)).toNat : Int) < 65) then true else decide (((s.getD k (0 : UInt8)).toNat : Int) > 90)) = true := hb
      have hm : methT s = false := by unfold methT; rw [hq]; rfl
      rw [hm]
      clear hm again hq hg
      refine Wp.go (mx := true) (fun _ => mixed) [] 100 [true, true] [decide ((↑k : Int) < (↑s.length : Int)) = true, (0 : Int) ≤ (↑k : Int) ∧ (↑k : Int) < (↑s.length : Int), decide ((↑(s.getD k (0 : UInt8)).toNat : Int) < (65 : Int)) = false → (0 : Int) ≤ (↑k : Int) ∧ (↑k : Int) < (↑s.length : Int), (bif decide ((↑(s.getD k (0 : UInt8)).toNat : Int) < (65 : Int)) then true else decide ((↑(s.getD k (0 : UInt8)).toNat : Int) > (90 : Int))) = true] (by kernel_rfl) (by kernel_rfl) (by kernel_rfl) ⟨(by simp; omega), (by omega), (by omega), (show (bif decide ((↑(s.getD k (0 : UInt8)).toNat : Int) < (65 : Int)) then true else decide ((↑(s.getD k (0 : UInt8)).toNat : Int) > (90 : Int))) = true from (by assumption))⟩ ?_
      refine Wp.ret' (by kernel_rfl) ?_
      exact FinQ.pure (rs' := [V1.c (Cell.bool false)]) (by kernel_rfl) rfl (by kernel_rfl)
    | true =>
      rw [hg, Bool.true_and] at hq
      rw [hg] at hb
      have hb : (bif decide (((s.getD k (0 : UInt8)).toNat : Int) < 65) then true else decide (((s.getD k (0 : UInt8)).toNat : Int) > 90)) = false := hb
      clear hg
      refine Wp.go (mx := true) (fun _ => mixed) [] 100 [true, false] [decide ((↑k : Int) < (↑s.length : Int)) = true, (0 : Int) ≤ (↑k : Int) ∧ (↑k : Int) < (↑s.length : Int), decide ((↑(s.getD k (0 : UInt8)).toNat : Int) < (65 : Int)) = false → (0 : Int) ≤ (↑k : Int) ∧ (↑k : Int) < (↑s.length : Int), (bif decide ((↑(s.getD k (0 : UInt8)).toNat : Int) < (65 : Int)) then true else decide ((↑(s.getD k (0 : UInt8)).toNat : Int) > (90 : Int))) = false, inR IntKind.i64 ((↑k : Int) + (1 : Int))] (by kernel_rfl) (by kernel_rfl) (by kernel_rfl) ⟨(by simp; omega), (by omega), (by omega), (by assumption), inR64 (by omega) (by omega)⟩ ?_
      exact Wp.lpK (by kernel_rfl) (again _ (k + 1) ⟨(by assumption), (by assumption)⟩ (by omega) (Ent.of [] (by kernel_rfl) (by kernel_rfl) (by kernel_rfl) trivial))
  · rw [List.drop_of_length_le hge, List.all_nil] at hq
    have hm : methT s = (bif decide ((s.length : Int) ≥ 1) then decide ((s.length : Int) ≤ 16) else false) := by
      unfold methT
      rw [hq, Bool.true_and, Bool.cond_false_right]
      congr 1
      · exact decide_eq_decide.2 (by omega)
      · exact decide_eq_decide.2 (by omega)
    rw [hm]
    clear hm hq again
    refine Wp.go (mx := true) (fun _ => mixed) [] 100 [false] [decide ((↑k : Int) < (↑s.length : Int)) = false] (by kernel_rfl) (by kernel_rfl) (by kernel_rfl) (show decide ((↑k : Int) < (↑s.length : Int)) = false from (by simp; omega)) ?_
    refine Wp.ret' (by kernel_rfl) ?_
    exact FinQ.pure (rs' := [V1.c (Cell.bool (bif decide ((↑s.length : Int) ≥ (1 : Int)) then decide ((↑s.length : Int) ≤ (16 : Int)) else false))]) (by kernel_rfl) rfl (by kernel_rfl)
theorem target13_ok (s : List UInt8) (hl : s.length < 4611686018427387904) : Pur Tryz.prog G 54 [.c (.str s)] [.c (.bool (targT s))] := by
  refine Pur.of Tryz.func54 (by kernel_rfl) (by kernel_rfl) (by kernel_rfl) ?_
  refine Wp.go (mx := true) (fun _ => mixed) [] 100 [] [] (by kernel_rfl) (by kernel_rfl) (by kernel_rfl) trivial ?_
  refine Wp.loopK (by kernel_rfl) (fun (k : Nat) => ⟨[(0, .v (.c (.str s))), (3, .v (.c (.int .i64 (k : Int))))], [], 32⟩) (fun k => k ≤ s.length ∧ s.all tgB = (s.drop k).all tgB) (fun k => s.length - k) 0 (Ent.of [] (by kernel_rfl) (by kernel_rfl) (by kernel_rfl) trivial) ⟨Nat.zero_le _, rfl⟩ ?_
  intro k L ⟨hk, hq⟩ again
  rcases Nat.lt_or_ge k s.length with hlt | hge
  · rw [dropS s k hlt, List.all_cons] at hq
    have hb : (bif decide (((s.getD k (0 : UInt8)).toNat : Int) < 33) then true else decide (((s.getD k (0 : UInt8)).toNat : Int) > 126)) = !tgB (s.getD k (0 : UInt8)) := by_fun (fun c => bif decide ((c.toNat : Int) < 33) then true else decide ((c.toNat : Int) > 126)) (fun c => !tgB c) (by kernel_rfl) (s.getD k (0 : UInt8))
    cases hg : tgB (s.getD k 0) with
    | false =>
      rw [hg] at hb hq
      have hb : (bif decide (((s.getD k (0 : UInt8)).toNat : Int) < 33) then true else decide (((s.getD k (0 : UInt8)).toNat : Int) > 126)) = true := hb
      have hm : targT s = false := by unfold targT; rw [hq]; rfl
      rw [hm]
      clear hm again hq hg
      refine Wp.go (mx := true) (fun _ => mixed) [] 100 [true, true] [decide ((↑k : Int) < (↑s.length : Int)) = true, (0 : Int) ≤ (↑k : Int) ∧ (↑k : Int) < (↑s.length : Int), decide ((↑(s.getD k (0 : UInt8)).toNat : Int) < (33 : Int)) = false → (0 : Int) ≤ (↑k : Int) ∧ (↑k : Int) < (↑s.length : Int), (bif decide ((↑(s.getD k (0 : UInt8)).toNat : Int) < (33 : Int)) then true else decide ((↑(s.getD k (0 : UInt8)).toNat : Int) > (126 : Int))) = true] (by kernel_rfl) (by kernel_rfl) (by kernel_rfl) ⟨(by simp; omega), (by omega), (by omega), (show (bif decide ((↑(s.getD k (0 : UInt8)).toNat : Int) < (33 : Int)) then true else decide ((↑(s.getD k (0 : UInt8)).toNat : Int) > (126 : Int))) = true from (by assumption))⟩ ?_
      refine Wp.ret' (by kernel_rfl) ?_
      exact FinQ.pure (rs' := [V1.c (Cell.bool false)]) (by kernel_rfl) rfl (by kernel_rfl)
    | true =>
      rw [hg, Bool.true_and] at hq
      rw [hg] at hb
      have hb : (bif decide (((s.getD k (0 : UInt8)).toNat : Int) < 33) then true else decide (((s.getD k (0 : UInt8)).toNat : Int) > 126)) = false := hb
      clear hg
      refine Wp.go (mx := true) (fun _ => mixed) [] 100 [true, false] [decide ((↑k : Int) < (↑s.length : Int)) = true, (0 : Int) ≤ (↑k : Int) ∧ (↑k : Int) < (↑s.length : Int), decide ((↑(s.getD k (0 : UInt8)).toNat : Int) < (33 : Int)) = false → (0 : Int) ≤ (↑k : Int) ∧ (↑k : Int) < (↑s.length : Int), (bif decide ((↑(s.getD k (0 : UInt8)).toNat : Int) < (33 : Int)) then true else decide ((↑(s.getD k (0 : UInt8)).toNat : Int) > (126 : Int))) = false, inR IntKind.i64 ((↑k : Int) + (1 : Int))] (by kernel_rfl) (by kernel_rfl) (by kernel_rfl) ⟨(by simp; omega), (by omega), (by omega), (by assumption), inR64 (by omega) (by omega)⟩ ?_
      exact Wp.lpK (by kernel_rfl) (again _ (k + 1) ⟨(by assumption), (by assumption)⟩ (by omega) (Ent.of [] (by kernel_rfl) (by kernel_rfl) (by kernel_rfl) trivial))
  · rw [List.drop_of_length_le hge, List.all_nil] at hq
    have hm : targT s = (bif decide ((s.length : Int) ≥ 1) then decide ((s.length : Int) ≤ 1024) else false) := by
      unfold targT
      rw [hq, Bool.true_and, Bool.cond_false_right]
      congr 1
      · exact decide_eq_decide.2 (by omega)
      · exact decide_eq_decide.2 (by omega)
    rw [hm]
    clear hm hq again
    refine Wp.go (mx := true) (fun _ => mixed) [] 100 [false] [decide ((↑k : Int) < (↑s.length : Int)) = false] (by kernel_rfl) (by kernel_rfl) (by kernel_rfl) (show decide ((↑k : Int) < (↑s.length : Int)) = false from (by simp; omega)) ?_
    refine Wp.ret' (by kernel_rfl) ?_
    exact FinQ.pure (rs' := [V1.c (Cell.bool (bif decide ((↑s.length : Int) ≥ (1 : Int)) then decide ((↑s.length : Int) ≤ (1024 : Int)) else false))]) (by kernel_rfl) rfl (by kernel_rfl)
end Go.Proofs.Tw
end

section
open Go Go.Sv Go.RowKit
namespace Go.Proofs.Tw
attribute [local irreducible] Wp FinQ resV Ent Pur Go.Sv.Fn Sat0
set_option maxRecDepth 100000
set_option maxHeartbeats 4000000
variable {G : Nat → Option (List Cell)}

/-! the document's kinds of texts -/
def tok6 : List UInt8 := [33, 35, 36, 37, 38, 39, 42, 43, 45, 46, 94, 95, 124, 126]
theorem token6_ok (s : List UInt8) (hl : s.length < 4611686018427387904) : Pur Tryz.prog G 76 [.c (.str s)] [.c (.bool (tokenT s))] := by
  refine Pur.of Tryz.func76 (by kernel_rfl) (by kernel_rfl) (by kernel_rfl) ?_
  refine Wp.go (mx := true) (fun _ => mixed) [] 100 [] [] (by kernel_rfl) (by kernel_rfl) (by kernel_rfl) trivial ?_
  refine Wp.loopK (by kernel_rfl) (fun (k : Nat) => ⟨[(0, .v (.c (.str s))), (3, .v (.c (.int .i64 (k : Int))))], [], 32⟩) (fun k => k ≤ s.length ∧ s.all tokenB = (s.drop k).all tokenB) (fun k => s.length - k) 0 (Ent.of [] (by kernel_rfl) (by kernel_rfl) (by kernel_rfl) trivial) ⟨Nat.zero_le _, rfl⟩ ?_
  intro k L ⟨hk, hq⟩ again
  rcases Nat.lt_or_ge k s.length with hlt | hge
  · rw [dropS s k hlt, List.all_cons] at hq
    have c1 := letter6_ok (G := G) (s.getD k 0)
    have c2 := digit6_ok (G := G) (s.getD k 0)
    have c3 := in6_ok (G := G) (s.getD k 0) tok6 (by decide)
    have hb : (bif bif bif !letterB (s.getD k 0) then !digitB (s.getD k 0) else false then !(tok6.contains (s.getD k 0)) else false then (((s.getD k 0).toNat : Int) != 96) else false) = !tokenB (s.getD k (0 : UInt8)) := by_fun (fun c => bif bif bif !letterB c then !digitB c else false then !(tok6.contains c) else false then ((c.toNat : Int) != 96) else false) (fun c => !tokenB c) (by kernel_rfl) (s.getD k (0 : UInt8))
    cases hg : tokenB (s.getD k 0) with
    | false =>
      rw [hg] at hb hq
      have hb : (bif bif bif !letterB (s.getD k 0) then !digitB (s.getD k 0) else false then !(tok6.contains (s.getD k 0)) else false then (((s.getD k 0).toNat : Int) != 96) else false) = true := hb
      have hm : tokenT s = false := by unfold tokenT; rw [hq]; simp
      rw [hm]
      clear hm again hq hg
      refine Wp.go (mx := true) (fun _ => mixed) [(4, {cs := [(3, pc c1), (9, pc c2), (16, pc c3)]})] 100 [true, true] [decide ((↑k : Int) < (↑s.length : Int)) = true, (0 : Int) ≤ (↑k : Int) ∧ (↑k : Int) < (↑s.length : Int), (!letterB (s.getD k (0 : UInt8))) = true → (0 : Int) ≤ (↑k : Int) ∧ (↑k : Int) < (↑s.length : Int), (bif !letterB (s.getD k (0 : UInt8)) then !digitB (s.getD k (0 : UInt8)) else false) = true → (0 : Int) ≤ (↑k : Int) ∧ (↑k : Int) < (↑s.length : Int), (bif bif !letterB (s.getD k (0 : UInt8)) then !digitB (s.getD k (0 : UInt8)) else false then !tok6.contains (s.getD k (0 : UInt8)) else false) = true → (0 : Int) ≤ (↑k : Int) ∧ (↑k : Int) < (↑s.length : Int), (bif bif bif !letterB (s.getD k (0 : UInt8)) then !digitB (s.getD k (0 : UInt8)) else false then !tok6.contains (s.getD k (0 : UInt8)) else false then (↑(s.getD k (0 : UInt8)).toNat : Int) != (96 : Int) else false) = true] (by kernel_rfl) (by kernel_rfl) (by kernel_rfl) ⟨(by simp; omega), (by omega), (by omega), (by omega), (by omega), (show (bif bif bif !letterB (s.getD k (0 : UInt8)) then !digitB (s.getD k (0 : UInt8)) else false then !tok6.contains (s.getD k (0 : UInt8)) else false then (↑(s.getD k (0 : UInt8)).toNat : Int) != (96 : Int) else false) = true from (by assumption))⟩ ?_
      refine Wp.ret' (by kernel_rfl) ?_
      exact FinQ.pure (rs' := [V1.c (Cell.bool false)]) (by kernel_rfl) rfl (by kernel_rfl)
    | true =>
      rw [hg, Bool.true_and] at hq
      rw [hg] at hb
      have hb : (bif bif bif !letterB (s.getD k 0) then !digitB (s.getD k 0) else false then !(tok6.contains (s.getD k 0)) else false then (((s.getD k 0).toNat : Int) != 96) else false) = false := hb
      clear hg
      refine Wp.go (mx := true) (fun _ => mixed) [(4, {cs := [(3, pc c1), (9, pc c2), (16, pc c3)]})] 100 [true, false] [decide ((↑k : Int) < (↑s.length : Int)) = true, (0 : Int) ≤ (↑k : Int) ∧ (↑k : Int) < (↑s.length : Int), (!letterB (s.getD k (0 : UInt8))) = true → (0 : Int) ≤ (↑k : Int) ∧ (↑k : Int) < (↑s.length : Int), (bif !letterB (s.getD k (0 : UInt8)) then !digitB (s.getD k (0 : UInt8)) else false) = true → (0 : Int) ≤ (↑k : Int) ∧ (↑k : Int) < (↑s.length : Int), (bif bif !letterB (s.getD k (0 : UInt8)) then !digitB (s.getD k (0 : UInt8)) else false then !tok6.contains (s.getD k (0 : UInt8)) else false) = true → (0 : Int) ≤ (↑k : Int) ∧ (↑k : Int) < (↑s.length : Int), (bif bif bif !letterB (s.getD k (0 : UInt8)) then !digitB (s.getD k (0 : UInt8)) else false then !tok6.contains (s.getD k (0 : UInt8)) else false then (↑(s.getD k (0 : UInt8)).toNat : Int) != (96 : Int) else false) = false, inR IntKind.i64 ((↑k : Int) + (1 : Int))] (by kernel_rfl) (by kernel_rfl) (by kernel_rfl) ⟨(by simp; omega), (by omega), (by omega), (by omega), (by omega), (by assumption), inR64 (by omega) (by omega)⟩ ?_
      exact Wp.lpK (by kernel_rfl) (again _ (k + 1) ⟨(by assumption), (by assumption)⟩ (by omega) (Ent.of [] (by kernel_rfl) (by kernel_rfl) (by kernel_rfl) trivial))
  · rw [List.drop_of_length_le hge, List.all_nil] at hq
    have hm : tokenT s = decide ((s.length : Int) ≥ 1) := by
      unfold tokenT
      rw [hq, Bool.and_true]
      cases s with
      | nil => rfl
      | cons a r => simp; omega
    rw [hm]
    clear hm hq again
    refine Wp.go (mx := true) (fun _ => mixed) [] 100 [false] [decide ((↑k : Int) < (↑s.length : Int)) = false] (by kernel_rfl) (by kernel_rfl) (by kernel_rfl) (show decide ((↑k : Int) < (↑s.length : Int)) = false from (by simp; omega)) ?_
    refine Wp.ret' (by kernel_rfl) ?_
    exact FinQ.pure (rs' := [V1.c (Cell.bool (decide ((↑s.length : Int) ≥ (1 : Int))))]) (by kernel_rfl) rfl (by kernel_rfl)
theorem seen6_ok (s : List UInt8) (hl : s.length < 4611686018427387904) : Pur Tryz.prog G 77 [.c (.str s)] [.c (.bool (s.all seenB))] := by
  refine Pur.of Tryz.func77 (by kernel_rfl) (by kernel_rfl) (by kernel_rfl) ?_
  refine Wp.go (mx := true) (fun _ => mixed) [] 100 [] [] (by kernel_rfl) (by kernel_rfl) (by kernel_rfl) trivial ?_
  refine Wp.loopK (by kernel_rfl) (fun (k : Nat) => ⟨[(0, .v (.c (.str s))), (3, .v (.c (.int .i64 (k : Int))))], [], 32⟩) (fun k => k ≤ s.length ∧ s.all seenB = (s.drop k).all seenB) (fun k => s.length - k) 0 (Ent.of [] (by kernel_rfl) (by kernel_rfl) (by kernel_rfl) trivial) ⟨Nat.zero_le _, rfl⟩ ?_
  intro k L ⟨hk, hq⟩ again
  rcases Nat.lt_or_ge k s.length with hlt | hge
  · rw [dropS s k hlt, List.all_cons] at hq
    have hb : (bif decide (((s.getD k (0 : UInt8)).toNat : Int) < 32) then true else decide (((s.getD k (0 : UInt8)).toNat : Int) > 126)) = !seenB (s.getD k (0 : UInt8)) := by_fun (fun c => bif decide ((c.toNat : Int) < 32) then true else decide ((c.toNat : Int) > 126)) (fun c => !seenB c) (by kernel_rfl) (s.getD k (0 : UInt8))
    cases hg : seenB (s.getD k 0) with
    | false =>
      rw [hg] at hb hq
      have hb : (bif decide (((s.getD k (0 : UInt8)).toNat : Int) < 32) then true else decide (((s.getD k (0 : UInt8)).toNat : Int) > 126)) = true := hb
      rw [hq]
      clear again hq hg
      refine Wp.go (mx := true) (fun _ => mixed) [] 100 [true, true] [decide ((↑k : Int) < (↑s.length : Int)) = true, (0 : Int) ≤ (↑k : Int) ∧ (↑k : Int) < (↑s.length : Int), decide ((↑(s.getD k (0 : UInt8)).toNat : Int) < (32 : Int)) = false → (0 : Int) ≤ (↑k : Int) ∧ (↑k : Int) < (↑s.length : Int), (bif decide ((↑(s.getD k (0 : UInt8)).toNat : Int) < (32 : Int)) then true else decide ((↑(s.getD k (0 : UInt8)).toNat : Int) > (126 : Int))) = true] (by kernel_rfl) (by kernel_rfl) (by kernel_rfl) ⟨(by simp; omega), (by omega), (by omega), (show (bif decide ((↑(s.getD k (0 : UInt8)).toNat : Int) < (32 : Int)) then true else decide ((↑(s.getD k (0 : UInt8)).toNat : Int) > (126 : Int))) = true from (by assumption))⟩ ?_
      refine Wp.ret' (by kernel_rfl) ?_
      exact FinQ.pure (rs' := [V1.c (Cell.bool false)]) (by kernel_rfl) rfl (by kernel_rfl)
    | true =>
      rw [hg, Bool.true_and] at hq
      rw [hg] at hb
      have hb : (bif decide (((s.getD k (0 : UInt8)).toNat : Int) < 32) then true else decide (((s.getD k (0 : UInt8)).toNat : Int) > 126)) = false := hb
      clear hg
      refine Wp.go (mx := true) (fun _ => mixed) [] 100 [true, false] [decide ((↑k : Int) < (↑s.length : Int)) = true, (0 : Int) ≤ (↑k : Int) ∧ (↑k : Int) < (↑s.length : Int), decide ((↑(s.getD k (0 : UInt8)).toNat : Int) < (32 : Int)) = false → (0 : Int) ≤ (↑k : Int) ∧ (↑k : Int) < (↑s.length : Int), (bif decide ((↑(s.getD k (0 : UInt8)).toNat : Int) < (32 : Int)) then true else decide ((↑(s.getD k (0 : UInt8)).toNat : Int) > (126 : Int))) = false, inR IntKind.i64 ((↑k : Int) + (1 : Int))] (by kernel_rfl) (by kernel_rfl) (by kernel_rfl) ⟨(by simp; omega), (by omega), (by omega), (by assumption), inR64 (by omega) (by omega)⟩ ?_
      exact Wp.lpK (by kernel_rfl) (again _ (k + 1) ⟨(by assumption), (by assumption)⟩ (by omega) (Ent.of [] (by kernel_rfl) (by kernel_rfl) (by kernel_rfl) trivial))
  · rw [List.drop_of_length_le hge, List.all_nil] at hq
    rw [hq]
    clear hq again
    refine Wp.go (mx := true) (fun _ => mixed) [] 100 [false] [decide ((↑k : Int) < (↑s.length : Int)) = false] (by kernel_rfl) (by kernel_rfl) (by kernel_rfl) (show decide ((↑k : Int) < (↑s.length : Int)) = false from (by simp; omega)) ?_
    refine Wp.ret' (by kernel_rfl) ?_
    exact FinQ.pure (rs' := [V1.c (Cell.bool true)]) (by kernel_rfl) rfl (by kernel_rfl)
theorem great_p32 (c : UInt8) (h : greatB c = true) : IntKind.u8.wrap ((c.toNat : Int) + 32) = ((foldB c).toNat : Int) := by
  have : ∀ c : UInt8, (!(greatB c) || IntKind.u8.wrap ((c.toNat : Int) + 32) == ((foldB c).toNat : Int)) = true := byte_all _ (by kernel_rfl)
  have := this c
  rw [h] at this
  exact eq_of_beq this
theorem fold6_ok (s : List UInt8) (hl : s.length ≤ 140737488355328) : Pur Tryz.prog G 79 [.c (.str s)] [.c (.str (foldT s))] := by
  refine Pur.of Tryz.func79 (by kernel_rfl) (by kernel_rfl) (by kernel_rfl) ?_
  refine Wp.go (mx := true) (fun _ => mixed) [] 100 [] [s.length ≤ 140737488355328] (by kernel_rfl) (by kernel_rfl) (by kernel_rfl) hl ?_
  refine Wp.loopK (by kernel_rfl) (fun (k : Nat) => ⟨[(3, TV.v (V1.c (Cell.row (1 : Nat) (32 : Nat) (0 : Nat) s.length))), (4, TV.v (V1.c (Cell.int .i64 (k : Int))))], [(32, Blk.row 5 (1 : Nat) s.length (bytesF (foldN s k)))], 80⟩) (fun k => k ≤ s.length) (fun k => s.length - k) 0 (Ent.of [] (by kernel_rfl) (by kernel_rfl) (by kernel_rfl) trivial) (Nat.zero_le _) ?_
  intro k L hk again
  rcases Nat.lt_or_ge k s.length with hlt | hge
  · have e1 : EqvD (V1.c (Cell.int .u8 (((foldN s k).getD (0 + k) 0).toNat : Int))) (.c (.int .u8 ((s.getD k 0).toNat : Int))) := eqvD_of (by rw [Nat.zero_add, foldN_at s k hlt])
    have hb : (bif decide (((s.getD k (0 : UInt8)).toNat : Int) ≥ 65) then decide (((s.getD k (0 : UInt8)).toNat : Int) ≤ 90) else false) = greatB (s.getD k (0 : UInt8)) := by_fun (fun c => bif decide ((c.toNat : Int) ≥ 65) then decide ((c.toNat : Int) ≤ 90) else false) greatB (by kernel_rfl) (s.getD k (0 : UInt8))
    cases hg : greatB (s.getD k 0) with
    | true =>
      rw [hg] at hb
      have e2 : BlkEqv (.row 5 1 s.length (rowSet (bytesF (foldN s k)) (0 + k) 0 1 [.int .u8 (IntKind.u8.wrap (((s.getD k 0).toNat : Int) + 32))])) (.row 5 1 s.length (bytesF (foldN s (k + 1)))) := by
        rw [foldN_succ s k hlt]
        exact bytes_set _ _ (great_p32 _ hg) (by rw [foldN_len]; exact hlt)
      clear hg
      refine Wp.go (mx := true) (fun _ => mixed) [(5, {fm := [(3, .c (.int .u8 ((s.getD k 0).toNat : Int))), (9, .c (.int .u8 ((s.getD k 0).toNat : Int)))]}), (6, {fm := [(5, .c (.int .u8 ((s.getD k 0).toNat : Int)))], bs := [(8, Blk.row 5 1 s.length (bytesF (foldN s (k + 1))))]})] 100 [true, true] [decide ((↑k : Int) < (↑s.length : Int)) = true, (0 : Int) ≤ (↑k : Int) ∧ (↑k : Int) < (↑s.length : Int), (0 : Nat) + k < s.length, EqvD (V1.c (bytesF (foldN s k) ((0 : Nat) + k) (0 : Nat))) (V1.c (Cell.int .u8 (↑(s.getD k (0 : UInt8)).toNat : Int))), decide ((↑(s.getD k (0 : UInt8)).toNat : Int) ≥ (65 : Int)) = true → (0 : Int) ≤ (↑k : Int) ∧ (↑k : Int) < (↑s.length : Int), decide ((↑(s.getD k (0 : UInt8)).toNat : Int) ≥ (65 : Int)) = true → (0 : Nat) + k < s.length, decide ((↑(s.getD k (0 : UInt8)).toNat : Int) ≥ (65 : Int)) = true → EqvD (V1.c (bytesF (foldN s k) ((0 : Nat) + k) (0 : Nat))) (V1.c (Cell.int .u8 (↑(s.getD k (0 : UInt8)).toNat : Int))), (bif decide ((↑(s.getD k (0 : UInt8)).toNat : Int) ≥ (65 : Int)) then decide ((↑(s.getD k (0 : UInt8)).toNat : Int) ≤ (90 : Int)) else false) = true, (0 : Int) ≤ (↑k : Int) ∧ (↑k : Int) < (↑s.length : Int), (0 : Nat) + k < s.length, EqvD (V1.c (bytesF (foldN s k) ((0 : Nat) + k) (0 : Nat))) (V1.c (Cell.int .u8 (↑(s.getD k (0 : UInt8)).toNat : Int))), (0 : Int) ≤ (↑k : Int) ∧ (↑k : Int) < (↑s.length : Int), BlkEqv (Blk.row 5 (1 : Nat) s.length fun (i j : Nat) => if i = (0 : Nat) + k ∧ (0 : Nat) ≤ j ∧ j < (1 : Nat) then nthD (V1.c (Cell.int .u8 (IntKind.u8.wrap ((↑(s.getD k (0 : UInt8)).toNat : Int) + (32 : Int))))).cells (j - (0 : Nat)) else bytesF (foldN s k) i j) (Blk.row 5 (1 : Nat) s.length (bytesF (foldN s (k + (1 : Nat))))), (0 : Nat) + k < s.length, inR IntKind.i64 ((↑k : Int) + (1 : Int))] (by kernel_rfl) (by kernel_rfl) (by kernel_rfl) ⟨(by simp; omega), (by omega), (by omega), (by assumption), (by omega), (by omega), (by intro _; assumption), (by assumption), (by omega), (by omega), (by assumption), (by omega), (by assumption), (by omega), inR64 (by omega) (by omega)⟩ ?_
      exact Wp.lpK (by kernel_rfl) (again _ (k + 1) (by assumption) (by omega) (Ent.of [] (by kernel_rfl) (by kernel_rfl) (by kernel_rfl) trivial))
    | false =>
      rw [hg] at hb
      have e3 : foldN s k = foldN s (k + 1) := by
        rw [foldN_succ s k hlt, ← foldN_at s k hlt, foldB, foldN_at s k hlt, if_neg (by rw [hg]; decide), ← foldN_at s k hlt]
        rw [List.getD_eq_getElem?_getD, List.getElem?_eq_getElem (by rw [foldN_len]; exact hlt)]
        simp
      rw [e3] at e1 ⊢
      clear hg
      refine Wp.go (mx := true) (fun _ => mixed) [(5, {fm := [(3, .c (.int .u8 ((s.getD k 0).toNat : Int))), (9, .c (.int .u8 ((s.getD k 0).toNat : Int)))]})] 100 [true, false] [decide ((↑k : Int) < (↑s.length : Int)) = true, (0 : Int) ≤ (↑k : Int) ∧ (↑k : Int) < (↑s.length : Int), (0 : Nat) + k < s.length, EqvD (V1.c (bytesF (foldN s (k + (1 : Nat))) ((0 : Nat) + k) (0 : Nat))) (V1.c (Cell.int .u8 (↑(s.getD k (0 : UInt8)).toNat : Int))), decide ((↑(s.getD k (0 : UInt8)).toNat : Int) ≥ (65 : Int)) = true → (0 : Int) ≤ (↑k : Int) ∧ (↑k : Int) < (↑s.length : Int), decide ((↑(s.getD k (0 : UInt8)).toNat : Int) ≥ (65 : Int)) = true → (0 : Nat) + k < s.length, decide ((↑(s.getD k (0 : UInt8)).toNat : Int) ≥ (65 : Int)) = true → EqvD (V1.c (bytesF (foldN s (k + (1 : Nat))) ((0 : Nat) + k) (0 : Nat))) (V1.c (Cell.int .u8 (↑(s.getD k (0 : UInt8)).toNat : Int))), (bif decide ((↑(s.getD k (0 : UInt8)).toNat : Int) ≥ (65 : Int)) then decide ((↑(s.getD k (0 : UInt8)).toNat : Int) ≤ (90 : Int)) else false) = false, inR IntKind.i64 ((↑k : Int) + (1 : Int))] (by kernel_rfl) (by kernel_rfl) (by kernel_rfl) ⟨(by simp; omega), (by omega), (by omega), (by assumption), (by omega), (by omega), (by intro _; assumption), (by assumption), inR64 (by omega) (by omega)⟩ ?_
      exact Wp.lpK (by kernel_rfl) (again _ (k + 1) (by assumption) (by omega) (Ent.of [] (by kernel_rfl) (by kernel_rfl) (by kernel_rfl) trivial))
  · obtain rfl : k = s.length := by omega
    have ee : byteL (bytesF (foldN s s.length)) 0 s.length = foldT s := by rw [byteL_F _ (by rw [foldN_len]), foldN_end]
    have ea : areBytes (bytesF (foldN s s.length)) 0 s.length := areBytes_F _ _ _
    clear again
    refine Wp.go (mx := true) (fun _ => mixed) [] 100 [false] [decide ((↑s.length : Int) < (↑s.length : Int)) = false, (0 : Nat) + s.length ≤ s.length, areBytes (bytesF (foldN s s.length)) (0 : Nat) s.length] (by kernel_rfl) (by kernel_rfl) (by kernel_rfl) ⟨(by simp; done), (by omega), (show areBytes (bytesF (foldN s s.length)) (0 : Nat) s.length from (by assumption))⟩ ?_
    refine Wp.ret' (by kernel_rfl) ?_
    exact FinQ.pure (rs' := [V1.c (Cell.str (byteL (bytesF (foldN s s.length)) (0 : Nat) s.length))]) (by kernel_rfl) (by simp only [Int.ofNat_eq_natCast, Int.toNat_natCast, List.take_length, List.drop_zero, *]) (by kernel_rfl)
/-! the document's parser -/
theorem lines_pos (s : List UInt8) : 1 ≤ (linesH s).length := List.length_pos_iff.2 (splitK_nil _ _ _)
theorem split13_big (s : List UInt8) (hl : s.length < 1000000000) (h : bigH s = true) : Pur Tryz.prog G 37 [.c (.str s)] [.c (encL []), .c (.str []), .c (.int .i64 4)] := by
  refine Pur.of Tryz.func37 (by kernel_rfl) (by kernel_rfl) (by kernel_rfl) ?_
  have c1 : Pur Tryz.prog G 63 [.c (.str s), .c (.str [13, 10, 13, 10])] [.c (.str (hdC s).1), .c (.str (hdC s).2.1), .c (.bool (hdC s).2.2)] := cut6_ok s [13, 10, 13, 10] (by omega) (by decide) (by decide)
  have hc : (hdC s).1.length ≤ s.length := (cut_len s [13, 10, 13, 10]).1
  have hnil : EqvD (.c .nilsl) (.c (encL [])) := nil_eqv _ _
  unfold bigH at h
  generalize hdC s = C at c1 h hc
  have hr : inR IntKind.i64 ((C.1.length : Int) + 4) := inR64 (by omega) (by omega)
  cases hi : C.2.2 with
  | true =>
    rw [hi] at c1 h
    have ht : (bif bif true then decide ((C.1.length : Int) + 4 > 2048) else false then true else bif !true then decide ((s.length : Int) > 2048) else false) = true := by
      have h : decide ((C.1.length : Int) + 4 > 2048) = true := h
      rw [h]; rfl
    refine Wp.go (mx := true) (fun _ => mixed) [(3, {fm := [(0, .c (encL []))]}), (1, {cs := [(1, pc c1)]})] 100 [true] [true = true → inR IntKind.i64 ((↑C.1.length : Int) + (4 : Int)), (bif bif true then decide ((↑C.1.length : Int) + (4 : Int) > (2048 : Int)) else false then true else bif !true then decide ((↑s.length : Int) > (2048 : Int)) else false) = true, EqvI (V1.c Cell.nilsl) (V1.c (encL [])), EqvD (V1.c Cell.nilsl) (V1.c (encL []))] (by kernel_rfl) (by kernel_rfl) (by kernel_rfl) ⟨(by simp; omega), (by assumption), fun _ _ => trivial, (show EqvD (V1.c Cell.nilsl) (V1.c (encL [])) from (by assumption))⟩ ?_
    refine Wp.ret' (by kernel_rfl) ?_
    exact FinQ.pure (rs' := [V1.c (Cell.sl (1 : Nat) ([] : List UInt8).length (strsF [])), V1.c (Cell.str []), V1.c (Cell.int .i64 (4 : Int))]) (by kernel_rfl) rfl (by kernel_rfl)
  | false =>
    rw [hi] at c1 h
    have ht : (bif bif false then decide ((C.1.length : Int) + 4 > 2048) else false then true else bif !false then decide ((s.length : Int) > 2048) else false) = true := h
    refine Wp.go (mx := true) (fun _ => mixed) [(3, {fm := [(0, .c (encL []))]}), (1, {cs := [(1, pc c1)]})] 100 [true] [false = true → inR IntKind.i64 ((↑C.1.length : Int) + (4 : Int)), (bif bif false then decide ((↑C.1.length : Int) + (4 : Int) > (2048 : Int)) else false then true else bif !false then decide ((↑s.length : Int) > (2048 : Int)) else false) = true, EqvI (V1.c Cell.nilsl) (V1.c (encL [])), EqvD (V1.c Cell.nilsl) (V1.c (encL []))] (by kernel_rfl) (by kernel_rfl) (by kernel_rfl) ⟨(by simp; done), (by assumption), fun _ _ => trivial, (show EqvD (V1.c Cell.nilsl) (V1.c (encL [])) from (by assumption))⟩ ?_
    refine Wp.ret' (by kernel_rfl) ?_
    exact FinQ.pure (rs' := [V1.c (Cell.sl (1 : Nat) ([] : List UInt8).length (strsF [])), V1.c (Cell.str []), V1.c (Cell.int .i64 (4 : Int))]) (by kernel_rfl) rfl (by kernel_rfl)
theorem split13_form (s : List UInt8) (hl : s.length < 1000000000) (h : bigH s = false) (hi : (hdC s).2.2 = false) : Pur Tryz.prog G 37 [.c (.str s)] [.c (encL []), .c (.str []), .c (.int .i64 3)] := by
  refine Pur.of Tryz.func37 (by kernel_rfl) (by kernel_rfl) (by kernel_rfl) ?_
  have c1 : Pur Tryz.prog G 63 [.c (.str s), .c (.str [13, 10, 13, 10])] [.c (.str (hdC s).1), .c (.str (hdC s).2.1), .c (.bool (hdC s).2.2)] := cut6_ok s [13, 10, 13, 10] (by omega) (by decide) (by decide)
  have hc : (hdC s).1.length ≤ s.length := (cut_len s [13, 10, 13, 10]).1
  have hnil : EqvD (.c .nilsl) (.c (encL [])) := nil_eqv _ _
  unfold bigH at h
  generalize hdC s = C at c1 h hc hi
  have hr : inR IntKind.i64 ((C.1.length : Int) + 4) := inR64 (by omega) (by omega)
  rw [hi] at c1 h
  have ht : (bif bif false then decide ((C.1.length : Int) + 4 > 2048) else false then true else bif !false then decide ((s.length : Int) > 2048) else false) = false := h
  refine Wp.go (mx := true) (fun _ => mixed) [(5, {fm := [(0, .c (encL []))]}), (1, {cs := [(1, pc c1)]})] 100 [false, true] [false = true → inR IntKind.i64 ((↑C.1.length : Int) + (4 : Int)), (bif bif false then decide ((↑C.1.length : Int) + (4 : Int) > (2048 : Int)) else false then true else bif !false then decide ((↑s.length : Int) > (2048 : Int)) else false) = false, (!false) = true, EqvI (V1.c Cell.nilsl) (V1.c (encL [])), EqvD (V1.c Cell.nilsl) (V1.c (encL []))] (by kernel_rfl) (by kernel_rfl) (by kernel_rfl) ⟨(by simp; done), (by assumption), rfl, fun _ _ => trivial, (show EqvD (V1.c Cell.nilsl) (V1.c (encL [])) from (by assumption))⟩ ?_
  refine Wp.ret' (by kernel_rfl) ?_
  exact FinQ.pure (rs' := [V1.c (Cell.sl (1 : Nat) ([] : List UInt8).length (strsF [])), V1.c (Cell.str []), V1.c (Cell.int .i64 (3 : Int))]) (by kernel_rfl) rfl (by kernel_rfl)
theorem split13_many (s : List UInt8) (hl : s.length < 1000000000) (h : bigH s = false) (hi : (hdC s).2.2 = true) (hm : (linesH s).length > 25) : Pur Tryz.prog G 37 [.c (.str s)] [.c (encL []), .c (.str []), .c (.int .i64 4)] := by
  refine Pur.of Tryz.func37 (by kernel_rfl) (by kernel_rfl) (by kernel_rfl) ?_
  have c1 : Pur Tryz.prog G 63 [.c (.str s), .c (.str [13, 10, 13, 10])] [.c (.str (hdC s).1), .c (.str (hdC s).2.1), .c (.bool (hdC s).2.2)] := cut6_ok s [13, 10, 13, 10] (by omega) (by decide) (by decide)
  have hc : (hdC s).1.length ≤ s.length := (cut_len s [13, 10, 13, 10]).1
  have c2 : Pur Tryz.prog G 75 [.c (.str (hdC s).1), .c (.str [13, 10])] [.c (encL (linesH s))] := parts_ok (hdC s).1 [13, 10] (by omega) (by decide) (by decide)
  have hnil : EqvD (.c .nilsl) (.c (encL [])) := nil_eqv _ _
  unfold bigH at h
  generalize linesH s = L at c2 hm
  generalize hdC s = C at c1 c2 h hc hi
  have hr : inR IntKind.i64 ((C.1.length : Int) + 4) := inR64 (by omega) (by omega)
  rw [hi] at c1 h
  have ht : (bif bif true then decide ((C.1.length : Int) + 4 > 2048) else false then true else bif !true then decide ((s.length : Int) > 2048) else false) = false := by
    have h : decide ((C.1.length : Int) + 4 > 2048) = false := h
    rw [h]; rfl
  have ht3 : decide ((L.length : Int) > 25) = true := by simp; omega
  refine Wp.go (mx := true) (fun _ => mixed) [(8, {fm := [(0, .c (encL []))]}), (1, {cs := [(1, pc c1)]}), (6, {cs := [(1, pc c2)]})] 100 [false, false, true] [true = true → inR IntKind.i64 ((↑C.1.length : Int) + (4 : Int)), (bif bif true then decide ((↑C.1.length : Int) + (4 : Int) > (2048 : Int)) else false then true else bif !true then decide ((↑s.length : Int) > (2048 : Int)) else false) = false, (!true) = false, decide ((↑L.length : Int) > (25 : Int)) = true, EqvI (V1.c Cell.nilsl) (V1.c (encL [])), EqvD (V1.c Cell.nilsl) (V1.c (encL []))] (by kernel_rfl) (by kernel_rfl) (by kernel_rfl) ⟨(by simp; omega), (by assumption), rfl, (by assumption), fun _ _ => trivial, (show EqvD (V1.c Cell.nilsl) (V1.c (encL [])) from (by assumption))⟩ ?_
  refine Wp.ret' (by kernel_rfl) ?_
  exact FinQ.pure (rs' := [V1.c (Cell.sl (1 : Nat) ([] : List UInt8).length (strsF [])), V1.c (Cell.str []), V1.c (Cell.int .i64 (4 : Int))]) (by kernel_rfl) rfl (by kernel_rfl)
theorem splitH_no {s : List UInt8} (hl : s.length < 1000000000) (h : splitH s ≠ 0) : Pur Tryz.prog G 37 [.c (.str s)] [.c (encL []), .c (.str []), .c (.int .i64 (splitH s))] := by
  cases hbig : bigH s with
  | true =>
    rw [show splitH s = 4 from by unfold splitH; rw [hbig]; rfl]
    exact split13_big s hl hbig
  | false =>
    cases hi : (hdC s).2.2 with
    | false =>
      rw [show splitH s = 3 from by unfold splitH; rw [hbig, hi]; rfl]
      exact split13_form s hl hbig hi
    | true =>
      by_cases hm : (linesH s).length > 25
      · rw [show splitH s = 4 from by unfold splitH; rw [hbig, hi, if_pos hm]; rfl]
        exact split13_many s hl hbig hi hm
      · exact (h (splitH_yes hbig hi hm)).elim
theorem split13_yes (s : List UInt8) (hl : s.length < 1000000000) (h : splitH s = 0) : Pur Tryz.prog G 37 [.c (.str s)] [.c (encL (linesH s)), .c (.str (hdC s).2.1), .c (.int .i64 0)] := by
  refine Pur.of Tryz.func37 (by kernel_rfl) (by kernel_rfl) (by kernel_rfl) ?_
  have c1 : Pur Tryz.prog G 63 [.c (.str s), .c (.str [13, 10, 13, 10])] [.c (.str (hdC s).1), .c (.str (hdC s).2.1), .c (.bool (hdC s).2.2)] := cut6_ok s [13, 10, 13, 10] (by omega) (by decide) (by decide)
  have hc : (hdC s).1.length ≤ s.length := (cut_len s [13, 10, 13, 10]).1
  have c2 : Pur Tryz.prog G 75 [.c (.str (hdC s).1), .c (.str [13, 10])] [.c (encL (linesH s))] := parts_ok (hdC s).1 [13, 10] (by omega) (by decide) (by decide)
  obtain ⟨hb, hi, hm⟩ : bigH s = false ∧ (hdC s).2.2 = true ∧ ¬ (linesH s).length > 25 := by
    unfold splitH at h
    split at h
    · cases h
    · split at h
      · cases h
      · split at h
        · cases h
        · rename_i h1 h2 h3
          exact ⟨by simpa using h1, by simpa using h2, h3⟩
  clear h
  unfold bigH at hb
  generalize linesH s = L at c2 hm ⊢
  generalize hdC s = C at c1 c2 hb hc hi ⊢
  have hr : inR IntKind.i64 ((C.1.length : Int) + 4) := inR64 (by omega) (by omega)
  rw [hi] at c1 hb
  have ht : (bif bif true then decide ((C.1.length : Int) + 4 > 2048) else false then true else bif !true then decide ((s.length : Int) > 2048) else false) = false := by
    have h : decide ((C.1.length : Int) + 4 > 2048) = false := hb
    rw [h]; rfl
  have ht3 : decide ((L.length : Int) > 25) = false := by simp; omega
  refine Wp.go (mx := true) (fun _ => mixed) [(1, {cs := [(1, pc c1)]}), (6, {cs := [(1, pc c2)]})] 100 [false, false, false] [true = true → inR IntKind.i64 ((↑C.1.length : Int) + (4 : Int)), (bif bif true then decide ((↑C.1.length : Int) + (4 : Int) > (2048 : Int)) else false then true else bif !true then decide ((↑s.length : Int) > (2048 : Int)) else false) = false, (!true) = false, decide ((↑L.length : Int) > (25 : Int)) = false] (by kernel_rfl) (by kernel_rfl) (by kernel_rfl) ⟨(by simp; omega), (by assumption), rfl, (show decide ((↑L.length : Int) > (25 : Int)) = false from (by assumption))⟩ ?_
  refine Wp.ret' (by kernel_rfl) ?_
  exact FinQ.pure (rs' := [V1.c (Cell.sl (1 : Nat) L.length (strsF L)), V1.c (Cell.str C.2.fst), V1.c (Cell.int .i64 (0 : Int))]) (by kernel_rfl) rfl (by kernel_rfl)
theorem fields13_ok (l : List (List UInt8)) (hl : ∀ k, (l.getD k []).length < 1000000000) (hn : l.length < 1000000) : Pur Tryz.prog G 39 [.c (encL l)] [.c (encH (if fieldsO l [] then fieldsA l [] else [])), .c (.int .i64 (if fieldsO l [] then 0 else 3))] := by
  refine Pur.of Tryz.func39 (by kernel_rfl) (by kernel_rfl) (by kernel_rfl) ?_
  have hnil : EqvD (.c .nilsl) (.c (encH [])) := nil_eqv _ _
  refine Wp.go (mx := true) (fun _ => mixed) [] 100 [] [] (by kernel_rfl) (by kernel_rfl) (by kernel_rfl) trivial ?_
  refine Wp.loopK (by kernel_rfl) (fun (x : Nat × Nat × List FT) => ⟨[(0, .v (.c (encL l))), (4, .v (.c (.row 2 64 0 x.2.1))), (5, .v (.c (.int .i64 (x.1 : Int))))], [(64, .row 40 2 x.2.1 (rowF encF .nil x.2.2))], 80⟩) (fun x => x.1 ≤ l.length ∧ x.2.1 = x.2.2.length ∧ x.2.1 ≤ x.1 ∧ fieldsA l [] = fieldsA (l.drop x.1) x.2.2 ∧ fieldsO l [] = fieldsO (l.drop x.1) x.2.2) (fun x => l.length - x.1) (0, 0, []) (Ent.trans (Ent.empT (t := 4) (sz := 2) (e := 40) (f := (rowF encF .nil [])) (by decide) (by kernel_rfl) rfl) (Ent.of [] (by kernel_rfl) (by kernel_rfl) (by kernel_rfl) trivial)) ⟨Nat.zero_le _, rfl, Nat.le_refl _, rfl, rfl⟩ ?_
  rintro ⟨k, n, acc⟩ L ⟨hk, hnH, hnk, hA, hO⟩ again
  simp only at hk hnH hnk hA hO
  rcases Nat.lt_or_ge k l.length with hlt | hge
  · rw [fA_step l acc k hlt] at hA
    rw [fO_step l acc k hlt] at hO
    have hp := hl k
    have hcl := cut_len (l.getD k []) [58, 32]
    have c1 := cut6_ok (G := G) (l.getD k []) [58, 32] (by omega) (by decide) (by decide)
    have c2 := fold6_ok (G := G) (Lib.cut (l.getD k []) [58, 32]).1 (by omega)
    have c3 := token6_ok (G := G) (Lib.cut (l.getD k []) [58, 32]).1 (by omega)
    have c4 := seen6_ok (G := G) (Lib.cut (l.getD k []) [58, 32]).2.1 (by omega)
    have c5 := has10_n (G := G) acc n (lineF (l.getD k [])).name hnH (by omega)
    have ht := okA_b (Lib.cut (l.getD k []) [58, 32]).2.2 (tokenT (Lib.cut (l.getD k []) [58, 32]).1) ((Lib.cut (l.getD k []) [58, 32]).2.1.all seenB) (fGet acc (lineF (l.getD k [])).name).isSome
    rw [show (((Lib.cut (l.getD k []) [58, 32]).2.2 && (tokenT (Lib.cut (l.getD k []) [58, 32]).1 && (Lib.cut (l.getD k []) [58, 32]).2.1.all seenB)) && !(fGet acc (lineF (l.getD k [])).name).isSome) = okA acc (l.getD k []) from rfl] at ht
    cases hok : okA acc (l.getD k []) with
    | false =>
      rw [hok, if_neg (by decide)] at hO
      rw [hO, if_neg (by decide), if_neg (by decide)]
      rw [hok] at ht
      cases hg : (bif bif !(Lib.cut (l.getD k []) [58, 32]).2.2 then true else !tokenT (Lib.cut (l.getD k []) [58, 32]).1 then true else !(Lib.cut (l.getD k []) [58, 32]).2.1.all seenB) with
      | true =>
        have ht : (bif bif bif !(Lib.cut (l.getD k []) [58, 32]).2.2 then true else !tokenT (Lib.cut (l.getD k []) [58, 32]).1 then true else !(Lib.cut (l.getD k []) [58, 32]).2.1.all seenB then true else (fGet acc (lineF (l.getD k [])).name).isSome) = true := ht
        clear hA hO hok again
        refine Wp.go (mx := true) (fun _ => mixed) [(7, {fm := [(0, .c (encH []))]}), (5, {cs := [(4, pc c1)]}), (6, {grd := [(13, false), (14, false), (15, false), (16, false), (17, true)], cs := [(4, pc c3), (9, pc c4), (15, pc c2), (16, lc [64] [Blk.row 40 (2 : Nat) n fun (i j : Nat) => nthD [Cell.str (acc.getD i FT.nil).name, Cell.str (acc.getD i FT.nil).value] j] [V1.c (Cell.row (2 : Nat) (0 : Nat) (0 : Nat) n), V1.c (Cell.str (foldT (Lib.cut (l.getD k []) [(58 : UInt8), 32]).1))] c5 (by kernel_rfl) (by kernel_rfl) (by kernel_rfl) (show (0 : Nat) + n ≤ n from (by omega)))]})] 100 [true, true] [decide ((↑k : Int) < (↑l.length : Int)) = true, (0 : Int) ≤ (↑k : Int) ∧ (↑k : Int) < (↑l.length : Int), (bif bif !(Lib.cut (l.getD k []) [(58 : UInt8), 32]).2.snd then true else !tokenT (Lib.cut (l.getD k []) [(58 : UInt8), 32]).1 then true else !(Lib.cut (l.getD k []) [(58 : UInt8), 32]).2.fst.all seenB) = !false, (bif bif !(Lib.cut (l.getD k []) [(58 : UInt8), 32]).2.snd then true else !tokenT (Lib.cut (l.getD k []) [(58 : UInt8), 32]).1 then true else !(Lib.cut (l.getD k []) [(58 : UInt8), 32]).2.fst.all seenB) = !false, (bif bif !(Lib.cut (l.getD k []) [(58 : UInt8), 32]).2.snd then true else !tokenT (Lib.cut (l.getD k []) [(58 : UInt8), 32]).1 then true else !(Lib.cut (l.getD k []) [(58 : UInt8), 32]).2.fst.all seenB) = !false, (bif bif !(Lib.cut (l.getD k []) [(58 : UInt8), 32]).2.snd then true else !tokenT (Lib.cut (l.getD k []) [(58 : UInt8), 32]).1 then true else !(Lib.cut (l.getD k []) [(58 : UInt8), 32]).2.fst.all seenB) = !false, (bif bif !(Lib.cut (l.getD k []) [(58 : UInt8), 32]).2.snd then true else !tokenT (Lib.cut (l.getD k []) [(58 : UInt8), 32]).1 then true else !(Lib.cut (l.getD k []) [(58 : UInt8), 32]).2.fst.all seenB) = true, true = true, EqvI (V1.c Cell.nilsl) (V1.c (encH [])), EqvD (V1.c Cell.nilsl) (V1.c (encH []))] (by kernel_rfl) (by kernel_rfl) (by kernel_rfl) ⟨(by simp; omega), (by omega), (by assumption), (by assumption), (by assumption), (by assumption), (by assumption), rfl, fun _ _ => trivial, (show EqvD (V1.c Cell.nilsl) (V1.c (encH [])) from (by assumption))⟩ ?_
        refine Wp.ret' (by kernel_rfl) ?_
        exact FinQ.pure (rs' := [V1.c (Cell.sl (2 : Nat) ([] : List UInt8).length fun (i j : Nat) => nthD (encF ([].getD i FT.nil)) j), V1.c (Cell.int .i64 (3 : Int))]) (by kernel_rfl) rfl (by kernel_rfl)
      | false =>
        have ht : (bif bif bif !(Lib.cut (l.getD k []) [58, 32]).2.2 then true else !tokenT (Lib.cut (l.getD k []) [58, 32]).1 then true else !(Lib.cut (l.getD k []) [58, 32]).2.1.all seenB then true else (fGet acc (lineF (l.getD k [])).name).isSome) = true := ht
        clear hA hO hok again
        refine Wp.go (mx := true) (fun _ => mixed) [(7, {fm := [(0, .c (encH []))]}), (5, {cs := [(4, pc c1)]}), (6, {grd := [(13, true), (14, true), (15, true), (16, true)], cs := [(4, pc c3), (9, pc c4), (15, pc c2), (16, lc [64] [Blk.row 40 (2 : Nat) n fun (i j : Nat) => nthD [Cell.str (acc.getD i FT.nil).name, Cell.str (acc.getD i FT.nil).value] j] [V1.c (Cell.row (2 : Nat) (0 : Nat) (0 : Nat) n), V1.c (Cell.str (foldT (Lib.cut (l.getD k []) [(58 : UInt8), 32]).1))] c5 (by kernel_rfl) (by kernel_rfl) (by kernel_rfl) (show (0 : Nat) + n ≤ n from (by omega)))]})] 100 [true, true] [decide ((↑k : Int) < (↑l.length : Int)) = true, (0 : Int) ≤ (↑k : Int) ∧ (↑k : Int) < (↑l.length : Int), (bif bif !(Lib.cut (l.getD k []) [(58 : UInt8), 32]).2.snd then true else !tokenT (Lib.cut (l.getD k []) [(58 : UInt8), 32]).1 then true else !(Lib.cut (l.getD k []) [(58 : UInt8), 32]).2.fst.all seenB) = false, (bif bif !(Lib.cut (l.getD k []) [(58 : UInt8), 32]).2.snd then true else !tokenT (Lib.cut (l.getD k []) [(58 : UInt8), 32]).1 then true else !(Lib.cut (l.getD k []) [(58 : UInt8), 32]).2.fst.all seenB) = false, (bif bif !(Lib.cut (l.getD k []) [(58 : UInt8), 32]).2.snd then true else !tokenT (Lib.cut (l.getD k []) [(58 : UInt8), 32]).1 then true else !(Lib.cut (l.getD k []) [(58 : UInt8), 32]).2.fst.all seenB) = false, (bif bif !(Lib.cut (l.getD k []) [(58 : UInt8), 32]).2.snd then true else !tokenT (Lib.cut (l.getD k []) [(58 : UInt8), 32]).1 then true else !(Lib.cut (l.getD k []) [(58 : UInt8), 32]).2.fst.all seenB) = false, (bif bif bif !(Lib.cut (l.getD k []) [(58 : UInt8), 32]).2.snd then true else !tokenT (Lib.cut (l.getD k []) [(58 : UInt8), 32]).1 then true else !(Lib.cut (l.getD k []) [(58 : UInt8), 32]).2.fst.all seenB then true else (fGet acc (lineF (l.getD k [])).name).isSome) = true, EqvI (V1.c Cell.nilsl) (V1.c (encH [])), EqvD (V1.c Cell.nilsl) (V1.c (encH []))] (by kernel_rfl) (by kernel_rfl) (by kernel_rfl) ⟨(by simp; omega), (by omega), (by assumption), (by assumption), (by assumption), (by assumption), (by assumption), fun _ _ => trivial, (show EqvD (V1.c Cell.nilsl) (V1.c (encH [])) from (by assumption))⟩ ?_
        refine Wp.ret' (by kernel_rfl) ?_
        exact FinQ.pure (rs' := [V1.c (Cell.sl (2 : Nat) ([] : List UInt8).length fun (i j : Nat) => nthD (encF ([].getD i FT.nil)) j), V1.c (Cell.int .i64 (3 : Int))]) (by kernel_rfl) rfl (by kernel_rfl)
    | true =>
      rw [hok, if_pos rfl] at hA hO
      rw [hok] at ht
      have ht : (bif bif bif !(Lib.cut (l.getD k []) [58, 32]).2.2 then true else !tokenT (Lib.cut (l.getD k []) [58, 32]).1 then true else !(Lib.cut (l.getD k []) [58, 32]).2.1.all seenB then true else (fGet acc (lineF (l.getD k [])).name).isSome) = false := ht
      have hg : (bif bif !(Lib.cut (l.getD k []) [58, 32]).2.2 then true else !tokenT (Lib.cut (l.getD k []) [58, 32]).1 then true else !(Lib.cut (l.getD k []) [58, 32]).2.1.all seenB) = false := by
        revert ht
        generalize (bif bif !(Lib.cut (l.getD k []) [58, 32]).2.2 then true else !tokenT (Lib.cut (l.getD k []) [58, 32]).1 then true else !(Lib.cut (l.getD k []) [58, 32]).2.1.all seenB) = b
        intro h
        cases b with
        | true => exact h
        | false => rfl
      have e3 : BlkEqv (.row 40 2 (n + 1) (catF n (rowF encF .nil acc) (fun i j => nthD (encF (lineF (l.getD k []))) ((0 + i) * 2 + j)))) (.row 40 2 (n + 1) (rowF encF .nil (acc ++ [lineF (l.getD k [])]))) := enc_app acc _ hnH
      have q2 : n + 1 = (acc ++ [lineF (l.getD k [])]).length := by simp [hnH]
      clear hok
      refine Wp.go (mx := true) (fun _ => mixed) [(8, {cs := [(2, pc c2)], bs := [(6, Blk.row 40 2 (n + 1) (rowF encF .nil (acc ++ [lineF (l.getD k [])])))]}), (5, {cs := [(4, pc c1)]}), (6, {grd := [(13, true), (14, true), (15, true), (16, true)], cs := [(4, pc c3), (9, pc c4), (15, pc c2), (16, lc [64] [Blk.row 40 (2 : Nat) n fun (i j : Nat) => nthD [Cell.str (acc.getD i FT.nil).name, Cell.str (acc.getD i FT.nil).value] j] [V1.c (Cell.row (2 : Nat) (0 : Nat) (0 : Nat) n), V1.c (Cell.str (foldT (Lib.cut (l.getD k []) [(58 : UInt8), 32]).1))] c5 (by kernel_rfl) (by kernel_rfl) (by kernel_rfl) (show (0 : Nat) + n ≤ n from (by omega)))]})] 100 [true, false] [decide ((↑k : Int) < (↑l.length : Int)) = true, (0 : Int) ≤ (↑k : Int) ∧ (↑k : Int) < (↑l.length : Int), (bif bif !(Lib.cut (l.getD k []) [(58 : UInt8), 32]).2.snd then true else !tokenT (Lib.cut (l.getD k []) [(58 : UInt8), 32]).1 then true else !(Lib.cut (l.getD k []) [(58 : UInt8), 32]).2.fst.all seenB) = false, (bif bif !(Lib.cut (l.getD k []) [(58 : UInt8), 32]).2.snd then true else !tokenT (Lib.cut (l.getD k []) [(58 : UInt8), 32]).1 then true else !(Lib.cut (l.getD k []) [(58 : UInt8), 32]).2.fst.all seenB) = false, (bif bif !(Lib.cut (l.getD k []) [(58 : UInt8), 32]).2.snd then true else !tokenT (Lib.cut (l.getD k []) [(58 : UInt8), 32]).1 then true else !(Lib.cut (l.getD k []) [(58 : UInt8), 32]).2.fst.all seenB) = false, (bif bif !(Lib.cut (l.getD k []) [(58 : UInt8), 32]).2.snd then true else !tokenT (Lib.cut (l.getD k []) [(58 : UInt8), 32]).1 then true else !(Lib.cut (l.getD k []) [(58 : UInt8), 32]).2.fst.all seenB) = false, (bif bif bif !(Lib.cut (l.getD k []) [(58 : UInt8), 32]).2.snd then true else !tokenT (Lib.cut (l.getD k []) [(58 : UInt8), 32]).1 then true else !(Lib.cut (l.getD k []) [(58 : UInt8), 32]).2.fst.all seenB then true else (fGet acc (lineF (l.getD k [])).name).isSome) = false, (n + (1 : Nat)) * (32 : Nat) ≤ (140737488355328 : Nat), BlkEqv (Blk.row 40 (2 : Nat) (n + (1 : Nat)) (catF n (fun (i j : Nat) => nthD [Cell.str (acc.getD i FT.nil).name, Cell.str (acc.getD i FT.nil).value] j) fun (i j : Nat) => nthD [Cell.str (foldT (Lib.cut (l.getD k []) [(58 : UInt8), 32]).1), Cell.str (Lib.cut (l.getD k []) [(58 : UInt8), 32]).2.fst] (((0 : Nat) + i) * (2 : Nat) + j))) (Blk.row 40 (2 : Nat) (n + (1 : Nat)) (rowF encF FT.nil (acc ++ [lineF (l.getD k [])]))), n ≤ n, (0 : Nat) + (1 : Nat) ≤ (1 : Nat), inR IntKind.i64 ((↑k : Int) + (1 : Int))] (by kernel_rfl) (by kernel_rfl) (by kernel_rfl) ⟨(by simp; omega), (by omega), (by assumption), (by assumption), (by assumption), (by assumption), (by assumption), (by omega), (by assumption), (by omega), (by omega), inR64 (by omega) (by omega)⟩ ?_
      exact Wp.lpK (by kernel_rfl) (again _ (k + 1, n + 1, acc ++ [lineF (l.getD k [])]) ⟨(by assumption), ⟨(by assumption), ⟨(by simp; omega), ⟨(by assumption), (by assumption)⟩⟩⟩⟩ (by omega) (Ent.of [(64, 720)] (by kernel_rfl) (by kernel_rfl) (by kernel_rfl) trivial))
  · rw [List.drop_of_length_le hge] at hA hO
    rw [hA, hO, fieldsA, fieldsO, if_pos rfl, if_pos rfl]
    subst hnH
    clear hA hO again
    refine Wp.go (mx := true) (fun _ => mixed) [] 100 [false] [decide ((↑k : Int) < (↑l.length : Int)) = false] (by kernel_rfl) (by kernel_rfl) (by kernel_rfl) (show decide ((↑k : Int) < (↑l.length : Int)) = false from (by simp; omega)) ?_
    refine Wp.ent' (by kernel_rfl) (Ent.pubT (t := 2) (e := 40) (sz := (2 : Nat)) (id := 64) (off := (0 : Nat)) (m := acc.length) (n := acc.length) (f := fun (i j : Nat) => nthD [Cell.str (acc.getD i FT.nil).name, Cell.str (acc.getD i FT.nil).value] j) (m' := acc.length) (f' := fun (i j : Nat) => nthD (encF (acc.getD i FT.nil)) j) (by kernel_rfl) (by kernel_rfl) (by omega) rfl (fun i _ j _ => by rw [Nat.zero_add]; rfl) rfl) ?_
    refine Wp.ret' (by kernel_rfl) ?_
    exact FinQ.pure (rs' := [V1.c (Cell.sl (2 : Nat) acc.length fun (i j : Nat) => nthD (encF (acc.getD i FT.nil)) j), V1.c (Cell.int .i64 (0 : Int))]) (by kernel_rfl) rfl (by kernel_rfl)
end Go.Proofs.Tw
end

section
open Go Go.Sv Go.RowKit
namespace Go.Proofs.Tw
attribute [local irreducible] Wp FinQ resV Ent Pur Go.Sv.Fn Sat0
set_option maxRecDepth 100000
set_option maxHeartbeats 4000000
variable {G : Nat → Option (List Cell)}

/-! a first line, as the document splits it -/
theorem cut_none {s p : List UInt8} (h : (Lib.cut s p).2.2 = false) : (Lib.cut s p).1 = s ∧ (Lib.cut s p).2.1 = [] := by
  unfold Lib.cut at h ⊢
  split at h
  · cases h
  · rename_i hh
    rw [if_neg hh]
    exact ⟨rfl, rfl⟩
def httpV : List UInt8 := [72, 84, 84, 80, 47, 49, 46, 49]
def ask13 (s : List UInt8) : Bool := (Lib.cut s [32]).2.2 && ((Lib.cut (Lib.cut s [32]).2.1 [32]).2.2 && (((Lib.cut (Lib.cut s [32]).2.1 [32]).2.1 == httpV) && (methT (Lib.cut s [32]).1 && targT (Lib.cut (Lib.cut s [32]).2.1 [32]).1)))
theorem tg_32 {t : List UInt8} (h : t.all tgB = true) : (32 : UInt8) ∉ t := by
  intro hc
  rw [List.all_eq_true] at h
  have := h _ hc
  revert this
  decide
theorem ask13_of {s : List UInt8} (h : ask13 s = true) : askB s = true ∧ askT s = (Lib.cut (Lib.cut s [32]).2.1 [32]).1 := by
  unfold ask13 at h
  simp only [Bool.and_eq_true] at h
  obtain ⟨h1, h2, h3, h4, h5⟩ := h
  have e := cut_true h2
  rw [eq_of_beq h3] at e
  have e' : (Lib.cut s [32]).2.1 = (Lib.cut (Lib.cut s [32]).2.1 [32]).1 ++ [32, 72, 84, 84, 80, 47, 49, 46, 49] := by rw [List.append_assoc] at e; exact e
  obtain ⟨s1, s2⟩ := suf_app (Lib.cut (Lib.cut s [32]).2.1 [32]).1 [32, 72, 84, 84, 80, 47, 49, 46, 49]
  rw [← e'] at s1 s2
  have ht : askT s = (Lib.cut (Lib.cut s [32]).2.1 [32]).1 := s2
  refine ⟨?_, ht⟩
  unfold askB
  rw [s1, Bool.true_and, ht]
  unfold linedT
  rw [Bool.and_eq_true]
  exact ⟨h4, h5⟩
theorem ask13_to {s : List UInt8} (h : askB s = true) : ask13 s = true := by
  unfold askB linedT at h
  simp only [Bool.and_eq_true] at h
  obtain ⟨h1, h2, h3⟩ := h
  have e := suf_true h1
  have h32 : (32 : UInt8) ∉ askT s := tg_32 (by unfold targT at h3; simp only [Bool.and_eq_true] at h3; exact h3.1)
  have hc : Lib.cut (Lib.cut s [32]).2.1 [32] = (askT s, httpV, true) := by
    have := cut_at (askT s) httpV [] 32 h32
    rw [← this]
    congr 1
    rw [List.append_assoc]
    exact e
  have hi : (Lib.cut s [32]).2.2 = true := by
    cases hh : (Lib.cut s [32]).2.2 with
    | true => rfl
    | false =>
      rw [(cut_none hh).2] at e
      have := congrArg List.length e
      simp at this
  unfold ask13
  rw [hc, hi]
  unfold askM at h2
  rw [h2]
  simp only [Bool.true_and, Bool.and_eq_true]
  exact ⟨by simp, h3⟩
theorem ask13_eq (s : List UInt8) : ask13 s = askB s := by
  cases h : askB s with
  | true => exact ask13_to h
  | false =>
    cases h2 : ask13 s with
    | true => rw [(ask13_of h2).1] at h; cases h
    | false => rfl
theorem ask13b (a b c d e : Bool) : (bif bif bif bif !a then true else !b then true else !c then true else !d then true else !e) = !(a && (b && (c && (d && e)))) := by
  cases a <;> cases b <;> cases c <;> cases d <;> cases e <;> rfl
theorem nilQ_eqv : EqvD (.agg [.str [], .str [], .nilsl, .str []]) (.agg (encQ QT.nil)) := agg_eqv (.cons CEq.rfl' (.cons CEq.rfl' (.cons CEq.nil (.cons CEq.rfl' .nil))))
theorem linQ_eqv (m t : List UInt8) : EqvD (.agg [.str m, .str t, .nilsl, .str []]) (.agg (encQ ⟨m, t, [], []⟩)) := agg_eqv (.cons CEq.rfl' (.cons CEq.rfl' (.cons CEq.nil (.cons CEq.rfl' .nil))))
theorem ask13_yes (s : List UInt8) (hl : s.length < 1000000000) (h : askB s = true) : Pur Tryz.prog G 38 [.c (.str s)] [.agg (encQ ⟨askM s, askT s, [], []⟩), .c (.bool true)] := by
  refine Pur.of Tryz.func38 (by kernel_rfl) (by kernel_rfl) (by kernel_rfl) ?_
  have hc := cut_len s [32]
  have hc2 := cut_len (Lib.cut s [32]).2.1 [32]
  have c1 := cut6_ok (G := G) s [32] (by omega) (by decide) (by decide)
  have c2 := cut6_ok (G := G) (Lib.cut s [32]).2.1 [32] (by omega) (by decide) (by decide)
  have c3 := method13_ok (G := G) (Lib.cut s [32]).1 (by omega)
  have c4 := target13_ok (G := G) (Lib.cut (Lib.cut s [32]).2.1 [32]).1 (by omega)
  have h13 := ask13_to h
  rw [(ask13_of h13).2]
  unfold askM
  have ht := ask13b (Lib.cut s [32]).2.2 (Lib.cut (Lib.cut s [32]).2.1 [32]).2.2 ((Lib.cut (Lib.cut s [32]).2.1 [32]).2.1 == httpV) (methT (Lib.cut s [32]).1) (targT (Lib.cut (Lib.cut s [32]).2.1 [32]).1)
  have e1 := linQ_eqv (Lib.cut s [32]).1 (Lib.cut (Lib.cut s [32]).2.1 [32]).1
  unfold ask13 at h13
  rw [h13] at ht
  generalize Lib.cut (Lib.cut s [32]).2.1 [32] = D at *
  generalize Lib.cut s [32] = C at *
  have ht : (bif bif bif bif !C.2.2 then true else !D.2.2 then true else !(D.2.1 == httpV) then true else !(methT C.1) then true else !(targT D.1)) = false := ht
  clear h13 h
  refine Wp.go (mx := true) (fun _ => mixed) [(5, {fm := [(2, .agg (encQ ⟨C.1, D.1, [], []⟩))]}), (1, {cs := [(1, pc c1)]}), (2, {cs := [(1, pc c2)]}), (3, {cs := [(12, pc c3), (17, pc c4)]})] 100 [false] [(bif bif bif bif !C.2.snd then true else !D.2.snd then true else !D.2.fst == [(72 : UInt8), 84, 84, 80, 47, 49, 46, 49] then true else !methT C.1 then true else !targT D.1) = false, EqvI (V1.agg [Cell.str C.1, Cell.str D.1, Cell.nilsl, Cell.str []]) (V1.agg [Cell.str C.1, Cell.str D.1, encH [], Cell.str []]), EqvD (V1.agg [Cell.str C.1, Cell.str D.1, Cell.nilsl, Cell.str []]) (V1.agg [Cell.str C.1, Cell.str D.1, encH [], Cell.str []])] (by kernel_rfl) (by kernel_rfl) (by kernel_rfl) ⟨(by assumption), eqvI_flat _ _ (by kernel_rfl), (show EqvD (V1.agg [Cell.str C.1, Cell.str D.1, Cell.nilsl, Cell.str []]) (V1.agg [Cell.str C.1, Cell.str D.1, encH [], Cell.str []]) from (by assumption))⟩ ?_
  refine Wp.ret' (by kernel_rfl) ?_
  exact FinQ.pure (rs' := [V1.agg [Cell.str C.1, Cell.str D.1, Cell.sl (2 : Nat) (0 : Nat) fun (i j : Nat) => nthD [Cell.str [], Cell.str []] j, Cell.str []], V1.c (Cell.bool true)]) (by kernel_rfl) rfl (by kernel_rfl)
theorem ask13_no (s : List UInt8) (hl : s.length < 1000000000) (h : askB s = false) : Pur Tryz.prog G 38 [.c (.str s)] [.agg (encQ .nil), .c (.bool false)] := by
  refine Pur.of Tryz.func38 (by kernel_rfl) (by kernel_rfl) (by kernel_rfl) ?_
  have hc := cut_len s [32]
  have hc2 := cut_len (Lib.cut s [32]).2.1 [32]
  have c1 := cut6_ok (G := G) s [32] (by omega) (by decide) (by decide)
  have c2 := cut6_ok (G := G) (Lib.cut s [32]).2.1 [32] (by omega) (by decide) (by decide)
  have c3 := method13_ok (G := G) (Lib.cut s [32]).1 (by omega)
  have c4 := target13_ok (G := G) (Lib.cut (Lib.cut s [32]).2.1 [32]).1 (by omega)
  have h13 := ask13_eq s
  rw [h] at h13
  have ht := ask13b (Lib.cut s [32]).2.2 (Lib.cut (Lib.cut s [32]).2.1 [32]).2.2 ((Lib.cut (Lib.cut s [32]).2.1 [32]).2.1 == httpV) (methT (Lib.cut s [32]).1) (targT (Lib.cut (Lib.cut s [32]).2.1 [32]).1)
  have e1 := nilQ_eqv
  unfold ask13 at h13
  rw [h13] at ht
  generalize Lib.cut (Lib.cut s [32]).2.1 [32] = D at *
  generalize Lib.cut s [32] = C at *
  have ht : (bif bif bif bif !C.2.2 then true else !D.2.2 then true else !(D.2.1 == httpV) then true else !(methT C.1) then true else !(targT D.1)) = true := ht
  clear h13 h
  refine Wp.go (mx := true) (fun _ => mixed) [(4, {fm := [(0, .agg (encQ QT.nil))]}), (1, {cs := [(1, pc c1)]}), (2, {cs := [(1, pc c2)]}), (3, {cs := [(12, pc c3), (17, pc c4)]})] 100 [true] [(bif bif bif bif !C.2.snd then true else !D.2.snd then true else !D.2.fst == [(72 : UInt8), 84, 84, 80, 47, 49, 46, 49] then true else !methT C.1 then true else !targT D.1) = true, EqvI (V1.agg [Cell.str [], Cell.str [], Cell.nilsl, Cell.str []]) (V1.agg (encQ QT.nil)), EqvD (V1.agg [Cell.str [], Cell.str [], Cell.nilsl, Cell.str []]) (V1.agg (encQ QT.nil))] (by kernel_rfl) (by kernel_rfl) (by kernel_rfl) ⟨(by assumption), eqvI_flat _ _ (by kernel_rfl), (show EqvD (V1.agg [Cell.str [], Cell.str [], Cell.nilsl, Cell.str []]) (V1.agg (encQ QT.nil)) from (by assumption))⟩ ?_
  refine Wp.ret' (by kernel_rfl) ?_
  exact FinQ.pure (rs' := [V1.agg [Cell.str QT.nil.method, Cell.str QT.nil.target, Cell.sl (2 : Nat) QT.nil.head.length fun (i j : Nat) => nthD (encF (QT.nil.head.getD i FT.nil)) j, Cell.str QT.nil.body], V1.c (Cell.bool false)]) (by kernel_rfl) rfl (by kernel_rfl)
/-! a response's -/
def numA (s : List UInt8) : List UInt8 := (s.take 12).drop 9
def tell13 (s : List UInt8) : Bool := decide (13 ≤ s.length) && ((s.take 9 == verS) && ((s.getD 12 0 == 32) && s.all seenB))
theorem dig_32 {t : List UInt8} (h : t.all digitB = true) : (32 : UInt8) ∉ t := by
  intro hc
  rw [List.all_eq_true] at h
  have := h _ hc
  revert this
  decide
theorem num_len3 {t : List UInt8} (h : numK 3 t = true) (hn : 100 ≤ nv t) : t.length = 3 := by
  unfold numK canonB at h
  simp only [Bool.and_eq_true, decide_eq_true_eq] at h
  obtain ⟨h1, h2, h3⟩ := h
  rcases Nat.lt_or_ge t.length 3 with hlt | hge
  · have := nv_lt 2 t (by omega) h2
    omega
  · omega
theorem dig_seen {t : List UInt8} (h : t.all digitB = true) : t.all seenB = true := by
  rw [List.all_eq_true] at h ⊢
  intro c hc
  have : ∀ c : UInt8, (!digitB c || seenB c) = true := byte_all _ (by kernel_rfl)
  have := this c
  rw [h c hc] at this
  simpa using this
theorem tell_parts {s : List UInt8} (h : tellB s = true) : s = verS ++ ((tellC s).1 ++ ([32] ++ (tellC s).2.1)) ∧ (tellC s).1.length = 3 ∧ numK 3 (tellC s).1 = true ∧ (tellC s).2.1.all seenB = true ∧ 100 ≤ nv (tellC s).1 ∧ nv (tellC s).1 ≤ 599 := by
  unfold tellB at h
  simp only [Bool.and_eq_true] at h
  obtain ⟨h1, h2, h3, h4, h5⟩ := h
  have hn : tellN s = ((nv (tellC s).1 : Nat) : Int) := by unfold tellN; rw [h3, if_pos rfl]
  rw [hn] at h4
  unfold statedT at h4
  rw [Bool.cond_false_right, Bool.and_eq_true, decide_eq_true_eq, decide_eq_true_eq] at h4
  have hl := num_len3 h3 (by omega)
  obtain ⟨t, ht⟩ := List.isPrefixOf_iff_prefix.1 h1
  have e1 : Lib.trimPrefix s verS = t := by
    unfold Lib.trimPrefix
    rw [if_pos h1, ← ht, List.drop_left]
  have e2 : Lib.trimPrefix s verS = (tellC s).1 ++ [32] ++ (tellC s).2.1 := cut_true (p := [32]) h2
  have e3 : t = (tellC s).1 ++ ([32] ++ (tellC s).2.1) := by
    rw [e1] at e2
    rw [← List.append_assoc]
    exact e2
  exact ⟨by rw [← e3, ht], hl, h3, h5, by omega, by omega⟩
theorem tell_to {s : List UInt8} (h : tellB s = true) : tell13 s = true ∧ numA s = (tellC s).1 := by
  obtain ⟨e, hl, h3, h5, h6, h7⟩ := tell_parts h
  have hd : (tellC s).1.all digitB = true := by unfold numK canonB at h3; simp only [Bool.and_eq_true] at h3; exact h3.2.1
  generalize (tellC s).1 = a at *
  generalize (tellC s).2.1 = w at *
  subst e
  obtain ⟨x, y, z, rfl⟩ : ∃ x y z, a = [x, y, z] := by
    match a, hl with
    | [x, y, z], _ => exact ⟨x, y, z, rfl⟩
  refine ⟨?_, rfl⟩
  unfold tell13
  have hs : (verS ++ ([x, y, z] ++ ([32] ++ w))).all seenB = true := by
    rw [List.all_append, List.all_append, List.all_append, dig_seen hd, h5]
    rfl
  rw [hs]
  have : 13 ≤ (verS ++ ([x, y, z] ++ ([32] ++ w))).length := by simp [verS]
  rw [decide_eq_true this]
  rfl
theorem tell_of {s : List UInt8} (h : tell13 s = true) (hn : numK 9 (numA s) = true) (h1 : 100 ≤ nv (numA s)) (h2 : nv (numA s) ≤ 599) : tellB s = true ∧ (tellC s).1 = numA s := by
  unfold tell13 at h
  simp only [Bool.and_eq_true, decide_eq_true_eq] at h
  obtain ⟨a1, a2, a3, a4⟩ := h
  have hd : (numA s).all digitB = true := by unfold numK canonB at hn; simp only [Bool.and_eq_true] at hn; exact hn.2.1
  have hl : (numA s).length = 3 := by unfold numA; rw [List.length_drop, List.length_take]; omega
  have e : s = verS ++ (numA s ++ ([32] ++ s.drop 13)) := by
    have q1 : s = s.take 9 ++ s.drop 9 := (List.take_append_drop 9 s).symm
    have q2 : s.drop 9 = numA s ++ s.drop 12 := by
      unfold numA
      have := (List.take_append_drop 3 (s.drop 9)).symm
      rw [List.drop_drop] at this
      rw [this, List.take_drop]
    have q3 : s.drop 12 = [32] ++ s.drop 13 := by
      rw [dropS s 12 (by omega), eq_of_beq a3]; rfl
    rw [eq_of_beq a2, q2, q3] at q1
    exact q1
  have hp : Lib.hasPrefix s verS = true := List.isPrefixOf_iff_prefix.2 ⟨_, e.symm⟩
  have ht : Lib.trimPrefix s verS = numA s ++ [32] ++ s.drop 13 := by
    unfold Lib.trimPrefix
    rw [if_pos hp]
    conv => lhs; rw [e]
    rw [List.drop_left, List.append_assoc]
  have hc : tellC s = (numA s, s.drop 13, true) := by
    unfold tellC
    rw [ht]
    exact cut_at (numA s) (s.drop 13) [] 32 (dig_32 hd)
  have h3 : numK 3 (numA s) = true := by
    unfold numK at hn ⊢
    rw [Bool.and_eq_true] at hn ⊢
    exact ⟨by simp [hl], hn.2⟩
  have hN : tellN s = ((nv (numA s) : Nat) : Int) := by unfold tellN; rw [hc, if_pos h3]
  have hw : (s.drop 13).all seenB = true := by
    rw [List.all_eq_true] at a4 ⊢
    exact fun c hc => a4 c (List.mem_of_mem_drop hc)
  refine ⟨?_, by rw [hc]⟩
  unfold tellB
  rw [hp, hN, hc, h3, hw]
  unfold statedT
  rw [decide_eq_true (show ((nv (numA s) : Nat) : Int) ≥ 100 by omega), decide_eq_true (show ((nv (numA s) : Nat) : Int) ≤ 599 by omega)]
  rfl
theorem tell13b (a b c d : Bool) : (bif bif bif !a then true else !b then true else !c then true else !d) = !(a && (b && (c && d))) := by
  cases a <;> cases b <;> cases c <;> cases d <;> rfl
/-- What it says of a response's first line: a number, and whether it is one. -/
def tell13N (s : List UInt8) : Int := if tell13 s then cntT (numA s) else 0
def tell13B (s : List UInt8) : Bool := tell13 s && statedT (cntT (numA s))
theorem tell13B_eq (s : List UInt8) : tell13B s = tellB s ∧ (tellB s = true → tell13N s = tellN s) := by
  cases h : tellB s with
  | true =>
    obtain ⟨h1, h2⟩ := tell_to h
    obtain ⟨_, hl, h3, h5, h6, h7⟩ := tell_parts h
    have hc : cntT (numA s) = ((nv (tellC s).1 : Nat) : Int) := by
      unfold cntT
      rw [h2, if_pos (by unfold numK at h3 ⊢; rw [Bool.and_eq_true] at h3 ⊢; exact ⟨by simp [hl], h3.2⟩)]
    refine ⟨?_, fun _ => ?_⟩
    · unfold tell13B statedT
      rw [h1, hc, decide_eq_true (show ((nv (tellC s).1 : Nat) : Int) ≥ 100 by omega), decide_eq_true (show ((nv (tellC s).1 : Nat) : Int) ≤ 599 by omega)]
      rfl
    · unfold tell13N tellN
      rw [h1, if_pos rfl, hc, h3, if_pos rfl]
  | false =>
    refine ⟨?_, fun h => by cases h⟩
    cases h2 : tell13B s with
    | false => rfl
    | true =>
      unfold tell13B statedT at h2
      rw [Bool.and_eq_true, Bool.cond_false_right, Bool.and_eq_true, decide_eq_true_eq, decide_eq_true_eq] at h2
      obtain ⟨q1, q2, q3⟩ := h2
      have hn : numK 9 (numA s) = true := by
        cases hk : numK 9 (numA s) with
        | true => rfl
        | false => unfold cntT at q2; rw [hk] at q2; simp at q2
      have hc : cntT (numA s) = ((nv (numA s) : Nat) : Int) := by unfold cntT; rw [hn]; rfl
      rw [hc] at q2 q3
      rw [(tell_of q1 hn (by omega) (by omega)).1] at h
      cases h
theorem tell13_ok (s : List UInt8) (hl : s.length < 1000000000) : Pur Tryz.prog G 46 [.c (.str s)] [.c (.int .i64 (tell13N s)), .c (.bool (tell13B s))] := by
  refine Pur.of Tryz.func46 (by kernel_rfl) (by kernel_rfl) (by kernel_rfl) ?_
  have c1 := seen6_ok (G := G) s (by omega)
  have c2 := count_ok (G := G) (numA s) (by unfold numA; rw [List.length_drop, List.length_take]; omega)
  unfold numA at c2
  have hi0 : (((s.getD 12 0).toNat : Int) != 32) = !(s.getD 12 0 == 32) := by
    have := ibeq (s.getD 12 0) 32
    unfold bne
    exact congrArg (!·) this
  have hd : decide ((s.length : Int) < 13) = !decide (13 ≤ s.length) := by
    by_cases h : 13 ≤ s.length <;> simp [h] <;> omega
  have hb := tell13b (decide (13 ≤ s.length)) (s.take 9 == verS) (s.getD 12 0 == 32) (s.all seenB)
  rw [← hd, ← hi0] at hb
  have hb : (bif bif bif decide ((s.length : Int) < 13) then true else !(s.take 9 == verS) then true else (((s.getD 12 0).toNat : Int) != 32) then true else !(s.all seenB)) = !tell13 s := hb
  cases ht : tell13 s with
  | true =>
    rw [ht] at hb
    have hb : (bif bif bif decide ((s.length : Int) < 13) then true else !(s.take 9 == verS) then true else (((s.getD 12 0).toNat : Int) != 32) then true else !(s.all seenB)) = false := hb
    have h13 : 13 ≤ s.length := by
      unfold tell13 at ht
      rw [Bool.and_eq_true, decide_eq_true_eq] at ht
      exact ht.1
    rw [show tell13N s = cntT (numA s) from by unfold tell13N; rw [ht]; rfl, show tell13B s = (bif decide (cntT (numA s) ≥ 100) then decide (cntT (numA s) ≤ 599) else false) from by unfold tell13B; rw [ht]; rfl]
    unfold numA
    clear ht hi0 hd
    refine Wp.go (mx := true) (fun _ => mixed) [(2, {cs := [(20, pc c1)]}), (4, {cs := [(5, pc c2)]})] 100 [false] [inR IntKind.i64 ((9 : Int) + (4 : Int)), decide ((↑s.length : Int) < (9 : Int) + (4 : Int)) = false → (0 : Int) ≤ Int.ofNat (0) ∧ Int.ofNat (0) ≤ Int.ofNat (9) ∧ Int.ofNat (9) ≤ (↑s.length : Int), (bif decide ((↑s.length : Int) < (9 : Int) + (4 : Int)) then true else !List.drop (0 : Nat) (List.take (9 : Nat) s) == [(72 : UInt8), 84, 84, 80, 47, 49, 46, 49, 32]) = false → inR IntKind.i64 ((9 : Int) + (3 : Int)), (bif decide ((↑s.length : Int) < (9 : Int) + (4 : Int)) then true else !List.drop (0 : Nat) (List.take (9 : Nat) s) == [(72 : UInt8), 84, 84, 80, 47, 49, 46, 49, 32]) = false → (0 : Int) ≤ (9 : Int) + (3 : Int) ∧ (9 : Int) + (3 : Int) < (↑s.length : Int), (bif bif bif decide ((↑s.length : Int) < (9 : Int) + (4 : Int)) then true else !List.drop (0 : Nat) (List.take (9 : Nat) s) == [(72 : UInt8), 84, 84, 80, 47, 49, 46, 49, 32] then true else (↑(s.getD (12 : Nat) (0 : UInt8)).toNat : Int) != (32 : Int) then true else !s.all seenB) = false, inR IntKind.i64 ((9 : Int) + (3 : Int)), (0 : Int) ≤ Int.ofNat (9) ∧ Int.ofNat (9) ≤ Int.ofNat (9 + 3) ∧ Int.ofNat (9 + 3) ≤ (↑s.length : Int)] (by kernel_rfl) (by kernel_rfl) (by kernel_rfl) ⟨inR64 (by omega) (by omega), (by simp; omega), (fun _ => inR64 (by omega) (by omega)), (by omega), (by assumption), inR64 (by omega) (by omega), ⟨(by decide), ⟨(by decide), (by simp; omega)⟩⟩⟩ ?_
    refine Wp.ret' (by kernel_rfl) ?_
    exact FinQ.pure (rs' := [V1.c (Cell.int .i64 (cntT (List.drop (9 : Nat) (List.take (12 : Nat) s)))), V1.c (Cell.bool (bif decide (cntT (List.drop (9 : Nat) (List.take (12 : Nat) s)) ≥ (100 : Int)) then decide (cntT (List.drop (9 : Nat) (List.take (12 : Nat) s)) ≤ (599 : Int)) else false))]) (by kernel_rfl) rfl (by kernel_rfl)
  | false =>
    rw [ht] at hb
    have hb : (bif bif bif decide ((s.length : Int) < 13) then true else !(s.take 9 == verS) then true else (((s.getD 12 0).toNat : Int) != 32) then true else !(s.all seenB)) = true := hb
    rw [show tell13N s = 0 from by unfold tell13N; rw [ht]; rfl, show tell13B s = false from by unfold tell13B; rw [ht]; rfl]
    clear ht hi0 hd
    refine Wp.go (mx := true) (fun _ => mixed) [(2, {cs := [(20, pc c1)]})] 100 [true] [inR IntKind.i64 ((9 : Int) + (4 : Int)), decide ((↑s.length : Int) < (9 : Int) + (4 : Int)) = false → (0 : Int) ≤ Int.ofNat (0) ∧ Int.ofNat (0) ≤ Int.ofNat (9) ∧ Int.ofNat (9) ≤ (↑s.length : Int), (bif decide ((↑s.length : Int) < (9 : Int) + (4 : Int)) then true else !List.drop (0 : Nat) (List.take (9 : Nat) s) == [(72 : UInt8), 84, 84, 80, 47, 49, 46, 49, 32]) = false → inR IntKind.i64 ((9 : Int) + (3 : Int)), (bif decide ((↑s.length : Int) < (9 : Int) + (4 : Int)) then true else !List.drop (0 : Nat) (List.take (9 : Nat) s) == [(72 : UInt8), 84, 84, 80, 47, 49, 46, 49, 32]) = false → (0 : Int) ≤ (9 : Int) + (3 : Int) ∧ (9 : Int) + (3 : Int) < (↑s.length : Int), (bif bif bif decide ((↑s.length : Int) < (9 : Int) + (4 : Int)) then true else !List.drop (0 : Nat) (List.take (9 : Nat) s) == [(72 : UInt8), 84, 84, 80, 47, 49, 46, 49, 32] then true else (↑(s.getD (12 : Nat) (0 : UInt8)).toNat : Int) != (32 : Int) then true else !s.all seenB) = true] (by kernel_rfl) (by kernel_rfl) (by kernel_rfl) ⟨inR64 (by omega) (by omega), (by simp; omega), (fun _ => inR64 (by omega) (by omega)), (by simp; omega), (show (bif bif bif decide ((↑s.length : Int) < (9 : Int) + (4 : Int)) then true else !List.drop (0 : Nat) (List.take (9 : Nat) s) == [(72 : UInt8), 84, 84, 80, 47, 49, 46, 49, 32] then true else (↑(s.getD (12 : Nat) (0 : UInt8)).toNat : Int) != (32 : Int) then true else !s.all seenB) = true from (by assumption))⟩ ?_
    refine Wp.ret' (by kernel_rfl) ?_
    exact FinQ.pure (rs' := [V1.c (Cell.int .i64 (0 : Int)), V1.c (Cell.bool false)]) (by kernel_rfl) rfl (by kernel_rfl)
end Go.Proofs.Tw
end

section
open Go Go.Sv Go.RowKit
namespace Go.Proofs.Tw
attribute [local irreducible] Wp FinQ resV Ent Pur Go.Sv.Fn Sat0
set_option maxRecDepth 100000
set_option maxHeartbeats 4000000
variable {G : Nat → Option (List Cell)}

/-! a body, as the document takes it -/
theorem filter_none {l : List FT} (h : fGet l clN = none) : l.filter notCl = l := by
  rw [List.filter_eq_self]
  intro f hf
  unfold notCl
  cases hc : f.name == clN with
  | false => rfl
  | true =>
    have : (fGet l clN).isSome = true := by rw [← fGet_con, List.contains_iff_mem]; exact List.mem_map.2 ⟨f, hf, eq_of_beq hc⟩
    rw [h] at this
    cases this
def pT (l : List FT) (b : List UInt8) : List Cell := [.str [], encH l, .str b]
theorem body13_non (l : List FT) (r : List UInt8) (hl : l.length < 1000000) (h : fGet l clN = none) (hr : r = []) : Pur Tryz.prog G 40 [.agg (pT l []), .c (.str r)] [.agg (pT l []), .c (.int .i64 0)] := by
  refine Pur.of Tryz.func40 (by kernel_rfl) (by kernel_rfl) (by kernel_rfl) ?_
  have c1 : Pur Tryz.prog G 80 [.c (encH l), .c (.str clN)] [.c (.str []), .c (.bool false)] := by
    have := get10_ok (G := G) l clN (by omega)
    rw [h] at this
    exact this
  have ht : (!(r == [])) = false := by rw [hr]; rfl
  clear h
  refine Wp.go (mx := true) (fun _ => mixed) [(1, {cs := [(2, pc c1)]})] 100 [true, false] [(!false) = true, (!r == []) = false] (by kernel_rfl) (by kernel_rfl) (by kernel_rfl) ⟨rfl, (show (!r == []) = false from (by assumption))⟩ ?_
  refine Wp.ret' (by kernel_rfl) ?_
  exact FinQ.pure (rs' := [V1.agg [Cell.str [], Cell.sl (2 : Nat) l.length fun (i j : Nat) => nthD (encF (l.getD i FT.nil)) j, Cell.str []], V1.c (Cell.int .i64 (0 : Int))]) (by kernel_rfl) rfl (by kernel_rfl)
theorem body13_nof (l : List FT) (r : List UInt8) (hl : l.length < 1000000) (h : fGet l clN = none) (hr : r ≠ []) : Pur Tryz.prog G 40 [.agg (pT l []), .c (.str r)] [.agg (pT l []), .c (.int .i64 3)] := by
  refine Pur.of Tryz.func40 (by kernel_rfl) (by kernel_rfl) (by kernel_rfl) ?_
  have c1 : Pur Tryz.prog G 80 [.c (encH l), .c (.str clN)] [.c (.str []), .c (.bool false)] := by
    have := get10_ok (G := G) l clN (by omega)
    rw [h] at this
    exact this
  have ht : (!(r == [])) = true := by cases r with
    | nil => exact (hr rfl).elim
    | cons a b => rfl
  clear h
  refine Wp.go (mx := true) (fun _ => mixed) [(1, {cs := [(2, pc c1)]})] 100 [true, true] [(!false) = true, (!r == []) = true] (by kernel_rfl) (by kernel_rfl) (by kernel_rfl) ⟨rfl, (show (!r == []) = true from (by assumption))⟩ ?_
  refine Wp.ret' (by kernel_rfl) ?_
  exact FinQ.pure (rs' := [V1.agg [Cell.str [], Cell.sl (2 : Nat) l.length fun (i j : Nat) => nthD (encF (l.getD i FT.nil)) j, Cell.str []], V1.c (Cell.int .i64 (3 : Int))]) (by kernel_rfl) rfl (by kernel_rfl)
theorem body13_no (l : List FT) (r v : List UInt8) (hl : l.length < 1000000) (hv : v.length < 1000000000) (hr : r.length < 1000000000) (h : fGet l clN = some v) (he : szE v true r ≠ 0) : Pur Tryz.prog G 40 [.agg (pT l []), .c (.str r)] [.agg (pT l []), .c (.int .i64 (szE v true r))] := by
  refine Pur.of Tryz.func40 (by kernel_rfl) (by kernel_rfl) (by kernel_rfl) ?_
  have c1 : Pur Tryz.prog G 80 [.c (encH l), .c (.str clN)] [.c (.str v), .c (.bool true)] := by
    have := get10_ok (G := G) l clN (by omega)
    rw [h] at this
    exact this
  have c2 := count_ok (G := G) v hv
  unfold szE cntT at *
  rw [if_pos rfl] at he ⊢
  cases hk : numK 9 v with
  | false =>
    rw [hk] at c2
    have c2 : Pur Tryz.prog G 81 [.c (.str v)] [.c (.int .i64 (-1))] := c2
    rw [if_pos rfl]
    have ht : decide ((-1 : Int) < 0) = true := rfl
    clear h he
    refine Wp.go (mx := true) (fun _ => mixed) [(1, {cs := [(2, pc c1)]}), (6, {cs := [(1, pc c2)]})] 100 [false, true] [(!true) = false, decide ((-1 : Int) < (0 : Int)) = true] (by kernel_rfl) (by kernel_rfl) (by kernel_rfl) ⟨rfl, rfl⟩ ?_
    refine Wp.ret' (by kernel_rfl) ?_
    exact FinQ.pure (rs' := [V1.agg [Cell.str [], Cell.sl (2 : Nat) l.length fun (i j : Nat) => nthD (encF (l.getD i FT.nil)) j, Cell.str []], V1.c (Cell.int .i64 (3 : Int))]) (by kernel_rfl) rfl (by kernel_rfl)
  | true =>
    rw [hk, if_pos rfl] at c2
    rw [hk, if_neg (by decide)] at he
    rw [if_neg (by decide)]
    generalize nv v = N at *
    have ht1 : decide ((N : Int) < 0) = false := by simp
    by_cases h4 : N > 4096
    · rw [if_pos h4]
      have ht : decide ((N : Int) > 4096) = true := by simp; omega
      clear h he
      refine Wp.go (mx := true) (fun _ => mixed) [(1, {cs := [(2, pc c1)]}), (6, {cs := [(1, pc c2)]})] 100 [false, false, true] [(!true) = false, decide ((↑N : Int) < (0 : Int)) = false, decide ((↑N : Int) > (4096 : Int)) = true] (by kernel_rfl) (by kernel_rfl) (by kernel_rfl) ⟨rfl, rfl, (show decide ((↑N : Int) > (4096 : Int)) = true from (by assumption))⟩ ?_
      refine Wp.ret' (by kernel_rfl) ?_
      exact FinQ.pure (rs' := [V1.agg [Cell.str [], Cell.sl (2 : Nat) l.length fun (i j : Nat) => nthD (encF (l.getD i FT.nil)) j, Cell.str []], V1.c (Cell.int .i64 (4 : Int))]) (by kernel_rfl) rfl (by kernel_rfl)
    · rw [if_neg h4] at he ⊢
      have ht : decide ((N : Int) > 4096) = false := by simp; omega
      by_cases h5 : N = r.length
      · rw [if_pos h5] at he
        exact (he rfl).elim
      · rw [if_neg h5]
        have ht2 : ((N : Int) != (r.length : Int)) = true := by simp; omega
        clear h he
        refine Wp.go (mx := true) (fun _ => mixed) [(1, {cs := [(2, pc c1)]}), (6, {cs := [(1, pc c2)]})] 100 [false, false, false, true] [(!true) = false, decide ((↑N : Int) < (0 : Int)) = false, decide ((↑N : Int) > (4096 : Int)) = false, ((↑N : Int) != (↑r.length : Int)) = true] (by kernel_rfl) (by kernel_rfl) (by kernel_rfl) ⟨rfl, rfl, (by assumption), (show ((↑N : Int) != (↑r.length : Int)) = true from (by assumption))⟩ ?_
        refine Wp.ret' (by kernel_rfl) ?_
        exact FinQ.pure (rs' := [V1.agg [Cell.str [], Cell.sl (2 : Nat) l.length fun (i j : Nat) => nthD (encF (l.getD i FT.nil)) j, Cell.str []], V1.c (Cell.int .i64 (3 : Int))]) (by kernel_rfl) rfl (by kernel_rfl)
theorem filt_step (l : List FT) (k : Nat) (hk : k < l.length) : (l.take (k + 1)).filter notCl = if (l.getD k .nil).name == clN then (l.take k).filter notCl else (l.take k).filter notCl ++ [l.getD k .nil] := by
  rw [List.take_succ_eq_append_getElem hk, show l[k] = l.getD k .nil from by simp [List.getD, hk]]
  split
  · rename_i h; exact filt_cl _ _ h
  · rename_i h; exact filt_no _ _ (by simpa using h)
theorem body13_yes (l : List FT) (r v : List UInt8) (hl : l.length < 1000000) (hv : v.length < 1000000000) (hr : r.length < 1000000000) (h : fGet l clN = some v) (he : szE v true r = 0) : Pur Tryz.prog G 40 [.agg (pT l []), .c (.str r)] [.agg (pT (l.filter notCl) r), .c (.int .i64 0)] := by
  refine Pur.of Tryz.func40 (by kernel_rfl) (by kernel_rfl) (by kernel_rfl) ?_
  have c1 : Pur Tryz.prog G 80 [.c (encH l), .c (.str clN)] [.c (.str v), .c (.bool true)] := by
    have := get10_ok (G := G) l clN (by omega)
    rw [h] at this
    exact this
  have c2 := count_ok (G := G) v hv
  unfold szE at he
  unfold cntT at c2
  rw [if_pos rfl] at he
  cases hk : numK 9 v with
  | false => rw [hk] at he; simp at he
  | true =>
    rw [hk, if_pos rfl] at c2
    rw [hk, if_neg (by decide)] at he
    generalize nv v = N at *
    have ht1 : decide ((N : Int) < 0) = false := by simp
    by_cases h4 : N > 4096
    · rw [if_pos h4] at he; cases he
    · rw [if_neg h4] at he
      have ht : decide ((N : Int) > 4096) = false := by simp; omega
      by_cases h5 : N = r.length
      · have ht2 : ((N : Int) != (r.length : Int)) = false := by simp; omega
        clear h he
        refine Wp.go (mx := true) (fun _ => mixed) [(1, {cs := [(2, pc c1)]}), (6, {cs := [(1, pc c2)]})] 100 [false, false, false, false] [(!true) = false, decide ((N : Int) < 0) = false, decide ((N : Int) > 4096) = false, ((N : Int) != (r.length : Int)) = false] (by kernel_rfl) (by kernel_rfl) (by kernel_rfl) ⟨rfl, ht1, ht, ht2⟩ ?_
        refine Wp.loopK (by kernel_rfl) (fun (x : Nat × Nat × List FT) => ⟨[(1, TV.v (V1.c (Cell.str r))), (2, TV.v (V1.c (Cell.ptr 0 (0 : Nat)))), (4, TV.v (V1.c (Cell.ptr 16 (0 : Nat)))), (9, TV.v (V1.c (Cell.row 2 464 0 x.2.1))), (10, TV.v (V1.c (Cell.int .i64 (x.1 : Int))))], [(0, Blk.box 85 [Cell.str [], encH l, Cell.str []]), (16, Blk.box 85 [Cell.str [], Cell.nilsl, Cell.str []]), (464, .row 40 2 x.2.1 (rowF encF .nil x.2.2))], 480⟩) (fun x => x.1 ≤ l.length ∧ x.2.1 = x.2.2.length ∧ x.2.1 ≤ x.1 ∧ x.2.2 = (l.take x.1).filter notCl) (fun x => l.length - x.1) (0, 0, []) (Ent.trans (Ent.empT (t := 9) (sz := 2) (e := 40) (f := (rowF encF .nil [])) (by decide) (by kernel_rfl) rfl) (Ent.of [] (by kernel_rfl) (by kernel_rfl) (by kernel_rfl) trivial)) ⟨Nat.zero_le _, rfl, Nat.le_refl _, rfl⟩ ?_
        rintro ⟨k, n, H⟩ L ⟨hk, hnH, hnk, hH⟩ again
        simp only at hk hnH hnk hH
        rcases Nat.lt_or_ge k l.length with hlt | hge
        · have hst := filt_step l k hlt
          cases hcl : (l.getD k .nil).name == clN with
          | true =>
            rw [hcl, if_pos rfl, ← hH] at hst
            have hb : (!((l.getD k .nil).name == clN)) = false := by rw [hcl]; rfl
            have hst := hst.symm
            clear hH hcl
            refine Wp.go (mx := true) (fun _ => mixed) [] 100 [true, false] [decide ((↑k : Int) < (↑l.length : Int)) = true, (0 : Int) ≤ (↑k : Int) ∧ (↑k : Int) < (↑l.length : Int), (!(l.getD k FT.nil).name == [(99 : UInt8), 111, 110, 116, 101, 110, 116, 45, 108, 101, 110, 103, 116, 104]) = false, inR IntKind.i64 ((↑k : Int) + (1 : Int))] (by kernel_rfl) (by kernel_rfl) (by kernel_rfl) ⟨(by simp; omega), (by omega), (by assumption), inR64 (by omega) (by omega)⟩ ?_
            exact Wp.lpK (by kernel_rfl) (again _ (k + 1, n, H) ⟨(by assumption), ⟨(by assumption), ⟨(by simp; omega), (by assumption)⟩⟩⟩ (by omega) (Ent.of [] (by kernel_rfl) (by kernel_rfl) (by kernel_rfl) trivial))
          | false =>
            rw [hcl, if_neg (by decide), ← hH] at hst
            have hb : (!((l.getD k .nil).name == clN)) = true := by rw [hcl]; rfl
            have hst := hst.symm
            have e3 : BlkEqv (.row 40 2 (n + 1) (catF n (rowF encF .nil H) (fun i j => nthD (encF (l.getD k .nil)) ((0 + i) * 2 + j)))) (.row 40 2 (n + 1) (rowF encF .nil (H ++ [l.getD k .nil]))) := enc_app H _ hnH
            have q2 : n + 1 = (H ++ [l.getD k .nil]).length := by simp [hnH]
            clear hH hcl
            refine Wp.go (mx := true) (fun _ => mixed) [(18, {bs := [(7, Blk.row 40 2 (n + 1) (rowF encF .nil (H ++ [l.getD k .nil])))]})] 100 [true, true] [decide ((↑k : Int) < (↑l.length : Int)) = true, (0 : Int) ≤ (↑k : Int) ∧ (↑k : Int) < (↑l.length : Int), (!(l.getD k FT.nil).name == [(99 : UInt8), 111, 110, 116, 101, 110, 116, 45, 108, 101, 110, 103, 116, 104]) = true, (0 : Int) ≤ (↑k : Int) ∧ (↑k : Int) < (↑l.length : Int), (n + (1 : Nat)) * (32 : Nat) ≤ (140737488355328 : Nat), BlkEqv (Blk.row 40 (2 : Nat) (n + (1 : Nat)) (catF n (fun (i j : Nat) => nthD [Cell.str (H.getD i FT.nil).name, Cell.str (H.getD i FT.nil).value] j) fun (i j : Nat) => nthD [nthD [Cell.str (l.getD k FT.nil).name, Cell.str (l.getD k FT.nil).value] (0 : Nat), nthD [Cell.str (l.getD k FT.nil).name, Cell.str (l.getD k FT.nil).value] ((0 : Nat) + (1 : Nat))] (((0 : Nat) + i) * (2 : Nat) + j))) (Blk.row 40 (2 : Nat) (n + (1 : Nat)) (rowF encF FT.nil (H ++ [l.getD k FT.nil]))), n ≤ n, (0 : Nat) + (1 : Nat) ≤ (1 : Nat), inR IntKind.i64 ((↑k : Int) + (1 : Int))] (by kernel_rfl) (by kernel_rfl) (by kernel_rfl) ⟨(by simp; omega), (by omega), (by assumption), (by omega), (by omega), (by assumption), (by omega), (by omega), inR64 (by omega) (by omega)⟩ ?_
            exact Wp.lpK (by kernel_rfl) (again _ (k + 1, n + 1, H ++ [l.getD k .nil]) ⟨(by assumption), ⟨(by assumption), ⟨(by simp; omega), (by assumption)⟩⟩⟩ (by omega) (Ent.of [(464, 784)] (by kernel_rfl) (by kernel_rfl) (by kernel_rfl) trivial))
        · rw [List.take_of_length_le hge] at hH
          rw [← hH]
          clear hH again
          refine Wp.ent' (by kernel_rfl) (Ent.pubT (e := 40) (sz := 2) (id := 464) (t := 9) (off := 0) (m := n) (n := n) (f := (rowF encF .nil H)) (m' := H.length) (f' := (fun i j => nthD (encF (H.getD i .nil)) j)) (by kernel_rfl) (by kernel_rfl) (by omega) hnH (fun i _ j _ => by rw [Nat.zero_add]; rfl) rfl) ?_
          refine Wp.go (mx := true) (fun _ => mixed) [] 100 [false] [decide ((↑k : Int) < (↑l.length : Int)) = false] (by kernel_rfl) (by kernel_rfl) (by kernel_rfl) (show decide ((↑k : Int) < (↑l.length : Int)) = false from (by simp; omega)) ?_
          refine Wp.ret' (by kernel_rfl) ?_
          exact FinQ.pure (rs' := [V1.agg [Cell.str [], Cell.sl (2 : Nat) H.length fun (i j : Nat) => nthD (encF (H.getD i FT.nil)) j, Cell.str r], V1.c (Cell.int .i64 (0 : Int))]) (by kernel_rfl) rfl (by kernel_rfl)
      · rw [if_neg h5] at he; cases he
end Go.Proofs.Tw
end
