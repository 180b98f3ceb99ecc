import Derived.Test.YtmacpjddafcjcaaDoorText
set_option linter.all false
open Go Go.Sv
namespace Go.Proofs.Tw
attribute [local irreducible] Wp FinQ resV Ent Pur Go.Sv.Fn Sat0
set_option maxRecDepth 100000
variable {G : Nat → Option (List Cell)}

/-! values of JSON -/
inductive JV
  | mk (kind : Int) (b : Bool) (n : Int) (s : List UInt8) (names : List (List UInt8)) (kids : List JV)
def JV.kind : JV → Int | .mk k _ _ _ _ _ => k
def JV.b : JV → Bool | .mk _ b _ _ _ _ => b
def JV.n : JV → Int | .mk _ _ n _ _ _ => n
def JV.s : JV → List UInt8 | .mk _ _ _ s _ _ => s
def JV.names : JV → List (List UInt8) | .mk _ _ _ _ ns _ => ns
def JV.kids : JV → List JV | .mk _ _ _ _ _ ks => ks
def JV.nil : JV := .mk 0 false 0 [] [] []
def encS (l : List (List UInt8)) : Cell := .sl 1 l.length (fun i j => nthD [.str (l.getD i [])] j)
mutual
def cellsJ : JV → List Cell
  | .mk k b n s ns ks => [.int .i64 k, .bool b, .int .i64 n, .str s, encS ns, .sl 6 ks.length (fun i j => nthD (cellsL ks i) j)]
def cellsL : List JV → Nat → List Cell
  | [], _ => []
  | x :: _, 0 => cellsJ x
  | _ :: r, i + 1 => cellsL r i
end
def kidC (ks : List JV) (i j : Nat) : Cell := nthD (cellsL ks i) j
def encJ (v : JV) : List Cell := [.int .i64 v.kind, .bool v.b, .int .i64 v.n, .str v.s, encS v.names, .sl 6 v.kids.length (kidC v.kids)]
theorem cellsJ_eq (v : JV) : cellsJ v = encJ v := by cases v; rw [cellsJ]; rfl
theorem cellsL_eq : ∀ (ks : List JV) (i : Nat), i < ks.length → cellsL ks i = encJ (ks.getD i .nil)
  | [], i, h => by simp at h
  | x :: r, 0, h => by rw [cellsL, cellsJ_eq]; rfl
  | x :: r, i + 1, h => by rw [cellsL, cellsL_eq r i (by simpa using h)]; rfl
theorem kid_eq {ks : List JV} {i : Nat} (hi : i < ks.length) : [kidC ks i 0, kidC ks i 1, kidC ks i 2, kidC ks i 3, kidC ks i 4, kidC ks i 5] = encJ (ks.getD i .nil) := by
  simp only [kidC, cellsL_eq ks i hi]; rfl

/-- That the cells of an element of a row of values are a value's. -/
theorem kid_den {ks : List JV} {i : Nat} (hi : i < ks.length) : EqvD (.agg [kidC ks i 0, kidC ks i 1, kidC ks i 2, kidC ks i 3, kidC ks i 4, kidC ks i 5]) (.agg (encJ (ks.getD i .nil))) := by
  rw [kid_eq hi]; exact fun _ _ _ h => h

/-! names -/
def okAt (l : List (List UInt8)) (i : Nat) : Bool := !((l.take i).contains (l.getD i [])) && validT (l.getD i [])
def namesOk (l : List (List UInt8)) : Bool := (List.range l.length).all (okAt l)
def seenM (l : List (List UInt8)) (k : Nat) : List (List UInt8 × V1) := (l.take k).map fun s => (s, .c (.bool true))
theorem seen_get (l : List (List UInt8)) (k : Nat) (s : List UInt8) : mget (seenM l k) s (.c (.bool false)) = .c (.bool ((l.take k).contains s)) := by
  unfold seenM
  induction l.take k with
  | nil => rfl
  | cons x r ih =>
    simp only [List.map_cons, mget, List.contains_cons]
    cases hb : s == x with
    | true => simp
    | false => simpa using ih
theorem seen_set (l : List (List UInt8)) (k : Nat) (hk : k < l.length) (h : (l.take k).contains (l.getD k []) = false) : mset (seenM l k) (l.getD k []) (.c (.bool true)) = seenM l (k + 1) := by
  have e : l.take (k + 1) = l.take k ++ [l.getD k []] := by
    rw [List.take_succ]; simp [List.getD, hk]
  unfold seenM
  rw [e, List.map_append]
  revert h
  generalize l.take k = m
  induction m with
  | nil => intro _; rfl
  | cons x r ih =>
    intro h
    simp only [List.contains_cons, Bool.or_eq_false_iff] at h
    simp only [List.map_cons, mset, h.1, List.cons_append, Bool.false_eq_true, if_false, ih h.2]
theorem all_range_false {n : Nat} {p : Nat → Bool} {k : Nat} (hk : k < n) (h : p k = false) : (List.range n).all p = false := by
  rw [List.all_eq_false]; exact ⟨k, by simpa using hk, by simp [h]⟩
theorem all_range_true {n : Nat} {p : Nat → Bool} (h : ∀ i, i < n → p i = true) : (List.range n).all p = true := by
  rw [List.all_eq_true]; exact fun x hx => h x (by simpa using hx)

def namedInv (v : JV) (k : Nat) : St := ⟨[(1, .v (.c (.ptr 0 0))), (3, .v (.c (.map 1))), (8, .v (.c (encS v.names))), (9, .v (.c (.int .i64 (v.names.length : Int)))), (10, .v (.c (.int .i64 (k : Int))))], [(0, .box 38 (encJ v)), (1, .ob (.ms (seenM v.names k)))], 32⟩
theorem named_ok (v : JV) (hl : v.names.length < 4611686018427387904) : Pur Tryd.prog G 49 [.agg (encJ v)] [.c (.bool (namesOk v.names && (v.names.length : Int) == (v.kids.length : Int)))] := by
  refine Pur.of Tryd.func49 (by kernel_rfl) (by kernel_rfl) (by kernel_rfl) ?_
  refine Wp.go (mx := true) (fun _ => mixed) [] 100 [] [] (by kernel_rfl) (by kernel_rfl) (by kernel_rfl) trivial ?_
  refine Wp.loopK (by kernel_rfl) (namedInv v) (fun k => k ≤ v.names.length ∧ ∀ i, i < k → okAt v.names i = true) (fun k => v.names.length - k) 0 (Ent.of [(0, 0), (1, 32)] (by kernel_rfl) (by kernel_rfl) (by kernel_rfl) trivial) ⟨Nat.zero_le _, fun i hi => absurd hi (Nat.not_lt_zero i)⟩ ?_
  rintro k L ⟨hk, hall⟩ again
  refine Wp.go (mx := true) (fun _ => mixed) [] 100 [] [] (by kernel_rfl) (by kernel_rfl) (by kernel_rfl) trivial ?_
  refine Wp.cond' (by kernel_rfl) (decide ((k : Int) < (v.names.length : Int))) (by kernel_rfl) (fun h => ?_) (fun h => ?_)
  · have hk' : k < v.names.length := by simpa using h
    have hin : 0 ≤ (k : Int) ∧ (k : Int) < (v.names.length : Int) := by omega
    have hg := seen_get v.names k (v.names.getD k [])
    refine Wp.go (mx := true) (fun _ => mixed) [(5, {fm := [(2, .c (.bool ((v.names.take k).contains (v.names.getD k []))))], cs := [(5, pc (valid_ok (v.names.getD k [])))]})] 100 [] [0 ≤ (k : Int) ∧ (k : Int) < (v.names.length : Int), EqvI (mget (seenM v.names k) (v.names.getD k []) (.c (.bool false))) (.c (.bool ((v.names.take k).contains (v.names.getD k [])))), EqvD (mget (seenM v.names k) (v.names.getD k []) (.c (.bool false))) (.c (.bool ((v.names.take k).contains (v.names.getD k []))))] (by kernel_rfl) (by kernel_rfl) (by kernel_rfl) ⟨hin, by rw [hg]; exact fun _ h => h, by rw [hg]; exact fun _ _ _ h => h⟩ ?_
    refine Wp.cond' (by kernel_rfl) (cond ((v.names.take k).contains (v.names.getD k [])) true (!validT (v.names.getD k []))) (by kernel_rfl) (fun h => ?_) (fun h => ?_)
    · refine Wp.go (mx := true) (fun _ => mixed) [] 100 [] [] (by kernel_rfl) (by kernel_rfl) (by kernel_rfl) trivial ?_
      have hn : okAt v.names k = false := by
        unfold okAt
        cases h1 : (v.names.take k).contains (v.names.getD k []) <;> cases h2 : validT (v.names.getD k []) <;> simp_all
      refine Wp.ret' (by kernel_rfl) ?_
      exact FinQ.pure (rs' := [.c (.bool false)]) (by kernel_rfl) (by rw [show namesOk v.names = false from all_range_false hk' hn]; rfl) (by kernel_rfl)
    · have hc : (v.names.take k).contains (v.names.getD k []) = false ∧ validT (v.names.getD k []) = true := by
        cases h1 : (v.names.take k).contains (v.names.getD k []) <;> cases h2 : validT (v.names.getD k []) <;> simp_all
      refine Wp.go (mx := true) (fun _ => mixed) [(7, {bs := [(2, .ob (.ms (seenM v.names (k + 1))))]})] 100 [] [BlkEqv (.ob (.ms (mset (seenM v.names k) (v.names.getD k []) (.c (.bool true))))) (.ob (.ms (seenM v.names (k + 1)))), inR .i64 ((k : Int) + 1)] (by kernel_rfl) (by kernel_rfl) (by kernel_rfl) ⟨by rw [seen_set v.names k hk' hc.1]; exact BlkEqv.refl _, inR64 (by omega) (by omega)⟩ ?_
      have hall' : ∀ i, i < k + 1 → okAt v.names i = true := fun i hi => by
        rcases Nat.lt_or_ge i k with hlt | hge
        · exact hall i hlt
        · have : i = k := by omega
          subst this
          unfold okAt; rw [hc.1, hc.2]; rfl
      exact Wp.lpK (by kernel_rfl) (again _ (k + 1) ⟨hk', hall'⟩ (by show v.names.length - (k + 1) < v.names.length - k; omega) (Ent.of [(0, 0), (1, 1)] (by kernel_rfl) (by kernel_rfl) (by kernel_rfl) trivial))
  · refine Wp.go (mx := true) (fun _ => mixed) [] 100 [] [] (by kernel_rfl) (by kernel_rfl) (by kernel_rfl) trivial ?_
    have hn : namesOk v.names = true := all_range_true fun i hi => hall i (by simp at h; omega)
    refine Wp.ret' (by kernel_rfl) ?_
    exact FinQ.pure (rs' := [.c (.bool ((v.names.length : Int) == (v.kids.length : Int)))]) (by kernel_rfl) (by rw [hn]; rfl) (by kernel_rfl)
end Go.Proofs.Tw
