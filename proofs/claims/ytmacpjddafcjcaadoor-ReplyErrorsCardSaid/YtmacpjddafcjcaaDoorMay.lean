import Derived.Test.YtmacpjddafcjcaaDoorVal
set_option linter.all false
open Go Go.Sv
namespace Go.Proofs.Tw
attribute [local irreducible] Wp FinQ resV Ent Pur Go.Sv.Fn Sat0
set_option maxRecDepth 100000
variable {G : Nat → Option (List Cell)}

/-! a value alone -/
def a1 (v : JV) : Bool := cond (decide (v.kind < 1)) true (decide (v.kind > 6))
def a2 (v : JV) : Bool := cond v.b (v.kind != 2) false
def a3 (v : JV) : Bool := cond (v.n != 0) (v.kind != 3) false
def a4 (v : JV) : Bool := cond (decide (v.n < -9007199254740992)) true (decide (v.n > 9007199254740992))
def a5 (v : JV) : Bool := cond (!(v.s == [])) (v.kind != 4) false
def listed (v : JV) : Bool := cond (v.kind == 5) true (v.kind == 6)
def a6 (v : JV) : Bool := cond (decide ((v.kids.length : Int) > 0)) (!(listed v)) false
def a7 (v : JV) : Bool := cond (decide ((v.names.length : Int) > 0)) (v.kind != 6) false
def namedJ (v : JV) : Bool := namesOk v.names && (v.names.length : Int) == (v.kids.length : Int)
def a8 (v : JV) : Bool := cond (validT v.s) (cond (v.kind != 6) true (namedJ v)) false
def aloneJ (v : JV) : Bool := !(a1 v || a2 v || a3 v || a4 v || a5 v || a6 v || a7 v) && a8 v

theorem alone_ok (v : JV) (hl : v.names.length < 4611686018427387904) : Pur Tryd.prog G 37 [.agg (encJ v)] [.c (.bool (aloneJ v))] := by
  refine Pur.of Tryd.func37 (by kernel_rfl) (by kernel_rfl) (by kernel_rfl) ?_
  refine Wp.go (mx := true) (fun _ => mixed) [] 100 [] [] (by kernel_rfl) (by kernel_rfl) (by kernel_rfl) trivial ?_
  refine Wp.cond' (by kernel_rfl) (a1 v) (by kernel_rfl) (fun h => ?_) (fun h => ?_)
  · refine Wp.go (mx := true) (fun _ => mixed) [] 100 [true] [a1 v = true] (by kernel_rfl) (by kernel_rfl) (by kernel_rfl) h ?_
    refine Wp.ret' (by kernel_rfl) ?_
    exact FinQ.pure (rs' := [.c (.bool false)]) (by kernel_rfl) (by simp [aloneJ, h]) (by kernel_rfl)
  have h1 := h
  refine Wp.go (mx := true) (fun _ => mixed) [] 100 [] [] (by kernel_rfl) (by kernel_rfl) (by kernel_rfl) trivial ?_
  refine Wp.cond' (by kernel_rfl) (a2 v) (by kernel_rfl) (fun h => ?_) (fun h => ?_)
  · refine Wp.go (mx := true) (fun _ => mixed) [] 100 [true] [a2 v = true] (by kernel_rfl) (by kernel_rfl) (by kernel_rfl) h ?_
    refine Wp.ret' (by kernel_rfl) ?_
    exact FinQ.pure (rs' := [.c (.bool false)]) (by kernel_rfl) (by simp [aloneJ, h]) (by kernel_rfl)
  have h2 := h
  refine Wp.go (mx := true) (fun _ => mixed) [] 100 [] [] (by kernel_rfl) (by kernel_rfl) (by kernel_rfl) trivial ?_
  refine Wp.cond' (by kernel_rfl) (a3 v) (by kernel_rfl) (fun h => ?_) (fun h => ?_)
  · refine Wp.go (mx := true) (fun _ => mixed) [] 100 [true] [a3 v = true] (by kernel_rfl) (by kernel_rfl) (by kernel_rfl) h ?_
    refine Wp.ret' (by kernel_rfl) ?_
    exact FinQ.pure (rs' := [.c (.bool false)]) (by kernel_rfl) (by simp [aloneJ, h]) (by kernel_rfl)
  have h3 := h
  refine Wp.go (mx := true) (fun _ => mixed) [] 100 [] [] (by kernel_rfl) (by kernel_rfl) (by kernel_rfl) trivial ?_
  refine Wp.cond' (by kernel_rfl) (a4 v) (by kernel_rfl) (fun h => ?_) (fun h => ?_)
  · refine Wp.go (mx := true) (fun _ => mixed) [] 100 [true] [a4 v = true] (by kernel_rfl) (by kernel_rfl) (by kernel_rfl) h ?_
    refine Wp.ret' (by kernel_rfl) ?_
    exact FinQ.pure (rs' := [.c (.bool false)]) (by kernel_rfl) (by simp [aloneJ, h]) (by kernel_rfl)
  have h4 := h
  refine Wp.go (mx := true) (fun _ => mixed) [] 100 [] [] (by kernel_rfl) (by kernel_rfl) (by kernel_rfl) trivial ?_
  refine Wp.cond' (by kernel_rfl) (a5 v) (by kernel_rfl) (fun h => ?_) (fun h => ?_)
  · refine Wp.go (mx := true) (fun _ => mixed) [] 100 [true] [a5 v = true] (by kernel_rfl) (by kernel_rfl) (by kernel_rfl) h ?_
    refine Wp.ret' (by kernel_rfl) ?_
    exact FinQ.pure (rs' := [.c (.bool false)]) (by kernel_rfl) (by simp [aloneJ, h]) (by kernel_rfl)
  have h5 := h
  refine Wp.go (mx := true) (fun _ => mixed) [] 100 [] [] (by kernel_rfl) (by kernel_rfl) (by kernel_rfl) trivial ?_
  refine Wp.cond' (by kernel_rfl) (a6 v) (by kernel_rfl) (fun h => ?_) (fun h => ?_)
  · refine Wp.go (mx := true) (fun _ => mixed) [] 100 [true] [a6 v = true] (by kernel_rfl) (by kernel_rfl) (by kernel_rfl) h ?_
    refine Wp.ret' (by kernel_rfl) ?_
    exact FinQ.pure (rs' := [.c (.bool false)]) (by kernel_rfl) (by simp [aloneJ, h]) (by kernel_rfl)
  have h6 := h
  refine Wp.go (mx := true) (fun _ => mixed) [] 100 [] [] (by kernel_rfl) (by kernel_rfl) (by kernel_rfl) trivial ?_
  refine Wp.cond' (by kernel_rfl) (a7 v) (by kernel_rfl) (fun h => ?_) (fun h => ?_)
  · refine Wp.go (mx := true) (fun _ => mixed) [] 100 [] [] (by kernel_rfl) (by kernel_rfl) (by kernel_rfl) trivial ?_
    refine Wp.ret' (by kernel_rfl) ?_
    exact FinQ.pure (rs' := [.c (.bool false)]) (by kernel_rfl) (by simp [aloneJ, h]) (by kernel_rfl)
  have h7 := h
  refine Wp.go (mx := true) (fun _ => mixed) [(10, {cs := [(2, pc (valid_ok v.s)), (9, pc (named_ok v hl))]})] 100 [] [] (by kernel_rfl) (by kernel_rfl) (by kernel_rfl) trivial ?_
  refine Wp.ret' (by kernel_rfl) ?_
  exact FinQ.pure (rs' := [.c (.bool (a8 v))]) (by kernel_rfl) (by simp [aloneJ, h1, h2, h3, h4, h5, h6, h7]) (by kernel_rfl)

/-! a value, and what it holds -/
mutual
def mayJ : JV → Int → Bool
  | .mk k b n s ns ks, d => aloneJ (.mk k b n s ns ks) && (cond (k != 5) (k != 6) false || cond (decide (d < 8)) (!(anyNot ks (d + 1))) false)
def anyNot : List JV → Int → Bool
  | [], _ => false
  | x :: r, d => !(mayJ x d) || anyNot r d
end
theorem mayJ_eq (v : JV) (d : Int) : mayJ v d = (aloneJ v && (cond (v.kind != 5) (v.kind != 6) false || cond (decide (d < 8)) (!(anyNot v.kids (d + 1))) false)) := by cases v; rw [mayJ]; rfl
theorem anyNot_eq (ks : List JV) (d : Int) : anyNot ks d = ks.any (fun x => !(mayJ x d)) := by
  induction ks with
  | nil => rw [anyNot]; rfl
  | cons x r ih => rw [anyNot, ih]; rfl

/-- Where the first one is. -/
def ixF {α : Type} (p : α → Bool) (l : List α) : Int := match l.findIdx? p with
  | some i => (i : Int)
  | none => -1
theorem ixF_some {α : Type} {p : α → Bool} {l : List α} {k : Nat} {d : α} (hk : k < l.length) (hall : ∀ i, i < k → p (l.getD i d) = false) (h : p (l.getD k d) = true) : ixF p l = (k : Int) := by
  have : l.findIdx? p = some k := by
    rw [List.findIdx?_eq_some_iff_getElem]
    refine ⟨hk, by simpa [List.getD, hk] using h, fun j hj => ?_⟩
    have := hall j hj
    simpa [List.getD, show j < l.length from by omega] using this
  unfold ixF; rw [this]
theorem ixF_none {α : Type} {p : α → Bool} {l : List α} {d : α} (hall : ∀ i, i < l.length → p (l.getD i d) = false) : ixF p l = -1 := by
  have : l.findIdx? p = none := by
    rw [List.findIdx?_eq_none_iff]
    intro x hx
    obtain ⟨i, hi, rfl⟩ := List.getElem_of_mem hx
    have := hall i hi
    simpa [List.getD, hi] using this
  unfold ixF; rw [this]
theorem ixF_any {α : Type} (p : α → Bool) (l : List α) : decide (ixF p l ≥ 0) = l.any p := by
  unfold ixF
  cases h : l.findIdx? p with
  | none =>
    rw [List.findIdx?_eq_none_iff] at h
    have : l.any p = false := by rw [List.any_eq_false]; intro x hx; simp [h x hx]
    rw [this]; rfl
  | some i =>
    rw [List.findIdx?_eq_some_iff_getElem] at h
    obtain ⟨hi, h1, _⟩ := h
    have : l.any p = true := by rw [List.any_eq_true]; exact ⟨l[i], List.getElem_mem hi, h1⟩
    rw [this]; simp

theorem up1 {k : Nat} {q : Nat → Prop} (hall : ∀ i, i < k → q i) (h : q k) : ∀ i, i < k + 1 → q i := fun i hi => by
  rcases Nat.lt_or_ge i k with hlt | hge
  · exact hall i hlt
  · have : i = k := by omega
    subst this; exact h
def bxI (d : Int) : Blk := .box 3 [.int .i64 d]
def idxInv (ks : List JV) (d : Int) (k : Nat) : St := ⟨[(0, .v (.c (.sl 6 ks.length (kidC ks)))), (1, .v (.c (clo1 39 (.ptr 0 0)))), (7, .v (.c (.int .i64 (ks.length : Int)))), (8, .v (.c (.int .i64 (k : Int))))], [(0, bxI d)], 1⟩
theorem idx_ok (ks : List JV) (d : Int) (p : JV → Bool) (hl : ks.length < 4611686018427387904)
    (hp : ∀ x ∈ ks, FnB Tryd.prog G 39 [bxI d] [.agg (encJ x), .c (.ptr 0 0)] [.c (.bool (p x))] [(0, bxI d)]) :
    FnB Tryd.prog G 50 [bxI d] [.c (.sl 6 ks.length (kidC ks)), .c (clo1 39 (.ptr 0 0))] [.c (.int .i64 (ixF p ks))] [(0, bxI d)] := by
  refine Fn.of' Tryd.func50 (by kernel_rfl) (by kernel_rfl) (by kernel_rfl) (by kernel_rfl) trivial ?_
  refine Wp.go (mx := true) (fun _ => mixed) [] 100 [] [] (by kernel_rfl) (by kernel_rfl) (by kernel_rfl) trivial ?_
  refine Wp.loopK (by kernel_rfl) (idxInv ks d) (fun k => k ≤ ks.length ∧ ∀ i, i < k → p (ks.getD i .nil) = false) (fun k => ks.length - k) 0 (Ent.of [] (by kernel_rfl) (by kernel_rfl) (by kernel_rfl) trivial) ⟨Nat.zero_le _, fun i hi => absurd hi (Nat.not_lt_zero i)⟩ ?_
  rintro k L ⟨hk, hall⟩ again
  refine Wp.go (mx := true) (fun _ => mixed) [] 100 [] [] (by kernel_rfl) (by kernel_rfl) (by kernel_rfl) trivial ?_
  refine Wp.cond' (by kernel_rfl) (decide ((k : Int) < (ks.length : Int))) (by kernel_rfl) (fun h => ?_) (fun h => ?_)
  · have hk' : k < ks.length := by simpa using h
    have hin : 0 ≤ (k : Int) ∧ (k : Int) < (ks.length : Int) := by omega
    have hm : ks.getD k .nil ∈ ks := by simp [List.getD, hk']
    refine Wp.go (mx := true) (fun _ => mixed) [(4, {fm := [(4, .agg (encJ (ks.getD k .nil)))], cs := [(5, cb [0] (hp _ hm))]})] 100 [] [0 ≤ (k : Int) ∧ (k : Int) < (ks.length : Int), EqvD (.agg [kidC ks k 0, kidC ks k 1, kidC ks k 2, kidC ks k 3, kidC ks k 4, kidC ks k 5]) (.agg (encJ (ks.getD k .nil)))] (by kernel_rfl) (by kernel_rfl) (by kernel_rfl) ⟨hin, kid_den hk'⟩ ?_
    refine Wp.cond' (by kernel_rfl) (p (ks.getD k .nil)) (by kernel_rfl) (fun h => ?_) (fun h => ?_)
    · rw [ixF_some hk' hall h]
      refine Wp.go (mx := true) (fun _ => mixed) [] 100 [] [] (by kernel_rfl) (by kernel_rfl) (by kernel_rfl) trivial ?_
      refine Wp.ret' (by kernel_rfl) ?_
      exact FinQ.blk [] (by kernel_rfl) (by kernel_rfl) (by kernel_rfl) (by kernel_rfl) (by kernel_rfl) trivial
    · refine Wp.go (mx := true) (fun _ => mixed) [] 100 [] [inR .i64 ((k : Int) + 1)] (by kernel_rfl) (by kernel_rfl) (by kernel_rfl) (inR64 (by omega) (by omega)) ?_
      exact Wp.lpK (by kernel_rfl) (again _ (k + 1) ⟨hk', up1 hall h⟩ (by show ks.length - (k + 1) < ks.length - k; omega) (Ent.of [] (by kernel_rfl) (by kernel_rfl) (by kernel_rfl) trivial))
  · rw [ixF_none (d := .nil) (fun i hi => hall i (by simp at h; omega))]
    refine Wp.go (mx := true) (fun _ => mixed) [] 100 [] [] (by kernel_rfl) (by kernel_rfl) (by kernel_rfl) trivial ?_
    refine Wp.ret' (by kernel_rfl) ?_
    exact FinQ.blk [] (by kernel_rfl) (by kernel_rfl) (by kernel_rfl) (by kernel_rfl) (by kernel_rfl) trivial

theorem cont_ok (ks : List JV) (d : Int) (p : JV → Bool) (hl : ks.length < 4611686018427387904)
    (hp : ∀ x ∈ ks, FnB Tryd.prog G 39 [bxI d] [.agg (encJ x), .c (.ptr 0 0)] [.c (.bool (p x))] [(0, bxI d)]) :
    FnB Tryd.prog G 38 [bxI d] [.c (.sl 6 ks.length (kidC ks)), .c (clo1 39 (.ptr 0 0))] [.c (.bool (ks.any p))] [(0, bxI d)] := by
  refine Fn.of' Tryd.func38 (by kernel_rfl) (by kernel_rfl) (by kernel_rfl) (by kernel_rfl) trivial ?_
  rw [← ixF_any]
  refine Wp.go (mx := true) (fun _ => mixed) [(1, {cs := [(2, cb [0] (idx_ok ks d p hl hp))]})] 100 [] [] (by kernel_rfl) (by kernel_rfl) (by kernel_rfl) trivial ?_
  refine Wp.ret' (by kernel_rfl) ?_
  exact FinQ.blk [] (by kernel_rfl) (by kernel_rfl) (by kernel_rfl) (by kernel_rfl) (by kernel_rfl) trivial

theorem may1_ok (v : JV) (d : Int) (h0 : -4611686018427387904 < d) (h1 : d < 4611686018427387904) (r : Bool) (h : Pur Tryd.prog G 29 [.agg (encJ v), .c (.int .i64 (d + 1))] [.c (.bool r)]) :
    FnB Tryd.prog G 39 [bxI d] [.agg (encJ v), .c (.ptr 0 0)] [.c (.bool (!r))] [(0, bxI d)] := by
  refine Fn.of' Tryd.func39 (by kernel_rfl) (by kernel_rfl) (by kernel_rfl) (by kernel_rfl) trivial ?_
  refine Wp.go (mx := true) (fun _ => mixed) [(1, {cs := [(3, pc h)]})] 100 [] [inR .i64 (d + 1)] (by kernel_rfl) (by kernel_rfl) (by kernel_rfl) (inR64 (by omega) (by omega)) ?_
  refine Wp.ret' (by kernel_rfl) ?_
  exact FinQ.blk [] (by kernel_rfl) (by kernel_rfl) (by kernel_rfl) (by kernel_rfl) (by kernel_rfl) trivial

/-- All rows are short enough. -/
inductive Small : JV → Prop
  | mk {v : JV} (h1 : v.names.length < 4611686018427387904) (h2 : v.kids.length < 4611686018427387904) (h3 : ∀ x ∈ v.kids, Small x) : Small v

theorem may_ok {v : JV} (hs : Small v) : ∀ d : Int, -1000 < d → d < 1000 → Pur Tryd.prog G 29 [.agg (encJ v), .c (.int .i64 d)] [.c (.bool (mayJ v d))] := by
  induction hs with
  | mk hn hk hkids ih =>
  rename_i v
  intro d h0 h1
  refine Pur.of Tryd.func29 (by kernel_rfl) (by kernel_rfl) (by kernel_rfl) ?_
  refine Wp.go (mx := true) (fun _ => mixed) [(1, {cs := [(1, pc (alone_ok v hn))]})] 100 [] [] (by kernel_rfl) (by kernel_rfl) (by kernel_rfl) trivial ?_
  rw [mayJ_eq]
  refine Wp.cond' (by kernel_rfl) (!(aloneJ v)) (by kernel_rfl) (fun h => ?_) (fun h => ?_)
  · refine Wp.go (mx := true) (fun _ => mixed) [] 100 [] [] (by kernel_rfl) (by kernel_rfl) (by kernel_rfl) trivial ?_
    refine Wp.ret' (by kernel_rfl) ?_
    exact FinQ.pure (rs' := [.c (.bool false)]) (by kernel_rfl) (by simp at h; simp [h]) (by kernel_rfl)
  have ha : aloneJ v = true := by simpa using h
  refine Wp.go (mx := true) (fun _ => mixed) [] 100 [] [] (by kernel_rfl) (by kernel_rfl) (by kernel_rfl) trivial ?_
  refine Wp.cond' (by kernel_rfl) (cond (v.kind != 5) (v.kind != 6) false) (by kernel_rfl) (fun h => ?_) (fun h => ?_)
  · refine Wp.go (mx := true) (fun _ => mixed) [] 100 [] [] (by kernel_rfl) (by kernel_rfl) (by kernel_rfl) trivial ?_
    refine Wp.ret' (by kernel_rfl) ?_
    exact FinQ.pure (rs' := [.c (.bool true)]) (by kernel_rfl) (by rw [ha, h]; rfl) (by kernel_rfl)
  have hm := h
  by_cases hd : d < 8
  · have hp : ∀ x ∈ v.kids, FnB Tryd.prog G 39 [bxI d] [.agg (encJ x), .c (.ptr 0 0)] [.c (.bool (!(mayJ x (d + 1))))] [(0, bxI d)] := fun x hx => may1_ok x d (by omega) (by omega) _ (ih x hx (d + 1) (by omega) (by omega))
    have hdt : decide (d < 8) = true := by simpa using hd
    refine Wp.go (mx := true) (fun _ => mixed) [(5, {grd := [(3, true), (4, true), (5, true), (6, true), (7, true)], fm := [(5, .c (clo1 39 (.ptr 16 0)))], cs := [(6, cb [16] (cont_ok v.kids d _ hk hp))]})] 100 [] [decide (d < 8) = true, decide (d < 8) = true, decide (d < 8) = true, EqvI (.c (cloRaw 39 [.c (.ptr 16 0)])) (.c (clo1 39 (.ptr 16 0))), EqvD (.c (cloRaw 39 [.c (.ptr 16 0)])) (.c (clo1 39 (.ptr 16 0))), decide (d < 8) = true, decide (d < 8) = true] (by kernel_rfl) (by kernel_rfl) (by kernel_rfl) ⟨hdt, hdt, hdt, clo1_I _ _, clo1_D _ _, hdt, hdt⟩ ?_
    refine Wp.ret' (by kernel_rfl) ?_
    exact FinQ.pure (rs' := [.c (.bool (cond (decide (d < 8)) (!(v.kids.any fun x => !(mayJ x (d + 1)))) false))]) (by kernel_rfl) (by rw [ha, hm, anyNot_eq]; rfl) (by kernel_rfl)
  · have hdf : decide (d < 8) = false := by simpa using hd
    refine Wp.go (mx := true) (fun _ => mixed) [(5, {grd := [(3, false), (4, false), (5, false), (6, false), (7, false), (8, false)]})] 100 [] [decide (d < 8) = false, decide (d < 8) = false, decide (d < 8) = false, decide (d < 8) = false, decide (d < 8) = false, decide (d < 8) = false] (by kernel_rfl) (by kernel_rfl) (by kernel_rfl) ⟨hdf, hdf, hdf, hdf, hdf, hdf⟩ ?_
    refine Wp.ret' (by kernel_rfl) ?_
    exact FinQ.pure (rs' := [.c (.bool false)]) (by kernel_rfl) (by rw [ha, hm, hdf]; rfl) (by kernel_rfl)
theorem May_ok {v : JV} (hs : Small v) : Pur Tryd.prog G 25 [.agg (encJ v)] [.c (.bool (mayJ v 0))] := by
  refine Pur.of Tryd.func25 (by kernel_rfl) (by kernel_rfl) (by kernel_rfl) ?_
  refine Wp.go (mx := true) (fun _ => mixed) [(1, {cs := [(1, pc (may_ok hs 0 (by omega) (by omega)))]})] 100 [] [] (by kernel_rfl) (by kernel_rfl) (by kernel_rfl) trivial ?_
  refine Wp.ret' (by kernel_rfl) ?_
  exact FinQ.pure (rs' := [.c (.bool (mayJ v 0))]) (by kernel_rfl) rfl (by kernel_rfl)
end Go.Proofs.Tw
