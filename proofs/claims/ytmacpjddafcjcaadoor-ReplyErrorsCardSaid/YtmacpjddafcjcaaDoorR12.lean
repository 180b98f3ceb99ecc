import Derived.Test.YtmacpjddafcjcaaDoorRef6
set_option linter.all false
open Go Go.Sv
namespace Go.Proofs.Tw
attribute [local irreducible] Wp FinQ resV Ent Pur Go.Sv.Fn Sat0
set_option maxRecDepth 100000
variable {G : Nat → Option (List Cell)}

/-! the document's own -/
def twiceT (l : List (List UInt8)) (i : Nat) : Bool := (l.take i).contains (l.getD i [])
theorem twice_true {l : List (List UInt8)} {k i : Nat} (hk : k < i) (hi : i < l.length) (h : l.getD k [] == l.getD i []) : twiceT l i = true := by
  unfold twiceT
  rw [List.contains_iff_mem]
  have : l.getD k [] = l.getD i [] := by simpa using h
  rw [← this]
  rw [List.mem_take_iff_getElem]
  exact ⟨k, by omega, by simp [List.getD, show k < l.length from by omega]⟩
theorem twice_false {l : List (List UInt8)} {i : Nat} (hi : i < l.length) (h : ∀ k, k < i → (l.getD k [] == l.getD i []) = false) : twiceT l i = false := by
  unfold twiceT
  cases hc : (l.take i).contains (l.getD i []) with
  | false => rfl
  | true =>
    rw [List.contains_iff_mem, List.mem_take_iff_getElem] at hc
    obtain ⟨k, hk, e⟩ := hc
    have := h k (by omega)
    rw [beq_eq_false_iff_ne] at this
    exact absurd (by simpa [List.getD, show k < l.length from by omega] using e) this
theorem twice_ok (l : List (List UInt8)) (i : Nat) (hi : i < l.length) (hl : l.length < 4611686018427387904) : Pur Tryd.prog G 47 [.c (encS l), .c (.int .i64 (i : Int))] [.c (.bool (twiceT l i))] := by
  refine Pur.of Tryd.func47 (by kernel_rfl) (by kernel_rfl) (by kernel_rfl) ?_
  refine Wp.go (mx := true) (fun _ => mixed) [] 100 [] [] (by kernel_rfl) (by kernel_rfl) (by kernel_rfl) trivial ?_
  refine Wp.loopK (by kernel_rfl) (fun k : Nat => ⟨[(0, .v (.c (encS l))), (1, .v (.c (.int .i64 (i : Int)))), (5, .v (.c (.int .i64 (k : Int))))], [], 0⟩) (fun k => k ≤ i ∧ ∀ j, j < k → (l.getD j [] == l.getD i []) = false) (fun k => i - k) 0 (Ent.of [] (by kernel_rfl) (by kernel_rfl) (by kernel_rfl) trivial) ⟨Nat.zero_le _, fun j hj => absurd hj (Nat.not_lt_zero j)⟩ ?_
  rintro k L ⟨hk, hall⟩ again
  refine Wp.go (mx := true) (fun _ => mixed) [] 100 [] [] (by kernel_rfl) (by kernel_rfl) (by kernel_rfl) trivial ?_
  refine Wp.cond' (by kernel_rfl) (decide ((k : Int) < (i : Int))) (by kernel_rfl) (fun h => ?_) (fun h => ?_)
  · have hk' : k < i := by simpa using h
    refine Wp.go (mx := true) (fun _ => mixed) [] 100 [] [0 ≤ (k : Int) ∧ (k : Int) < (l.length : Int), 0 ≤ (i : Int) ∧ (i : Int) < (l.length : Int)] (by kernel_rfl) (by kernel_rfl) (by kernel_rfl) ⟨by omega, by show 0 ≤ (i : Int) ∧ (i : Int) < (l.length : Int); omega⟩ ?_
    refine Wp.cond' (by kernel_rfl) (l.getD k [] == l.getD i []) (by kernel_rfl) (fun h => ?_) (fun h => ?_)
    · refine Wp.go (mx := true) (fun _ => mixed) [] 100 [] [] (by kernel_rfl) (by kernel_rfl) (by kernel_rfl) trivial ?_
      refine Wp.ret' (by kernel_rfl) ?_
      exact FinQ.pure (rs' := [.c (.bool true)]) (by kernel_rfl) (by rw [twice_true hk' hi h]) (by kernel_rfl)
    · refine Wp.go (mx := true) (fun _ => mixed) [] 100 [] [inR .i64 ((k : Int) + 1)] (by kernel_rfl) (by kernel_rfl) (by kernel_rfl) (inR64 (by omega) (by omega)) ?_
      exact Wp.lpK (by kernel_rfl) (again _ (k + 1) ⟨hk', up1 hall h⟩ (by show i - (k + 1) < i - k; omega) (Ent.of [] (by kernel_rfl) (by kernel_rfl) (by kernel_rfl) trivial))
  · refine Wp.go (mx := true) (fun _ => mixed) [] 100 [] [] (by kernel_rfl) (by kernel_rfl) (by kernel_rfl) trivial ?_
    refine Wp.ret' (by kernel_rfl) ?_
    exact FinQ.pure (rs' := [.c (.bool false)]) (by kernel_rfl) (by rw [twice_false hi (fun j hj => hall j (by simp at h; omega))]) (by kernel_rfl)

def x2 (v : JV) : Bool := cond (a1 v) true (cond (v.kind != 2) v.b false)
def x3 (v : JV) : Bool := cond (x2 v) true (cond (v.kind != 3) (v.n != 0) false)
def x4 (v : JV) : Bool := cond (x3 v) true (decide (v.n < -9007199254740992))
def x5 (v : JV) : Bool := cond (x4 v) true (decide (v.n > 9007199254740992))
def x6 (v : JV) : Bool := cond (x5 v) true (cond (v.kind != 4) (!(v.s == [])) false)
def x7 (v : JV) : Bool := cond (x6 v) true (!(validT v.s))
def x8 (v : JV) : Bool := cond (x7 v) true (cond (!(listed v)) (decide ((v.kids.length : Int) > 0)) false)
def x9 (v : JV) (d : Int) : Bool := cond (x8 v) true (cond (listed v) (decide (d ≥ 8)) false)
def y1 (v : JV) : Bool := cond (v.kind != 6) (decide ((v.names.length : Int) > 0)) false
def y2 (v : JV) : Bool := cond (y1 v) true (cond (v.kind == 6) ((v.names.length : Int) != (v.kids.length : Int)) false)

def aA (v : JV) : Bool := a1 v || a2 v || a3 v || a4 v || a5 v
theorem x6_b : ∀ A1 k2 b k3 n0 l g k4 s0 : Bool, cond (cond (cond (cond (cond A1 true (cond (!k2) b false)) true (cond (!k3) (!n0) false)) true l) true g) true (cond (!k4) (!s0) false) = (A1 || cond b (!k2) false || cond (!n0) (!k3) false || cond l true g || cond (!s0) (!k4) false) := by decide
theorem x6_eq (v : JV) : x6 v = aA v := x6_b _ _ _ _ _ _ _ _ _
theorem x9_b : ∀ A va li K ge : Bool, cond (cond (cond A true (!va)) true (cond (!li) K false)) true (cond li ge false) = (A || !va || (!li && K) || (li && ge)) := by decide
def kK (v : JV) : Bool := decide ((v.kids.length : Int) > 0)
def kN (v : JV) : Bool := decide ((v.names.length : Int) > 0)
def k6 (v : JV) : Bool := v.kind == 6
def qE (v : JV) : Bool := (v.names.length : Int) == (v.kids.length : Int)
theorem x9_eq (v : JV) (d : Int) : x9 v d = (aA v || !(validT v.s) || (!(listed v) && kK v) || (listed v && decide (d ≥ 8))) := by
  rw [← x6_eq]; exact x9_b _ _ _ _ _
theorem y2_b : ∀ N k q : Bool, cond (cond (!k) N false) true (cond k (!q) false) = ((N && !k) || (k && !q)) := by decide
theorem y2_eq (v : JV) : y2 v = ((kN v && !(k6 v)) || (k6 v && !(qE v))) := y2_b _ _ _
theorem may_b : ∀ A1 A2 A3 A4 A5 K li N k va nok q k5 x : Bool, li = cond k5 true k → (!(A1 || A2 || A3 || A4 || A5 || cond K (!li) false || cond N (!k) false) && cond va (cond (!k) true (nok && q)) false && (cond (!k5) (!k) false || x)) = (!((A1 || A2 || A3 || A4 || A5) || (K && !li) || (N && !k)) && (va && (!k || (nok && q))) && (!li || x)) := by decide
theorem may_A (v : JV) (d : Int) : mayJ v d = (!(aA v || (kK v && !(listed v)) || (kN v && !(k6 v))) && (validT v.s && (!(k6 v) || (namesOk v.names && qE v))) && (!(listed v) || cond (decide (d < 8)) (!(anyNot v.kids (d + 1))) false)) := by
  rw [mayJ_eq]; exact may_b _ _ _ _ _ _ _ _ _ _ _ _ (v.kind == 5) _ rfl
theorem ge_lt (d : Int) : decide (d ≥ 8) = !(decide (d < 8)) := by
  by_cases h : d < 8
  · have : ¬ d ≥ 8 := by omega
    simp [h, this]
  · have : d ≥ 8 := by omega
    simp [h, this]
theorem e1_b : ∀ A va li K N k nk d8 an : Bool, (A || !va || (!li && K) || (li && !d8)) = true → (!(A || (K && !li) || (N && !k)) && (va && (!k || nk)) && (!li || cond d8 an false)) = false := by decide
theorem e2_b : ∀ A va li K N k nok q x : Bool, ((N && !k) || (k && !q)) = true → (!(A || (K && !li) || (N && !k)) && (va && (!k || (nok && q))) && (!li || x)) = false := by decide
theorem e3_b : ∀ A va li K k q x : Bool, ((true && !k) || (k && !q)) = false → (!(A || (K && !li) || (true && !k)) && (va && (!k || (false && q))) && (!li || x)) = false := by decide
theorem e4_b : ∀ A va li N k nk d8 : Bool, (A || !va || (!li && true) || (li && !d8)) = false → (!(A || (true && !li) || (N && !k)) && (va && (!k || nk)) && (!li || cond d8 (!true) false)) = false := by decide
theorem e5_b : ∀ A va li K N k q d8 : Bool, (A || !va || (!li && K) || (li && !d8)) = false → ((N && !k) || (k && !q)) = false → (!(A || (K && !li) || (N && !k)) && (va && (!k || (true && q))) && (!li || cond d8 (!false) false)) = true := by decide

theorem may_e1 {v : JV} {d : Int} (h : x9 v d = true) : mayJ v d = false := by
  rw [x9_eq, ge_lt] at h; rw [may_A]; exact e1_b _ _ _ _ _ _ _ _ _ h
theorem may_e2 {v : JV} (d : Int) (h : y2 v = true) : mayJ v d = false := by
  rw [y2_eq] at h; rw [may_A]; exact e2_b _ _ _ _ _ _ _ _ _ h
theorem may_e3 {v : JV} (d : Int) (h : y2 v = false) (hn : 0 < v.names.length) (ho : namesOk v.names = false) : mayJ v d = false := by
  rw [y2_eq] at h; rw [may_A]
  have : kN v = true := by unfold kN; simp only [decide_eq_true_eq]; omega
  rw [this] at h ⊢; rw [ho]; exact e3_b _ _ _ _ _ _ _ h
theorem may_e4 {v : JV} {d : Int} (h : x9 v d = false) (hn : 0 < v.kids.length) (ho : anyNot v.kids (d + 1) = true) : mayJ v d = false := by
  rw [x9_eq, ge_lt] at h; rw [may_A]
  have : kK v = true := by unfold kK; simp only [decide_eq_true_eq]; omega
  rw [this] at h ⊢; rw [ho]; exact e4_b _ _ _ _ _ _ _ h
theorem may_e5 {v : JV} {d : Int} (h : x9 v d = false) (h2 : y2 v = false) (hn : namesOk v.names = true) (ho : anyNot v.kids (d + 1) = false) : mayJ v d = true := by
  rw [x9_eq, ge_lt] at h; rw [y2_eq] at h2; rw [may_A, hn, ho]
  exact e5_b _ _ _ _ _ _ _ _ h h2

theorem d8_b : ∀ A va li d8 : Bool, (A || !va || (!li && true) || (li && !d8)) = false → d8 = true := by decide
theorem may_d8 {v : JV} {d : Int} (h : x9 v d = false) (hn : 0 < v.kids.length) : d < 8 := by
  rw [x9_eq, ge_lt] at h
  have : kK v = true := by unfold kK; simp only [decide_eq_true_eq]; omega
  rw [this] at h
  simpa using d8_b _ _ _ _ h
/-- All texts are short enough, too. -/
inductive Short : JV → Prop
  | mk {v : JV} (h0 : v.s.length < 4611686018427387904) (h1 : v.names.length < 4611686018427387904) (hs : ∀ x ∈ v.names, x.length < 4611686018427387904) (h2 : v.kids.length < 4611686018427387904) (h3 : ∀ x ∈ v.kids, Short x) : Short v
theorem may12_ok {v : JV} (hs : Short v) : ∀ d : Int, -1000 < d → d < 9 → Pur Tryd.prog G 34 [.agg (encJ v), .c (.int .i64 d)] [.c (.bool (mayJ v d))] := by
  induction hs with
  | mk h0 h1 hns h2 h3 ih =>
  rename_i v
  intro d hd0 hd1
  refine Pur.of Tryd.func34 (by kernel_rfl) (by kernel_rfl) (by kernel_rfl) ?_
  refine Wp.go (mx := true) (fun _ => mixed) [(2, {cs := [(50, pc (valid6_ok v.s h0))]})] 100 [] [] (by kernel_rfl) (by kernel_rfl) (by kernel_rfl) trivial ?_
  refine Wp.cond' (by kernel_rfl) (x9 v d) (by kernel_rfl) (fun h => ?_) (fun h => ?_)
  · refine Wp.go (mx := true) (fun _ => mixed) [] 100 [] [] (by kernel_rfl) (by kernel_rfl) (by kernel_rfl) trivial ?_
    refine Wp.ret' (by kernel_rfl) ?_
    exact FinQ.pure (rs' := [.c (.bool false)]) (by kernel_rfl) (by rw [may_e1 h]) (by kernel_rfl)
  have hx := h
  refine Wp.go (mx := true) (fun _ => mixed) [] 100 [] [] (by kernel_rfl) (by kernel_rfl) (by kernel_rfl) trivial ?_
  refine Wp.cond' (by kernel_rfl) (y2 v) (by kernel_rfl) (fun h => ?_) (fun h => ?_)
  · refine Wp.go (mx := true) (fun _ => mixed) [] 100 [] [] (by kernel_rfl) (by kernel_rfl) (by kernel_rfl) trivial ?_
    refine Wp.ret' (by kernel_rfl) ?_
    exact FinQ.pure (rs' := [.c (.bool false)]) (by kernel_rfl) (by rw [may_e2 d h]) (by kernel_rfl)
  have hy := h
  refine Wp.go (mx := true) (fun _ => mixed) [] 100 [] [] (by kernel_rfl) (by kernel_rfl) (by kernel_rfl) trivial ?_
  refine Wp.loopK (by kernel_rfl) (fun k : Nat => ⟨[(1, .v (.c (.int .i64 d))), (2, .v (.c (.ptr 0 0))), (5, .v (.c (.bool (listed v)))), (6, .v (.c (.int .i64 (k : Int))))], [(0, .box 38 (encJ v))], 16⟩) (fun k => k ≤ v.names.length ∧ ∀ i, i < k → okAt v.names i = true) (fun k => v.names.length - k) 0 (Ent.of [] (by kernel_rfl) (by kernel_rfl) (by kernel_rfl) trivial) ⟨Nat.zero_le _, fun i hi => absurd hi (Nat.not_lt_zero i)⟩ ?_
  rintro k L ⟨hk, hall⟩ again
  refine Wp.go (mx := true) (fun _ => mixed) [] 100 [] [] (by kernel_rfl) (by kernel_rfl) (by kernel_rfl) trivial ?_
  refine Wp.cond' (by kernel_rfl) (decide ((k : Int) < (v.names.length : Int))) (by kernel_rfl) (fun h => ?_) (fun h => ?_)
  · have hk' : k < v.names.length := by simpa using h
    have hm : v.names.getD k [] ∈ v.names := by simp [List.getD, hk']
    refine Wp.go (mx := true) (fun _ => mixed) [(9, {cs := [(5, pc (valid6_ok (v.names.getD k []) (hns _ hm))), (11, pc (twice_ok v.names k hk' h1))]})] 100 [] [0 ≤ (k : Int) ∧ (k : Int) < (v.names.length : Int)] (by kernel_rfl) (by kernel_rfl) (by kernel_rfl) (by show 0 ≤ (k : Int) ∧ (k : Int) < (v.names.length : Int); omega) ?_
    refine Wp.cond' (by kernel_rfl) (cond (!(validT (v.names.getD k []))) true (twiceT v.names k)) (by kernel_rfl) (fun h => ?_) (fun h => ?_)
    · have ho : okAt v.names k = false := by
        unfold okAt
        have : cond (!(validT (v.names.getD k []))) true (twiceT v.names k) = true := h
        unfold twiceT at this
        cases e1 : validT (v.names.getD k []) <;> rw [e1] at this <;> simp at this ⊢
        exact this
      refine Wp.go (mx := true) (fun _ => mixed) [] 100 [] [] (by kernel_rfl) (by kernel_rfl) (by kernel_rfl) trivial ?_
      refine Wp.ret' (by kernel_rfl) ?_
      exact FinQ.pure (rs' := [.c (.bool false)]) (by kernel_rfl) (by rw [may_e3 d hy (by omega) (all_range_false hk' ho)]) (by kernel_rfl)
    · have ho : okAt v.names k = true := by
        unfold okAt
        have : cond (!(validT (v.names.getD k []))) true (twiceT v.names k) = false := h
        unfold twiceT at this
        cases e1 : validT (v.names.getD k []) <;> rw [e1] at this <;> simp at this ⊢
        exact this
      refine Wp.go (mx := true) (fun _ => mixed) [] 100 [] [inR .i64 ((k : Int) + 1)] (by kernel_rfl) (by kernel_rfl) (by kernel_rfl) (inR64 (by omega) (by omega)) ?_
      exact Wp.lpK (by kernel_rfl) (again _ (k + 1) ⟨hk', up1 hall ho⟩ (by show v.names.length - (k + 1) < v.names.length - k; omega) (Ent.of [] (by kernel_rfl) (by kernel_rfl) (by kernel_rfl) trivial))
  have hno : namesOk v.names = true := all_range_true fun i hi => hall i (by simp at h; omega)
  refine Wp.go (mx := true) (fun _ => mixed) [] 100 [] [] (by kernel_rfl) (by kernel_rfl) (by kernel_rfl) trivial ?_
  refine Wp.loopK (by kernel_rfl) (fun k : Nat => ⟨[(1, .v (.c (.int .i64 d))), (2, .v (.c (.ptr 0 0))), (7, .v (.c (.int .i64 (k : Int))))], [(0, .box 38 (encJ v))], 16⟩) (fun k => k ≤ v.kids.length ∧ ∀ i, i < k → mayJ (v.kids.getD i .nil) (d + 1) = true) (fun k => v.kids.length - k) 0 (Ent.of [] (by kernel_rfl) (by kernel_rfl) (by kernel_rfl) trivial) ⟨Nat.zero_le _, fun i hi => absurd hi (Nat.not_lt_zero i)⟩ ?_
  rintro k L ⟨hk, hall⟩ again
  refine Wp.go (mx := true) (fun _ => mixed) [] 100 [] [] (by kernel_rfl) (by kernel_rfl) (by kernel_rfl) trivial ?_
  refine Wp.cond' (by kernel_rfl) (decide ((k : Int) < (v.kids.length : Int))) (by kernel_rfl) (fun h => ?_) (fun h => ?_)
  · have hk' : k < v.kids.length := by simpa using h
    have hm : v.kids.getD k .nil ∈ v.kids := by simp [List.getD, hk']
    have hin : 0 ≤ (k : Int) ∧ (k : Int) < (v.kids.length : Int) := by omega
    have h8 := may_d8 hx (show 0 < v.kids.length by omega)
    refine Wp.go (mx := true) (fun _ => mixed) [(14, {fm := [(4, .agg (encJ (v.kids.getD k .nil)))], cs := [(7, pc (ih _ hm (d + 1) (by omega) (by omega)))]})] 100 [] [0 ≤ (k : Int) ∧ (k : Int) < (v.kids.length : Int), EqvD (.agg [kidC v.kids k 0, kidC v.kids k 1, kidC v.kids k 2, kidC v.kids k 3, kidC v.kids k 4, kidC v.kids k 5]) (.agg (encJ (v.kids.getD k .nil))), inR .i64 (d + 1)] (by kernel_rfl) (by kernel_rfl) (by kernel_rfl) ⟨hin, kid_den hk', inR64 (by omega) (by omega)⟩ ?_
    refine Wp.cond' (by kernel_rfl) (!(mayJ (v.kids.getD k .nil) (d + 1))) (by kernel_rfl) (fun h => ?_) (fun h => ?_)
    · have ha : anyNot v.kids (d + 1) = true := by rw [anyNot_eq, List.any_eq_true]; exact ⟨_, hm, h⟩
      refine Wp.go (mx := true) (fun _ => mixed) [] 100 [] [] (by kernel_rfl) (by kernel_rfl) (by kernel_rfl) trivial ?_
      refine Wp.ret' (by kernel_rfl) ?_
      exact FinQ.pure (rs' := [.c (.bool false)]) (by kernel_rfl) (by rw [may_e4 hx (by omega) ha]) (by kernel_rfl)
    · have ho : mayJ (v.kids.getD k .nil) (d + 1) = true := by simpa using h
      refine Wp.go (mx := true) (fun _ => mixed) [] 100 [] [inR .i64 ((k : Int) + 1)] (by kernel_rfl) (by kernel_rfl) (by kernel_rfl) (inR64 (by omega) (by omega)) ?_
      exact Wp.lpK (by kernel_rfl) (again _ (k + 1) ⟨hk', up1 hall ho⟩ (by show v.kids.length - (k + 1) < v.kids.length - k; omega) (Ent.of [] (by kernel_rfl) (by kernel_rfl) (by kernel_rfl) trivial))
  · have ha : anyNot v.kids (d + 1) = false := by
      rw [anyNot_eq, List.any_eq_false]
      intro x hxm
      obtain ⟨i, hi, rfl⟩ := List.getElem_of_mem hxm
      have := hall i (by simp at h; omega)
      simpa [List.getD, hi] using this
    refine Wp.go (mx := true) (fun _ => mixed) [] 100 [] [] (by kernel_rfl) (by kernel_rfl) (by kernel_rfl) trivial ?_
    refine Wp.ret' (by kernel_rfl) ?_
    exact FinQ.pure (rs' := [.c (.bool true)]) (by kernel_rfl) (by rw [may_e5 hx hy hno ha]) (by kernel_rfl)
theorem May12_ok {v : JV} (hs : Short v) : Pur Tryd.prog G 27 [.agg (encJ v)] [.c (.bool (mayJ v 0))] := by
  refine Pur.of Tryd.func27 (by kernel_rfl) (by kernel_rfl) (by kernel_rfl) ?_
  refine Wp.go (mx := true) (fun _ => mixed) [(1, {cs := [(1, pc (may12_ok hs 0 (by omega) (by omega)))]})] 100 [] [] (by kernel_rfl) (by kernel_rfl) (by kernel_rfl) trivial ?_
  refine Wp.ret' (by kernel_rfl) ?_
  exact FinQ.pure (rs' := [.c (.bool (mayJ v 0))]) (by kernel_rfl) rfl (by kernel_rfl)
end Go.Proofs.Tw
