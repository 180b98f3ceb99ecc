import Derived.Test.YtmacpjddafcjcaaDoorP12
set_option linter.all false
open Go Go.Sv
namespace Go.Proofs.Tw
attribute [local irreducible] Wp FinQ resV Ent Pur Go.Sv.Fn Sat0
set_option maxRecDepth 100000
variable {G : Nat → Option (List Cell)}

/-! fields, responses -/
def CEq (x y : Cell) : Prop := ∀ D ρ u, Den D ρ x u → Den D ρ y u
theorem CEq.rfl' {x : Cell} : CEq x x := fun _ _ _ h => h
theorem CEq.nil {sz : Nat} {f : Nat → Nat → Cell} : CEq .nilsl (.sl sz 0 f) := by
  intro D ρ u h
  have h : u = .slice none 0 0 := h
  subst h
  exact ⟨none, 0, rfl, Nat.le_refl _, by unfold maxLen; omega, .inl ⟨rfl, rfl⟩⟩
inductive CEqs : List Cell → List Cell → Prop
  | nil : CEqs [] []
  | cons {x y : Cell} {l l' : List Cell} (h : CEq x y) (t : CEqs l l') : CEqs (x :: l) (y :: l')
theorem CEqs.len {l l' : List Cell} (h : CEqs l l') : l.length = l'.length := by
  induction h with
  | nil => rfl
  | cons _ _ ih => simp [ih]
theorem agg_eqv {l l' : List Cell} (h : CEqs l l') : EqvD (.agg l) (.agg l') := by
  intro D ρ u hd
  obtain ⟨us, e, hs, hx⟩ := hd
  have hl := h.len
  refine ⟨us, e, by rw [hs, hl], fun j y hj => ?_⟩
  have : ∀ (l l' : List Cell), CEqs l l' → ∀ (j : Nat) (y : Cell), l'[j]? = some y → ∃ x, l[j]? = some x ∧ CEq x y := by
    intro l l' h
    induction h with
    | nil => intro j y hj; simp at hj
    | cons h1 h2 ih =>
      intro j y hj
      cases j with
      | zero => simp at hj; subst hj; exact ⟨_, by simp, h1⟩
      | succ j => simp at hj; obtain ⟨x, hx, hc⟩ := ih j y hj; exact ⟨x, by simpa using hx, hc⟩
  obtain ⟨x, hxl, hc⟩ := this l l' h j y hj
  obtain ⟨v, hv, hd⟩ := hx j x hxl
  exact ⟨v, hv, hc _ _ _ hd⟩

theorem EqvI.flatA {v : V1} {l : List Cell} (h : flats l = true) : EqvI v (.agg l) := fun S _ => flats_inS h S
structure FT where (name value : List UInt8)
def FT.nil : FT := ⟨[], []⟩
def encF (x : FT) : List Cell := [.str x.name, .str x.value]
def encH (l : List FT) : Cell := .sl 2 l.length (fun i j => nthD (encF (l.getD i .nil)) j)
structure RT where
  (status : Int) (head : List FT) (body : List UInt8)
def encT (r : RT) : List Cell := [.int .i64 r.status, encH r.head, .str r.body]

def eqF (x y : FT) : Bool := (x.name == y.name) && ((x.value == y.value) && true)
def sameF (a b : List FT) : Bool := !((a.length : Int) != (b.length : Int)) && (List.range a.length).all (fun i => eqF (a.getD i .nil) (b.getD i .nil))
def same_inv (a b : List FT) (k : Nat) : St := ⟨[(0, .v (.c (encH a))), (1, .v (.c (encH b))), (5, .v (.c (.int .i64 (k : Int))))], [], 0⟩
theorem same_ok (a b : List FT) (ha : a.length < 4611686018427387904) : Pur Tryd.prog G 16 [.c (encH a), .c (encH b)] [.c (.bool (sameF a b))] := by
  refine Pur.of Tryd.func16 (by kernel_rfl) (by kernel_rfl) (by kernel_rfl) ?_
  refine Wp.go (mx := true) (fun _ => mixed) [] 100 [] [] (by kernel_rfl) (by kernel_rfl) (by kernel_rfl) trivial ?_
  refine Wp.cond' (by kernel_rfl) ((a.length : Int) != (b.length : Int)) (by kernel_rfl) (fun h => ?_) (fun h => ?_)
  · refine Wp.go (mx := true) (fun _ => mixed) [] 100 [] [] (by kernel_rfl) (by kernel_rfl) (by kernel_rfl) trivial ?_
    refine Wp.ret' (by kernel_rfl) ?_
    exact FinQ.pure (rs' := [.c (.bool false)]) (by kernel_rfl) (by rw [sameF, h]; rfl) (by kernel_rfl)
  · refine Wp.go (mx := true) (fun _ => mixed) [] 100 [] [] (by kernel_rfl) (by kernel_rfl) (by kernel_rfl) trivial ?_
    have hl : a.length = b.length := by simp at h; omega
    refine Wp.loopK (by kernel_rfl) (same_inv a b) (fun k => k ≤ a.length ∧ ∀ i, i < k → eqF (a.getD i .nil) (b.getD i .nil) = true) (fun k => a.length - k) 0 (Ent.of [] (by kernel_rfl) (by kernel_rfl) (by kernel_rfl) trivial) ⟨Nat.zero_le _, fun i hi => absurd hi (Nat.not_lt_zero i)⟩ ?_
    rintro k L ⟨hk, hall⟩ again
    have hne := h
    refine Wp.go (mx := true) (fun _ => mixed) [] 100 [] [] (by kernel_rfl) (by kernel_rfl) (by kernel_rfl) trivial ?_
    refine Wp.cond' (by kernel_rfl) (decide ((k : Int) < (a.length : Int))) (by kernel_rfl) (fun h => ?_) (fun h => ?_)
    · have hk' : k < a.length := by simpa using h
      refine Wp.go (mx := true) (fun _ => mixed) [] 100 [] [0 ≤ (k : Int) ∧ (k : Int) < (a.length : Int), 0 ≤ (k : Int) ∧ (k : Int) < (b.length : Int)] (by kernel_rfl) (by kernel_rfl) (by kernel_rfl) ⟨by omega, by show 0 ≤ (k : Int) ∧ (k : Int) < (b.length : Int); omega⟩ ?_
      refine Wp.cond' (by kernel_rfl) (!(eqF (a.getD k .nil) (b.getD k .nil))) (by kernel_rfl) (fun h => ?_) (fun h => ?_)
      · refine Wp.go (mx := true) (fun _ => mixed) [] 100 [] [] (by kernel_rfl) (by kernel_rfl) (by kernel_rfl) trivial ?_
        refine Wp.ret' (by kernel_rfl) ?_
        exact FinQ.pure (rs' := [.c (.bool false)]) (by kernel_rfl) (by rw [sameF, all_range_false hk' (by simpa using h)]; simp) (by kernel_rfl)
      · refine Wp.go (mx := true) (fun _ => mixed) [] 100 [] [inR .i64 ((k : Int) + 1)] (by kernel_rfl) (by kernel_rfl) (by kernel_rfl) (inR64 (by omega) (by omega)) ?_
        exact Wp.lpK (by kernel_rfl) (again _ (k + 1) ⟨hk', up1 hall (by simpa using h)⟩ (by show a.length - (k + 1) < a.length - k; omega) (Ent.of [] (by kernel_rfl) (by kernel_rfl) (by kernel_rfl) trivial))
    · refine Wp.go (mx := true) (fun _ => mixed) [] 100 [] [] (by kernel_rfl) (by kernel_rfl) (by kernel_rfl) trivial ?_
      refine Wp.ret' (by kernel_rfl) ?_
      exact FinQ.pure (rs' := [.c (.bool true)]) (by kernel_rfl) (by rw [sameF, hne, all_range_true (fun i hi => hall i (by simp at h; omega))]; rfl) (by kernel_rfl)

def sameT (a b : RT) : Bool := cond (cond (a.status == b.status) (sameF a.head b.head) false) (a.body == b.body) false
theorem sameT_ok (a b : RT) (ha : a.head.length < 4611686018427387904) : Pur Tryd.prog G 10 [.agg (encT a), .agg (encT b)] [.c (.bool (sameT a b))] := by
  refine Pur.of Tryd.func10 (by kernel_rfl) (by kernel_rfl) (by kernel_rfl) ?_
  refine Wp.go (mx := true) (fun _ => mixed) [(1, {cs := [(10, pc (same_ok a.head b.head ha))]})] 100 [] [] (by kernel_rfl) (by kernel_rfl) (by kernel_rfl) trivial ?_
  refine Wp.ret' (by kernel_rfl) ?_
  exact FinQ.pure (rs' := [.c (.bool (sameT a b))]) (by kernel_rfl) rfl (by kernel_rfl)
theorem sameF_refl (a : List FT) : sameF a a = true := by
  unfold sameF
  rw [all_range_true (fun i _ => by unfold eqF; simp)]
  simp
theorem sameT_refl (a : RT) : sameT a a = true := by unfold sameT; rw [sameF_refl]; simp

/-! what an error is called -/
def rowsL : List (Int × List UInt8 × Int) := [
  (9, [105, 110, 118, 97, 108, 105, 100, 95, 99, 108, 105, 101, 110, 116], 401), (11, [117, 110, 115, 117, 112, 112, 111, 114, 116, 101, 100, 95, 114, 101, 115, 112, 111, 110, 115, 101, 95, 116, 121, 112, 101], 400), (12, [105, 110, 118, 97, 108, 105, 100, 95, 115, 99, 111, 112, 101], 400), (13, [105, 110, 118, 97, 108, 105, 100, 95, 103, 114, 97, 110, 116], 400), (19, [117, 110, 115, 117, 112, 112, 111, 114, 116, 101, 100, 95, 103, 114, 97, 110, 116, 95, 116, 121, 112, 101], 400), (14, [108, 111, 103, 105, 110, 95, 114, 101, 113, 117, 105, 114, 101, 100], 401),
  (15, [97, 99, 99, 101, 115, 115, 95, 100, 101, 110, 105, 101, 100], 403), (18, [110, 111, 116, 95, 102, 111, 117, 110, 100], 404), (17, [109, 101, 116, 104, 111, 100, 95, 110, 111, 116, 95, 97, 108, 108, 111, 119, 101, 100], 405), (4, [116, 111, 111, 95, 108, 97, 114, 103, 101], 413), (16, [116, 101, 109, 112, 111, 114, 97, 114, 105, 108, 121, 95, 117, 110, 97, 118, 97, 105, 108, 97, 98, 108, 101], 503)]
def rowNil : Int × List UInt8 × Int := (0, [], 0)
def encR (r : Int × List UInt8 × Int) : List Cell := [.int .i64 r.1, .str r.2.1, .int .i64 r.2.2]
def rowsC : List Cell := rowsL.flatMap encR
def ofT (e : Int) : Int × List UInt8 × Int := match rowsL.find? (fun r => r.1 == e) with
  | some r => r
  | none => (e, [105, 110, 118, 97, 108, 105, 100, 95, 114, 101, 113, 117, 101, 115, 116], 400)

theorem row_at : ∀ k : Nat, k < 11 → [nthD rowsC (k * 3), nthD rowsC (k * 3 + 1), nthD rowsC (k * 3 + 2)] = encR (rowsL.getD k rowNil) := by
  intro k hk
  obtain rfl | rfl | rfl | rfl | rfl | rfl | rfl | rfl | rfl | rfl | rfl : k = 0 ∨ k = 1 ∨ k = 2 ∨ k = 3 ∨ k = 4 ∨ k = 5 ∨ k = 6 ∨ k = 7 ∨ k = 8 ∨ k = 9 ∨ k = 10 := by omega
  all_goals rfl
theorem of_some {e : Int} {k : Nat} (hk : k < 11) (hall : ∀ i, i < k → ((rowsL.getD i rowNil).1 == e) = false) (h : ((rowsL.getD k rowNil).1 == e) = true) : ofT e = rowsL.getD k rowNil := by
  unfold ofT
  have : rowsL.find? (fun r => r.1 == e) = some (rowsL.getD k rowNil) := by
    rw [List.find?_eq_some_iff_getElem]
    refine ⟨h, k, hk, by rw [List.getD, List.getElem?_eq_getElem (show k < rowsL.length from hk)]; rfl, fun j hj => ?_⟩
    have := hall j hj
    simpa [List.getD, show j < rowsL.length from Nat.lt_trans hj hk] using this
  rw [this]
theorem of_none {e : Int} (hall : ∀ i, i < 11 → ((rowsL.getD i rowNil).1 == e) = false) : ofT e = (e, [105, 110, 118, 97, 108, 105, 100, 95, 114, 101, 113, 117, 101, 115, 116], 400) := by
  unfold ofT
  have : rowsL.find? (fun r => r.1 == e) = none := by
    rw [List.find?_eq_none]
    intro x hx
    obtain ⟨i, hi, rfl⟩ := List.getElem_of_mem hx
    have := hall i hi
    simpa [List.getD, hi] using this
  rw [this]
/-- The seat's tables. -/
def Gd : Nat → Option (List Cell)
  | 0 => some rowsC
  | 1 => some (Lib.pow10Tab.map fun z => .int .u64 z)
  | _ => none
def ofInv (e : Int) (k : Nat) : St := ⟨[(0, .v (.c (.int .i64 e))), (2, .v (.c (.ptr 0 0))), (5, .v (.agg rowsC)), (6, .v (.c (.int .i64 (k : Int))))], [(0, .box 41 [.int .i64 0, .str [], .int .i64 0])], 16⟩
theorem of_ok (e : Int) : Pur Tryd.prog Gd 15 [.c (.int .i64 e)] [.agg (encR (ofT e))] := by
  refine Pur.of Tryd.func15 (by kernel_rfl) (by kernel_rfl) (by kernel_rfl) ?_
  refine Wp.go (mx := true) (fun _ => mixed) [] 100 [] [] (by kernel_rfl) (by kernel_rfl) (by kernel_rfl) trivial ?_
  refine Wp.loopK (by kernel_rfl) (ofInv e) (fun k => k ≤ 11 ∧ ∀ i, i < k → ((rowsL.getD i rowNil).1 == e) = false) (fun k => 11 - k) 0 (Ent.of [] (by kernel_rfl) (by kernel_rfl) (by kernel_rfl) trivial) ⟨Nat.zero_le _, fun i hi => absurd hi (Nat.not_lt_zero i)⟩ ?_
  rintro k L ⟨hk, hall⟩ again
  refine Wp.go (mx := true) (fun _ => mixed) [] 100 [] [] (by kernel_rfl) (by kernel_rfl) (by kernel_rfl) trivial ?_
  refine Wp.cond' (by kernel_rfl) (decide ((k : Int) < 11)) (by kernel_rfl) (fun h => ?_) (fun h => ?_)
  · have hk' : k < 11 := by simp at h; omega
    have hin : 0 ≤ (k : Int) ∧ (k : Int) < ((11 : Nat) : Int) := by omega
    refine Wp.go (mx := true) (fun _ => mixed) [(3, {fm := [(0, .agg (encR (rowsL.getD k rowNil)))]})] 100 [] [EqvI (.agg [nthD rowsC (k * 3), nthD rowsC (k * 3 + 1), nthD rowsC (k * 3 + 2)]) (.agg (encR (rowsL.getD k rowNil))), EqvD (.agg [nthD rowsC (k * 3), nthD rowsC (k * 3 + 1), nthD rowsC (k * 3 + 2)]) (.agg (encR (rowsL.getD k rowNil))), 0 ≤ (k : Int) ∧ (k : Int) < ((11 : Nat) : Int)] (by kernel_rfl) (by kernel_rfl) (by kernel_rfl) ⟨EqvI.flatA rfl, by rw [row_at k hk']; exact fun _ _ _ h => h, hin⟩ ?_
    refine Wp.cond' (by kernel_rfl) ((rowsL.getD k rowNil).1 == e) (by kernel_rfl) (fun h => ?_) (fun h => ?_)
    · rw [of_some hk' hall h]
      refine Wp.go (mx := true) (fun _ => mixed) [] 100 [] [] (by kernel_rfl) (by kernel_rfl) (by kernel_rfl) trivial ?_
      refine Wp.ret' (by kernel_rfl) ?_
      exact FinQ.pure (rs' := [.agg (encR (rowsL.getD k rowNil))]) (by kernel_rfl) rfl (by kernel_rfl)
    · refine Wp.go (mx := true) (fun _ => mixed) [] 100 [] [inR .i64 ((k : Int) + 1)] (by kernel_rfl) (by kernel_rfl) (by kernel_rfl) (inR64 (by omega) (by omega)) ?_
      exact Wp.lpK (by kernel_rfl) (again _ (k + 1) ⟨hk', up1 hall h⟩ (by show 11 - (k + 1) < 11 - k; omega) (Ent.of [] (by kernel_rfl) (by kernel_rfl) (by kernel_rfl) trivial))
  · rw [of_none (fun i hi => hall i (by simp at h; omega))]
    refine Wp.go (mx := true) (fun _ => mixed) [] 100 [] [] (by kernel_rfl) (by kernel_rfl) (by kernel_rfl) trivial ?_
    refine Wp.ret' (by kernel_rfl) ?_
    exact FinQ.pure (rs' := [.agg (encR (e, [105, 110, 118, 97, 108, 105, 100, 95, 114, 101, 113, 117, 101, 115, 116], 400))]) (by kernel_rfl) rfl (by kernel_rfl)

def wordT (e : Int) : List UInt8 := (ofT e).2.1
def statT (e : Int) : Int := (ofT e).2.2
theorem Word_ok (e : Int) : Pur Tryd.prog Gd 6 [.c (.int .i64 e)] [.c (.str (wordT e))] := by
  refine Pur.of Tryd.func6 (by kernel_rfl) (by kernel_rfl) (by kernel_rfl) ?_
  refine Wp.go (mx := true) (fun _ => mixed) [(1, {cs := [(1, pc (of_ok e))]})] 100 [] [] (by kernel_rfl) (by kernel_rfl) (by kernel_rfl) trivial ?_
  refine Wp.ret' (by kernel_rfl) ?_
  exact FinQ.pure (rs' := [.c (.str (wordT e))]) (by kernel_rfl) rfl (by kernel_rfl)
theorem Status_ok (e : Int) : Pur Tryd.prog Gd 8 [.c (.int .i64 e)] [.c (.int .i64 (statT e))] := by
  refine Pur.of Tryd.func8 (by kernel_rfl) (by kernel_rfl) (by kernel_rfl) ?_
  refine Wp.go (mx := true) (fun _ => mixed) [(1, {cs := [(1, pc (of_ok e))]})] 100 [] [] (by kernel_rfl) (by kernel_rfl) (by kernel_rfl) trivial ?_
  refine Wp.ret' (by kernel_rfl) ?_
  exact FinQ.pure (rs' := [.c (.int .i64 (statT e))]) (by kernel_rfl) rfl (by kernel_rfl)

theorem of_hit : ∀ k : Nat, k < 11 → ofT (rowsL.getD k rowNil).1 = rowsL.getD k rowNil := by decide
theorem of_miss {e : Int} (h : ∀ k : Nat, k < 11 → (e == (rowsL.getD k rowNil).1) = false) : ofT e = (e, [105, 110, 118, 97, 108, 105, 100, 95, 114, 101, 113, 117, 101, 115, 116], 400) := of_none fun i hi => by
  have := h i hi
  rw [beq_eq_false_iff_ne] at this ⊢
  exact fun e => this e.symm
theorem miss {e : Int} (p0 : (e == 9) = false) (p1 : (e == 11) = false) (p2 : (e == 12) = false) (p3 : (e == 13) = false) (p4 : (e == 19) = false) (p5 : (e == 14) = false) (p6 : (e == 15) = false) (p7 : (e == 18) = false) (p8 : (e == 17) = false) (p9 : (e == 4) = false) (p10 : (e == 16) = false) : ∀ k : Nat, k < 11 → (e == (rowsL.getD k rowNil).1) = false := by
  intro k hk
  obtain rfl | rfl | rfl | rfl | rfl | rfl | rfl | rfl | rfl | rfl | rfl : k = 0 ∨ k = 1 ∨ k = 2 ∨ k = 3 ∨ k = 4 ∨ k = 5 ∨ k = 6 ∨ k = 7 ∨ k = 8 ∨ k = 9 ∨ k = 10 := by omega
  · exact p0
  · exact p1
  · exact p2
  · exact p3
  · exact p4
  · exact p5
  · exact p6
  · exact p7
  · exact p8
  · exact p9
  · exact p10
theorem Word24_ok (e : Int) : Pur Tryd.prog G 7 [.c (.int .i64 e)] [.c (.str (wordT e))] := by
  refine Pur.of Tryd.func7 (by kernel_rfl) (by kernel_rfl) (by kernel_rfl) ?_
  refine Wp.go (mx := true) (fun _ => mixed) [] 100 [] [] (by kernel_rfl) (by kernel_rfl) (by kernel_rfl) trivial ?_
  refine Wp.cond' (by kernel_rfl) (e == 9) (by kernel_rfl) (fun h => ?_) (fun h => ?_)
  · obtain rfl : e = 9 := by simpa using h
    refine Wp.go (mx := true) (fun _ => mixed) [] 100 [] [] (by kernel_rfl) (by kernel_rfl) (by kernel_rfl) trivial ?_
    refine Wp.ret' (by kernel_rfl) ?_
    exact FinQ.pure (rs' := [.c (.str [105, 110, 118, 97, 108, 105, 100, 95, 99, 108, 105, 101, 110, 116])]) (by kernel_rfl) (by unfold wordT; rw [show ofT 9 = _ from of_hit 0 (by omega)]; rfl) (by kernel_rfl)
  have p0 := h
  refine Wp.go (mx := true) (fun _ => mixed) [] 100 [] [] (by kernel_rfl) (by kernel_rfl) (by kernel_rfl) trivial ?_
  refine Wp.cond' (by kernel_rfl) (e == 11) (by kernel_rfl) (fun h => ?_) (fun h => ?_)
  · obtain rfl : e = 11 := by simpa using h
    refine Wp.go (mx := true) (fun _ => mixed) [] 100 [] [] (by kernel_rfl) (by kernel_rfl) (by kernel_rfl) trivial ?_
    refine Wp.ret' (by kernel_rfl) ?_
    exact FinQ.pure (rs' := [.c (.str [117, 110, 115, 117, 112, 112, 111, 114, 116, 101, 100, 95, 114, 101, 115, 112, 111, 110, 115, 101, 95, 116, 121, 112, 101])]) (by kernel_rfl) (by unfold wordT; rw [show ofT 11 = _ from of_hit 1 (by omega)]; rfl) (by kernel_rfl)
  have p1 := h
  refine Wp.go (mx := true) (fun _ => mixed) [] 100 [] [] (by kernel_rfl) (by kernel_rfl) (by kernel_rfl) trivial ?_
  refine Wp.cond' (by kernel_rfl) (e == 12) (by kernel_rfl) (fun h => ?_) (fun h => ?_)
  · obtain rfl : e = 12 := by simpa using h
    refine Wp.go (mx := true) (fun _ => mixed) [] 100 [] [] (by kernel_rfl) (by kernel_rfl) (by kernel_rfl) trivial ?_
    refine Wp.ret' (by kernel_rfl) ?_
    exact FinQ.pure (rs' := [.c (.str [105, 110, 118, 97, 108, 105, 100, 95, 115, 99, 111, 112, 101])]) (by kernel_rfl) (by unfold wordT; rw [show ofT 12 = _ from of_hit 2 (by omega)]; rfl) (by kernel_rfl)
  have p2 := h
  refine Wp.go (mx := true) (fun _ => mixed) [] 100 [] [] (by kernel_rfl) (by kernel_rfl) (by kernel_rfl) trivial ?_
  refine Wp.cond' (by kernel_rfl) (e == 13) (by kernel_rfl) (fun h => ?_) (fun h => ?_)
  · obtain rfl : e = 13 := by simpa using h
    refine Wp.go (mx := true) (fun _ => mixed) [] 100 [] [] (by kernel_rfl) (by kernel_rfl) (by kernel_rfl) trivial ?_
    refine Wp.ret' (by kernel_rfl) ?_
    exact FinQ.pure (rs' := [.c (.str [105, 110, 118, 97, 108, 105, 100, 95, 103, 114, 97, 110, 116])]) (by kernel_rfl) (by unfold wordT; rw [show ofT 13 = _ from of_hit 3 (by omega)]; rfl) (by kernel_rfl)
  have p3 := h
  refine Wp.go (mx := true) (fun _ => mixed) [] 100 [] [] (by kernel_rfl) (by kernel_rfl) (by kernel_rfl) trivial ?_
  refine Wp.cond' (by kernel_rfl) (e == 19) (by kernel_rfl) (fun h => ?_) (fun h => ?_)
  · obtain rfl : e = 19 := by simpa using h
    refine Wp.go (mx := true) (fun _ => mixed) [] 100 [] [] (by kernel_rfl) (by kernel_rfl) (by kernel_rfl) trivial ?_
    refine Wp.ret' (by kernel_rfl) ?_
    exact FinQ.pure (rs' := [.c (.str [117, 110, 115, 117, 112, 112, 111, 114, 116, 101, 100, 95, 103, 114, 97, 110, 116, 95, 116, 121, 112, 101])]) (by kernel_rfl) (by unfold wordT; rw [show ofT 19 = _ from of_hit 4 (by omega)]; rfl) (by kernel_rfl)
  have p4 := h
  refine Wp.go (mx := true) (fun _ => mixed) [] 100 [] [] (by kernel_rfl) (by kernel_rfl) (by kernel_rfl) trivial ?_
  refine Wp.cond' (by kernel_rfl) (e == 14) (by kernel_rfl) (fun h => ?_) (fun h => ?_)
  · obtain rfl : e = 14 := by simpa using h
    refine Wp.go (mx := true) (fun _ => mixed) [] 100 [] [] (by kernel_rfl) (by kernel_rfl) (by kernel_rfl) trivial ?_
    refine Wp.ret' (by kernel_rfl) ?_
    exact FinQ.pure (rs' := [.c (.str [108, 111, 103, 105, 110, 95, 114, 101, 113, 117, 105, 114, 101, 100])]) (by kernel_rfl) (by unfold wordT; rw [show ofT 14 = _ from of_hit 5 (by omega)]; rfl) (by kernel_rfl)
  have p5 := h
  refine Wp.go (mx := true) (fun _ => mixed) [] 100 [] [] (by kernel_rfl) (by kernel_rfl) (by kernel_rfl) trivial ?_
  refine Wp.cond' (by kernel_rfl) (e == 15) (by kernel_rfl) (fun h => ?_) (fun h => ?_)
  · obtain rfl : e = 15 := by simpa using h
    refine Wp.go (mx := true) (fun _ => mixed) [] 100 [] [] (by kernel_rfl) (by kernel_rfl) (by kernel_rfl) trivial ?_
    refine Wp.ret' (by kernel_rfl) ?_
    exact FinQ.pure (rs' := [.c (.str [97, 99, 99, 101, 115, 115, 95, 100, 101, 110, 105, 101, 100])]) (by kernel_rfl) (by unfold wordT; rw [show ofT 15 = _ from of_hit 6 (by omega)]; rfl) (by kernel_rfl)
  have p6 := h
  refine Wp.go (mx := true) (fun _ => mixed) [] 100 [] [] (by kernel_rfl) (by kernel_rfl) (by kernel_rfl) trivial ?_
  refine Wp.cond' (by kernel_rfl) (e == 18) (by kernel_rfl) (fun h => ?_) (fun h => ?_)
  · obtain rfl : e = 18 := by simpa using h
    refine Wp.go (mx := true) (fun _ => mixed) [] 100 [] [] (by kernel_rfl) (by kernel_rfl) (by kernel_rfl) trivial ?_
    refine Wp.ret' (by kernel_rfl) ?_
    exact FinQ.pure (rs' := [.c (.str [110, 111, 116, 95, 102, 111, 117, 110, 100])]) (by kernel_rfl) (by unfold wordT; rw [show ofT 18 = _ from of_hit 7 (by omega)]; rfl) (by kernel_rfl)
  have p7 := h
  refine Wp.go (mx := true) (fun _ => mixed) [] 100 [] [] (by kernel_rfl) (by kernel_rfl) (by kernel_rfl) trivial ?_
  refine Wp.cond' (by kernel_rfl) (e == 17) (by kernel_rfl) (fun h => ?_) (fun h => ?_)
  · obtain rfl : e = 17 := by simpa using h
    refine Wp.go (mx := true) (fun _ => mixed) [] 100 [] [] (by kernel_rfl) (by kernel_rfl) (by kernel_rfl) trivial ?_
    refine Wp.ret' (by kernel_rfl) ?_
    exact FinQ.pure (rs' := [.c (.str [109, 101, 116, 104, 111, 100, 95, 110, 111, 116, 95, 97, 108, 108, 111, 119, 101, 100])]) (by kernel_rfl) (by unfold wordT; rw [show ofT 17 = _ from of_hit 8 (by omega)]; rfl) (by kernel_rfl)
  have p8 := h
  refine Wp.go (mx := true) (fun _ => mixed) [] 100 [] [] (by kernel_rfl) (by kernel_rfl) (by kernel_rfl) trivial ?_
  refine Wp.cond' (by kernel_rfl) (e == 4) (by kernel_rfl) (fun h => ?_) (fun h => ?_)
  · obtain rfl : e = 4 := by simpa using h
    refine Wp.go (mx := true) (fun _ => mixed) [] 100 [] [] (by kernel_rfl) (by kernel_rfl) (by kernel_rfl) trivial ?_
    refine Wp.ret' (by kernel_rfl) ?_
    exact FinQ.pure (rs' := [.c (.str [116, 111, 111, 95, 108, 97, 114, 103, 101])]) (by kernel_rfl) (by unfold wordT; rw [show ofT 4 = _ from of_hit 9 (by omega)]; rfl) (by kernel_rfl)
  have p9 := h
  refine Wp.go (mx := true) (fun _ => mixed) [] 100 [] [] (by kernel_rfl) (by kernel_rfl) (by kernel_rfl) trivial ?_
  refine Wp.cond' (by kernel_rfl) (e == 16) (by kernel_rfl) (fun h => ?_) (fun h => ?_)
  · obtain rfl : e = 16 := by simpa using h
    refine Wp.go (mx := true) (fun _ => mixed) [] 100 [] [] (by kernel_rfl) (by kernel_rfl) (by kernel_rfl) trivial ?_
    refine Wp.ret' (by kernel_rfl) ?_
    exact FinQ.pure (rs' := [.c (.str [116, 101, 109, 112, 111, 114, 97, 114, 105, 108, 121, 95, 117, 110, 97, 118, 97, 105, 108, 97, 98, 108, 101])]) (by kernel_rfl) (by unfold wordT; rw [show ofT 16 = _ from of_hit 10 (by omega)]; rfl) (by kernel_rfl)
  have p10 := h
  refine Wp.go (mx := true) (fun _ => mixed) [] 100 [] [] (by kernel_rfl) (by kernel_rfl) (by kernel_rfl) trivial ?_
  refine Wp.ret' (by kernel_rfl) ?_
  exact FinQ.pure (rs' := [.c (.str [105, 110, 118, 97, 108, 105, 100, 95, 114, 101, 113, 117, 101, 115, 116])]) (by kernel_rfl) (by unfold wordT; rw [of_miss (miss p0 p1 p2 p3 p4 p5 p6 p7 p8 p9 p10)]) (by kernel_rfl)

theorem Status24_ok (e : Int) : Pur Tryd.prog G 9 [.c (.int .i64 e)] [.c (.int .i64 (statT e))] := by
  refine Pur.of Tryd.func9 (by kernel_rfl) (by kernel_rfl) (by kernel_rfl) ?_
  by_cases q : ∃ k, k < 11 ∧ e = (rowsL.getD k rowNil).1
  · obtain ⟨k, hk, rfl⟩ := q
    obtain rfl | rfl | rfl | rfl | rfl | rfl | rfl | rfl | rfl | rfl | rfl : k = 0 ∨ k = 1 ∨ k = 2 ∨ k = 3 ∨ k = 4 ∨ k = 5 ∨ k = 6 ∨ k = 7 ∨ k = 8 ∨ k = 9 ∨ k = 10 := by omega
    · refine Wp.go (mx := true) (fun _ => mixed) [] 100 [true, true] [((9 : Int) == 9) = true, ((9 : Int) == 9) = true] (by kernel_rfl) (by kernel_rfl) (by kernel_rfl) ⟨rfl, rfl⟩ ?_
      refine Wp.ret' (by kernel_rfl) ?_
      exact FinQ.pure (rs' := [.c (.int .i64 401)]) (by kernel_rfl) (by unfold statT; rw [of_hit 0 (by omega)]; rfl) (by kernel_rfl)
    · refine Wp.go (mx := true) (fun _ => mixed) [] 100 [false, false, false, false, false, false, false] [((11 : Int) == 9) = false, ((11 : Int) == 14) = false, ((11 : Int) == 15) = false, ((11 : Int) == 18) = false, ((11 : Int) == 17) = false, ((11 : Int) == 4) = false, ((11 : Int) == 16) = false] (by kernel_rfl) (by kernel_rfl) (by kernel_rfl) ⟨rfl, rfl, rfl, rfl, rfl, rfl, rfl⟩ ?_
      refine Wp.ret' (by kernel_rfl) ?_
      exact FinQ.pure (rs' := [.c (.int .i64 400)]) (by kernel_rfl) (by unfold statT; rw [of_hit 1 (by omega)]; rfl) (by kernel_rfl)
    · refine Wp.go (mx := true) (fun _ => mixed) [] 100 [false, false, false, false, false, false, false] [((12 : Int) == 9) = false, ((12 : Int) == 14) = false, ((12 : Int) == 15) = false, ((12 : Int) == 18) = false, ((12 : Int) == 17) = false, ((12 : Int) == 4) = false, ((12 : Int) == 16) = false] (by kernel_rfl) (by kernel_rfl) (by kernel_rfl) ⟨rfl, rfl, rfl, rfl, rfl, rfl, rfl⟩ ?_
      refine Wp.ret' (by kernel_rfl) ?_
      exact FinQ.pure (rs' := [.c (.int .i64 400)]) (by kernel_rfl) (by unfold statT; rw [of_hit 2 (by omega)]; rfl) (by kernel_rfl)
    · refine Wp.go (mx := true) (fun _ => mixed) [] 100 [false, false, false, false, false, false, false] [((13 : Int) == 9) = false, ((13 : Int) == 14) = false, ((13 : Int) == 15) = false, ((13 : Int) == 18) = false, ((13 : Int) == 17) = false, ((13 : Int) == 4) = false, ((13 : Int) == 16) = false] (by kernel_rfl) (by kernel_rfl) (by kernel_rfl) ⟨rfl, rfl, rfl, rfl, rfl, rfl, rfl⟩ ?_
      refine Wp.ret' (by kernel_rfl) ?_
      exact FinQ.pure (rs' := [.c (.int .i64 400)]) (by kernel_rfl) (by unfold statT; rw [of_hit 3 (by omega)]; rfl) (by kernel_rfl)
    · refine Wp.go (mx := true) (fun _ => mixed) [] 100 [false, false, false, false, false, false, false] [((19 : Int) == 9) = false, ((19 : Int) == 14) = false, ((19 : Int) == 15) = false, ((19 : Int) == 18) = false, ((19 : Int) == 17) = false, ((19 : Int) == 4) = false, ((19 : Int) == 16) = false] (by kernel_rfl) (by kernel_rfl) (by kernel_rfl) ⟨rfl, rfl, rfl, rfl, rfl, rfl, rfl⟩ ?_
      refine Wp.ret' (by kernel_rfl) ?_
      exact FinQ.pure (rs' := [.c (.int .i64 400)]) (by kernel_rfl) (by unfold statT; rw [of_hit 4 (by omega)]; rfl) (by kernel_rfl)
    · refine Wp.go (mx := true) (fun _ => mixed) [] 100 [false, true] [((14 : Int) == 9) = false, ((14 : Int) == 14) = true] (by kernel_rfl) (by kernel_rfl) (by kernel_rfl) ⟨rfl, rfl⟩ ?_
      refine Wp.ret' (by kernel_rfl) ?_
      exact FinQ.pure (rs' := [.c (.int .i64 401)]) (by kernel_rfl) (by unfold statT; rw [of_hit 5 (by omega)]; rfl) (by kernel_rfl)
    · refine Wp.go (mx := true) (fun _ => mixed) [] 100 [false, false, true] [((15 : Int) == 9) = false, ((15 : Int) == 14) = false, ((15 : Int) == 15) = true] (by kernel_rfl) (by kernel_rfl) (by kernel_rfl) ⟨rfl, rfl, rfl⟩ ?_
      refine Wp.ret' (by kernel_rfl) ?_
      exact FinQ.pure (rs' := [.c (.int .i64 403)]) (by kernel_rfl) (by unfold statT; rw [of_hit 6 (by omega)]; rfl) (by kernel_rfl)
    · refine Wp.go (mx := true) (fun _ => mixed) [] 100 [false, false, false, true] [((18 : Int) == 9) = false, ((18 : Int) == 14) = false, ((18 : Int) == 15) = false, ((18 : Int) == 18) = true] (by kernel_rfl) (by kernel_rfl) (by kernel_rfl) ⟨rfl, rfl, rfl, rfl⟩ ?_
      refine Wp.ret' (by kernel_rfl) ?_
      exact FinQ.pure (rs' := [.c (.int .i64 404)]) (by kernel_rfl) (by unfold statT; rw [of_hit 7 (by omega)]; rfl) (by kernel_rfl)
    · refine Wp.go (mx := true) (fun _ => mixed) [] 100 [false, false, false, false, true] [((17 : Int) == 9) = false, ((17 : Int) == 14) = false, ((17 : Int) == 15) = false, ((17 : Int) == 18) = false, ((17 : Int) == 17) = true] (by kernel_rfl) (by kernel_rfl) (by kernel_rfl) ⟨rfl, rfl, rfl, rfl, rfl⟩ ?_
      refine Wp.ret' (by kernel_rfl) ?_
      exact FinQ.pure (rs' := [.c (.int .i64 405)]) (by kernel_rfl) (by unfold statT; rw [of_hit 8 (by omega)]; rfl) (by kernel_rfl)
    · refine Wp.go (mx := true) (fun _ => mixed) [] 100 [false, false, false, false, false, true] [((4 : Int) == 9) = false, ((4 : Int) == 14) = false, ((4 : Int) == 15) = false, ((4 : Int) == 18) = false, ((4 : Int) == 17) = false, ((4 : Int) == 4) = true] (by kernel_rfl) (by kernel_rfl) (by kernel_rfl) ⟨rfl, rfl, rfl, rfl, rfl, rfl⟩ ?_
      refine Wp.ret' (by kernel_rfl) ?_
      exact FinQ.pure (rs' := [.c (.int .i64 413)]) (by kernel_rfl) (by unfold statT; rw [of_hit 9 (by omega)]; rfl) (by kernel_rfl)
    · refine Wp.go (mx := true) (fun _ => mixed) [] 100 [false, false, false, false, false, false, true] [((16 : Int) == 9) = false, ((16 : Int) == 14) = false, ((16 : Int) == 15) = false, ((16 : Int) == 18) = false, ((16 : Int) == 17) = false, ((16 : Int) == 4) = false, ((16 : Int) == 16) = true] (by kernel_rfl) (by kernel_rfl) (by kernel_rfl) ⟨rfl, rfl, rfl, rfl, rfl, rfl, rfl⟩ ?_
      refine Wp.ret' (by kernel_rfl) ?_
      exact FinQ.pure (rs' := [.c (.int .i64 503)]) (by kernel_rfl) (by unfold statT; rw [of_hit 10 (by omega)]; rfl) (by kernel_rfl)
  · have hm : ∀ k : Nat, k < 11 → (e == (rowsL.getD k rowNil).1) = false := fun k hk => by rw [beq_eq_false_iff_ne]; exact fun h => q ⟨k, hk, h⟩
    refine Wp.go (mx := true) (fun _ => mixed) [] 100 [false, false, false, false, false, false, false] [(e == 9) = false, (e == 14) = false, (e == 15) = false, (e == 18) = false, (e == 17) = false, (e == 4) = false, (e == 16) = false] (by kernel_rfl) (by kernel_rfl) (by kernel_rfl) ⟨hm 0 (by omega), hm 5 (by omega), hm 6 (by omega), hm 7 (by omega), hm 8 (by omega), hm 9 (by omega), hm 10 (by omega)⟩ ?_
    refine Wp.ret' (by kernel_rfl) ?_
    exact FinQ.pure (rs' := [.c (.int .i64 400)]) (by kernel_rfl) (by unfold statT; rw [of_miss hm]) (by kernel_rfl)

/-! answers -/
def textJ (s : List UInt8) : JV := .mk 4 false 0 s [] []
def objJ (ns : List (List UInt8)) (ks : List JV) : JV := .mk 6 false 0 [] ns ks
theorem flatA {l : List Cell} (h : flats l = true) : ∀ S (j : Nat) (x : Cell), l[j]? = some x → x.inS S := fun S => flats_inS h S
def rawText (s : List UInt8) : List Cell := [.int .i64 4, .bool false, .int .i64 0, .str s, .nilsl, .nilsl]
theorem text_eqv (s : List UInt8) : EqvD (.agg (rawText s)) (.agg (encJ (textJ s))) := agg_eqv (.cons CEq.rfl' (.cons CEq.rfl' (.cons CEq.rfl' (.cons CEq.rfl' (.cons CEq.nil (.cons CEq.nil .nil))))))
theorem text_ok (s : List UInt8) : Pur Tryd.prog G 17 [.c (.str s)] [.agg (encJ (textJ s))] := by
  refine Pur.of Tryd.func17 (by kernel_rfl) (by kernel_rfl) (by kernel_rfl) ?_
  refine Wp.go (mx := true) (fun _ => mixed) [(1, {fm := [(1, .agg (encJ (textJ s)))]})] 100 [] [EqvI (.agg (rawText s)) (.agg (encJ (textJ s))), EqvD (.agg (rawText s)) (.agg (encJ (textJ s)))] (by kernel_rfl) (by kernel_rfl) (by kernel_rfl) ⟨EqvI.flatA rfl, text_eqv s⟩ ?_
  refine Wp.ret' (by kernel_rfl) ?_
  exact FinQ.pure (rs' := [.agg (encJ (textJ s))]) (by kernel_rfl) rfl (by kernel_rfl)
theorem S_ok (s : List UInt8) : Pur Tryd.prog G 20 [.c (.str s)] [.agg (encJ (textJ s))] := by
  refine Pur.of Tryd.func20 (by kernel_rfl) (by kernel_rfl) (by kernel_rfl) ?_
  refine Wp.go (mx := true) (fun _ => mixed) [(1, {fm := [(1, .agg (encJ (textJ s)))]})] 100 [] [EqvI (.agg (rawText s)) (.agg (encJ (textJ s))), EqvD (.agg (rawText s)) (.agg (encJ (textJ s)))] (by kernel_rfl) (by kernel_rfl) (by kernel_rfl) ⟨EqvI.flatA rfl, text_eqv s⟩ ?_
  refine Wp.ret' (by kernel_rfl) ?_
  exact FinQ.pure (rs' := [.agg (encJ (textJ s))]) (by kernel_rfl) rfl (by kernel_rfl)
theorem O_ok (ns : List (List UInt8)) (ks : List JV) : Pur Tryd.prog G 19 [.c (encS ns), .c (.sl 6 ks.length (kidC ks))] [.agg (encJ (objJ ns ks))] := by
  refine Pur.of Tryd.func19 (by kernel_rfl) (by kernel_rfl) (by kernel_rfl) ?_
  refine Wp.go (mx := true) (fun _ => mixed) [] 100 [] [] (by kernel_rfl) (by kernel_rfl) (by kernel_rfl) trivial ?_
  refine Wp.ret' (by kernel_rfl) ?_
  exact FinQ.pure (rs' := [.agg (encJ (objJ ns ks))]) (by kernel_rfl) rfl (by kernel_rfl)
theorem kept_ok : Pur Tryd.prog G 21 [] [.agg (encF ⟨[99, 97, 99, 104, 101, 45, 99, 111, 110, 116, 114, 111, 108], [110, 111, 45, 115, 116, 111, 114, 101]⟩)] := by
  refine Pur.of Tryd.func21 (by kernel_rfl) (by kernel_rfl) (by kernel_rfl) ?_
  refine Wp.go (mx := true) (fun _ => mixed) [] 100 [] [] (by kernel_rfl) (by kernel_rfl) (by kernel_rfl) trivial ?_
  refine Wp.ret' (by kernel_rfl) ?_
  exact FinQ.pure (rs' := [.agg (encF ⟨[99, 97, 99, 104, 101, 45, 99, 111, 110, 116, 114, 111, 108], [110, 111, 45, 115, 116, 111, 114, 101]⟩)]) (by kernel_rfl) rfl (by kernel_rfl)
def jsonH : List FT := [⟨[99, 111, 110, 116, 101, 110, 116, 45, 116, 121, 112, 101], [97, 112, 112, 108, 105, 99, 97, 116, 105, 111, 110, 47, 106, 115, 111, 110]⟩, ⟨[99, 97, 99, 104, 101, 45, 99, 111, 110, 116, 114, 111, 108], [110, 111, 45, 115, 116, 111, 114, 101]⟩]
def jsonT (v : JV) : RT := ⟨200, jsonH, printT v⟩
theorem flat_get {α : Type} (enc : α → List Cell) (d : α) {sz : Nat} (hs : ∀ x, (enc x).length = sz) : ∀ (l : List α) (i : Nat), i < l.length → ∀ j, j < sz → nthD (l.flatMap enc) (i * sz + j) = nthD (enc (l.getD i d)) j
  | [], i, h, _, _ => by simp at h
  | x :: r, 0, _, j, hj => by
    simp only [nthD, nth_eq, List.flatMap_cons, Nat.zero_mul, Nat.zero_add]
    rw [List.getElem?_append_left (by rw [hs]; exact hj)]; rfl
  | x :: r, i + 1, h, j, hj => by
    have ih := flat_get enc d hs r i (by simpa using h) j hj
    simp only [nthD, nth_eq, List.flatMap_cons] at ih ⊢
    rw [List.getElem?_append_right (by rw [hs, Nat.add_mul]; omega), hs, show (i + 1) * sz + j - sz = i * sz + j from by rw [Nat.add_mul]; omega]
    exact ih
def rawH : Nat → Nat → Cell := fun i j => nthD [.str [99, 111, 110, 116, 101, 110, 116, 45, 116, 121, 112, 101], .str [97, 112, 112, 108, 105, 99, 97, 116, 105, 111, 110, 47, 106, 115, 111, 110], .str [99, 97, 99, 104, 101, 45, 99, 111, 110, 116, 114, 111, 108], .str [110, 111, 45, 115, 116, 111, 114, 101]] (i * 2 + j)
theorem rawH_eq : ∀ i, i < 2 → ∀ j, j < 2 → rawH i j = nthD (encF (jsonH.getD i .nil)) j := by
  intro i hi j hj
  obtain rfl | rfl : i = 0 ∨ i = 1 := by omega
  all_goals (obtain rfl | rfl : j = 0 ∨ j = 1 := by omega)
  all_goals rfl
theorem Json_ok {v : JV} (hs : Small v) (hf : mayJ v 0 = true → Fit v) : Pur Tryd.prog Gd 13 [.agg (encJ v)] [.agg (encT (jsonT v))] := by
  refine Pur.of Tryd.func13 (by kernel_rfl) (by kernel_rfl) (by kernel_rfl) ?_
  refine Wp.go (mx := true) (fun _ => mixed) [(1, {fm := [(2, .c (encH jsonH))], cs := [(1, pc kept_ok), (4, pc (Print_ok (G := Gd) 1 (by kernel_rfl) rfl hs hf))]})] 100 [] [EqvI (.c (.sl 2 2 (fun i j => nthD (jsonH.flatMap encF) (i * 2 + j)))) (.c (encH jsonH)), EqvD (.c (.sl 2 2 (fun i j => nthD (jsonH.flatMap encF) (i * 2 + j)))) (.c (encH jsonH))] (by kernel_rfl) (by kernel_rfl) (by kernel_rfl) ⟨fun _ _ => trivial, EqvD.sl rfl (fun i hi j hj => flat_get encF .nil (fun _ => rfl) jsonH i hi j hj)⟩ ?_
  refine Wp.ret' (by kernel_rfl) ?_
  exact FinQ.pure (rs' := [.agg (encT (jsonT v))]) (by kernel_rfl) rfl (by kernel_rfl)
theorem Json24_ok {v : JV} (hs : Short v) (hf : mayJ v 0 = true → Fit v) : Pur Tryd.prog G 18 [.agg (encJ v)] [.agg (encT (jsonT v))] := by
  refine Pur.of Tryd.func18 (by kernel_rfl) (by kernel_rfl) (by kernel_rfl) ?_
  refine Wp.go (mx := true) (fun _ => mixed) [(1, {fm := [(2, .c (encH jsonH))], cs := [(4, pc (Print12_ok hs hf))]})] 100 [] [EqvI (.c (.sl 2 2 (fun i j => nthD (jsonH.flatMap encF) (i * 2 + j)))) (.c (encH jsonH)), EqvD (.c (.sl 2 2 (fun i j => nthD (jsonH.flatMap encF) (i * 2 + j)))) (.c (encH jsonH))] (by kernel_rfl) (by kernel_rfl) (by kernel_rfl) ⟨fun _ _ => trivial, EqvD.sl rfl (fun i hi j hj => flat_get encF .nil (fun _ => rfl) jsonH i hi j hj)⟩ ?_
  refine Wp.ret' (by kernel_rfl) ?_
  exact FinQ.pure (rs' := [.agg (encT (jsonT v))]) (by kernel_rfl) rfl (by kernel_rfl)

def errJ (w : List UInt8) : JV := objJ [[101, 114, 114, 111, 114]] [textJ w]
def failT (e : Int) : RT := ⟨statT e, jsonH, printT (errJ (wordT e))⟩
theorem strs_new (l : List (List UInt8)) : EqvD (.c (.sl 1 l.length (fun i j => nthD (l.map Cell.str) (i * 1 + j)))) (.c (encS l)) := by
  refine EqvD.sl rfl fun i hi j hj => ?_
  obtain rfl : j = 0 := by omega
  show nthD (l.map Cell.str) (i * 1 + 0) = nthD [.str (l.getD i [])] 0
  rw [show i * 1 + 0 = i from by omega]
  simp [nthD, nth_eq, List.getD, hi]
theorem kids_new (ks : List JV) : EqvD (.c (.sl 6 ks.length (fun i j => nthD (ks.flatMap encJ) (i * 6 + j)))) (.c (.sl 6 ks.length (kidC ks))) := by
  refine EqvD.sl rfl fun i hi j hj => ?_
  rw [flat_get encJ .nil (fun _ => rfl) ks i hi j hj]
  unfold kidC
  rw [cellsL_eq ks i hi]
theorem word_short (e : Int) : (wordT e).length ≤ 30 := by
  unfold wordT
  by_cases q : ∃ k, k < 11 ∧ e = (rowsL.getD k rowNil).1
  · obtain ⟨k, hk, rfl⟩ := q
    rw [of_hit k hk]
    have : ∀ k : Nat, k < 11 → (rowsL.getD k rowNil).2.1.length ≤ 30 := by decide
    exact this k hk
  · rw [of_miss (fun k hk => by rw [beq_eq_false_iff_ne]; exact fun h => q ⟨k, hk, h⟩)]
    show List.length _ ≤ 30
    simp
theorem quoted_len (s : List UInt8) : (quotedT s).length ≤ 6 * s.length + 2 := by
  unfold quotedT
  have : (s.flatMap qByte).length ≤ 6 * s.length := by
    induction s with
    | nil => simp
    | cons c r ih =>
      have : (qByte c).length ≤ 6 := by unfold qByte; split <;> (try split) <;> simp
      simp only [List.flatMap_cons, List.length_append, List.length_cons]; omega
  simp only [List.length_cons, List.length_append, List.length_nil]; omega
theorem text_print (w : List UInt8) : printJ (textJ w) = quotedT w := by rw [printJ_eq]; rfl
theorem err_print (w : List UInt8) : printJ (errJ w) = (123 :: ((quotedT [101, 114, 114, 111, 114] ++ [58]) ++ quotedT w)) ++ [125] := by
  rw [printJ_eq]
  show (123 :: Lib.join (parts (errJ w) 1) [44]) ++ [125] = _
  have : parts (errJ w) 1 = [(quotedT [101, 114, 114, 111, 114] ++ [58]) ++ quotedT w] := by
    show [partAt (errJ w) 0] = _
    unfold partAt
    rw [if_pos (by rfl)]
    show [(quotedT [101, 114, 114, 111, 114] ++ [58]) ++ printJ (textJ w)] = _
    rw [text_print]
  rw [this, Lib.join_one]
theorem text_small (w : List UInt8) : Small (textJ w) := .mk (by show 0 < _; omega) (by show 0 < _; omega) (by intro x hx; cases hx)
theorem err_small (w : List UInt8) : Small (errJ w) := .mk (by show 1 < _; omega) (by show 1 < _; omega) (by intro x hx; rcases List.mem_singleton.1 hx with rfl; exact text_small w)
theorem text_short (w : List UInt8) (hw : w.length ≤ 1000000) : Short (textJ w) := .mk (by show w.length < _; omega) (by show 0 < _; omega) (by intro x hx; cases hx) (by show 0 < _; omega) (by intro x hx; cases hx)
theorem err_short (w : List UInt8) (hw : w.length ≤ 1000000) : Short (errJ w) := .mk (by show 0 < _; omega) (by show 1 < _; omega) (by intro x hx; rcases List.mem_singleton.1 hx with rfl; decide) (by show 1 < _; omega) (by intro x hx; rcases List.mem_singleton.1 hx with rfl; exact text_short w hw)
theorem text_fit (w : List UInt8) (hw : w.length ≤ 1000000) : Fit (textJ w) := .mk (by show 0 ≤ _; omega) (by intro h; have h : (4 : Int) = 6 := h; omega) (by show _ ≤ (0 : Int); omega) (by show (0 : Int) ≤ _; omega) (by rw [text_print]; have := quoted_len w; omega) (by intro x hx; cases hx)
theorem err_fit (w : List UInt8) (hw : w.length ≤ 1000000) : Fit (errJ w) := by
  have h1 := quoted_len w
  have h2 : (quotedT [101, 114, 114, 111, 114]).length = 7 := by decide
  refine .mk (by show 1 ≤ _; omega) (by intro h; show 1 ≤ 1; omega) (by show _ ≤ (0 : Int); omega) (by show (0 : Int) ≤ _; omega) ?_ (by intro x hx; rcases List.mem_singleton.1 hx with rfl; exact text_fit w hw)
  rw [err_print]
  simp only [List.length_append, List.length_cons, List.length_nil, h2]; omega

theorem Fail_ok (e : Int) : Pur Tryd.prog Gd 11 [.c (.int .i64 e)] [.agg (encT (failT e))] := by
  have hw := word_short e
  refine Pur.of Tryd.func11 (by kernel_rfl) (by kernel_rfl) (by kernel_rfl) ?_
  refine Wp.go (mx := true) (fun _ => mixed) [(1, {fm := [(0, .c (encS [[101, 114, 114, 111, 114]])), (4, .c (.sl 6 1 (kidC [textJ (wordT e)])))], cs := [(2, pc (Word_ok e)), (3, pc (text_ok (wordT e))), (6, pc (Json_ok (err_small (wordT e)) (fun _ => err_fit _ (by omega))))]}), (2, {cs := [(1, pc (Status_ok e))]})] 100 [] [EqvI (.c (.sl 1 1 (fun i j => nthD ([[101, 114, 114, 111, 114]].map Cell.str) (i * 1 + j)))) (.c (encS [[101, 114, 114, 111, 114]])), EqvD (.c (.sl 1 1 (fun i j => nthD ([[101, 114, 114, 111, 114]].map Cell.str) (i * 1 + j)))) (.c (encS [[101, 114, 114, 111, 114]])), EqvI (.c (.sl 6 1 (fun i j => nthD ([textJ (wordT e)].flatMap encJ) (i * 6 + j)))) (.c (.sl 6 1 (kidC [textJ (wordT e)]))), EqvD (.c (.sl 6 1 (fun i j => nthD ([textJ (wordT e)].flatMap encJ) (i * 6 + j)))) (.c (.sl 6 1 (kidC [textJ (wordT e)])))] (by kernel_rfl) (by kernel_rfl) (by kernel_rfl) ⟨fun _ _ => trivial, strs_new [[101, 114, 114, 111, 114]], fun _ _ => trivial, kids_new [textJ (wordT e)]⟩ ?_
  refine Wp.ret' (by kernel_rfl) ?_
  exact FinQ.pure (rs' := [.agg (encT (failT e))]) (by kernel_rfl) rfl (by kernel_rfl)
theorem Fail24_ok (e : Int) : Pur Tryd.prog G 12 [.c (.int .i64 e)] [.agg (encT (failT e))] := by
  have hw := word_short e
  refine Pur.of Tryd.func12 (by kernel_rfl) (by kernel_rfl) (by kernel_rfl) ?_
  refine Wp.go (mx := true) (fun _ => mixed) [(1, {fm := [(0, .c (encS [[101, 114, 114, 111, 114]])), (4, .c (.sl 6 1 (kidC [textJ (wordT e)])))], cs := [(2, pc (Word24_ok e)), (3, pc (S_ok (wordT e))), (5, pc (O_ok [[101, 114, 114, 111, 114]] [textJ (wordT e)])), (6, pc (Json24_ok (err_short (wordT e) (by omega)) (fun _ => err_fit _ (by omega))))]}), (2, {cs := [(1, pc (Status24_ok e))]})] 100 [] [EqvI (.c (.sl 1 1 (fun i j => nthD ([[101, 114, 114, 111, 114]].map Cell.str) (i * 1 + j)))) (.c (encS [[101, 114, 114, 111, 114]])), EqvD (.c (.sl 1 1 (fun i j => nthD ([[101, 114, 114, 111, 114]].map Cell.str) (i * 1 + j)))) (.c (encS [[101, 114, 114, 111, 114]])), EqvI (.c (.sl 6 1 (fun i j => nthD ([textJ (wordT e)].flatMap encJ) (i * 6 + j)))) (.c (.sl 6 1 (kidC [textJ (wordT e)]))), EqvD (.c (.sl 6 1 (fun i j => nthD ([textJ (wordT e)].flatMap encJ) (i * 6 + j)))) (.c (.sl 6 1 (kidC [textJ (wordT e)])))] (by kernel_rfl) (by kernel_rfl) (by kernel_rfl) ⟨fun _ _ => trivial, strs_new [[101, 114, 114, 111, 114]], fun _ _ => trivial, kids_new [textJ (wordT e)]⟩ ?_
  refine Wp.ret' (by kernel_rfl) ?_
  exact FinQ.pure (rs' := [.agg (encT (failT e))]) (by kernel_rfl) rfl (by kernel_rfl)

/-! what an issuer says of itself -/
def docNs : List (List UInt8) := [[105, 115, 115, 117, 101, 114], [112, 117, 115, 104, 101, 100, 95, 97, 117, 116, 104, 111, 114, 105, 122, 97, 116, 105, 111, 110, 95, 114, 101, 113, 117, 101, 115, 116, 95, 101, 110, 100, 112, 111, 105, 110, 116], [97, 117, 116, 104, 111, 114, 105, 122, 97, 116, 105, 111, 110, 95, 101, 110, 100, 112, 111, 105, 110, 116], [116, 111, 107, 101, 110, 95, 101, 110, 100, 112, 111, 105, 110, 116], [105, 110, 116, 114, 111, 115, 112, 101, 99, 116, 105, 111, 110, 95, 101, 110, 100, 112, 111, 105, 110, 116], [114, 101, 118, 111, 99, 97, 116, 105, 111, 110, 95, 101, 110, 100, 112, 111, 105, 110, 116], [114, 101, 113, 117, 105, 114, 101, 95, 112, 117, 115, 104, 101, 100, 95, 97, 117, 116, 104, 111, 114, 105, 122, 97, 116, 105, 111, 110, 95, 114, 101, 113, 117, 101, 115, 116, 115], [97, 117, 116, 104, 111, 114, 105, 122, 97, 116, 105, 111, 110, 95, 114, 101, 115, 112, 111, 110, 115, 101, 95, 105, 115, 115, 95, 112, 97, 114, 97, 109, 101, 116, 101, 114, 95, 115, 117, 112, 112, 111, 114, 116, 101, 100], [99, 111, 100, 101, 95, 99, 104, 97, 108, 108, 101, 110, 103, 101, 95, 109, 101, 116, 104, 111, 100, 115, 95, 115, 117, 112, 112, 111, 114, 116, 101, 100]]
def trueJ : JV := .mk 2 true 0 [] [] []
def listJ (ks : List JV) : JV := .mk 5 false 0 [] [] ks
def docB (name : List UInt8) : List UInt8 := [104, 116, 116, 112, 115, 58, 47, 47] ++ name
def docKs (name : List UInt8) : List JV := [textJ (docB name), textJ (docB name ++ [47, 112, 97, 114]), textJ (docB name ++ [47, 97, 117, 116, 104, 111, 114, 105, 122, 101]), textJ (docB name ++ [47, 116, 111, 107, 101, 110]), textJ (docB name ++ [47, 105, 110, 116, 114, 111, 115, 112, 101, 99, 116]), textJ (docB name ++ [47, 114, 101, 118, 111, 107, 101]), trueJ, trueJ, listJ [textJ [83, 50, 53, 54]]]
def docJ (name : List UInt8) : JV := objJ docNs (docKs name)
def rawTrue : List Cell := [.int .i64 2, .bool true, .int .i64 0, .str [], .nilsl, .nilsl]
theorem yes_ok : Pur Tryd.prog G 23 [] [.agg (encJ trueJ)] := by
  refine Pur.of Tryd.func23 (by kernel_rfl) (by kernel_rfl) (by kernel_rfl) ?_
  refine Wp.go (mx := true) (fun _ => mixed) [(1, {fm := [(0, .agg (encJ trueJ))]})] 100 [] [EqvI (.agg rawTrue) (.agg (encJ trueJ)), EqvD (.agg rawTrue) (.agg (encJ trueJ))] (by kernel_rfl) (by kernel_rfl) (by kernel_rfl) ⟨EqvI.flatA rfl, agg_eqv (.cons CEq.rfl' (.cons CEq.rfl' (.cons CEq.rfl' (.cons CEq.rfl' (.cons CEq.nil (.cons CEq.nil .nil))))))⟩ ?_
  refine Wp.ret' (by kernel_rfl) ?_
  exact FinQ.pure (rs' := [.agg (encJ trueJ)]) (by kernel_rfl) rfl (by kernel_rfl)
def rawList (ks : List JV) : List Cell := [.int .i64 5, .bool false, .int .i64 0, .str [], .nilsl, .sl 6 ks.length (kidC ks)]
theorem Doc_ok (name : List UInt8) (hn : name.length ≤ 1000000) : Pur Tryd.prog G 14 [.c (.str name)] [.agg (encJ (docJ name))] := by
  have hb : (docB name).length = 8 + name.length := by unfold docB; simp; omega
  refine Pur.of Tryd.func14 (by kernel_rfl) (by kernel_rfl) (by kernel_rfl) ?_
  refine Wp.go (mx := true) (fun _ => mixed) [(2, {fm := [(0, .c (encS docNs)), (21, .c (.sl 6 1 (kidC [textJ [83, 50, 53, 54]]))), (22, .agg (encJ (listJ [textJ [83, 50, 53, 54]]))), (23, .c (.sl 6 9 (kidC (docKs name))))], cs := [(2, pc (text_ok (docB name))), (5, pc (text_ok (docB name ++ [47, 112, 97, 114]))), (8, pc (text_ok (docB name ++ [47, 97, 117, 116, 104, 111, 114, 105, 122, 101]))), (11, pc (text_ok (docB name ++ [47, 116, 111, 107, 101, 110]))), (14, pc (text_ok (docB name ++ [47, 105, 110, 116, 114, 111, 115, 112, 101, 99, 116]))), (17, pc (text_ok (docB name ++ [47, 114, 101, 118, 111, 107, 101]))), (18, pc yes_ok), (19, pc yes_ok), (20, pc (text_ok [83, 50, 53, 54]))]})] 100 [] [8 + name.length ≤ 9223372036854775807, EqvI (.c (.sl 1 9 (fun i j => nthD (docNs.map Cell.str) (i * 1 + j)))) (.c (encS docNs)), EqvD (.c (.sl 1 9 (fun i j => nthD (docNs.map Cell.str) (i * 1 + j)))) (.c (encS docNs)), (docB name).length + 4 ≤ 9223372036854775807, (docB name).length + 10 ≤ 9223372036854775807, (docB name).length + 6 ≤ 9223372036854775807, (docB name).length + 11 ≤ 9223372036854775807, (docB name).length + 7 ≤ 9223372036854775807, EqvI (.c (.sl 6 1 (fun i j => nthD ([textJ [83, 50, 53, 54]].flatMap encJ) (i * 6 + j)))) (.c (.sl 6 1 (kidC [textJ [83, 50, 53, 54]]))), EqvD (.c (.sl 6 1 (fun i j => nthD ([textJ [83, 50, 53, 54]].flatMap encJ) (i * 6 + j)))) (.c (.sl 6 1 (kidC [textJ [83, 50, 53, 54]]))), EqvI (.agg (rawList [textJ [83, 50, 53, 54]])) (.agg (encJ (listJ [textJ [83, 50, 53, 54]]))), EqvD (.agg (rawList [textJ [83, 50, 53, 54]])) (.agg (encJ (listJ [textJ [83, 50, 53, 54]]))), EqvI (.c (.sl 6 9 (fun i j => nthD ((docKs name).flatMap encJ) (i * 6 + j)))) (.c (.sl 6 9 (kidC (docKs name)))), EqvD (.c (.sl 6 9 (fun i j => nthD ((docKs name).flatMap encJ) (i * 6 + j)))) (.c (.sl 6 9 (kidC (docKs name))))] (by kernel_rfl) (by kernel_rfl) (by kernel_rfl) ⟨by omega, fun _ _ => trivial, strs_new docNs, by omega, by omega, by omega, by omega, by omega, fun _ _ => trivial, kids_new [textJ [83, 50, 53, 54]], EqvI.flatA rfl, agg_eqv (.cons CEq.rfl' (.cons CEq.rfl' (.cons CEq.rfl' (.cons CEq.rfl' (.cons CEq.nil (.cons CEq.rfl' .nil)))))), fun _ _ => trivial, kids_new (docKs name)⟩ ?_
  refine Wp.ret' (by kernel_rfl) ?_
  exact FinQ.pure (rs' := [.agg (encJ (docJ name))]) (by kernel_rfl) rfl (by kernel_rfl)
end Go.Proofs.Tw
