import Derived.Test.YtmacpjddafcjcaaDoorRep
set_option linter.all false
open Go Go.Sv
namespace Go.Proofs.Tw
attribute [local irreducible] Wp FinQ resV Ent Pur Go.Sv.Fn Sat0
set_option maxRecDepth 100000

def withinT (a n : Int) : Int := if decide (a.tmod n < 0) then a.tmod n + n else a.tmod n
theorem within_ok {G : Nat → Option (List Cell)} (a n : Int) (hn : 0 < n) (hn2 : n < 1000000) : Pur Tryd.prog G 5 [.c (.int .i64 a), .c (.int .i64 n)] [.c (.int .i64 (withinT a n))] := by
  have h1 := Int.lt_tmod_of_pos a hn
  have h2 := Int.tmod_lt_of_pos a hn
  refine Pur.of Tryd.func5 (by kernel_rfl) (by kernel_rfl) (by kernel_rfl) ?_
  refine Wp.go (mx := true) (fun _ => mixed) [] 100 [] [n ≠ 0] (by kernel_rfl) (by kernel_rfl) (by kernel_rfl) (by show n ≠ 0; omega) ?_
  refine Wp.cond' (by kernel_rfl) (decide (a.tmod n < 0)) (by kernel_rfl) (fun h => ?_) (fun h => ?_)
  · refine Wp.go (mx := true) (fun _ => mixed) [] 100 [] [inR .i64 (a.tmod n + n)] (by kernel_rfl) (by kernel_rfl) (by kernel_rfl) (inR64 (by omega) (by omega)) ?_
    refine Wp.ret' (by kernel_rfl) ?_
    exact FinQ.pure (rs' := [.c (.int .i64 (a.tmod n + n))]) (by kernel_rfl) (by unfold withinT; rw [if_pos h]) (by kernel_rfl)
  · refine Wp.go (mx := true) (fun _ => mixed) [] 100 [] [] (by kernel_rfl) (by kernel_rfl) (by kernel_rfl) trivial ?_
    refine Wp.ret' (by kernel_rfl) ?_
    exact FinQ.pure (rs' := [.c (.int .i64 (a.tmod n))]) (by kernel_rfl) (by unfold withinT; rw [if_neg (by simp [h])]) (by kernel_rfl)

def objE : JV := objJ [] []
theorem e_small : Small objE := .mk (by show 0 < _; omega) (by show 0 < _; omega) (by intro x hx; cases hx)
theorem e_print : printJ objE = [123, 125] := by rw [printJ_eq]; rfl
theorem e_fit : Fit objE := .mk (by show 0 ≤ _; omega) (by intro h; exact Nat.le_refl _) (by show _ ≤ (0 : Int); omega) (by show (0 : Int) ≤ _; omega) (by rw [e_print]; decide) (by intro x hx; cases hx)
def rawO : List Cell := [.int .i64 6, .bool false, .int .i64 0, .str [], .nilsl, .nilsl]
def knownB : Bool := cond (cond (cond (cond (cond (wordT 13 == [105, 110, 118, 97, 108, 105, 100, 95, 103, 114, 97, 110, 116]) (statT 16 == 503) false) ((failT 13).status == 400) false) ((failT 13).body == [123, 34, 101, 114, 114, 111, 114, 34, 58, 34, 105, 110, 118, 97, 108, 105, 100, 95, 103, 114, 97, 110, 116, 34, 125]) false) ((jsonT objE).body == [123, 125]) false) ((docJ [97, 115]).kind == 6) false
theorem known_true : knownB = true := by kernel_rfl
theorem known_ok : Pur Tryd.prog Gd 4 [] [.c (.bool true)] := by
  have q : EqvD (.agg rawO) (.agg (encJ objE)) := agg_eqv (.cons CEq.rfl' (.cons CEq.rfl' (.cons CEq.rfl' (.cons CEq.rfl' (.cons CEq.nil (.cons CEq.nil .nil))))))
  refine Pur.of Tryd.func4 (by kernel_rfl) (by kernel_rfl) (by kernel_rfl) ?_
  refine Wp.go (mx := true) (fun _ => mixed) [(1, {cs := [(0, pc (Fail_ok 13))]}), (2, {fm := [(17, .agg (encJ objE))], cs := [(0, pc (Word_ok 13)), (3, pc (Status_ok 16)), (18, pc (Json_ok e_small (fun _ => e_fit))), (23, pc (Doc_ok [97, 115] (by decide)))]})] 100 [] [EqvI (.agg rawO) (.agg (encJ objE)), (cond (cond (cond (wordT 13 == [105, 110, 118, 97, 108, 105, 100, 95, 103, 114, 97, 110, 116]) (statT 16 == 503) false) ((failT 13).status == 400) false) ((failT 13).body == [123, 34, 101, 114, 114, 111, 114, 34, 58, 34, 105, 110, 118, 97, 108, 105, 100, 95, 103, 114, 97, 110, 116, 34, 125]) false) = true → EqvD (.agg rawO) (.agg (encJ objE))] (by kernel_rfl) (by kernel_rfl) (by kernel_rfl) ⟨EqvI.flatA rfl, fun _ => q⟩ ?_
  refine Wp.ret' (by kernel_rfl) ?_
  exact FinQ.pure (rs' := [.c (.bool knownB)]) (by kernel_rfl) (by rw [known_true]) (by kernel_rfl)

def eAt (n : Int) (k : Nat) : Int := [n, withinT n 24].getD k 0
def rawE (n : Int) : Nat → Nat → Cell := fun i j => nthD [.int .i64 n, .int .i64 (withinT n 24)] (i * 1 + j)
theorem rawE_eq (n : Int) : ∀ k : Nat, k < 2 → rawE n k 0 = .int .i64 (eAt n k) := by
  intro k hk
  obtain rfl | rfl : k = 0 ∨ k = 1 := by omega
  all_goals rfl
def lawInv (n : Int) (k : Nat) : St := ⟨[(3, .v (.c (.row 1 0 0 2))), (4, .v (.c (.int .i64 (k : Int))))], [(0, .row 23 1 2 (fun i _ => .int .i64 (eAt n i)))], 16⟩
theorem law_ok (n : Int) : Pur Tryd.prog Gd 3 [.c (.int .i64 n)] [.c (.bool true)] := by
  refine Pur.of Tryd.func3 (by kernel_rfl) (by kernel_rfl) (by kernel_rfl) ?_
  refine Wp.go (mx := true) (fun _ => mixed) [(1, {cs := [(0, pc known_ok)]}), (3, {cs := [(2, pc (within_ok n 24 (by omega) (by omega)))]})] 100 [false] [(!true) = false] (by kernel_rfl) (by kernel_rfl) (by kernel_rfl) rfl ?_
  refine Wp.loopK (by kernel_rfl) (lawInv n) (fun k => k ≤ 2) (fun k => 2 - k) 0 (Ent.trans (Ent.blkE (id := 96) (b := .row 23 1 2 (rawE n)) (b' := .row 23 1 2 (fun i _ => .int .i64 (eAt n i))) (by kernel_rfl) (BlkEqv.row_ext rfl (fun i hi j hj => by obtain rfl : j = 0 := Nat.lt_one_iff.1 hj; exact rawE_eq n i hi)) rfl) (Ent.of [(0, 96)] (by kernel_rfl) (by kernel_rfl) (by kernel_rfl) ⟨fun _ _ _ _ => trivial, trivial⟩)) (Nat.zero_le _) ?_
  intro k L hk again
  refine Wp.go (mx := true) (fun _ => mixed) [] 100 [] [] (by kernel_rfl) (by kernel_rfl) (by kernel_rfl) trivial ?_
  refine Wp.cond' (by kernel_rfl) (decide ((k : Int) < 2)) (by kernel_rfl) (fun h => ?_) (fun h => ?_)
  · have hk' : k < 2 := by simp at h; omega
    refine Wp.go (mx := true) (fun _ => mixed) [(7, {fm := [(3, .c (.int .i64 (eAt n k)))]}), (8, {cs := [(1, pc (Word_ok (eAt n k))), (3, pc (Word24_ok (eAt n k))), (7, pc (Status_ok (eAt n k))), (9, pc (Status24_ok (eAt n k))), (14, pc (Fail_ok (eAt n k))), (16, pc (Fail24_ok (eAt n k))), (17, pc (sameT_ok (failT (eAt n k)) (failT (eAt n k)) (by show 2 < _; omega)))]})] 100 [] [0 ≤ (k : Int) ∧ (k : Int) < ((2 : Nat) : Int), EqvI (.c (.int .i64 (eAt n (0 + k)))) (.c (.int .i64 (eAt n k))), EqvD (.c (.int .i64 (eAt n (0 + k)))) (.c (.int .i64 (eAt n k))), 0 + k < 2] (by kernel_rfl) (by kernel_rfl) (by kernel_rfl) ⟨by omega, fun _ _ => trivial, by rw [Nat.zero_add]; exact fun _ _ _ h => h, by show 0 + k < 2; omega⟩ ?_
    refine Wp.cond' (by kernel_rfl) (cond (cond (!(wordT (eAt n k) == wordT (eAt n k))) true (statT (eAt n k) != statT (eAt n k))) true (!(sameT (failT (eAt n k)) (failT (eAt n k))))) (by kernel_rfl) (fun h => ?_) (fun h => ?_)
    · rw [sameT_refl] at h
      simp at h
    · refine Wp.go (mx := true) (fun _ => mixed) [] 100 [] [inR .i64 ((k : Int) + 1)] (by kernel_rfl) (by kernel_rfl) (by kernel_rfl) (inR64 (by omega) (by omega)) ?_
      exact Wp.lpK (by kernel_rfl) (again _ (k + 1) (show k + 1 ≤ 2 by omega) (by show 2 - (k + 1) < 2 - k; omega) (Ent.of [] (by kernel_rfl) (by kernel_rfl) (by kernel_rfl) ⟨fun _ _ _ _ => trivial, trivial⟩))
  · refine Wp.go (mx := true) (fun _ => mixed) [] 100 [] [] (by kernel_rfl) (by kernel_rfl) (by kernel_rfl) trivial ?_
    refine Wp.ret' (by kernel_rfl) ?_
    exact FinQ.pure (rs' := [.c (.bool true)]) (by kernel_rfl) rfl (by kernel_rfl)
end Go.Proofs.Tw
