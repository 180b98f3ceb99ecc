/- Own texts for this claim: Ce, Cf, Cg, Pk, Sto, SvUnr, Kn, Mh, SvLit, Pu1, Sto2, SvNil, Ow, Pp, Wt, Pq, Pr, Pc, Pd. -/
import Derived.Test.YtmacpjddafcjcaaGreatDoorPushCheckCardP6
import Derived.Test.YtmacpjddafcjcaaGreatDoorPushCheckCardP5
import Derived.Test.YtmacpjddafcjcaaGreatDoorPushCheckCardP3
set_option linter.all false

section
open Go Go.Sv Go.RowKit
namespace Go.Proofs.Tw
attribute [local irreducible] Wp FinQ resV Ent Pur Go.Sv.Fn Sat0
set_option maxRecDepth 100000
set_option maxHeartbeats 4000000
variable {G : Nat → Option (List Cell)}

theorem term_k3 (b : List UInt8) (hb : b.length ≤ 30000000000000) (f p l : Nat) (hf : f < 16) (hl : 0 < l) (hl2 : l ≤ 64) (hp : p < b.length) (hk : (b.getD p 0).toNat = 3) {F : Nat → Nat → Cell} {p1 : Nat} {c1 : Int} (ck : FnB Tryz.prog G 268 [cB b (p + 1) ((64 : Int) - (l : Int) + 1)] [.c (.ptr 0 0), .c (.int .i64 1), .c (.int .i64 (17 - (f : Int)))] [.c (.sl 4 1 F), .c .nilif] [(0, cB b p1 c1)]) : FnB Tryz.prog G 256 [cB b p ((64 : Int) - (l : Int))] [.c (.ptr 0 0), .c (.int .i64 (17 - ((f + 1 : Nat) : Int)))] [.agg (encK ⟨3, 0, [], 1, F⟩), .c .nilif] [(0, cB b p1 c1)] := by
  refine Fn.of' Tryz.func256 (by kernel_rfl) (by kernel_rfl) (by kernel_rfl) (by kernel_rfl) trivial ?_
  have ht0 : (bif decide ((64 : Int) - (l : Int) + 1 > 64) then true else decide (17 - ((f + 1 : Nat) : Int) > 16)) = false := by rw [decide_eq_false (by omega), decide_eq_false (by omega)]; rfl
  have c9 := take_one (G := G) b hb p ((64 : Int) - (l : Int) + 1) hp hk
  have e2 := deep_D f
  refine Wp.go (mx := true) (fun _ => mixed) [(16, {cs := [(3, cb [0] ck)], fm := [(2, .c (.int .i64 ((17 : Int) - (f : Int))))]}), (4, {cs := [(1, cb [0] c9)]})] 100 [false, false, false, false, true, true] [inR IntKind.i64 ((64 : Int) - (↑l : Int) + (1 : Int)), (bif decide ((64 : Int) - (↑l : Int) + (1 : Int) > (64 : Int)) then true else decide ((17 : Int) - (↑(f + (1 : Nat)) : Int) > (16 : Int))) = false, (!true) = false, (0 : Int) ≤ (0 : Int) ∧ (0 : Int) < (↑(1 : Nat) : Int), (IntKind.i64.wrap (↑(3 : Nat) : Int) == (1 : Int)) = false, (IntKind.i64.wrap (↑(3 : Nat) : Int) == (2 : Int)) = false, (IntKind.i64.wrap (↑(3 : Nat) : Int) == (3 : Int)) = true, (IntKind.i64.wrap (↑(3 : Nat) : Int) == (3 : Int)) = true, EqvI (V1.c (Cell.int .i64 ((17 : Int) - (↑(f + (1 : Nat)) : Int) + (1 : Int)))) (V1.c (Cell.int .i64 ((17 : Int) - (↑f : Int)))), EqvD (V1.c (Cell.int .i64 ((17 : Int) - (↑(f + (1 : Nat)) : Int) + (1 : Int)))) (V1.c (Cell.int .i64 ((17 : Int) - (↑f : Int)))), inR IntKind.i64 ((17 : Int) - (↑(f + (1 : Nat)) : Int) + (1 : Int))] (by kernel_rfl) (by kernel_rfl) (by kernel_rfl) ⟨inR64 (by omega) (by omega), (by assumption), rfl, (by omega), rfl, rfl, rfl, rfl, fun _ _ => trivial, (by assumption), inR64 (by omega) (by omega)⟩ ?_
  refine Wp.ret' (by kernel_rfl) ?_
  exact FinQ.blk [] (by kernel_rfl) (by kernel_rfl) (by kernel_rfl) (by kernel_rfl) (by kernel_rfl) trivial
theorem term_kx3 (b : List UInt8) (hb : b.length ≤ 30000000000000) (f p l : Nat) (hf : f < 16) (hl : 0 < l) (hl2 : l ≤ 64) (hp : p < b.length) (hk : (b.getD p 0).toNat = 3) {p1 : Nat} {c1 e : Int} (ck : FnB Tryz.prog G 268 [cB b (p + 1) ((64 : Int) - (l : Int) + 1)] [.c (.ptr 0 0), .c (.int .i64 1), .c (.int .i64 (17 - (f : Int)))] [.c .nilsl, .c (errC e)] [(0, cB b p1 c1)]) : FnB Tryz.prog G 256 [cB b p ((64 : Int) - (l : Int))] [.c (.ptr 0 0), .c (.int .i64 (17 - ((f + 1 : Nat) : Int)))] [.agg (encK ⟨3, 0, [], 0, fun _ _ => .nilif⟩), .c (errC e)] [(0, cB b p1 c1)] := by
  refine Fn.of' Tryz.func256 (by kernel_rfl) (by kernel_rfl) (by kernel_rfl) (by kernel_rfl) trivial ?_
  have ht0 : (bif decide ((64 : Int) - (l : Int) + 1 > 64) then true else decide (17 - ((f + 1 : Nat) : Int) > 16)) = false := by rw [decide_eq_false (by omega), decide_eq_false (by omega)]; rfl
  have c9 := take_one (G := G) b hb p ((64 : Int) - (l : Int) + 1) hp hk
  have e2 := deep_D f
  have eD := @kids_D 3 0 [] (fun _ _ => .nilif)
  have eI := @kids_I 3 0 [] (fun _ _ => .nilif)
  refine Wp.go (mx := true) (fun _ => mixed) [(16, {cs := [(3, cb [0] ck)], fm := [(2, .c (.int .i64 ((17 : Int) - (f : Int))))]}), (21, {fm := [(0, .agg [.int .i64 3, .int .i64 0, .str [], .sl 4 0 (fun _ _ => .nilif)])]}), (4, {cs := [(1, cb [0] c9)]})] 100 [false, false, false, false, true, true] [inR IntKind.i64 ((64 : Int) - (↑l : Int) + (1 : Int)), (bif decide ((64 : Int) - (↑l : Int) + (1 : Int) > (64 : Int)) then true else decide ((17 : Int) - (↑(f + (1 : Nat)) : Int) > (16 : Int))) = false, (!true) = false, (0 : Int) ≤ (0 : Int) ∧ (0 : Int) < (↑(1 : Nat) : Int), (IntKind.i64.wrap (↑(3 : Nat) : Int) == (1 : Int)) = false, (IntKind.i64.wrap (↑(3 : Nat) : Int) == (2 : Int)) = false, (IntKind.i64.wrap (↑(3 : Nat) : Int) == (3 : Int)) = true, (IntKind.i64.wrap (↑(3 : Nat) : Int) == (3 : Int)) = true, EqvI (V1.c (Cell.int .i64 ((17 : Int) - (↑(f + (1 : Nat)) : Int) + (1 : Int)))) (V1.c (Cell.int .i64 ((17 : Int) - (↑f : Int)))), EqvD (V1.c (Cell.int .i64 ((17 : Int) - (↑(f + (1 : Nat)) : Int) + (1 : Int)))) (V1.c (Cell.int .i64 ((17 : Int) - (↑f : Int)))), inR IntKind.i64 ((17 : Int) - (↑(f + (1 : Nat)) : Int) + (1 : Int)), EqvI (V1.agg [Cell.int .i64 (IntKind.i64.wrap (↑(3 : Nat) : Int)), Cell.int .i64 (0 : Int), Cell.str [], Cell.nilsl]) (V1.agg [Cell.int .i64 (3 : Int), Cell.int .i64 (0 : Int), Cell.str [], Cell.sl (4 : Nat) (0 : Nat) fun (x x_1 : Nat) => Cell.nilif]), EqvD (V1.agg [Cell.int .i64 (IntKind.i64.wrap (↑(3 : Nat) : Int)), Cell.int .i64 (0 : Int), Cell.str [], Cell.nilsl]) (V1.agg [Cell.int .i64 (3 : Int), Cell.int .i64 (0 : Int), Cell.str [], Cell.sl (4 : Nat) (0 : Nat) fun (x x_1 : Nat) => Cell.nilif])] (by kernel_rfl) (by kernel_rfl) (by kernel_rfl) ⟨inR64 (by omega) (by omega), (by assumption), rfl, (by omega), rfl, rfl, rfl, rfl, fun _ _ => trivial, (by assumption), inR64 (by omega) (by omega), eqvI_flat _ _ (by kernel_rfl), (show EqvD (V1.agg [Cell.int .i64 (IntKind.i64.wrap (↑(3 : Nat) : Int)), Cell.int .i64 (0 : Int), Cell.str [], Cell.nilsl]) (V1.agg [Cell.int .i64 (3 : Int), Cell.int .i64 (0 : Int), Cell.str [], Cell.sl (4 : Nat) (0 : Nat) fun (x x_1 : Nat) => Cell.nilif]) from (by assumption))⟩ ?_
  refine Wp.ret' (by kernel_rfl) ?_
  exact FinQ.blk [] (by kernel_rfl) (by kernel_rfl) (by kernel_rfl) (by kernel_rfl) (by kernel_rfl) trivial
theorem term_k4 (b : List UInt8) (hb : b.length ≤ 30000000000000) (f p l : Nat) (hf : f < 16) (hl : 0 < l) (hl2 : l ≤ 64) (hp : p < b.length) (hk : (b.getD p 0).toNat = 4) {F : Nat → Nat → Cell} {p1 : Nat} {c1 : Int} (ck : FnB Tryz.prog G 268 [cB b (p + 1) ((64 : Int) - (l : Int) + 1)] [.c (.ptr 0 0), .c (.int .i64 1), .c (.int .i64 (17 - (f : Int)))] [.c (.sl 4 1 F), .c .nilif] [(0, cB b p1 c1)]) : FnB Tryz.prog G 256 [cB b p ((64 : Int) - (l : Int))] [.c (.ptr 0 0), .c (.int .i64 (17 - ((f + 1 : Nat) : Int)))] [.agg (encK ⟨4, 0, [], 1, F⟩), .c .nilif] [(0, cB b p1 c1)] := by
  refine Fn.of' Tryz.func256 (by kernel_rfl) (by kernel_rfl) (by kernel_rfl) (by kernel_rfl) trivial ?_
  have ht0 : (bif decide ((64 : Int) - (l : Int) + 1 > 64) then true else decide (17 - ((f + 1 : Nat) : Int) > 16)) = false := by rw [decide_eq_false (by omega), decide_eq_false (by omega)]; rfl
  have c9 := take_one (G := G) b hb p ((64 : Int) - (l : Int) + 1) hp hk
  have e2 := deep_D f
  refine Wp.go (mx := true) (fun _ => mixed) [(16, {cs := [(3, cb [0] ck)], fm := [(2, .c (.int .i64 ((17 : Int) - (f : Int))))]}), (4, {cs := [(1, cb [0] c9)]})] 100 [false, false, false, false, false, true] [inR IntKind.i64 ((64 : Int) - (↑l : Int) + (1 : Int)), (bif decide ((64 : Int) - (↑l : Int) + (1 : Int) > (64 : Int)) then true else decide ((17 : Int) - (↑(f + (1 : Nat)) : Int) > (16 : Int))) = false, (!true) = false, (0 : Int) ≤ (0 : Int) ∧ (0 : Int) < (↑(1 : Nat) : Int), (IntKind.i64.wrap (↑(4 : Nat) : Int) == (1 : Int)) = false, (IntKind.i64.wrap (↑(4 : Nat) : Int) == (2 : Int)) = false, (IntKind.i64.wrap (↑(4 : Nat) : Int) == (3 : Int)) = false, (IntKind.i64.wrap (↑(4 : Nat) : Int) == (4 : Int)) = true, EqvI (V1.c (Cell.int .i64 ((17 : Int) - (↑(f + (1 : Nat)) : Int) + (1 : Int)))) (V1.c (Cell.int .i64 ((17 : Int) - (↑f : Int)))), EqvD (V1.c (Cell.int .i64 ((17 : Int) - (↑(f + (1 : Nat)) : Int) + (1 : Int)))) (V1.c (Cell.int .i64 ((17 : Int) - (↑f : Int)))), inR IntKind.i64 ((17 : Int) - (↑(f + (1 : Nat)) : Int) + (1 : Int))] (by kernel_rfl) (by kernel_rfl) (by kernel_rfl) ⟨inR64 (by omega) (by omega), (by assumption), rfl, (by omega), rfl, rfl, rfl, rfl, fun _ _ => trivial, (by assumption), inR64 (by omega) (by omega)⟩ ?_
  refine Wp.ret' (by kernel_rfl) ?_
  exact FinQ.blk [] (by kernel_rfl) (by kernel_rfl) (by kernel_rfl) (by kernel_rfl) (by kernel_rfl) trivial
theorem term_kx4 (b : List UInt8) (hb : b.length ≤ 30000000000000) (f p l : Nat) (hf : f < 16) (hl : 0 < l) (hl2 : l ≤ 64) (hp : p < b.length) (hk : (b.getD p 0).toNat = 4) {p1 : Nat} {c1 e : Int} (ck : FnB Tryz.prog G 268 [cB b (p + 1) ((64 : Int) - (l : Int) + 1)] [.c (.ptr 0 0), .c (.int .i64 1), .c (.int .i64 (17 - (f : Int)))] [.c .nilsl, .c (errC e)] [(0, cB b p1 c1)]) : FnB Tryz.prog G 256 [cB b p ((64 : Int) - (l : Int))] [.c (.ptr 0 0), .c (.int .i64 (17 - ((f + 1 : Nat) : Int)))] [.agg (encK ⟨4, 0, [], 0, fun _ _ => .nilif⟩), .c (errC e)] [(0, cB b p1 c1)] := by
  refine Fn.of' Tryz.func256 (by kernel_rfl) (by kernel_rfl) (by kernel_rfl) (by kernel_rfl) trivial ?_
  have ht0 : (bif decide ((64 : Int) - (l : Int) + 1 > 64) then true else decide (17 - ((f + 1 : Nat) : Int) > 16)) = false := by rw [decide_eq_false (by omega), decide_eq_false (by omega)]; rfl
  have c9 := take_one (G := G) b hb p ((64 : Int) - (l : Int) + 1) hp hk
  have e2 := deep_D f
  have eD := @kids_D 4 0 [] (fun _ _ => .nilif)
  have eI := @kids_I 4 0 [] (fun _ _ => .nilif)
  refine Wp.go (mx := true) (fun _ => mixed) [(16, {cs := [(3, cb [0] ck)], fm := [(2, .c (.int .i64 ((17 : Int) - (f : Int))))]}), (21, {fm := [(0, .agg [.int .i64 4, .int .i64 0, .str [], .sl 4 0 (fun _ _ => .nilif)])]}), (4, {cs := [(1, cb [0] c9)]})] 100 [false, false, false, false, false, true] [inR IntKind.i64 ((64 : Int) - (↑l : Int) + (1 : Int)), (bif decide ((64 : Int) - (↑l : Int) + (1 : Int) > (64 : Int)) then true else decide ((17 : Int) - (↑(f + (1 : Nat)) : Int) > (16 : Int))) = false, (!true) = false, (0 : Int) ≤ (0 : Int) ∧ (0 : Int) < (↑(1 : Nat) : Int), (IntKind.i64.wrap (↑(4 : Nat) : Int) == (1 : Int)) = false, (IntKind.i64.wrap (↑(4 : Nat) : Int) == (2 : Int)) = false, (IntKind.i64.wrap (↑(4 : Nat) : Int) == (3 : Int)) = false, (IntKind.i64.wrap (↑(4 : Nat) : Int) == (4 : Int)) = true, EqvI (V1.c (Cell.int .i64 ((17 : Int) - (↑(f + (1 : Nat)) : Int) + (1 : Int)))) (V1.c (Cell.int .i64 ((17 : Int) - (↑f : Int)))), EqvD (V1.c (Cell.int .i64 ((17 : Int) - (↑(f + (1 : Nat)) : Int) + (1 : Int)))) (V1.c (Cell.int .i64 ((17 : Int) - (↑f : Int)))), inR IntKind.i64 ((17 : Int) - (↑(f + (1 : Nat)) : Int) + (1 : Int)), EqvI (V1.agg [Cell.int .i64 (IntKind.i64.wrap (↑(4 : Nat) : Int)), Cell.int .i64 (0 : Int), Cell.str [], Cell.nilsl]) (V1.agg [Cell.int .i64 (4 : Int), Cell.int .i64 (0 : Int), Cell.str [], Cell.sl (4 : Nat) (0 : Nat) fun (x x_1 : Nat) => Cell.nilif]), EqvD (V1.agg [Cell.int .i64 (IntKind.i64.wrap (↑(4 : Nat) : Int)), Cell.int .i64 (0 : Int), Cell.str [], Cell.nilsl]) (V1.agg [Cell.int .i64 (4 : Int), Cell.int .i64 (0 : Int), Cell.str [], Cell.sl (4 : Nat) (0 : Nat) fun (x x_1 : Nat) => Cell.nilif])] (by kernel_rfl) (by kernel_rfl) (by kernel_rfl) ⟨inR64 (by omega) (by omega), (by assumption), rfl, (by omega), rfl, rfl, rfl, rfl, fun _ _ => trivial, (by assumption), inR64 (by omega) (by omega), eqvI_flat _ _ (by kernel_rfl), (show EqvD (V1.agg [Cell.int .i64 (IntKind.i64.wrap (↑(4 : Nat) : Int)), Cell.int .i64 (0 : Int), Cell.str [], Cell.nilsl]) (V1.agg [Cell.int .i64 (4 : Int), Cell.int .i64 (0 : Int), Cell.str [], Cell.sl (4 : Nat) (0 : Nat) fun (x x_1 : Nat) => Cell.nilif]) from (by assumption))⟩ ?_
  refine Wp.ret' (by kernel_rfl) ?_
  exact FinQ.blk [] (by kernel_rfl) (by kernel_rfl) (by kernel_rfl) (by kernel_rfl) (by kernel_rfl) trivial
theorem term_k5 (b : List UInt8) (hb : b.length ≤ 30000000000000) (f p l : Nat) (hf : f < 16) (hl : 0 < l) (hl2 : l ≤ 64) (hp : p < b.length) (hk : (b.getD p 0).toNat = 5) {F : Nat → Nat → Cell} {p1 : Nat} {c1 : Int} (ck : FnB Tryz.prog G 268 [cB b (p + 1) ((64 : Int) - (l : Int) + 1)] [.c (.ptr 0 0), .c (.int .i64 2), .c (.int .i64 (17 - (f : Int)))] [.c (.sl 4 2 F), .c .nilif] [(0, cB b p1 c1)]) : FnB Tryz.prog G 256 [cB b p ((64 : Int) - (l : Int))] [.c (.ptr 0 0), .c (.int .i64 (17 - ((f + 1 : Nat) : Int)))] [.agg (encK ⟨5, 0, [], 2, F⟩), .c .nilif] [(0, cB b p1 c1)] := by
  refine Fn.of' Tryz.func256 (by kernel_rfl) (by kernel_rfl) (by kernel_rfl) (by kernel_rfl) trivial ?_
  have ht0 : (bif decide ((64 : Int) - (l : Int) + 1 > 64) then true else decide (17 - ((f + 1 : Nat) : Int) > 16)) = false := by rw [decide_eq_false (by omega), decide_eq_false (by omega)]; rfl
  have c9 := take_one (G := G) b hb p ((64 : Int) - (l : Int) + 1) hp hk
  have e2 := deep_D f
  refine Wp.go (mx := true) (fun _ => mixed) [(20, {cs := [(3, cb [0] ck)], fm := [(2, .c (.int .i64 ((17 : Int) - (f : Int))))]}), (4, {cs := [(1, cb [0] c9)]})] 100 [false, false, false, false, false, false, true, true] [inR IntKind.i64 ((64 : Int) - (↑l : Int) + (1 : Int)), (bif decide ((64 : Int) - (↑l : Int) + (1 : Int) > (64 : Int)) then true else decide ((17 : Int) - (↑(f + (1 : Nat)) : Int) > (16 : Int))) = false, (!true) = false, (0 : Int) ≤ (0 : Int) ∧ (0 : Int) < (↑(1 : Nat) : Int), (IntKind.i64.wrap (↑(5 : Nat) : Int) == (1 : Int)) = false, (IntKind.i64.wrap (↑(5 : Nat) : Int) == (2 : Int)) = false, (IntKind.i64.wrap (↑(5 : Nat) : Int) == (3 : Int)) = false, (IntKind.i64.wrap (↑(5 : Nat) : Int) == (4 : Int)) = false, (IntKind.i64.wrap (↑(5 : Nat) : Int) == (5 : Int)) = true, (IntKind.i64.wrap (↑(5 : Nat) : Int) == (5 : Int)) = true, EqvI (V1.c (Cell.int .i64 ((17 : Int) - (↑(f + (1 : Nat)) : Int) + (1 : Int)))) (V1.c (Cell.int .i64 ((17 : Int) - (↑f : Int)))), EqvD (V1.c (Cell.int .i64 ((17 : Int) - (↑(f + (1 : Nat)) : Int) + (1 : Int)))) (V1.c (Cell.int .i64 ((17 : Int) - (↑f : Int)))), inR IntKind.i64 ((17 : Int) - (↑(f + (1 : Nat)) : Int) + (1 : Int))] (by kernel_rfl) (by kernel_rfl) (by kernel_rfl) ⟨inR64 (by omega) (by omega), (by assumption), rfl, (by omega), rfl, rfl, rfl, rfl, rfl, rfl, fun _ _ => trivial, (by assumption), inR64 (by omega) (by omega)⟩ ?_
  refine Wp.ret' (by kernel_rfl) ?_
  exact FinQ.blk [] (by kernel_rfl) (by kernel_rfl) (by kernel_rfl) (by kernel_rfl) (by kernel_rfl) trivial
theorem term_kx5 (b : List UInt8) (hb : b.length ≤ 30000000000000) (f p l : Nat) (hf : f < 16) (hl : 0 < l) (hl2 : l ≤ 64) (hp : p < b.length) (hk : (b.getD p 0).toNat = 5) {p1 : Nat} {c1 e : Int} (ck : FnB Tryz.prog G 268 [cB b (p + 1) ((64 : Int) - (l : Int) + 1)] [.c (.ptr 0 0), .c (.int .i64 2), .c (.int .i64 (17 - (f : Int)))] [.c .nilsl, .c (errC e)] [(0, cB b p1 c1)]) : FnB Tryz.prog G 256 [cB b p ((64 : Int) - (l : Int))] [.c (.ptr 0 0), .c (.int .i64 (17 - ((f + 1 : Nat) : Int)))] [.agg (encK ⟨5, 0, [], 0, fun _ _ => .nilif⟩), .c (errC e)] [(0, cB b p1 c1)] := by
  refine Fn.of' Tryz.func256 (by kernel_rfl) (by kernel_rfl) (by kernel_rfl) (by kernel_rfl) trivial ?_
  have ht0 : (bif decide ((64 : Int) - (l : Int) + 1 > 64) then true else decide (17 - ((f + 1 : Nat) : Int) > 16)) = false := by rw [decide_eq_false (by omega), decide_eq_false (by omega)]; rfl
  have c9 := take_one (G := G) b hb p ((64 : Int) - (l : Int) + 1) hp hk
  have e2 := deep_D f
  have eD := @kids_D 5 0 [] (fun _ _ => .nilif)
  have eI := @kids_I 5 0 [] (fun _ _ => .nilif)
  refine Wp.go (mx := true) (fun _ => mixed) [(20, {cs := [(3, cb [0] ck)], fm := [(2, .c (.int .i64 ((17 : Int) - (f : Int))))]}), (21, {fm := [(0, .agg [.int .i64 5, .int .i64 0, .str [], .sl 4 0 (fun _ _ => .nilif)])]}), (4, {cs := [(1, cb [0] c9)]})] 100 [false, false, false, false, false, false, true, true] [inR IntKind.i64 ((64 : Int) - (↑l : Int) + (1 : Int)), (bif decide ((64 : Int) - (↑l : Int) + (1 : Int) > (64 : Int)) then true else decide ((17 : Int) - (↑(f + (1 : Nat)) : Int) > (16 : Int))) = false, (!true) = false, (0 : Int) ≤ (0 : Int) ∧ (0 : Int) < (↑(1 : Nat) : Int), (IntKind.i64.wrap (↑(5 : Nat) : Int) == (1 : Int)) = false, (IntKind.i64.wrap (↑(5 : Nat) : Int) == (2 : Int)) = false, (IntKind.i64.wrap (↑(5 : Nat) : Int) == (3 : Int)) = false, (IntKind.i64.wrap (↑(5 : Nat) : Int) == (4 : Int)) = false, (IntKind.i64.wrap (↑(5 : Nat) : Int) == (5 : Int)) = true, (IntKind.i64.wrap (↑(5 : Nat) : Int) == (5 : Int)) = true, EqvI (V1.c (Cell.int .i64 ((17 : Int) - (↑(f + (1 : Nat)) : Int) + (1 : Int)))) (V1.c (Cell.int .i64 ((17 : Int) - (↑f : Int)))), EqvD (V1.c (Cell.int .i64 ((17 : Int) - (↑(f + (1 : Nat)) : Int) + (1 : Int)))) (V1.c (Cell.int .i64 ((17 : Int) - (↑f : Int)))), inR IntKind.i64 ((17 : Int) - (↑(f + (1 : Nat)) : Int) + (1 : Int)), EqvI (V1.agg [Cell.int .i64 (IntKind.i64.wrap (↑(5 : Nat) : Int)), Cell.int .i64 (0 : Int), Cell.str [], Cell.nilsl]) (V1.agg [Cell.int .i64 (5 : Int), Cell.int .i64 (0 : Int), Cell.str [], Cell.sl (4 : Nat) (0 : Nat) fun (x x_1 : Nat) => Cell.nilif]), EqvD (V1.agg [Cell.int .i64 (IntKind.i64.wrap (↑(5 : Nat) : Int)), Cell.int .i64 (0 : Int), Cell.str [], Cell.nilsl]) (V1.agg [Cell.int .i64 (5 : Int), Cell.int .i64 (0 : Int), Cell.str [], Cell.sl (4 : Nat) (0 : Nat) fun (x x_1 : Nat) => Cell.nilif])] (by kernel_rfl) (by kernel_rfl) (by kernel_rfl) ⟨inR64 (by omega) (by omega), (by assumption), rfl, (by omega), rfl, rfl, rfl, rfl, rfl, rfl, fun _ _ => trivial, (by assumption), inR64 (by omega) (by omega), eqvI_flat _ _ (by kernel_rfl), (show EqvD (V1.agg [Cell.int .i64 (IntKind.i64.wrap (↑(5 : Nat) : Int)), Cell.int .i64 (0 : Int), Cell.str [], Cell.nilsl]) (V1.agg [Cell.int .i64 (5 : Int), Cell.int .i64 (0 : Int), Cell.str [], Cell.sl (4 : Nat) (0 : Nat) fun (x x_1 : Nat) => Cell.nilif]) from (by assumption))⟩ ?_
  refine Wp.ret' (by kernel_rfl) ?_
  exact FinQ.blk [] (by kernel_rfl) (by kernel_rfl) (by kernel_rfl) (by kernel_rfl) (by kernel_rfl) trivial
theorem term_k6 (b : List UInt8) (hb : b.length ≤ 30000000000000) (f p l : Nat) (hf : f < 16) (hl : 0 < l) (hl2 : l ≤ 64) (hp : p < b.length) (hk : (b.getD p 0).toNat = 6) {F : Nat → Nat → Cell} {p1 : Nat} {c1 : Int} (ck : FnB Tryz.prog G 268 [cB b (p + 1) ((64 : Int) - (l : Int) + 1)] [.c (.ptr 0 0), .c (.int .i64 2), .c (.int .i64 (17 - (f : Int)))] [.c (.sl 4 2 F), .c .nilif] [(0, cB b p1 c1)]) : FnB Tryz.prog G 256 [cB b p ((64 : Int) - (l : Int))] [.c (.ptr 0 0), .c (.int .i64 (17 - ((f + 1 : Nat) : Int)))] [.agg (encK ⟨6, 0, [], 2, F⟩), .c .nilif] [(0, cB b p1 c1)] := by
  refine Fn.of' Tryz.func256 (by kernel_rfl) (by kernel_rfl) (by kernel_rfl) (by kernel_rfl) trivial ?_
  have ht0 : (bif decide ((64 : Int) - (l : Int) + 1 > 64) then true else decide (17 - ((f + 1 : Nat) : Int) > 16)) = false := by rw [decide_eq_false (by omega), decide_eq_false (by omega)]; rfl
  have c9 := take_one (G := G) b hb p ((64 : Int) - (l : Int) + 1) hp hk
  have e2 := deep_D f
  refine Wp.go (mx := true) (fun _ => mixed) [(20, {cs := [(3, cb [0] ck)], fm := [(2, .c (.int .i64 ((17 : Int) - (f : Int))))]}), (4, {cs := [(1, cb [0] c9)]})] 100 [false, false, false, false, false, false, false, true, true] [inR IntKind.i64 ((64 : Int) - (↑l : Int) + (1 : Int)), (bif decide ((64 : Int) - (↑l : Int) + (1 : Int) > (64 : Int)) then true else decide ((17 : Int) - (↑(f + (1 : Nat)) : Int) > (16 : Int))) = false, (!true) = false, (0 : Int) ≤ (0 : Int) ∧ (0 : Int) < (↑(1 : Nat) : Int), (IntKind.i64.wrap (↑(6 : Nat) : Int) == (1 : Int)) = false, (IntKind.i64.wrap (↑(6 : Nat) : Int) == (2 : Int)) = false, (IntKind.i64.wrap (↑(6 : Nat) : Int) == (3 : Int)) = false, (IntKind.i64.wrap (↑(6 : Nat) : Int) == (4 : Int)) = false, (IntKind.i64.wrap (↑(6 : Nat) : Int) == (5 : Int)) = false, (IntKind.i64.wrap (↑(6 : Nat) : Int) == (6 : Int)) = true, (IntKind.i64.wrap (↑(6 : Nat) : Int) == (6 : Int)) = true, EqvI (V1.c (Cell.int .i64 ((17 : Int) - (↑(f + (1 : Nat)) : Int) + (1 : Int)))) (V1.c (Cell.int .i64 ((17 : Int) - (↑f : Int)))), EqvD (V1.c (Cell.int .i64 ((17 : Int) - (↑(f + (1 : Nat)) : Int) + (1 : Int)))) (V1.c (Cell.int .i64 ((17 : Int) - (↑f : Int)))), inR IntKind.i64 ((17 : Int) - (↑(f + (1 : Nat)) : Int) + (1 : Int))] (by kernel_rfl) (by kernel_rfl) (by kernel_rfl) ⟨inR64 (by omega) (by omega), (by assumption), rfl, (by omega), rfl, rfl, rfl, rfl, rfl, rfl, rfl, fun _ _ => trivial, (by assumption), inR64 (by omega) (by omega)⟩ ?_
  refine Wp.ret' (by kernel_rfl) ?_
  exact FinQ.blk [] (by kernel_rfl) (by kernel_rfl) (by kernel_rfl) (by kernel_rfl) (by kernel_rfl) trivial
theorem term_kx6 (b : List UInt8) (hb : b.length ≤ 30000000000000) (f p l : Nat) (hf : f < 16) (hl : 0 < l) (hl2 : l ≤ 64) (hp : p < b.length) (hk : (b.getD p 0).toNat = 6) {p1 : Nat} {c1 e : Int} (ck : FnB Tryz.prog G 268 [cB b (p + 1) ((64 : Int) - (l : Int) + 1)] [.c (.ptr 0 0), .c (.int .i64 2), .c (.int .i64 (17 - (f : Int)))] [.c .nilsl, .c (errC e)] [(0, cB b p1 c1)]) : FnB Tryz.prog G 256 [cB b p ((64 : Int) - (l : Int))] [.c (.ptr 0 0), .c (.int .i64 (17 - ((f + 1 : Nat) : Int)))] [.agg (encK ⟨6, 0, [], 0, fun _ _ => .nilif⟩), .c (errC e)] [(0, cB b p1 c1)] := by
  refine Fn.of' Tryz.func256 (by kernel_rfl) (by kernel_rfl) (by kernel_rfl) (by kernel_rfl) trivial ?_
  have ht0 : (bif decide ((64 : Int) - (l : Int) + 1 > 64) then true else decide (17 - ((f + 1 : Nat) : Int) > 16)) = false := by rw [decide_eq_false (by omega), decide_eq_false (by omega)]; rfl
  have c9 := take_one (G := G) b hb p ((64 : Int) - (l : Int) + 1) hp hk
  have e2 := deep_D f
  have eD := @kids_D 6 0 [] (fun _ _ => .nilif)
  have eI := @kids_I 6 0 [] (fun _ _ => .nilif)
  refine Wp.go (mx := true) (fun _ => mixed) [(20, {cs := [(3, cb [0] ck)], fm := [(2, .c (.int .i64 ((17 : Int) - (f : Int))))]}), (21, {fm := [(0, .agg [.int .i64 6, .int .i64 0, .str [], .sl 4 0 (fun _ _ => .nilif)])]}), (4, {cs := [(1, cb [0] c9)]})] 100 [false, false, false, false, false, false, false, true, true] [inR IntKind.i64 ((64 : Int) - (↑l : Int) + (1 : Int)), (bif decide ((64 : Int) - (↑l : Int) + (1 : Int) > (64 : Int)) then true else decide ((17 : Int) - (↑(f + (1 : Nat)) : Int) > (16 : Int))) = false, (!true) = false, (0 : Int) ≤ (0 : Int) ∧ (0 : Int) < (↑(1 : Nat) : Int), (IntKind.i64.wrap (↑(6 : Nat) : Int) == (1 : Int)) = false, (IntKind.i64.wrap (↑(6 : Nat) : Int) == (2 : Int)) = false, (IntKind.i64.wrap (↑(6 : Nat) : Int) == (3 : Int)) = false, (IntKind.i64.wrap (↑(6 : Nat) : Int) == (4 : Int)) = false, (IntKind.i64.wrap (↑(6 : Nat) : Int) == (5 : Int)) = false, (IntKind.i64.wrap (↑(6 : Nat) : Int) == (6 : Int)) = true, (IntKind.i64.wrap (↑(6 : Nat) : Int) == (6 : Int)) = true, EqvI (V1.c (Cell.int .i64 ((17 : Int) - (↑(f + (1 : Nat)) : Int) + (1 : Int)))) (V1.c (Cell.int .i64 ((17 : Int) - (↑f : Int)))), EqvD (V1.c (Cell.int .i64 ((17 : Int) - (↑(f + (1 : Nat)) : Int) + (1 : Int)))) (V1.c (Cell.int .i64 ((17 : Int) - (↑f : Int)))), inR IntKind.i64 ((17 : Int) - (↑(f + (1 : Nat)) : Int) + (1 : Int)), EqvI (V1.agg [Cell.int .i64 (IntKind.i64.wrap (↑(6 : Nat) : Int)), Cell.int .i64 (0 : Int), Cell.str [], Cell.nilsl]) (V1.agg [Cell.int .i64 (6 : Int), Cell.int .i64 (0 : Int), Cell.str [], Cell.sl (4 : Nat) (0 : Nat) fun (x x_1 : Nat) => Cell.nilif]), EqvD (V1.agg [Cell.int .i64 (IntKind.i64.wrap (↑(6 : Nat) : Int)), Cell.int .i64 (0 : Int), Cell.str [], Cell.nilsl]) (V1.agg [Cell.int .i64 (6 : Int), Cell.int .i64 (0 : Int), Cell.str [], Cell.sl (4 : Nat) (0 : Nat) fun (x x_1 : Nat) => Cell.nilif])] (by kernel_rfl) (by kernel_rfl) (by kernel_rfl) ⟨inR64 (by omega) (by omega), (by assumption), rfl, (by omega), rfl, rfl, rfl, rfl, rfl, rfl, rfl, fun _ _ => trivial, (by assumption), inR64 (by omega) (by omega), eqvI_flat _ _ (by kernel_rfl), (show EqvD (V1.agg [Cell.int .i64 (IntKind.i64.wrap (↑(6 : Nat) : Int)), Cell.int .i64 (0 : Int), Cell.str [], Cell.nilsl]) (V1.agg [Cell.int .i64 (6 : Int), Cell.int .i64 (0 : Int), Cell.str [], Cell.sl (4 : Nat) (0 : Nat) fun (x x_1 : Nat) => Cell.nilif]) from (by assumption))⟩ ?_
  refine Wp.ret' (by kernel_rfl) ?_
  exact FinQ.blk [] (by kernel_rfl) (by kernel_rfl) (by kernel_rfl) (by kernel_rfl) (by kernel_rfl) trivial
theorem term_k7 (b : List UInt8) (hb : b.length ≤ 30000000000000) (f p l : Nat) (hf : f < 16) (hl : 0 < l) (hl2 : l ≤ 64) (hp : p < b.length) (hk : (b.getD p 0).toNat = 7) {F : Nat → Nat → Cell} {p1 : Nat} {c1 : Int} (ck : FnB Tryz.prog G 268 [cB b (p + 1) ((64 : Int) - (l : Int) + 1)] [.c (.ptr 0 0), .c (.int .i64 2), .c (.int .i64 (17 - (f : Int)))] [.c (.sl 4 2 F), .c .nilif] [(0, cB b p1 c1)]) : FnB Tryz.prog G 256 [cB b p ((64 : Int) - (l : Int))] [.c (.ptr 0 0), .c (.int .i64 (17 - ((f + 1 : Nat) : Int)))] [.agg (encK ⟨7, 0, [], 2, F⟩), .c .nilif] [(0, cB b p1 c1)] := by
  refine Fn.of' Tryz.func256 (by kernel_rfl) (by kernel_rfl) (by kernel_rfl) (by kernel_rfl) trivial ?_
  have ht0 : (bif decide ((64 : Int) - (l : Int) + 1 > 64) then true else decide (17 - ((f + 1 : Nat) : Int) > 16)) = false := by rw [decide_eq_false (by omega), decide_eq_false (by omega)]; rfl
  have c9 := take_one (G := G) b hb p ((64 : Int) - (l : Int) + 1) hp hk
  have e2 := deep_D f
  refine Wp.go (mx := true) (fun _ => mixed) [(20, {cs := [(3, cb [0] ck)], fm := [(2, .c (.int .i64 ((17 : Int) - (f : Int))))]}), (4, {cs := [(1, cb [0] c9)]})] 100 [false, false, false, false, false, false, false, false, true] [inR IntKind.i64 ((64 : Int) - (↑l : Int) + (1 : Int)), (bif decide ((64 : Int) - (↑l : Int) + (1 : Int) > (64 : Int)) then true else decide ((17 : Int) - (↑(f + (1 : Nat)) : Int) > (16 : Int))) = false, (!true) = false, (0 : Int) ≤ (0 : Int) ∧ (0 : Int) < (↑(1 : Nat) : Int), (IntKind.i64.wrap (↑(7 : Nat) : Int) == (1 : Int)) = false, (IntKind.i64.wrap (↑(7 : Nat) : Int) == (2 : Int)) = false, (IntKind.i64.wrap (↑(7 : Nat) : Int) == (3 : Int)) = false, (IntKind.i64.wrap (↑(7 : Nat) : Int) == (4 : Int)) = false, (IntKind.i64.wrap (↑(7 : Nat) : Int) == (5 : Int)) = false, (IntKind.i64.wrap (↑(7 : Nat) : Int) == (6 : Int)) = false, (IntKind.i64.wrap (↑(7 : Nat) : Int) == (7 : Int)) = true, EqvI (V1.c (Cell.int .i64 ((17 : Int) - (↑(f + (1 : Nat)) : Int) + (1 : Int)))) (V1.c (Cell.int .i64 ((17 : Int) - (↑f : Int)))), EqvD (V1.c (Cell.int .i64 ((17 : Int) - (↑(f + (1 : Nat)) : Int) + (1 : Int)))) (V1.c (Cell.int .i64 ((17 : Int) - (↑f : Int)))), inR IntKind.i64 ((17 : Int) - (↑(f + (1 : Nat)) : Int) + (1 : Int))] (by kernel_rfl) (by kernel_rfl) (by kernel_rfl) ⟨inR64 (by omega) (by omega), (by assumption), rfl, (by omega), rfl, rfl, rfl, rfl, rfl, rfl, rfl, fun _ _ => trivial, (by assumption), inR64 (by omega) (by omega)⟩ ?_
  refine Wp.ret' (by kernel_rfl) ?_
  exact FinQ.blk [] (by kernel_rfl) (by kernel_rfl) (by kernel_rfl) (by kernel_rfl) (by kernel_rfl) trivial
theorem term_kx7 (b : List UInt8) (hb : b.length ≤ 30000000000000) (f p l : Nat) (hf : f < 16) (hl : 0 < l) (hl2 : l ≤ 64) (hp : p < b.length) (hk : (b.getD p 0).toNat = 7) {p1 : Nat} {c1 e : Int} (ck : FnB Tryz.prog G 268 [cB b (p + 1) ((64 : Int) - (l : Int) + 1)] [.c (.ptr 0 0), .c (.int .i64 2), .c (.int .i64 (17 - (f : Int)))] [.c .nilsl, .c (errC e)] [(0, cB b p1 c1)]) : FnB Tryz.prog G 256 [cB b p ((64 : Int) - (l : Int))] [.c (.ptr 0 0), .c (.int .i64 (17 - ((f + 1 : Nat) : Int)))] [.agg (encK ⟨7, 0, [], 0, fun _ _ => .nilif⟩), .c (errC e)] [(0, cB b p1 c1)] := by
  refine Fn.of' Tryz.func256 (by kernel_rfl) (by kernel_rfl) (by kernel_rfl) (by kernel_rfl) trivial ?_
  have ht0 : (bif decide ((64 : Int) - (l : Int) + 1 > 64) then true else decide (17 - ((f + 1 : Nat) : Int) > 16)) = false := by rw [decide_eq_false (by omega), decide_eq_false (by omega)]; rfl
  have c9 := take_one (G := G) b hb p ((64 : Int) - (l : Int) + 1) hp hk
  have e2 := deep_D f
  have eD := @kids_D 7 0 [] (fun _ _ => .nilif)
  have eI := @kids_I 7 0 [] (fun _ _ => .nilif)
  refine Wp.go (mx := true) (fun _ => mixed) [(20, {cs := [(3, cb [0] ck)], fm := [(2, .c (.int .i64 ((17 : Int) - (f : Int))))]}), (21, {fm := [(0, .agg [.int .i64 7, .int .i64 0, .str [], .sl 4 0 (fun _ _ => .nilif)])]}), (4, {cs := [(1, cb [0] c9)]})] 100 [false, false, false, false, false, false, false, false, true] [inR IntKind.i64 ((64 : Int) - (↑l : Int) + (1 : Int)), (bif decide ((64 : Int) - (↑l : Int) + (1 : Int) > (64 : Int)) then true else decide ((17 : Int) - (↑(f + (1 : Nat)) : Int) > (16 : Int))) = false, (!true) = false, (0 : Int) ≤ (0 : Int) ∧ (0 : Int) < (↑(1 : Nat) : Int), (IntKind.i64.wrap (↑(7 : Nat) : Int) == (1 : Int)) = false, (IntKind.i64.wrap (↑(7 : Nat) : Int) == (2 : Int)) = false, (IntKind.i64.wrap (↑(7 : Nat) : Int) == (3 : Int)) = false, (IntKind.i64.wrap (↑(7 : Nat) : Int) == (4 : Int)) = false, (IntKind.i64.wrap (↑(7 : Nat) : Int) == (5 : Int)) = false, (IntKind.i64.wrap (↑(7 : Nat) : Int) == (6 : Int)) = false, (IntKind.i64.wrap (↑(7 : Nat) : Int) == (7 : Int)) = true, EqvI (V1.c (Cell.int .i64 ((17 : Int) - (↑(f + (1 : Nat)) : Int) + (1 : Int)))) (V1.c (Cell.int .i64 ((17 : Int) - (↑f : Int)))), EqvD (V1.c (Cell.int .i64 ((17 : Int) - (↑(f + (1 : Nat)) : Int) + (1 : Int)))) (V1.c (Cell.int .i64 ((17 : Int) - (↑f : Int)))), inR IntKind.i64 ((17 : Int) - (↑(f + (1 : Nat)) : Int) + (1 : Int)), EqvI (V1.agg [Cell.int .i64 (IntKind.i64.wrap (↑(7 : Nat) : Int)), Cell.int .i64 (0 : Int), Cell.str [], Cell.nilsl]) (V1.agg [Cell.int .i64 (7 : Int), Cell.int .i64 (0 : Int), Cell.str [], Cell.sl (4 : Nat) (0 : Nat) fun (x x_1 : Nat) => Cell.nilif]), EqvD (V1.agg [Cell.int .i64 (IntKind.i64.wrap (↑(7 : Nat) : Int)), Cell.int .i64 (0 : Int), Cell.str [], Cell.nilsl]) (V1.agg [Cell.int .i64 (7 : Int), Cell.int .i64 (0 : Int), Cell.str [], Cell.sl (4 : Nat) (0 : Nat) fun (x x_1 : Nat) => Cell.nilif])] (by kernel_rfl) (by kernel_rfl) (by kernel_rfl) ⟨inR64 (by omega) (by omega), (by assumption), rfl, (by omega), rfl, rfl, rfl, rfl, rfl, rfl, rfl, fun _ _ => trivial, (by assumption), inR64 (by omega) (by omega), eqvI_flat _ _ (by kernel_rfl), (show EqvD (V1.agg [Cell.int .i64 (IntKind.i64.wrap (↑(7 : Nat) : Int)), Cell.int .i64 (0 : Int), Cell.str [], Cell.nilsl]) (V1.agg [Cell.int .i64 (7 : Int), Cell.int .i64 (0 : Int), Cell.str [], Cell.sl (4 : Nat) (0 : Nat) fun (x x_1 : Nat) => Cell.nilif]) from (by assumption))⟩ ?_
  refine Wp.ret' (by kernel_rfl) ?_
  exact FinQ.blk [] (by kernel_rfl) (by kernel_rfl) (by kernel_rfl) (by kernel_rfl) (by kernel_rfl) trivial
end Go.Proofs.Tw
end

section
open Go Go.Sv Go.RowKit
namespace Go.Proofs.Tw
attribute [local irreducible] Wp FinQ resV Ent Pur Go.Sv.Fn Sat0
set_option maxRecDepth 100000
set_option maxHeartbeats 4000000
variable {G : Nat → Option (List Cell)}

/-- What the program's reader makes of a term. -/
def TermR (G : Nat → Option (List Cell)) (b : List UInt8) (f p : Nat) (c : Int) (r : Option (Tm × Nat × Nat)) : Prop := match r with
  | some (t, p', l') => FnB Tryz.prog G 256 [cB b p c] [.c (.ptr 0 0), .c (.int .i64 (17 - (f : Int)))] [.agg (encK (toK t)), .c .nilif] [(0, cB b p' ((64 : Int) - (l' : Int)))]
  | none => ∃ (x : KT) (p' : Nat) (c' e : Int), e ≠ 0 ∧ FnB Tryz.prog G 256 [cB b p c] [.c (.ptr 0 0), .c (.int .i64 (17 - (f : Int)))] [.agg (encK x), .c (errC e)] [(0, cB b p' c')]
theorem term_ok (b : List UInt8) (hb : b.length ≤ 30000000000000) : ∀ (f : Nat), f ≤ 16 → ∀ (p l : Nat), p ≤ b.length → l ≤ 64 → TermR G b f p ((64 : Int) - (l : Int)) (rdT b f p l)
  | 0, hf, p, l, hp, hl => ⟨_, _, _, _, (by decide), term_deep b 0 p l hf hl (.inl rfl)⟩
  | f + 1, hf, p, l, hp, hl2 => by
    have ih := term_ok b hb f (by omega)
    rcases Nat.eq_zero_or_pos l with h0 | hl
    · rw [rdT, if_pos h0]
      exact ⟨_, _, _, _, (by decide), term_deep b (f + 1) p l hf hl2 (.inr h0)⟩
    rw [rdT, if_neg (by omega)]
    have el : ((64 : Int) - ((l - 1 : Nat) : Int)) = (64 : Int) - (l : Int) + 1 := by omega
    rcases Nat.lt_or_ge p b.length with hlt | hge
    · rw [if_neg (by omega)]
      have hk9 : (b.getD p 0).toNat < 256 := UInt8.toNat_lt _
      generalize hk : (b.getD p 0).toNat = k at hk9 ⊢
      by_cases k1 : k = 1
      · subst k1
        rw [if_pos rfl]
        rcases Nat.lt_or_ge b.length (p + 1 + 2) with h2 | h2
        · rw [if_pos h2]
          exact ⟨_, _, _, _, (by decide), term_a1 b hb f p l hf hl hl2 hlt hk h2⟩
        · rw [if_neg (by omega)]
          generalize hn : (beN b (p + 1) 2).toNat = n
          rcases Nat.lt_or_ge 1024 n with h3 | h3
          · rw [if_pos h3]
            exact ⟨_, _, _, _, (by decide), term_a2 b hb f p l hf hl hl2 hlt hk h2 hn h3⟩
          · rw [if_neg (by omega)]
            rcases Nat.lt_or_ge b.length (p + 1 + 2 + n) with h4 | h4
            · rw [if_pos h4]
              exact ⟨_, _, _, _, (by decide), term_a3 b hb f p l hf hl hl2 hlt hk h2 hn h3 h4⟩
            · rw [if_neg (by omega)]
              have := term_a4 (G := G) b hb f p l hf hl hl2 hlt hk h2 hn h3 h4
              rw [← el] at this
              exact this
      rw [if_neg k1]
      by_cases k2 : k = 2
      · subst k2
        rw [if_pos rfl]
        rcases Nat.lt_or_ge b.length (p + 1 + 4) with h2 | h2
        · rw [if_pos h2]
          exact ⟨_, _, _, _, (by decide), term_n1 b hb f p l hf hl hl2 hlt hk h2⟩
        · rw [if_neg (by omega)]
          generalize hn : (beN b (p + 1) 4).toNat = n
          rcases Nat.lt_or_ge 1073741824 n with h3 | h3
          · rw [if_pos h3]
            exact ⟨_, _, _, _, (by decide), term_n2 b hb f p l hf hl hl2 hlt hk h2 hn h3⟩
          · rw [if_neg (by omega)]
            have := term_n3 (G := G) b hb f p l hf hl hl2 hlt hk h2 hn h3
            rw [← el] at this
            exact this
      rw [if_neg k2]
      have ih1 := ih (p + 1) (l - 1) (by omega) (by omega)
      rw [el] at ih1
      by_cases k34 : k = 3 ∨ k = 4
      · rw [if_pos k34]
        cases h1 : rdT b f (p + 1) (l - 1) with
        | none =>
          rw [h1] at ih1
          obtain ⟨x, p1, c1, e1, he, c⟩ := ih1
          rcases k34 with rfl | rfl
          · exact ⟨_, _, _, _, he, term_kx3 b hb f p l hf hl hl2 hlt hk (kidsC_x b _ _ _ c)⟩
          · exact ⟨_, _, _, _, he, term_kx4 b hb f p l hf hl hl2 hlt hk (kidsC_x b _ _ _ c)⟩
        | some r =>
          obtain ⟨t, p1, l1⟩ := r
          rw [h1] at ih1
          have c := ih1
          rcases k34 with rfl | rfl
          · exact term_k3 b hb f p l hf hl hl2 hlt hk (kidsC_1 b _ _ _ c)
          · exact term_k4 b hb f p l hf hl hl2 hlt hk (kidsC_1 b _ _ _ c)
      rw [if_neg k34]
      by_cases k57 : k = 5 ∨ k = 6 ∨ k = 7
      · rw [if_pos k57]
        cases h1 : rdT b f (p + 1) (l - 1) with
        | none =>
          rw [h1] at ih1
          obtain ⟨x, p1, c1, e1, he, c⟩ := ih1
          rcases k57 with rfl | rfl | rfl
          · exact ⟨_, _, _, _, he, term_kx5 b hb f p l hf hl hl2 hlt hk (kidsC_x2 b _ _ _ c)⟩
          · exact ⟨_, _, _, _, he, term_kx6 b hb f p l hf hl hl2 hlt hk (kidsC_x2 b _ _ _ c)⟩
          · exact ⟨_, _, _, _, he, term_kx7 b hb f p l hf hl hl2 hlt hk (kidsC_x2 b _ _ _ c)⟩
        | some r =>
          obtain ⟨t, p1, l1⟩ := r
          rw [h1] at ih1
          have c := ih1
          have hle := rdT_le b f _ _ _ _ _ h1
          have ih2 := ih p1 l1 hle.1 (by omega)
          simp only []
          cases h2 : rdT b f p1 l1 with
          | none =>
            rw [h2] at ih2
            obtain ⟨x, p2, c2, e2, he, d⟩ := ih2
            rcases k57 with rfl | rfl | rfl
            · exact ⟨_, _, _, _, he, term_kx5 b hb f p l hf hl hl2 hlt hk (kidsC_y b _ _ _ c d)⟩
            · exact ⟨_, _, _, _, he, term_kx6 b hb f p l hf hl hl2 hlt hk (kidsC_y b _ _ _ c d)⟩
            · exact ⟨_, _, _, _, he, term_kx7 b hb f p l hf hl hl2 hlt hk (kidsC_y b _ _ _ c d)⟩
          | some r2 =>
            obtain ⟨u, p2, l2⟩ := r2
            rw [h2] at ih2
            have d := ih2
            rcases k57 with rfl | rfl | rfl
            · exact term_k5 b hb f p l hf hl hl2 hlt hk (kidsC_2 b _ _ _ c d)
            · exact term_k6 b hb f p l hf hl hl2 hlt hk (kidsC_2 b _ _ _ c d)
            · exact term_k7 b hb f p l hf hl hl2 hlt hk (kidsC_2 b _ _ _ c d)
      rw [if_neg k57]
      exact ⟨_, _, _, _, (by decide), term_bad b hb f p l hf hl hl2 hlt hk (by omega) hk9⟩
    · rw [if_pos (by omega)]
      exact ⟨_, _, _, _, (by decide), term_short b hb f p l hf hl hl2 (by omega)⟩
end Go.Proofs.Tw
end

section
open Go Go.Sv Go.RowKit
namespace Go.Proofs.Tw
attribute [local irreducible] Wp FinQ resV Ent Pur Go.Sv.Fn Sat0
set_option maxRecDepth 100000
set_option maxHeartbeats 4000000
variable {G : Nat → Option (List Cell)}

theorem takeC_good (b : List UInt8) (hb : b.length ≤ 30000000000000) {t : Tm} {p l : Nat} (h : rdT b 16 0 64 = some (t, p, l)) : Pur Tryz.prog G 242 [.c (.sl 1 b.length (bytesF b))] [.agg (encK (toK t)), .c (.int .i64 (p : Int)), .c (.int .i64 0)] := by
  have c := term_ok (G := G) b hb 16 (by decide) 0 64 (by omega) (by decide)
  rw [h] at c
  have c : FnB Tryz.prog G 256 [cB b 0 0] [.c (.ptr 0 0), .c (.int .i64 1)] [.agg (encK (toK t)), .c .nilif] [(0, cB b p ((64 : Int) - (l : Int)))] := c
  refine Pur.of Tryz.func242 (by kernel_rfl) (by kernel_rfl) (by kernel_rfl) ?_
  refine Wp.go (mx := true) (fun _ => mixed) [(2, {cs := [(1, cb [80] c)]})] 100 [false] [false = false] (by kernel_rfl) (by kernel_rfl) (by kernel_rfl) rfl ?_
  refine Wp.ret' (by kernel_rfl) ?_
  exact FinQ.pure (rs' := [V1.agg [Cell.int .i64 (toK t).k, Cell.int .i64 (toK t).n, Cell.str (toK t).s, Cell.sl (4 : Nat) (toK t).m (toK t).f], V1.c (Cell.int .i64 (↑p : Int)), V1.c (Cell.int .i64 (0 : Int))]) (by kernel_rfl) rfl (by kernel_rfl)
theorem takeC_bad (b : List UInt8) (hb : b.length ≤ 30000000000000) (h : rdT b 16 0 64 = none) : ∃ e : Int, e ≠ 0 ∧ Pur Tryz.prog G 242 [.c (.sl 1 b.length (bytesF b))] [.agg [.int .i64 0, .int .i64 0, .str [], .nilsl], .c (.int .i64 0), .c (.int .i64 e)] := by
  have c := term_ok (G := G) b hb 16 (by decide) 0 64 (by omega) (by decide)
  rw [h] at c
  obtain ⟨x, p', c', e, he, c⟩ := c
  refine ⟨e, he, ?_⟩
  have c : FnB Tryz.prog G 256 [cB b 0 0] [.c (.ptr 0 0), .c (.int .i64 1)] [.agg (encK x), .c (errC e)] [(0, cB b p' c')] := c
  refine Pur.of Tryz.func242 (by kernel_rfl) (by kernel_rfl) (by kernel_rfl) ?_
  refine Wp.go (mx := true) (fun _ => mixed) [(2, {cs := [(1, cb [80] c)]})] 100 [true] [true = true] (by kernel_rfl) (by kernel_rfl) (by kernel_rfl) rfl ?_
  refine Wp.ret' (by kernel_rfl) ?_
  exact FinQ.pure (rs' := [V1.agg [Cell.int .i64 (0 : Int), Cell.int .i64 (0 : Int), Cell.str [], Cell.nilsl], V1.c (Cell.int .i64 (0 : Int)), V1.c (Cell.int .i64 e)]) (by kernel_rfl) rfl (by kernel_rfl)
theorem oneC_good (b : List UInt8) (hb : b.length ≤ 30000000000000) {t : Tm} (h : oneT b = some t) : Pur Tryz.prog G 213 [.c (.sl 1 b.length (bytesF b))] [.agg (encK (toK t)), .c (.int .i64 0)] := by
  unfold oneT at h
  split at h
  · rename_i t2 p l h1
    split at h
    · rename_i hp
      simp only [Option.some.injEq] at h
      subst h hp
      refine Pur.of Tryz.func213 (by kernel_rfl) (by kernel_rfl) (by kernel_rfl) ?_
      have c := takeC_good (G := G) b hb h1
      have ht : (bif (0 : Int) == 0 then decide ((b.length : Int) < (b.length : Int)) else false) = false := by simp
      refine Wp.go (mx := true) (fun _ => mixed) [(1, {cs := [(1, pc c)]})] 100 [false, false] [(bif (0 : Int) == (0 : Int) then decide ((↑b.length : Int) < (↑b.length : Int)) else false) = false, ((0 : Int) != (0 : Int)) = false] (by kernel_rfl) (by kernel_rfl) (by kernel_rfl) ⟨(by assumption), rfl⟩ ?_
      refine Wp.ret' (by kernel_rfl) ?_
      exact FinQ.pure (rs' := [V1.agg [Cell.int .i64 (toK t2).k, Cell.int .i64 (toK t2).n, Cell.str (toK t2).s, Cell.sl (4 : Nat) (toK t2).m (toK t2).f], V1.c (Cell.int .i64 (0 : Int))]) (by kernel_rfl) rfl (by kernel_rfl)
    · cases h
  · cases h
theorem oneC_bad (b : List UInt8) (hb : b.length ≤ 30000000000000) (h : oneT b = none) : ∃ e : Int, e ≠ 0 ∧ Pur Tryz.prog G 213 [.c (.sl 1 b.length (bytesF b))] [.agg [.int .i64 0, .int .i64 0, .str [], .nilsl], .c (.int .i64 e)] := by
  unfold oneT at h
  split at h
  · rename_i t2 p l h1
    split at h
    · cases h
    · rename_i hp
      refine ⟨5, by decide, ?_⟩
      refine Pur.of Tryz.func213 (by kernel_rfl) (by kernel_rfl) (by kernel_rfl) ?_
      have c := takeC_good (G := G) b hb h1
      have hle := rdT_le b _ _ _ _ _ _ h1
      have ht : (bif (0 : Int) == 0 then decide ((p : Int) < (b.length : Int)) else false) = true := by simp; omega
      refine Wp.go (mx := true) (fun _ => mixed) [(1, {cs := [(1, pc c)]})] 100 [true, true] [(bif (0 : Int) == (0 : Int) then decide ((↑p : Int) < (↑b.length : Int)) else false) = true, ((5 : Int) != (0 : Int)) = true] (by kernel_rfl) (by kernel_rfl) (by kernel_rfl) ⟨(by assumption), rfl⟩ ?_
      refine Wp.ret' (by kernel_rfl) ?_
      exact FinQ.pure (rs' := [V1.agg [Cell.int .i64 (0 : Int), Cell.int .i64 (0 : Int), Cell.str [], Cell.nilsl], V1.c (Cell.int .i64 (5 : Int))]) (by kernel_rfl) rfl (by kernel_rfl)
  · rename_i h1
    obtain ⟨e, he, c⟩ := takeC_bad (G := G) b hb h1
    refine ⟨e, he, ?_⟩
    refine Pur.of Tryz.func213 (by kernel_rfl) (by kernel_rfl) (by kernel_rfl) ?_
    have ht : (bif e == 0 then decide ((0 : Int) < (b.length : Int)) else false) = false := by simp [he]
    have ht2 : (e != 0) = true := by simp [he]
    refine Wp.go (mx := true) (fun _ => mixed) [(1, {cs := [(1, pc c)]})] 100 [false, true] [(bif e == (0 : Int) then decide ((0 : Int) < (↑b.length : Int)) else false) = false, (e != (0 : Int)) = true] (by kernel_rfl) (by kernel_rfl) (by kernel_rfl) ⟨(by assumption), (show (e != (0 : Int)) = true from (by assumption))⟩ ?_
    refine Wp.ret' (by kernel_rfl) ?_
    exact FinQ.pure (rs' := [V1.agg [Cell.int .i64 (0 : Int), Cell.int .i64 (0 : Int), Cell.str [], Cell.nilsl], V1.c (Cell.int .i64 e)]) (by kernel_rfl) rfl (by kernel_rfl)
theorem innC_good (s : List UInt8) (hs : s.length ≤ 30000000000000) {t : Tm} (h : innT s = some t) (hlen : ∀ o, dec8 s = some o → o.length ≤ 30000000000000) : Pur Tryz.prog G 171 [.c (.str s)] [.agg (encK (toK t)), .c (.bool true)] := by
  unfold innT at h
  split at h
  · rename_i o ho
    have c1 := dec64_ok (G := G) s hs
    rw [decR_some ho] at c1
    have c2 := oneC_good (G := G) o (hlen o ho) h
    have e1 := slB_D o
    refine Pur.of Tryz.func171 (by kernel_rfl) (by kernel_rfl) (by kernel_rfl) ?_
    cases o with
    | nil =>
      have c1 : Pur Tryz.prog G 212 [.c (.str s)] [.c .nilsl, .c (.int .i64 0)] := c1
      have c2 : Pur Tryz.prog G 213 [.c (.sl 1 0 (bytesF []))] [.agg (encK (toK t)), .c (.int .i64 0)] := c2
      have e1 := nil_sl (f := bytesF [])
      refine Wp.go (mx := true) (fun _ => mixed) [(4, {cs := [(1, pc c2)], fm := [(0, .c (.sl 1 0 (bytesF [])))]}), (1, {cs := [(1, pc c1)]})] 100 [false] [((0 : Int) != (0 : Int)) = false, EqvI (V1.c Cell.nilsl) (V1.c (Cell.sl (1 : Nat) (0 : Nat) (bytesF []))), EqvD (V1.c Cell.nilsl) (V1.c (Cell.sl (1 : Nat) (0 : Nat) (bytesF [])))] (by kernel_rfl) (by kernel_rfl) (by kernel_rfl) ⟨rfl, fun _ _ => trivial, (show EqvD (V1.c Cell.nilsl) (V1.c (Cell.sl (1 : Nat) (0 : Nat) (bytesF []))) from (by assumption))⟩ ?_
      refine Wp.ret' (by kernel_rfl) ?_
      exact FinQ.pure (rs' := [V1.agg [Cell.int .i64 (toK t).k, Cell.int .i64 (toK t).n, Cell.str (toK t).s, Cell.sl (4 : Nat) (toK t).m (toK t).f], V1.c (Cell.bool ((0 : Int) == (0 : Int)))]) (by kernel_rfl) rfl (by kernel_rfl)
    | cons a r =>
      have c1 : Pur Tryz.prog G 212 [.c (.str s)] [.c (.sl 1 (a :: r).length (bytesF (a :: r))), .c (.int .i64 0)] := c1
      generalize a :: r = o at c1 c2
      refine Wp.go (mx := true) (fun _ => mixed) [(1, {cs := [(1, pc c1)]}), (4, {cs := [(1, pc c2)]})] 100 [false] [((0 : Int) != (0 : Int)) = false] (by kernel_rfl) (by kernel_rfl) (by kernel_rfl) rfl ?_
      refine Wp.ret' (by kernel_rfl) ?_
      exact FinQ.pure (rs' := [V1.agg [Cell.int .i64 (toK t).k, Cell.int .i64 (toK t).n, Cell.str (toK t).s, Cell.sl (4 : Nat) (toK t).m (toK t).f], V1.c (Cell.bool ((0 : Int) == (0 : Int)))]) (by kernel_rfl) rfl (by kernel_rfl)
  · cases h
theorem innC_bad (s : List UInt8) (hs : s.length ≤ 30000000000000) (h : innT s = none) (hlen : ∀ o, dec8 s = some o → o.length ≤ 30000000000000) : Pur Tryz.prog G 171 [.c (.str s)] [.agg [.int .i64 0, .int .i64 0, .str [], .nilsl], .c (.bool false)] := by
  have c1 := dec64_ok (G := G) s hs
  unfold innT at h
  refine Pur.of Tryz.func171 (by kernel_rfl) (by kernel_rfl) (by kernel_rfl) ?_
  cases ho : dec8 s with
  | none =>
    rw [decR_none ho] at c1
    refine Wp.go (mx := true) (fun _ => mixed) [(1, {cs := [(1, pc c1)]})] 100 [true] [((3 : Int) != (0 : Int)) = true] (by kernel_rfl) (by kernel_rfl) (by kernel_rfl) rfl ?_
    refine Wp.ret' (by kernel_rfl) ?_
    exact FinQ.pure (rs' := [V1.agg [Cell.int .i64 (0 : Int), Cell.int .i64 (0 : Int), Cell.str [], Cell.nilsl], V1.c (Cell.bool false)]) (by kernel_rfl) rfl (by kernel_rfl)
  | some o =>
    rw [decR_some ho] at c1
    rw [ho] at h
    obtain ⟨e, he, c2⟩ := oneC_bad (G := G) o (hlen o ho) h
    have ht : (e == 0) = false := by simp [he]
    cases o with
    | nil =>
      have c1 : Pur Tryz.prog G 212 [.c (.str s)] [.c .nilsl, .c (.int .i64 0)] := c1
      have c2 : Pur Tryz.prog G 213 [.c (.sl 1 0 (bytesF []))] [.agg [.int .i64 0, .int .i64 0, .str [], .nilsl], .c (.int .i64 e)] := c2
      have e1 := nil_sl (f := bytesF [])
      refine Wp.go (mx := true) (fun _ => mixed) [(4, {cs := [(1, pc c2)], fm := [(0, .c (.sl 1 0 (bytesF [])))]}), (1, {cs := [(1, pc c1)]})] 100 [false] [((0 : Int) != (0 : Int)) = false, EqvI (V1.c Cell.nilsl) (V1.c (Cell.sl (1 : Nat) (0 : Nat) (bytesF []))), EqvD (V1.c Cell.nilsl) (V1.c (Cell.sl (1 : Nat) (0 : Nat) (bytesF [])))] (by kernel_rfl) (by kernel_rfl) (by kernel_rfl) ⟨rfl, fun _ _ => trivial, (show EqvD (V1.c Cell.nilsl) (V1.c (Cell.sl (1 : Nat) (0 : Nat) (bytesF []))) from (by assumption))⟩ ?_
      refine Wp.ret' (by kernel_rfl) ?_
      exact FinQ.pure (rs' := [V1.agg [Cell.int .i64 (0 : Int), Cell.int .i64 (0 : Int), Cell.str [], Cell.nilsl], V1.c (Cell.bool (e == (0 : Int)))]) (by kernel_rfl) (by simp only [Int.ofNat_eq_natCast, Int.toNat_natCast, List.take_length, List.drop_zero, *]) (by kernel_rfl)
    | cons a r =>
      have c1 : Pur Tryz.prog G 212 [.c (.str s)] [.c (.sl 1 (a :: r).length (bytesF (a :: r))), .c (.int .i64 0)] := c1
      generalize a :: r = o at c1 c2
      refine Wp.go (mx := true) (fun _ => mixed) [(1, {cs := [(1, pc c1)]}), (4, {cs := [(1, pc c2)]})] 100 [false] [((0 : Int) != (0 : Int)) = false] (by kernel_rfl) (by kernel_rfl) (by kernel_rfl) rfl ?_
      refine Wp.ret' (by kernel_rfl) ?_
      exact FinQ.pure (rs' := [V1.agg [Cell.int .i64 (0 : Int), Cell.int .i64 (0 : Int), Cell.str [], Cell.nilsl], V1.c (Cell.bool (e == (0 : Int)))]) (by kernel_rfl) (by simp only [Int.ofNat_eq_natCast, Int.toNat_natCast, List.take_length, List.drop_zero, *]) (by kernel_rfl)
theorem innerC_ok (s : List UInt8) (hs : s.length ≤ 30000000000000) : (∃ t, innT s = some t ∧ Pur Tryz.prog G 171 [.c (.str s)] [.agg (encK (toK t)), .c (.bool true)]) ∨ (innT s = none ∧ Pur Tryz.prog G 171 [.c (.str s)] [.agg [.int .i64 0, .int .i64 0, .str [], .nilsl], .c (.bool false)]) := by
  have hl : ∀ o, dec8 s = some o → o.length ≤ 30000000000000 := fun o h => by have := dec8_len h; omega
  cases h : innT s with
  | none => exact .inr ⟨rfl, innC_bad s hs h hl⟩
  | some t => exact .inl ⟨t, rfl, innC_good s hs h hl⟩
end Go.Proofs.Tw
end

section
open Go Go.Sv Go.RowKit
namespace Go.Proofs.Tw
attribute [local irreducible] Wp FinQ resV Ent Pur Go.Sv.Fn Sat0
set_option maxRecDepth 100000
set_option maxHeartbeats 4000000
variable {G : Nat → Option (List Cell)}

def isHash (s : List UInt8) : Bool := match readT s with
  | some t => (toK t).k == 3
  | none => false
theorem lib_HasSuffix (s p : List UInt8) (hl : s.length ≤ 30000000000000) : Pur Tryz.prog G 170 [.c (.str s), .c (.str p)] [.c (.bool (Lib.hasSuffix s p))] := by
  have c : Pur Tryz.prog G 211 [.c (.str s), .c (.str p)] [.c (.bool (Lib.hasSuffix s p))] := by
    refine Pur.of Tryz.func211 (by kernel_rfl) (by kernel_rfl) (by kernel_rfl) ?_
    have hx := Lib.hasSuffix_of_drop s p
    by_cases h : p.length ≤ s.length
    · rw [decide_eq_true h, Bool.true_and] at hx
      have e2 : EqvD (.c (.int .i64 ((s.length : Int) - (p.length : Int)))) (.c (.int .i64 ((s.length - p.length : Nat) : Int))) := eqvD_of (by rw [show (s.length : Int) - (p.length : Int) = ((s.length - p.length : Nat) : Int) by omega])
      have e1 : EqvD (.c (.str (List.drop (s.length - p.length) (List.take s.length s)))) (.c (.str (s.drop (s.length - p.length)))) := eqvD_of (by rw [List.take_length])
      rw [← hx]
      refine Wp.go (mx := true) (fun _ => mixed) [(1, {fm := [(11, .c (.int .i64 ((s.length - p.length : Nat) : Int))), (12, .c (.str (s.drop (s.length - p.length))))]})] 100 [] [EqvI (V1.c (Cell.int .i64 ((↑s.length : Int) - (↑p.length : Int)))) (V1.c (Cell.int .i64 (↑(s.length - p.length) : Int))), decide ((↑s.length : Int) ≥ (↑p.length : Int)) = true → EqvD (V1.c (Cell.int .i64 ((↑s.length : Int) - (↑p.length : Int)))) (V1.c (Cell.int .i64 (↑(s.length - p.length) : Int))), decide ((↑s.length : Int) ≥ (↑p.length : Int)) = true → inR IntKind.i64 ((↑s.length : Int) - (↑p.length : Int)), EqvI (V1.c (Cell.str (List.drop (Int.ofNat (s.length - p.length)).toNat (List.take (Int.ofNat s.length).toNat s)))) (V1.c (Cell.str (List.drop (s.length - p.length) s))), decide ((↑s.length : Int) ≥ (↑p.length : Int)) = true → EqvD (V1.c (Cell.str (List.drop (Int.ofNat (s.length - p.length)).toNat (List.take (Int.ofNat s.length).toNat s)))) (V1.c (Cell.str (List.drop (s.length - p.length) s))), decide ((↑s.length : Int) ≥ (↑p.length : Int)) = true → (0 : Int) ≤ Int.ofNat (s.length - p.length) ∧ Int.ofNat (s.length - p.length) ≤ Int.ofNat s.length ∧ Int.ofNat s.length ≤ (↑s.length : Int)] (by kernel_rfl) (by kernel_rfl) (by kernel_rfl) ⟨fun _ _ => trivial, (by intro _; assumption), (fun _ => inR64 (by omega) (by omega)), fun _ _ => trivial, (by intro _; assumption), (show decide ((↑s.length : Int) ≥ (↑p.length : Int)) = true → (0 : Int) ≤ Int.ofNat (s.length - p.length) ∧ Int.ofNat (s.length - p.length) ≤ Int.ofNat s.length ∧ Int.ofNat s.length ≤ (↑s.length : Int) from (by simp; done))⟩ ?_
      refine Wp.ret' (by kernel_rfl) ?_
      exact FinQ.pure (rs' := [V1.c (Cell.bool (bif decide ((↑s.length : Int) ≥ (↑p.length : Int)) then List.drop (s.length - p.length) s == p else false))]) (by kernel_rfl) (by simp [*]; done) (by kernel_rfl)
    · rw [decide_eq_false h, Bool.false_and] at hx
      rw [← hx]
      refine Wp.go (mx := true) (fun _ => mixed) [(1, {grd := [(6, false), (7, false), (8, false), (9, false), (10, false), (11, false), (12, false), (13, false), (14, false), (15, false)]})] 100 [] [decide ((↑s.length : Int) ≥ (↑p.length : Int)) = !true, decide ((↑s.length : Int) ≥ (↑p.length : Int)) = !true, decide ((↑s.length : Int) ≥ (↑p.length : Int)) = !true, decide ((↑s.length : Int) ≥ (↑p.length : Int)) = !true, decide ((↑s.length : Int) ≥ (↑p.length : Int)) = !true, decide ((↑s.length : Int) ≥ (↑p.length : Int)) = !true, decide ((↑s.length : Int) ≥ (↑p.length : Int)) = !true, decide ((↑s.length : Int) ≥ (↑p.length : Int)) = !true, decide ((↑s.length : Int) ≥ (↑p.length : Int)) = !true, decide ((↑s.length : Int) ≥ (↑p.length : Int)) = false] (by kernel_rfl) (by kernel_rfl) (by kernel_rfl) ⟨(by simp; omega), (by simp; omega), (by simp; omega), (by simp; omega), (by simp; omega), (by simp; omega), (by simp; omega), (by simp; omega), (by simp; omega), (show decide ((↑s.length : Int) ≥ (↑p.length : Int)) = false from (by simp; omega))⟩ ?_
      refine Wp.ret' (by kernel_rfl) ?_
      exact FinQ.pure (rs' := [V1.c (Cell.bool false)]) (by kernel_rfl) rfl (by kernel_rfl)
  refine Pur.of Tryz.func170 (by kernel_rfl) (by kernel_rfl) (by kernel_rfl) ?_
  refine Wp.go (mx := true) (fun _ => mixed) [(1, {cs := [(2, pc c)]})] 100 [] [] (by kernel_rfl) (by kernel_rfl) (by kernel_rfl) trivial ?_
  refine Wp.ret' (by kernel_rfl) ?_
  exact FinQ.pure (rs' := [V1.c (Cell.bool (Lib.hasSuffix s p))]) (by kernel_rfl) rfl (by kernel_rfl)
theorem tilde_b (c : UInt8) : (c == 126) = (((c.toNat : Nat) : Int) == 126) := eq_of_beq (byte_all (fun c => (c == 126) == (((c.toNat : Nat) : Int) == 126)) (by kernel_rfl) c)
theorem pre_tilde (s : List UInt8) (h : 2 ≤ s.length) : Lib.hasPrefix s [126] = (((s.getD 0 0).toNat : Int) == 126) := by
  match s, h with
  | a :: r, _ =>
    rw [List.getD_cons_zero, ← tilde_b a, Bool.beq_comm]
    show ((126 : UInt8) == a && List.isPrefixOf [] r) = _
    rw [List.isPrefixOf_nil_left, Bool.and_true]
theorem suf_tilde (s : List UInt8) (h : 2 ≤ s.length) : Lib.hasSuffix s [126] = (((s.getD (s.length - 1) 0).toNat : Int) == 126) := by
  have hd : s.drop (s.length - 1) = [s.getD (s.length - 1) 0] := by
    rw [List.drop_eq_getElem_cons (by omega), List.drop_of_length_le (by omega)]
    simp [List.getD, show s.length - 1 < s.length by omega]
  rw [← tilde_b, ← Lib.hasSuffix_of_drop, show ([126] : List UInt8).length = 1 from rfl, hd, decide_eq_true (by omega)]
  simp
theorem shape_eq (s : List UInt8) (h : 2 ≤ s.length) : shapeT s = (Lib.hasPrefix s [126] && Lib.hasSuffix s [126]) := by
  unfold shapeT
  rw [pre_tilde s h, suf_tilde s h, decide_eq_false (by omega)]
  simp only [bne, cond_false]
  cases (((s.getD 0 0).toNat : Int) == 126) <;> cases (((s.getD (s.length - 1) 0).toNat : Int) == 126) <;> rfl
theorem shape_short (s : List UInt8) (h : s.length < 2) : shapeT s = false := by
  unfold shapeT
  rw [decide_eq_true (by omega)]
  rfl
theorem readC_ok (s : List UInt8) (hs : s.length ≤ 30000000000000) : (∃ t, readT s = some t ∧ Pur Tryz.prog G 127 [.c (.str s)] [.agg (encK (toK t)), .c (.bool true)]) ∨ (readT s = none ∧ Pur Tryz.prog G 127 [.c (.str s)] [.agg [.int .i64 0, .int .i64 0, .str [], .nilsl], .c (.bool false)]) := by
  unfold readT
  have cp := lib_HasPrefix (G := G) s [126]
  have cs := lib_HasSuffix (G := G) s [126] hs
  rcases Nat.lt_or_ge s.length 2 with h2 | h2
  · rw [if_neg (by rw [shape_short s h2]; decide)]
    refine .inr ⟨rfl, ?_⟩
    refine Pur.of Tryz.func127 (by kernel_rfl) (by kernel_rfl) (by kernel_rfl) ?_
    refine Wp.go (mx := true) (fun _ => mixed) [(1, {grd := [(4, false), (5, false), (6, false), (7, true), (9, false), (10, false), (11, false), (12, true)]})] 100 [true] [decide ((↑s.length : Int) < (2 : Int)) = !false, decide ((↑s.length : Int) < (2 : Int)) = !false, decide ((↑s.length : Int) < (2 : Int)) = !false, decide ((↑s.length : Int) < (2 : Int)) = true, true = !false, true = !false, true = !false, true = true, true = true] (by kernel_rfl) (by kernel_rfl) (by kernel_rfl) ⟨(by simp; omega), (by simp; omega), (by simp; omega), (by simp; omega), rfl, rfl, rfl, rfl, rfl⟩ ?_
    refine Wp.ret' (by kernel_rfl) ?_
    exact FinQ.pure (rs' := [V1.agg [Cell.int .i64 (0 : Int), Cell.int .i64 (0 : Int), Cell.str [], Cell.nilsl], V1.c (Cell.bool false)]) (by kernel_rfl) rfl (by kernel_rfl)
  · have hsh := shape_eq s h2
    have e1 : EqvD (.c (.str (List.drop 1 (List.take (s.length - 1) s)))) (.c (.str (coreT s))) := fun _ _ _ h => h
    have e2 : EqvD (.c (.int .i64 ((s.length : Int) - 1))) (.c (.int .i64 ((s.length - 1 : Nat) : Int))) := eqvD_of (by rw [show (s.length : Int) - 1 = ((s.length - 1 : Nat) : Int) by omega])
    have t2 : decide ((s.length : Int) < 2) = false := decide_eq_false (by omega)
    cases hp : Lib.hasPrefix s [126] with
    | false =>
      rw [hp] at hsh cp
      rw [if_neg (by rw [hsh]; simp)]
      refine .inr ⟨rfl, ?_⟩
      refine Pur.of Tryz.func127 (by kernel_rfl) (by kernel_rfl) (by kernel_rfl) ?_
      clear hsh hp
      refine Wp.go (mx := true) (fun _ => mixed) [(1, {cs := [(5, pc cp)], grd := [(9, false), (10, false), (11, false), (12, true)]})] 100 [true] [(bif decide ((↑s.length : Int) < (2 : Int)) then true else !false) = !false, (bif decide ((↑s.length : Int) < (2 : Int)) then true else !false) = !false, (bif decide ((↑s.length : Int) < (2 : Int)) then true else !false) = !false, (bif decide ((↑s.length : Int) < (2 : Int)) then true else !false) = true, true = true] (by kernel_rfl) (by kernel_rfl) (by kernel_rfl) ⟨(by simp; done), (by simp; done), (by simp; done), (by simp; done), rfl⟩ ?_
      refine Wp.ret' (by kernel_rfl) ?_
      exact FinQ.pure (rs' := [V1.agg [Cell.int .i64 (0 : Int), Cell.int .i64 (0 : Int), Cell.str [], Cell.nilsl], V1.c (Cell.bool false)]) (by kernel_rfl) rfl (by kernel_rfl)
    | true =>
      rw [hp] at hsh cp
      cases hq : Lib.hasSuffix s [126] with
      | false =>
        rw [hq] at hsh cs
        rw [if_neg (by rw [hsh]; simp)]
        refine .inr ⟨rfl, ?_⟩
        refine Pur.of Tryz.func127 (by kernel_rfl) (by kernel_rfl) (by kernel_rfl) ?_
        clear hsh hp hq
        refine Wp.go (mx := true) (fun _ => mixed) [(1, {cs := [(5, pc cp), (10, pc cs)]})] 100 [true] [(bif bif decide ((↑s.length : Int) < (2 : Int)) then true else !true then true else !false) = true] (by kernel_rfl) (by kernel_rfl) (by kernel_rfl) (show (bif bif decide ((↑s.length : Int) < (2 : Int)) then true else !true then true else !false) = true from (by simp; done)) ?_
        refine Wp.ret' (by kernel_rfl) ?_
        exact FinQ.pure (rs' := [V1.agg [Cell.int .i64 (0 : Int), Cell.int .i64 (0 : Int), Cell.str [], Cell.nilsl], V1.c (Cell.bool false)]) (by kernel_rfl) rfl (by kernel_rfl)
      | true =>
        rw [hq] at hsh cs
        rw [if_pos (by rw [hsh]; simp)]
        rcases innerC_ok (G := G) (coreT s) (Nat.le_trans (coreT_len s) hs) with ⟨t, ht, c⟩ | ⟨ht, c⟩
        · refine .inl ⟨t, ht, ?_⟩
          refine Pur.of Tryz.func127 (by kernel_rfl) (by kernel_rfl) (by kernel_rfl) ?_
          clear ht hsh hp hq
          refine Wp.go (mx := true) (fun _ => mixed) [(3, {cs := [(5, pc c)], fm := [(3, .c (.int .i64 ((s.length - 1 : Nat) : Int))), (4, .c (.str (coreT s)))]}), (1, {cs := [(5, pc cp), (10, pc cs)]})] 100 [false] [(bif bif decide ((↑s.length : Int) < (2 : Int)) then true else !true then true else !true) = false, EqvI (V1.c (Cell.int .i64 ((↑s.length : Int) - (1 : Int)))) (V1.c (Cell.int .i64 (↑(s.length - (1 : Nat)) : Int))), EqvD (V1.c (Cell.int .i64 ((↑s.length : Int) - (1 : Int)))) (V1.c (Cell.int .i64 (↑(s.length - (1 : Nat)) : Int))), inR IntKind.i64 ((↑s.length : Int) - (1 : Int)), EqvI (V1.c (Cell.str (List.drop (1 : Nat) (List.take (Int.ofNat (s.length - (1 : Nat))).toNat s)))) (V1.c (Cell.str (coreT s))), EqvD (V1.c (Cell.str (List.drop (1 : Nat) (List.take (Int.ofNat (s.length - (1 : Nat))).toNat s)))) (V1.c (Cell.str (coreT s))), (0 : Int) ≤ Int.ofNat (1) ∧ Int.ofNat (1) ≤ Int.ofNat (s.length - (1 : Nat)) ∧ Int.ofNat (s.length - (1 : Nat)) ≤ (↑s.length : Int)] (by kernel_rfl) (by kernel_rfl) (by kernel_rfl) ⟨(by simp; omega), fun _ _ => trivial, (by assumption), inR64 (by omega) (by omega), fun _ _ => trivial, (by assumption), ⟨(by decide), ⟨(by simp; omega), (by simp; done)⟩⟩⟩ ?_
          refine Wp.ret' (by kernel_rfl) ?_
          exact FinQ.pure (rs' := [V1.agg [Cell.int .i64 (toK t).k, Cell.int .i64 (toK t).n, Cell.str (toK t).s, Cell.sl (4 : Nat) (toK t).m (toK t).f], V1.c (Cell.bool true)]) (by kernel_rfl) rfl (by kernel_rfl)
        · refine .inr ⟨ht, ?_⟩
          refine Pur.of Tryz.func127 (by kernel_rfl) (by kernel_rfl) (by kernel_rfl) ?_
          clear ht hsh hp hq
          refine Wp.go (mx := true) (fun _ => mixed) [(3, {cs := [(5, pc c)], fm := [(3, .c (.int .i64 ((s.length - 1 : Nat) : Int))), (4, .c (.str (coreT s)))]}), (1, {cs := [(5, pc cp), (10, pc cs)]})] 100 [false] [(bif bif decide ((↑s.length : Int) < (2 : Int)) then true else !true then true else !true) = false, EqvI (V1.c (Cell.int .i64 ((↑s.length : Int) - (1 : Int)))) (V1.c (Cell.int .i64 (↑(s.length - (1 : Nat)) : Int))), EqvD (V1.c (Cell.int .i64 ((↑s.length : Int) - (1 : Int)))) (V1.c (Cell.int .i64 (↑(s.length - (1 : Nat)) : Int))), inR IntKind.i64 ((↑s.length : Int) - (1 : Int)), EqvI (V1.c (Cell.str (List.drop (1 : Nat) (List.take (Int.ofNat (s.length - (1 : Nat))).toNat s)))) (V1.c (Cell.str (coreT s))), EqvD (V1.c (Cell.str (List.drop (1 : Nat) (List.take (Int.ofNat (s.length - (1 : Nat))).toNat s)))) (V1.c (Cell.str (coreT s))), (0 : Int) ≤ Int.ofNat (1) ∧ Int.ofNat (1) ≤ Int.ofNat (s.length - (1 : Nat)) ∧ Int.ofNat (s.length - (1 : Nat)) ≤ (↑s.length : Int)] (by kernel_rfl) (by kernel_rfl) (by kernel_rfl) ⟨(by simp; omega), fun _ _ => trivial, (by assumption), inR64 (by omega) (by omega), fun _ _ => trivial, (by assumption), ⟨(by decide), ⟨(by simp; omega), (by simp; done)⟩⟩⟩ ?_
          refine Wp.ret' (by kernel_rfl) ?_
          exact FinQ.pure (rs' := [V1.agg [Cell.int .i64 (0 : Int), Cell.int .i64 (0 : Int), Cell.str [], Cell.nilsl], V1.c (Cell.bool false)]) (by kernel_rfl) rfl (by kernel_rfl)
theorem mayP_ok (s : List UInt8) (hs : s.length ≤ 30000000000000) : Pur Tryz.prog G 80 [.c (.str s)] [.c (.bool (isHash s))] := by
  refine Pur.of Tryz.func80 (by kernel_rfl) (by kernel_rfl) (by kernel_rfl) ?_
  unfold isHash
  rcases readC_ok (G := G) s hs with ⟨t, ht, c⟩ | ⟨ht, c⟩
  · rw [ht]
    simp only []
    clear ht
    cases hk : ((toK t).k == 3) with
    | true =>
      refine Wp.go (mx := true) (fun _ => mixed) [(1, {cs := [(1, pc c)]})] 100 [] [] (by kernel_rfl) (by kernel_rfl) (by kernel_rfl) trivial ?_
      refine Wp.ret' (by kernel_rfl) ?_
      exact FinQ.pure (rs' := [V1.c (Cell.bool (bif true then (toK t).k == (3 : Int) else false))]) (by kernel_rfl) (by simp [*]; done) (by kernel_rfl)
    | false =>
      refine Wp.go (mx := true) (fun _ => mixed) [(1, {cs := [(1, pc c)]})] 100 [] [] (by kernel_rfl) (by kernel_rfl) (by kernel_rfl) trivial ?_
      refine Wp.ret' (by kernel_rfl) ?_
      exact FinQ.pure (rs' := [V1.c (Cell.bool (bif true then (toK t).k == (3 : Int) else false))]) (by kernel_rfl) (by simp [*]; done) (by kernel_rfl)
  · rw [ht]
    refine Wp.go (mx := true) (fun _ => mixed) [(1, {cs := [(1, pc c)]})] 100 [] [] (by kernel_rfl) (by kernel_rfl) (by kernel_rfl) trivial ?_
    refine Wp.ret' (by kernel_rfl) ?_
    exact FinQ.pure (rs' := [V1.c (Cell.bool (bif false then (0 : Int) == (3 : Int) else false))]) (by kernel_rfl) rfl (by kernel_rfl)
theorem may18_ok (s : List UInt8) (hs : s.length ≤ 30000000000000) : Pur Tryz.prog G 84 [.c (.str s)] [.c (.bool (isHash s))] := by
  refine Pur.of Tryz.func84 (by kernel_rfl) (by kernel_rfl) (by kernel_rfl) ?_
  unfold isHash
  rcases read9_ok (G := G) s hs with ⟨t, ht, c⟩ | ⟨ht, c⟩
  · rw [ht]
    simp only []
    clear ht
    cases hk : ((toK t).k == 3) with
    | true =>
      refine Wp.go (mx := true) (fun _ => mixed) [(1, {cs := [(1, pc c)]})] 100 [] [] (by kernel_rfl) (by kernel_rfl) (by kernel_rfl) trivial ?_
      refine Wp.ret' (by kernel_rfl) ?_
      exact FinQ.pure (rs' := [V1.c (Cell.bool (bif true then (toK t).k == (3 : Int) else false))]) (by kernel_rfl) (by simp [*]; done) (by kernel_rfl)
    | false =>
      refine Wp.go (mx := true) (fun _ => mixed) [(1, {cs := [(1, pc c)]})] 100 [] [] (by kernel_rfl) (by kernel_rfl) (by kernel_rfl) trivial ?_
      refine Wp.ret' (by kernel_rfl) ?_
      exact FinQ.pure (rs' := [V1.c (Cell.bool (bif true then (toK t).k == (3 : Int) else false))]) (by kernel_rfl) (by simp [*]; done) (by kernel_rfl)
  · rw [ht]
    refine Wp.go (mx := true) (fun _ => mixed) [(1, {cs := [(1, pc c)]})] 100 [] [] (by kernel_rfl) (by kernel_rfl) (by kernel_rfl) trivial ?_
    refine Wp.ret' (by kernel_rfl) ?_
    exact FinQ.pure (rs' := [V1.c (Cell.bool (bif false then (0 : Int) == (3 : Int) else false))]) (by kernel_rfl) rfl (by kernel_rfl)
end Go.Proofs.Tw
end

section
open Go Go.Sv
namespace Go.Proofs.Tw
attribute [local irreducible] Wp FinQ resV Ent Pur Go.Sv.Fn Sat0
set_option maxRecDepth 100000
set_option maxHeartbeats 4000000
variable {G : Nat → Option (List Cell)}

structure WT where (ty redir scope state nonce chal meth : List UInt8)
def WT.nil : WT := ⟨[], [], [], [], [], [], []⟩
structure RcT where
  (kind key til : Int) (used : Bool) (client user sess fam : Int) (w : WT)
def RcT.nil : RcT := ⟨0, 0, 0, false, 0, 0, 0, 0, .nil⟩
def encW (w : WT) : List Cell := [.str w.ty, .str w.redir, .str w.scope, .str w.state, .str w.nonce, .str w.chal, .str w.meth]
def encRc (r : RcT) : List Cell := [.int .i64 r.kind, .int .i64 r.key, .int .i64 r.til, .bool r.used, .int .i64 r.client, .int .i64 r.user, .int .i64 r.sess, .int .i64 r.fam, .str r.w.ty, .str r.w.redir, .str r.w.scope, .str r.w.state, .str r.w.nonce, .str r.w.chal, .str r.w.meth]
def rcS (l : List RcT) : Cell := .sl 15 l.length (rowF encRc .nil l)
def rcB (l : List RcT) : Blk := .row 84 15 l.length (rowF encRc .nil l)
def bxN (d : Int) : Blk := .box 3 [.int .i64 d]
structure SoT where (n conn now : Int)
def encSo (s : SoT) : List Cell := [.int .i64 s.n, .int .i64 s.conn, .int .i64 s.now]
def liveP (now : Int) (r : RcT) : Bool := decide (now < r.til)
def roomP (kind : Int) (r : RcT) : Bool := r.kind == kind
def liveT (now : Int) (l : List RcT) : List RcT := l.filter (liveP now)
def mostT (k : Int) : Int := bif k == 1 then 6 else bif k == 2 then 6 else bif k == 3 then 6 else bif k == 4 then 6 else bif k == 5 then 12 else bif k == 6 then 12 else 0
def lifeT (k : Int) : Int := bif k == 1 then 60 else bif k == 2 then 900 else bif k == 3 then 120 else bif k == 4 then 40 else bif k == 5 then 300 else bif k == 6 then 600 else 0

theorem dnext_ok (n : Int) (h : n ≤ 1073741824) (h0 : -1000000000000 ≤ n) : Pur Tryz.prog G 179 [.c (.int .i64 n)] [.c (.int .i64 (n + 1))] := by
  refine Pur.of Tryz.func179 (by kernel_rfl) (by kernel_rfl) (by kernel_rfl) ?_
  refine Wp.go (mx := true) (fun _ => mixed) [] 100 [false] [decide (n > (1073741824 : Int)) = false, inR IntKind.i64 (n + (1 : Int))] (by kernel_rfl) (by kernel_rfl) (by kernel_rfl) ⟨(by simp; omega), inR64 (by omega) (by omega)⟩ ?_
  refine Wp.ret' (by kernel_rfl) ?_
  exact FinQ.pure (rs' := [V1.c (Cell.int .i64 (n + (1 : Int)))]) (by kernel_rfl) rfl (by kernel_rfl)
theorem dnext_no (n : Int) (h : 1073741824 < n) : Pur Tryz.prog G 179 [.c (.int .i64 n)] [.c (.int .i64 n)] := by
  refine Pur.of Tryz.func179 (by kernel_rfl) (by kernel_rfl) (by kernel_rfl) ?_
  refine Wp.go (mx := true) (fun _ => mixed) [] 100 [true] [decide (n > (1073741824 : Int)) = true] (by kernel_rfl) (by kernel_rfl) (by kernel_rfl) (show decide (n > (1073741824 : Int)) = true from (by simp; omega)) ?_
  refine Wp.ret' (by kernel_rfl) ?_
  exact FinQ.pure (rs' := [V1.c (Cell.int .i64 n)]) (by kernel_rfl) rfl (by kernel_rfl)
theorem drawn_ok (n : Int) (s t : SoT) (h : t.n ≠ s.n) : Pur Tryz.prog G 180 [.c (.int .i64 n), .agg (encSo s), .agg (encSo t)] [.c (.int .i64 n), .agg (encSo t), .c (.bool true)] := by
  refine Pur.of Tryz.func180 (by kernel_rfl) (by kernel_rfl) (by kernel_rfl) ?_
  have hb : (t.n == s.n) = false := by simpa using h
  have ht : ((t.n == s.n) && ((t.conn == s.conn) && ((t.now == s.now) && true))) = false := by simp [hb]
  refine Wp.go (mx := true) (fun _ => mixed) [] 100 [false] [(t.n == s.n && (t.conn == s.conn && (t.now == s.now && true))) = false] (by kernel_rfl) (by kernel_rfl) (by kernel_rfl) (show (t.n == s.n && (t.conn == s.conn && (t.now == s.now && true))) = false from (by assumption)) ?_
  refine Wp.ret' (by kernel_rfl) ?_
  exact FinQ.pure (rs' := [V1.c (Cell.int .i64 n), V1.agg [Cell.int .i64 t.n, Cell.int .i64 t.conn, Cell.int .i64 t.now], V1.c (Cell.bool true)]) (by kernel_rfl) rfl (by kernel_rfl)
theorem drawn_no (n : Int) (s : SoT) : Pur Tryz.prog G 180 [.c (.int .i64 n), .agg (encSo s), .agg (encSo s)] [.c (.int .i64 0), .agg (encSo s), .c (.bool false)] := by
  refine Pur.of Tryz.func180 (by kernel_rfl) (by kernel_rfl) (by kernel_rfl) ?_
  have ht : ((s.n == s.n) && ((s.conn == s.conn) && ((s.now == s.now) && true))) = true := by simp
  refine Wp.go (mx := true) (fun _ => mixed) [] 100 [true] [(s.n == s.n && (s.conn == s.conn && (s.now == s.now && true))) = true] (by kernel_rfl) (by kernel_rfl) (by kernel_rfl) (show (s.n == s.n && (s.conn == s.conn && (s.now == s.now && true))) = true from (by assumption)) ?_
  refine Wp.ret' (by kernel_rfl) ?_
  exact FinQ.pure (rs' := [V1.c (Cell.int .i64 (0 : Int)), V1.agg [Cell.int .i64 s.n, Cell.int .i64 s.conn, Cell.int .i64 s.now], V1.c (Cell.bool false)]) (by kernel_rfl) rfl (by kernel_rfl)
theorem nonce_ok (s : SoT) (h : s.n ≤ 1073741824) (h0 : -1000000000000 ≤ s.n) : Pur Tryz.prog G 139 [.agg (encSo s)] [.c (.int .i64 s.n), .agg (encSo ⟨s.n + 1, s.conn, s.now⟩), .c (.bool true)] := by
  refine Pur.of Tryz.func139 (by kernel_rfl) (by kernel_rfl) (by kernel_rfl) ?_
  have c : Pur Tryz.prog G 180 [.c (.int .i64 s.n), .agg (encSo s), .agg [.int .i64 (s.n + 1), .int .i64 s.conn, .int .i64 s.now]] [.c (.int .i64 s.n), .agg [.int .i64 (s.n + 1), .int .i64 s.conn, .int .i64 s.now], .c (.bool true)] := drawn_ok (G := G) s.n s ⟨s.n + 1, s.conn, s.now⟩ (by show s.n + 1 ≠ s.n; omega)
  have c2 := dnext_ok (G := G) s.n h h0
  refine Wp.go (mx := true) (fun _ => mixed) [(2, {cs := [(2, pc c2)]}), (3, {cs := [(4, pc c)]})] 100 [] [] (by kernel_rfl) (by kernel_rfl) (by kernel_rfl) trivial ?_
  refine Wp.ret' (by kernel_rfl) ?_
  exact FinQ.pure (rs' := [V1.c (Cell.int .i64 s.n), V1.agg [Cell.int .i64 (s.n + (1 : Int)), Cell.int .i64 s.conn, Cell.int .i64 s.now], V1.c (Cell.bool true)]) (by kernel_rfl) rfl (by kernel_rfl)
theorem nonce_no (s : SoT) (h : 1073741824 < s.n) : Pur Tryz.prog G 139 [.agg (encSo s)] [.c (.int .i64 0), .agg (encSo s), .c (.bool false)] := by
  refine Pur.of Tryz.func139 (by kernel_rfl) (by kernel_rfl) (by kernel_rfl) ?_
  have c := drawn_no (G := G) s.n s
  have c2 := dnext_no (G := G) s.n h
  refine Wp.go (mx := true) (fun _ => mixed) [(2, {cs := [(2, pc c2)]}), (3, {cs := [(4, pc c)]})] 100 [] [] (by kernel_rfl) (by kernel_rfl) (by kernel_rfl) trivial ?_
  refine Wp.ret' (by kernel_rfl) ?_
  exact FinQ.pure (rs' := [V1.c (Cell.int .i64 (0 : Int)), V1.agg [Cell.int .i64 s.n, Cell.int .i64 s.conn, Cell.int .i64 s.now], V1.c (Cell.bool false)]) (by kernel_rfl) rfl (by kernel_rfl)
theorem until_ok (now life : Int) (h0 : 0 ≤ now) (h1 : now ≤ 1000000000) (h2 : 0 < life) (h3 : life ≤ 1000000) : Pur Tryz.prog G 141 [.c (.int .i64 now), .c (.int .i64 life)] [.c (.int .i64 (now + life))] := by
  refine Pur.of Tryz.func141 (by kernel_rfl) (by kernel_rfl) (by kernel_rfl) ?_
  have t1 : decide (life ≤ 0) = false := by simp; omega
  have t2 : decide (now < 0) = false := by simp; omega
  have t3 : decide (now ≥ 0) = true := by simp; omega
  have t4 : decide (life > 1099511627776 - now) = false := by simp; omega
  refine Wp.go (mx := true) (fun _ => mixed) [] 100 [false, false] [decide (life ≤ (0 : Int)) = false, decide (now ≥ (0 : Int)) = true ∧ (bif decide (now < (0 : Int)) then decide (life > (1099511627776 : Int)) else false) = false → inR IntKind.i64 ((1099511627776 : Int) - now), (bif bif decide (now < (0 : Int)) then decide (life > (1099511627776 : Int)) else false then true else bif decide (now ≥ (0 : Int)) then decide (life > (1099511627776 : Int) - now) else false) = false, inR IntKind.i64 (now + life)] (by kernel_rfl) (by kernel_rfl) (by kernel_rfl) ⟨(by assumption), (fun _ => inR64 (by omega) (by omega)), (by simp; omega), inR64 (by omega) (by omega)⟩ ?_
  refine Wp.ret' (by kernel_rfl) ?_
  exact FinQ.pure (rs' := [V1.c (Cell.int .i64 (now + life))]) (by kernel_rfl) rfl (by kernel_rfl)
theorem dlive_ok (a b : Int) : Pur Tryz.prog G 222 [.c (.int .i64 a), .c (.int .i64 b)] [.c (.bool (decide (a < b)))] := by
  refine Pur.of Tryz.func222 (by kernel_rfl) (by kernel_rfl) (by kernel_rfl) ?_
  refine Wp.go (mx := true) (fun _ => mixed) [] 100 [] [] (by kernel_rfl) (by kernel_rfl) (by kernel_rfl) trivial ?_
  refine Wp.ret' (by kernel_rfl) ?_
  exact FinQ.pure (rs' := [V1.c (Cell.bool (decide (a < b)))]) (by kernel_rfl) rfl (by kernel_rfl)
theorem bounds_ok (k : Int) : Pur Tryz.prog G 185 [.c (.int .i64 k)] [.agg [.int .i64 (mostT k), .int .i64 (lifeT k)]] := by
  refine Pur.of Tryz.func185 (by kernel_rfl) (by kernel_rfl) (by kernel_rfl) ?_
  refine Wp.go (mx := true) (fun _ => mixed) [] 100 [] [] (by kernel_rfl) (by kernel_rfl) (by kernel_rfl) trivial ?_
  refine Wp.cond' (by kernel_rfl) (k == (1 : Int)) (by kernel_rfl) (fun h0 => ?_) (fun h0 => ?_)
  · have g0 := eq_of_beq h0
    refine Wp.go (mx := true) (fun _ => mixed) [] 100 [] [] (by kernel_rfl) (by kernel_rfl) (by kernel_rfl) trivial ?_
    refine Wp.ret' (by kernel_rfl) ?_
    exact FinQ.pure (rs' := [V1.agg [Cell.int .i64 (6 : Int), Cell.int .i64 (60 : Int)]]) (by kernel_rfl) (by simp [mostT, lifeT, h0]; done) (by kernel_rfl)
  · have g0 := ne_of_beq_false h0
    refine Wp.go (mx := true) (fun _ => mixed) [] 100 [] [] (by kernel_rfl) (by kernel_rfl) (by kernel_rfl) trivial ?_
    refine Wp.cond' (by kernel_rfl) (k == (2 : Int)) (by kernel_rfl) (fun h1 => ?_) (fun h1 => ?_)
    · have g1 := eq_of_beq h1
      refine Wp.go (mx := true) (fun _ => mixed) [] 100 [] [] (by kernel_rfl) (by kernel_rfl) (by kernel_rfl) trivial ?_
      refine Wp.ret' (by kernel_rfl) ?_
      exact FinQ.pure (rs' := [V1.agg [Cell.int .i64 (6 : Int), Cell.int .i64 (900 : Int)]]) (by kernel_rfl) (by simp [mostT, lifeT, h0, h1]; done) (by kernel_rfl)
    · have g1 := ne_of_beq_false h1
      refine Wp.go (mx := true) (fun _ => mixed) [] 100 [] [] (by kernel_rfl) (by kernel_rfl) (by kernel_rfl) trivial ?_
      refine Wp.cond' (by kernel_rfl) (k == (3 : Int)) (by kernel_rfl) (fun h2 => ?_) (fun h2 => ?_)
      · have g2 := eq_of_beq h2
        refine Wp.go (mx := true) (fun _ => mixed) [] 100 [] [] (by kernel_rfl) (by kernel_rfl) (by kernel_rfl) trivial ?_
        refine Wp.ret' (by kernel_rfl) ?_
        exact FinQ.pure (rs' := [V1.agg [Cell.int .i64 (6 : Int), Cell.int .i64 (120 : Int)]]) (by kernel_rfl) (by simp [mostT, lifeT, h0, h1, h2]; done) (by kernel_rfl)
      · have g2 := ne_of_beq_false h2
        refine Wp.go (mx := true) (fun _ => mixed) [] 100 [] [] (by kernel_rfl) (by kernel_rfl) (by kernel_rfl) trivial ?_
        refine Wp.cond' (by kernel_rfl) (k == (4 : Int)) (by kernel_rfl) (fun h3 => ?_) (fun h3 => ?_)
        · have g3 := eq_of_beq h3
          refine Wp.go (mx := true) (fun _ => mixed) [] 100 [] [] (by kernel_rfl) (by kernel_rfl) (by kernel_rfl) trivial ?_
          refine Wp.ret' (by kernel_rfl) ?_
          exact FinQ.pure (rs' := [V1.agg [Cell.int .i64 (6 : Int), Cell.int .i64 (40 : Int)]]) (by kernel_rfl) (by simp [mostT, lifeT, h0, h1, h2, h3]; done) (by kernel_rfl)
        · have g3 := ne_of_beq_false h3
          refine Wp.go (mx := true) (fun _ => mixed) [] 100 [] [] (by kernel_rfl) (by kernel_rfl) (by kernel_rfl) trivial ?_
          refine Wp.cond' (by kernel_rfl) (k == (5 : Int)) (by kernel_rfl) (fun h4 => ?_) (fun h4 => ?_)
          · have g4 := eq_of_beq h4
            refine Wp.go (mx := true) (fun _ => mixed) [] 100 [] [] (by kernel_rfl) (by kernel_rfl) (by kernel_rfl) trivial ?_
            refine Wp.ret' (by kernel_rfl) ?_
            exact FinQ.pure (rs' := [V1.agg [Cell.int .i64 (12 : Int), Cell.int .i64 (300 : Int)]]) (by kernel_rfl) (by simp [mostT, lifeT, h0, h1, h2, h3, h4]; done) (by kernel_rfl)
          · have g4 := ne_of_beq_false h4
            refine Wp.go (mx := true) (fun _ => mixed) [] 100 [] [] (by kernel_rfl) (by kernel_rfl) (by kernel_rfl) trivial ?_
            refine Wp.cond' (by kernel_rfl) (k == (6 : Int)) (by kernel_rfl) (fun h5 => ?_) (fun h5 => ?_)
            · have g5 := eq_of_beq h5
              refine Wp.go (mx := true) (fun _ => mixed) [] 100 [] [] (by kernel_rfl) (by kernel_rfl) (by kernel_rfl) trivial ?_
              refine Wp.ret' (by kernel_rfl) ?_
              exact FinQ.pure (rs' := [V1.agg [Cell.int .i64 (12 : Int), Cell.int .i64 (600 : Int)]]) (by kernel_rfl) (by simp [mostT, lifeT, h0, h1, h2, h3, h4, h5]; done) (by kernel_rfl)
            · have g5 := ne_of_beq_false h5
              refine Wp.go (mx := true) (fun _ => mixed) [] 100 [] [] (by kernel_rfl) (by kernel_rfl) (by kernel_rfl) trivial ?_
              refine Wp.ret' (by kernel_rfl) ?_
              exact FinQ.pure (rs' := [V1.agg [Cell.int .i64 (0 : Int), Cell.int .i64 (0 : Int)]]) (by kernel_rfl) (by simp [mostT, lifeT, h0, h1, h2, h3, h4, h5]; done) (by kernel_rfl)
theorem most_ok (k : Int) : Pur Tryz.prog G 184 [.c (.int .i64 k)] [.c (.int .i64 (mostT k))] := by
  refine Pur.of Tryz.func184 (by kernel_rfl) (by kernel_rfl) (by kernel_rfl) ?_
  have c := bounds_ok (G := G) k
  refine Wp.go (mx := true) (fun _ => mixed) [(1, {cs := [(1, pc c)]})] 100 [] [] (by kernel_rfl) (by kernel_rfl) (by kernel_rfl) trivial ?_
  refine Wp.ret' (by kernel_rfl) ?_
  exact FinQ.pure (rs' := [V1.c (Cell.int .i64 (mostT k))]) (by kernel_rfl) rfl (by kernel_rfl)
theorem life_ok (k : Int) : Pur Tryz.prog G 142 [.c (.int .i64 k)] [.c (.int .i64 (lifeT k))] := by
  refine Pur.of Tryz.func142 (by kernel_rfl) (by kernel_rfl) (by kernel_rfl) ?_
  have c := bounds_ok (G := G) k
  refine Wp.go (mx := true) (fun _ => mixed) [(1, {cs := [(1, pc c)]})] 100 [] [] (by kernel_rfl) (by kernel_rfl) (by kernel_rfl) trivial ?_
  refine Wp.ret' (by kernel_rfl) ?_
  exact FinQ.pure (rs' := [V1.c (Cell.int .i64 (lifeT k))]) (by kernel_rfl) rfl (by kernel_rfl)
theorem live1_ok (now : Int) (r : RcT) : FnB Tryz.prog G 221 [bxN now] [.agg (encRc r), .c (.ptr 0 0)] [.c (.bool (liveP now r))] [(0, bxN now)] := by
  refine Fn.of' Tryz.func221 (by kernel_rfl) (by kernel_rfl) (by kernel_rfl) (by kernel_rfl) trivial ?_
  have c := dlive_ok (G := G) now r.til
  refine Wp.go (mx := true) (fun _ => mixed) [(1, {cs := [(3, pc c)]})] 100 [] [] (by kernel_rfl) (by kernel_rfl) (by kernel_rfl) trivial ?_
  refine Wp.ret' (by kernel_rfl) ?_
  exact FinQ.blk [] (by kernel_rfl) (by kernel_rfl) (by kernel_rfl) (by kernel_rfl) (by kernel_rfl) trivial
theorem room1_ok (k : Int) (r : RcT) : FnB Tryz.prog G 183 [bxN k] [.agg (encRc r), .c (.ptr 0 0)] [.c (.bool (roomP k r))] [(0, bxN k)] := by
  refine Fn.of' Tryz.func183 (by kernel_rfl) (by kernel_rfl) (by kernel_rfl) (by kernel_rfl) trivial ?_
  refine Wp.go (mx := true) (fun _ => mixed) [] 100 [] [] (by kernel_rfl) (by kernel_rfl) (by kernel_rfl) trivial ?_
  refine Wp.ret' (by kernel_rfl) ?_
  exact FinQ.blk [] (by kernel_rfl) (by kernel_rfl) (by kernel_rfl) (by kernel_rfl) (by kernel_rfl) trivial
theorem put1_ok (q r : RcT) : FnB Tryz.prog G 188 [.box 84 (encRc q)] [.agg (encRc r), .c (.ptr 0 0)] [.c (.bool (r.key == q.key))] [(0, .box 84 (encRc q))] := by
  refine Fn.of' Tryz.func188 (by kernel_rfl) (by kernel_rfl) (by kernel_rfl) (by kernel_rfl) trivial ?_
  refine Wp.go (mx := true) (fun _ => mixed) [] 100 [] [] (by kernel_rfl) (by kernel_rfl) (by kernel_rfl) trivial ?_
  refine Wp.ret' (by kernel_rfl) ?_
  exact FinQ.blk [] (by kernel_rfl) (by kernel_rfl) (by kernel_rfl) (by kernel_rfl) (by kernel_rfl) trivial
end Go.Proofs.Tw
end

section
/-
  Own layer 'SV' (27): a loop of few rounds, one behind the other.
-/
namespace Go.Sv
open M

section
variable {P : Program} {G : Nat → Option (List Cell)} {N kn : Nat} {k : List KI} {Q : St → Prop} {st st' : St}

theorem post_lp {Γ : Ctx} {R R' : St → Prop} (h : ∀ s, R s → R' s) : ∀ {l k : List KI} {e : Exit} {s : St}, post Γ (l ++ .lp R :: k) Q e s → post Γ (l ++ .lp R' :: k) Q e s
  | [], k, e, s, hp => by
    cases e with
    | normal => exact h s hp
    | exit id => exact hp
    | goto l => exact hp
    | ret => exact hp
    | panic c => exact hp
    | outgrown => exact hp
  | .code c :: l, k, e, s, hp => by
    cases e with
    | normal => exact Tri.mono (show Tri Γ c s (post Γ (l ++ .lp R :: k) Q) from hp) fun e s q => post_lp h (l := l) q
    | exit id => exact post_lp (l := l) h (e := .exit id) hp
    | goto i => exact post_lp (l := l) h (e := .goto i) hp
    | ret => exact post_lp (l := l) h (e := .ret) hp
    | panic c => exact post_lp (l := l) h (e := .panic c) hp
    | outgrown => exact post_lp (l := l) h (e := .outgrown) hp
  | .blk i :: l, k, e, s, hp => by
    cases e with
    | exit id =>
      have hp : (if id = i then post Γ (l ++ .lp R :: k) Q .normal s else post Γ (l ++ .lp R :: k) Q (.exit id) s) := hp
      show (if id = i then post Γ (l ++ .lp R' :: k) Q .normal s else post Γ (l ++ .lp R' :: k) Q (.exit id) s)
      split at hp
      · rename_i e1; rw [if_pos e1]; exact post_lp h (l := l) hp
      · rename_i e1; rw [if_neg e1]; exact post_lp h (l := l) hp
    | normal => exact post_lp (l := l) h (e := .normal) hp
    | goto i => exact post_lp (l := l) h (e := .goto i) hp
    | ret => exact post_lp (l := l) h (e := .ret) hp
    | panic c => exact post_lp (l := l) h (e := .panic c) hp
    | outgrown => exact post_lp (l := l) h (e := .outgrown) hp
  | .lp S :: l, k, e, s, hp => by
    cases e with
    | normal => exact hp
    | exit id => exact post_lp (l := l) h (e := .exit id) hp
    | goto i => exact post_lp (l := l) h (e := .goto i) hp
    | ret => exact post_lp (l := l) h (e := .ret) hp
    | panic c => exact post_lp (l := l) h (e := .panic c) hp
    | outgrown => exact post_lp (l := l) h (e := .outgrown) hp

/-- So many rounds of a loop at most. -/
def UnR (P : Program) (G : Nat → Option (List Cell)) (N kn : Nat) (c : Code) (k : List KI) (Q : St → Prop) : Nat → St → Prop
  | 0, _ => False
  | n + 1, s => Wp P G N kn (.code c :: .lp (UnR P G N kn c k Q n) :: k) Q s

theorem Wp.unr (h : isLoop k = true) (n : Nat) (hw : UnR P G N kn (loopB k) (loopR k) Q n st) : Wp P G N kn k Q st := by
  refine Wp.loop' h (X := St × Nat) (fun x => x.1) (fun x => UnR P G N kn (loopB k) (loopR k) Q x.2 x.1) (fun x => x.2) (st, n) (fun _ _ _ _ h => h) hw ?_
  rintro ⟨s, m⟩ hm
  cases m with
  | zero => exact hm.elim
  | succ m =>
    intro Γ h1 h2 h3 h4
    have := hm Γ h1 h2 h3 h4
    unfold LoopR
    exact post_lp (Q := Q) (R := UnR P G N kn (loopB k) (loopR k) Q m) (fun s q => ⟨(s, m), q, Nat.lt_succ_self m, fun _ _ _ _ h => h⟩) (l := [.code (loopB k)]) this
theorem UnR.step {n : Nat} {c : Code} (h : Wp P G N kn (.code c :: .lp (UnR P G N kn c k Q n) :: k) Q st) : UnR P G N kn c k Q (n + 1) st := h
theorem Wp.unrK (h : isLoop k = true) (n : Nat) (hw : ∀ L : Nat → St → Prop, (∀ m st, Wp P G N kn (.code (loopB k) :: .lp (L m) :: loopR k) Q st → L (m + 1) st) → Wp P G N kn (.code (loopB k) :: .lp (L n) :: loopR k) Q st) : Wp P G N kn k Q st :=
  Wp.unr h (n + 1) (hw (UnR P G N kn (loopB k) (loopR k) Q) fun _ _ h => h)
end
end Go.Sv
end

section
open Go Go.Sv
namespace Go.Proofs.Tw
attribute [local irreducible] Wp FinQ resV Ent Pur Go.Sv.Fn Sat0
set_option maxRecDepth 100000
set_option maxHeartbeats 4000000
variable {G : Nat → Option (List Cell)}

structure ClT where
  (id : List UInt8) (secret : Int) (reds : List (List UInt8)) (scope : List UInt8)
def ClT.nil : ClT := ⟨[], 0, [], []⟩
def encCl (c : ClT) : List Cell := [.str c.id, .int .i64 c.secret, .sl 1 c.reds.length (strsF c.reds), .str c.scope]
theorem knows_ok (c : ClT) (hl : c.reds.length < 1000000000) (s : List UInt8) : Pur Tryz.prog G 79 [.agg (encCl c), .c (.str s)] [.c (.bool (isIn c.reds s))] := by
  refine Pur.of Tryz.func79 (by kernel_rfl) (by kernel_rfl) (by kernel_rfl) ?_
  have c1 := conS_ok (G := G) c.reds c.reds.length s rfl (by omega)
  refine Wp.go (mx := true) (fun _ => mixed) [(1, {cs := [(3, pc c1)]})] 100 [] [] (by kernel_rfl) (by kernel_rfl) (by kernel_rfl) trivial ?_
  refine Wp.ret' (by kernel_rfl) ?_
  exact FinQ.pure (rs' := [V1.c (Cell.bool (isIn c.reds s))]) (by kernel_rfl) rfl (by kernel_rfl)
theorem knows17_ok (c : ClT) (hl : c.reds.length < 1000000000) (s : List UInt8) : Pur Tryz.prog G 83 [.agg (encCl c), .c (.str s)] [.c (.bool (isIn c.reds s))] := by
  refine Pur.of Tryz.func83 (by kernel_rfl) (by kernel_rfl) (by kernel_rfl) ?_
  refine Wp.go (mx := true) (fun _ => mixed) [] 100 [] [] (by kernel_rfl) (by kernel_rfl) (by kernel_rfl) trivial ?_
  refine Wp.loopK (by kernel_rfl) (fun (k : Nat) => ⟨[(1, TV.v (V1.c (Cell.str s))), (2, TV.v (V1.c (Cell.ptr 0 0))), (5, TV.v (V1.c (Cell.int .i64 (k : Int))))], [(0, .box 76 (encCl c))], 48⟩) (fun k => k ≤ c.reds.length ∧ ∀ i, i < k → (c.reds.getD i [] == s) = false) (fun k => c.reds.length - k) 0 (Ent.of [] (by kernel_rfl) (by kernel_rfl) (by kernel_rfl) trivial) ⟨Nat.zero_le _, fun _ h => absurd h (Nat.not_lt_zero _)⟩ ?_
  intro k L ⟨hk, hall⟩ again
  rcases Nat.lt_or_ge k c.reds.length with hlt | hge
  · cases hq : (c.reds.getD k [] == s) with
    | true =>
      have hx : isIn c.reds s = true := List.any_eq_true.2 ⟨c.reds.getD k [], strs_mem hlt, hq⟩
      rw [hx]
      refine Wp.go (mx := true) (fun _ => mixed) [] 100 [true, true] [decide ((↑k : Int) < (↑c.reds.length : Int)) = true, (0 : Int) ≤ (↑k : Int) ∧ (↑k : Int) < (↑c.reds.length : Int), (c.reds.getD k [] == s) = true] (by kernel_rfl) (by kernel_rfl) (by kernel_rfl) ⟨(by simp; omega), (by omega), (show (c.reds.getD k [] == s) = true from (by assumption))⟩ ?_
      refine Wp.ret' (by kernel_rfl) ?_
      exact FinQ.pure (rs' := [V1.c (Cell.bool true)]) (by kernel_rfl) rfl (by kernel_rfl)
    | false =>
      have hall' := up1 hall hq
      refine Wp.go (mx := true) (fun _ => mixed) [] 100 [true, false] [decide ((↑k : Int) < (↑c.reds.length : Int)) = true, (0 : Int) ≤ (↑k : Int) ∧ (↑k : Int) < (↑c.reds.length : Int), (c.reds.getD k [] == s) = false, inR IntKind.i64 ((↑k : Int) + (1 : Int))] (by kernel_rfl) (by kernel_rfl) (by kernel_rfl) ⟨(by simp; omega), (by omega), (by assumption), inR64 (by omega) (by omega)⟩ ?_
      exact Wp.lpK (by kernel_rfl) (again _ (k + 1) ⟨(by assumption), (by assumption)⟩ (by omega) (Ent.of [] (by kernel_rfl) (by kernel_rfl) (by kernel_rfl) trivial))
  · have hx : isIn c.reds s = false := List.any_eq_false.2 fun x hx => by
      obtain ⟨i, hi, rfl⟩ := List.getElem_of_mem hx
      have := hall i (by omega)
      simp only [List.getD, List.getElem?_eq_getElem hi, Option.getD_some] at this
      simp [this]
    rw [hx]
    refine Wp.go (mx := true) (fun _ => mixed) [] 100 [false] [decide ((↑k : Int) < (↑c.reds.length : Int)) = false] (by kernel_rfl) (by kernel_rfl) (by kernel_rfl) (show decide ((↑k : Int) < (↑c.reds.length : Int)) = false from (by simp; omega)) ?_
    refine Wp.ret' (by kernel_rfl) ?_
    exact FinQ.pure (rs' := [V1.c (Cell.bool false)]) (by kernel_rfl) rfl (by kernel_rfl)
theorem in16_nil (s : List UInt8) : Pur Tryz.prog G 177 [.c .nilsl, .c (.str s)] [.c (.bool false)] := by
  refine Pur.of Tryz.func177 (by kernel_rfl) (by kernel_rfl) (by kernel_rfl) ?_
  refine Wp.go (mx := true) (fun _ => mixed) [] 100 [] [] (by kernel_rfl) (by kernel_rfl) (by kernel_rfl) trivial ?_
  refine Wp.unrK (by kernel_rfl) 1 (fun UL0 uUL0 => ?_)
  refine Wp.go (mx := true) (fun _ => mixed) [] 100 [false] [decide ((0 : Int) < (0 : Int)) = false] (by kernel_rfl) (by kernel_rfl) (by kernel_rfl) rfl ?_
  refine Wp.ret' (by kernel_rfl) ?_
  exact FinQ.pure (rs' := [V1.c (Cell.bool false)]) (by kernel_rfl) rfl (by kernel_rfl)
theorem has16_ok (s w : List UInt8) (hs : s.length < 1000000000) : Pur Tryz.prog G 134 [.c (.str s), .c (.str w)] [.c (.bool (scOk s && isIn (wrd s) w))] := by
  have c := scParse16_ok (G := G) s hs
  unfold scV at c
  refine Pur.of Tryz.func134 (by kernel_rfl) (by kernel_rfl) (by kernel_rfl) ?_
  by_cases h : scErr (scL s) = 0
  · rw [if_pos h] at c
    have h1 : scOk s = true := by unfold scOk; rw [h]; rfl
    have h2 : wrd s = scL s := if_pos h
    rw [h1, h2, Bool.true_and]
    have hlen : (scL s).length < 1000000000000 := by
      unfold scErr at h
      split at h
      · cases h
      · omega
    have c2 := in16_ok (G := G) (scL s) (scL s).length w rfl (by omega)
    refine Wp.go (mx := true) (fun _ => mixed) [(1, {cs := [(1, pc c)]}), (2, {cs := [(5, pc c2)]})] 100 [] [] (by kernel_rfl) (by kernel_rfl) (by kernel_rfl) trivial ?_
    refine Wp.ret' (by kernel_rfl) ?_
    exact FinQ.pure (rs' := [V1.c (Cell.bool (bif (0 : Int) == (0 : Int) then isIn (scL s) w else false))]) (by kernel_rfl) rfl (by kernel_rfl)
  · rw [if_neg h] at c
    have h1 : scOk s = false := by unfold scOk; simp [h]
    rw [h1, Bool.false_and]
    generalize scErr (scL s) = e at c h
    have h3 : (e == 0) = false := by simp [h]
    refine Wp.go (mx := true) (fun _ => mixed) [(1, {cs := [(1, pc c)]}), (2, {cs := [(5, pc (in16_nil w))]})] 100 [] [] (by kernel_rfl) (by kernel_rfl) (by kernel_rfl) trivial ?_
    refine Wp.ret' (by kernel_rfl) ?_
    exact FinQ.pure (rs' := [V1.c (Cell.bool (bif e == (0 : Int) then false else false))]) (by kernel_rfl) (by simp; done) (by kernel_rfl)
theorem in_contains (l : List (List UInt8)) (w : List UInt8) : isIn l w = l.contains w := by
  unfold isIn
  rw [List.any_beq']
theorem within16_ok (s t : List UInt8) (hs : s.length < 1000000000) (ht : t.length < 1000000000) : Pur Tryz.prog G 86 [.c (.str s), .c (.str t)] [.c (.bool (wiT s t))] := by
  have c := scParse16_ok (G := G) s hs
  have d := scParse16_ok (G := G) t ht
  unfold scV at c d
  refine Pur.of Tryz.func86 (by kernel_rfl) (by kernel_rfl) (by kernel_rfl) ?_
  by_cases h : scErr (scL s) = 0
  · rw [if_pos h] at c
    have h1 : scOk s = true := by unfold scOk; rw [h]; rfl
    have h2 : wrd s = scL s := if_pos h
    by_cases k : scErr (scL t) = 0
    · rw [if_pos k] at d
      have k1 : scOk t = true := by unfold scOk; rw [k]; rfl
      have hlen : (scL s).length < 1000000000000 := by
        unfold scErr at h
        split at h
        · cases h
        · omega
      have e := fun w => has16_ok (G := G) t w ht
      have hw : wiT s t = (scL s).all fun w => isIn (wrd t) w := by
        unfold wiT
        rw [h1, k1, h2, Bool.true_and, Bool.true_and]
        exact congrArg (scL s).all (funext fun w => (in_contains _ _).symm)
      rw [hw]
      simp only [k1, Bool.true_and] at e
      generalize scL s = l at c hlen ⊢
      clear hw h1 h2 k1
      generalize wrd t = B at e ⊢
      refine Wp.go (mx := true) (fun _ => mixed) [(1, {cs := [(1, pc c)]}), (2, {cs := [(1, pc d)]})] 100 [false] [(bif (0 : Int) != 0 then true else (0 : Int) != 0) = false] (by kernel_rfl) (by kernel_rfl) (by kernel_rfl) rfl ?_
      refine Wp.loopK (by kernel_rfl) (fun (x : Nat) => ⟨[(1, TV.v (V1.c (Cell.str t))), (5, TV.v (V1.c (Cell.sl 1 l.length (strsF l)))), (9, TV.v (V1.c (Cell.int .i64 (x : Int))))], [], 352⟩) (fun x => x ≤ l.length ∧ ∀ i, i < x → isIn B (l.getD i []) = true) (fun x => l.length - x) 0 (Ent.of [] (by kernel_rfl) (by kernel_rfl) (by kernel_rfl) trivial) ⟨Nat.zero_le _, fun _ h => absurd h (Nat.not_lt_zero _)⟩ ?_
      intro x L ⟨hx, hall⟩ again
      rcases Nat.lt_or_ge x l.length with hlt | hge
      · have e1 := e (l.getD x [])
        cases hq : isIn B (l.getD x []) with
        | true =>
          rw [hq] at e1
          have hall' : ∀ i, i < x + 1 → isIn B (l.getD i []) = true := fun i hi => by
            rcases Nat.lt_or_ge i x with h | h
            · exact hall i h
            · rw [show i = x by omega]; exact hq
          clear hall hq
          refine Wp.go (mx := true) (fun _ => mixed) [(8, {cs := [(5, pc e1)]})] 100 [true, false] [decide ((↑x : Int) < (↑l.length : Int)) = true, (0 : Int) ≤ (↑x : Int) ∧ (↑x : Int) < (↑l.length : Int), (!true) = false, inR IntKind.i64 ((↑x : Int) + (1 : Int))] (by kernel_rfl) (by kernel_rfl) (by kernel_rfl) ⟨(by simp; omega), (by omega), rfl, inR64 (by omega) (by omega)⟩ ?_
          exact Wp.lpK (by kernel_rfl) (again _ (x + 1) ⟨(by assumption), (by assumption)⟩ (by omega) (Ent.of [] (by kernel_rfl) (by kernel_rfl) (by kernel_rfl) trivial))
        | false =>
          rw [hq] at e1
          have : (l.all fun w => isIn B w) = false := List.all_eq_false.2 ⟨l.getD x [], strs_mem hlt, by rw [hq]; decide⟩
          rw [this]
          clear hall hq this
          refine Wp.go (mx := true) (fun _ => mixed) [(8, {cs := [(5, pc e1)]})] 100 [true, true] [decide ((↑x : Int) < (↑l.length : Int)) = true, (0 : Int) ≤ (↑x : Int) ∧ (↑x : Int) < (↑l.length : Int), (!false) = true] (by kernel_rfl) (by kernel_rfl) (by kernel_rfl) ⟨(by simp; omega), (by omega), rfl⟩ ?_
          refine Wp.ret' (by kernel_rfl) ?_
          exact FinQ.pure (rs' := [V1.c (Cell.bool false)]) (by kernel_rfl) rfl (by kernel_rfl)
      · have : (l.all fun w => isIn B w) = true := List.all_eq_true.2 fun w hw => by
          obtain ⟨i, hi, rfl⟩ := List.getElem_of_mem hw
          have := hall i (by omega)
          simpa [List.getD, hi] using this
        rw [this]
        clear this hall
        refine Wp.go (mx := true) (fun _ => mixed) [] 100 [false] [decide ((↑x : Int) < (↑l.length : Int)) = false] (by kernel_rfl) (by kernel_rfl) (by kernel_rfl) (show decide ((↑x : Int) < (↑l.length : Int)) = false from (by simp; omega)) ?_
        refine Wp.ret' (by kernel_rfl) ?_
        exact FinQ.pure (rs' := [V1.c (Cell.bool true)]) (by kernel_rfl) rfl (by kernel_rfl)
    · rw [if_neg k] at d
      have k1 : scOk t = false := by unfold scOk; simp [k]
      have hw : wiT s t = false := by unfold wiT; rw [k1]; simp
      rw [hw]
      generalize scErr (scL t) = e at d k
      have h3 : (bif (0 : Int) != 0 then true else e != 0) = true := by simp [k]
      refine Wp.go (mx := true) (fun _ => mixed) [(1, {cs := [(1, pc c)]}), (2, {cs := [(1, pc d)]})] 100 [true] [(bif (0 : Int) != (0 : Int) then true else e != (0 : Int)) = true] (by kernel_rfl) (by kernel_rfl) (by kernel_rfl) (show (bif (0 : Int) != (0 : Int) then true else e != (0 : Int)) = true from (by assumption)) ?_
      refine Wp.ret' (by kernel_rfl) ?_
      exact FinQ.pure (rs' := [V1.c (Cell.bool false)]) (by kernel_rfl) rfl (by kernel_rfl)
  · rw [if_neg h] at c
    have h1 : scOk s = false := by unfold scOk; simp [h]
    have hw : wiT s t = false := by unfold wiT; rw [h1]; simp
    rw [hw]
    generalize scErr (scL s) = e at c h
    by_cases k : scErr (scL t) = 0
    · rw [if_pos k] at d
      have h3 : (bif e != 0 then true else (0 : Int) != 0) = true := by simp [h]
      refine Wp.go (mx := true) (fun _ => mixed) [(1, {cs := [(1, pc c)]}), (2, {cs := [(1, pc d)]})] 100 [true] [(bif e != (0 : Int) then true else (0 : Int) != (0 : Int)) = true] (by kernel_rfl) (by kernel_rfl) (by kernel_rfl) (show (bif e != (0 : Int) then true else (0 : Int) != (0 : Int)) = true from (by assumption)) ?_
      refine Wp.ret' (by kernel_rfl) ?_
      exact FinQ.pure (rs' := [V1.c (Cell.bool false)]) (by kernel_rfl) rfl (by kernel_rfl)
    · rw [if_neg k] at d
      generalize scErr (scL t) = e2 at d k
      have h3 : (bif e != 0 then true else e2 != 0) = true := by simp [h]
      refine Wp.go (mx := true) (fun _ => mixed) [(1, {cs := [(1, pc c)]}), (2, {cs := [(1, pc d)]})] 100 [true] [(bif e != (0 : Int) then true else e2 != (0 : Int)) = true] (by kernel_rfl) (by kernel_rfl) (by kernel_rfl) (show (bif e != (0 : Int) then true else e2 != (0 : Int)) = true from (by assumption)) ?_
      refine Wp.ret' (by kernel_rfl) ?_
      exact FinQ.pure (rs' := [V1.c (Cell.bool false)]) (by kernel_rfl) rfl (by kernel_rfl)
structure FitW (w : WT) : Prop where
  redir : w.redir.length < 1000000000
  scope : w.scope.length < 1000000000
  state : w.state.length < 1000000000
  nonce : w.nonce.length < 1000000000
  chal : w.chal.length < 1000000000
structure FitC (c : ClT) : Prop where
  reds : c.reds.length < 1000000000
  scope : c.scope.length < 1000000000
/-- Why a client may not ask so; 0: it may. -/
def chkT (c : ClT) (w : WT) : Int := bif !isIn c.reds w.redir then 10 else bif !(w.ty == [99, 111, 100, 101]) then 11 else bif (bif bif bif !(w.meth == [83, 50, 53, 54]) then true else !isHash w.chal then true else !wdT w.state then true else !wdT w.nonce) then 10 else bif !wiT w.scope c.scope then 12 else 0
theorem check_ok {m : Int} (hG : G 3 = some [.int .i64 m]) (c : ClT) (w : WT) (hc : FitC c) (hw : FitW w) : Pur Tryz.prog G 39 [.agg (encCl c), .agg (encW w)] [.c (.int .i64 (chkT c w))] := by
  have c1 := knows_ok (G := G) c hc.reds w.redir
  have c2 := mayP_ok (G := G) w.chal (by have := hw.chal; omega)
  have c3 := word_ok (G := G) w.state (by have := hw.state; omega)
  have c4 := word_ok (G := G) w.nonce (by have := hw.nonce; omega)
  have c5 := scWithin_ok hG w.scope c.scope hw.scope hc.scope
  refine Pur.of Tryz.func39 (by kernel_rfl) (by kernel_rfl) (by kernel_rfl) ?_
  unfold chkT
  refine Wp.go (mx := true) (fun _ => mixed) [(1, {cs := [(3, pc c1)]})] 100 [] [] (by kernel_rfl) (by kernel_rfl) (by kernel_rfl) trivial ?_
  refine Wp.cond' (by kernel_rfl) (!isIn c.reds w.redir) (by kernel_rfl) (fun h0 => ?_) (fun h0 => ?_)
  · have g0 := h0
    simp at g0
    refine Wp.go (mx := true) (fun _ => mixed) [] 100 [] [] (by kernel_rfl) (by kernel_rfl) (by kernel_rfl) trivial ?_
    refine Wp.ret' (by kernel_rfl) ?_
    exact FinQ.pure (rs' := [V1.c (Cell.int .i64 (10 : Int))]) (by kernel_rfl) (by simp only [h0, cond_true, cond_false]) (by kernel_rfl)
  · have g0 := h0
    simp at g0
    refine Wp.go (mx := true) (fun _ => mixed) [] 100 [] [] (by kernel_rfl) (by kernel_rfl) (by kernel_rfl) trivial ?_
    refine Wp.cond' (by kernel_rfl) (!w.ty == [(99 : UInt8), 111, 100, 101]) (by kernel_rfl) (fun h1 => ?_) (fun h1 => ?_)
    · have g1 := h1
      simp at g1
      refine Wp.go (mx := true) (fun _ => mixed) [] 100 [] [] (by kernel_rfl) (by kernel_rfl) (by kernel_rfl) trivial ?_
      refine Wp.ret' (by kernel_rfl) ?_
      exact FinQ.pure (rs' := [V1.c (Cell.int .i64 (11 : Int))]) (by kernel_rfl) (by simp only [h0, h1, cond_true, cond_false]) (by kernel_rfl)
    · have g1 := h1
      simp at g1
      refine Wp.go (mx := true) (fun _ => mixed) [(5, {cs := [(6, pc c2), (12, pc c3), (18, pc c4)]})] 100 [] [] (by kernel_rfl) (by kernel_rfl) (by kernel_rfl) trivial ?_
      refine Wp.cond' (by kernel_rfl) (bif bif bif !w.meth == [(83 : UInt8), 50, 53, 54] then true else !isHash w.chal then true else !wdT w.state then true else !wdT w.nonce) (by kernel_rfl) (fun h2 => ?_) (fun h2 => ?_)
      · have g2 := h2
        simp at g2
        refine Wp.go (mx := true) (fun _ => mixed) [] 100 [] [] (by kernel_rfl) (by kernel_rfl) (by kernel_rfl) trivial ?_
        refine Wp.ret' (by kernel_rfl) ?_
        exact FinQ.pure (rs' := [V1.c (Cell.int .i64 (10 : Int))]) (by kernel_rfl) (by simp only [h0, h1, h2, cond_true, cond_false]) (by kernel_rfl)
      · have g2 := h2
        simp at g2
        refine Wp.go (mx := true) (fun _ => mixed) [(7, {cs := [(4, pc c5)]})] 100 [] [] (by kernel_rfl) (by kernel_rfl) (by kernel_rfl) trivial ?_
        refine Wp.cond' (by kernel_rfl) (!wiT w.scope c.scope) (by kernel_rfl) (fun h3 => ?_) (fun h3 => ?_)
        · have g3 := h3
          simp at g3
          refine Wp.go (mx := true) (fun _ => mixed) [] 100 [] [] (by kernel_rfl) (by kernel_rfl) (by kernel_rfl) trivial ?_
          refine Wp.ret' (by kernel_rfl) ?_
          exact FinQ.pure (rs' := [V1.c (Cell.int .i64 (12 : Int))]) (by kernel_rfl) (by simp only [h0, h1, h2, h3, cond_true, cond_false]) (by kernel_rfl)
        · have g3 := h3
          simp at g3
          refine Wp.go (mx := true) (fun _ => mixed) [] 100 [] [] (by kernel_rfl) (by kernel_rfl) (by kernel_rfl) trivial ?_
          refine Wp.ret' (by kernel_rfl) ?_
          exact FinQ.pure (rs' := [V1.c (Cell.int .i64 (0 : Int))]) (by kernel_rfl) (by simp only [h0, h1, h2, h3, cond_true, cond_false]) (by kernel_rfl)
theorem check20_ok (c : ClT) (w : WT) (hc : FitC c) (hw : FitW w) : Pur Tryz.prog G 40 [.agg (encCl c), .agg (encW w)] [.c (.int .i64 (chkT c w))] := by
  have c1 := knows17_ok (G := G) c hc.reds w.redir
  have c2 := may18_ok (G := G) w.chal (by have := hw.chal; omega)
  have c3 := word6_ok (G := G) w.state (by have := hw.state; omega)
  have c4 := word6_ok (G := G) w.nonce (by have := hw.nonce; omega)
  have c5 := within16_ok (G := G) w.scope c.scope hw.scope hc.scope
  refine Pur.of Tryz.func40 (by kernel_rfl) (by kernel_rfl) (by kernel_rfl) ?_
  unfold chkT
  refine Wp.go (mx := true) (fun _ => mixed) [(1, {cs := [(3, pc c1)]})] 100 [] [] (by kernel_rfl) (by kernel_rfl) (by kernel_rfl) trivial ?_
  refine Wp.cond' (by kernel_rfl) (!isIn c.reds w.redir) (by kernel_rfl) (fun h0 => ?_) (fun h0 => ?_)
  · have g0 := h0
    simp at g0
    refine Wp.go (mx := true) (fun _ => mixed) [] 100 [] [] (by kernel_rfl) (by kernel_rfl) (by kernel_rfl) trivial ?_
    refine Wp.ret' (by kernel_rfl) ?_
    exact FinQ.pure (rs' := [V1.c (Cell.int .i64 (10 : Int))]) (by kernel_rfl) (by simp only [h0, cond_true, cond_false]) (by kernel_rfl)
  · have g0 := h0
    simp at g0
    refine Wp.go (mx := true) (fun _ => mixed) [] 100 [] [] (by kernel_rfl) (by kernel_rfl) (by kernel_rfl) trivial ?_
    refine Wp.cond' (by kernel_rfl) (!w.ty == [(99 : UInt8), 111, 100, 101]) (by kernel_rfl) (fun h1 => ?_) (fun h1 => ?_)
    · have g1 := h1
      simp at g1
      refine Wp.go (mx := true) (fun _ => mixed) [] 100 [] [] (by kernel_rfl) (by kernel_rfl) (by kernel_rfl) trivial ?_
      refine Wp.ret' (by kernel_rfl) ?_
      exact FinQ.pure (rs' := [V1.c (Cell.int .i64 (11 : Int))]) (by kernel_rfl) (by simp only [h0, h1, cond_true, cond_false]) (by kernel_rfl)
    · have g1 := h1
      simp at g1
      refine Wp.go (mx := true) (fun _ => mixed) [(5, {cs := [(6, pc c2), (12, pc c3), (18, pc c4)]})] 100 [] [] (by kernel_rfl) (by kernel_rfl) (by kernel_rfl) trivial ?_
      refine Wp.cond' (by kernel_rfl) (bif bif bif !w.meth == [(83 : UInt8), 50, 53, 54] then true else !isHash w.chal then true else !wdT w.state then true else !wdT w.nonce) (by kernel_rfl) (fun h2 => ?_) (fun h2 => ?_)
      · have g2 := h2
        simp at g2
        refine Wp.go (mx := true) (fun _ => mixed) [] 100 [] [] (by kernel_rfl) (by kernel_rfl) (by kernel_rfl) trivial ?_
        refine Wp.ret' (by kernel_rfl) ?_
        exact FinQ.pure (rs' := [V1.c (Cell.int .i64 (10 : Int))]) (by kernel_rfl) (by simp only [h0, h1, h2, cond_true, cond_false]) (by kernel_rfl)
      · have g2 := h2
        simp at g2
        refine Wp.go (mx := true) (fun _ => mixed) [(7, {cs := [(4, pc c5)]})] 100 [] [] (by kernel_rfl) (by kernel_rfl) (by kernel_rfl) trivial ?_
        refine Wp.cond' (by kernel_rfl) (!wiT w.scope c.scope) (by kernel_rfl) (fun h3 => ?_) (fun h3 => ?_)
        · have g3 := h3
          simp at g3
          refine Wp.go (mx := true) (fun _ => mixed) [] 100 [] [] (by kernel_rfl) (by kernel_rfl) (by kernel_rfl) trivial ?_
          refine Wp.ret' (by kernel_rfl) ?_
          exact FinQ.pure (rs' := [V1.c (Cell.int .i64 (12 : Int))]) (by kernel_rfl) (by simp only [h0, h1, h2, h3, cond_true, cond_false]) (by kernel_rfl)
        · have g3 := h3
          simp at g3
          refine Wp.go (mx := true) (fun _ => mixed) [] 100 [] [] (by kernel_rfl) (by kernel_rfl) (by kernel_rfl) trivial ?_
          refine Wp.ret' (by kernel_rfl) ?_
          exact FinQ.pure (rs' := [V1.c (Cell.int .i64 (0 : Int))]) (by kernel_rfl) (by simp only [h0, h1, h2, h3, cond_true, cond_false]) (by kernel_rfl)
end Go.Proofs.Tw
end

section
open Go Go.Sv Go.RowKit
namespace Go.Proofs.Tw
attribute [local irreducible] Wp FinQ resV Ent Pur Go.Sv.Fn Sat0
set_option maxRecDepth 100000
set_option maxHeartbeats 4000000
variable {G : Nat → Option (List Cell)}

def encHN (k : Int) : List Cell := [.int .i64 3, .int .i64 0, .str [], .sl 4 1 (fun _ j => nthD (encN k) j)]
theorem kids3_ok : Pur Tryz.prog G 237 [.c (.int .i64 3)] [.c (.int .i64 1)] := by
  refine Pur.of Tryz.func237 (by kernel_rfl) (by kernel_rfl) (by kernel_rfl) ?_
  refine Wp.go (mx := true) (fun _ => mixed) [] 100 [false, false, true, true] [((3 : Int) == (1 : Int)) = false, ((3 : Int) == (2 : Int)) = false, ((3 : Int) == (3 : Int)) = true, ((3 : Int) == (3 : Int)) = true] (by kernel_rfl) (by kernel_rfl) (by kernel_rfl) ⟨rfl, rfl, rfl, rfl⟩ ?_
  refine Wp.ret' (by kernel_rfl) ?_
  exact FinQ.pure (rs' := [V1.c (Cell.int .i64 (1 : Int))]) (by kernel_rfl) rfl (by kernel_rfl)
theorem walkN2_ok (k : Int) (h0 : 0 ≤ k) (h1 : k ≤ 1073741824) : Pur Tryz.prog G 203 [.agg (encN k), .c (.int .i64 2), .c (.int .i64 63)] [.c (.int .i64 62)] := by
  refine Pur.of Tryz.func203 (by kernel_rfl) (by kernel_rfl) (by kernel_rfl) ?_
  have a1 : decide (k < 0) = false := by simp; omega
  have a2 : decide (k > 1073741824) = false := by simp; omega
  refine Wp.go (mx := true) (fun _ => mixed) [(1, {cs := [(9, pc kids2_ok)]})] 100 [false] [(bif bif bif bif bif bif bif decide ((63 : Int) < (1 : Int)) then true else decide ((2 : Int) > (16 : Int)) then true else (0 : Int) != (0 : Int) then true else bif (2 : Int) != (1 : Int) then !([] : List UInt8) == [] else false then true else decide ((↑([] : List UInt8).length : Int) > (1024 : Int)) then true else bif (2 : Int) != (2 : Int) then k != (0 : Int) else false then true else decide (k < (0 : Int)) then true else decide (k > (1073741824 : Int))) = false, inR IntKind.i64 ((63 : Int) - (1 : Int))] (by kernel_rfl) (by kernel_rfl) (by kernel_rfl) ⟨(by simp; omega), inR64 (by omega) (by omega)⟩ ?_
  refine Wp.unrK (by kernel_rfl) 2 (fun UL0 uUL0 => ?_)
  refine Wp.go (mx := true) (fun _ => mixed) [] 100 [false] [(bif decide ((0 : Int) < (0 : Int)) then decide ((63 : Int) - (1 : Int) ≥ (0 : Int)) else false) = false] (by kernel_rfl) (by kernel_rfl) (by kernel_rfl) rfl ?_
  refine Wp.ret' (by kernel_rfl) ?_
  exact FinQ.pure (rs' := [V1.c (Cell.int .i64 ((63 : Int) - (1 : Int)))]) (by kernel_rfl) rfl (by kernel_rfl)
theorem walkH_ok (k : Int) (h0 : 0 ≤ k) (h1 : k ≤ 1073741824) : Pur Tryz.prog G 203 [.agg (encHN k), .c (.int .i64 1), .c (.int .i64 64)] [.c (.int .i64 62)] := by
  refine Pur.of Tryz.func203 (by kernel_rfl) (by kernel_rfl) (by kernel_rfl) ?_
  have c := walkN2_ok (G := G) k h0 h1
  refine Wp.go (mx := true) (fun _ => mixed) [(1, {cs := [(9, pc kids3_ok)]})] 100 [false] [(bif bif bif bif bif bif bif decide ((64 : Int) < (1 : Int)) then true else decide ((1 : Int) > (16 : Int)) then true else (1 : Int) != (↑(1 : Nat) : Int) then true else bif (3 : Int) != (1 : Int) then !([] : List UInt8) == [] else false then true else decide ((↑([] : List UInt8).length : Int) > (1024 : Int)) then true else bif (3 : Int) != (2 : Int) then (0 : Int) != (0 : Int) else false then true else decide ((0 : Int) < (0 : Int)) then true else decide ((0 : Int) > (1073741824 : Int))) = false, inR IntKind.i64 ((64 : Int) - (1 : Int))] (by kernel_rfl) (by kernel_rfl) (by kernel_rfl) ⟨rfl, inR64 (by omega) (by omega)⟩ ?_
  refine Wp.unrK (by kernel_rfl) 2 (fun UL0 uUL0 => ?_)
  refine Wp.go (mx := true) (fun _ => mixed) [(7, {cs := [(8, pc c)]})] 100 [true] [(bif decide ((0 : Int) < (↑(1 : Nat) : Int)) then decide ((64 : Int) - (1 : Int) ≥ (0 : Int)) else false) = true, (0 : Int) ≤ (0 : Int) ∧ (0 : Int) < (↑(1 : Nat) : Int), inR IntKind.i64 ((1 : Int) + (1 : Int)), inR IntKind.i64 ((0 : Int) + (1 : Int))] (by kernel_rfl) (by kernel_rfl) (by kernel_rfl) ⟨rfl, (by omega), inR64 (by omega) (by omega), inR64 (by omega) (by omega)⟩ ?_
  refine Wp.lpK (by kernel_rfl) (uUL0 1 _ ?_)
  refine Wp.go (mx := true) (fun _ => mixed) [] 100 [false] [(bif decide ((0 : Int) + (1 : Int) < (↑(1 : Nat) : Int)) then decide ((62 : Int) ≥ (0 : Int)) else false) = false] (by kernel_rfl) (by kernel_rfl) (by kernel_rfl) rfl ?_
  refine Wp.ret' (by kernel_rfl) ?_
  exact FinQ.pure (rs' := [V1.c (Cell.int .i64 (62 : Int))]) (by kernel_rfl) rfl (by kernel_rfl)
theorem MayH_ok (k : Int) (h0 : 0 ≤ k) (h1 : k ≤ 1073741824) : Pur Tryz.prog G 158 [.agg (encHN k)] [.c (.bool true)] := by
  refine Pur.of Tryz.func158 (by kernel_rfl) (by kernel_rfl) (by kernel_rfl) ?_
  have c := walkH_ok (G := G) k h0 h1
  refine Wp.go (mx := true) (fun _ => mixed) [(1, {cs := [(1, pc c)]})] 100 [] [] (by kernel_rfl) (by kernel_rfl) (by kernel_rfl) trivial ?_
  refine Wp.ret' (by kernel_rfl) ?_
  exact FinQ.pure (rs' := [V1.c (Cell.bool (decide ((62 : Int) ≥ (0 : Int))))]) (by kernel_rfl) rfl (by kernel_rfl)
def hashB (k : Int) : List UInt8 := (((((([3] : List UInt8) ++ [2]) ++ [byteN k 0]) ++ [byteN k 1]) ++ [byteN k 2]) ++ [byteN k 3])
theorem putN1_ok (k : Int) : FnB Tryz.prog G 159 [.row 5 1 1 (bytesF [3])] [.c (.row 1 0 0 1), .agg (encN k)] [.c (.row 1 1 0 6)] [(1, .row 5 1 6 (bytesF (hashB k)))] := by
  refine Fn.of' Tryz.func159 (by kernel_rfl) (by kernel_rfl) (by kernel_rfl) (by kernel_rfl) trivial ?_
  have e1 : BlkEqv (.row 5 1 2 (catF 1 (bytesF [3]) (fun i j => nthD [.int .u8 (IntKind.u8.wrap 2)] ((0 + i) * 1 + j)))) (.row 5 1 2 (bytesF ([3] ++ [2]))) := bytes_app [3] [2] rfl
  have c : FnB Tryz.prog G 204 [.row 5 1 2 (bytesF ([3] ++ [2]))] [.c (.row 1 0 0 2), .c (.int .i64 k), .c (.int .i64 4)] [.c (.row 1 1 0 6)] [(1, .row 5 1 6 (bytesF (hashB k)))] := num_ok 2 ([3] ++ [2]) rfl (by decide) k
  refine Wp.go (mx := true) (fun _ => mixed) [(1, {bs := [(5, Blk.row 5 1 2 (bytesF ([3] ++ [2])))]}), (6, {cs := [(3, cb [113] c)]})] 100 [false, true] [(2 : Nat) ≤ (140737488355328 : Nat), BlkEqv (Blk.row 5 (1 : Nat) (2 : Nat) (catF (1 : Nat) (bytesF [(3 : UInt8)]) fun (i j : Nat) => nthD [Cell.int .u8 (IntKind.u8.wrap (2 : Int))] (((0 : Nat) + i) * (1 : Nat) + j))) (Blk.row 5 (1 : Nat) (2 : Nat) (bytesF ([(3 : UInt8)] ++ [(2 : UInt8)]))), (1 : Nat) ≤ (1 : Nat), (0 : Nat) + (1 : Nat) ≤ (1 : Nat), ((2 : Int) == (1 : Int)) = false, ((2 : Int) == (2 : Int)) = true] (by kernel_rfl) (by kernel_rfl) (by kernel_rfl) ⟨(by omega), (by assumption), (by omega), (by omega), rfl, rfl⟩ ?_
  refine Wp.unrK (by kernel_rfl) 2 (fun UL0 uUL0 => ?_)
  refine Wp.go (mx := true) (fun _ => mixed) [(1, {bs := [(5, Blk.row 5 1 2 (bytesF ([3] ++ [2])))]})] 100 [false] [decide ((0 : Int) < (0 : Int)) = false] (by kernel_rfl) (by kernel_rfl) (by kernel_rfl) rfl ?_
  refine Wp.ret' (by kernel_rfl) ?_
  exact FinQ.blk [289] (by kernel_rfl) (by kernel_rfl) (by kernel_rfl) (by kernel_rfl) (by kernel_rfl) trivial
theorem putH_ok (k : Int) : FnB Tryz.prog G 159 [] [.c .nilsl, .agg (encHN k)] [.c (.row 1 0 0 6)] [(0, .row 5 1 6 (bytesF (hashB k)))] := by
  refine Fn.of' Tryz.func159 (by kernel_rfl) (by kernel_rfl) (by kernel_rfl) (by kernel_rfl) trivial ?_
  have e1 : BlkEqv (.row 5 1 1 (catF 0 (fun _ _ => .nilif) (fun i j => nthD [.int .u8 (IntKind.u8.wrap 3)] ((0 + i) * 1 + j)))) (.row 5 1 1 (bytesF [3])) := by
    refine BlkEqv.row_ext rfl fun i hi j hj => ?_
    obtain ⟨rfl, rfl⟩ : i = 0 ∧ j = 0 := by omega
    rfl
  have c := putN1_ok (G := G) k
  refine Wp.go (mx := true) (fun _ => mixed) [(1, {bs := [(5, Blk.row 5 1 1 (bytesF [3]))]})] 100 [false, false] [(1 : Nat) ≤ (140737488355328 : Nat), BlkEqv (Blk.row 5 (1 : Nat) (1 : Nat) (catF (0 : Nat) (fun (x x_1 : Nat) => Cell.nilif) fun (i j : Nat) => nthD [Cell.int .u8 (IntKind.u8.wrap (3 : Int))] (((0 : Nat) + i) * (1 : Nat) + j))) (Blk.row 5 (1 : Nat) (1 : Nat) (bytesF [(3 : UInt8)])), (0 : Nat) + (1 : Nat) ≤ (1 : Nat), ((3 : Int) == (1 : Int)) = false, ((3 : Int) == (2 : Int)) = false] (by kernel_rfl) (by kernel_rfl) (by kernel_rfl) ⟨(by omega), (by assumption), (by omega), rfl, rfl⟩ ?_
  refine Wp.unrK (by kernel_rfl) 2 (fun UL0 uUL0 => ?_)
  refine Wp.go (mx := true) (fun _ => mixed) [(1, {bs := [(5, Blk.row 5 1 1 (bytesF [3]))]}), (10, {cs := [(6, cb [112] c)]})] 100 [true] [decide ((0 : Int) < (↑(1 : Nat) : Int)) = true, (0 : Int) ≤ (0 : Int) ∧ (0 : Int) < (↑(1 : Nat) : Int), inR IntKind.i64 ((0 : Int) + (1 : Int))] (by kernel_rfl) (by kernel_rfl) (by kernel_rfl) ⟨rfl, (by omega), inR64 (by omega) (by omega)⟩ ?_
  refine Wp.lpK (by kernel_rfl) (uUL0 1 _ ?_)
  refine Wp.go (mx := true) (fun _ => mixed) [(1, {bs := [(5, Blk.row 5 1 1 (bytesF [3]))]})] 100 [false] [decide ((0 : Int) + (1 : Int) < (↑(1 : Nat) : Int)) = false] (by kernel_rfl) (by kernel_rfl) (by kernel_rfl) rfl ?_
  refine Wp.ret' (by kernel_rfl) ?_
  exact FinQ.blk [432] (by kernel_rfl) (by kernel_rfl) (by kernel_rfl) (by kernel_rfl) (by kernel_rfl) trivial
theorem putH_ok2 (k : Int) (h0 : 0 ≤ k) (h1 : k ≤ 1073741824) : FnB Tryz.prog G 113 [] [.agg (encHN k)] [.c (.row 1 0 0 6)] [(0, .row 5 1 6 (bytesF (hashB k)))] := by
  refine Fn.of' Tryz.func113 (by kernel_rfl) (by kernel_rfl) (by kernel_rfl) (by kernel_rfl) trivial ?_
  have c1 := MayH_ok (G := G) k h0 h1
  have c2 := putH_ok (G := G) k
  refine Wp.go (mx := true) (fun _ => mixed) [(1, {cs := [(1, pc c1)]}), (3, {cs := [(1, cb [] c2)]})] 100 [false] [(!true) = false] (by kernel_rfl) (by kernel_rfl) (by kernel_rfl) rfl ?_
  refine Wp.ret' (by kernel_rfl) ?_
  exact FinQ.blk [96] (by kernel_rfl) (by kernel_rfl) (by kernel_rfl) (by kernel_rfl) (by kernel_rfl) trivial
def chalT (k : Int) : List UInt8 := [126] ++ enc8 (hashB k) ++ [126]
theorem hashText_ok (k : Int) (h0 : 0 ≤ k) (h1 : k ≤ 1073741824) : Pur Tryz.prog G 64 [.agg (encHN k)] [.c (.str (chalT k))] := by
  refine Pur.of Tryz.func64 (by kernel_rfl) (by kernel_rfl) (by kernel_rfl) ?_
  have c1 := putH_ok2 (G := G) k h0 h1
  have c2 : Pur Tryz.prog G 114 [.c (.sl 1 6 (bytesF (hashB k)))] [.c (.str (enc8 (hashB k)))] := enc8_ok (hashB k) (show 6 ≤ 30000000000000 by omega)
  refine Wp.go (mx := true) (fun _ => mixed) [(1, {cs := [(1, cb [] c1)]}), (4, {cs := [(1, lc [48] [Blk.row 5 (1 : Nat) (6 : Nat) (bytesF (hashB k))] [V1.c (Cell.row (1 : Nat) (0 : Nat) (0 : Nat) (6 : Nat))] c2 (by kernel_rfl) (by kernel_rfl) (by kernel_rfl) (show (0 : Nat) + (6 : Nat) ≤ (6 : Nat) from (by omega)))]})] 100 [false] [((↑(6 : Nat) : Int) == (0 : Int)) = false, (9 : Nat) ≤ (9223372036854775807 : Nat), (10 : Nat) ≤ (9223372036854775807 : Nat)] (by kernel_rfl) (by kernel_rfl) (by kernel_rfl) ⟨rfl, (by omega), (show (10 : Nat) ≤ (9223372036854775807 : Nat) from (by omega))⟩ ?_
  refine Wp.ret' (by kernel_rfl) ?_
  exact FinQ.pure (rs' := [V1.c (Cell.str [(126 : UInt8), sgn6 (v3 (hashB k) ((3 : Nat) * 0) (3 : Nat)) (0), sgn6 (v3 (hashB k) ((3 : Nat) * 0) (3 : Nat)) (1), sgn6 (v3 (hashB k) ((3 : Nat) * 0) (3 : Nat)) (2), sgn6 (v3 (hashB k) ((3 : Nat) * 0) (3 : Nat)) (3), sgn6 (v3 (hashB k) ((3 : Nat) * 1) (3 : Nat)) (0), sgn6 (v3 (hashB k) ((3 : Nat) * 1) (3 : Nat)) (1), sgn6 (v3 (hashB k) ((3 : Nat) * 1) (3 : Nat)) (2), sgn6 (v3 (hashB k) ((3 : Nat) * 1) (3 : Nat)) (3), (126 : UInt8)])]) (by kernel_rfl) (by kernel_rfl) (by kernel_rfl)
theorem T3_ok (k : Int) : Pur Tryz.prog G 125 [.c (.int .i64 3), .c (.sl 4 1 (fun _ j => nthD (encN k) j))] [.agg (encHN k)] := by
  refine Pur.of Tryz.func125 (by kernel_rfl) (by kernel_rfl) (by kernel_rfl) ?_
  refine Wp.go (mx := true) (fun _ => mixed) [] 100 [] [] (by kernel_rfl) (by kernel_rfl) (by kernel_rfl) trivial ?_
  refine Wp.ret' (by kernel_rfl) ?_
  exact FinQ.pure (rs' := [V1.agg [Cell.int .i64 (3 : Int), Cell.int .i64 (0 : Int), Cell.str [], Cell.sl (4 : Nat) (1 : Nat) fun (x j : Nat) => nthD (encN k) j]]) (by kernel_rfl) rfl (by kernel_rfl)
theorem number9_ok (s : List UInt8) {k : Int} (hs : s.length ≤ 30000000000000) (h : readT s = some (.no k.toNat)) (h0 : 0 ≤ k) : Pur Tryz.prog G 124 [.c (.str s)] [.c (.int .i64 k), .c (.bool true)] := by
  refine Pur.of Tryz.func124 (by kernel_rfl) (by kernel_rfl) (by kernel_rfl) ?_
  rcases read9_ok (G := G) s hs with ⟨t, ht, c⟩ | ⟨ht, c⟩
  · rw [h] at ht
    simp only [Option.some.injEq] at ht
    subst ht
    have c : Pur Tryz.prog G 131 [.c (.str s)] [.agg [.int .i64 2, .int .i64 (k.toNat : Int), .str [], .sl 4 0 (fun _ _ => .nilif)], .c (.bool true)] := c
    rw [show ((k.toNat : Nat) : Int) = k by omega] at c
    refine Wp.go (mx := true) (fun _ => mixed) [(1, {cs := [(1, pc c)]})] 100 [false] [(bif !true then true else (2 : Int) != (2 : Int)) = false] (by kernel_rfl) (by kernel_rfl) (by kernel_rfl) rfl ?_
    refine Wp.ret' (by kernel_rfl) ?_
    exact FinQ.pure (rs' := [V1.c (Cell.int .i64 k), V1.c (Cell.bool true)]) (by kernel_rfl) rfl (by kernel_rfl)
  · rw [h] at ht; cases ht
theorem chal_ok (s : List UInt8) {k : Int} (hs : s.length ≤ 30000000000000) (h : readT s = some (.no k.toNat)) (h0 : 0 ≤ k) (h1 : k ≤ 1073741824) : Pur Tryz.prog G 76 [.c (.str s)] [.c (.str (chalT k)), .c (.bool true)] := by
  refine Pur.of Tryz.func76 (by kernel_rfl) (by kernel_rfl) (by kernel_rfl) ?_
  have c1 := number9_ok (G := G) s hs h h0
  have c2 := N_ok (G := G) k
  have c3 := T3_ok (G := G) k
  have c4 := hashText_ok (G := G) k h0 h1
  have e1 : EqvD (.c (.sl 4 1 (fun i j => nthD [.int .i64 2, .int .i64 k, .str [], .nilsl] (i * 4 + j)))) (.c (.sl 4 1 (fun _ j => nthD (encN k) j))) := EqvD.sl rfl (fun i hi j hj => by
    obtain rfl : i = 0 := by omega
    rw [Nat.zero_mul, Nat.zero_add]; rfl)
  refine Wp.go (mx := true) (fun _ => mixed) [(4, {cs := [(1, pc c2), (3, pc c3), (4, pc c4)], fm := [(2, .c (.sl 4 1 (fun _ j => nthD (encN k) j)))]}), (1, {cs := [(1, pc c1)]})] 100 [false] [(!true) = false, EqvI (V1.c (Cell.sl (4 : Nat) (1 : Nat) fun (i j : Nat) => nthD [Cell.int .i64 (2 : Int), Cell.int .i64 k, Cell.str [], Cell.nilsl] (i * (4 : Nat) + j))) (V1.c (Cell.sl (4 : Nat) (1 : Nat) fun (x j : Nat) => nthD (encN k) j)), EqvD (V1.c (Cell.sl (4 : Nat) (1 : Nat) fun (i j : Nat) => nthD [Cell.int .i64 (2 : Int), Cell.int .i64 k, Cell.str [], Cell.nilsl] (i * (4 : Nat) + j))) (V1.c (Cell.sl (4 : Nat) (1 : Nat) fun (x j : Nat) => nthD (encN k) j))] (by kernel_rfl) (by kernel_rfl) (by kernel_rfl) ⟨rfl, fun _ _ => trivial, (show EqvD (V1.c (Cell.sl (4 : Nat) (1 : Nat) fun (i j : Nat) => nthD [Cell.int .i64 (2 : Int), Cell.int .i64 k, Cell.str [], Cell.nilsl] (i * (4 : Nat) + j))) (V1.c (Cell.sl (4 : Nat) (1 : Nat) fun (x j : Nat) => nthD (encN k) j)) from (by assumption))⟩ ?_
  refine Wp.ret' (by kernel_rfl) ?_
  exact FinQ.pure (rs' := [V1.c (Cell.str (chalT k)), V1.c (Cell.bool true)]) (by kernel_rfl) rfl (by kernel_rfl)
end Go.Proofs.Tw
end

section
/-
  Own layer 'SV' (28): literals of rows; cells of structs in another form.
-/
namespace Go.Sv

def rowL (f : Nat → Cell) : Nat → Nat → List Cell
  | _, 0 => []
  | j, n + 1 => f j :: rowL f (j + 1) n
def tabL (f : Nat → Nat → Cell) (sz : Nat) : Nat → Nat → List Cell
  | _, 0 => []
  | i, n + 1 => appC (rowL (f i) 0 sz) (tabL f sz (i + 1) n)
where appC : List Cell → List Cell → List Cell
  | [], r => r
  | x :: l, r => x :: appC l r
theorem appC_eq (l r : List Cell) : tabL.appC l r = l ++ r := by
  induction l with
  | nil => rfl
  | cons x l ih => simp [tabL.appC, ih]
theorem rowL_len (f : Nat → Cell) : ∀ (n j : Nat), (rowL f j n).length = n
  | 0, _ => rfl
  | n + 1, j => by simp [rowL, rowL_len f n]
theorem rowL_get (f : Nat → Cell) : ∀ (n j k : Nat), k < n → nthD (rowL f j n) k = f (j + k)
  | n + 1, j, 0, _ => rfl
  | n + 1, j, k + 1, h => by
    show nthD (rowL f (j + 1) n) k = _
    rw [rowL_get f n (j + 1) k (by omega), show j + 1 + k = j + (k + 1) by omega]
theorem tabL_get (f : Nat → Nat → Cell) (sz : Nat) : ∀ (n i a j : Nat), a < n → j < sz → nthD (tabL f sz i n) (a * sz + j) = f (i + a) j
  | n + 1, i, 0, j, _, hj => by
    rw [Nat.zero_mul, Nat.zero_add, tabL, appC_eq, nthD_app_lt (by rw [rowL_len]; exact hj), rowL_get _ _ _ _ hj, Nat.zero_add, Nat.add_zero]
  | n + 1, i, a + 1, j, ha, hj => by
    have e : (a + 1) * sz + j = sz + (a * sz + j) := by rw [Nat.succ_mul]; omega
    rw [tabL, appC_eq, nthD_app_ge (by rw [rowL_len, e]; omega), rowL_len, e, Nat.add_sub_cancel_left, tabL_get f sz n (i + 1) a j (by omega) hj, show i + 1 + a = i + (a + 1) by omega]
/-- A row that was written out. -/
theorem lit_D {sz n n' : Nat} {l : List Cell} {f : Nat → Nat → Cell} (h : (tabL f sz 0 n, n) = (l, n')) : EqvD (.c (.sl sz n (fun i j => nthD l (i * sz + j)))) (.c (.sl sz n' f)) := by
  obtain ⟨h1, rfl⟩ := Prod.mk.inj h
  subst h1
  exact EqvD.sl rfl fun i hi j hj => by rw [tabL_get f sz n 0 i j hi hj, Nat.zero_add]
/-- Two rows that hold the same, cell by cell. -/
theorem tab_B {e : TypeId} {sz n n' : Nat} {f g : Nat → Nat → Cell} (h : (tabL f sz 0 n, n) = (tabL g sz 0 n', n')) : BlkEqv (.row e sz n f) (.row e sz n' g) := by
  obtain ⟨h1, rfl⟩ := Prod.mk.inj h
  exact BlkEqv.row_ext rfl fun i hi j hj => by
    have a := tabL_get f sz n 0 i j hi hj
    have b := tabL_get g sz n 0 i j hi hj
    rw [Nat.zero_add] at a b
    rw [← a, ← b, h1]
theorem nilsl_D {sz : Nat} {f : Nat → Nat → Cell} : EqvD (.c .nilsl) (.c (.sl sz 0 f)) := fun D ρ u h => ⟨none, 0, h, Nat.le_refl _, Nat.zero_le _, .inl ⟨rfl, rfl⟩⟩
/-- One cell of a struct in another form. -/
theorem agg_D {a b : List Cell} {x y : Cell} (h : EqvD (.c x) (.c y)) : EqvD (.agg (a ++ x :: b)) (.agg (a ++ y :: b)) := by
  rintro D ρ u ⟨us, e, hs, hd⟩
  refine ⟨us, e, by rw [hs]; simp, fun j z hj => ?_⟩
  rcases Nat.lt_trichotomy j a.length with h1 | h1 | h1
  · refine hd j z ?_
    rw [List.getElem?_append_left h1] at hj ⊢
    exact hj
  · subst h1
    rw [List.getElem?_append_right (Nat.le_refl _), Nat.sub_self] at hj
    simp only [List.getElem?_cons_zero, Option.some.injEq] at hj
    subst hj
    obtain ⟨w, hw, hx⟩ := hd a.length x (by rw [List.getElem?_append_right (Nat.le_refl _), Nat.sub_self]; rfl)
    exact ⟨w, hw, h D ρ w hx⟩
  · refine hd j z ?_
    rw [List.getElem?_append_right (by omega)] at hj ⊢
    obtain ⟨k, hk⟩ : ∃ k, j - a.length = k + 1 := ⟨j - a.length - 1, by omega⟩
    rw [hk] at hj ⊢
    exact hj
end Go.Sv
end

section
open Go Go.Sv
namespace Go.Proofs.Tw
attribute [local irreducible] Wp FinQ resV Ent Pur Go.Sv.Fn Sat0
set_option maxRecDepth 100000
set_option maxHeartbeats 4000000
variable {G : Nat → Option (List Cell)}

structure UsT where
  (name : List UInt8) (pass : Int)
def UsT.nil : UsT := ⟨[], 0⟩
def encUs (u : UsT) : List Cell := [.str u.name, .int .i64 u.pass]
structure StT where
  (name : List UInt8) (key : Int) (cls : List ClT) (usr : List UsT) (recs : List RcT)
def clS (l : List ClT) : Cell := .sl 4 l.length (rowF encCl .nil l)
def usS (l : List UsT) : Cell := .sl 2 l.length (rowF encUs .nil l)
def encSt (s : StT) : List Cell := [.str s.name, .int .i64 s.key, clS s.cls, usS s.usr, rcS s.recs]
def baseC : List ClT := [⟨[99, 49], 4, [[104, 116, 116, 112, 115, 58, 47, 47, 99, 49, 47, 99, 98], [104, 116, 116, 112, 115, 58, 47, 47, 99, 49, 47, 116, 119, 111]], [111, 112, 101, 110, 105, 100, 32, 112, 114, 111, 102, 105, 108, 101]⟩, ⟨[99, 50], 5, [[104, 116, 116, 112, 115, 58, 47, 47, 99, 50, 47, 99, 98]], [97, 32, 111, 112, 101, 110, 105, 100]⟩, ⟨[112, 117, 98], 0, [[104, 116, 116, 112, 115, 58, 47, 47, 112, 117, 98, 47, 99, 98]], [111, 112, 101, 110, 105, 100]⟩]
def baseU : List UsT := [⟨[97, 108, 105, 99, 101], 10⟩, ⟨[98, 111, 98], 11⟩]
def baseT : StT := ⟨[97, 115], 1, baseC, baseU, []⟩
def src0 : SoT := ⟨100, 1, 0⟩
theorem within20_ok (a n : Int) (hn : 0 < n) (hm : n ≤ 9223372036854775807) : Pur Tryz.prog G 37 [.c (.int .i64 a), .c (.int .i64 n)] [.c (.int .i64 (withT a n))] := by
  refine Pur.of Tryz.func37 (by kernel_rfl) (by kernel_rfl) (by kernel_rfl) ?_
  have h1 := tmod_lo a n hn
  refine Wp.go (mx := true) (fun _ => mixed) [] 100 [] [n ≠ (0 : Int)] (by kernel_rfl) (by kernel_rfl) (by kernel_rfl) (show n ≠ (0 : Int) from (by omega)) ?_
  refine Wp.cond' (by kernel_rfl) (decide (a.tmod n < (0 : Int))) (by kernel_rfl) (fun h0 => ?_) (fun h0 => ?_)
  · have g0 := of_decide_eq_true h0
    refine Wp.go (mx := true) (fun _ => mixed) [] 100 [] [inR IntKind.i64 (a.tmod n + n)] (by kernel_rfl) (by kernel_rfl) (by kernel_rfl) (inR64 (by omega) (by omega)) ?_
    refine Wp.ret' (by kernel_rfl) ?_
    exact FinQ.pure (rs' := [V1.c (Cell.int .i64 (a.tmod n + n))]) (by kernel_rfl) (by simp [withT, *]; done) (by kernel_rfl)
  · have g0 := of_decide_eq_false h0
    refine Wp.go (mx := true) (fun _ => mixed) [] 100 [] [] (by kernel_rfl) (by kernel_rfl) (by kernel_rfl) trivial ?_
    refine Wp.ret' (by kernel_rfl) ?_
    exact FinQ.pure (rs' := [V1.c (Cell.int .i64 (a.tmod n))]) (by kernel_rfl) (by simp [withT, *]; done) (by kernel_rfl)
theorem with3 (a : Int) : withT a 3 = 0 ∨ withT a 3 = 1 ∨ withT a 3 = 2 := by have := withT_rng a 3 (by decide); omega
def verT (n : Int) : List UInt8 := keyT (30 + withT n 3)
theorem ver_ok (n : Int) : Pur Tryz.prog G 77 [.c (.int .i64 n)] [.c (.str (verT n))] := by
  refine Pur.of Tryz.func77 (by kernel_rfl) (by kernel_rfl) (by kernel_rfl) ?_
  have c1 := within20_ok (G := G) n 3 (by decide) (by decide)
  have h := withT_rng n 3 (by decide)
  unfold verT
  generalize withT n 3 = x at c1 h ⊢
  have c2 := Key_ok (G := G) (30 + x) (by omega) (by omega)
  refine Wp.go (mx := true) (fun _ => mixed) [(1, {cs := [(1, pc c1), (3, pc c2)]})] 100 [] [inR IntKind.i64 ((30 : Int) + x)] (by kernel_rfl) (by kernel_rfl) (by kernel_rfl) (inR64 (by omega) (by omega)) ?_
  refine Wp.ret' (by kernel_rfl) ?_
  exact FinQ.pure (rs' := [V1.c (Cell.str (keyT ((30 : Int) + x)))]) (by kernel_rfl) rfl (by kernel_rfl)
theorem key_len (k : Int) : (keyT k).length = 9 := (by kernel_rfl)
theorem chalT_len (k : Int) : (chalT k).length = 10 := (by kernel_rfl)
theorem readVer (n : Int) : readT (verT n) = some (.no (30 + withT n 3).toNat) := by
  unfold verT
  rcases with3 n with h | h | h <;> rw [h] <;> kernel_rfl
def rightR : List (List UInt8) := [[104, 116, 116, 112, 115, 58, 47, 47, 99, 49, 47, 99, 98], [104, 116, 116, 112, 115, 58, 47, 47, 99, 50, 47, 99, 98], [104, 116, 116, 112, 115, 58, 47, 47, 112, 117, 98, 47, 99, 98]]
def rightT (n : Int) : WT := ⟨[99, 111, 100, 101], rightR.getD (withT (n - 1) 3).toNat [], [111, 112, 101, 110, 105, 100], [115] ++ keyT n, [110], chalT (30 + withT n 3), [83, 50, 53, 54]⟩
theorem right_ok (n : Int) (h0 : 0 ≤ n) (h1 : n ≤ 1073741824) : Pur Tryz.prog G 41 [.c (.int .i64 n)] [.agg (encW (rightT n))] := by
  refine Pur.of Tryz.func41 (by kernel_rfl) (by kernel_rfl) (by kernel_rfl) ?_
  have c1 := ver_ok (G := G) n
  have hv := withT_rng n 3 (by decide)
  have c2 := chal_ok (G := G) (verT n) (k := 30 + withT n 3) (by show (keyT (30 + withT n 3)).length ≤ 30000000000000; rw [key_len]; decide) (readVer n) (by omega) (by omega)
  have c3 := within20_ok (G := G) (n - 1) 3 (by decide) (by decide)
  have c4 := Key_ok (G := G) n h0 h1
  have hw := withT_rng (n - 1) 3 (by decide)
  have hl := key_len n
  unfold rightT
  generalize verT n = v at c1 c2
  generalize chalT (30 + withT n 3) = ch at c2 ⊢
  generalize withT (n - 1) 3 = x at c3 hw ⊢
  generalize keyT n = kn at c4 hl ⊢
  refine Wp.go (mx := true) (fun _ => mixed) [(2, {cs := [(3, pc c3), (7, pc c4)], fm := [(0, .c (.sl 1 3 (strsF rightR)))]}), (1, {cs := [(1, pc c1), (2, pc c2)]})] 100 [] [EqvI (V1.c (Cell.sl (1 : Nat) (3 : Nat) fun (i j : Nat) => nthD [Cell.str [(104 : UInt8), 116, 116, 112, 115, 58, 47, 47, 99, 49, 47, 99, 98], Cell.str [(104 : UInt8), 116, 116, 112, 115, 58, 47, 47, 99, 50, 47, 99, 98], Cell.str [(104 : UInt8), 116, 116, 112, 115, 58, 47, 47, 112, 117, 98, 47, 99, 98]] (i * (1 : Nat) + j))) (V1.c (Cell.sl (1 : Nat) (3 : Nat) (strsF rightR))), EqvD (V1.c (Cell.sl (1 : Nat) (3 : Nat) fun (i j : Nat) => nthD [Cell.str [(104 : UInt8), 116, 116, 112, 115, 58, 47, 47, 99, 49, 47, 99, 98], Cell.str [(104 : UInt8), 116, 116, 112, 115, 58, 47, 47, 99, 50, 47, 99, 98], Cell.str [(104 : UInt8), 116, 116, 112, 115, 58, 47, 47, 112, 117, 98, 47, 99, 98]] (i * (1 : Nat) + j))) (V1.c (Cell.sl (1 : Nat) (3 : Nat) (strsF rightR))), inR IntKind.i64 (n - (1 : Int)), (0 : Int) ≤ x ∧ x < (↑(3 : Nat) : Int), (1 : Nat) + kn.length ≤ (9223372036854775807 : Nat)] (by kernel_rfl) (by kernel_rfl) (by kernel_rfl) ⟨fun _ _ => trivial, lit_D (by kernel_rfl), inR64 (by omega) (by omega), (by omega), (show (1 : Nat) + kn.length ≤ (9223372036854775807 : Nat) from (by omega))⟩ ?_
  refine Wp.ret' (by kernel_rfl) ?_
  exact FinQ.pure (rs' := [V1.agg [Cell.str [(99 : UInt8), 111, 100, 101], Cell.str (rightR.getD x.toNat []), Cell.str [(111 : UInt8), 112, 101, 110, 105, 100], Cell.str ([(115 : UInt8)] ++ kn), Cell.str [(110 : UInt8)], Cell.str ch, Cell.str [(83 : UInt8), 50, 53, 54]]]) (by kernel_rfl) rfl (by kernel_rfl)
theorem base_ok : Pur Tryz.prog G 36 [] [.agg (encSt baseT), .agg (encSo src0)] := by
  refine Pur.of Tryz.func36 (by kernel_rfl) (by kernel_rfl) (by kernel_rfl) ?_
  have e1 : EqvD (.agg [.str [97, 115], .int .i64 1, clS baseC, usS baseU, .nilsl]) (.agg (encSt baseT)) := agg_D (a := [.str [97, 115], .int .i64 1, clS baseC, usS baseU]) (b := []) nilsl_D
  refine Wp.go (mx := true) (fun _ => mixed) [(1, {fm := [(0, .c (.sl 1 2 (strsF (baseC.getD 0 .nil).reds))), (2, .c (.sl 1 1 (strsF (baseC.getD 1 .nil).reds))), (4, .c (.sl 1 1 (strsF (baseC.getD 2 .nil).reds))), (6, .c (clS baseC)), (9, .c (usS baseU)), (10, .agg (encSt baseT))]})] 100 [] [EqvI (V1.c (Cell.sl (1 : Nat) (2 : Nat) fun (i j : Nat) => nthD [Cell.str [(104 : UInt8), 116, 116, 112, 115, 58, 47, 47, 99, 49, 47, 99, 98], Cell.str [(104 : UInt8), 116, 116, 112, 115, 58, 47, 47, 99, 49, 47, 116, 119, 111]] (i * (1 : Nat) + j))) (V1.c (Cell.sl (1 : Nat) (2 : Nat) (strsF (baseC.getD (0 : Nat) ClT.nil).reds))), EqvD (V1.c (Cell.sl (1 : Nat) (2 : Nat) fun (i j : Nat) => nthD [Cell.str [(104 : UInt8), 116, 116, 112, 115, 58, 47, 47, 99, 49, 47, 99, 98], Cell.str [(104 : UInt8), 116, 116, 112, 115, 58, 47, 47, 99, 49, 47, 116, 119, 111]] (i * (1 : Nat) + j))) (V1.c (Cell.sl (1 : Nat) (2 : Nat) (strsF (baseC.getD (0 : Nat) ClT.nil).reds))), EqvI (V1.c (Cell.sl (1 : Nat) (1 : Nat) fun (i j : Nat) => nthD [Cell.str [(104 : UInt8), 116, 116, 112, 115, 58, 47, 47, 99, 50, 47, 99, 98]] (i * (1 : Nat) + j))) (V1.c (Cell.sl (1 : Nat) (1 : Nat) (strsF (baseC.getD (1 : Nat) ClT.nil).reds))), EqvD (V1.c (Cell.sl (1 : Nat) (1 : Nat) fun (i j : Nat) => nthD [Cell.str [(104 : UInt8), 116, 116, 112, 115, 58, 47, 47, 99, 50, 47, 99, 98]] (i * (1 : Nat) + j))) (V1.c (Cell.sl (1 : Nat) (1 : Nat) (strsF (baseC.getD (1 : Nat) ClT.nil).reds))), EqvI (V1.c (Cell.sl (1 : Nat) (1 : Nat) fun (i j : Nat) => nthD [Cell.str [(104 : UInt8), 116, 116, 112, 115, 58, 47, 47, 112, 117, 98, 47, 99, 98]] (i * (1 : Nat) + j))) (V1.c (Cell.sl (1 : Nat) (1 : Nat) (strsF (baseC.getD (2 : Nat) ClT.nil).reds))), EqvD (V1.c (Cell.sl (1 : Nat) (1 : Nat) fun (i j : Nat) => nthD [Cell.str [(104 : UInt8), 116, 116, 112, 115, 58, 47, 47, 112, 117, 98, 47, 99, 98]] (i * (1 : Nat) + j))) (V1.c (Cell.sl (1 : Nat) (1 : Nat) (strsF (baseC.getD (2 : Nat) ClT.nil).reds))), EqvI (V1.c (Cell.sl (4 : Nat) (3 : Nat) fun (i j : Nat) => nthD [Cell.str [(99 : UInt8), 49], Cell.int .i64 (4 : Int), Cell.sl (1 : Nat) (2 : Nat) (strsF (baseC.getD (0 : Nat) ClT.nil).reds), Cell.str [(111 : UInt8), 112, 101, 110, 105, 100, 32, 112, 114, 111, 102, 105, 108, 101], Cell.str [(99 : UInt8), 50], Cell.int .i64 (5 : Int), Cell.sl (1 : Nat) (1 : Nat) (strsF (baseC.getD (1 : Nat) ClT.nil).reds), Cell.str [(97 : UInt8), 32, 111, 112, 101, 110, 105, 100], Cell.str [(112 : UInt8), 117, 98], Cell.int .i64 (0 : Int), Cell.sl (1 : Nat) (1 : Nat) (strsF (baseC.getD (2 : Nat) ClT.nil).reds), Cell.str [(111 : UInt8), 112, 101, 110, 105, 100]] (i * (4 : Nat) + j))) (V1.c (clS baseC)), EqvD (V1.c (Cell.sl (4 : Nat) (3 : Nat) fun (i j : Nat) => nthD [Cell.str [(99 : UInt8), 49], Cell.int .i64 (4 : Int), Cell.sl (1 : Nat) (2 : Nat) (strsF (baseC.getD (0 : Nat) ClT.nil).reds), Cell.str [(111 : UInt8), 112, 101, 110, 105, 100, 32, 112, 114, 111, 102, 105, 108, 101], Cell.str [(99 : UInt8), 50], Cell.int .i64 (5 : Int), Cell.sl (1 : Nat) (1 : Nat) (strsF (baseC.getD (1 : Nat) ClT.nil).reds), Cell.str [(97 : UInt8), 32, 111, 112, 101, 110, 105, 100], Cell.str [(112 : UInt8), 117, 98], Cell.int .i64 (0 : Int), Cell.sl (1 : Nat) (1 : Nat) (strsF (baseC.getD (2 : Nat) ClT.nil).reds), Cell.str [(111 : UInt8), 112, 101, 110, 105, 100]] (i * (4 : Nat) + j))) (V1.c (clS baseC)), EqvI (V1.c (Cell.sl (2 : Nat) (2 : Nat) fun (i j : Nat) => nthD [Cell.str [(97 : UInt8), 108, 105, 99, 101], Cell.int .i64 (10 : Int), Cell.str [(98 : UInt8), 111, 98], Cell.int .i64 (11 : Int)] (i * (2 : Nat) + j))) (V1.c (usS baseU)), EqvD (V1.c (Cell.sl (2 : Nat) (2 : Nat) fun (i j : Nat) => nthD [Cell.str [(97 : UInt8), 108, 105, 99, 101], Cell.int .i64 (10 : Int), Cell.str [(98 : UInt8), 111, 98], Cell.int .i64 (11 : Int)] (i * (2 : Nat) + j))) (V1.c (usS baseU)), EqvI (V1.agg [Cell.str [(97 : UInt8), 115], Cell.int .i64 (1 : Int), clS baseC, usS baseU, Cell.nilsl]) (V1.agg (encSt baseT)), EqvD (V1.agg [Cell.str [(97 : UInt8), 115], Cell.int .i64 (1 : Int), clS baseC, usS baseU, Cell.nilsl]) (V1.agg (encSt baseT))] (by kernel_rfl) (by kernel_rfl) (by kernel_rfl) ⟨fun _ _ => trivial, lit_D (by kernel_rfl), fun _ _ => trivial, lit_D (by kernel_rfl), fun _ _ => trivial, lit_D (by kernel_rfl), fun _ _ => trivial, lit_D (by kernel_rfl), fun _ _ => trivial, lit_D (by kernel_rfl), eqvI_flat _ _ (by kernel_rfl), (show EqvD (V1.agg [Cell.str [(97 : UInt8), 115], Cell.int .i64 (1 : Int), clS baseC, usS baseU, Cell.nilsl]) (V1.agg (encSt baseT)) from (by assumption))⟩ ?_
  refine Wp.ret' (by kernel_rfl) ?_
  exact FinQ.pure (rs' := [V1.agg [Cell.str baseT.name, Cell.int .i64 baseT.key, Cell.sl (4 : Nat) baseT.cls.length (rowF encCl ClT.nil baseT.cls), Cell.sl (2 : Nat) baseT.usr.length (rowF encUs UsT.nil baseT.usr), Cell.sl (15 : Nat) baseT.recs.length (rowF encRc RcT.nil baseT.recs)], V1.agg [Cell.int .i64 (100 : Int), Cell.int .i64 (1 : Int), Cell.int .i64 (0 : Int)]]) (by kernel_rfl) rfl (by kernel_rfl)
end Go.Proofs.Tw
end

section
open Go Go.Sv
namespace Go.Proofs.Tw
attribute [local irreducible] Wp FinQ resV Ent Pur Go.Sv.Fn Sat0
set_option maxRecDepth 100000
set_option maxHeartbeats 4000000
variable {G : Nat → Option (List Cell)}

theorem dropD {α : Type} (l : List α) (d : α) (k : Nat) (h : k < l.length) : l.drop k = l.getD k d :: l.drop (k + 1) := by
  rw [List.drop_eq_getElem_cons h]; simp [List.getD, h]
theorem live_len (now : Int) (l : List RcT) : (liveT now l).length ≤ l.length := List.length_filter_le _ _
theorem keepL (l : List RcT) (d : Int) (hl : l.length ≤ 1000000000) : FnB Tryz.prog G 181 [bxN d] [.c (rcS l), .c (clo1 221 (.ptr 0 0))] [.c (.row 15 1 0 (l.filter (liveP d)).length)] [(0, bxN d), (1, rcB (l.filter (liveP d)))] := by
  refine Fn.of' Tryz.func181 (by kernel_rfl) (by kernel_rfl) (by kernel_rfl) (by kernel_rfl) trivial ?_
  refine Wp.go (mx := true) (fun _ => mixed) [] 100 [] [] (by kernel_rfl) (by kernel_rfl) (by kernel_rfl) trivial ?_
  refine Wp.loopK (by kernel_rfl) (fun (x : Nat × Nat × List RcT) => ⟨[(0, .v (.c (rcS l))), (1, .v (.c (clo1 221 (.ptr 0 0)))), (5, .v (.c (.row 15 81 0 x.2.1))), (8, .v (.c (rcS l))), (9, .v (.c (.int .i64 (l.length : Int)))), (10, .v (.c (.int .i64 (x.1 : Int))))], [(0, bxN d), (81, .row 84 15 x.2.1 (rowF encRc .nil x.2.2))], 97⟩) (fun x => x.1 ≤ l.length ∧ x.2.1 = x.2.2.length ∧ x.2.2.length ≤ x.1 ∧ l.filter (liveP d) = x.2.2 ++ (l.drop x.1).filter (liveP d)) (fun x => l.length - x.1) (0, 0, []) (Ent.trans (Ent.empT (t := 5) (sz := 15) (e := 84) (f := (rowF encRc .nil [])) (by decide) (by kernel_rfl) rfl) (Ent.of [] (by kernel_rfl) (by kernel_rfl) (by kernel_rfl) trivial)) ⟨Nat.zero_le _, rfl, Nat.zero_le _, rfl⟩ ?_
  rintro ⟨k, n, acc⟩ L ⟨hk, hn, hm, hf⟩ again
  simp only at hk hn hm hf
  rcases Nat.lt_or_ge k l.length with hlt | hge
  · rw [dropD l .nil k hlt, List.filter_cons] at hf
    have c := live1_ok (G := G) d (l.getD k .nil)
    cases hp : liveP d (l.getD k .nil) with
    | true =>
      rw [hp] at c
      rw [hp, if_pos rfl] at hf
      have hf2 : l.filter (liveP d) = (acc ++ [l.getD k .nil]) ++ (l.drop (k + 1)).filter (liveP d) := by rw [hf]; simp
      have e1 : BlkEqv (.row 84 15 (n + 1) (catF n (rowF encRc .nil acc) (fun i j => nthD (encRc (l.getD k .nil)) ((0 + i) * 15 + j)))) (.row 84 15 (n + 1) (rowF encRc .nil (acc ++ [l.getD k .nil]))) := enc_app acc _ hn
      have q2 : n + 1 = (acc ++ [l.getD k .nil]).length := by simp [hn]
      clear hf hp
      generalize acc ++ [l.getD k .nil] = acc2 at e1 q2 hf2
      have hm2 : acc2.length ≤ k + 1 := by omega
      have hk2 : k + 1 ≤ l.length := by omega
      refine Wp.go (mx := true) (fun _ => mixed) [(6, {bs := [(3, Blk.row 84 15 (n + 1) (rowF encRc .nil acc2))]}), (5, {cs := [(2, cb [0] c)]})] 100 [true, true] [decide ((↑k : Int) < (↑l.length : Int)) = true, (0 : Int) ≤ (↑k : Int) ∧ (↑k : Int) < (↑l.length : Int), true = true, (n + (1 : Nat)) * (176 : Nat) ≤ (140737488355328 : Nat), BlkEqv (Blk.row 84 (15 : Nat) (n + (1 : Nat)) (catF n (fun (i j : Nat) => nthD [Cell.int .i64 (acc.getD i RcT.nil).kind, Cell.int .i64 (acc.getD i RcT.nil).key, Cell.int .i64 (acc.getD i RcT.nil).til, Cell.bool (acc.getD i RcT.nil).used, Cell.int .i64 (acc.getD i RcT.nil).client, Cell.int .i64 (acc.getD i RcT.nil).user, Cell.int .i64 (acc.getD i RcT.nil).sess, Cell.int .i64 (acc.getD i RcT.nil).fam, Cell.str (acc.getD i RcT.nil).w.ty, Cell.str (acc.getD i RcT.nil).w.redir, Cell.str (acc.getD i RcT.nil).w.scope, Cell.str (acc.getD i RcT.nil).w.state, Cell.str (acc.getD i RcT.nil).w.nonce, Cell.str (acc.getD i RcT.nil).w.chal, Cell.str (acc.getD i RcT.nil).w.meth] j) fun (i j : Nat) => nthD [Cell.int .i64 (l.getD k RcT.nil).kind, Cell.int .i64 (l.getD k RcT.nil).key, Cell.int .i64 (l.getD k RcT.nil).til, Cell.bool (l.getD k RcT.nil).used, Cell.int .i64 (l.getD k RcT.nil).client, Cell.int .i64 (l.getD k RcT.nil).user, Cell.int .i64 (l.getD k RcT.nil).sess, Cell.int .i64 (l.getD k RcT.nil).fam, Cell.str (l.getD k RcT.nil).w.ty, Cell.str (l.getD k RcT.nil).w.redir, Cell.str (l.getD k RcT.nil).w.scope, Cell.str (l.getD k RcT.nil).w.state, Cell.str (l.getD k RcT.nil).w.nonce, Cell.str (l.getD k RcT.nil).w.chal, Cell.str (l.getD k RcT.nil).w.meth] (((0 : Nat) + i) * (15 : Nat) + j))) (Blk.row 84 (15 : Nat) (n + (1 : Nat)) (rowF encRc RcT.nil acc2)), n ≤ n, (0 : Nat) + (1 : Nat) ≤ (1 : Nat), inR IntKind.i64 ((↑k : Int) + (1 : Int))] (by kernel_rfl) (by kernel_rfl) (by kernel_rfl) ⟨(by simp; omega), (by omega), rfl, (by omega), (by assumption), (by omega), (by omega), inR64 (by omega) (by omega)⟩ ?_
      exact Wp.lpK (by kernel_rfl) (again _ (k + 1, n + 1, acc2) ⟨(by assumption), ⟨(by assumption), ⟨(by assumption), (by assumption)⟩⟩⟩ (by omega) (Ent.of [(81, 273)] (by kernel_rfl) (by kernel_rfl) (by kernel_rfl) trivial))
    | false =>
      rw [hp] at c
      rw [hp, if_neg (by simp)] at hf
      clear hp
      refine Wp.go (mx := true) (fun _ => mixed) [(5, {cs := [(2, cb [0] c)]})] 100 [true, false] [decide ((↑k : Int) < (↑l.length : Int)) = true, (0 : Int) ≤ (↑k : Int) ∧ (↑k : Int) < (↑l.length : Int), false = false, inR IntKind.i64 ((↑k : Int) + (1 : Int))] (by kernel_rfl) (by kernel_rfl) (by kernel_rfl) ⟨(by simp; omega), (by omega), rfl, inR64 (by omega) (by omega)⟩ ?_
      exact Wp.lpK (by kernel_rfl) (again _ (k + 1, n, acc) ⟨(by assumption), ⟨(by assumption), ⟨(by simp; omega), (by assumption)⟩⟩⟩ (by omega) (Ent.of [] (by kernel_rfl) (by kernel_rfl) (by kernel_rfl) trivial))
  · rw [List.drop_of_length_le hge, List.filter_nil, List.append_nil] at hf
    rw [hf]
    subst hn
    refine Wp.go (mx := true) (fun _ => mixed) [] 100 [false] [decide ((↑k : Int) < (↑l.length : Int)) = false] (by kernel_rfl) (by kernel_rfl) (by kernel_rfl) (show decide ((↑k : Int) < (↑l.length : Int)) = false from (by simp; omega)) ?_
    refine Wp.ret' (by kernel_rfl) ?_
    exact FinQ.blk [81] (by kernel_rfl) (by kernel_rfl) (by kernel_rfl) (by kernel_rfl) (by kernel_rfl) trivial
theorem keepR (l : List RcT) (d : Int) (hl : l.length ≤ 1000000000) : FnB Tryz.prog G 181 [bxN d] [.c (rcS l), .c (clo1 183 (.ptr 0 0))] [.c (.row 15 1 0 (l.filter (roomP d)).length)] [(0, bxN d), (1, rcB (l.filter (roomP d)))] := by
  refine Fn.of' Tryz.func181 (by kernel_rfl) (by kernel_rfl) (by kernel_rfl) (by kernel_rfl) trivial ?_
  refine Wp.go (mx := true) (fun _ => mixed) [] 100 [] [] (by kernel_rfl) (by kernel_rfl) (by kernel_rfl) trivial ?_
  refine Wp.loopK (by kernel_rfl) (fun (x : Nat × Nat × List RcT) => ⟨[(0, .v (.c (rcS l))), (1, .v (.c (clo1 183 (.ptr 0 0)))), (5, .v (.c (.row 15 81 0 x.2.1))), (8, .v (.c (rcS l))), (9, .v (.c (.int .i64 (l.length : Int)))), (10, .v (.c (.int .i64 (x.1 : Int))))], [(0, bxN d), (81, .row 84 15 x.2.1 (rowF encRc .nil x.2.2))], 97⟩) (fun x => x.1 ≤ l.length ∧ x.2.1 = x.2.2.length ∧ x.2.2.length ≤ x.1 ∧ l.filter (roomP d) = x.2.2 ++ (l.drop x.1).filter (roomP d)) (fun x => l.length - x.1) (0, 0, []) (Ent.trans (Ent.empT (t := 5) (sz := 15) (e := 84) (f := (rowF encRc .nil [])) (by decide) (by kernel_rfl) rfl) (Ent.of [] (by kernel_rfl) (by kernel_rfl) (by kernel_rfl) trivial)) ⟨Nat.zero_le _, rfl, Nat.zero_le _, rfl⟩ ?_
  rintro ⟨k, n, acc⟩ L ⟨hk, hn, hm, hf⟩ again
  simp only at hk hn hm hf
  rcases Nat.lt_or_ge k l.length with hlt | hge
  · rw [dropD l .nil k hlt, List.filter_cons] at hf
    have c := room1_ok (G := G) d (l.getD k .nil)
    cases hp : roomP d (l.getD k .nil) with
    | true =>
      rw [hp] at c
      rw [hp, if_pos rfl] at hf
      have hf2 : l.filter (roomP d) = (acc ++ [l.getD k .nil]) ++ (l.drop (k + 1)).filter (roomP d) := by rw [hf]; simp
      have e1 : BlkEqv (.row 84 15 (n + 1) (catF n (rowF encRc .nil acc) (fun i j => nthD (encRc (l.getD k .nil)) ((0 + i) * 15 + j)))) (.row 84 15 (n + 1) (rowF encRc .nil (acc ++ [l.getD k .nil]))) := enc_app acc _ hn
      have q2 : n + 1 = (acc ++ [l.getD k .nil]).length := by simp [hn]
      clear hf hp
      generalize acc ++ [l.getD k .nil] = acc2 at e1 q2 hf2
      have hm2 : acc2.length ≤ k + 1 := by omega
      have hk2 : k + 1 ≤ l.length := by omega
      refine Wp.go (mx := true) (fun _ => mixed) [(6, {bs := [(3, Blk.row 84 15 (n + 1) (rowF encRc .nil acc2))]}), (5, {cs := [(2, cb [0] c)]})] 100 [true, true] [decide ((↑k : Int) < (↑l.length : Int)) = true, (0 : Int) ≤ (↑k : Int) ∧ (↑k : Int) < (↑l.length : Int), true = true, (n + (1 : Nat)) * (176 : Nat) ≤ (140737488355328 : Nat), BlkEqv (Blk.row 84 (15 : Nat) (n + (1 : Nat)) (catF n (fun (i j : Nat) => nthD [Cell.int .i64 (acc.getD i RcT.nil).kind, Cell.int .i64 (acc.getD i RcT.nil).key, Cell.int .i64 (acc.getD i RcT.nil).til, Cell.bool (acc.getD i RcT.nil).used, Cell.int .i64 (acc.getD i RcT.nil).client, Cell.int .i64 (acc.getD i RcT.nil).user, Cell.int .i64 (acc.getD i RcT.nil).sess, Cell.int .i64 (acc.getD i RcT.nil).fam, Cell.str (acc.getD i RcT.nil).w.ty, Cell.str (acc.getD i RcT.nil).w.redir, Cell.str (acc.getD i RcT.nil).w.scope, Cell.str (acc.getD i RcT.nil).w.state, Cell.str (acc.getD i RcT.nil).w.nonce, Cell.str (acc.getD i RcT.nil).w.chal, Cell.str (acc.getD i RcT.nil).w.meth] j) fun (i j : Nat) => nthD [Cell.int .i64 (l.getD k RcT.nil).kind, Cell.int .i64 (l.getD k RcT.nil).key, Cell.int .i64 (l.getD k RcT.nil).til, Cell.bool (l.getD k RcT.nil).used, Cell.int .i64 (l.getD k RcT.nil).client, Cell.int .i64 (l.getD k RcT.nil).user, Cell.int .i64 (l.getD k RcT.nil).sess, Cell.int .i64 (l.getD k RcT.nil).fam, Cell.str (l.getD k RcT.nil).w.ty, Cell.str (l.getD k RcT.nil).w.redir, Cell.str (l.getD k RcT.nil).w.scope, Cell.str (l.getD k RcT.nil).w.state, Cell.str (l.getD k RcT.nil).w.nonce, Cell.str (l.getD k RcT.nil).w.chal, Cell.str (l.getD k RcT.nil).w.meth] (((0 : Nat) + i) * (15 : Nat) + j))) (Blk.row 84 (15 : Nat) (n + (1 : Nat)) (rowF encRc RcT.nil acc2)), n ≤ n, (0 : Nat) + (1 : Nat) ≤ (1 : Nat), inR IntKind.i64 ((↑k : Int) + (1 : Int))] (by kernel_rfl) (by kernel_rfl) (by kernel_rfl) ⟨(by simp; omega), (by omega), rfl, (by omega), (by assumption), (by omega), (by omega), inR64 (by omega) (by omega)⟩ ?_
      exact Wp.lpK (by kernel_rfl) (again _ (k + 1, n + 1, acc2) ⟨(by assumption), ⟨(by assumption), ⟨(by assumption), (by assumption)⟩⟩⟩ (by omega) (Ent.of [(81, 273)] (by kernel_rfl) (by kernel_rfl) (by kernel_rfl) trivial))
    | false =>
      rw [hp] at c
      rw [hp, if_neg (by simp)] at hf
      clear hp
      refine Wp.go (mx := true) (fun _ => mixed) [(5, {cs := [(2, cb [0] c)]})] 100 [true, false] [decide ((↑k : Int) < (↑l.length : Int)) = true, (0 : Int) ≤ (↑k : Int) ∧ (↑k : Int) < (↑l.length : Int), false = false, inR IntKind.i64 ((↑k : Int) + (1 : Int))] (by kernel_rfl) (by kernel_rfl) (by kernel_rfl) ⟨(by simp; omega), (by omega), rfl, inR64 (by omega) (by omega)⟩ ?_
      exact Wp.lpK (by kernel_rfl) (again _ (k + 1, n, acc) ⟨(by assumption), ⟨(by assumption), ⟨(by simp; omega), (by assumption)⟩⟩⟩ (by omega) (Ent.of [] (by kernel_rfl) (by kernel_rfl) (by kernel_rfl) trivial))
  · rw [List.drop_of_length_le hge, List.filter_nil, List.append_nil] at hf
    rw [hf]
    subst hn
    refine Wp.go (mx := true) (fun _ => mixed) [] 100 [false] [decide ((↑k : Int) < (↑l.length : Int)) = false] (by kernel_rfl) (by kernel_rfl) (by kernel_rfl) (show decide ((↑k : Int) < (↑l.length : Int)) = false from (by simp; omega)) ?_
    refine Wp.ret' (by kernel_rfl) ?_
    exact FinQ.blk [81] (by kernel_rfl) (by kernel_rfl) (by kernel_rfl) (by kernel_rfl) (by kernel_rfl) trivial
theorem liveR_ok (l : List RcT) (now : Int) (hl : l.length ≤ 1000000000) : FnB Tryz.prog G 182 [] [.c (rcS l), .c (.int .i64 now)] [.c (.row 15 0 0 (liveT now l).length)] [(0, rcB (liveT now l))] := by
  refine Fn.of' Tryz.func182 (by kernel_rfl) (by kernel_rfl) (by kernel_rfl) (by kernel_rfl) trivial ?_
  have c := keepL (G := G) l now hl
  refine Wp.go (mx := true) (fun _ => mixed) [(1, {cs := [(2, cb [0] c)], fm := [(1, .c (clo1 221 (.ptr 0 0)))]})] 100 [] [EqvI (V1.c (cloRaw 221 [V1.c (Cell.ptr 0 (0 : Nat))])) (V1.c (clo1 221 (Cell.ptr (0 : Nat) (0 : Nat)))), EqvD (V1.c (cloRaw 221 [V1.c (Cell.ptr 0 (0 : Nat))])) (V1.c (clo1 221 (Cell.ptr (0 : Nat) (0 : Nat))))] (by kernel_rfl) (by kernel_rfl) (by kernel_rfl) ⟨clo1_I _ _, clo1_D _ _⟩ ?_
  refine Wp.ret' (by kernel_rfl) ?_
  exact FinQ.blk [64] (by kernel_rfl) (by kernel_rfl) (by kernel_rfl) (by kernel_rfl) (by kernel_rfl) trivial
theorem live_ok (l : List RcT) (now : Int) (hl : l.length ≤ 1000000000) : Pur Tryz.prog G 182 [.c (rcS l), .c (.int .i64 now)] [.c (rcS (liveT now l))] := by
  refine Pur.of Tryz.func182 (by kernel_rfl) (by kernel_rfl) (by kernel_rfl) ?_
  have c := keepL (G := G) l now hl
  refine Wp.go (mx := true) (fun _ => mixed) [(1, {cs := [(2, cb [0] c)], fm := [(1, .c (clo1 221 (.ptr 0 0)))]})] 100 [] [EqvI (V1.c (cloRaw 221 [V1.c (Cell.ptr 0 (0 : Nat))])) (V1.c (clo1 221 (Cell.ptr (0 : Nat) (0 : Nat)))), EqvD (V1.c (cloRaw 221 [V1.c (Cell.ptr 0 (0 : Nat))])) (V1.c (clo1 221 (Cell.ptr (0 : Nat) (0 : Nat))))] (by kernel_rfl) (by kernel_rfl) (by kernel_rfl) ⟨clo1_I _ _, clo1_D _ _⟩ ?_
  refine Wp.ent' (by kernel_rfl) (Ent.pubT (t := 4) (e := 84) (sz := (15 : Nat)) (id := 64) (off := (0 : Nat)) (m := (List.filter (liveP now) l).length) (n := (List.filter (liveP now) l).length) (f := rowF encRc RcT.nil (List.filter (liveP now) l)) (m' := (liveT now l).length) (f' := rowF encRc RcT.nil (liveT now l)) (by kernel_rfl) (by kernel_rfl) (by omega) rfl (fun i _ j _ => by rw [Nat.zero_add]; rfl) rfl) ?_
  refine Wp.ret' (by kernel_rfl) ?_
  exact FinQ.pure (rs' := [V1.c (Cell.sl (15 : Nat) (liveT now l).length (rowF encRc RcT.nil (liveT now l)))]) (by kernel_rfl) rfl (by kernel_rfl)
/-- How many more there may be. -/
def maxZ (x : Int) : Int := if 0 > x then 0 else x
def roomK (l : List RcT) (now kind : Int) : Int := maxZ (mostT kind - (((liveT now l).filter (roomP kind)).length : Int))
theorem mostT_rng (k : Int) : 0 ≤ mostT k ∧ mostT k ≤ 12 := by
  unfold mostT
  cases (k == 1) <;> cases (k == 2) <;> cases (k == 3) <;> cases (k == 4) <;> cases (k == 5) <;> cases (k == 6) <;> simp
theorem room_ok (l : List RcT) (now kind : Int) (hl : l.length ≤ 1000000000) : Pur Tryz.prog G 140 [.c (rcS l), .c (.int .i64 now), .c (.int .i64 kind)] [.c (.int .i64 (roomK l now kind))] := by
  refine Pur.of Tryz.func140 (by kernel_rfl) (by kernel_rfl) (by kernel_rfl) ?_
  have c1 := live_ok (G := G) l now hl
  have c2 := keepR (G := G) (liveT now l) kind (Nat.le_trans (live_len now l) hl)
  have c3 := most_ok (G := G) kind
  have hr := mostT_rng kind
  have hlen : ((liveT now l).filter (roomP kind)).length ≤ 1000000000 := Nat.le_trans (List.length_filter_le _ _) (Nat.le_trans (live_len now l) hl)
  refine Wp.go (mx := true) (fun _ => mixed) [(1, {cs := [(2, pc c1), (4, cb [0] c2)], fm := [(3, .c (clo1 183 (.ptr 0 0)))]}), (2, {cs := [(1, pc c3)]})] 100 [] [EqvI (V1.c (cloRaw 183 [V1.c (Cell.ptr 0 (0 : Nat))])) (V1.c (clo1 183 (Cell.ptr (0 : Nat) (0 : Nat)))), EqvD (V1.c (cloRaw 183 [V1.c (Cell.ptr 0 (0 : Nat))])) (V1.c (clo1 183 (Cell.ptr (0 : Nat) (0 : Nat)))), inR IntKind.i64 (mostT kind - (↑(List.filter (roomP kind) (liveT now l)).length : Int))] (by kernel_rfl) (by kernel_rfl) (by kernel_rfl) ⟨clo1_I _ _, clo1_D _ _, inR64 (by omega) (by omega)⟩ ?_
  refine Wp.ret' (by kernel_rfl) ?_
  exact FinQ.pure (rs' := [V1.c (Cell.int .i64 (if (0 : Int) > mostT kind - (↑(List.filter (roomP kind) (liveT now l)).length : Int) then (0 : Int) else mostT kind - (↑(List.filter (roomP kind) (liveT now l)).length : Int)))]) (by kernel_rfl) rfl (by kernel_rfl)
end Go.Proofs.Tw
end

section
/-
  Own layer 'SV' (29): a slice of nothing is nil, or it is not.
-/
namespace Go.Sv

theorem emp_D {sz : Nat} {f : Nat → Nat → Cell} : EqvD (.c .emp) (.c (.sl sz 0 f)) := fun D ρ u ⟨b, o, cap, h, hc⟩ =>
  ⟨some ⟨b, o, none⟩, cap, h, Nat.zero_le _, hc, .inr ⟨b, o, rfl, fun i hi => (Nat.not_lt_zero _ hi).elim⟩⟩
section
variable {P : Program} {G : Nat → Option (List Cell)} {N kn : Nat} {k : List KI} {Q : St → Prop} {st st' : St}
theorem Wp.nil0 (t sz : Nat) (f : Nat → Nat → Cell) (h : isCode k = true) (hl : look st.tm t = some (.v (.c (.sl sz 0 f)))) (h1 : Wp P G N kn k Q (st.set (.tm t) (.tv (.v (.c .nilsl))))) (h2 : Wp P G N kn k Q (st.set (.tm t) (.tv (.v (.c .emp))))) : Wp P G N kn k Q st := by
  unfold isCode at h
  split at h
  · rename_i c k
    intro Γ g1 g2 g3 g4 a w hs
    obtain ⟨D, ρ, hs⟩ := hs
    obtain ⟨u, hu, b, cap, hd, _, hc, hor⟩ := hs.tm t _ hl
    have key : ∀ x : Cell, Den D ρ x u → x.flat = true → Sat0 Γ (st.set (.tm t) (.tv (.v (.c x)))) a w := by
      intro x hx hfl
      refine ⟨D, ρ, { hs with tm := ?_, idT := ?_ }⟩
      · intro i v hv
        have hv : look (put st.tm t (.v (.c x))) i = some v := hv
        rw [look_put] at hv
        split at hv
        · rename_i e
          simp only [Option.some.injEq] at hv
          subst hv e
          exact ⟨u, hu, hx⟩
        · exact hs.tm i v hv
      · intro i v hv
        have hv : look (put st.tm t (.v (.c x))) i = some v := hv
        rw [look_put] at hv
        split at hv
        · simp only [Option.some.injEq] at hv
          subst hv
          exact Cell.inS_flat hfl
        · exact hs.idT i v hv
    rcases hor with ⟨rfl, rfl⟩ | ⟨b1, o, rfl, _⟩
    · exact h1 Γ g1 g2 g3 g4 a w (key .nilsl hd rfl)
    · exact h2 Γ g1 g2 g3 g4 a w (key .emp ⟨b1, o, cap, hd, hc⟩ rfl)
  · cases h
end
end Go.Sv
end

section
open Go Go.Sv
namespace Go.Proofs.Tw
attribute [local irreducible] Wp FinQ resV Ent Pur Go.Sv.Fn Sat0
set_option maxRecDepth 100000
set_option maxHeartbeats 4000000
variable {G : Nat → Option (List Cell)}

theorem ownC_ok (l : List ClT) (hl : l.length ≤ 1000000000) : FnB Tryz.prog G 135 [] [.c (clS l)] [.c (.row 4 0 0 l.length)] [(0, .row 76 4 l.length (rowF encCl .nil l))] := by
  refine Fn.of' Tryz.func135 (by kernel_rfl) (by kernel_rfl) (by kernel_rfl) (by kernel_rfl) trivial ?_
  have e1 : BlkEqv (.row 76 4 l.length (cpyF 0 l.length (fun _ j => nthD [.str [], .int .i64 0, .nilsl, .str []] j) (fun i j => nthD (encCl (l.getD i .nil)) j))) (.row 76 4 l.length (rowF encCl .nil l)) := by
    refine BlkEqv.row_ext rfl fun i hi j hj => ?_
    unfold cpyF
    rw [if_neg (by omega), if_pos (by omega), Nat.sub_zero]
    rfl
  refine Wp.go (mx := true) (fun _ => mixed) [(2, {bs := [(2, Blk.row 76 4 l.length (rowF encCl .nil l))]})] 100 [] [(0 : Int) ≤ (↑l.length : Int), (↑l.length : Int) ≤ (↑l.length : Int), (↑l.length : Int) * (↑(64 : Nat) : Int) ≤ (140737488355328 : Int), l.length ≤ l.length, (0 : Nat) + l.length ≤ l.length, BlkEqv (Blk.row 76 (4 : Nat) l.length fun (i j : Nat) => if i < (0 : Nat) then nthD [Cell.str [], Cell.int .i64 (0 : Int), Cell.nilsl, Cell.str []] j else if i < (0 : Nat) + l.length then rowF encCl ClT.nil l (i - (0 : Nat)) j else nthD [Cell.str [], Cell.int .i64 (0 : Int), Cell.nilsl, Cell.str []] j) (Blk.row 76 (4 : Nat) l.length (rowF encCl ClT.nil l))] (by kernel_rfl) (by kernel_rfl) (by kernel_rfl) ⟨(by omega), (by omega), (by omega), (by omega), (by omega), (show BlkEqv (Blk.row 76 (4 : Nat) l.length fun (i j : Nat) => if i < (0 : Nat) then nthD [Cell.str [], Cell.int .i64 (0 : Int), Cell.nilsl, Cell.str []] j else if i < (0 : Nat) + l.length then rowF encCl ClT.nil l (i - (0 : Nat)) j else nthD [Cell.str [], Cell.int .i64 (0 : Int), Cell.nilsl, Cell.str []] j) (Blk.row 76 (4 : Nat) l.length (rowF encCl ClT.nil l)) from (by assumption))⟩ ?_
  refine Wp.ret' (by kernel_rfl) ?_
  exact FinQ.blk [48] (by kernel_rfl) (by kernel_rfl) (by kernel_rfl) (by kernel_rfl) (by kernel_rfl) trivial
theorem ownU_ok (l : List UsT) (hl : l.length ≤ 1000000000) : FnB Tryz.prog G 136 [] [.c (usS l)] [.c (.row 2 0 0 l.length)] [(0, .row 126 2 l.length (rowF encUs .nil l))] := by
  refine Fn.of' Tryz.func136 (by kernel_rfl) (by kernel_rfl) (by kernel_rfl) (by kernel_rfl) trivial ?_
  have e1 : BlkEqv (.row 126 2 l.length (cpyF 0 l.length (fun _ j => nthD [.str [], .int .i64 0] j) (fun i j => nthD (encUs (l.getD i .nil)) j))) (.row 126 2 l.length (rowF encUs .nil l)) := by
    refine BlkEqv.row_ext rfl fun i hi j hj => ?_
    unfold cpyF
    rw [if_neg (by omega), if_pos (by omega), Nat.sub_zero]
    rfl
  refine Wp.go (mx := true) (fun _ => mixed) [(2, {bs := [(2, Blk.row 126 2 l.length (rowF encUs .nil l))]})] 100 [] [(0 : Int) ≤ (↑l.length : Int), (↑l.length : Int) ≤ (↑l.length : Int), (↑l.length : Int) * (↑(24 : Nat) : Int) ≤ (140737488355328 : Int), l.length ≤ l.length, (0 : Nat) + l.length ≤ l.length, BlkEqv (Blk.row 126 (2 : Nat) l.length fun (i j : Nat) => if i < (0 : Nat) then nthD [Cell.str [], Cell.int .i64 (0 : Int)] j else if i < (0 : Nat) + l.length then rowF encUs UsT.nil l (i - (0 : Nat)) j else nthD [Cell.str [], Cell.int .i64 (0 : Int)] j) (Blk.row 126 (2 : Nat) l.length (rowF encUs UsT.nil l))] (by kernel_rfl) (by kernel_rfl) (by kernel_rfl) ⟨(by omega), (by omega), (by omega), (by omega), (by omega), (show BlkEqv (Blk.row 126 (2 : Nat) l.length fun (i j : Nat) => if i < (0 : Nat) then nthD [Cell.str [], Cell.int .i64 (0 : Int)] j else if i < (0 : Nat) + l.length then rowF encUs UsT.nil l (i - (0 : Nat)) j else nthD [Cell.str [], Cell.int .i64 (0 : Int)] j) (Blk.row 126 (2 : Nat) l.length (rowF encUs UsT.nil l)) from (by assumption))⟩ ?_
  refine Wp.ret' (by kernel_rfl) ?_
  exact FinQ.blk [48] (by kernel_rfl) (by kernel_rfl) (by kernel_rfl) (by kernel_rfl) (by kernel_rfl) trivial
theorem ownR_ok (l : List RcT) (hl : l.length ≤ 1000000000) : FnB Tryz.prog G 137 [] [.c (rcS l)] [.c (.row 15 0 0 l.length)] [(0, .row 84 15 l.length (rowF encRc .nil l))] := by
  refine Fn.of' Tryz.func137 (by kernel_rfl) (by kernel_rfl) (by kernel_rfl) (by kernel_rfl) trivial ?_
  have e1 : BlkEqv (.row 84 15 l.length (cpyF 0 l.length (fun _ j => nthD [.int .i64 0, .int .i64 0, .int .i64 0, .bool false, .int .i64 0, .int .i64 0, .int .i64 0, .int .i64 0, .str [], .str [], .str [], .str [], .str [], .str [], .str []] j) (fun i j => nthD (encRc (l.getD i .nil)) j))) (.row 84 15 l.length (rowF encRc .nil l)) := by
    refine BlkEqv.row_ext rfl fun i hi j hj => ?_
    unfold cpyF
    rw [if_neg (by omega), if_pos (by omega), Nat.sub_zero]
    rfl
  refine Wp.go (mx := true) (fun _ => mixed) [(2, {bs := [(2, Blk.row 84 15 l.length (rowF encRc .nil l))]})] 100 [] [(0 : Int) ≤ (↑l.length : Int), (↑l.length : Int) ≤ (↑l.length : Int), (↑l.length : Int) * (↑(176 : Nat) : Int) ≤ (140737488355328 : Int), l.length ≤ l.length, (0 : Nat) + l.length ≤ l.length, BlkEqv (Blk.row 84 (15 : Nat) l.length fun (i j : Nat) => if i < (0 : Nat) then nthD [Cell.int .i64 (0 : Int), Cell.int .i64 (0 : Int), Cell.int .i64 (0 : Int), Cell.bool false, Cell.int .i64 (0 : Int), Cell.int .i64 (0 : Int), Cell.int .i64 (0 : Int), Cell.int .i64 (0 : Int), Cell.str [], Cell.str [], Cell.str [], Cell.str [], Cell.str [], Cell.str [], Cell.str []] j else if i < (0 : Nat) + l.length then rowF encRc RcT.nil l (i - (0 : Nat)) j else nthD [Cell.int .i64 (0 : Int), Cell.int .i64 (0 : Int), Cell.int .i64 (0 : Int), Cell.bool false, Cell.int .i64 (0 : Int), Cell.int .i64 (0 : Int), Cell.int .i64 (0 : Int), Cell.int .i64 (0 : Int), Cell.str [], Cell.str [], Cell.str [], Cell.str [], Cell.str [], Cell.str [], Cell.str []] j) (Blk.row 84 (15 : Nat) l.length (rowF encRc RcT.nil l))] (by kernel_rfl) (by kernel_rfl) (by kernel_rfl) ⟨(by omega), (by omega), (by omega), (by omega), (by omega), (show BlkEqv (Blk.row 84 (15 : Nat) l.length fun (i j : Nat) => if i < (0 : Nat) then nthD [Cell.int .i64 (0 : Int), Cell.int .i64 (0 : Int), Cell.int .i64 (0 : Int), Cell.bool false, Cell.int .i64 (0 : Int), Cell.int .i64 (0 : Int), Cell.int .i64 (0 : Int), Cell.int .i64 (0 : Int), Cell.str [], Cell.str [], Cell.str [], Cell.str [], Cell.str [], Cell.str [], Cell.str []] j else if i < (0 : Nat) + l.length then rowF encRc RcT.nil l (i - (0 : Nat)) j else nthD [Cell.int .i64 (0 : Int), Cell.int .i64 (0 : Int), Cell.int .i64 (0 : Int), Cell.bool false, Cell.int .i64 (0 : Int), Cell.int .i64 (0 : Int), Cell.int .i64 (0 : Int), Cell.int .i64 (0 : Int), Cell.str [], Cell.str [], Cell.str [], Cell.str [], Cell.str [], Cell.str [], Cell.str []] j) (Blk.row 84 (15 : Nat) l.length (rowF encRc RcT.nil l)) from (by assumption))⟩ ?_
  refine Wp.ret' (by kernel_rfl) ?_
  exact FinQ.blk [48] (by kernel_rfl) (by kernel_rfl) (by kernel_rfl) (by kernel_rfl) (by kernel_rfl) trivial
theorem ownS_ok (l : List (List UInt8)) (hl : l.length ≤ 1000000000) : Pur Tryz.prog G 178 [.c (.sl 1 l.length (strsF l))] [.c (.sl 1 l.length (strsF l))] := by
  refine Pur.of Tryz.func178 (by kernel_rfl) (by kernel_rfl) (by kernel_rfl) ?_
  have e1 : BlkEqv (.row 9 1 l.length (cpyF 0 l.length (fun _ j => nthD [.str []] j) (strsF l))) (.row 9 1 l.length (strsF l)) := by
    refine BlkEqv.row_ext rfl fun i hi j hj => ?_
    unfold cpyF
    rw [if_neg (by omega), if_pos (by omega), Nat.sub_zero]
  refine Wp.go (mx := true) (fun _ => mixed) [(2, {bs := [(2, Blk.row 9 1 l.length (strsF l))]})] 100 [] [(0 : Int) ≤ (↑l.length : Int), (↑l.length : Int) ≤ (↑l.length : Int), (↑l.length : Int) * (↑(16 : Nat) : Int) ≤ (140737488355328 : Int), l.length ≤ l.length, (0 : Nat) + l.length ≤ l.length, BlkEqv (Blk.row 9 (1 : Nat) l.length fun (i j : Nat) => if i < (0 : Nat) then nthD [Cell.str []] j else if i < (0 : Nat) + l.length then strsF l (i - (0 : Nat)) j else nthD [Cell.str []] j) (Blk.row 9 (1 : Nat) l.length (strsF l))] (by kernel_rfl) (by kernel_rfl) (by kernel_rfl) ⟨(by omega), (by omega), (by omega), (by omega), (by omega), (show BlkEqv (Blk.row 9 (1 : Nat) l.length fun (i j : Nat) => if i < (0 : Nat) then nthD [Cell.str []] j else if i < (0 : Nat) + l.length then strsF l (i - (0 : Nat)) j else nthD [Cell.str []] j) (Blk.row 9 (1 : Nat) l.length (strsF l)) from (by assumption))⟩ ?_
  refine Wp.ent' (by kernel_rfl) (Ent.pubT (t := 2) (e := 9) (sz := (1 : Nat)) (id := 48) (off := (0 : Nat)) (m := l.length) (n := l.length) (f := strsF l) (m' := l.length) (f' := strsF l) (by kernel_rfl) (by kernel_rfl) (by omega) rfl (fun i _ j _ => by rw [Nat.zero_add]) rfl) ?_
  refine Wp.ret' (by kernel_rfl) ?_
  exact FinQ.pure (rs' := [V1.c (Cell.sl (1 : Nat) l.length (strsF l))]) (by kernel_rfl) rfl (by kernel_rfl)
theorem ownTx_ok (l : List (List UInt8)) (hl : l.length ≤ 1000000000) : Pur Tryz.prog G 138 [.c (.sl 1 l.length (strsF l))] [.c (.sl 1 l.length (strsF l))] := by
  refine Pur.of Tryz.func138 (by kernel_rfl) (by kernel_rfl) (by kernel_rfl) ?_
  have c := ownS_ok (G := G) l hl
  refine Wp.go (mx := true) (fun _ => mixed) [(1, {cs := [(1, pc c)]})] 100 [] [] (by kernel_rfl) (by kernel_rfl) (by kernel_rfl) trivial ?_
  refine Wp.ret' (by kernel_rfl) ?_
  exact FinQ.pure (rs' := [V1.c (Cell.sl (1 : Nat) l.length (strsF l))]) (by kernel_rfl) rfl (by kernel_rfl)
structure FitS (s : StT) : Prop where
  cls : s.cls.length ≤ 1000000
  usr : s.usr.length ≤ 1000000
  recs : s.recs.length ≤ 1000000
  cl : ∀ k, FitC (s.cls.getD k .nil)
theorem ownState_ok (s : StT) (hs : FitS s) : Pur Tryz.prog G 87 [.agg (encSt s)] [.agg (encSt s)] := by
  refine Pur.of Tryz.func87 (by kernel_rfl) (by kernel_rfl) (by kernel_rfl) ?_
  have hc1 := hs.cls
  have c1 := ownC_ok (G := G) s.cls (by have := hs.cls; omega)
  have c2 := ownU_ok (G := G) s.usr (by have := hs.usr; omega)
  have c3 := ownR_ok (G := G) s.recs (by have := hs.recs; omega)
  refine Wp.go (mx := true) (fun _ => mixed) [(1, {cs := [(2, cb [] c1), (5, cb [] c2), (8, cb [] c3)]})] 100 [] [] (by kernel_rfl) (by kernel_rfl) (by kernel_rfl) trivial ?_
  refine Wp.loopK (by kernel_rfl) (fun (k : Nat) => ⟨[(1, TV.v (V1.c (Cell.ptr 0 0))), (2, TV.v (V1.c (Cell.ptr 16 0))), (18, TV.v (V1.c (Cell.row 4 64 0 s.cls.length))), (19, TV.v (V1.c (Cell.int .i64 (s.cls.length : Int)))), (20, TV.v (V1.c (Cell.int .i64 (k : Int))))], [(0, Blk.box 67 [Cell.str s.name, Cell.int .i64 s.key, Cell.row 4 64 0 s.cls.length, Cell.row 2 112 0 s.usr.length, Cell.row 15 160 0 s.recs.length]), (16, Blk.box 67 [Cell.str [], Cell.int .i64 0, Cell.nilsl, Cell.nilsl, Cell.nilsl]), (64, Blk.row 76 4 s.cls.length (rowF encCl ClT.nil s.cls)), (112, Blk.row 126 2 s.usr.length (rowF encUs UsT.nil s.usr)), (160, Blk.row 84 15 s.recs.length (rowF encRc RcT.nil s.recs))], 336⟩) (fun k => k ≤ s.cls.length) (fun k => s.cls.length - k) 0 (Ent.of [] (by kernel_rfl) (by kernel_rfl) (by kernel_rfl) trivial) (Nat.zero_le _) ?_
  intro k L hk again
  rcases Nat.lt_or_ge k s.cls.length with hlt | hge
  · have c4 := ownTx_ok (G := G) (s.cls.getD (0 + k) .nil).reds (by have := (hs.cl (0 + k)).reds; omega)
    have e1 : BlkEqv (.row 76 4 s.cls.length (fun i j => if i = 0 + k ∧ 2 ≤ j ∧ j < 3 then nthD [.sl 1 (s.cls.getD (0 + k) .nil).reds.length (strsF (s.cls.getD (0 + k) .nil).reds)] (j - 2) else rowF encCl .nil s.cls i j)) (.row 76 4 s.cls.length (rowF encCl .nil s.cls)) := BlkEqv.row_ext rfl fun i hi j hj => by
      split
      · rename_i h
        obtain ⟨rfl, h2, h3⟩ := h
        obtain rfl : j = 2 := by omega
        rfl
      · rfl
    refine Wp.go (mx := true) (fun _ => mixed) [(5, {cs := [(5, pc c4)], bs := [(8, Blk.row 76 4 s.cls.length (rowF encCl ClT.nil s.cls))]})] 100 [true] [decide ((↑k : Int) < (↑s.cls.length : Int)) = true, (0 : Int) ≤ (↑k : Int) ∧ (↑k : Int) < (↑s.cls.length : Int), (0 : Nat) + k < s.cls.length, (0 : Int) ≤ (↑k : Int) ∧ (↑k : Int) < (↑s.cls.length : Int), BlkEqv (Blk.row 76 (4 : Nat) s.cls.length fun (i j : Nat) => if i = (0 : Nat) + k ∧ (0 : Nat) + (2 : Nat) ≤ j ∧ j < (3 : Nat) then nthD [Cell.sl (1 : Nat) (s.cls.getD ((0 : Nat) + k) ClT.nil).reds.length (strsF (s.cls.getD ((0 : Nat) + k) ClT.nil).reds)] (j - ((0 : Nat) + (2 : Nat))) else rowF encCl ClT.nil s.cls i j) (Blk.row 76 (4 : Nat) s.cls.length (rowF encCl ClT.nil s.cls)), (0 : Nat) + k < s.cls.length, inR IntKind.i64 ((↑k : Int) + (1 : Int))] (by kernel_rfl) (by kernel_rfl) (by kernel_rfl) ⟨(by simp; omega), (by omega), (by omega), (by omega), (by assumption), (by omega), inR64 (by omega) (by omega)⟩ ?_
    exact Wp.lpK (by kernel_rfl) (again _ (k + 1) (by assumption) (by omega) (Ent.of [] (by kernel_rfl) (by kernel_rfl) (by kernel_rfl) trivial))
  · refine Wp.go (mx := true) (fun _ => mixed) [] 100 [false] [decide ((↑k : Int) < (↑s.cls.length : Int)) = false] (by kernel_rfl) (by kernel_rfl) (by kernel_rfl) (show decide ((↑k : Int) < (↑s.cls.length : Int)) = false from (by simp; omega)) ?_
    refine Wp.ent' (by kernel_rfl) (Ent.pubC (b := 16) (o := 2) (e := 76) (e' := 67) (cs := [Cell.str s.name, Cell.int .i64 s.key, Cell.row (4 : Nat) (64 : Nat) (0 : Nat) s.cls.length, Cell.row (2 : Nat) (112 : Nat) (0 : Nat) s.usr.length, Cell.row (15 : Nat) (160 : Nat) (0 : Nat) s.recs.length]) (sz := (4 : Nat)) (id := 64) (off := (0 : Nat)) (m := s.cls.length) (n := s.cls.length) (f := rowF encCl ClT.nil s.cls) (m' := s.cls.length) (f' := rowF encCl ClT.nil s.cls) (by kernel_rfl) (by kernel_rfl) (by kernel_rfl) (by omega) rfl (fun i _ j _ => by rw [Nat.zero_add]) rfl) ?_
    refine Wp.ent' (by kernel_rfl) (Ent.pubC (b := 16) (o := 3) (e := 126) (e' := 67) (cs := [Cell.str s.name, Cell.int .i64 s.key, Cell.sl (4 : Nat) s.cls.length (rowF encCl ClT.nil s.cls), Cell.row (2 : Nat) (112 : Nat) (0 : Nat) s.usr.length, Cell.row (15 : Nat) (160 : Nat) (0 : Nat) s.recs.length]) (sz := (2 : Nat)) (id := 112) (off := (0 : Nat)) (m := s.usr.length) (n := s.usr.length) (f := rowF encUs UsT.nil s.usr) (m' := s.usr.length) (f' := rowF encUs UsT.nil s.usr) (by kernel_rfl) (by kernel_rfl) (by kernel_rfl) (by omega) rfl (fun i _ j _ => by rw [Nat.zero_add]) rfl) ?_
    refine Wp.ent' (by kernel_rfl) (Ent.pubC (b := 16) (o := 4) (e := 84) (e' := 67) (cs := [Cell.str s.name, Cell.int .i64 s.key, Cell.sl (4 : Nat) s.cls.length (rowF encCl ClT.nil s.cls), Cell.sl (2 : Nat) s.usr.length (rowF encUs UsT.nil s.usr), Cell.row (15 : Nat) (160 : Nat) (0 : Nat) s.recs.length]) (sz := (15 : Nat)) (id := 160) (off := (0 : Nat)) (m := s.recs.length) (n := s.recs.length) (f := rowF encRc RcT.nil s.recs) (m' := s.recs.length) (f' := rowF encRc RcT.nil s.recs) (by kernel_rfl) (by kernel_rfl) (by kernel_rfl) (by omega) rfl (fun i _ j _ => by rw [Nat.zero_add]) rfl) ?_
    refine Wp.ret' (by kernel_rfl) ?_
    exact FinQ.pure (rs' := [V1.agg [Cell.str s.name, Cell.int .i64 s.key, Cell.sl (4 : Nat) s.cls.length (rowF encCl ClT.nil s.cls), Cell.sl (2 : Nat) s.usr.length (rowF encUs UsT.nil s.usr), Cell.sl (15 : Nat) s.recs.length (rowF encRc RcT.nil s.recs)]]) (by kernel_rfl) rfl (by kernel_rfl)
end Go.Proofs.Tw
end

section
open Go Go.Sv
namespace Go.Proofs.Tw
attribute [local irreducible] Wp FinQ resV Ent Pur Go.Sv.Fn Sat0
set_option maxRecDepth 100000
set_option maxHeartbeats 4000000
variable {G : Nat → Option (List Cell)}

theorem live_live (now : Int) (l : List RcT) : liveT now (liveT now l) = liveT now l := by
  unfold liveT; rw [List.filter_filter]; simp
theorem room_live (now kind : Int) (l : List RcT) : roomK (liveT now l) now kind = roomK l now kind := by
  unfold roomK; rw [live_live]
/-- A record is put in, or why not. -/
def putS (l : List RcT) (now : Int) (r : RcT) : List RcT × Int :=
  if mostT r.kind = 0 then (l, 2) else if (liveT now l).any (fun x => x.key == r.key) = true then (l, 6) else if roomK l now r.kind = 0 then (l, 16) else (liveT now l ++ [r], 0)
theorem clone_ok (l : List RcT) (hl : l.length ≤ 1000000) : Pur Tryz.prog G 186 [.c (rcS l)] [.c (rcS l)] := by
  have e0 : BlkEqv (.row 84 15 (0 + l.length) (catF 0 (fun i j => nthD [] (i * 15 + j)) (rowF encRc .nil l))) (.row 84 15 (0 + l.length) (rowF encRc .nil l)) := by
    refine BlkEqv.row_ext rfl fun i hi j hj => ?_
    unfold catF
    rw [if_neg (by omega), Nat.sub_zero]
  refine Pur.of Tryz.func186 (by kernel_rfl) (by kernel_rfl) (by kernel_rfl) ?_
  cases l with
  | nil =>
    have e2 : EqvD (.c .nilsl) (.c (.sl 15 0 (rowF encRc .nil []))) := nilsl_D
    refine Wp.nil0 0 15 (rowF encRc .nil []) (by kernel_rfl) (by kernel_rfl) ?_ ?_
    · refine Wp.go (mx := true) (fun _ => mixed) [(2, {fm := [(0, .c (.sl 15 0 (rowF encRc .nil [])))]})] 100 [true] [true = true, EqvI (V1.c Cell.nilsl) (V1.c (Cell.sl (15 : Nat) (0 : Nat) (rowF encRc RcT.nil []))), EqvD (V1.c Cell.nilsl) (V1.c (Cell.sl (15 : Nat) (0 : Nat) (rowF encRc RcT.nil [])))] (by kernel_rfl) (by kernel_rfl) (by kernel_rfl) ⟨rfl, fun _ _ => trivial, (show EqvD (V1.c Cell.nilsl) (V1.c (Cell.sl (15 : Nat) (0 : Nat) (rowF encRc RcT.nil []))) from (by assumption))⟩ ?_
      refine Wp.ret' (by kernel_rfl) ?_
      exact FinQ.pure (rs' := [V1.c (Cell.sl (15 : Nat) (0 : Nat) (rowF encRc RcT.nil []))]) (by kernel_rfl) rfl (by kernel_rfl)
    · have e1 : EqvD (.c .emp) (.c (.sl 15 0 (rowF encRc .nil []))) := emp_D
      refine Wp.go (mx := true) (fun _ => mixed) [(3, {fm := [(1, .c (.sl 15 0 (rowF encRc .nil [])))], bs := [(2, Blk.row 84 15 0 (rowF encRc .nil []))]})] 100 [false] [false = false, EqvI (V1.c Cell.emp) (V1.c (Cell.sl (15 : Nat) (0 : Nat) (rowF encRc RcT.nil []))), EqvD (V1.c Cell.emp) (V1.c (Cell.sl (15 : Nat) (0 : Nat) (rowF encRc RcT.nil []))), (0 : Nat) ≤ (140737488355328 : Nat), BlkEqv (Blk.row 84 (15 : Nat) (0 : Nat) (catF (0 : Nat) (fun (i j : Nat) => nthD [] (i * (15 : Nat) + j)) (rowF encRc RcT.nil []))) (Blk.row 84 (15 : Nat) (0 : Nat) (rowF encRc RcT.nil [])), (0 : Nat) ≤ (0 : Nat)] (by kernel_rfl) (by kernel_rfl) (by kernel_rfl) ⟨rfl, fun _ _ => trivial, (by assumption), (by omega), (by assumption), (show (0 : Nat) ≤ (0 : Nat) from (by omega))⟩ ?_
      refine Wp.ent' (by kernel_rfl) (Ent.pubT (t := 2) (e := 84) (sz := (15 : Nat)) (id := 80) (off := (0 : Nat)) (m := (0 : Nat)) (n := (0 : Nat)) (f := rowF encRc RcT.nil []) (m' := ([] : List UInt8).length) (f' := rowF encRc RcT.nil []) (by kernel_rfl) (by kernel_rfl) (by omega) rfl (fun i _ j _ => by rw [Nat.zero_add]) rfl) ?_
      refine Wp.ret' (by kernel_rfl) ?_
      exact FinQ.pure (rs' := [V1.c (Cell.sl (15 : Nat) ([] : List UInt8).length (rowF encRc RcT.nil []))]) (by kernel_rfl) rfl (by kernel_rfl)
  | cons a r =>
    refine Wp.go (mx := true) (fun _ => mixed) [(3, {bs := [(2, Blk.row 84 15 (0 + (a :: r).length) (rowF encRc .nil (a :: r)))]})] 100 [false] [false = false, ((0 : Nat) + (a :: r).length) * (176 : Nat) ≤ (140737488355328 : Nat), BlkEqv (Blk.row 84 (15 : Nat) ((0 : Nat) + (a :: r).length) (catF (0 : Nat) (fun (i j : Nat) => nthD [] (i * (15 : Nat) + j)) (rowF encRc RcT.nil (a :: r)))) (Blk.row 84 (15 : Nat) ((0 : Nat) + (a :: r).length) (rowF encRc RcT.nil (a :: r))), (0 : Nat) ≤ (0 : Nat)] (by kernel_rfl) (by kernel_rfl) (by kernel_rfl) ⟨rfl, (by omega), (by assumption), (show (0 : Nat) ≤ (0 : Nat) from (by omega))⟩ ?_
    refine Wp.ent' (by kernel_rfl) (Ent.pubT (t := 2) (e := 84) (sz := (15 : Nat)) (id := 80) (off := (0 : Nat)) (m := (0 : Nat) + (a :: r).length) (n := (0 : Nat) + (a :: r).length) (f := rowF encRc RcT.nil (a :: r)) (m' := (a :: r).length) (f' := rowF encRc RcT.nil (a :: r)) (by kernel_rfl) (by kernel_rfl) (by omega) (by omega) (fun i _ j _ => by rw [Nat.zero_add]) rfl) ?_
    refine Wp.ret' (by kernel_rfl) ?_
    exact FinQ.pure (rs' := [V1.c (Cell.sl (15 : Nat) (a :: r).length (rowF encRc RcT.nil (a :: r)))]) (by kernel_rfl) rfl (by kernel_rfl)
theorem idxP_ok (q : RcT) (l : List RcT) (hl : l.length ≤ 1000000) : FnB Tryz.prog G 223 [.box 84 (encRc q), rcB l] [.c (.row 15 1 0 l.length), .c (clo1 188 (.ptr 0 0))] [.c (.int .i64 (ixF (fun x => x.key == q.key) l))] [(0, .box 84 (encRc q)), (1, rcB l)] := by
  refine Fn.of' Tryz.func223 (by kernel_rfl) (by kernel_rfl) (by kernel_rfl) (by kernel_rfl) trivial ?_
  refine Wp.go (mx := true) (fun _ => mixed) [] 100 [] [] (by kernel_rfl) (by kernel_rfl) (by kernel_rfl) trivial ?_
  refine Wp.loopK (by kernel_rfl) (fun (k : Nat) => ⟨[(0, TV.v (V1.c (.row 15 1 0 l.length))), (1, TV.v (V1.c (clo1 188 (.ptr 0 0)))), (7, TV.v (V1.c (Cell.int .i64 (l.length : Int)))), (8, TV.v (V1.c (Cell.int .i64 (k : Int))))], [(0, .box 84 (encRc q)), (1, .row 84 15 l.length (rowF encRc .nil l))], 66⟩) (fun k => k ≤ l.length ∧ ∀ i, i < k → ((l.getD i .nil).key == q.key) = false) (fun k => l.length - k) 0 (Ent.of [] (by kernel_rfl) (by kernel_rfl) (by kernel_rfl) trivial) ⟨Nat.zero_le _, fun _ h => absurd h (Nat.not_lt_zero _)⟩ ?_
  intro k L ⟨hk, hall⟩ again
  rcases Nat.lt_or_ge k l.length with hlt | hge
  · have c := put1_ok (G := G) q (l.getD (0 + k) .nil)
    cases hq : ((l.getD k .nil).key == q.key) with
    | true =>
      rw [show ((l.getD (0 + k) .nil).key == q.key) = true from by rw [Nat.zero_add]; exact hq] at c
      rw [ixF_some (p := fun x => x.key == q.key) (d := RcT.nil) hlt hall hq]
      refine Wp.go (mx := true) (fun _ => mixed) [(4, {cs := [(5, cb [0] c)]})] 100 [true, true] [decide ((↑k : Int) < (↑l.length : Int)) = true, (0 : Int) ≤ (↑k : Int) ∧ (↑k : Int) < (↑l.length : Int), (0 : Nat) + k < l.length, true = true] (by kernel_rfl) (by kernel_rfl) (by kernel_rfl) ⟨(by simp; omega), (by omega), (by omega), rfl⟩ ?_
      refine Wp.ret' (by kernel_rfl) ?_
      exact FinQ.blk [] (by kernel_rfl) (by kernel_rfl) (by kernel_rfl) (by kernel_rfl) (by kernel_rfl) trivial
    | false =>
      rw [show ((l.getD (0 + k) .nil).key == q.key) = false from by rw [Nat.zero_add]; exact hq] at c
      have hall' : ∀ i, i < k + 1 → ((l.getD i .nil).key == q.key) = false := fun i hi => by
        rcases Nat.lt_or_ge i k with h | h
        · exact hall i h
        · rw [show i = k by omega]; exact hq
      clear hall hq
      refine Wp.go (mx := true) (fun _ => mixed) [(4, {cs := [(5, cb [0] c)]})] 100 [true, false] [decide ((↑k : Int) < (↑l.length : Int)) = true, (0 : Int) ≤ (↑k : Int) ∧ (↑k : Int) < (↑l.length : Int), (0 : Nat) + k < l.length, false = false, inR IntKind.i64 ((↑k : Int) + (1 : Int))] (by kernel_rfl) (by kernel_rfl) (by kernel_rfl) ⟨(by simp; omega), (by omega), (by omega), rfl, inR64 (by omega) (by omega)⟩ ?_
      exact Wp.lpK (by kernel_rfl) (again _ (k + 1) ⟨(by assumption), (by assumption)⟩ (by omega) (Ent.of [] (by kernel_rfl) (by kernel_rfl) (by kernel_rfl) trivial))
  · rw [ixF_none (p := fun x => x.key == q.key) (d := RcT.nil) (fun i hi => hall i (by omega))]
    refine Wp.go (mx := true) (fun _ => mixed) [] 100 [false] [decide ((↑k : Int) < (↑l.length : Int)) = false] (by kernel_rfl) (by kernel_rfl) (by kernel_rfl) (show decide ((↑k : Int) < (↑l.length : Int)) = false from (by simp; omega)) ?_
    refine Wp.ret' (by kernel_rfl) ?_
    exact FinQ.blk [] (by kernel_rfl) (by kernel_rfl) (by kernel_rfl) (by kernel_rfl) (by kernel_rfl) trivial
theorem conP_ok (q : RcT) (l : List RcT) (hl : l.length ≤ 1000000) : FnB Tryz.prog G 187 [.box 84 (encRc q), rcB l] [.c (.row 15 1 0 l.length), .c (clo1 188 (.ptr 0 0))] [.c (.bool (l.any fun x => x.key == q.key))] [(0, .box 84 (encRc q)), (1, rcB l)] := by
  refine Fn.of' Tryz.func187 (by kernel_rfl) (by kernel_rfl) (by kernel_rfl) (by kernel_rfl) trivial ?_
  have hx := ixF_any (fun x : RcT => x.key == q.key) l
  have c := idxP_ok (G := G) q l hl
  rw [← hx]
  refine Wp.go (mx := true) (fun _ => mixed) [(1, {cs := [(2, cb [0, 1] c)]})] 100 [] [] (by kernel_rfl) (by kernel_rfl) (by kernel_rfl) trivial ?_
  refine Wp.ret' (by kernel_rfl) ?_
  exact FinQ.blk [] (by kernel_rfl) (by kernel_rfl) (by kernel_rfl) (by kernel_rfl) (by kernel_rfl) trivial
theorem storePut_ok (l : List RcT) (now : Int) (r : RcT) (hl : l.length ≤ 100000) : Pur Tryz.prog G 143 [.c (rcS l), .c (.int .i64 now), .agg (encRc r)] [.c (rcS (putS l now r).1), .c (.int .i64 (putS l now r).2)] := by
  refine Pur.of Tryz.func143 (by kernel_rfl) (by kernel_rfl) (by kernel_rfl) ?_
  have hll := live_len now l
  have c1 := live_ok (G := G) l now (by omega)
  have c1r := liveR_ok (G := G) l now (by omega)
  have c2 := most_ok (G := G) r.kind
  have c3 := conP_ok (G := G) r (liveT now l) (by omega)
  have c4 := room_ok (G := G) (liveT now l) now r.kind (by omega)
  have c5 := clone_ok (G := G) l (by omega)
  rw [room_live] at c4
  unfold putS
  by_cases h1 : mostT r.kind = 0
  · rw [if_pos h1]
    rw [h1] at c2
    refine Wp.go (mx := true) (fun _ => mixed) [(1, {cs := [(2, cb [] c1r)]}), (2, {cs := [(2, pc c2)]}), (3, {cs := [(1, pc c5)]})] 100 [true] [((0 : Int) == (0 : Int)) = true] (by kernel_rfl) (by kernel_rfl) (by kernel_rfl) rfl ?_
    refine Wp.ret' (by kernel_rfl) ?_
    exact FinQ.pure (rs' := [V1.c (Cell.sl (15 : Nat) l.length (rowF encRc RcT.nil l)), V1.c (Cell.int .i64 (2 : Int))]) (by kernel_rfl) rfl (by kernel_rfl)
  · rw [if_neg h1]
    have t1 : (mostT r.kind == 0) = false := by simp [h1]
    cases h2 : (liveT now l).any (fun x => x.key == r.key) with
    | true =>
      rw [h2] at c3
      rw [if_pos rfl]
      clear h2
      refine Wp.go (mx := true) (fun _ => mixed) [(4, {cs := [(2, cb [0, 80] c3)], fm := [(1, .c (clo1 188 (.ptr 0 0)))]}), (1, {cs := [(2, cb [] c1r)]}), (2, {cs := [(2, pc c2)]}), (5, {cs := [(1, pc c5)]})] 100 [false, true] [(mostT r.kind == (0 : Int)) = false, EqvI (V1.c (cloRaw 188 [V1.c (Cell.ptr 0 (0 : Nat))])) (V1.c (clo1 188 (Cell.ptr (0 : Nat) (0 : Nat)))), EqvD (V1.c (cloRaw 188 [V1.c (Cell.ptr 0 (0 : Nat))])) (V1.c (clo1 188 (Cell.ptr (0 : Nat) (0 : Nat)))), true = true] (by kernel_rfl) (by kernel_rfl) (by kernel_rfl) ⟨(by assumption), clo1_I _ _, clo1_D _ _, rfl⟩ ?_
      refine Wp.ret' (by kernel_rfl) ?_
      exact FinQ.pure (rs' := [V1.c (Cell.sl (15 : Nat) l.length (rowF encRc RcT.nil l)), V1.c (Cell.int .i64 (6 : Int))]) (by kernel_rfl) rfl (by kernel_rfl)
    | false =>
      rw [h2] at c3
      rw [if_neg (by simp)]
      clear h2
      by_cases h3 : roomK l now r.kind = 0
      · rw [if_pos h3]
        rw [h3] at c4
        refine Wp.go (mx := true) (fun _ => mixed) [(4, {cs := [(2, cb [0, 80] c3)], fm := [(1, .c (clo1 188 (.ptr 0 0)))]}), (1, {cs := [(2, cb [] c1r)]}), (2, {cs := [(2, pc c2)]}), (6, {cs := [(4, lc [80] [Blk.row 84 (15 : Nat) (liveT now l).length (rowF encRc RcT.nil (liveT now l))] [V1.c (Cell.row (15 : Nat) (0 : Nat) (0 : Nat) (liveT now l).length), V1.c (Cell.int .i64 now), V1.c (Cell.int .i64 r.kind)] c4 (by kernel_rfl) (by kernel_rfl) (by kernel_rfl) (show (0 : Nat) + (liveT now l).length ≤ (liveT now l).length from (by omega)))]}), (7, {cs := [(1, pc c5)]})] 100 [false, false, true] [(mostT r.kind == (0 : Int)) = false, EqvI (V1.c (cloRaw 188 [V1.c (Cell.ptr 0 (0 : Nat))])) (V1.c (clo1 188 (Cell.ptr (0 : Nat) (0 : Nat)))), EqvD (V1.c (cloRaw 188 [V1.c (Cell.ptr 0 (0 : Nat))])) (V1.c (clo1 188 (Cell.ptr (0 : Nat) (0 : Nat)))), false = false, ((0 : Int) == (0 : Int)) = true] (by kernel_rfl) (by kernel_rfl) (by kernel_rfl) ⟨(by assumption), clo1_I _ _, clo1_D _ _, rfl, rfl⟩ ?_
        refine Wp.ret' (by kernel_rfl) ?_
        exact FinQ.pure (rs' := [V1.c (Cell.sl (15 : Nat) l.length (rowF encRc RcT.nil l)), V1.c (Cell.int .i64 (16 : Int))]) (by kernel_rfl) rfl (by kernel_rfl)
      · rw [if_neg h3]
        have t3 : (roomK l now r.kind == 0) = false := by simp [h3]
        generalize liveT now l = v at *
        have e1 : BlkEqv (.row 84 15 (v.length + 1) (catF v.length (rowF encRc .nil v) (fun i j => nthD (encRc r) ((0 + i) * 15 + j)))) (.row 84 15 (v.length + 1) (rowF encRc .nil (v ++ [r]))) := enc_app v r rfl
        refine Wp.go (mx := true) (fun _ => mixed) [(4, {cs := [(2, cb [0, 80] c3)], fm := [(1, .c (clo1 188 (.ptr 0 0)))]}), (8, {bs := [(3, Blk.row 84 15 (v.length + 1) (rowF encRc .nil (v ++ [r])))]}), (1, {cs := [(2, cb [] c1r)]}), (2, {cs := [(2, pc c2)]}), (6, {cs := [(4, lc [80] [Blk.row 84 (15 : Nat) v.length (rowF encRc RcT.nil v)] [V1.c (Cell.row (15 : Nat) (0 : Nat) (0 : Nat) v.length), V1.c (Cell.int .i64 now), V1.c (Cell.int .i64 r.kind)] c4 (by kernel_rfl) (by kernel_rfl) (by kernel_rfl) (show (0 : Nat) + v.length ≤ v.length from (by omega)))]})] 100 [false, false, false] [(mostT r.kind == (0 : Int)) = false, EqvI (V1.c (cloRaw 188 [V1.c (Cell.ptr 0 (0 : Nat))])) (V1.c (clo1 188 (Cell.ptr (0 : Nat) (0 : Nat)))), EqvD (V1.c (cloRaw 188 [V1.c (Cell.ptr 0 (0 : Nat))])) (V1.c (clo1 188 (Cell.ptr (0 : Nat) (0 : Nat)))), false = false, (roomK l now r.kind == (0 : Int)) = false, (v.length + (1 : Nat)) * (176 : Nat) ≤ (140737488355328 : Nat), BlkEqv (Blk.row 84 (15 : Nat) (v.length + (1 : Nat)) (catF v.length (rowF encRc RcT.nil v) fun (i j : Nat) => nthD [Cell.int .i64 r.kind, Cell.int .i64 r.key, Cell.int .i64 r.til, Cell.bool r.used, Cell.int .i64 r.client, Cell.int .i64 r.user, Cell.int .i64 r.sess, Cell.int .i64 r.fam, Cell.str r.w.ty, Cell.str r.w.redir, Cell.str r.w.scope, Cell.str r.w.state, Cell.str r.w.nonce, Cell.str r.w.chal, Cell.str r.w.meth] (((0 : Nat) + i) * (15 : Nat) + j))) (Blk.row 84 (15 : Nat) (v.length + (1 : Nat)) (rowF encRc RcT.nil (v ++ [r]))), v.length ≤ v.length, (0 : Nat) + (1 : Nat) ≤ (1 : Nat)] (by kernel_rfl) (by kernel_rfl) (by kernel_rfl) ⟨(by assumption), clo1_I _ _, clo1_D _ _, rfl, (by assumption), (by omega), (by assumption), (by omega), (show (0 : Nat) + (1 : Nat) ≤ (1 : Nat) from (by omega))⟩ ?_
        refine Wp.ent' (by kernel_rfl) (Ent.pubT (t := 6) (e := 84) (sz := (15 : Nat)) (id := 416) (off := (0 : Nat)) (m := v.length + (1 : Nat)) (n := v.length + (1 : Nat)) (f := rowF encRc RcT.nil (v ++ [r])) (m' := (v ++ [r]).length) (f' := fun (i j : Nat) => nthD [Cell.int .i64 ((v ++ [r]).getD i RcT.nil).kind, Cell.int .i64 ((v ++ [r]).getD i RcT.nil).key, Cell.int .i64 ((v ++ [r]).getD i RcT.nil).til, Cell.bool ((v ++ [r]).getD i RcT.nil).used, Cell.int .i64 ((v ++ [r]).getD i RcT.nil).client, Cell.int .i64 ((v ++ [r]).getD i RcT.nil).user, Cell.int .i64 ((v ++ [r]).getD i RcT.nil).sess, Cell.int .i64 ((v ++ [r]).getD i RcT.nil).fam, Cell.str ((v ++ [r]).getD i RcT.nil).w.ty, Cell.str ((v ++ [r]).getD i RcT.nil).w.redir, Cell.str ((v ++ [r]).getD i RcT.nil).w.scope, Cell.str ((v ++ [r]).getD i RcT.nil).w.state, Cell.str ((v ++ [r]).getD i RcT.nil).w.nonce, Cell.str ((v ++ [r]).getD i RcT.nil).w.chal, Cell.str ((v ++ [r]).getD i RcT.nil).w.meth] j) (by kernel_rfl) (by kernel_rfl) (by omega) (by simp) (fun i _ j _ => by rw [Nat.zero_add]; rfl) rfl) ?_
        refine Wp.ret' (by kernel_rfl) ?_
        exact FinQ.pure (rs' := [V1.c (Cell.sl (15 : Nat) (v ++ [r]).length fun (i j : Nat) => nthD [Cell.int .i64 ((v ++ [r]).getD i RcT.nil).kind, Cell.int .i64 ((v ++ [r]).getD i RcT.nil).key, Cell.int .i64 ((v ++ [r]).getD i RcT.nil).til, Cell.bool ((v ++ [r]).getD i RcT.nil).used, Cell.int .i64 ((v ++ [r]).getD i RcT.nil).client, Cell.int .i64 ((v ++ [r]).getD i RcT.nil).user, Cell.int .i64 ((v ++ [r]).getD i RcT.nil).sess, Cell.int .i64 ((v ++ [r]).getD i RcT.nil).fam, Cell.str ((v ++ [r]).getD i RcT.nil).w.ty, Cell.str ((v ++ [r]).getD i RcT.nil).w.redir, Cell.str ((v ++ [r]).getD i RcT.nil).w.scope, Cell.str ((v ++ [r]).getD i RcT.nil).w.state, Cell.str ((v ++ [r]).getD i RcT.nil).w.nonce, Cell.str ((v ++ [r]).getD i RcT.nil).w.chal, Cell.str ((v ++ [r]).getD i RcT.nil).w.meth] j), V1.c (Cell.int .i64 (0 : Int))]) (by kernel_rfl) rfl (by kernel_rfl)
end Go.Proofs.Tw
end

section
open Go Go.Sv
namespace Go.Proofs.Tw
attribute [local irreducible] Wp FinQ resV Ent Pur Go.Sv.Fn Sat0
set_option maxRecDepth 100000
set_option maxHeartbeats 4000000
variable {G : Nat → Option (List Cell)}

def sepsS : List (List UInt8) := [[32], [32], [32], [32, 32], [9]]
def wrdsS : List (List UInt8) := [[111, 112, 101, 110, 105, 100], [112, 114, 111, 102, 105, 108, 101], [97], [98], [99], [126], [], [34]]
def heads : List (List UInt8) := [[111, 112, 101, 110, 105, 100], [112, 114, 111, 102, 105, 108, 101], [97], [98]]
/-- So many words more behind a text, of numbers: the text, and how far the numbers were read. -/
def scMore (ns : List Int) : Nat → Nat → List UInt8 → List UInt8 × Nat
  | 0, a, s => (s, a)
  | k + 1, a, s => scMore ns k (nextA ns (nextA ns a 5) 8) (s ++ pickT sepsS ns a ++ pickT wrdsS ns (nextA ns a 5))
def scopT (ns : List Int) (a : Nat) : List UInt8 × Nat := scMore ns (nextV ns (nextA ns a 4) 4).toNat (nextA ns (nextA ns a 4) 4) (pickT heads ns a)
def redW : List (List UInt8) := [[104, 116, 116, 112, 115, 58, 47, 47, 99, 49, 47, 116, 119, 111], [104, 116, 116, 112, 115, 58, 47, 47, 97, 116, 47, 99, 98], [], [104, 116, 116, 112, 115, 58, 47, 47, 99, 49, 47, 99, 98, 47]]
def wantT (ns : List Int) (a : Nat) (n : Int) : WT × Nat :=
  let w : WT := { rightT n with chal := chalT (30 + withT (nextV ns a 3) 3) }
  let a1 := nextA ns a 3
  let q := nextV ns a1 16
  let a2 := nextA ns a1 16
  if q = 0 then ({ w with ty := pickT [[116, 111, 107, 101, 110], [], [67, 111, 100, 101]] ns a2 }, nextA ns a2 3)
  else if q = 1 then ({ w with redir := pickT redW ns a2 }, nextA ns a2 4)
  else if q = 2 then ({ w with scope := (scopT ns a2).1 }, (scopT ns a2).2)
  else if q = 3 then ({ w with state := pickT [[], [97, 32, 98], [0], [126]] ns a2 }, nextA ns a2 4)
  else if q = 4 then ({ w with nonce := pickT [[], [97, 32, 98], [126]] ns a2 }, nextA ns a2 3)
  else if q = 5 then ({ w with chal := pickT [[], [120], keyT 3] ns a2 }, nextA ns a2 3)
  else if q = 6 then ({ w with meth := pickT [[112, 108, 97, 105, 110], [], [115, 50, 53, 54]] ns a2 }, nextA ns a2 3)
  else if q = 7 then ({ w with scope := [97, 32, 111, 112, 101, 110, 105, 100], nonce := keyT 9 }, a2)
  else (w, a2)
theorem pickT_le (B : Nat) (ss : List (List UInt8)) (h : ss.all (fun x => decide (x.length ≤ B)) = true) (ns : List Int) (a : Nat) : (pickT ss ns a).length ≤ B := by
  unfold pickT
  rw [List.getD_eq_getElem?_getD]
  cases hg : ss[(nextV ns a ss.length).toNat]? with
  | none => simp
  | some x => exact of_decide_eq_true (List.all_eq_true.1 h x (List.mem_of_getElem? hg))
theorem scope_ok (ns : List Int) (a : Nat) (hl : ns.length ≤ 9223372036854775807) : FnB Tryz.prog G 78 [tapeB ns a] [.c (.ptr 0 0)] [.c (.str (scopT ns a).1)] [(0, tapeB ns (scopT ns a).2)] := by
  refine Fn.of' Tryz.func78 (by kernel_rfl) (by kernel_rfl) (by kernel_rfl) (by kernel_rfl) trivial ?_
  have c1 : FnB Tryz.prog G 50 [tapeB ns a] [.c (.ptr 0 0), .c (.sl 1 4 (strsF heads))] [.c (.str (pickT heads ns a))] [(0, tapeB ns (nextA ns a 4))] := pick_ok (G := G) heads ns a hl (by decide)
  have c2 := next_ok (G := G) ns (nextA ns a 4) 4 hl (by decide)
  have hr := nextV_rng ns (nextA ns a 4) 4 (by decide)
  have hs := pickT_le 7 heads (by kernel_rfl) ns a
  unfold scopT
  generalize pickT heads ns a = s0 at c1 hs ⊢
  generalize nextA ns (nextA ns a 4) 4 = a0 at c2 ⊢
  generalize nextV ns (nextA ns a 4) 4 = v at c2 hr ⊢
  obtain ⟨k0, rfl⟩ : ∃ k : Nat, v = (k : Int) := ⟨v.toNat, by omega⟩
  rw [Int.toNat_natCast]
  refine Wp.go (mx := true) (fun _ => mixed) [(1, {fm := [(1, .c (.sl 1 4 (strsF heads)))], cs := [(2, cb [0] c1)]}), (2, {cs := [(1, cb [0] c2)]})] 100 [] [EqvI (.c (.sl 1 4 (fun i j => nthD (heads.map Cell.str) (i * 1 + j)))) (.c (.sl 1 4 (strsF heads))), EqvD (.c (.sl 1 4 (fun i j => nthD (heads.map Cell.str) (i * 1 + j)))) (.c (.sl 1 4 (strsF heads)))] (by kernel_rfl) (by kernel_rfl) (by kernel_rfl) ⟨fun _ _ => trivial, lit_D (by kernel_rfl)⟩ ?_
  refine Wp.loopK (by kernel_rfl) (fun (x : Nat × Nat × List UInt8) => ⟨[(0, .v (.c (.ptr 0 0))), (3, .v (.c (.str x.2.2))), (4, .v (.c (.int .i64 (x.1 : Int))))], [(0, tapeB ns x.2.1)], 129⟩) (fun x => x.1 ≤ 3 ∧ scMore ns k0 a0 s0 = scMore ns x.1 x.2.1 x.2.2 ∧ x.2.2.length + 9 * x.1 ≤ 40) (fun x => x.1) (k0, a0, s0) (Ent.of [] (by kernel_rfl) (by kernel_rfl) (by kernel_rfl) trivial) ⟨by omega, rfl, by show s0.length + 9 * k0 ≤ 40; omega⟩ ?_
  rintro ⟨k, a, s⟩ L ⟨hk, hq, hm⟩ again
  simp only at hk hq hm
  cases k with
  | zero =>
    rw [hq]
    simp only [scMore]
    refine Wp.go (mx := true) (fun _ => mixed) [] 100 [false] [decide ((↑(0 : Nat) : Int) > (0 : Int)) = false] (by kernel_rfl) (by kernel_rfl) (by kernel_rfl) rfl ?_
    refine Wp.ret' (by kernel_rfl) ?_
    exact FinQ.blk [] (by kernel_rfl) (by kernel_rfl) (by kernel_rfl) (by kernel_rfl) (by kernel_rfl) trivial
  | succ k =>
    have c3 : FnB Tryz.prog G 50 [tapeB ns a] [.c (.ptr 0 0), .c (.sl 1 5 (strsF sepsS))] [.c (.str (pickT sepsS ns a))] [(0, tapeB ns (nextA ns a 5))] := pick_ok (G := G) sepsS ns a hl (by decide)
    have c4 : FnB Tryz.prog G 50 [tapeB ns (nextA ns a 5)] [.c (.ptr 0 0), .c (.sl 1 8 (strsF wrdsS))] [.c (.str (pickT wrdsS ns (nextA ns a 5)))] [(0, tapeB ns (nextA ns (nextA ns a 5) 8))] := pick_ok (G := G) wrdsS ns (nextA ns a 5) hl (by decide)
    have p1 := pickT_le 2 sepsS (by kernel_rfl) ns a
    have p2 := pickT_le 7 wrdsS (by kernel_rfl) ns (nextA ns a 5)
    rw [scMore] at hq
    generalize pickT sepsS ns a = u at *
    generalize pickT wrdsS ns (nextA ns a 5) = v at *
    generalize nextA ns (nextA ns a 5) 8 = a2 at *
    generalize nextA ns a 5 = a1 at *
    have hm2 : (s ++ u ++ v).length + 9 * k ≤ 40 := by simp only [List.length_append]; omega
    have hk2 : k ≤ 3 := by omega
    have e1 : EqvD (.c (.int .i64 (((k + 1 : Nat) : Int) - 1))) (.c (.int .i64 (k : Int))) := eqvD_of (by rw [show ((k + 1 : Nat) : Int) - 1 = (k : Int) by omega])
    have t1 : decide (((k + 1 : Nat) : Int) > 0) = true := decide_eq_true (by omega)
    refine Wp.go (mx := true) (fun _ => mixed) [(5, {cs := [(3, cb [0] c3), (7, cb [0] c4)], fm := [(2, .c (.sl 1 5 (strsF sepsS))), (6, .c (.sl 1 8 (strsF wrdsS)))]}), (4, {fm := [(1, .c (.int .i64 (k : Int)))]})] 100 [true] [decide ((↑(k + (1 : Nat)) : Int) > (0 : Int)) = true, EqvI (V1.c (Cell.sl (1 : Nat) (5 : Nat) fun (i j : Nat) => nthD [Cell.str [(32 : UInt8)], Cell.str [(32 : UInt8)], Cell.str [(32 : UInt8)], Cell.str [(32 : UInt8), 32], Cell.str [(9 : UInt8)]] (i * (1 : Nat) + j))) (V1.c (Cell.sl (1 : Nat) (5 : Nat) (strsF sepsS))), EqvD (V1.c (Cell.sl (1 : Nat) (5 : Nat) fun (i j : Nat) => nthD [Cell.str [(32 : UInt8)], Cell.str [(32 : UInt8)], Cell.str [(32 : UInt8)], Cell.str [(32 : UInt8), 32], Cell.str [(9 : UInt8)]] (i * (1 : Nat) + j))) (V1.c (Cell.sl (1 : Nat) (5 : Nat) (strsF sepsS))), s.length + u.length ≤ (9223372036854775807 : Nat), EqvI (V1.c (Cell.sl (1 : Nat) (8 : Nat) fun (i j : Nat) => nthD [Cell.str [(111 : UInt8), 112, 101, 110, 105, 100], Cell.str [(112 : UInt8), 114, 111, 102, 105, 108, 101], Cell.str [(97 : UInt8)], Cell.str [(98 : UInt8)], Cell.str [(99 : UInt8)], Cell.str [(126 : UInt8)], Cell.str [], Cell.str [(34 : UInt8)]] (i * (1 : Nat) + j))) (V1.c (Cell.sl (1 : Nat) (8 : Nat) (strsF wrdsS))), EqvD (V1.c (Cell.sl (1 : Nat) (8 : Nat) fun (i j : Nat) => nthD [Cell.str [(111 : UInt8), 112, 101, 110, 105, 100], Cell.str [(112 : UInt8), 114, 111, 102, 105, 108, 101], Cell.str [(97 : UInt8)], Cell.str [(98 : UInt8)], Cell.str [(99 : UInt8)], Cell.str [(126 : UInt8)], Cell.str [], Cell.str [(34 : UInt8)]] (i * (1 : Nat) + j))) (V1.c (Cell.sl (1 : Nat) (8 : Nat) (strsF wrdsS))), (s ++ u).length + v.length ≤ (9223372036854775807 : Nat), EqvI (V1.c (Cell.int .i64 ((↑(k + (1 : Nat)) : Int) - (1 : Int)))) (V1.c (Cell.int .i64 (↑k : Int))), EqvD (V1.c (Cell.int .i64 ((↑(k + (1 : Nat)) : Int) - (1 : Int)))) (V1.c (Cell.int .i64 (↑k : Int))), inR IntKind.i64 ((↑(k + (1 : Nat)) : Int) - (1 : Int))] (by kernel_rfl) (by kernel_rfl) (by kernel_rfl) ⟨(by assumption), fun _ _ => trivial, lit_D (by kernel_rfl), (by omega), fun _ _ => trivial, lit_D (by kernel_rfl), (by simp; omega), fun _ _ => trivial, (by assumption), inR64 (by omega) (by omega)⟩ ?_
    exact Wp.lpK (by kernel_rfl) (again _ (k, a2, s ++ u ++ v) ⟨(by assumption), ⟨(by assumption), (by assumption)⟩⟩ (by omega) (Ent.of [] (by kernel_rfl) (by kernel_rfl) (by kernel_rfl) trivial))
theorem want_ok (ns : List Int) (a : Nat) (n : Int) (h0 : 0 ≤ n) (h1 : n ≤ 1000) (hl : ns.length ≤ 9223372036854775807) : FnB Tryz.prog G 38 [tapeB ns a] [.c (.ptr 0 0), .c (.int .i64 n)] [.agg (encW (wantT ns a n).1)] [(0, tapeB ns (wantT ns a n).2)] := by
  refine Fn.of' Tryz.func38 (by kernel_rfl) (by kernel_rfl) (by kernel_rfl) (by kernel_rfl) trivial ?_
  have c1 := right_ok (G := G) n h0 (by omega)
  have c2 := next_ok (G := G) ns a 3 hl (by decide)
  have c3 := ver_ok (G := G) (nextV ns a 3)
  have hv := with3 (nextV ns a 3)
  have c4 := chal_ok (G := G) (verT (nextV ns a 3)) (k := 30 + withT (nextV ns a 3) 3) (by show (keyT (30 + withT (nextV ns a 3) 3)).length ≤ 30000000000000; rw [key_len]; decide) (readVer _) (by omega) (by omega)
  have c5 := next_ok (G := G) ns (nextA ns a 3) 16 hl (by decide)
  have hq := nextV_rng ns (nextA ns a 3) 16 (by decide)
  have pk := fun ss b h => pick_ok (G := G) ss ns b hl h
  unfold wantT
  simp only []
  generalize hw : ({ rightT n with chal := chalT (30 + withT (nextV ns a 3) 3) } : WT) = w0
  generalize rightT n = r0 at c1 hw
  generalize chalT (30 + withT (nextV ns a 3) 3) = ch at c4 hw
  generalize verT (nextV ns a 3) = ve at c3 c4
  generalize nextA ns (nextA ns a 3) 16 = a2 at c5 ⊢
  generalize nextV ns (nextA ns a 3) 16 = q at c5 hq ⊢
  subst hw
  by_cases q0 : q = 0
  · subst q0
    rw [if_pos rfl]
    have c6 : FnB Tryz.prog G 50 [tapeB ns a2] [.c (.ptr 0 0), .c (.sl 1 3 (strsF [[116, 111, 107, 101, 110], [], [67, 111, 100, 101]]))] [.c (.str (pickT [[116, 111, 107, 101, 110], [], [67, 111, 100, 101]] ns a2))] [(0, tapeB ns (nextA ns a2 3))] := pk [[116, 111, 107, 101, 110], [], [67, 111, 100, 101]] a2 (by decide)
    refine Wp.go (mx := true) (fun _ => mixed) [(6, {cs := [(2, cb [0] c6)], fm := [(1, .c (.sl 1 3 (strsF [[116, 111, 107, 101, 110], [], [67, 111, 100, 101]])))]}), (1, {cs := [(1, pc c1)]}), (2, {cs := [(1, cb [0] c2), (2, pc c3), (3, pc c4)]}), (4, {cs := [(1, cb [0] c5)]})] 100 [true] [((0 : Int) == (0 : Int)) = true, EqvI (V1.c (Cell.sl (1 : Nat) (3 : Nat) fun (i j : Nat) => nthD [Cell.str [(116 : UInt8), 111, 107, 101, 110], Cell.str [], Cell.str [(67 : UInt8), 111, 100, 101]] (i * (1 : Nat) + j))) (V1.c (Cell.sl (1 : Nat) (3 : Nat) (strsF [[(116 : UInt8), 111, 107, 101, 110], [], [(67 : UInt8), 111, 100, 101]]))), EqvD (V1.c (Cell.sl (1 : Nat) (3 : Nat) fun (i j : Nat) => nthD [Cell.str [(116 : UInt8), 111, 107, 101, 110], Cell.str [], Cell.str [(67 : UInt8), 111, 100, 101]] (i * (1 : Nat) + j))) (V1.c (Cell.sl (1 : Nat) (3 : Nat) (strsF [[(116 : UInt8), 111, 107, 101, 110], [], [(67 : UInt8), 111, 100, 101]])))] (by kernel_rfl) (by kernel_rfl) (by kernel_rfl) ⟨rfl, fun _ _ => trivial, lit_D (by kernel_rfl)⟩ ?_
    refine Wp.ret' (by kernel_rfl) ?_
    exact FinQ.blk [] (by kernel_rfl) (by kernel_rfl) (by kernel_rfl) (by kernel_rfl) (by kernel_rfl) trivial
  rw [if_neg q0]
  by_cases q1 : q = 1
  · subst q1
    rw [if_pos rfl]
    have c6 : FnB Tryz.prog G 50 [tapeB ns a2] [.c (.ptr 0 0), .c (.sl 1 4 (strsF redW))] [.c (.str (pickT redW ns a2))] [(0, tapeB ns (nextA ns a2 4))] := pk redW a2 (by decide)
    refine Wp.go (mx := true) (fun _ => mixed) [(8, {cs := [(2, cb [0] c6)], fm := [(1, .c (.sl 1 4 (strsF redW)))]}), (1, {cs := [(1, pc c1)]}), (2, {cs := [(1, cb [0] c2), (2, pc c3), (3, pc c4)]}), (4, {cs := [(1, cb [0] c5)]})] 100 [false, true] [((1 : Int) == (0 : Int)) = false, ((1 : Int) == (1 : Int)) = true, EqvI (V1.c (Cell.sl (1 : Nat) (4 : Nat) fun (i j : Nat) => nthD [Cell.str [(104 : UInt8), 116, 116, 112, 115, 58, 47, 47, 99, 49, 47, 116, 119, 111], Cell.str [(104 : UInt8), 116, 116, 112, 115, 58, 47, 47, 97, 116, 47, 99, 98], Cell.str [], Cell.str [(104 : UInt8), 116, 116, 112, 115, 58, 47, 47, 99, 49, 47, 99, 98, 47]] (i * (1 : Nat) + j))) (V1.c (Cell.sl (1 : Nat) (4 : Nat) (strsF redW))), EqvD (V1.c (Cell.sl (1 : Nat) (4 : Nat) fun (i j : Nat) => nthD [Cell.str [(104 : UInt8), 116, 116, 112, 115, 58, 47, 47, 99, 49, 47, 116, 119, 111], Cell.str [(104 : UInt8), 116, 116, 112, 115, 58, 47, 47, 97, 116, 47, 99, 98], Cell.str [], Cell.str [(104 : UInt8), 116, 116, 112, 115, 58, 47, 47, 99, 49, 47, 99, 98, 47]] (i * (1 : Nat) + j))) (V1.c (Cell.sl (1 : Nat) (4 : Nat) (strsF redW)))] (by kernel_rfl) (by kernel_rfl) (by kernel_rfl) ⟨rfl, rfl, fun _ _ => trivial, lit_D (by kernel_rfl)⟩ ?_
    refine Wp.ret' (by kernel_rfl) ?_
    exact FinQ.blk [] (by kernel_rfl) (by kernel_rfl) (by kernel_rfl) (by kernel_rfl) (by kernel_rfl) trivial
  rw [if_neg q1]
  by_cases q2 : q = 2
  · subst q2
    rw [if_pos rfl]
    have c6 := scope_ok (G := G) ns a2 hl
    refine Wp.go (mx := true) (fun _ => mixed) [(1, {cs := [(1, pc c1)]}), (2, {cs := [(1, cb [0] c2), (2, pc c3), (3, pc c4)]}), (4, {cs := [(1, cb [0] c5)]}), (10, {cs := [(1, cb [0] c6)]})] 100 [false, false, true] [((2 : Int) == (0 : Int)) = false, ((2 : Int) == (1 : Int)) = false, ((2 : Int) == (2 : Int)) = true] (by kernel_rfl) (by kernel_rfl) (by kernel_rfl) ⟨rfl, rfl, rfl⟩ ?_
    refine Wp.ret' (by kernel_rfl) ?_
    exact FinQ.blk [] (by kernel_rfl) (by kernel_rfl) (by kernel_rfl) (by kernel_rfl) (by kernel_rfl) trivial
  rw [if_neg q2]
  by_cases q3 : q = 3
  · subst q3
    rw [if_pos rfl]
    have c6 : FnB Tryz.prog G 50 [tapeB ns a2] [.c (.ptr 0 0), .c (.sl 1 4 (strsF [[], [97, 32, 98], [0], [126]]))] [.c (.str (pickT [[], [97, 32, 98], [0], [126]] ns a2))] [(0, tapeB ns (nextA ns a2 4))] := pk [[], [97, 32, 98], [0], [126]] a2 (by decide)
    refine Wp.go (mx := true) (fun _ => mixed) [(12, {cs := [(2, cb [0] c6)], fm := [(1, .c (.sl 1 4 (strsF [[], [97, 32, 98], [0], [126]])))]}), (1, {cs := [(1, pc c1)]}), (2, {cs := [(1, cb [0] c2), (2, pc c3), (3, pc c4)]}), (4, {cs := [(1, cb [0] c5)]})] 100 [false, false, false, true] [((3 : Int) == (0 : Int)) = false, ((3 : Int) == (1 : Int)) = false, ((3 : Int) == (2 : Int)) = false, ((3 : Int) == (3 : Int)) = true, EqvI (V1.c (Cell.sl (1 : Nat) (4 : Nat) fun (i j : Nat) => nthD [Cell.str [], Cell.str [(97 : UInt8), 32, 98], Cell.str [(0 : UInt8)], Cell.str [(126 : UInt8)]] (i * (1 : Nat) + j))) (V1.c (Cell.sl (1 : Nat) (4 : Nat) (strsF [[], [(97 : UInt8), 32, 98], [(0 : UInt8)], [(126 : UInt8)]]))), EqvD (V1.c (Cell.sl (1 : Nat) (4 : Nat) fun (i j : Nat) => nthD [Cell.str [], Cell.str [(97 : UInt8), 32, 98], Cell.str [(0 : UInt8)], Cell.str [(126 : UInt8)]] (i * (1 : Nat) + j))) (V1.c (Cell.sl (1 : Nat) (4 : Nat) (strsF [[], [(97 : UInt8), 32, 98], [(0 : UInt8)], [(126 : UInt8)]])))] (by kernel_rfl) (by kernel_rfl) (by kernel_rfl) ⟨rfl, rfl, rfl, rfl, fun _ _ => trivial, lit_D (by kernel_rfl)⟩ ?_
    refine Wp.ret' (by kernel_rfl) ?_
    exact FinQ.blk [] (by kernel_rfl) (by kernel_rfl) (by kernel_rfl) (by kernel_rfl) (by kernel_rfl) trivial
  rw [if_neg q3]
  by_cases q4 : q = 4
  · subst q4
    rw [if_pos rfl]
    have c6 : FnB Tryz.prog G 50 [tapeB ns a2] [.c (.ptr 0 0), .c (.sl 1 3 (strsF [[], [97, 32, 98], [126]]))] [.c (.str (pickT [[], [97, 32, 98], [126]] ns a2))] [(0, tapeB ns (nextA ns a2 3))] := pk [[], [97, 32, 98], [126]] a2 (by decide)
    refine Wp.go (mx := true) (fun _ => mixed) [(14, {cs := [(2, cb [0] c6)], fm := [(1, .c (.sl 1 3 (strsF [[], [97, 32, 98], [126]])))]}), (1, {cs := [(1, pc c1)]}), (2, {cs := [(1, cb [0] c2), (2, pc c3), (3, pc c4)]}), (4, {cs := [(1, cb [0] c5)]})] 100 [false, false, false, false, true] [((4 : Int) == (0 : Int)) = false, ((4 : Int) == (1 : Int)) = false, ((4 : Int) == (2 : Int)) = false, ((4 : Int) == (3 : Int)) = false, ((4 : Int) == (4 : Int)) = true, EqvI (V1.c (Cell.sl (1 : Nat) (3 : Nat) fun (i j : Nat) => nthD [Cell.str [], Cell.str [(97 : UInt8), 32, 98], Cell.str [(126 : UInt8)]] (i * (1 : Nat) + j))) (V1.c (Cell.sl (1 : Nat) (3 : Nat) (strsF [[], [(97 : UInt8), 32, 98], [(126 : UInt8)]]))), EqvD (V1.c (Cell.sl (1 : Nat) (3 : Nat) fun (i j : Nat) => nthD [Cell.str [], Cell.str [(97 : UInt8), 32, 98], Cell.str [(126 : UInt8)]] (i * (1 : Nat) + j))) (V1.c (Cell.sl (1 : Nat) (3 : Nat) (strsF [[], [(97 : UInt8), 32, 98], [(126 : UInt8)]])))] (by kernel_rfl) (by kernel_rfl) (by kernel_rfl) ⟨rfl, rfl, rfl, rfl, rfl, fun _ _ => trivial, lit_D (by kernel_rfl)⟩ ?_
    refine Wp.ret' (by kernel_rfl) ?_
    exact FinQ.blk [] (by kernel_rfl) (by kernel_rfl) (by kernel_rfl) (by kernel_rfl) (by kernel_rfl) trivial
  rw [if_neg q4]
  by_cases q5 : q = 5
  · subst q5
    rw [if_pos rfl]
    have c7 := Key_ok (G := G) 3 (by decide) (by decide)
    generalize keyT 3 = k3 at c7 ⊢
    have c6 : FnB Tryz.prog G 50 [tapeB ns a2] [.c (.ptr 0 0), .c (.sl 1 3 (strsF [[], [120], k3]))] [.c (.str (pickT [[], [120], k3] ns a2))] [(0, tapeB ns (nextA ns a2 3))] := pk [[], [120], k3] a2 (by show 3 < _; decide)
    refine Wp.go (mx := true) (fun _ => mixed) [(16, {cs := [(1, pc c7), (3, cb [0] c6)], fm := [(2, .c (.sl 1 3 (strsF [[], [120], k3])))]}), (1, {cs := [(1, pc c1)]}), (2, {cs := [(1, cb [0] c2), (2, pc c3), (3, pc c4)]}), (4, {cs := [(1, cb [0] c5)]})] 100 [false, false, false, false, false, true] [((5 : Int) == (0 : Int)) = false, ((5 : Int) == (1 : Int)) = false, ((5 : Int) == (2 : Int)) = false, ((5 : Int) == (3 : Int)) = false, ((5 : Int) == (4 : Int)) = false, ((5 : Int) == (5 : Int)) = true, EqvI (V1.c (Cell.sl (1 : Nat) (3 : Nat) fun (i j : Nat) => nthD [Cell.str [], Cell.str [(120 : UInt8)], Cell.str k3] (i * (1 : Nat) + j))) (V1.c (Cell.sl (1 : Nat) (3 : Nat) (strsF [[], [(120 : UInt8)], k3]))), EqvD (V1.c (Cell.sl (1 : Nat) (3 : Nat) fun (i j : Nat) => nthD [Cell.str [], Cell.str [(120 : UInt8)], Cell.str k3] (i * (1 : Nat) + j))) (V1.c (Cell.sl (1 : Nat) (3 : Nat) (strsF [[], [(120 : UInt8)], k3])))] (by kernel_rfl) (by kernel_rfl) (by kernel_rfl) ⟨rfl, rfl, rfl, rfl, rfl, rfl, fun _ _ => trivial, lit_D (by kernel_rfl)⟩ ?_
    refine Wp.ret' (by kernel_rfl) ?_
    exact FinQ.blk [] (by kernel_rfl) (by kernel_rfl) (by kernel_rfl) (by kernel_rfl) (by kernel_rfl) trivial
  rw [if_neg q5]
  by_cases q6 : q = 6
  · subst q6
    rw [if_pos rfl]
    have c6 : FnB Tryz.prog G 50 [tapeB ns a2] [.c (.ptr 0 0), .c (.sl 1 3 (strsF [[112, 108, 97, 105, 110], [], [115, 50, 53, 54]]))] [.c (.str (pickT [[112, 108, 97, 105, 110], [], [115, 50, 53, 54]] ns a2))] [(0, tapeB ns (nextA ns a2 3))] := pk [[112, 108, 97, 105, 110], [], [115, 50, 53, 54]] a2 (by decide)
    refine Wp.go (mx := true) (fun _ => mixed) [(18, {cs := [(2, cb [0] c6)], fm := [(1, .c (.sl 1 3 (strsF [[112, 108, 97, 105, 110], [], [115, 50, 53, 54]])))]}), (1, {cs := [(1, pc c1)]}), (2, {cs := [(1, cb [0] c2), (2, pc c3), (3, pc c4)]}), (4, {cs := [(1, cb [0] c5)]})] 100 [false, false, false, false, false, false, true] [((6 : Int) == (0 : Int)) = false, ((6 : Int) == (1 : Int)) = false, ((6 : Int) == (2 : Int)) = false, ((6 : Int) == (3 : Int)) = false, ((6 : Int) == (4 : Int)) = false, ((6 : Int) == (5 : Int)) = false, ((6 : Int) == (6 : Int)) = true, EqvI (V1.c (Cell.sl (1 : Nat) (3 : Nat) fun (i j : Nat) => nthD [Cell.str [(112 : UInt8), 108, 97, 105, 110], Cell.str [], Cell.str [(115 : UInt8), 50, 53, 54]] (i * (1 : Nat) + j))) (V1.c (Cell.sl (1 : Nat) (3 : Nat) (strsF [[(112 : UInt8), 108, 97, 105, 110], [], [(115 : UInt8), 50, 53, 54]]))), EqvD (V1.c (Cell.sl (1 : Nat) (3 : Nat) fun (i j : Nat) => nthD [Cell.str [(112 : UInt8), 108, 97, 105, 110], Cell.str [], Cell.str [(115 : UInt8), 50, 53, 54]] (i * (1 : Nat) + j))) (V1.c (Cell.sl (1 : Nat) (3 : Nat) (strsF [[(112 : UInt8), 108, 97, 105, 110], [], [(115 : UInt8), 50, 53, 54]])))] (by kernel_rfl) (by kernel_rfl) (by kernel_rfl) ⟨rfl, rfl, rfl, rfl, rfl, rfl, rfl, fun _ _ => trivial, lit_D (by kernel_rfl)⟩ ?_
    refine Wp.ret' (by kernel_rfl) ?_
    exact FinQ.blk [] (by kernel_rfl) (by kernel_rfl) (by kernel_rfl) (by kernel_rfl) (by kernel_rfl) trivial
  rw [if_neg q6]
  by_cases q7 : q = 7
  · subst q7
    rw [if_pos rfl]
    have c7 := Key_ok (G := G) 9 (by decide) (by decide)
    generalize keyT 9 = k9 at c7 ⊢
    refine Wp.go (mx := true) (fun _ => mixed) [(1, {cs := [(1, pc c1)]}), (2, {cs := [(1, cb [0] c2), (2, pc c3), (3, pc c4)]}), (4, {cs := [(1, cb [0] c5)]}), (20, {cs := [(0, pc c7)]})] 100 [false, false, false, false, false, false, false, true] [((7 : Int) == (0 : Int)) = false, ((7 : Int) == (1 : Int)) = false, ((7 : Int) == (2 : Int)) = false, ((7 : Int) == (3 : Int)) = false, ((7 : Int) == (4 : Int)) = false, ((7 : Int) == (5 : Int)) = false, ((7 : Int) == (6 : Int)) = false, ((7 : Int) == (7 : Int)) = true] (by kernel_rfl) (by kernel_rfl) (by kernel_rfl) ⟨rfl, rfl, rfl, rfl, rfl, rfl, rfl, rfl⟩ ?_
    refine Wp.ret' (by kernel_rfl) ?_
    exact FinQ.blk [] (by kernel_rfl) (by kernel_rfl) (by kernel_rfl) (by kernel_rfl) (by kernel_rfl) trivial
  rw [if_neg q7]
  have t0 : (q == 0) = false := by simp [q0]
  have t1 : (q == 1) = false := by simp [q1]
  have t2 : (q == 2) = false := by simp [q2]
  have t3 : (q == 3) = false := by simp [q3]
  have t4 : (q == 4) = false := by simp [q4]
  have t5 : (q == 5) = false := by simp [q5]
  have t6 : (q == 6) = false := by simp [q6]
  have t7 : (q == 7) = false := by simp [q7]
  refine Wp.go (mx := true) (fun _ => mixed) [(1, {cs := [(1, pc c1)]}), (2, {cs := [(1, cb [0] c2), (2, pc c3), (3, pc c4)]}), (4, {cs := [(1, cb [0] c5)]})] 100 [false, false, false, false, false, false, false, false] [(q == (0 : Int)) = false, (q == (1 : Int)) = false, (q == (2 : Int)) = false, (q == (3 : Int)) = false, (q == (4 : Int)) = false, (q == (5 : Int)) = false, (q == (6 : Int)) = false, (q == (7 : Int)) = false] (by kernel_rfl) (by kernel_rfl) (by kernel_rfl) ⟨(by assumption), (by assumption), (by assumption), (by assumption), (by assumption), (by assumption), (by assumption), (show (q == (7 : Int)) = false from (by assumption))⟩ ?_
  refine Wp.ret' (by kernel_rfl) ?_
  exact FinQ.blk [] (by kernel_rfl) (by kernel_rfl) (by kernel_rfl) (by kernel_rfl) (by kernel_rfl) trivial
end Go.Proofs.Tw
end

section
open Go Go.Sv
namespace Go.Proofs.Tw
attribute [local irreducible] Wp FinQ resV Ent Pur Go.Sv.Fn Sat0
set_option maxRecDepth 100000
set_option maxHeartbeats 4000000
variable {G : Nat → Option (List Cell)}

def deskC (s : StT) (src : SoT) : List Cell := [.str s.name, .int .i64 s.key, clS s.cls, usS s.usr, rcS s.recs, .int .i64 src.n, .int .i64 src.conn, .int .i64 src.now]
def deskB (s : StT) (src : SoT) : Blk := .box 134 (deskC s src)
structure FitR (src : SoT) : Prop where
  now0 : 0 ≤ src.now
  now1 : src.now ≤ 1000000000
  n : -1000000000000 ≤ src.n
theorem deskNo_ok (s : StT) (hs : FitS s) (src : SoT) (n : Int) (h : n < 1 ∨ (s.cls.length : Int) < n) : FnB Tryz.prog G 88 [deskB s src] [.c (.ptr 0 0), .c (.int .i64 n)] [.agg [.str [], .int .i64 0, .nilsl, .str []], .c (.int .i64 9)] [(0, deskB s src)] := by
  refine Fn.of' Tryz.func88 (by kernel_rfl) (by kernel_rfl) (by kernel_rfl) (by kernel_rfl) trivial ?_
  rcases h with h | h
  · have t1 : decide (n < 1) = true := decide_eq_true h
    refine Wp.go (mx := true) (fun _ => mixed) [] 100 [true] [(bif decide (n < (1 : Int)) then true else decide (n > (↑s.cls.length : Int))) = true] (by kernel_rfl) (by kernel_rfl) (by kernel_rfl) (show (bif decide (n < (1 : Int)) then true else decide (n > (↑s.cls.length : Int))) = true from (by simp; omega)) ?_
    refine Wp.ret' (by kernel_rfl) ?_
    exact FinQ.blk [] (by kernel_rfl) (by kernel_rfl) (by kernel_rfl) (by kernel_rfl) (by kernel_rfl) trivial
  · have hc := hs.cls
    have t1 : decide (n < 1) = false := decide_eq_false (by omega)
    have t2 : decide (n > (s.cls.length : Int)) = true := decide_eq_true (by omega)
    refine Wp.go (mx := true) (fun _ => mixed) [] 100 [true] [(bif decide (n < (1 : Int)) then true else decide (n > (↑s.cls.length : Int))) = true] (by kernel_rfl) (by kernel_rfl) (by kernel_rfl) (show (bif decide (n < (1 : Int)) then true else decide (n > (↑s.cls.length : Int))) = true from (by simp; omega)) ?_
    refine Wp.ret' (by kernel_rfl) ?_
    exact FinQ.blk [] (by kernel_rfl) (by kernel_rfl) (by kernel_rfl) (by kernel_rfl) (by kernel_rfl) trivial
theorem deskYes_ok (s : StT) (hs : FitS s) (src : SoT) (k : Nat) (h : k < s.cls.length) : FnB Tryz.prog G 88 [deskB s src] [.c (.ptr 0 0), .c (.int .i64 ((k : Int) + 1))] [.agg (encCl (s.cls.getD k .nil)), .c (.int .i64 0)] [(0, deskB s src)] := by
  refine Fn.of' Tryz.func88 (by kernel_rfl) (by kernel_rfl) (by kernel_rfl) (by kernel_rfl) trivial ?_
  have hc := hs.cls
  have t1 : decide ((k : Int) + 1 < 1) = false := decide_eq_false (by omega)
  have t2 : decide ((k : Int) + 1 > (s.cls.length : Int)) = false := decide_eq_false (by omega)
  have e2 : EqvD (.c (.int .i64 ((k : Int) + 1 - 1))) (.c (.int .i64 (k : Int))) := eqvD_of (by rw [show (k : Int) + 1 - 1 = (k : Int) by omega])
  refine Wp.go (mx := true) (fun _ => mixed) [(3, {fm := [(6, .c (.int .i64 (k : Int)))]})] 100 [false] [(bif decide ((↑k : Int) + (1 : Int) < (1 : Int)) then true else decide ((↑k : Int) + (1 : Int) > (↑s.cls.length : Int))) = false, EqvI (V1.c (Cell.int .i64 ((↑k : Int) + (1 : Int) - (1 : Int)))) (V1.c (Cell.int .i64 (↑k : Int))), EqvD (V1.c (Cell.int .i64 ((↑k : Int) + (1 : Int) - (1 : Int)))) (V1.c (Cell.int .i64 (↑k : Int))), inR IntKind.i64 ((↑k : Int) + (1 : Int) - (1 : Int)), (0 : Int) ≤ (↑k : Int) ∧ (↑k : Int) < (↑s.cls.length : Int)] (by kernel_rfl) (by kernel_rfl) (by kernel_rfl) ⟨(by assumption), fun _ _ => trivial, (by assumption), inR64 (by omega) (by omega), (show (0 : Int) ≤ (↑k : Int) ∧ (↑k : Int) < (↑s.cls.length : Int) from (by omega))⟩ ?_
  refine Wp.ret' (by kernel_rfl) ?_
  exact FinQ.blk [] (by kernel_rfl) (by kernel_rfl) (by kernel_rfl) (by kernel_rfl) (by kernel_rfl) trivial
/-- A record of what is wanted. -/
def pRec (c : Int) (w : WT) (key til : Int) : RcT := ⟨1, key, til, false, c, 0, 0, 0, w⟩
def putsT (s : StT) (src : SoT) (c : Int) (w : WT) : Int × Int × StT × SoT :=
  if 1073741824 < src.n ∨ roomK s.recs src.now 1 = 0 then (0, 16, s, src)
  else if (putS s.recs src.now (pRec c w src.n (src.now + 60))).2 = 0 then (src.n, 0, { s with recs := (putS s.recs src.now (pRec c w src.n (src.now + 60))).1 }, { src with n := src.n + 1 })
  else (0, (putS s.recs src.now (pRec c w src.n (src.now + 60))).2, s, src)
theorem puts_ok (s : StT) (hs : FitS s) (src : SoT) (hf : FitR src) (hr : s.recs.length ≤ 100000) (c : Int) (w : WT) : FnB Tryz.prog G 89 [deskB s src] [.c (.ptr 0 0), .agg (encRc (pRec c w 0 0))] [.c (.int .i64 (putsT s src c w).1), .c (.int .i64 (putsT s src c w).2.1)] [(0, deskB (putsT s src c w).2.2.1 (putsT s src c w).2.2.2)] := by
  refine Fn.of' Tryz.func89 (by kernel_rfl) (by kernel_rfl) (by kernel_rfl) (by kernel_rfl) trivial ?_
  have h0 := hf.now0
  have h1 := hf.now1
  have h2 := hf.n
  have c2 := room_ok (G := G) s.recs src.now 1 (by omega)
  have c3 : Pur Tryz.prog G 142 [.c (.int .i64 1)] [.c (.int .i64 60)] := life_ok (G := G) 1
  have c4 := until_ok (G := G) src.now 60 h0 h1 (by decide) (by decide)
  have c5 := storePut_ok (G := G) s.recs src.now (pRec c w src.n (src.now + 60)) hr
  unfold putsT
  by_cases hn : 1073741824 < src.n
  · rw [if_pos (.inl hn)]
    have c1 := nonce_no (G := G) src hn
    refine Wp.go (mx := true) (fun _ => mixed) [(1, {cs := [(4, pc c1)]}), (2, {grd := [(3, false), (4, false), (5, false), (6, false), (7, false), (8, false), (9, false), (10, false), (11, false), (12, false), (13, false), (14, false), (15, false), (16, false), (17, true)]})] 100 [true] [(!false) = !false, (!false) = !false, (!false) = !false, (!false) = !false, (!false) = !false, (!false) = !false, (!false) = !false, (!false) = !false, (!false) = !false, (!false) = !false, (!false) = !false, (!false) = !false, (!false) = !false, (!false) = !false, (!false) = true, true = true] (by kernel_rfl) (by kernel_rfl) (by kernel_rfl) ⟨rfl, rfl, rfl, rfl, rfl, rfl, rfl, rfl, rfl, rfl, rfl, rfl, rfl, rfl, rfl, rfl⟩ ?_
    refine Wp.ret' (by kernel_rfl) ?_
    exact FinQ.blk [] (by kernel_rfl) (by kernel_rfl) (by kernel_rfl) (by kernel_rfl) (by kernel_rfl) trivial
  · have c1 := nonce_ok (G := G) src (by omega) h2
    by_cases hk : roomK s.recs src.now 1 = 0
    · rw [if_pos (.inr hk)]
      rw [hk] at c2
      refine Wp.go (mx := true) (fun _ => mixed) [(1, {cs := [(4, pc c1)]}), (2, {cs := [(15, pc c2)]})] 100 [true] [(bif !true then true else (0 : Int) == (0 : Int)) = true] (by kernel_rfl) (by kernel_rfl) (by kernel_rfl) rfl ?_
      refine Wp.ret' (by kernel_rfl) ?_
      exact FinQ.blk [] (by kernel_rfl) (by kernel_rfl) (by kernel_rfl) (by kernel_rfl) (by kernel_rfl) trivial
    · rw [if_neg (by rintro (h | h); exact hn h; exact hk h)]
      have t2 : (roomK s.recs src.now 1 == 0) = false := by simp [hk]
      generalize roomK s.recs src.now 1 = z at c2 t2
      generalize hp : putS s.recs src.now (pRec c w src.n (src.now + 60)) = p at c5 ⊢
      obtain ⟨l, e⟩ := p
      by_cases he : e = 0
      · subst he
        rw [if_pos rfl]
        refine Wp.go (mx := true) (fun _ => mixed) [(1, {cs := [(4, pc c1)]}), (2, {cs := [(15, pc c2)]}), (4, {cs := [(8, pc c3), (9, pc c4)]}), (5, {cs := [(11, pc c5)]})] 100 [false, false] [(bif !true then true else z == (0 : Int)) = false, ((0 : Int) != (0 : Int)) = false] (by kernel_rfl) (by kernel_rfl) (by kernel_rfl) ⟨(by assumption), rfl⟩ ?_
        refine Wp.ret' (by kernel_rfl) ?_
        exact FinQ.blk [] (by kernel_rfl) (by kernel_rfl) (by kernel_rfl) (by kernel_rfl) (by kernel_rfl) trivial
      · rw [if_neg he]
        have t3 : (e != 0) = true := by simp [he]
        refine Wp.go (mx := true) (fun _ => mixed) [(1, {cs := [(4, pc c1)]}), (2, {cs := [(15, pc c2)]}), (4, {cs := [(8, pc c3), (9, pc c4)]}), (5, {cs := [(11, pc c5)]})] 100 [false, true] [(bif !true then true else z == (0 : Int)) = false, (e != (0 : Int)) = true] (by kernel_rfl) (by kernel_rfl) (by kernel_rfl) ⟨(by assumption), (show (e != (0 : Int)) = true from (by assumption))⟩ ?_
        refine Wp.ret' (by kernel_rfl) ?_
        exact FinQ.blk [] (by kernel_rfl) (by kernel_rfl) (by kernel_rfl) (by kernel_rfl) (by kernel_rfl) trivial
end Go.Proofs.Tw
end

section
open Go Go.Sv
namespace Go.Proofs.Tw
attribute [local irreducible] Wp FinQ resV Ent Pur Go.Sv.Fn Sat0
set_option maxRecDepth 100000
set_option maxHeartbeats 4000000
variable {G : Nat → Option (List Cell)}

def pushT (s : StT) (src : SoT) (n : Int) (w : WT) : StT × SoT × Int × Int :=
  if n < 1 ∨ (s.cls.length : Int) < n then (s, src, 0, 9)
  else if chkT (s.cls.getD (n - 1).toNat .nil) w = 0 then ((putsT s src n w).2.2.1, (putsT s src n w).2.2.2, (putsT s src n w).1, (putsT s src n w).2.1)
  else (s, src, 0, chkT (s.cls.getD (n - 1).toNat .nil) w)
theorem push_ok {m : Int} (hG : G 3 = some [.int .i64 m]) (s : StT) (hs : FitS s) (hr : s.recs.length ≤ 100000) (src : SoT) (hf : FitR src) (n : Int) (w : WT) (hw : FitW w) : Pur Tryz.prog G 43 [.agg (encSt s), .agg (encSo src), .c (.int .i64 n), .agg (encW w)] [.agg (encSt (pushT s src n w).1), .agg (encSo (pushT s src n w).2.1), .c (.int .i64 (pushT s src n w).2.2.1), .c (.int .i64 (pushT s src n w).2.2.2)] := by
  refine Pur.of Tryz.func43 (by kernel_rfl) (by kernel_rfl) (by kernel_rfl) ?_
  have c1 := ownState_ok (G := G) s hs
  unfold pushT
  by_cases h : n < 1 ∨ (s.cls.length : Int) < n
  · rw [if_pos h]
    have c2 := deskNo_ok (G := G) s hs src n h
    clear h
    refine Wp.go (mx := true) (fun _ => mixed) [(1, {cs := [(1, pc c1)]}), (2, {cs := [(2, cb [176] c2)]})] 100 [false, false] [((9 : Int) == (0 : Int)) = false, ((9 : Int) == (0 : Int)) = false] (by kernel_rfl) (by kernel_rfl) (by kernel_rfl) ⟨rfl, rfl⟩ ?_
    refine Wp.ret' (by kernel_rfl) ?_
    exact FinQ.pure (rs' := [V1.agg [Cell.str s.name, Cell.int .i64 s.key, Cell.sl (4 : Nat) s.cls.length (rowF encCl ClT.nil s.cls), Cell.sl (2 : Nat) s.usr.length (rowF encUs UsT.nil s.usr), Cell.sl (15 : Nat) s.recs.length (rowF encRc RcT.nil s.recs)], V1.agg [Cell.int .i64 src.n, Cell.int .i64 src.conn, Cell.int .i64 src.now], V1.c (Cell.int .i64 (0 : Int)), V1.c (Cell.int .i64 (9 : Int))]) (by kernel_rfl) rfl (by kernel_rfl)
  · rw [if_neg h]
    obtain ⟨k, rfl⟩ : ∃ k : Nat, n = (k : Int) + 1 := ⟨(n - 1).toNat, by omega⟩
    rw [show (k : Int) + 1 - 1 = (k : Int) by omega, Int.toNat_natCast]
    have c2 := deskYes_ok (G := G) s hs src k (by omega)
    have c3 := check_ok hG (s.cls.getD k .nil) w (hs.cl k) hw
    have c4 := puts_ok (G := G) s hs src hf hr ((k : Int) + 1) w
    generalize s.cls.getD k .nil = c at c2 c3 ⊢
    by_cases he : chkT c w = 0
    · rw [if_pos he]
      rw [he] at c3
      generalize putsT s src ((k : Int) + 1) w = p at c4 ⊢
      obtain ⟨key, e, s2, src2⟩ := p
      clear he h
      refine Wp.go (mx := true) (fun _ => mixed) [(1, {cs := [(1, pc c1)]}), (2, {cs := [(2, cb [176] c2)]}), (4, {cs := [(2, pc c3)]}), (7, {cs := [(4, cb [176] c4)]})] 100 [true, true] [((0 : Int) == (0 : Int)) = true, ((0 : Int) == (0 : Int)) = true] (by kernel_rfl) (by kernel_rfl) (by kernel_rfl) ⟨rfl, rfl⟩ ?_
      refine Wp.ret' (by kernel_rfl) ?_
      exact FinQ.pure (rs' := [V1.agg [Cell.str s2.name, Cell.int .i64 s2.key, Cell.sl (4 : Nat) s2.cls.length fun (i j : Nat) => nthD [Cell.str (s2.cls.getD i ClT.nil).id, Cell.int .i64 (s2.cls.getD i ClT.nil).secret, Cell.sl (1 : Nat) (s2.cls.getD i ClT.nil).reds.length (strsF (s2.cls.getD i ClT.nil).reds), Cell.str (s2.cls.getD i ClT.nil).scope] j, Cell.sl (2 : Nat) s2.usr.length fun (i j : Nat) => nthD [Cell.str (s2.usr.getD i UsT.nil).name, Cell.int .i64 (s2.usr.getD i UsT.nil).pass] j, Cell.sl (15 : Nat) s2.recs.length fun (i j : Nat) => nthD [Cell.int .i64 (s2.recs.getD i RcT.nil).kind, Cell.int .i64 (s2.recs.getD i RcT.nil).key, Cell.int .i64 (s2.recs.getD i RcT.nil).til, Cell.bool (s2.recs.getD i RcT.nil).used, Cell.int .i64 (s2.recs.getD i RcT.nil).client, Cell.int .i64 (s2.recs.getD i RcT.nil).user, Cell.int .i64 (s2.recs.getD i RcT.nil).sess, Cell.int .i64 (s2.recs.getD i RcT.nil).fam, Cell.str (s2.recs.getD i RcT.nil).w.ty, Cell.str (s2.recs.getD i RcT.nil).w.redir, Cell.str (s2.recs.getD i RcT.nil).w.scope, Cell.str (s2.recs.getD i RcT.nil).w.state, Cell.str (s2.recs.getD i RcT.nil).w.nonce, Cell.str (s2.recs.getD i RcT.nil).w.chal, Cell.str (s2.recs.getD i RcT.nil).w.meth] j], V1.agg [Cell.int .i64 src2.n, Cell.int .i64 src2.conn, Cell.int .i64 src2.now], V1.c (Cell.int .i64 key), V1.c (Cell.int .i64 e)]) (by kernel_rfl) rfl (by kernel_rfl)
    · rw [if_neg he]
      have t1 : (chkT c w == 0) = false := by simp [he]
      generalize chkT c w = e at c3 t1 ⊢
      clear he h c4
      refine Wp.go (mx := true) (fun _ => mixed) [(1, {cs := [(1, pc c1)]}), (2, {cs := [(2, cb [176] c2)]}), (4, {cs := [(2, pc c3)]})] 100 [true, false] [((0 : Int) == (0 : Int)) = true, (e == (0 : Int)) = false] (by kernel_rfl) (by kernel_rfl) (by kernel_rfl) ⟨rfl, (show (e == (0 : Int)) = false from (by assumption))⟩ ?_
      refine Wp.ret' (by kernel_rfl) ?_
      exact FinQ.pure (rs' := [V1.agg [Cell.str s.name, Cell.int .i64 s.key, Cell.sl (4 : Nat) s.cls.length (rowF encCl ClT.nil s.cls), Cell.sl (2 : Nat) s.usr.length (rowF encUs UsT.nil s.usr), Cell.sl (15 : Nat) s.recs.length (rowF encRc RcT.nil s.recs)], V1.agg [Cell.int .i64 src.n, Cell.int .i64 src.conn, Cell.int .i64 src.now], V1.c (Cell.int .i64 (0 : Int)), V1.c (Cell.int .i64 e)]) (by kernel_rfl) rfl (by kernel_rfl)
end Go.Proofs.Tw
end

section
open Go Go.Sv
namespace Go.Proofs.Tw
attribute [local irreducible] Wp FinQ resV Ent Pur Go.Sv.Fn Sat0
set_option maxRecDepth 100000
set_option maxHeartbeats 4000000
variable {G : Nat → Option (List Cell)}

theorem fitC_base (k : Nat) : FitC (baseC.getD k .nil) := by
  match k with
  | 0 => exact ⟨by decide, by decide⟩
  | 1 => exact ⟨by decide, by decide⟩
  | 2 => exact ⟨by decide, by decide⟩
  | k + 3 => exact ⟨by show (0 : Nat) < _; decide, by show (0 : Nat) < _; decide⟩
theorem fitS_base : FitS baseT := ⟨by decide, by decide, by decide, fitC_base⟩
theorem scMore_len (ns : List Int) : ∀ (k a : Nat) (s : List UInt8), (scMore ns k a s).1.length ≤ s.length + 9 * k
  | 0, _, _ => by simp [scMore]
  | k + 1, a, s => by
    have h1 := pickT_le 2 sepsS (by kernel_rfl) ns a
    have h2 := pickT_le 7 wrdsS (by kernel_rfl) ns (nextA ns a 5)
    have := scMore_len ns k (nextA ns (nextA ns a 5) 8) (s ++ pickT sepsS ns a ++ pickT wrdsS ns (nextA ns a 5))
    simp only [List.length_append] at this
    rw [scMore]; omega
theorem scopT_len (ns : List Int) (a : Nat) : (scopT ns a).1.length ≤ 40 := by
  have h1 := pickT_le 7 heads (by kernel_rfl) ns a
  have h2 := nextV_rng ns (nextA ns a 4) 4 (by decide)
  have := scMore_len ns (nextV ns (nextA ns a 4) 4).toNat (nextA ns (nextA ns a 4) 4) (pickT heads ns a)
  unfold scopT; omega
theorem red_len (x : Int) : (rightR.getD x.toNat []).length ≤ 20 := by
  match x.toNat with
  | 0 => decide
  | 1 => decide
  | 2 => decide
  | k + 3 => simp [rightR]
/-- Texts that are short. -/
structure Fit4 (w : WT) : Prop where
  ty : w.ty.length ≤ 400
  redir : w.redir.length ≤ 400
  scope : w.scope.length ≤ 400
  state : w.state.length ≤ 400
  nonce : w.nonce.length ≤ 400
  chal : w.chal.length ≤ 400
  meth : w.meth.length ≤ 400
theorem Fit4.fit {w : WT} (h : Fit4 w) : FitW w := ⟨by have := h.redir; omega, by have := h.scope; omega, by have := h.state; omega, by have := h.nonce; omega, by have := h.chal; omega⟩
theorem fit_right (n m : Int) : Fit4 { rightT n with chal := chalT m } := ⟨by show 4 ≤ 400; decide, by have := red_len (withT (n - 1) 3); show (rightR.getD (withT (n - 1) 3).toNat []).length ≤ 400; omega, by show 6 ≤ 400; decide, by show ([115] ++ keyT n).length ≤ 400; rw [List.length_append, key_len]; decide, by show 1 ≤ 400; decide, by show (chalT m).length ≤ 400; rw [chalT_len]; decide, by show 4 ≤ 400; decide⟩
theorem fit_want (ns : List Int) (a : Nat) (n : Int) : Fit4 (wantT ns a n).1 := by
  have h := fit_right n (30 + withT (nextV ns a 3) 3)
  have hs := scopT_len ns (nextA ns (nextA ns a 3) 16)
  unfold wantT
  simp only []
  generalize nextA ns (nextA ns a 3) 16 = a2 at hs ⊢
  split
  · exact { h with ty := Nat.le_trans (pickT_le 5 _ (by kernel_rfl) ns a2) (by decide) }
  split
  · exact { h with redir := Nat.le_trans (pickT_le 20 redW (by kernel_rfl) ns a2) (by decide) }
  split
  · exact { h with scope := Nat.le_trans hs (by decide) }
  split
  · exact { h with state := Nat.le_trans (pickT_le 5 _ (by kernel_rfl) ns a2) (by decide) }
  split
  · exact { h with nonce := Nat.le_trans (pickT_le 5 _ (by kernel_rfl) ns a2) (by decide) }
  split
  · exact { h with chal := Nat.le_trans (pickT_le 9 _ (by kernel_rfl) ns a2) (by decide) }
  split
  · exact { h with meth := Nat.le_trans (pickT_le 5 _ (by kernel_rfl) ns a2) (by decide) }
  split
  · exact { h with scope := by show 8 ≤ 400; decide, nonce := by show (keyT 9).length ≤ 400; rw [key_len]; decide }
  · exact h
def fewT (w : WT) : Bool := bif bif bif bif bif bif decide ((w.ty.length : Int) ≤ 400) then decide ((w.redir.length : Int) ≤ 400) else false then decide ((w.scope.length : Int) ≤ 400) else false then decide ((w.state.length : Int) ≤ 400) else false then decide ((w.nonce.length : Int) ≤ 400) else false then decide ((w.chal.length : Int) ≤ 400) else false then decide ((w.meth.length : Int) ≤ 400) else false
theorem few_ok (w : WT) : Pur Tryz.prog G 35 [.agg (encW w)] [.c (.bool (fewT w))] := by
  refine Pur.of Tryz.func35 (by kernel_rfl) (by kernel_rfl) (by kernel_rfl) ?_
  unfold fewT
  refine Wp.go (mx := true) (fun _ => mixed) [] 100 [] [] (by kernel_rfl) (by kernel_rfl) (by kernel_rfl) trivial ?_
  refine Wp.ret' (by kernel_rfl) ?_
  exact FinQ.pure (rs' := [V1.c (Cell.bool (bif bif bif bif bif bif decide ((↑w.ty.length : Int) ≤ (400 : Int)) then decide ((↑w.redir.length : Int) ≤ (400 : Int)) else false then decide ((↑w.scope.length : Int) ≤ (400 : Int)) else false then decide ((↑w.state.length : Int) ≤ (400 : Int)) else false then decide ((↑w.nonce.length : Int) ≤ (400 : Int)) else false then decide ((↑w.chal.length : Int) ≤ (400 : Int)) else false then decide ((↑w.meth.length : Int) ≤ (400 : Int)) else false))]) (by kernel_rfl) rfl (by kernel_rfl)
theorem cond_and (a b : Bool) : (bif a then b else false) = (a && b) := by cases a <;> rfl
theorem few_fit {w : WT} (h : fewT w = true) : Fit4 w := by
  unfold fewT at h
  simp only [cond_and, Bool.and_eq_true, decide_eq_true_eq] at h
  obtain ⟨⟨⟨⟨⟨⟨h1, h2⟩, h3⟩, h4⟩, h5⟩, h6⟩, h7⟩ := h
  exact ⟨by omega, by omega, by omega, by omega, by omega, by omega, by omega⟩
theorem push1 : pushT baseT src0 1 (rightT 1) = ({ baseT with recs := [pRec 1 (rightT 1) 100 60] }, ⟨101, 1, 0⟩, 100, 0) := by kernel_rfl
theorem chk1 : chkT (baseC.getD 0 .nil) (rightT 1) = 0 := by kernel_rfl
theorem chk1b : chkT (baseC.getD 0 .nil) { rightT 1 with ty := [116, 111, 107, 101, 110] } = 11 := by kernel_rfl
theorem known20_ok {m : Int} (hG : G 3 = some [.int .i64 m]) : Pur Tryz.prog G 34 [] [.c (.bool true)] := by
  refine Pur.of Tryz.func34 (by kernel_rfl) (by kernel_rfl) (by kernel_rfl) ?_
  have c1 := base_ok (G := G)
  have c2 := right_ok (G := G) 1 (by decide) (by decide)
  have hw : FitW (rightT 1) := (fit_right 1 (30 + withT 1 3)).fit
  have c3 := push_ok hG baseT fitS_base (by decide) src0 ⟨by decide, by decide, by decide⟩ 1 (rightT 1) hw
  rw [push1] at c3
  have c4 := check_ok hG (baseC.getD 0 .nil) (rightT 1) (fitC_base 0) hw
  rw [chk1] at c4
  have c5 := check_ok hG (baseC.getD 0 .nil) { rightT 1 with ty := [116, 111, 107, 101, 110] } (fitC_base 0) ⟨hw.redir, hw.scope, hw.state, hw.nonce, hw.chal⟩
  rw [chk1b] at c5
  refine Wp.go (mx := true) (fun _ => mixed) [(1, {cs := [(0, pc c1)]}), (2, {cs := [(2, pc c2), (3, pc c3)]}), (3, {cs := [(0, pc c2)]}), (5, {cs := [(22, pc c2), (23, pc c4), (32, pc c5)]})] 100 [] [(bif bif bif (0 : Int) == (0 : Int) then (100 : Int) == (100 : Int) else false then (101 : Int) == (101 : Int) else false then (↑(1 : Nat) : Int) == (1 : Int) else false) = true → (0 : Int) ≤ (0 : Int) ∧ (0 : Int) < (↑baseT.cls.length : Int), (bif bif bif bif (0 : Int) == (0 : Int) then (100 : Int) == (100 : Int) else false then (101 : Int) == (101 : Int) else false then (↑(1 : Nat) : Int) == (1 : Int) else false then (0 : Int) == (0 : Int) else false) = true → (0 : Int) ≤ (0 : Int) ∧ (0 : Int) < (↑baseT.cls.length : Int)] (by kernel_rfl) (by kernel_rfl) (by kernel_rfl) ⟨(by decide), (show (bif bif bif bif (0 : Int) == (0 : Int) then (100 : Int) == (100 : Int) else false then (101 : Int) == (101 : Int) else false then (↑(1 : Nat) : Int) == (1 : Int) else false then (0 : Int) == (0 : Int) else false) = true → (0 : Int) ≤ (0 : Int) ∧ (0 : Int) < (↑baseT.cls.length : Int) from (by decide))⟩ ?_
  refine Wp.ret' (by kernel_rfl) ?_
  exact FinQ.pure (rs' := [V1.c (Cell.bool (bif bif bif bif bif (0 : Int) == (0 : Int) then (100 : Int) == (100 : Int) else false then (101 : Int) == (101 : Int) else false then (↑(1 : Nat) : Int) == (1 : Int) else false then (0 : Int) == (0 : Int) else false then (11 : Int) == (11 : Int) else false))]) (by kernel_rfl) rfl (by kernel_rfl)
end Go.Proofs.Tw
end

section
open Go Go.Sv
namespace Go.Proofs.Tw
attribute [local irreducible] Wp FinQ resV Ent Pur Go.Sv.Fn Sat0
set_option maxRecDepth 100000
set_option maxHeartbeats 4000000
variable {G : Nat → Option (List Cell)}

theorem chkR (k : Nat) (h : k < 3) : chkT (baseC.getD k .nil) (rightT ((k : Int) + 1)) = 0 := by
  match k, h with
  | 0, _ => exact (by kernel_rfl : chkT (baseC.getD 0 .nil) (rightT ((0 : Nat) + 1 : Int)) = 0)
  | 1, _ => exact (by kernel_rfl : chkT (baseC.getD 1 .nil) (rightT ((1 : Nat) + 1 : Int)) = 0)
  | 2, _ => exact (by kernel_rfl : chkT (baseC.getD 2 .nil) (rightT ((2 : Nat) + 1 : Int)) = 0)
def Gn (m : Int) : Nat → Option (List Cell)
  | 3 => some [.int .i64 m]
  | _ => none
theorem Gn_len (m : Int) : Gn m 3 = some [.int .i64 m] := rfl
def wants7 (raw w1 w2 w3 : WT) : List WT := [raw, w1, w2, w3, { w1 with state := raw.state, nonce := raw.nonce }, { w1 with scope := raw.scope, ty := raw.ty }, { w1 with redir := raw.redir, chal := raw.chal }]
def rowL4 (raw w1 w2 w3 : WT) : Nat → Nat → Cell := fun i j => nthD (encW raw ++ (encW w1 ++ (encW w2 ++ encW w3))) (i * 7 + j)
def rowL3 (raw w1 : WT) : Nat → Nat → Cell := fun i j => nthD (encW { w1 with state := raw.state, nonce := raw.nonce } ++ (encW { w1 with scope := raw.scope, ty := raw.ty } ++ encW { w1 with redir := raw.redir, chal := raw.chal })) ((0 + i) * 7 + j)
theorem fit_wants (raw w1 w2 w3 : WT) (h : Fit4 raw) (h1 : Fit4 w1) (h2 : Fit4 w2) (h3 : Fit4 w3) (i : Nat) : FitW ((wants7 raw w1 w2 w3).getD i .nil) := by
  have hn : FitW .nil := ⟨by decide, by decide, by decide, by decide, by decide⟩
  match i with
  | 0 => exact h.fit
  | 1 => exact h1.fit
  | 2 => exact h2.fit
  | 3 => exact h3.fit
  | 4 => exact ⟨h1.fit.redir, h1.fit.scope, h.fit.state, h.fit.nonce, h1.fit.chal⟩
  | 5 => exact ⟨h1.fit.redir, h.fit.scope, h1.fit.state, h1.fit.nonce, h1.fit.chal⟩
  | 6 => exact ⟨h.fit.redir, h1.fit.scope, h1.fit.state, h1.fit.nonce, h.fit.chal⟩
  | i + 7 => exact hn
theorem pushCheck_ok {m : Int} (ns : List Int) (raw : WT) (n : Int) (hl : ns.length ≤ 9223372036854775807) : Pur Tryz.prog (Gn m) 5 [.c (.sl 1 ns.length (intsF ns)), .agg (encW raw), .c (.int .i64 n)] [.c (.bool true)] := by
  refine Pur.of Tryz.func5 (by kernel_rfl) (by kernel_rfl) (by kernel_rfl) ?_
  have c1 := known20_ok (Gn_len m)
  have c2 := few_ok (G := Gn m) raw
  cases hfew : fewT raw with
  | false =>
    rw [hfew] at c2
    refine Wp.go (mx := true) (fun _ => mixed) [(1, {cs := [(0, pc c1)]}), (3, {cs := [(1, pc c2)]})] 100 [false, true] [(!true) = false, (!false) = true] (by kernel_rfl) (by kernel_rfl) (by kernel_rfl) ⟨rfl, rfl⟩ ?_
    refine Wp.ret' (by kernel_rfl) ?_
    exact FinQ.pure (rs' := [V1.c (Cell.bool true)]) (by kernel_rfl) rfl (by kernel_rfl)
  | true =>
    rw [hfew] at c2
    have hraw := few_fit hfew
    clear hfew
    have c3 := base_ok (G := Gn m)
    have c4 := within20_ok (G := Gn m) n 3 (by decide) (by decide)
    have hr := withT_rng n 3 (by decide)
    generalize withT n 3 = k0 at c4 hr
    obtain ⟨k, rfl⟩ : ∃ k : Nat, k0 = (k : Int) := ⟨k0.toNat, by omega⟩
    have hk : k < 3 := by omega
    have c5 := want_ok (G := Gn m) ns 0 ((k : Int) + 1) (by omega) (by omega) hl
    have f5 := fit_want ns 0 ((k : Int) + 1)
    generalize wantT ns 0 ((k : Int) + 1) = w1 at c5 f5
    obtain ⟨w1, a1⟩ := w1
    have c6 := want_ok (G := Gn m) ns a1 ((k : Int) + 1) (by omega) (by omega) hl
    have f6 := fit_want ns a1 ((k : Int) + 1)
    generalize wantT ns a1 ((k : Int) + 1) = w2 at c6 f6
    obtain ⟨w2, a2⟩ := w2
    have c7 := within20_ok (G := Gn m) ((k : Int) + 1) 3 (by decide) (by decide)
    have h7 := withT_rng ((k : Int) + 1) 3 (by decide)
    generalize withT ((k : Int) + 1) 3 = z at c7 h7
    have c8 := want_ok (G := Gn m) ns a2 (1 + z) (by omega) (by omega) hl
    have f8 := fit_want ns a2 (1 + z)
    generalize wantT ns a2 (1 + z) = w3 at c8 f8
    obtain ⟨w3, a3⟩ := w3
    have c9 := right_ok (G := Gn m) ((k : Int) + 1) (by omega) (by omega)
    have hcr : FitW (rightT ((k : Int) + 1)) := (fit_right ((k : Int) + 1) (30 + withT ((k : Int) + 1) 3)).fit
    have c10 := check_ok (Gn_len m) (baseC.getD k .nil) (rightT ((k : Int) + 1)) (fitC_base k) hcr
    rw [chkR k hk] at c10
    generalize rightT ((k : Int) + 1) = wr at c9 c10
    have fw := fit_wants raw w1 w2 w3 hraw f5 f6 f8
    have hb : (k : Int) < (baseT.cls.length : Int) := by show (k : Int) < ((3 : Nat) : Int); omega
    refine Wp.go (mx := true) (fun _ => mixed) [(16, {bs := [(5, .row 61 7 7 (rowF encW .nil (wants7 raw w1 w2 w3)))]}), (1, {cs := [(0, pc c1)]}), (3, {cs := [(1, pc c2)]}), (5, {cs := [(0, pc c3)]}), (7, {cs := [(1, pc c4)]}), (8, {cs := [(3, cb [272] c5)]}), (9, {cs := [(5, cb [272] c6), (9, pc c7), (11, cb [272] c8)]})] 100 [false, false] [(!true) = false, (!true) = false, inR IntKind.i64 ((↑k : Int) + (1 : Int)), inR IntKind.i64 ((↑k : Int) + (1 : Int)), inR IntKind.i64 ((↑k : Int) + (1 : Int)), inR IntKind.i64 ((1 : Int) + z), (784 : Nat) ≤ (140737488355328 : Nat), BlkEqv (Blk.row 61 (7 : Nat) (7 : Nat) (catF (4 : Nat) (rowL4 raw w1 w2 w3) (rowL3 raw w1))) (Blk.row 61 (7 : Nat) (7 : Nat) (rowF encW WT.nil (wants7 raw w1 w2 w3))), (4 : Nat) ≤ (4 : Nat), (0 : Nat) + (3 : Nat) ≤ (3 : Nat)] (by kernel_rfl) (by kernel_rfl) (by kernel_rfl) ⟨rfl, rfl, inR64 (by omega) (by omega), inR64 (by omega) (by omega), inR64 (by omega) (by omega), inR64 (by omega) (by omega), (by omega), tab_B (by kernel_rfl), (by omega), (show (0 : Nat) + (3 : Nat) ≤ (3 : Nat) from (by omega))⟩ ?_
    generalize hlw : wants7 raw w1 w2 w3 = lw at fw
    refine Wp.loopK (by kernel_rfl) (fun (i : Nat) => ⟨[(7, TV.v (V1.c (Cell.ptr 176 0))), (10, TV.v (V1.c (Cell.int .i64 (k : Int)))), (12, TV.v (V1.c (Cell.row 7 1280 0 7))), (16, TV.v (V1.c (Cell.int .i64 (i : Int))))], [(176, Blk.box 67 (encSt baseT)), (1280, Blk.row 61 7 7 (rowF encW WT.nil (wants7 raw w1 w2 w3)))], 1328⟩) (fun i => i ≤ 7) (fun i => 7 - i) 0 (Ent.of [] (by kernel_rfl) (by kernel_rfl) (by kernel_rfl) trivial) (Nat.zero_le _) ?_
    intro i L hi again
    rcases Nat.lt_or_ge i 7 with hlt | hge
    · have fi := fw (0 + i)
      have d1 := check_ok (Gn_len m) (baseC.getD k .nil) (lw.getD (0 + i) .nil) (fitC_base k) fi
      have d2 := check20_ok (G := Gn m) (baseC.getD k .nil) (lw.getD (0 + i) .nil) (fitC_base k) fi
      subst hlw
      generalize chkT (baseC.getD k .nil) ((wants7 raw w1 w2 w3).getD (0 + i) .nil) = e at d1 d2
      have te : (e != e) = false := by simp
      refine Wp.go (mx := true) (fun _ => mixed) [(20, {cs := [(9, pc d1), (19, pc d2)]})] 100 [true, false] [decide ((↑i : Int) < (↑(7 : Nat) : Int)) = true, (0 : Int) ≤ (↑k : Int) ∧ (↑k : Int) < (↑baseT.cls.length : Int), (0 : Int) ≤ (↑i : Int) ∧ (↑i : Int) < (↑(7 : Nat) : Int), (0 : Nat) + i < (7 : Nat), (0 : Int) ≤ (↑k : Int) ∧ (↑k : Int) < (↑baseT.cls.length : Int), (0 : Int) ≤ (↑i : Int) ∧ (↑i : Int) < (↑(7 : Nat) : Int), (0 : Nat) + i < (7 : Nat), (e != e) = false, inR IntKind.i64 ((↑i : Int) + (1 : Int))] (by kernel_rfl) (by kernel_rfl) (by kernel_rfl) ⟨(by simp; omega), (by omega), (by omega), (by omega), (by omega), (by omega), (by omega), (by assumption), inR64 (by omega) (by omega)⟩ ?_
      exact Wp.lpK (by kernel_rfl) (again _ (i + 1) (by assumption) (by omega) (Ent.of [] (by kernel_rfl) (by kernel_rfl) (by kernel_rfl) trivial))
    · skip
      refine Wp.go (mx := true) (fun _ => mixed) [(22, {cs := [(7, pc c9), (8, pc c10)]})] 100 [false] [decide ((↑i : Int) < (↑(7 : Nat) : Int)) = false, (0 : Int) ≤ (↑k : Int) ∧ (↑k : Int) < (↑baseT.cls.length : Int), inR IntKind.i64 ((↑k : Int) + (1 : Int))] (by kernel_rfl) (by kernel_rfl) (by kernel_rfl) ⟨(by simp; omega), (by omega), inR64 (by omega) (by omega)⟩ ?_
      refine Wp.ret' (by kernel_rfl) ?_
      exact FinQ.pure (rs' := [V1.c (Cell.bool ((0 : Int) == (0 : Int)))]) (by kernel_rfl) rfl (by kernel_rfl)
end Go.Proofs.Tw
end
