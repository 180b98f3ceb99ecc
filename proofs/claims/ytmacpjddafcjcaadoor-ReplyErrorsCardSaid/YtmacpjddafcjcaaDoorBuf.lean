import Derived.Test.YtmacpjddafcjcaaDoorSvBytes
import Derived.Test.YtmacpjddafcjcaaDoorProg
set_option linter.all false
open Go Go.Sv
namespace Go.Proofs.Tw
attribute [local irreducible] Wp FinQ resV Ent Pur Go.Sv.Fn Sat0
set_option maxRecDepth 100000
theorem mixed : Tryd.prog.follows .mixedOrders = true := by kernel_rfl
variable {G : Nat → Option (List Cell)}

theorem cc_a : FnB Tryd.prog G 52 [.box 61 [.nilptr, .nilsl]] [.c (.ptr 0 0)] [] [(0, .box 61 [.ptr 0 0, .nilsl])] := by
  refine Fn.of' Tryd.func52 (by kernel_rfl) (by kernel_rfl) (by kernel_rfl) (by kernel_rfl) trivial ?_
  refine Wp.go (mx := true) (fun _ => mixed) [] 100 [true] [true = true] (by kernel_rfl) (by kernel_rfl) (by kernel_rfl) rfl ?_
  refine Wp.ret' (by kernel_rfl) ?_
  exact FinQ.blk [] (by kernel_rfl) (by kernel_rfl) (by kernel_rfl) (by kernel_rfl) (by kernel_rfl) trivial
theorem cc_b (n : Nat) (l : List UInt8) : FnB Tryd.prog G 52 [.box 61 [.ptr 0 0, .row 1 1 0 n], .row 5 1 n (bytesF l)] [.c (.ptr 0 0)] [] [(0, .box 61 [.ptr 0 0, .row 1 1 0 n]), (1, .row 5 1 n (bytesF l))] := by
  refine Fn.of' Tryd.func52 (by kernel_rfl) (by kernel_rfl) (by kernel_rfl) (by kernel_rfl) ⟨fun _ _ _ _ => trivial, trivial⟩ ?_
  refine Wp.go (mx := true) (fun _ => mixed) [] 100 [false, false] [false = false, false = false] (by kernel_rfl) (by kernel_rfl) (by kernel_rfl) ⟨rfl, rfl⟩ ?_
  refine Wp.ret' (by kernel_rfl) ?_
  exact FinQ.blk [] (by kernel_rfl) (by kernel_rfl) (by kernel_rfl) (by kernel_rfl) (by kernel_rfl) ⟨fun _ _ _ _ => trivial, trivial⟩
theorem wb_a (c : UInt8) : FnB Tryd.prog G 42 [.box 61 [.nilptr, .nilsl]] [.c (.ptr 0 0), .c (.int .u8 (c.toNat : Int))] [.c .nilif] [(0, .box 61 [.ptr 0 0, .row 1 1 0 1]), (1, .row 5 1 1 (bytesF [c]))] := by
  refine Fn.of' Tryd.func42 (by kernel_rfl) (by kernel_rfl) (by kernel_rfl) (by kernel_rfl) trivial ?_
  refine Wp.go (mx := true) (fun _ => mixed) [(1, {cs := [(1, cb [0] cc_a)]}), (2, {bs := [(7, .row 5 1 1 (bytesF [c]))]})] 100 [] [1 * 1 ≤ 140737488355328, BlkEqv (.row 5 1 1 (catF 0 (fun _ _ => .nilif) (fun i j => nthD [.int .u8 (c.toNat : Int)] ((0 + i) * 1 + j)))) (.row 5 1 1 (bytesF [c])), 1 ≤ 1] (by kernel_rfl) (by kernel_rfl) (by kernel_rfl) ⟨by decide, ?_, Nat.le_refl _⟩ ?_
  · refine BlkEqv.row_ext rfl fun i hi j hj => ?_
    obtain ⟨rfl, rfl⟩ : i = 0 ∧ j = 0 := by omega
    rfl
  refine Wp.ret' (by kernel_rfl) ?_
  exact FinQ.blk [161] (by kernel_rfl) (by kernel_rfl) (by kernel_rfl) (by kernel_rfl) (by kernel_rfl) ⟨fun _ _ _ _ => trivial, trivial⟩
theorem wb_b (n : Nat) (l : List UInt8) (hn : n = l.length) (hm : n + 1 ≤ 140737488355328) (c : UInt8) : FnB Tryd.prog G 42 [.box 61 [.ptr 0 0, .row 1 1 0 n], .row 5 1 n (bytesF l)] [.c (.ptr 0 0), .c (.int .u8 (c.toNat : Int))] [.c .nilif]
    [(0, .box 61 [.ptr 0 0, .row 1 2 0 (n + 1)]), (2, .row 5 1 (n + 1) (bytesF (l ++ [c])))] := by
  refine Fn.of' Tryd.func42 (by kernel_rfl) (by kernel_rfl) (by kernel_rfl) (by kernel_rfl) ⟨fun _ _ _ _ => trivial, trivial⟩ ?_
  refine Wp.go (mx := true) (fun _ => mixed) [(1, {cs := [(1, cb [0, 1] (cc_b n l))]}), (2, {bs := [(7, .row 5 1 (n + 1) (bytesF (l ++ [c])))]})] 100 [] [(n + 1) * 1 ≤ 140737488355328, BlkEqv (.row 5 1 (n + 1) (catF n (bytesF l) (fun i j => nthD [.int .u8 (c.toNat : Int)] ((0 + i) * 1 + j)))) (.row 5 1 (n + 1) (bytesF (l ++ [c]))), n ≤ n, 1 ≤ 1] (by kernel_rfl) (by kernel_rfl) (by kernel_rfl) ⟨by omega, ?_, Nat.le_refl _, Nat.le_refl _⟩ ?_
  · refine BlkEqv.row_ext rfl fun i hi j hj => ?_
    rw [← catF_bytes l [c] hn]
    unfold catF
    split
    · rfl
    · obtain ⟨h1, rfl⟩ : i = n ∧ j = 0 := by omega
      subst h1
      rw [Nat.sub_self]; rfl
  refine Wp.ret' (by kernel_rfl) ?_
  exact FinQ.blk [162] (by kernel_rfl) (by kernel_rfl) (by kernel_rfl) (by kernel_rfl) (by kernel_rfl) ⟨fun _ _ _ _ => trivial, trivial⟩
theorem ws_b (n : Nat) (l : List UInt8) (hn : n = l.length) (s : List UInt8) (hm : n + s.length ≤ 140737488355328) : FnB Tryd.prog G 43 [.box 61 [.ptr 0 0, .row 1 1 0 n], .row 5 1 n (bytesF l)] [.c (.ptr 0 0), .c (.str s)] [.c (.int .i64 s.length), .c .nilif]
    [(0, .box 61 [.ptr 0 0, .row 1 2 0 (n + s.length)]), (2, .row 5 1 (n + s.length) (bytesF (l ++ s)))] := by
  refine Fn.of' Tryd.func43 (by kernel_rfl) (by kernel_rfl) (by kernel_rfl) (by kernel_rfl) ⟨fun _ _ _ _ => trivial, trivial⟩ ?_
  refine Wp.go (mx := true) (fun _ => mixed) [(1, {cs := [(1, cb [0, 1] (cc_b n l))]}), (2, {bs := [(6, .row 5 1 (n + s.length) (bytesF (l ++ s)))]})] 100 [] [(n + s.length) * 1 ≤ 140737488355328, BlkEqv (.row 5 1 (n + s.length) (catF n (bytesF l) (bytesF s))) (.row 5 1 (n + s.length) (bytesF (l ++ s))), n ≤ n] (by kernel_rfl) (by kernel_rfl) (by kernel_rfl) ⟨by omega, ?_, Nat.le_refl _⟩ ?_
  · exact BlkEqv.row_ext rfl fun i hi j hj => catF_bytes l s hn i j
  refine Wp.ret' (by kernel_rfl) ?_
  exact FinQ.blk [162] (by kernel_rfl) (by kernel_rfl) (by kernel_rfl) (by kernel_rfl) (by kernel_rfl) ⟨fun _ _ _ _ => trivial, trivial⟩
theorem str_b (n : Nat) (l : List UInt8) (hn : n = l.length) (h0 : 0 < n) (hm : n ≤ 140737488355328) : FnB Tryd.prog G 44 [.box 61 [.ptr 0 0, .row 1 1 0 n], .row 5 1 n (bytesF l)] [.c (.ptr 0 0)] [.c (.str l)]
    [] := by
  refine Fn.of' Tryd.func44 (by kernel_rfl) (by kernel_rfl) (by kernel_rfl) (by kernel_rfl) ⟨fun _ _ _ _ => trivial, trivial⟩ ?_
  refine Wp.go (mx := true) (fun _ => mixed) [(1, {fm := [(10, .c (.str l))]})] 100 [] [0 < n, (0 : Int) < (n : Int), n ≤ n, (n : Int) ≤ 9223372036854775807, areBytes (bytesF l) 0 n, EqvI (.c (.str (byteL (bytesF l) 0 n))) (.c (.str l)), EqvD (.c (.str (byteL (bytesF l) 0 n))) (.c (.str l))] (by kernel_rfl) (by kernel_rfl) (by kernel_rfl) ⟨h0, by omega, Nat.le_refl _, by omega, areBytes_F _ _ _, by rw [byteL_F l hn]; exact fun _ h => h, by rw [byteL_F l hn]; exact fun _ _ _ h => h⟩ ?_
  refine Wp.ret' (by kernel_rfl) ?_
  exact FinQ.blk [] (by kernel_rfl) (by kernel_rfl) (by kernel_rfl) (by kernel_rfl) (by kernel_rfl) trivial
end Go.Proofs.Tw
