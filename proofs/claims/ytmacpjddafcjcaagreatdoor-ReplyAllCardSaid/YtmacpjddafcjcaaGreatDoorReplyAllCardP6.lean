/- Own texts for this claim: Pct, Sgn, Pct2, Qry, Unl, Ury, Coo, Ans, Gen, Gen2, Sam, Mrk, Mrk2. -/
import Derived.Test.YtmacpjddafcjcaaGreatDoorReplyAllCardP5
set_option linter.all false

section
open Go Go.Sv
namespace Go.Proofs.Tw
attribute [local irreducible] Wp FinQ resV Ent Pur Go.Sv.Fn Sat0
set_option maxRecDepth 100000
set_option maxHeartbeats 4000000

/-! runes of one byte -/
theorem ar_a {G : Nat → Option (List Cell)} (c : UInt8) (hc : c.toNat < 128) : FnB Tryz.prog G 253 [] [.c .nilsl, .c (.int .i32 (c.toNat : Int))] [.c (.row 1 0 0 1)] [(0, .row 5 1 1 (bytesF [c]))] := by
  refine Fn.of' Tryz.func253 (by kernel_rfl) (by kernel_rfl) (by kernel_rfl) (by kernel_rfl) trivial ?_
  have hm : IntKind.u8.wrap (c.toNat : Int) = (c.toNat : Int) := by have := UInt8.toNat_lt c; simp [IntKind.wrap, IntKind.bits, IntKind.signed]; omega
  have hw : IntKind.u32.wrap (c.toNat : Int) = (c.toNat : Int) := by have := UInt8.toNat_lt c; simp [IntKind.wrap, IntKind.bits, IntKind.signed]; omega
  have ht : decide (IntKind.u32.wrap (c.toNat : Int) ≤ 127) = true := by rw [hw]; simp; omega
  have e1 : BlkEqv (.row 5 1 1 (catF 0 (fun _ _ => .nilif) (fun i j => nthD [.int .u8 (IntKind.u8.wrap (c.toNat : Int))] ((0 + i) * 1 + j)))) (.row 5 1 1 (bytesF [c])) := by
    rw [hm]
    refine BlkEqv.row_ext rfl fun i hi j hj => ?_
    obtain ⟨rfl, rfl⟩ : i = 0 ∧ j = 0 := by omega
    rfl
  refine Wp.go (mx := true) (fun _ => mixed) [(2, {bs := [(4, Blk.row 5 1 1 (bytesF [c]))]})] 100 [true] [decide (IntKind.u32.wrap (↑c.toNat : Int) ≤ (127 : Int)) = true, (1 : Nat) ≤ (140737488355328 : Nat), BlkEqv (Blk.row 5 (1 : Nat) (1 : Nat) (catF (0 : Nat) (fun (x x_1 : Nat) => Cell.nilif) fun (i j : Nat) => nthD [Cell.int .u8 (IntKind.u8.wrap (↑c.toNat : Int))] (((0 : Nat) + i) * (1 : Nat) + j))) (Blk.row 5 (1 : Nat) (1 : Nat) (bytesF [c])), (0 : Nat) + (1 : Nat) ≤ (1 : Nat)] (by kernel_rfl) (by kernel_rfl) (by kernel_rfl) ⟨(by assumption), (by omega), (by assumption), (show (0 : Nat) + (1 : Nat) ≤ (1 : Nat) from (by omega))⟩ ?_
  refine Wp.ret' (by kernel_rfl) ?_
  exact FinQ.blk [128] (by kernel_rfl) (by kernel_rfl) (by kernel_rfl) (by kernel_rfl) (by kernel_rfl) trivial
theorem ar_b {G : Nat → Option (List Cell)} (n : Nat) (l : List UInt8) (hn : n = l.length) (hm : n + 1 ≤ 140737488355328) (c : UInt8) (hc : c.toNat < 128) : FnB Tryz.prog G 253 [.row 5 1 n (bytesF l)] [.c (.row 1 0 0 n), .c (.int .i32 (c.toNat : Int))] [.c (.row 1 1 0 (n + 1))] [(1, .row 5 1 (n + 1) (bytesF (l ++ [c])))] := by
  refine Fn.of' Tryz.func253 (by kernel_rfl) (by kernel_rfl) (by kernel_rfl) (by kernel_rfl) trivial ?_
  have hm8 : IntKind.u8.wrap (c.toNat : Int) = (c.toNat : Int) := by have := UInt8.toNat_lt c; simp [IntKind.wrap, IntKind.bits, IntKind.signed]; omega
  have hw : IntKind.u32.wrap (c.toNat : Int) = (c.toNat : Int) := by have := UInt8.toNat_lt c; simp [IntKind.wrap, IntKind.bits, IntKind.signed]; omega
  have ht : decide (IntKind.u32.wrap (c.toNat : Int) ≤ 127) = true := by rw [hw]; simp; omega
  have e1 : BlkEqv (.row 5 1 (n + 1) (catF n (bytesF l) (fun i j => nthD [.int .u8 (IntKind.u8.wrap (c.toNat : Int))] ((0 + i) * 1 + j)))) (.row 5 1 (n + 1) (bytesF (l ++ [c]))) := by
    rw [hm8]
    exact bytes_app l [c] hn
  refine Wp.go (mx := true) (fun _ => mixed) [(2, {bs := [(4, Blk.row 5 1 (n + 1) (bytesF (l ++ [c])))]})] 100 [true] [decide (IntKind.u32.wrap (↑c.toNat : Int) ≤ (127 : Int)) = true, (n + (1 : Nat)) * (1 : Nat) ≤ (140737488355328 : Nat), BlkEqv (Blk.row 5 (1 : Nat) (n + (1 : Nat)) (catF n (bytesF l) fun (i j : Nat) => nthD [Cell.int .u8 (IntKind.u8.wrap (↑c.toNat : Int))] (((0 : Nat) + i) * (1 : Nat) + j))) (Blk.row 5 (1 : Nat) (n + (1 : Nat)) (bytesF (l ++ [c]))), n ≤ n, (0 : Nat) + (1 : Nat) ≤ (1 : Nat)] (by kernel_rfl) (by kernel_rfl) (by kernel_rfl) ⟨(by assumption), (by omega), (by assumption), (by omega), (show (0 : Nat) + (1 : Nat) ≤ (1 : Nat) from (by omega))⟩ ?_
  refine Wp.ret' (by kernel_rfl) ?_
  exact FinQ.blk [129] (by kernel_rfl) (by kernel_rfl) (by kernel_rfl) (by kernel_rfl) (by kernel_rfl) trivial
theorem wr_a {G : Nat → Option (List Cell)} (c : UInt8) (hc : c.toNat < 128) : FnB Tryz.prog G 240 [.box 186 [.nilptr, .nilsl]] [.c (.ptr 0 0), .c (.int .i32 (c.toNat : Int))] [.c (.int .i64 1), .c .nilif] [(0, .box 186 [.ptr 0 0, .row 1 1 0 1]), (1, .row 5 1 1 (bytesF [c]))] := by
  refine Fn.of' Tryz.func240 (by kernel_rfl) (by kernel_rfl) (by kernel_rfl) (by kernel_rfl) trivial ?_
  refine Wp.go (mx := true) (fun _ => mixed) [(1, {cs := [(1, cb [0] cc_a)]}), (3, {cs := [(6, cb [] (ar_a c (by assumption)))]})] 100 [] [inR IntKind.i64 ((↑(1 : Nat) : Int) - (0 : Int))] (by kernel_rfl) (by kernel_rfl) (by kernel_rfl) (inR64 (by omega) (by omega)) ?_
  refine Wp.ret' (by kernel_rfl) ?_
  exact FinQ.blk [257] (by kernel_rfl) (by kernel_rfl) (by kernel_rfl) (by kernel_rfl) (by kernel_rfl) trivial
theorem wr_b {G : Nat → Option (List Cell)} (n : Nat) (l : List UInt8) (hn : n = l.length) (hm : n + 1 ≤ 140737488355328) (c : UInt8) (hc : c.toNat < 128) : FnB Tryz.prog G 240 [.box 186 [.ptr 0 0, .row 1 1 0 n], .row 5 1 n (bytesF l)] [.c (.ptr 0 0), .c (.int .i32 (c.toNat : Int))] [.c (.int .i64 1), .c .nilif]
    [(0, .box 186 [.ptr 0 0, .row 1 2 0 (n + 1)]), (2, .row 5 1 (n + 1) (bytesF (l ++ [c])))] := by
  refine Fn.of' Tryz.func240 (by kernel_rfl) (by kernel_rfl) (by kernel_rfl) (by kernel_rfl) trivial ?_
  refine Wp.go (mx := true) (fun _ => mixed) [(1, {cs := [(1, cb [0, 1] (cc_b n l))]}), (3, {cs := [(6, cb [1] (ar_b n l (by assumption) (by assumption) c (by assumption)))]})] 100 [] [inR IntKind.i64 ((↑(n + (1 : Nat)) : Int) - (↑n : Int))] (by kernel_rfl) (by kernel_rfl) (by kernel_rfl) (inR64 (by omega) (by omega)) ?_
  refine Wp.ret' (by kernel_rfl) ?_
  exact FinQ.blkE (rs' := [V1.c (Cell.int .i64 ((↑(n + (1 : Nat)) : Int) - (↑n : Int))), V1.c Cell.nilif]) (hout' := [(0, Blk.box 186 [Cell.ptr (0 : Nat) (0 : Nat), Cell.row (1 : Nat) (2 : Nat) (0 : Nat) (n + (1 : Nat))]), (2, Blk.row 5 (1 : Nat) (n + (1 : Nat)) (bytesF (l ++ [c])))]) ⟨by rw [show ((↑(n + 1 : Nat) : Int) - (↑n : Int)) = 1 from by omega], rfl⟩ [258] (by kernel_rfl) (by kernel_rfl) (by kernel_rfl) (by kernel_rfl) (by kernel_rfl) trivial
theorem str_a {G : Nat → Option (List Cell)} : FnB Tryz.prog G 153 [.box 186 [.nilptr, .nilsl]] [.c (.ptr 0 0)] [.c (.str [])] [] := by
  refine Fn.of' Tryz.func153 (by kernel_rfl) (by kernel_rfl) (by kernel_rfl) (by kernel_rfl) trivial ?_
  refine Wp.go (mx := true) (fun _ => mixed) [] 100 [] [(0 : Int) = (0 : Int)] (by kernel_rfl) (by kernel_rfl) (by kernel_rfl) rfl ?_
  refine Wp.ret' (by kernel_rfl) ?_
  exact FinQ.pure (rs' := [V1.c (Cell.str [])]) (by kernel_rfl) rfl (by kernel_rfl)

/-! bytes with percent signs -/
def hexU : List UInt8 := [48, 49, 50, 51, 52, 53, 54, 55, 56, 57, 65, 66, 67, 68, 69, 70]
def pctB (form : Bool) (c : UInt8) : List UInt8 := if plainB c then [c] else if form && c == 32 then [43] else [37, hexU.getD (c.toNat / 16) 0, hexU.getD (c.toNat % 16) 0]
def pctT (form : Bool) (s : List UInt8) : List UInt8 := s.flatMap (pctB form)
def pctN (form : Bool) (s : List UInt8) (k : Nat) : List UInt8 := (s.take k).flatMap (pctB form)
theorem pctN_succ (form : Bool) (s : List UInt8) (k : Nat) (h : k < s.length) : pctN form s (k + 1) = pctN form s k ++ pctB form (s.getD k 0) := by
  unfold pctN
  rw [List.take_succ_eq_append_getElem h, List.flatMap_append, List.getD_eq_getElem?_getD, List.getElem?_eq_getElem h]
  simp
theorem pctN_end (form : Bool) (s : List UInt8) : pctN form s s.length = pctT form s := by unfold pctN pctT; rw [List.take_length]
theorem pctB_len (form : Bool) (c : UInt8) : 1 ≤ (pctB form c).length ∧ (pctB form c).length ≤ 3 := by
  unfold pctB
  split
  · exact ⟨Nat.le_refl _, by simp⟩
  · split <;> simp
theorem pctN_len (form : Bool) (s : List UInt8) : ∀ k, k ≤ s.length → k ≤ (pctN form s k).length ∧ (pctN form s k).length ≤ 3 * k
  | 0, _ => by simp [pctN]
  | k + 1, h => by
    have h1 := pctN_len form s k (by omega)
    have h2 := pctB_len form (s.getD k 0)
    rw [pctN_succ form s k (by omega), List.length_append]
    omega
theorem hex7_ok {G : Nat → Option (List Cell)} (k : Nat) (hk : k < 16) : Pur Tryz.prog G 224 [.c (.int .i64 (k : Int))] [.c (.int .u8 ((hexU.getD k 0).toNat : Int))] := by
  refine Pur.of Tryz.func224 (by kernel_rfl) (by kernel_rfl) (by kernel_rfl) ?_
  have h1 : ∀ k : Nat, k < 10 → IntKind.u8.wrap (48 + (k : Int)) = ((hexU.getD k 0).toNat : Int) := by decide
  have h2 : ∀ k : Nat, k < 16 → 10 ≤ k → IntKind.u8.wrap (65 + (k : Int) - 10) = ((hexU.getD k 0).toNat : Int) := by decide
  rcases Nat.lt_or_ge k 10 with h | h
  · have h1 := h1 k h
    refine Wp.go (mx := true) (fun _ => mixed) [] 100 [true] [decide ((↑k : Int) < (10 : Int)) = true, inR IntKind.i64 ((48 : Int) + (↑k : Int))] (by kernel_rfl) (by kernel_rfl) (by kernel_rfl) ⟨(by simp; omega), inR64 (by omega) (by omega)⟩ ?_
    refine Wp.ret' (by kernel_rfl) ?_
    exact FinQ.pure (rs' := [V1.c (Cell.int .u8 (IntKind.u8.wrap ((48 : Int) + (↑k : Int))))]) (by kernel_rfl) (by simp only [Int.ofNat_eq_natCast, Int.toNat_natCast, List.take_length, List.drop_zero, *]) (by kernel_rfl)
  · have h2 := h2 k hk h
    refine Wp.go (mx := true) (fun _ => mixed) [] 100 [false] [decide ((↑k : Int) < (10 : Int)) = false, inR IntKind.i64 ((65 : Int) + (↑k : Int)), inR IntKind.i64 ((65 : Int) + (↑k : Int) - (10 : Int))] (by kernel_rfl) (by kernel_rfl) (by kernel_rfl) ⟨(by simp; omega), inR64 (by omega) (by omega), inR64 (by omega) (by omega)⟩ ?_
    refine Wp.ret' (by kernel_rfl) ?_
    exact FinQ.pure (rs' := [V1.c (Cell.int .u8 (IntKind.u8.wrap ((65 : Int) + (↑k : Int) - (10 : Int))))]) (by kernel_rfl) (by simp only [Int.ofNat_eq_natCast, Int.toNat_natCast, List.take_length, List.drop_zero, *]) (by kernel_rfl)
/-- The cells of one written byte. -/
theorem pct_cells : ∀ c : UInt8, ((c.toNat : Int).tdiv 16 = ((c.toNat / 16 : Nat) : Int)) ∧ ((c.toNat : Int).tmod 16 = ((c.toNat % 16 : Nat) : Int)) := fun c => ⟨rfl, rfl⟩
theorem enc7_ok {G : Nat → Option (List Cell)} (s : List UInt8) (form : Bool) (hl : s.length ≤ 30000000000000) : Pur Tryz.prog G 190 [.c (.str s), .c (.bool form)] [.c (.str (pctT form s))] := by
  refine Pur.of Tryz.func190 (by kernel_rfl) (by kernel_rfl) (by kernel_rfl) ?_
  refine Wp.go (mx := true) (fun _ => mixed) [] 100 [] [] (by kernel_rfl) (by kernel_rfl) (by kernel_rfl) trivial ?_
  refine Wp.loopK (by kernel_rfl) (fun (x : Nat × Nat × List UInt8) => ⟨[(0, .v (.c (.str s))), (1, .v (.c (.bool form))), (5, .v (.c (.row 1 48 0 x.2.1))), (6, .v (.c (.int .i64 (x.1 : Int))))], [(48, .row 5 1 x.2.1 (bytesF x.2.2))], 64⟩)
    (fun x => x.1 ≤ s.length ∧ x.2.2 = pctN form s x.1 ∧ x.2.1 = x.2.2.length) (fun x => s.length - x.1) (0, 0, []) (Ent.trans (Ent.empT (t := 5) (sz := 1) (e := 5) (f := bytesF []) (by decide) (by kernel_rfl) rfl) (Ent.of [] (by kernel_rfl) (by kernel_rfl) (by kernel_rfl) trivial)) ⟨Nat.zero_le _, rfl, rfl⟩ ?_
  rintro ⟨k, n, l⟩ L ⟨hk, hq, hn⟩ again
  simp only at hk hq hn
  have hlen := pctN_len form s k hk
  rw [← hq, ← hn] at hlen
  rcases Nat.lt_or_ge k s.length with hlt | hge
  · have hs := pctN_succ form s k hlt
    rw [← hq] at hs
    cases hp : plainB (s.getD k 0) with
    | true =>
      have hB : pctB form (s.getD k 0) = [s.getD k 0] := by unfold pctB; rw [if_pos hp]
      rw [hB] at hs
      have e1 : BlkEqv (.row 5 1 (n + 1) (catF n (bytesF l) (fun i j => nthD [.int .u8 ((s.getD k 0).toNat : Int)] ((0 + i) * 1 + j)))) (.row 5 1 (n + 1) (bytesF (l ++ [s.getD k 0]))) := bytes_app l [s.getD k 0] hn
      have hn' : n + 1 = (l ++ [s.getD k 0]).length := by simp [hn]
      have hs' := hs.symm
      refine Wp.go (mx := true) (fun _ => mixed) [(8, {bs := [(3, Blk.row 5 1 (n + 1) (bytesF (l ++ [s.getD k 0])))]}), (7, {cs := [(1, pc (plain6_ok (s.getD k (0 : UInt8))))]})] 100 [true, true] [decide ((↑k : Int) < (↑s.length : Int)) = true, (0 : Int) ≤ (↑k : Int) ∧ (↑k : Int) < (↑s.length : Int), plainB (s.getD k (0 : UInt8)) = true, (n + (1 : Nat)) * (1 : Nat) ≤ (140737488355328 : Nat), BlkEqv (Blk.row 5 (1 : Nat) (n + (1 : Nat)) (catF n (bytesF l) fun (i j : Nat) => nthD [Cell.int .u8 (↑(s.getD k (0 : UInt8)).toNat : Int)] (((0 : Nat) + i) * (1 : Nat) + j))) (Blk.row 5 (1 : Nat) (n + (1 : Nat)) (bytesF (l ++ [s.getD k (0 : UInt8)]))), n ≤ n, (0 : Nat) + (1 : Nat) ≤ (1 : Nat), inR IntKind.i64 ((↑k : Int) + (1 : Int))] (by kernel_rfl) (by kernel_rfl) (by kernel_rfl) ⟨(by simp; omega), (by omega), (by assumption), (by omega), (by assumption), (by omega), (by omega), inR64 (by omega) (by omega)⟩ ?_
      exact Wp.lpK (by kernel_rfl) (again _ (k + 1, n + 1, l ++ [s.getD k 0]) ⟨(by assumption), ⟨(by assumption), (by assumption)⟩⟩ (by omega) (Ent.of [(48, 288)] (by kernel_rfl) (by kernel_rfl) (by kernel_rfl) trivial))
    | false =>
      cases hf : (bif form then ((s.getD k 0).toNat : Int) == 32 else false) with
      | true =>
        have hB : pctB form (s.getD k 0) = [43] := by
          unfold pctB
          rw [if_neg (by rw [hp]; decide), if_pos]
          rw [Bool.cond_false_right, show (((s.getD k 0).toNat : Int) == 32) = (s.getD k 0 == 32) from byte_eq (by decide)] at hf
          exact hf
        rw [hB] at hs
        have e1 : BlkEqv (.row 5 1 (n + 1) (catF n (bytesF l) (fun i j => nthD [.int .u8 (43 : Int)] ((0 + i) * 1 + j)))) (.row 5 1 (n + 1) (bytesF (l ++ [43]))) := bytes_app l [43] hn
        have hn' : n + 1 = (l ++ [43]).length := by simp [hn]
        have hs' := hs.symm
        refine Wp.go (mx := true) (fun _ => mixed) [(10, {bs := [(2, Blk.row 5 1 (n + 1) (bytesF (l ++ [43])))]}), (7, {cs := [(1, pc (plain6_ok (s.getD k (0 : UInt8))))]})] 100 [true, false, true] [decide ((↑k : Int) < (↑s.length : Int)) = true, (0 : Int) ≤ (↑k : Int) ∧ (↑k : Int) < (↑s.length : Int), plainB (s.getD k (0 : UInt8)) = false, (bif form then (↑(s.getD k (0 : UInt8)).toNat : Int) == (32 : Int) else false) = true, (n + (1 : Nat)) * (1 : Nat) ≤ (140737488355328 : Nat), BlkEqv (Blk.row 5 (1 : Nat) (n + (1 : Nat)) (catF n (bytesF l) fun (i j : Nat) => nthD [Cell.int .u8 (43 : Int)] (((0 : Nat) + i) * (1 : Nat) + j))) (Blk.row 5 (1 : Nat) (n + (1 : Nat)) (bytesF (l ++ [(43 : UInt8)]))), n ≤ n, (0 : Nat) + (1 : Nat) ≤ (1 : Nat), inR IntKind.i64 ((↑k : Int) + (1 : Int))] (by kernel_rfl) (by kernel_rfl) (by kernel_rfl) ⟨(by simp; omega), (by omega), (by assumption), (by assumption), (by omega), (by assumption), (by omega), (by omega), inR64 (by omega) (by omega)⟩ ?_
        exact Wp.lpK (by kernel_rfl) (again _ (k + 1, n + 1, l ++ [43]) ⟨(by assumption), ⟨(by assumption), (by assumption)⟩⟩ (by omega) (Ent.of [(48, 368)] (by kernel_rfl) (by kernel_rfl) (by kernel_rfl) trivial))
      | false =>
        have hB : pctB form (s.getD k 0) = [37, hexU.getD ((s.getD k 0).toNat / 16) 0, hexU.getD ((s.getD k 0).toNat % 16) 0] := by
          unfold pctB
          rw [if_neg (by rw [hp]; decide), if_neg]
          rw [Bool.cond_false_right, show (((s.getD k 0).toNat : Int) == 32) = (s.getD k 0 == 32) from byte_eq (by decide)] at hf
          rw [hf]; decide
        rw [hB] at hs
        have e1 : BlkEqv (.row 5 1 (n + 3) (catF n (bytesF l) (fun i j => nthD [.int .u8 (37 : Int), .int .u8 ((hexU.getD ((s.getD k 0).toNat / 16) 0).toNat : Int), .int .u8 ((hexU.getD ((s.getD k 0).toNat % 16) 0).toNat : Int)] ((0 + i) * 1 + j)))) (.row 5 1 (n + 3) (bytesF (l ++ [37, hexU.getD ((s.getD k 0).toNat / 16) 0, hexU.getD ((s.getD k 0).toNat % 16) 0]))) := bytes_app l [37, hexU.getD ((s.getD k 0).toNat / 16) 0, hexU.getD ((s.getD k 0).toNat % 16) 0] hn
        have hn' : n + 3 = (l ++ [37, hexU.getD ((s.getD k 0).toNat / 16) 0, hexU.getD ((s.getD k 0).toNat % 16) 0]).length := by simp [hn]
        have hs' := hs.symm
        have hb := UInt8.toNat_lt (s.getD k 0)
        have e2 : EqvD (V1.c (Cell.int .i64 (IntKind.i64.wrap ((s.getD k 0).toNat : Int)))) (.c (.int .i64 ((s.getD k 0).toNat : Int))) := eqvD_of (by rw [wrap64 (by omega) (by omega)])
        have e3 : EqvD (V1.c (Cell.int .i64 (IntKind.i64.wrap (((s.getD k 0).toNat : Int).tdiv 16)))) (.c (.int .i64 ((s.getD k 0).toNat / 16 : Nat))) := eqvD_of (by rw [(pct_cells (s.getD k 0)).1, wrap64 (by omega) (by omega)])
        have e4 : EqvD (V1.c (Cell.int .i64 (((s.getD k 0).toNat : Int).tmod 16))) (.c (.int .i64 ((s.getD k 0).toNat % 16 : Nat))) := eqvD_of (by rw [(pct_cells (s.getD k 0)).2])
        have c1 : Pur Tryz.prog G 224 [.c (.int .i64 ((s.getD k 0).toNat / 16 : Nat))] [.c (.int .u8 ((hexU.getD ((s.getD k 0).toNat / 16) 0).toNat : Int))] := hex7_ok ((s.getD k 0).toNat / 16) (by omega)
        have c2 : Pur Tryz.prog G 224 [.c (.int .i64 ((s.getD k 0).toNat % 16 : Nat))] [.c (.int .u8 ((hexU.getD ((s.getD k 0).toNat % 16) 0).toNat : Int))] := hex7_ok ((s.getD k 0).toNat % 16) (by omega)
        refine Wp.go (mx := true) (fun _ => mixed) [(6, {cs := [(4, pc c1), (8, pc c2)], fm := [(2, .c (.int .i64 ((s.getD k 0).toNat : Int))), (3, .c (.int .i64 ((s.getD k 0).toNat / 16 : Nat))), (6, .c (.int .i64 ((s.getD k 0).toNat : Int))), (7, .c (.int .i64 ((s.getD k 0).toNat % 16 : Nat)))], bs := [(10, Blk.row 5 1 (n + 3) (bytesF (l ++ [37, hexU.getD ((s.getD k 0).toNat / 16) 0, hexU.getD ((s.getD k 0).toNat % 16) 0])))]}), (7, {cs := [(1, pc (plain6_ok (s.getD k (0 : UInt8))))]})] 100 [true, false, false] [decide ((↑k : Int) < (↑s.length : Int)) = true, (0 : Int) ≤ (↑k : Int) ∧ (↑k : Int) < (↑s.length : Int), plainB (s.getD k (0 : UInt8)) = false, (bif form then (↑(s.getD k (0 : UInt8)).toNat : Int) == (32 : Int) else false) = false, EqvI (V1.c (Cell.int .i64 (IntKind.i64.wrap (↑(s.getD k (0 : UInt8)).toNat : Int)))) (V1.c (Cell.int .i64 (↑(s.getD k (0 : UInt8)).toNat : Int))), EqvD (V1.c (Cell.int .i64 (IntKind.i64.wrap (↑(s.getD k (0 : UInt8)).toNat : Int)))) (V1.c (Cell.int .i64 (↑(s.getD k (0 : UInt8)).toNat : Int))), EqvI (V1.c (Cell.int .i64 (IntKind.i64.wrap ((↑(s.getD k (0 : UInt8)).toNat : Int).tdiv (16 : Int))))) (V1.c (Cell.int .i64 (↑((s.getD k (0 : UInt8)).toNat / (16 : Nat)) : Int))), EqvD (V1.c (Cell.int .i64 (IntKind.i64.wrap ((↑(s.getD k (0 : UInt8)).toNat : Int).tdiv (16 : Int))))) (V1.c (Cell.int .i64 (↑((s.getD k (0 : UInt8)).toNat / (16 : Nat)) : Int))), (16 : Int) ≠ (0 : Int), EqvI (V1.c (Cell.int .i64 (IntKind.i64.wrap (↑(s.getD k (0 : UInt8)).toNat : Int)))) (V1.c (Cell.int .i64 (↑(s.getD k (0 : UInt8)).toNat : Int))), EqvD (V1.c (Cell.int .i64 (IntKind.i64.wrap (↑(s.getD k (0 : UInt8)).toNat : Int)))) (V1.c (Cell.int .i64 (↑(s.getD k (0 : UInt8)).toNat : Int))), EqvI (V1.c (Cell.int .i64 ((↑(s.getD k (0 : UInt8)).toNat : Int).tmod (16 : Int)))) (V1.c (Cell.int .i64 (↑((s.getD k (0 : UInt8)).toNat % (16 : Nat)) : Int))), EqvD (V1.c (Cell.int .i64 ((↑(s.getD k (0 : UInt8)).toNat : Int).tmod (16 : Int)))) (V1.c (Cell.int .i64 (↑((s.getD k (0 : UInt8)).toNat % (16 : Nat)) : Int))), (16 : Int) ≠ (0 : Int), (n + (3 : Nat)) * (1 : Nat) ≤ (140737488355328 : Nat), BlkEqv (Blk.row 5 (1 : Nat) (n + (3 : Nat)) (catF n (bytesF l) fun (i j : Nat) => nthD [Cell.int .u8 (37 : Int), Cell.int .u8 (↑(hexU.getD ((s.getD k (0 : UInt8)).toNat / (16 : Nat)) (0 : UInt8)).toNat : Int), Cell.int .u8 (↑(hexU.getD ((s.getD k (0 : UInt8)).toNat % (16 : Nat)) (0 : UInt8)).toNat : Int)] (((0 : Nat) + i) * (1 : Nat) + j))) (Blk.row 5 (1 : Nat) (n + (3 : Nat)) (bytesF (l ++ [(37 : UInt8), hexU.getD ((s.getD k (0 : UInt8)).toNat / (16 : Nat)) (0 : UInt8), hexU.getD ((s.getD k (0 : UInt8)).toNat % (16 : Nat)) (0 : UInt8)]))), n ≤ n, (0 : Nat) + (3 : Nat) ≤ (3 : Nat), inR IntKind.i64 ((↑k : Int) + (1 : Int))] (by kernel_rfl) (by kernel_rfl) (by kernel_rfl) ⟨(by simp; omega), (by omega), (by assumption), (by assumption), fun _ _ => trivial, (by assumption), fun _ _ => trivial, (by assumption), (by omega), fun _ _ => trivial, (by assumption), fun _ _ => trivial, (by assumption), (by omega), (by omega), (by assumption), (by omega), (by omega), inR64 (by omega) (by omega)⟩ ?_
        exact Wp.lpK (by kernel_rfl) (again _ (k + 1, n + 3, l ++ [37, hexU.getD ((s.getD k 0).toNat / 16) 0, hexU.getD ((s.getD k 0).toNat % 16) 0]) ⟨(by assumption), ⟨(by assumption), (by assumption)⟩⟩ (by omega) (Ent.of [(48, 496)] (by kernel_rfl) (by kernel_rfl) (by kernel_rfl) trivial))
  · obtain rfl : k = s.length := by omega
    rw [pctN_end] at hq
    have ee : byteL (bytesF l) 0 n = pctT form s := by rw [byteL_F l hn, hq]
    refine Wp.go (mx := true) (fun _ => mixed) [] 100 [false] [decide ((↑s.length : Int) < (↑s.length : Int)) = false, (0 : Nat) + n ≤ n, areBytes (bytesF l) (0 : Nat) n] (by kernel_rfl) (by kernel_rfl) (by kernel_rfl) ⟨(by simp; done), (by omega), areBytes_F _ _ _⟩ ?_
    refine Wp.ret' (by kernel_rfl) ?_
    exact FinQ.pure (rs' := [V1.c (Cell.str (byteL (bytesF l) (0 : Nat) n))]) (by kernel_rfl) (by simp_all; done) (by kernel_rfl)
end Go.Proofs.Tw
end

section
open Go Go.Sv Go.RowKit
namespace Go.Proofs.Tw
attribute [local irreducible] Wp FinQ resV Ent Pur Go.Sv.Fn Sat0
set_option maxRecDepth 100000
set_option maxHeartbeats 4000000
variable {G : Nat → Option (List Cell)}

/-! more kinds of bytes -/
def sixtyB (c : UInt8) : Bool := greatB c || smallB c || digitB c || c == 45 || c == 95
theorem sixty_ok (c : UInt8) : Pur Tryz.prog G 172 [.c (.int .u8 (c.toNat : Int))] [.c (.bool (sixtyB c))] := by
  refine Pur.of Tryz.func172 (by kernel_rfl) (by kernel_rfl) (by kernel_rfl) ?_
  refine Wp.go (mx := true) (fun _ => mixed) [(1, {cs := [(1, pc (great_ok c)), (4, pc (small_ok c)), (8, pc (digit_ok c))]})] 100 [] [] (by kernel_rfl) (by kernel_rfl) (by kernel_rfl) trivial ?_
  refine Wp.ret' (by kernel_rfl) ?_
  exact FinQ.pure (rs' := [V1.c (Cell.bool (bif bif bif bif greatB c then true else smallB c then true else digitB c then true else (↑c.toNat : Int) == (45 : Int) then true else (↑c.toNat : Int) == (95 : Int)))]) (by kernel_rfl) (by revert c; refine by_all _ _ ?_; kernel_rfl) (by kernel_rfl)
theorem plain_ok (c : UInt8) : Pur Tryz.prog G 129 [.c (.int .u8 (c.toNat : Int))] [.c (.bool (plainB c))] := by
  refine Pur.of Tryz.func129 (by kernel_rfl) (by kernel_rfl) (by kernel_rfl) ?_
  refine Wp.go (mx := true) (fun _ => mixed) [(1, {cs := [(1, pc (sixty_ok c))]})] 100 [] [] (by kernel_rfl) (by kernel_rfl) (by kernel_rfl) trivial ?_
  refine Wp.ret' (by kernel_rfl) ?_
  exact FinQ.pure (rs' := [V1.c (Cell.bool (bif bif sixtyB c then true else (↑c.toNat : Int) == (46 : Int) then true else (↑c.toNat : Int) == (126 : Int)))]) (by kernel_rfl) (by revert c; refine by_all _ _ ?_; kernel_rfl) (by kernel_rfl)
theorem inHost_ok (c : UInt8) : Pur Tryz.prog G 205 [.c (.int .u8 (c.toNat : Int))] [.c (.bool (hostB c))] := by
  refine Pur.of Tryz.func205 (by kernel_rfl) (by kernel_rfl) (by kernel_rfl) ?_
  refine Wp.go (mx := true) (fun _ => mixed) [(1, {cs := [(1, pc (small_ok c)), (4, pc (digit_ok c))]})] 100 [] [] (by kernel_rfl) (by kernel_rfl) (by kernel_rfl) trivial ?_
  refine Wp.ret' (by kernel_rfl) ?_
  exact FinQ.pure (rs' := [V1.c (Cell.bool (bif bif bif smallB c then true else digitB c then true else (↑c.toNat : Int) == (45 : Int) then true else (↑c.toNat : Int) == (46 : Int)))]) (by kernel_rfl) (by revert c; refine by_all _ _ ?_; kernel_rfl) (by kernel_rfl)
theorem inPath_ok (c : UInt8) : Pur Tryz.prog G 206 [.c (.int .u8 (c.toNat : Int))] [.c (.bool (pathB c))] := by
  refine Pur.of Tryz.func206 (by kernel_rfl) (by kernel_rfl) (by kernel_rfl) ?_
  refine Wp.go (mx := true) (fun _ => mixed) [(1, {cs := [(1, pc (plain_ok c))]})] 100 [] [] (by kernel_rfl) (by kernel_rfl) (by kernel_rfl) trivial ?_
  refine Wp.ret' (by kernel_rfl) ?_
  exact FinQ.pure (rs' := [V1.c (Cell.bool (bif plainB c then true else (↑c.toNat : Int) == (47 : Int)))]) (by kernel_rfl) (by revert c; refine by_all _ _ ?_; kernel_rfl) (by kernel_rfl)
theorem All_plain (s : List UInt8) (hl : s.length < 4611686018427387904) : Pur Tryz.prog G 128 [.c (.str s), .c (.clo 129 0 (fun _ => none) (fun _ _ => .nilif))] [.c (.bool (s.all plainB))] := by
  refine Pur.of Tryz.func128 (by kernel_rfl) (by kernel_rfl) (by kernel_rfl) ?_
  refine Wp.go (mx := true) (fun _ => mixed) [] 100 [] [] (by kernel_rfl) (by kernel_rfl) (by kernel_rfl) trivial ?_
  refine Wp.loopK (by kernel_rfl) (fun (k : Nat) => ⟨[(0, TV.v (V1.c (Cell.str s))), (1, TV.v (V1.c (Cell.clo 129 (0 : Nat) (fun _ => none) fun _ _ => Cell.nilif))), (7, TV.v (V1.c (Cell.int .i64 (↑s.length : Int)))), (8, TV.v (V1.c (Cell.int .i64 (k : Int))))], [], 32⟩) (fun k => k ≤ s.length ∧ s.all plainB = (s.drop k).all plainB) (fun k => s.length - k) 0 (Ent.of [] (by kernel_rfl) (by kernel_rfl) (by kernel_rfl) trivial) ⟨Nat.zero_le _, rfl⟩ ?_
  intro k L ⟨hk, hq⟩ again
  rcases Nat.lt_or_ge k s.length with hlt | hge
  · rw [dropS s k hlt, List.all_cons] at hq
    refine Wp.go (mx := true) (fun _ => mixed) [(4, {cs := [(4, pc (plain_ok (s.getD k (0 : UInt8))))]})] 100 [true] [decide ((↑k : Int) < (↑s.length : Int)) = true, (0 : Int) ≤ (↑k : Int) ∧ (↑k : Int) < (↑s.length : Int)] (by kernel_rfl) (by kernel_rfl) (by kernel_rfl) ⟨(by simp; omega), (show (0 : Int) ≤ (↑k : Int) ∧ (↑k : Int) < (↑s.length : Int) from (by omega))⟩ ?_
    refine Wp.cond' (by kernel_rfl) (!plainB (s.getD k (0 : UInt8))) (by kernel_rfl) (fun h0 => ?_) (fun h0 => ?_)
    · have g0 := h0
      simp at g0
      refine Wp.go (mx := true) (fun _ => mixed) [] 100 [] [] (by kernel_rfl) (by kernel_rfl) (by kernel_rfl) trivial ?_
      refine Wp.ret' (by kernel_rfl) ?_
      exact FinQ.pure (rs' := [V1.c (Cell.bool false)]) (by kernel_rfl) (by simp_all; done) (by kernel_rfl)
    · have g0 := h0
      simp at g0
      refine Wp.go (mx := true) (fun _ => mixed) [] 100 [] [inR IntKind.i64 ((↑k : Int) + (1 : Int))] (by kernel_rfl) (by kernel_rfl) (by kernel_rfl) (inR64 (by omega) (by omega)) ?_
      exact Wp.lpK (by kernel_rfl) (again _ (k + 1) (⟨(by assumption), (by simp_all <;> omega)⟩) (by omega) (Ent.of [] (by kernel_rfl) (by kernel_rfl) (by kernel_rfl) trivial))
  · obtain rfl : k = s.length := by omega
    rw [List.drop_length] at hq
    refine Wp.go (mx := true) (fun _ => mixed) [] 100 [false] [decide ((↑s.length : Int) < (↑s.length : Int)) = false] (by kernel_rfl) (by kernel_rfl) (by kernel_rfl) ((show decide ((↑s.length : Int) < (↑s.length : Int)) = false from (by simp; done))) ?_
    refine Wp.ret' (by kernel_rfl) ?_
    exact FinQ.pure (rs' := [V1.c (Cell.bool true)]) (by kernel_rfl) (by simp [*]; done) (by kernel_rfl)
theorem All_host (s : List UInt8) (hl : s.length < 4611686018427387904) : Pur Tryz.prog G 128 [.c (.str s), .c (.clo 205 0 (fun _ => none) (fun _ _ => .nilif))] [.c (.bool (s.all hostB))] := by
  refine Pur.of Tryz.func128 (by kernel_rfl) (by kernel_rfl) (by kernel_rfl) ?_
  refine Wp.go (mx := true) (fun _ => mixed) [] 100 [] [] (by kernel_rfl) (by kernel_rfl) (by kernel_rfl) trivial ?_
  refine Wp.loopK (by kernel_rfl) (fun (k : Nat) => ⟨[(0, TV.v (V1.c (Cell.str s))), (1, TV.v (V1.c (Cell.clo 205 (0 : Nat) (fun _ => none) fun _ _ => Cell.nilif))), (7, TV.v (V1.c (Cell.int .i64 (↑s.length : Int)))), (8, TV.v (V1.c (Cell.int .i64 (k : Int))))], [], 32⟩) (fun k => k ≤ s.length ∧ s.all hostB = (s.drop k).all hostB) (fun k => s.length - k) 0 (Ent.of [] (by kernel_rfl) (by kernel_rfl) (by kernel_rfl) trivial) ⟨Nat.zero_le _, rfl⟩ ?_
  intro k L ⟨hk, hq⟩ again
  rcases Nat.lt_or_ge k s.length with hlt | hge
  · rw [dropS s k hlt, List.all_cons] at hq
    refine Wp.go (mx := true) (fun _ => mixed) [(4, {cs := [(4, pc (inHost_ok (s.getD k (0 : UInt8))))]})] 100 [true] [decide ((↑k : Int) < (↑s.length : Int)) = true, (0 : Int) ≤ (↑k : Int) ∧ (↑k : Int) < (↑s.length : Int)] (by kernel_rfl) (by kernel_rfl) (by kernel_rfl) ⟨(by simp; omega), (show (0 : Int) ≤ (↑k : Int) ∧ (↑k : Int) < (↑s.length : Int) from (by omega))⟩ ?_
    refine Wp.cond' (by kernel_rfl) (!hostB (s.getD k (0 : UInt8))) (by kernel_rfl) (fun h0 => ?_) (fun h0 => ?_)
    · have g0 := h0
      simp at g0
      refine Wp.go (mx := true) (fun _ => mixed) [] 100 [] [] (by kernel_rfl) (by kernel_rfl) (by kernel_rfl) trivial ?_
      refine Wp.ret' (by kernel_rfl) ?_
      exact FinQ.pure (rs' := [V1.c (Cell.bool false)]) (by kernel_rfl) (by simp_all; done) (by kernel_rfl)
    · have g0 := h0
      simp at g0
      refine Wp.go (mx := true) (fun _ => mixed) [] 100 [] [inR IntKind.i64 ((↑k : Int) + (1 : Int))] (by kernel_rfl) (by kernel_rfl) (by kernel_rfl) (inR64 (by omega) (by omega)) ?_
      exact Wp.lpK (by kernel_rfl) (again _ (k + 1) (⟨(by assumption), (by simp_all <;> omega)⟩) (by omega) (Ent.of [] (by kernel_rfl) (by kernel_rfl) (by kernel_rfl) trivial))
  · obtain rfl : k = s.length := by omega
    rw [List.drop_length] at hq
    refine Wp.go (mx := true) (fun _ => mixed) [] 100 [false] [decide ((↑s.length : Int) < (↑s.length : Int)) = false] (by kernel_rfl) (by kernel_rfl) (by kernel_rfl) ((show decide ((↑s.length : Int) < (↑s.length : Int)) = false from (by simp; done))) ?_
    refine Wp.ret' (by kernel_rfl) ?_
    exact FinQ.pure (rs' := [V1.c (Cell.bool true)]) (by kernel_rfl) (by simp [*]; done) (by kernel_rfl)
theorem All_path (s : List UInt8) (hl : s.length < 4611686018427387904) : Pur Tryz.prog G 128 [.c (.str s), .c (.clo 206 0 (fun _ => none) (fun _ _ => .nilif))] [.c (.bool (s.all pathB))] := by
  refine Pur.of Tryz.func128 (by kernel_rfl) (by kernel_rfl) (by kernel_rfl) ?_
  refine Wp.go (mx := true) (fun _ => mixed) [] 100 [] [] (by kernel_rfl) (by kernel_rfl) (by kernel_rfl) trivial ?_
  refine Wp.loopK (by kernel_rfl) (fun (k : Nat) => ⟨[(0, TV.v (V1.c (Cell.str s))), (1, TV.v (V1.c (Cell.clo 206 (0 : Nat) (fun _ => none) fun _ _ => Cell.nilif))), (7, TV.v (V1.c (Cell.int .i64 (↑s.length : Int)))), (8, TV.v (V1.c (Cell.int .i64 (k : Int))))], [], 32⟩) (fun k => k ≤ s.length ∧ s.all pathB = (s.drop k).all pathB) (fun k => s.length - k) 0 (Ent.of [] (by kernel_rfl) (by kernel_rfl) (by kernel_rfl) trivial) ⟨Nat.zero_le _, rfl⟩ ?_
  intro k L ⟨hk, hq⟩ again
  rcases Nat.lt_or_ge k s.length with hlt | hge
  · rw [dropS s k hlt, List.all_cons] at hq
    refine Wp.go (mx := true) (fun _ => mixed) [(4, {cs := [(4, pc (inPath_ok (s.getD k (0 : UInt8))))]})] 100 [true] [decide ((↑k : Int) < (↑s.length : Int)) = true, (0 : Int) ≤ (↑k : Int) ∧ (↑k : Int) < (↑s.length : Int)] (by kernel_rfl) (by kernel_rfl) (by kernel_rfl) ⟨(by simp; omega), (show (0 : Int) ≤ (↑k : Int) ∧ (↑k : Int) < (↑s.length : Int) from (by omega))⟩ ?_
    refine Wp.cond' (by kernel_rfl) (!pathB (s.getD k (0 : UInt8))) (by kernel_rfl) (fun h0 => ?_) (fun h0 => ?_)
    · have g0 := h0
      simp at g0
      refine Wp.go (mx := true) (fun _ => mixed) [] 100 [] [] (by kernel_rfl) (by kernel_rfl) (by kernel_rfl) trivial ?_
      refine Wp.ret' (by kernel_rfl) ?_
      exact FinQ.pure (rs' := [V1.c (Cell.bool false)]) (by kernel_rfl) (by simp_all; done) (by kernel_rfl)
    · have g0 := h0
      simp at g0
      refine Wp.go (mx := true) (fun _ => mixed) [] 100 [] [inR IntKind.i64 ((↑k : Int) + (1 : Int))] (by kernel_rfl) (by kernel_rfl) (by kernel_rfl) (inR64 (by omega) (by omega)) ?_
      exact Wp.lpK (by kernel_rfl) (again _ (k + 1) (⟨(by assumption), (by simp_all <;> omega)⟩) (by omega) (Ent.of [] (by kernel_rfl) (by kernel_rfl) (by kernel_rfl) trivial))
  · obtain rfl : k = s.length := by omega
    rw [List.drop_length] at hq
    refine Wp.go (mx := true) (fun _ => mixed) [] 100 [false] [decide ((↑s.length : Int) < (↑s.length : Int)) = false] (by kernel_rfl) (by kernel_rfl) (by kernel_rfl) ((show decide ((↑s.length : Int) < (↑s.length : Int)) = false from (by simp; done))) ?_
    refine Wp.ret' (by kernel_rfl) ?_
    exact FinQ.pure (rs' := [V1.c (Cell.bool true)]) (by kernel_rfl) (by simp [*]; done) (by kernel_rfl)
theorem lib_HasPrefix {G : Nat → Option (List Cell)} (s p : List UInt8) : Pur Tryz.prog G 169 [.c (.str s), .c (.str p)] [.c (.bool (Lib.hasPrefix s p))] := by
  refine Pur.of_below rfl ?_
  intro D ρ w vs h1 _ _ _
  obtain ⟨u, v, rfl, hu, hv⟩ := h1.two
  have hu : u = .string ⟨s.toArray⟩ := hu
  have hv : v = .string ⟨p.toArray⟩ := hv
  subst hu hv
  refine (Go.Proofs.Tryz.strings_HasPrefix ⟨s.toArray⟩ ⟨p.toArray⟩ w).mono ?_
  rintro e w' ⟨rfl, rfl⟩
  exact ⟨_, rfl, by simp [ResDen, DenV, Den], Below.refl _ _⟩
theorem hosted_b (h : List UInt8) : (bif bif !h == [] then decide ((h.length : Int) ≤ 64) else false then h.all hostB else false) = hostT h := by
  unfold hostT
  cases h with
  | nil => rfl
  | cons a r =>
    rw [show ((!(a :: r) == []) = true) from rfl, show decide (((a :: r).length : Int) ≤ 64) = decide ((a :: r).length ≤ 64) from decide_eq_decide.2 (by omega), show decide (1 ≤ (a :: r).length) = true from decide_eq_true (by simp)]
    cases decide ((a :: r).length ≤ 64) <;> simp
theorem pathed_b (p : List UInt8) : (bif Lib.hasPrefix p [47] then p.all pathB else false) = pathT p := by
  unfold pathT
  cases p with
  | nil => rfl
  | cons a r =>
    have : Lib.hasPrefix (a :: r) [47] = (a == 47) := by
      simp only [Lib.hasPrefix, List.isPrefixOf, Bool.and_true]
      exact Bool.beq_comm
    rw [this, show decide (1 ≤ (a :: r).length) = true from decide_eq_true (by simp), show (a :: r).getD 0 0 = a from rfl]
    cases (a == 47) <;> simp
/-- Where an address leads. -/
theorem hosted_ok (h p : List UInt8) (hl : h.length < 4611686018427387904) : Pur Tryz.prog G 163 [.agg [.str h, .str p]] [.c (.bool (hostT h))] := by
  refine Pur.of Tryz.func163 (by kernel_rfl) (by kernel_rfl) (by kernel_rfl) ?_
  refine Wp.go (mx := true) (fun _ => mixed) [(1, {cs := [(12, pc (All_host h (by assumption)))]})] 100 [] [] (by kernel_rfl) (by kernel_rfl) (by kernel_rfl) trivial ?_
  refine Wp.ret' (by kernel_rfl) ?_
  exact FinQ.pure (rs' := [V1.c (Cell.bool (bif bif !h == [] then decide ((↑h.length : Int) ≤ (64 : Int)) else false then h.all hostB else false))]) (by kernel_rfl) (by_b (hosted_b h)) (by kernel_rfl)
theorem pathed_ok (h p : List UInt8) (hl : p.length < 4611686018427387904) : Pur Tryz.prog G 164 [.agg [.str h, .str p]] [.c (.bool (pathT p))] := by
  refine Pur.of Tryz.func164 (by kernel_rfl) (by kernel_rfl) (by kernel_rfl) ?_
  refine Wp.go (mx := true) (fun _ => mixed) [(1, {cs := [(2, pc (lib_HasPrefix p [(47 : UInt8)])), (6, pc (All_path p (by assumption)))]})] 100 [] [] (by kernel_rfl) (by kernel_rfl) (by kernel_rfl) trivial ?_
  refine Wp.ret' (by kernel_rfl) ?_
  exact FinQ.pure (rs' := [V1.c (Cell.bool (bif Lib.hasPrefix p [(47 : UInt8)] then p.all pathB else false))]) (by kernel_rfl) (by_b (pathed_b p)) (by kernel_rfl)
end Go.Proofs.Tw
end

section
open Go Go.Sv
namespace Go.Proofs.Tw
attribute [local irreducible] Wp FinQ resV Ent Pur Go.Sv.Fn Sat0
set_option maxRecDepth 100000
set_option maxHeartbeats 4000000

/-! the program's own -/
def digC : List Cell := hexU.map fun c => .int .i32 (c.toNat : Int)
/-- The seat's tables, with the digits. -/
def Gp : Nat → Option (List Cell)
  | 1 => some digC
  | n => Tw.Gd n
theorem Pur.grow {P : Program} {G G' : Nat → Option (List Cell)} {f : FuncId} {args rs : List V1} (h : ∀ g cs, G g = some cs → G' g = some cs) (hp : Pur P G f args rs) : Pur P G' f args rs := by
  unfold Pur Go.Sv.Fn at hp ⊢
  intro D ρ w vs h1 h2 h3
  exact hp D ρ w vs h1 (fun g cs hg => h2 g cs (h g cs hg)) (fun g cs hg => h3 g cs (h g cs hg))
theorem Gd_Gp : ∀ g cs, Tw.Gd g = some cs → Gp g = some cs := by
  intro g cs h
  unfold Gp
  split
  · cases h
  · exact h
def bareR (form : Bool) (c : UInt8) : UInt8 := if form && c == 32 then 43 else c
def bareB (form : Bool) (c : UInt8) : Bool := (form && c == 32) || plainB c
theorem bare_ok {G : Nat → Option (List Cell)} (c : UInt8) (form : Bool) : Pur Tryz.prog G 239 [.c (.int .u8 (c.toNat : Int)), .c (.bool form)] [.c (.int .i32 ((bareR form c).toNat : Int)), .c (.bool (bareB form c))] := by
  refine Pur.of Tryz.func239 (by kernel_rfl) (by kernel_rfl) (by kernel_rfl) ?_
  have hb := UInt8.toNat_lt c
  have e1 : EqvD (V1.c (Cell.int .i32 (IntKind.i32.wrap (c.toNat : Int)))) (.c (.int .i32 (c.toNat : Int))) := eqvD_of (by
    have : IntKind.i32.wrap (c.toNat : Int) = (c.toNat : Int) := by simp [IntKind.wrap, IntKind.bits, IntKind.signed]; omega
    rw [this])
  cases hf : (bif form then (c.toNat : Int) == 32 else false) with
  | true =>
    have h2 : (form && c == 32) = true := by
      rw [Bool.cond_false_right, show ((c.toNat : Int) == 32) = (c == 32) from byte_eq (by decide)] at hf
      exact hf
    have h3 : bareR form c = 43 := by unfold bareR; rw [h2]; rfl
    have h4 : bareB form c = true := by unfold bareB; rw [h2]; rfl
    rw [h3, h4]
    refine Wp.go (mx := true) (fun _ => mixed) [] 100 [true] [(bif form then (↑c.toNat : Int) == (32 : Int) else false) = true] (by kernel_rfl) (by kernel_rfl) (by kernel_rfl) (show (bif form then (↑c.toNat : Int) == (32 : Int) else false) = true from (by assumption)) ?_
    refine Wp.ret' (by kernel_rfl) ?_
    exact FinQ.pure (rs' := [V1.c (Cell.int .i32 (43 : Int)), V1.c (Cell.bool true)]) (by kernel_rfl) rfl (by kernel_rfl)
  | false =>
    have h2 : (form && c == 32) = false := by
      rw [Bool.cond_false_right, show ((c.toNat : Int) == 32) = (c == 32) from byte_eq (by decide)] at hf
      exact hf
    have h3 : bareR form c = c := by unfold bareR; rw [h2]; rfl
    have h4 : bareB form c = plainB c := by unfold bareB; rw [h2]; rfl
    rw [h3, h4]
    refine Wp.go (mx := true) (fun _ => mixed) [(3, {cs := [(3, pc (plain_ok c))], fm := [(1, .c (.int .i32 (c.toNat : Int)))]})] 100 [false] [(bif form then (↑c.toNat : Int) == (32 : Int) else false) = false, EqvI (V1.c (Cell.int .i32 (IntKind.i32.wrap (↑c.toNat : Int)))) (V1.c (Cell.int .i32 (↑c.toNat : Int))), EqvD (V1.c (Cell.int .i32 (IntKind.i32.wrap (↑c.toNat : Int)))) (V1.c (Cell.int .i32 (↑c.toNat : Int)))] (by kernel_rfl) (by kernel_rfl) (by kernel_rfl) ⟨(by assumption), fun _ _ => trivial, (show EqvD (V1.c (Cell.int .i32 (IntKind.i32.wrap (↑c.toNat : Int)))) (V1.c (Cell.int .i32 (↑c.toNat : Int))) from (by assumption))⟩ ?_
    refine Wp.ret' (by kernel_rfl) ?_
    exact FinQ.pure (rs' := [V1.c (Cell.int .i32 (↑c.toNat : Int)), V1.c (Cell.bool (plainB c))]) (by kernel_rfl) rfl (by kernel_rfl)
theorem pctB_bare (form : Bool) (c : UInt8) (h : bareB form c = true) : pctB form c = [bareR form c] ∧ (bareR form c).toNat < 128 := by
  have h32 : ∀ form, (!(bareB form c) || (pctB form c == [bareR form c] && decide ((bareR form c).toNat < 128))) = true := by
    intro form
    cases form
    · exact byte_all (fun c => (!(bareB false c) || (pctB false c == [bareR false c] && decide ((bareR false c).toNat < 128)))) (by kernel_rfl) c
    · exact byte_all (fun c => (!(bareB true c) || (pctB true c == [bareR true c] && decide ((bareR true c).toNat < 128)))) (by kernel_rfl) c
  have := h32 form
  rw [h, Bool.not_true, Bool.false_or, Bool.and_eq_true] at this
  exact ⟨eq_of_beq this.1, of_decide_eq_true this.2⟩
theorem pctB_hex (form : Bool) (c : UInt8) (h : bareB form c = false) : pctB form c = [37, hexU.getD (c.toNat / 16) 0, hexU.getD (c.toNat % 16) 0] := by
  unfold bareB at h
  rw [Bool.or_eq_false_iff] at h
  unfold pctB
  rw [if_neg (by rw [h.2]; decide), if_neg (by rw [h.1]; decide)]
theorem hexU_lt : ∀ k : Nat, (hexU.getD k 0).toNat < 128 := by
  intro k
  rcases Nat.lt_or_ge k 16 with h | h
  · have : ∀ k : Nat, k < 16 → (hexU.getD k 0).toNat < 128 := by decide
    exact this k h
  · rw [List.getD_eq_getElem?_getD, List.getElem?_eq_none (by exact h)]; decide
theorem dig_cell (j : Nat) (hj : j < 16) : nthD digC j = .int .i32 ((hexU.getD j 0).toNat : Int) := by
  have : j = 0 ∨ j = 1 ∨ j = 2 ∨ j = 3 ∨ j = 4 ∨ j = 5 ∨ j = 6 ∨ j = 7 ∨ j = 8 ∨ j = 9 ∨ j = 10 ∨ j = 11 ∨ j = 12 ∨ j = 13 ∨ j = 14 ∨ j = 15 := by omega
  rcases this with rfl | rfl | rfl | rfl | rfl | rfl | rfl | rfl | rfl | rfl | rfl | rfl | rfl | rfl | rfl | rfl <;> rfl
def hiI (c : UInt8) : Int := (c.toNat : Int).fdiv (2 ^ 4)
def loI (c : UInt8) : Int := Int.ofNat ((BitVec.ofInt IntKind.u8.bits (c.toNat : Int) &&& BitVec.ofInt IntKind.u8.bits 15).toNat % (2 ^ IntKind.u8.bits : Int).natAbs)
theorem hi_rng (c : UInt8) : 0 ≤ Tw.hiI c ∧ Tw.hiI c < ((16 : Nat) : Int) := of_decide_eq_true (byte_all (fun c => decide (0 ≤ Tw.hiI c ∧ Tw.hiI c < ((16 : Nat) : Int))) (by kernel_rfl) c)
theorem lo_rng (c : UInt8) : 0 ≤ Tw.loI c ∧ Tw.loI c < ((16 : Nat) : Int) := of_decide_eq_true (byte_all (fun c => decide (0 ≤ Tw.loI c ∧ Tw.loI c < ((16 : Nat) : Int))) (by kernel_rfl) c)
theorem hi_den (c : UInt8) : EqvD (V1.c (nthD digC ((Tw.hiI c).toNat * 1 + 0))) (.c (.int .i32 ((hexU.getD (c.toNat / 16) 0).toNat : Int))) := eqvD_of (by
  have h : (Tw.hiI c).toNat * 1 + 0 = c.toNat / 16 := eq_of_beq (byte_all (fun c => (Tw.hiI c).toNat * 1 + 0 == c.toNat / 16) (by kernel_rfl) c)
  rw [h, dig_cell _ (by have := UInt8.toNat_lt c; omega)])
theorem lo_den (c : UInt8) : EqvD (V1.c (nthD digC ((Tw.loI c).toNat * 1 + 0))) (.c (.int .i32 ((hexU.getD (c.toNat % 16) 0).toNat : Int))) := eqvD_of (by
  have h : (Tw.loI c).toNat * 1 + 0 = c.toNat % 16 := eq_of_beq (byte_all (fun c => (Tw.loI c).toNat * 1 + 0 == c.toNat % 16) (by kernel_rfl) c)
  rw [h, dig_cell _ (by omega)])
theorem wr_37 {G : Nat → Option (List Cell)} : FnB Tryz.prog G 240 [.box 186 [.nilptr, .nilsl]] [.c (.ptr 0 0), .c (.int .i32 37)] [.c (.int .i64 1), .c .nilif] [(0, .box 186 [.ptr 0 0, .row 1 1 0 1]), (1, .row 5 1 1 (bytesF [37]))] := wr_a 37 (by decide)
theorem wr_38 {G : Nat → Option (List Cell)} (n : Nat) (l : List UInt8) (hn : n = l.length) (hm : n + 1 ≤ 140737488355328) : FnB Tryz.prog G 240 [.box 186 [.ptr 0 0, .row 1 1 0 n], .row 5 1 n (bytesF l)] [.c (.ptr 0 0), .c (.int .i32 37)] [.c (.int .i64 1), .c .nilif]
    [(0, .box 186 [.ptr 0 0, .row 1 2 0 (n + 1)]), (2, .row 5 1 (n + 1) (bytesF (l ++ [37])))] := wr_b n l hn hm 37 (by decide)
def encInv (s : List UInt8) (form : Bool) : Nat × Option (Nat × List UInt8) → St
  | (k, none) => ⟨[(0, .v (.c (.str s))), (1, .v (.c (.bool form))), (5, .v (.c (.ptr 16 0))), (10, .v (.c (.int .i64 (s.length : Int)))), (11, .v (.c (.int .i64 (k : Int))))], [(16, .box 186 [.nilptr, .nilsl])], 80⟩
  | (k, some (n, l)) => ⟨[(0, .v (.c (.str s))), (1, .v (.c (.bool form))), (5, .v (.c (.ptr 16 0))), (10, .v (.c (.int .i64 (s.length : Int)))), (11, .v (.c (.int .i64 (k : Int))))], [(16, .box 186 [.ptr 16 0, .row 1 64 0 n]), (64, .row 5 1 n (bytesF l))], 80⟩
def encFacts (s : List UInt8) (form : Bool) : Nat × Option (Nat × List UInt8) → Prop
  | (k, none) => k ≤ s.length ∧ k = 0
  | (k, some (n, l)) => k ≤ s.length ∧ l = pctN form s k ∧ n = l.length ∧ 0 < n
theorem enc_ok (s : List UInt8) (form : Bool) (hl : s.length ≤ 30000000000000) : Pur Tryz.prog Gp 209 [.c (.str s), .c (.bool form)] [.c (.str (pctT form s))] := by
  refine Pur.of Tryz.func209 (by kernel_rfl) (by kernel_rfl) (by kernel_rfl) ?_
  refine Wp.go (mx := true) (fun _ => mixed) [] 100 [] [] (by kernel_rfl) (by kernel_rfl) (by kernel_rfl) trivial ?_
  refine Wp.loopK (by kernel_rfl) (encInv s form) (encFacts s form) (fun x => s.length - x.1) (0, none) (Ent.of [] (by kernel_rfl) (by kernel_rfl) (by kernel_rfl) trivial) ⟨Nat.zero_le _, rfl⟩ ?_
  rintro ⟨k, _ | ⟨n, l⟩⟩ L hf again
  · obtain ⟨hk, h0⟩ := hf
    subst h0
    rcases Nat.lt_or_ge 0 s.length with hlt | hge
    · have hs := pctN_succ form s 0 hlt
      rw [show pctN form s 0 = [] from rfl, List.nil_append] at hs
      have hcell := pct_cells (s.getD 0 0)
      cases hB : bareB form (s.getD 0 0) with
      | true =>
        obtain ⟨h1, h2⟩ := pctB_bare form _ hB
        rw [h1] at hs
        have hnx : encFacts s form (1, some (1, [bareR form (s.getD 0 0)])) := ⟨hlt, hs.symm, rfl, Nat.one_pos⟩
        have cbr := bare_ok (G := Gp) (s.getD 0 0) form
        rw [hB] at cbr
        refine Wp.go (mx := true) (fun _ => mixed) [(5, {cs := [(4, pc cbr)]}), (7, {cs := [(1, cb [16] (wr_a (bareR form (s.getD (0 : Nat) (0 : UInt8))) (by assumption)))]})] 100 [true, true] [decide ((↑(0 : Nat) : Int) < (↑s.length : Int)) = true, (0 : Int) ≤ (↑(0 : Nat) : Int) ∧ (↑(0 : Nat) : Int) < (↑s.length : Int), true = true, inR IntKind.i64 ((↑(0 : Nat) : Int) + (1 : Int))] (by kernel_rfl) (by kernel_rfl) (by kernel_rfl) ⟨(by simp; omega), (by omega), rfl, inR64 (by omega) (by omega)⟩ ?_
        exact Wp.lpK (by kernel_rfl) (again _ (1, some (1, [bareR form (s.getD 0 0)])) (by assumption) (by omega) (Ent.of [(64, 320)] (by kernel_rfl) (by kernel_rfl) (by kernel_rfl) trivial))
      | false =>
        have h1 := pctB_hex form _ hB
        rw [h1] at hs
        have hnx : encFacts s form (1, some (3, [37, hexU.getD ((s.getD 0 0).toNat / 16) 0, hexU.getD ((s.getD 0 0).toNat % 16) 0])) := ⟨hlt, hs.symm, rfl, by omega⟩
        have cbr := bare_ok (G := Gp) (s.getD 0 0) form
        rw [hB] at cbr
        have r1 := hi_rng (s.getD 0 0)
        have r2 := hi_den (s.getD 0 0)
        have r3 := lo_rng (s.getD 0 0)
        have r4 := lo_den (s.getD 0 0)
        unfold Tw.hiI at r1 r2
        unfold Tw.loI at r3 r4
        have hx1 := hexU_lt ((s.getD 0 0).toNat / 16)
        have hx2 := hexU_lt ((s.getD 0 0).toNat % 16)
        refine Wp.go (mx := true) (fun _ => mixed) [(9, {cs := [(6, cb [16, 304] (wr_b (1 : Nat) [(37 : UInt8)] rfl (by omega) (hexU.getD ((s.getD (0 : Nat) (0 : UInt8)).toNat / (16 : Nat)) (0 : UInt8)) (by assumption)))], fm := [(5, .c (.int .i32 ((hexU.getD ((s.getD 0 0).toNat / 16) 0).toNat : Int)))]}), (10, {cs := [(6, cb [16, 416] (wr_b ((1 : Nat) + (1 : Nat)) ([(37 : UInt8)] ++ [hexU.getD ((s.getD (0 : Nat) (0 : UInt8)).toNat / (16 : Nat)) (0 : UInt8)]) rfl (by omega) (hexU.getD ((s.getD (0 : Nat) (0 : UInt8)).toNat % (16 : Nat)) (0 : UInt8)) (by assumption)))], fm := [(5, .c (.int .i32 ((hexU.getD ((s.getD 0 0).toNat % 16) 0).toNat : Int)))]}), (5, {cs := [(4, pc cbr)]}), (8, {cs := [(0, cb [16] wr_37)]})] 100 [true, false] [decide ((↑(0 : Nat) : Int) < (↑s.length : Int)) = true, (0 : Int) ≤ (↑(0 : Nat) : Int) ∧ (↑(0 : Nat) : Int) < (↑s.length : Int), false = false, (0 : Int) ≤ (↑(0 : Nat) : Int) ∧ (↑(0 : Nat) : Int) < (↑s.length : Int), (0 : Int) ≤ (4 : Int), (0 : Int) ≤ (↑(s.getD (0 : Nat) (0 : UInt8)).toNat : Int).fdiv ((2 : Int) ^ (4 : Nat)) ∧ (↑(s.getD (0 : Nat) (0 : UInt8)).toNat : Int).fdiv ((2 : Int) ^ (4 : Nat)) < (↑(16 : Nat) : Int), EqvD (V1.c (nthD digC (((↑(s.getD (0 : Nat) (0 : UInt8)).toNat : Int).fdiv ((2 : Int) ^ (4 : Nat))).toNat * (1 : Nat) + (0 : Nat)))) (V1.c (Cell.int .i32 (↑(hexU.getD ((s.getD (0 : Nat) (0 : UInt8)).toNat / (16 : Nat)) (0 : UInt8)).toNat : Int))), (0 : Int) ≤ (↑(0 : Nat) : Int) ∧ (↑(0 : Nat) : Int) < (↑s.length : Int), (0 : Int) ≤ Int.ofNat ((BitVec.ofInt IntKind.u8.bits (↑(s.getD (0 : Nat) (0 : UInt8)).toNat : Int) &&& BitVec.ofInt IntKind.u8.bits (15 : Int)).toNat % ((2 : Int) ^ IntKind.u8.bits).natAbs) ∧ Int.ofNat ((BitVec.ofInt IntKind.u8.bits (↑(s.getD (0 : Nat) (0 : UInt8)).toNat : Int) &&& BitVec.ofInt IntKind.u8.bits (15 : Int)).toNat % ((2 : Int) ^ IntKind.u8.bits).natAbs) < (↑(16 : Nat) : Int), EqvD (V1.c (nthD digC ((Int.ofNat ((BitVec.ofInt IntKind.u8.bits (↑(s.getD (0 : Nat) (0 : UInt8)).toNat : Int) &&& BitVec.ofInt IntKind.u8.bits (15 : Int)).toNat % ((2 : Int) ^ IntKind.u8.bits).natAbs)).toNat * (1 : Nat) + (0 : Nat)))) (V1.c (Cell.int .i32 (↑(hexU.getD ((s.getD (0 : Nat) (0 : UInt8)).toNat % (16 : Nat)) (0 : UInt8)).toNat : Int))), inR IntKind.i64 ((↑(0 : Nat) : Int) + (1 : Int))] (by kernel_rfl) (by kernel_rfl) (by kernel_rfl) ⟨(by simp; omega), (by omega), rfl, (by omega), (by omega), (by omega), (by assumption), (by omega), (by omega), (by assumption), inR64 (by omega) (by omega)⟩ ?_
        exact Wp.lpK (by kernel_rfl) (again _ (1, some (3, [37, hexU.getD ((s.getD 0 0).toNat / 16) 0, hexU.getD ((s.getD 0 0).toNat % 16) 0])) (by assumption) (by omega) (Ent.of [(64, 528)] (by kernel_rfl) (by kernel_rfl) (by kernel_rfl) trivial))
    · have hs : pctT form s = [] := by
        have : s = [] := List.eq_nil_of_length_eq_zero (by omega)
        rw [this]; rfl
      rw [hs]
      refine Wp.go (mx := true) (fun _ => mixed) [(12, {cs := [(0, cb [16] str_a)]})] 100 [false] [decide ((↑(0 : Nat) : Int) < (↑s.length : Int)) = false] (by kernel_rfl) (by kernel_rfl) (by kernel_rfl) (show decide ((↑(0 : Nat) : Int) < (↑s.length : Int)) = false from (by simp_all <;> omega)) ?_
      refine Wp.ret' (by kernel_rfl) ?_
      exact FinQ.pure (rs' := [V1.c (Cell.str [])]) (by kernel_rfl) rfl (by kernel_rfl)
  · obtain ⟨hk, hq, hn, hpos⟩ := hf
    have hlen := pctN_len form s k hk
    rw [← hq, ← hn] at hlen
    rcases Nat.lt_or_ge k s.length with hlt | hge
    · have hs := pctN_succ form s k hlt
      rw [← hq] at hs
      have hcell := pct_cells (s.getD k 0)
      cases hB : bareB form (s.getD k 0) with
      | true =>
        obtain ⟨h1, h2⟩ := pctB_bare form _ hB
        rw [h1] at hs
        have hnx : encFacts s form (k + 1, some (n + 1, l ++ [bareR form (s.getD k 0)])) := ⟨hlt, hs.symm, by simp [hn], by omega⟩
        have cbr := bare_ok (G := Gp) (s.getD k 0) form
        rw [hB] at cbr
        clear hs
        refine Wp.go (mx := true) (fun _ => mixed) [(5, {cs := [(4, pc cbr)]}), (7, {cs := [(1, cb [16, 64] (wr_b n l (by assumption) (by omega) (bareR form (s.getD k (0 : UInt8))) (by assumption)))]})] 100 [true, true] [decide ((↑k : Int) < (↑s.length : Int)) = true, (0 : Int) ≤ (↑k : Int) ∧ (↑k : Int) < (↑s.length : Int), true = true, inR IntKind.i64 ((↑k : Int) + (1 : Int))] (by kernel_rfl) (by kernel_rfl) (by kernel_rfl) ⟨(by simp; omega), (by omega), rfl, inR64 (by omega) (by omega)⟩ ?_
        exact Wp.lpK (by kernel_rfl) (again _ (k + 1, some (n + 1, l ++ [bareR form (s.getD k 0)])) (by assumption) (by omega) (Ent.of [(64, 320)] (by kernel_rfl) (by kernel_rfl) (by kernel_rfl) trivial))
      | false =>
        have h1 := pctB_hex form _ hB
        rw [h1] at hs
        have hn1 : n + 1 = (l ++ [37]).length := by simp [hn]
        have hn2 : n + 1 + 1 = ((l ++ [37]) ++ [hexU.getD ((s.getD k 0).toNat / 16) 0]).length := by simp [hn]
        have hnx : encFacts s form (k + 1, some (n + 1 + 1 + 1, ((l ++ [37]) ++ [hexU.getD ((s.getD k 0).toNat / 16) 0]) ++ [hexU.getD ((s.getD k 0).toNat % 16) 0])) := ⟨hlt, by rw [hs]; simp, by simp [hn], by omega⟩
        have cbr := bare_ok (G := Gp) (s.getD k 0) form
        rw [hB] at cbr
        have r1 := hi_rng (s.getD k 0)
        have r2 := hi_den (s.getD k 0)
        have r3 := lo_rng (s.getD k 0)
        have r4 := lo_den (s.getD k 0)
        unfold Tw.hiI at r1 r2
        unfold Tw.loI at r3 r4
        have hx1 := hexU_lt ((s.getD k 0).toNat / 16)
        have hx2 := hexU_lt ((s.getD k 0).toNat % 16)
        clear hs
        refine Wp.go (mx := true) (fun _ => mixed) [(9, {cs := [(6, cb [16, 304] (wr_b (n + (1 : Nat)) (l ++ [(37 : UInt8)]) (by assumption) (by omega) (hexU.getD ((s.getD k (0 : UInt8)).toNat / (16 : Nat)) (0 : UInt8)) (by assumption)))], fm := [(5, .c (.int .i32 ((hexU.getD ((s.getD k 0).toNat / 16) 0).toNat : Int)))]}), (10, {cs := [(6, cb [16, 416] (wr_b (n + (1 : Nat) + (1 : Nat)) (l ++ [(37 : UInt8)] ++ [hexU.getD ((s.getD k (0 : UInt8)).toNat / (16 : Nat)) (0 : UInt8)]) (by assumption) (by omega) (hexU.getD ((s.getD k (0 : UInt8)).toNat % (16 : Nat)) (0 : UInt8)) (by assumption)))], fm := [(5, .c (.int .i32 ((hexU.getD ((s.getD k 0).toNat % 16) 0).toNat : Int)))]}), (5, {cs := [(4, pc cbr)]}), (8, {cs := [(0, cb [16, 64] (wr_38 n l (by assumption) (by omega)))]})] 100 [true, false] [decide ((↑k : Int) < (↑s.length : Int)) = true, (0 : Int) ≤ (↑k : Int) ∧ (↑k : Int) < (↑s.length : Int), false = false, (0 : Int) ≤ (↑k : Int) ∧ (↑k : Int) < (↑s.length : Int), (0 : Int) ≤ (4 : Int), (0 : Int) ≤ (↑(s.getD k (0 : UInt8)).toNat : Int).fdiv ((2 : Int) ^ (4 : Nat)) ∧ (↑(s.getD k (0 : UInt8)).toNat : Int).fdiv ((2 : Int) ^ (4 : Nat)) < (↑(16 : Nat) : Int), EqvD (V1.c (nthD digC (((↑(s.getD k (0 : UInt8)).toNat : Int).fdiv ((2 : Int) ^ (4 : Nat))).toNat * (1 : Nat) + (0 : Nat)))) (V1.c (Cell.int .i32 (↑(hexU.getD ((s.getD k (0 : UInt8)).toNat / (16 : Nat)) (0 : UInt8)).toNat : Int))), (0 : Int) ≤ (↑k : Int) ∧ (↑k : Int) < (↑s.length : Int), (0 : Int) ≤ Int.ofNat ((BitVec.ofInt IntKind.u8.bits (↑(s.getD k (0 : UInt8)).toNat : Int) &&& BitVec.ofInt IntKind.u8.bits (15 : Int)).toNat % ((2 : Int) ^ IntKind.u8.bits).natAbs) ∧ Int.ofNat ((BitVec.ofInt IntKind.u8.bits (↑(s.getD k (0 : UInt8)).toNat : Int) &&& BitVec.ofInt IntKind.u8.bits (15 : Int)).toNat % ((2 : Int) ^ IntKind.u8.bits).natAbs) < (↑(16 : Nat) : Int), EqvD (V1.c (nthD digC ((Int.ofNat ((BitVec.ofInt IntKind.u8.bits (↑(s.getD k (0 : UInt8)).toNat : Int) &&& BitVec.ofInt IntKind.u8.bits (15 : Int)).toNat % ((2 : Int) ^ IntKind.u8.bits).natAbs)).toNat * (1 : Nat) + (0 : Nat)))) (V1.c (Cell.int .i32 (↑(hexU.getD ((s.getD k (0 : UInt8)).toNat % (16 : Nat)) (0 : UInt8)).toNat : Int))), inR IntKind.i64 ((↑k : Int) + (1 : Int))] (by kernel_rfl) (by kernel_rfl) (by kernel_rfl) ⟨(by simp; omega), (by omega), rfl, (by omega), (by omega), (by omega), (by assumption), (by omega), (by omega), (by assumption), inR64 (by omega) (by omega)⟩ ?_
        exact Wp.lpK (by kernel_rfl) (again _ (k + 1, some (n + 1 + 1 + 1, ((l ++ [37]) ++ [hexU.getD ((s.getD k 0).toNat / 16) 0]) ++ [hexU.getD ((s.getD k 0).toNat % 16) 0])) (by assumption) (by omega) (Ent.of [(64, 528)] (by kernel_rfl) (by kernel_rfl) (by kernel_rfl) trivial))
    · obtain rfl : k = s.length := by omega
      rw [pctN_end] at hq
      rw [← hq]
      refine Wp.go (mx := true) (fun _ => mixed) [(12, {cs := [(0, cb [16, 64] (str_b n l (by assumption) (by assumption) (by omega)))]})] 100 [false] [decide ((↑s.length : Int) < (↑s.length : Int)) = false] (by kernel_rfl) (by kernel_rfl) (by kernel_rfl) (show decide ((↑s.length : Int) < (↑s.length : Int)) = false from (by simp; done)) ?_
      refine Wp.ret' (by kernel_rfl) ?_
      exact FinQ.pure (rs' := [V1.c (Cell.str l)]) (by kernel_rfl) rfl (by kernel_rfl)
end Go.Proofs.Tw
end

section
open Go Go.Sv
namespace Go.Proofs.Tw
attribute [local irreducible] Wp FinQ resV Ent Pur Go.Sv.Fn Sat0
set_option maxRecDepth 100000
set_option maxHeartbeats 4000000

/-! fields as a text -/
def fieldQ (f : FT) : List UInt8 := pctT true f.name ++ [61] ++ pctT true f.value
def partsQ (l : List FT) (k : Nat) : List (List UInt8) := (l.take k).map fieldQ
def printQ (l : List FT) : List UInt8 := Lib.join (l.map fieldQ) [38]
theorem partsQ_succ (l : List FT) (k : Nat) (h : k < l.length) : partsQ l (k + 1) = partsQ l k ++ [fieldQ (l.getD k .nil)] := by
  unfold partsQ
  rw [List.take_succ_eq_append_getElem h, List.map_append, List.getD_eq_getElem?_getD, List.getElem?_eq_getElem h]
  rfl
theorem partsQ_end (l : List FT) : Lib.join (partsQ l l.length) [38] = printQ l := by unfold partsQ printQ; rw [List.take_length]
theorem partsQ_len (l : List FT) (k : Nat) (h : k ≤ l.length) : (partsQ l k).length = k := by unfold partsQ; simp; omega
theorem pctT_len (form : Bool) (s : List UInt8) : s.length ≤ (pctT form s).length := by
  have := pctN_len form s s.length (Nat.le_refl _)
  rw [pctN_end] at this
  exact this.1
theorem fieldQ_len (f : FT) : (fieldQ f).length = (pctT true f.name).length + (pctT true f.value).length + 1 := by unfold fieldQ; simp; omega
theorem joinQ_le (l : List FT) {k : Nat} (h : k ≤ l.length) : (Lib.join (partsQ l k) [38]).length ≤ (printQ l).length := by
  rw [← partsQ_end]
  obtain ⟨d, hd⟩ := Nat.exists_eq_add_of_le h
  rw [hd]
  clear hd
  induction d with
  | zero => exact Nat.le_refl _
  | succ d ih =>
    refine Nat.le_trans ih ?_
    rcases Nat.lt_or_ge (k + d) l.length with hlt | hge
    · rw [← Nat.add_assoc, partsQ_succ l _ hlt, join_snoc]
      split
      · rename_i h0; rw [h0]; exact Nat.zero_le _
      · simp only [List.length_append]; omega
    · have : partsQ l (k + (d + 1)) = partsQ l (k + d) := by unfold partsQ; rw [List.take_of_length_le hge, List.take_of_length_le (by omega)]
      rw [this]; exact Nat.le_refl _
theorem fieldQ_le (l : List FT) {k : Nat} (h : k < l.length) : (fieldQ (l.getD k .nil)).length ≤ (printQ l).length := by
  have hm : fieldQ (l.getD k .nil) ∈ l.map fieldQ := List.mem_map.2 ⟨_, by rw [List.getD_eq_getElem?_getD, List.getElem?_eq_getElem h]; exact List.getElem_mem h, rfl⟩
  exact join_part [38] hm
theorem str_one (l : List (List UInt8)) (i j : Nat) (hj : j < 1) : strsF l (0 + i) j = nthD [.str (l.getD i [])] j := by
  obtain rfl : j = 0 := by omega
  rw [Nat.zero_add]; rfl
theorem printQ_ok (l : List FT) (hn : l.length ≤ 1000000000000) (hj : (printQ l).length ≤ 10000000000000) : Pur Tryz.prog Gp 167 [.c (encH l)] [.c (.str (printQ l))] := by
  refine Pur.of Tryz.func167 (by kernel_rfl) (by kernel_rfl) (by kernel_rfl) ?_
  refine Wp.go (mx := true) (fun _ => mixed) [] 100 [] [] (by kernel_rfl) (by kernel_rfl) (by kernel_rfl) trivial ?_
  refine Wp.loopK (by kernel_rfl) (fun (k : Nat) => ⟨[(3, .v (.c (.row 1 80 0 k))), (6, .v (.c (encH l))), (7, .v (.c (.int .i64 (l.length : Int)))), (8, .v (.c (.int .i64 (k : Int))))], [(80, .row 9 1 k (strsF (partsQ l k)))], 96⟩)
    (fun k => k ≤ l.length) (fun k => l.length - k) 0 (Ent.trans (Ent.empT (t := 3) (sz := 1) (e := 9) (f := strsF []) (by decide) (by kernel_rfl) rfl) (Ent.of [] (by kernel_rfl) (by kernel_rfl) (by kernel_rfl) trivial)) (Nat.zero_le _) ?_
  intro k L hk again
  rcases Nat.lt_or_ge k l.length with hlt | hge
  · have h1 := fieldQ_le l hlt
    rw [fieldQ_len] at h1
    have h2 := pctT_len true (l.getD k .nil).name
    have h3 := pctT_len true (l.getD k .nil).value
    have e1 : BlkEqv (.row 9 1 (k + 1) (catF k (strsF (partsQ l k)) (fun i j => nthD [.str (pctT true (l.getD k .nil).name ++ [61] ++ pctT true (l.getD k .nil).value)] ((0 + i) * 1 + j)))) (.row 9 1 (k + 1) (strsF (partsQ l (k + 1)))) := by
      rw [partsQ_succ l k hlt]; exact strs_app _ _ (partsQ_len l k (by omega)).symm
    refine Wp.go (mx := true) (fun _ => mixed) [(5, {cs := [(3, pc (enc_ok ((l.getD k FT.nil).name) true (by omega))), (7, pc (enc_ok ((l.getD k FT.nil).value) true (by omega)))], bs := [(10, Blk.row 9 1 (k + 1) (strsF (partsQ l (k + 1))))]})] 100 [true] [decide ((↑k : Int) < (↑l.length : Int)) = true, (0 : Int) ≤ (↑k : Int) ∧ (↑k : Int) < (↑l.length : Int), (pctT true (l.getD k FT.nil).name).length + (1 : Nat) ≤ (9223372036854775807 : Nat), (pctT true (l.getD k FT.nil).name ++ [(61 : UInt8)]).length + (pctT true (l.getD k FT.nil).value).length ≤ (9223372036854775807 : Nat), (k + (1 : Nat)) * (16 : Nat) ≤ (140737488355328 : Nat), BlkEqv (Blk.row 9 (1 : Nat) (k + (1 : Nat)) (catF k (strsF (partsQ l k)) fun (i j : Nat) => nthD [Cell.str (pctT true (l.getD k FT.nil).name ++ [(61 : UInt8)] ++ pctT true (l.getD k FT.nil).value)] (((0 : Nat) + i) * (1 : Nat) + j))) (Blk.row 9 (1 : Nat) (k + (1 : Nat)) (strsF (partsQ l (k + (1 : Nat))))), k ≤ k, (0 : Nat) + (1 : Nat) ≤ (1 : Nat), inR IntKind.i64 ((↑k : Int) + (1 : Int))] (by kernel_rfl) (by kernel_rfl) (by kernel_rfl) ⟨(by simp; omega), (by omega), (by omega), (by simp_all <;> omega), (by omega), (by assumption), (by omega), (by omega), inR64 (by omega) (by omega)⟩ ?_
    exact Wp.lpK (by kernel_rfl) (again _ (k + 1) (by assumption) (by omega) (Ent.of [(80, 336)] (by kernel_rfl) (by kernel_rfl) (by kernel_rfl) trivial))
  · obtain rfl : k = l.length := by omega
    have hp := partsQ_len l l.length (Nat.le_refl _)
    have hjn : (Lib.join (partsQ l l.length) [38]).length ≤ 140737488355328 := by rw [partsQ_end]; omega
    have cj : Pur Tryz.prog Gp 157 [.c (.sl 1 (partsQ l l.length).length (fun i j => nthD [.str ((partsQ l l.length).getD i [])] j)), .c (.str [38])] [.c (.str (printQ l))] := by
      have := lib_Join (G := Gp) (partsQ l l.length) [38] (by omega) hjn
      rw [partsQ_end] at this
      exact this
    refine Wp.ent' (by kernel_rfl) (Ent.pubT (e := 9) (sz := 1) (id := 80) (t := 3) (off := 0) (m := l.length) (n := l.length) (f := (strsF (partsQ l l.length))) (m' := (partsQ l l.length).length) (f' := (fun i j => nthD [.str ((partsQ l l.length).getD i [])] j)) (by kernel_rfl) (by kernel_rfl) (by omega) hp.symm (fun i _ j hj => str_one _ i j hj) rfl) ?_
    refine Wp.go (mx := true) (fun _ => mixed) [(7, {cs := [(1, pc cj)]})] 100 [false] [decide ((↑l.length : Int) < (↑l.length : Int)) = false] (by kernel_rfl) (by kernel_rfl) (by kernel_rfl) (show decide ((↑l.length : Int) < (↑l.length : Int)) = false from (by simp; done)) ?_
    refine Wp.ret' (by kernel_rfl) ?_
    exact FinQ.pure (rs' := [V1.c (Cell.str (printQ l))]) (by kernel_rfl) rfl (by kernel_rfl)
theorem print10_ok {G : Nat → Option (List Cell)} (l : List FT) (hn : l.length ≤ 1000000000000) (hj : (printQ l).length ≤ 10000000000000) : Pur Tryz.prog G 162 [.c (encH l)] [.c (.str (printQ l))] := by
  refine Pur.of Tryz.func162 (by kernel_rfl) (by kernel_rfl) (by kernel_rfl) ?_
  refine Wp.go (mx := true) (fun _ => mixed) [] 100 [] [] (by kernel_rfl) (by kernel_rfl) (by kernel_rfl) trivial ?_
  refine Wp.loopK (by kernel_rfl) (fun (k : Nat) => ⟨[(0, TV.v (V1.c (encH l))), (3, TV.v (V1.c (Cell.str (Lib.join (partsQ l k) [38])))), (4, TV.v (V1.c (Cell.int .i64 (k : Int))))], [], 48⟩) (fun k => k ≤ l.length) (fun k => l.length - k) 0 (Ent.of [] (by kernel_rfl) (by kernel_rfl) (by kernel_rfl) trivial) (Nat.zero_le _) ?_
  intro k L hk again
  have h0 := joinQ_le l hk
  rcases Nat.lt_or_ge k l.length with hlt | hge
  · have h1 := fieldQ_le l hlt
    rw [fieldQ_len] at h1
    have h2 := pctT_len true (l.getD k .nil).name
    have h3 := pctT_len true (l.getD k .nil).value
    have h4 := joinQ_le l (show k + 1 ≤ l.length from hlt)
    have hs := join_snoc (partsQ l k) (fieldQ (l.getD k .nil)) [38]
    rw [← partsQ_succ l k hlt] at hs
    rcases Nat.eq_zero_or_pos k with rfl | hpos
    · rw [if_pos (show partsQ l 0 = [] from rfl)] at hs
      rw [show Lib.join (partsQ l 0) [38] = [] from rfl]
      have hs' : [] ++ pctT true (l.getD 0 .nil).name ++ [61] ++ pctT true (l.getD 0 .nil).value = Lib.join (partsQ l (0 + 1)) [38] := by rw [hs]; rfl
      have e1 : EqvD (V1.c (Cell.str ([] ++ pctT true (l.getD 0 .nil).name ++ [61] ++ pctT true (l.getD 0 .nil).value))) (.c (.str (Lib.join (partsQ l (0 + 1)) [38]))) := eqvD_of (by rw [hs'])
      refine Wp.go (mx := true) (fun _ => mixed) [(7, {cs := [(6, pc (enc7_ok ((l.getD (0 : Nat) FT.nil).name) true (by omega))), (14, pc (enc7_ok ((l.getD (0 : Nat) FT.nil).value) true (by omega)))], fm := [(16, .c (.str (Lib.join (partsQ l (0 + 1)) [38])))]})] 100 [true, false] [decide ((↑(0 : Nat) : Int) < (↑l.length : Int)) = true, decide ((↑(0 : Nat) : Int) > (0 : Int)) = false, (0 : Int) ≤ (↑(0 : Nat) : Int) ∧ (↑(0 : Nat) : Int) < (↑l.length : Int), ([] : List UInt8).length + (pctT true (l.getD (0 : Nat) FT.nil).name).length ≤ (9223372036854775807 : Nat), ([] ++ pctT true (l.getD (0 : Nat) FT.nil).name).length + (1 : Nat) ≤ (9223372036854775807 : Nat), (0 : Int) ≤ (↑(0 : Nat) : Int) ∧ (↑(0 : Nat) : Int) < (↑l.length : Int), ([] ++ pctT true (l.getD (0 : Nat) FT.nil).name ++ [(61 : UInt8)]).length + (pctT true (l.getD (0 : Nat) FT.nil).value).length ≤ (9223372036854775807 : Nat), EqvI (V1.c (Cell.str ([] ++ pctT true (l.getD (0 : Nat) FT.nil).name ++ [(61 : UInt8)] ++ pctT true (l.getD (0 : Nat) FT.nil).value))) (V1.c (Cell.str (Lib.join (partsQ l ((0 : Nat) + (1 : Nat))) [(38 : UInt8)]))), EqvD (V1.c (Cell.str ([] ++ pctT true (l.getD (0 : Nat) FT.nil).name ++ [(61 : UInt8)] ++ pctT true (l.getD (0 : Nat) FT.nil).value))) (V1.c (Cell.str (Lib.join (partsQ l ((0 : Nat) + (1 : Nat))) [(38 : UInt8)]))), inR IntKind.i64 ((↑(0 : Nat) : Int) + (1 : Int))] (by kernel_rfl) (by kernel_rfl) (by kernel_rfl) ⟨(by simp; omega), rfl, (by omega), (by simp_all <;> omega), (by simp_all <;> omega), (by omega), (by simp_all <;> omega), fun _ _ => trivial, (by assumption), inR64 (by omega) (by omega)⟩ ?_
      exact Wp.lpK (by kernel_rfl) (again _ (0 + 1) (by assumption) (by omega) (Ent.of [] (by kernel_rfl) (by kernel_rfl) (by kernel_rfl) trivial))
    · rw [if_neg (by intro h0; have := partsQ_len l k hk; rw [h0] at this; simp at this; omega)] at hs
      have hs' : Lib.join (partsQ l k) [38] ++ [38] ++ pctT true (l.getD k .nil).name ++ [61] ++ pctT true (l.getD k .nil).value = Lib.join (partsQ l (k + 1)) [38] := by rw [hs]; unfold fieldQ; simp
      have h5 := congrArg List.length hs'
      simp only [List.length_append, List.length_cons, List.length_nil] at h5
      have e1 : EqvD (V1.c (Cell.str (Lib.join (partsQ l k) [38] ++ [38] ++ pctT true (l.getD k .nil).name ++ [61] ++ pctT true (l.getD k .nil).value))) (.c (.str (Lib.join (partsQ l (k + 1)) [38]))) := eqvD_of (by rw [hs'])
      refine Wp.go (mx := true) (fun _ => mixed) [(7, {cs := [(6, pc (enc7_ok ((l.getD k FT.nil).name) true (by omega))), (14, pc (enc7_ok ((l.getD k FT.nil).value) true (by omega)))], fm := [(16, .c (.str (Lib.join (partsQ l (k + 1)) [38])))]})] 100 [true, true] [decide ((↑k : Int) < (↑l.length : Int)) = true, decide ((↑k : Int) > (0 : Int)) = true, (Lib.join (partsQ l k) [(38 : UInt8)]).length + (1 : Nat) ≤ (9223372036854775807 : Nat), (0 : Int) ≤ (↑k : Int) ∧ (↑k : Int) < (↑l.length : Int), (Lib.join (partsQ l k) [(38 : UInt8)] ++ [(38 : UInt8)]).length + (pctT true (l.getD k FT.nil).name).length ≤ (9223372036854775807 : Nat), (Lib.join (partsQ l k) [(38 : UInt8)] ++ [(38 : UInt8)] ++ pctT true (l.getD k FT.nil).name).length + (1 : Nat) ≤ (9223372036854775807 : Nat), (0 : Int) ≤ (↑k : Int) ∧ (↑k : Int) < (↑l.length : Int), (Lib.join (partsQ l k) [(38 : UInt8)] ++ [(38 : UInt8)] ++ pctT true (l.getD k FT.nil).name ++ [(61 : UInt8)]).length + (pctT true (l.getD k FT.nil).value).length ≤ (9223372036854775807 : Nat), EqvI (V1.c (Cell.str (Lib.join (partsQ l k) [(38 : UInt8)] ++ [(38 : UInt8)] ++ pctT true (l.getD k FT.nil).name ++ [(61 : UInt8)] ++ pctT true (l.getD k FT.nil).value))) (V1.c (Cell.str (Lib.join (partsQ l (k + (1 : Nat))) [(38 : UInt8)]))), EqvD (V1.c (Cell.str (Lib.join (partsQ l k) [(38 : UInt8)] ++ [(38 : UInt8)] ++ pctT true (l.getD k FT.nil).name ++ [(61 : UInt8)] ++ pctT true (l.getD k FT.nil).value))) (V1.c (Cell.str (Lib.join (partsQ l (k + (1 : Nat))) [(38 : UInt8)]))), inR IntKind.i64 ((↑k : Int) + (1 : Int))] (by kernel_rfl) (by kernel_rfl) (by kernel_rfl) ⟨(by simp; omega), (by simp; omega), (by omega), (by omega), (by simp_all <;> omega), (by simp_all <;> omega), (by omega), (by simp_all <;> omega), fun _ _ => trivial, (by assumption), inR64 (by omega) (by omega)⟩ ?_
      exact Wp.lpK (by kernel_rfl) (again _ (k + 1) (by assumption) (by omega) (Ent.of [] (by kernel_rfl) (by kernel_rfl) (by kernel_rfl) trivial))
  · obtain rfl : k = l.length := by omega
    rw [partsQ_end]
    refine Wp.go (mx := true) (fun _ => mixed) [] 100 [false] [decide ((↑l.length : Int) < (↑l.length : Int)) = false] (by kernel_rfl) (by kernel_rfl) (by kernel_rfl) (show decide ((↑l.length : Int) < (↑l.length : Int)) = false from (by simp; done)) ?_
    refine Wp.ret' (by kernel_rfl) ?_
    exact FinQ.pure (rs' := [V1.c (Cell.str (printQ l))]) (by kernel_rfl) rfl (by kernel_rfl)
end Go.Proofs.Tw
end

section
open Go Go.Sv
namespace Go.Proofs.Tw
attribute [local irreducible] Wp FinQ resV Ent Pur Go.Sv.Fn Sat0
set_option maxRecDepth 100000
set_option maxHeartbeats 4000000
variable {G : Nat → Option (List Cell)}

/-! names that are unlike -/
def isIn (l : List (List UInt8)) (s : List UInt8) : Bool := l.any (· == s)
theorem idxU_ok (l : List (List UInt8)) (n : Nat) (s : List UInt8) (hn : n = l.length) (hl : n < 4611686018427387904) : Pur Tryz.prog G 238 [.c (.sl 1 n (strsF l)), .c (.str s)] [.c (.int .i64 (ixF (· == s) l))] := by
  subst hn
  refine Pur.of Tryz.func238 (by kernel_rfl) (by kernel_rfl) (by kernel_rfl) ?_
  refine Wp.go (mx := true) (fun _ => mixed) [] 100 [] [] (by kernel_rfl) (by kernel_rfl) (by kernel_rfl) trivial ?_
  refine Wp.go (mx := true) (fun _ => mixed) [] 100 [] [] (by kernel_rfl) (by kernel_rfl) (by kernel_rfl) trivial ?_
  refine Wp.loopK (by kernel_rfl) (fun (k : Nat) => ⟨[(0, TV.v (V1.c (Cell.sl 1 l.length (strsF l)))), (1, TV.v (V1.c (Cell.str s))), (7, TV.v (V1.c (Cell.int .i64 (l.length : Int)))), (8, TV.v (V1.c (Cell.int .i64 (k : Int))))], [], 64⟩) (fun k => k ≤ l.length ∧ ∀ i, i < k → (l.getD i [] == s) = false) (fun k => l.length - k) 0 (Ent.of [] (by kernel_rfl) (by kernel_rfl) (by kernel_rfl) trivial) ⟨Nat.zero_le _, fun _ h => absurd h (Nat.not_lt_zero _)⟩ ?_
  intro k L ⟨hk, hall⟩ again
  rcases Nat.lt_or_ge k l.length with hlt | hge
  · cases hq : (s == l.getD k []) with
    | true =>
      have hq' : (l.getD k [] == s) = true := by rw [Bool.beq_comm]; exact hq
      rw [ixF_some (d := []) hlt hall hq']
      refine Wp.go (mx := true) (fun _ => mixed) [] 100 [true, true] [decide ((↑k : Int) < (↑l.length : Int)) = true, (0 : Int) ≤ (↑k : Int) ∧ (↑k : Int) < (↑l.length : Int), (s == l.getD k []) = true] (by kernel_rfl) (by kernel_rfl) (by kernel_rfl) ⟨(by simp; omega), (by omega), (show (s == l.getD k []) = true from (by assumption))⟩ ?_
      refine Wp.ret' (by kernel_rfl) ?_
      exact FinQ.pure (rs' := [V1.c (Cell.int .i64 (↑k : Int))]) (by kernel_rfl) rfl (by kernel_rfl)
    | false =>
      have hq' : (l.getD k [] == s) = false := by rw [Bool.beq_comm]; exact hq
      have hall' := up1 hall hq'
      refine Wp.go (mx := true) (fun _ => mixed) [] 100 [true, false] [decide ((↑k : Int) < (↑l.length : Int)) = true, (0 : Int) ≤ (↑k : Int) ∧ (↑k : Int) < (↑l.length : Int), (s == l.getD k []) = false, inR IntKind.i64 ((↑k : Int) + (1 : Int))] (by kernel_rfl) (by kernel_rfl) (by kernel_rfl) ⟨(by simp; omega), (by omega), (by assumption), inR64 (by omega) (by omega)⟩ ?_
      exact Wp.lpK (by kernel_rfl) (again _ (k + 1) ⟨(by assumption), (by assumption)⟩ (by omega) (Ent.of [] (by kernel_rfl) (by kernel_rfl) (by kernel_rfl) trivial))
  · rw [ixF_none (d := []) (fun i hi => hall i (by omega))]
    refine Wp.go (mx := true) (fun _ => mixed) [] 100 [false] [decide ((↑k : Int) < (↑l.length : Int)) = false] (by kernel_rfl) (by kernel_rfl) (by kernel_rfl) (show decide ((↑k : Int) < (↑l.length : Int)) = false from (by simp; omega)) ?_
    refine Wp.ret' (by kernel_rfl) ?_
    exact FinQ.pure (rs' := [V1.c (Cell.int .i64 (-1 : Int))]) (by kernel_rfl) rfl (by kernel_rfl)
theorem conU_ok (l : List (List UInt8)) (n : Nat) (s : List UInt8) (hn : n = l.length) (hl : n < 4611686018427387904) : Pur Tryz.prog G 208 [.c (.sl 1 n (strsF l)), .c (.str s)] [.c (.bool (isIn l s))] := by
  refine Pur.of Tryz.func208 (by kernel_rfl) (by kernel_rfl) (by kernel_rfl) ?_
  have hx := ixF_any (· == s) l
  refine Wp.go (mx := true) (fun _ => mixed) [(1, {cs := [(2, pc (idxU_ok l n s (by assumption) (by assumption)))]})] 100 [] [] (by kernel_rfl) (by kernel_rfl) (by kernel_rfl) trivial ?_
  refine Wp.ret' (by kernel_rfl) ?_
  exact FinQ.pure (rs' := [V1.c (Cell.bool (decide (ixF (fun (x : List UInt8) => x == s) l ≥ (0 : Int))))]) (by kernel_rfl) (by simp [isIn, *]; done) (by kernel_rfl)
theorem conU_nil (s : List UInt8) : Pur Tryz.prog G 208 [.c .nilsl, .c (.str s)] [.c (.bool false)] := by
  have c : Pur Tryz.prog G 238 [.c .nilsl, .c (.str s)] [.c (.int .i64 (-1))] := by
    refine Pur.of Tryz.func238 (by kernel_rfl) (by kernel_rfl) (by kernel_rfl) ?_
    refine Wp.go (mx := true) (fun _ => mixed) [] 100 [] [] (by kernel_rfl) (by kernel_rfl) (by kernel_rfl) trivial ?_
    refine Wp.loopK (by kernel_rfl) (fun (k : Nat) => ⟨[(0, TV.v (V1.c Cell.nilsl)), (1, TV.v (V1.c (Cell.str s))), (7, TV.v (V1.c (Cell.int .i64 0))), (8, TV.v (V1.c (Cell.int .i64 0)))], [], 64⟩) (fun k => k = 0) (fun k => k) 0 (Ent.of [] (by kernel_rfl) (by kernel_rfl) (by kernel_rfl) trivial) rfl ?_
    intro k L hk again
    refine Wp.go (mx := true) (fun _ => mixed) [] 100 [false] [decide ((0 : Int) < (0 : Int)) = false] (by kernel_rfl) (by kernel_rfl) (by kernel_rfl) rfl ?_
    refine Wp.ret' (by kernel_rfl) ?_
    exact FinQ.pure (rs' := [V1.c (Cell.int .i64 (-1 : Int))]) (by kernel_rfl) rfl (by kernel_rfl)
  refine Pur.of Tryz.func208 (by kernel_rfl) (by kernel_rfl) (by kernel_rfl) ?_
  refine Wp.go (mx := true) (fun _ => mixed) [(1, {cs := [(2, pc c)]})] 100 [] [] (by kernel_rfl) (by kernel_rfl) (by kernel_rfl) trivial ?_
  refine Wp.ret' (by kernel_rfl) ?_
  exact FinQ.pure (rs' := [V1.c (Cell.bool (decide ((-1 : Int) ≥ (0 : Int))))]) (by kernel_rfl) rfl (by kernel_rfl)
/-- Has a name been there, or is it none? -/
theorem tw_a1 (f : FT) (h : (f.name == []) = true) : FnB Tryz.prog G 166 [.box 200 [.nilsl]] [.c (.ptr 0 0), .agg [.str f.name, .str f.value]] [.c (.bool true)] [(0, .box 200 [.nilsl])] := by
  refine Fn.of' Tryz.func166 (by kernel_rfl) (by kernel_rfl) (by kernel_rfl) (by kernel_rfl) trivial ?_
  refine Wp.go (mx := true) (fun _ => mixed) [(1, {cs := [(9, pc (conU_nil f.name))]})] 100 [true] [(bif f.name == [] then true else false) = true] (by kernel_rfl) (by kernel_rfl) (by kernel_rfl) (show (bif f.name == [] then true else false) = true from (by simp_all <;> omega)) ?_
  refine Wp.ret' (by kernel_rfl) ?_
  exact FinQ.blk [] (by kernel_rfl) (by kernel_rfl) (by kernel_rfl) (by kernel_rfl) (by kernel_rfl) trivial
theorem tw_a2 (f : FT) (h : (f.name == []) = false) : FnB Tryz.prog G 166 [.box 200 [.nilsl]] [.c (.ptr 0 0), .agg [.str f.name, .str f.value]] [.c (.bool false)] [(0, .box 200 [.row 1 1 0 1]), (1, .row 9 1 1 (strsF [f.name]))] := by
  refine Fn.of' Tryz.func166 (by kernel_rfl) (by kernel_rfl) (by kernel_rfl) (by kernel_rfl) trivial ?_
  have e1 : BlkEqv (.row 9 1 1 (catF 0 (fun _ _ => .nilif) (fun i j => nthD [.str f.name] ((0 + i) * 1 + j)))) (.row 9 1 1 (strsF [f.name])) := by
    refine BlkEqv.row_ext rfl fun i hi j hj => ?_
    obtain ⟨rfl, rfl⟩ : i = 0 ∧ j = 0 := by omega
    rfl
  refine Wp.go (mx := true) (fun _ => mixed) [(3, {bs := [(7, Blk.row 9 1 1 (strsF [f.name]))]}), (1, {cs := [(9, pc (conU_nil f.name))]})] 100 [false] [(bif f.name == [] then true else false) = false, (16 : Nat) ≤ (140737488355328 : Nat), BlkEqv (Blk.row 9 (1 : Nat) (1 : Nat) (catF (0 : Nat) (fun (x x_1 : Nat) => Cell.nilif) fun (i j : Nat) => nthD [Cell.str f.name] (((0 : Nat) + i) * (1 : Nat) + j))) (Blk.row 9 (1 : Nat) (1 : Nat) (strsF [f.name])), (0 : Nat) + (1 : Nat) ≤ (1 : Nat)] (by kernel_rfl) (by kernel_rfl) (by kernel_rfl) ⟨(by simp_all <;> omega), (by omega), (by assumption), (show (0 : Nat) + (1 : Nat) ≤ (1 : Nat) from (by omega))⟩ ?_
  refine Wp.ret' (by kernel_rfl) ?_
  exact FinQ.blk [321] (by kernel_rfl) (by kernel_rfl) (by kernel_rfl) (by kernel_rfl) (by kernel_rfl) trivial
theorem tw_b1 (l : List (List UInt8)) (n : Nat) (hn : n = l.length) (hl : n < 1000000000000) (f : FT) (h : (f.name == []) = true) : FnB Tryz.prog G 166 [.box 200 [.row 1 1 0 n], .row 9 1 n (strsF l)] [.c (.ptr 0 0), .agg [.str f.name, .str f.value]] [.c (.bool true)] [(0, .box 200 [.row 1 1 0 n]), (1, .row 9 1 n (strsF l))] := by
  refine Fn.of' Tryz.func166 (by kernel_rfl) (by kernel_rfl) (by kernel_rfl) (by kernel_rfl) trivial ?_
  refine Wp.go (mx := true) (fun _ => mixed) [(1, {grd := [(4, false), (5, false), (6, false), (7, false), (8, false), (9, false), (10, true)], cs := [(9, lc [1] [Blk.row 9 (1 : Nat) n (strsF l)] [V1.c (Cell.row (1 : Nat) (0 : Nat) (0 : Nat) n), V1.c (Cell.str f.name)] (conU_ok l n f.name (by assumption) (by omega)) (by kernel_rfl) (by kernel_rfl) (by kernel_rfl) (show (0 : Nat) + n ≤ n from (by omega)))]})] 100 [true] [(f.name == []) = !false, (f.name == []) = !false, (f.name == []) = !false, (f.name == []) = !false, (f.name == []) = !false, (f.name == []) = !false, (f.name == []) = true, true = true] (by kernel_rfl) (by kernel_rfl) (by kernel_rfl) ⟨(by assumption), (by assumption), (by assumption), (by assumption), (by assumption), (by assumption), (by assumption), rfl⟩ ?_
  refine Wp.ret' (by kernel_rfl) ?_
  exact FinQ.blk [] (by kernel_rfl) (by kernel_rfl) (by kernel_rfl) (by kernel_rfl) (by kernel_rfl) trivial
theorem tw_b2 (l : List (List UInt8)) (n : Nat) (hn : n = l.length) (hl : n < 1000000000000) (f : FT) (h : (f.name == []) = false) (hi : isIn l f.name = true) : FnB Tryz.prog G 166 [.box 200 [.row 1 1 0 n], .row 9 1 n (strsF l)] [.c (.ptr 0 0), .agg [.str f.name, .str f.value]] [.c (.bool true)] [(0, .box 200 [.row 1 1 0 n]), (1, .row 9 1 n (strsF l))] := by
  refine Fn.of' Tryz.func166 (by kernel_rfl) (by kernel_rfl) (by kernel_rfl) (by kernel_rfl) trivial ?_
  have c := conU_ok (G := G) l n f.name hn (by omega)
  rw [hi] at c
  refine Wp.go (mx := true) (fun _ => mixed) [(1, {grd := [(4, true), (5, true), (6, true), (7, true), (8, true), (9, true)], cs := [(9, lc [1] [Blk.row 9 (1 : Nat) n (strsF l)] [V1.c (Cell.row (1 : Nat) (0 : Nat) (0 : Nat) n), V1.c (Cell.str f.name)] c (by kernel_rfl) (by kernel_rfl) (by kernel_rfl) (show (0 : Nat) + n ≤ n from (by omega)))]})] 100 [true] [(f.name == []) = false, (f.name == []) = false, (f.name == []) = false, (f.name == []) = false, (f.name == []) = false, (f.name == []) = false, (bif f.name == [] then true else true) = true] (by kernel_rfl) (by kernel_rfl) (by kernel_rfl) ⟨(by assumption), (by assumption), (by assumption), (by assumption), (by assumption), (by assumption), (show (bif f.name == [] then true else true) = true from (by simp; done))⟩ ?_
  refine Wp.ret' (by kernel_rfl) ?_
  exact FinQ.blk [] (by kernel_rfl) (by kernel_rfl) (by kernel_rfl) (by kernel_rfl) (by kernel_rfl) trivial
theorem tw_b3 (l : List (List UInt8)) (n : Nat) (hn : n = l.length) (hl : n < 1000000000000) (f : FT) (h : (f.name == []) = false) (hi : isIn l f.name = false) : FnB Tryz.prog G 166 [.box 200 [.row 1 1 0 n], .row 9 1 n (strsF l)] [.c (.ptr 0 0), .agg [.str f.name, .str f.value]] [.c (.bool false)] [(0, .box 200 [.row 1 2 0 (n + 1)]), (2, .row 9 1 (n + 1) (strsF (l ++ [f.name])))] := by
  refine Fn.of' Tryz.func166 (by kernel_rfl) (by kernel_rfl) (by kernel_rfl) (by kernel_rfl) trivial ?_
  have c := conU_ok (G := G) l n f.name hn (by omega)
  rw [hi] at c
  have e1 : BlkEqv (.row 9 1 (n + 1) (catF n (strsF l) (fun i j => nthD [.str f.name] ((0 + i) * 1 + j)))) (.row 9 1 (n + 1) (strsF (l ++ [f.name]))) := strs_app l f.name hn
  refine Wp.go (mx := true) (fun _ => mixed) [(3, {bs := [(7, Blk.row 9 1 (n + 1) (strsF (l ++ [f.name])))]}), (1, {grd := [(4, true), (5, true), (6, true), (7, true), (8, true), (9, true)], cs := [(9, lc [1] [Blk.row 9 (1 : Nat) n (strsF l)] [V1.c (Cell.row (1 : Nat) (0 : Nat) (0 : Nat) n), V1.c (Cell.str f.name)] c (by kernel_rfl) (by kernel_rfl) (by kernel_rfl) (show (0 : Nat) + n ≤ n from (by omega)))]})] 100 [false] [(f.name == []) = false, (f.name == []) = false, (f.name == []) = false, (f.name == []) = false, (f.name == []) = false, (f.name == []) = false, (bif f.name == [] then true else false) = false, (n + (1 : Nat)) * (16 : Nat) ≤ (140737488355328 : Nat), BlkEqv (Blk.row 9 (1 : Nat) (n + (1 : Nat)) (catF n (strsF l) fun (i j : Nat) => nthD [Cell.str f.name] (((0 : Nat) + i) * (1 : Nat) + j))) (Blk.row 9 (1 : Nat) (n + (1 : Nat)) (strsF (l ++ [f.name]))), n ≤ n, (0 : Nat) + (1 : Nat) ≤ (1 : Nat)] (by kernel_rfl) (by kernel_rfl) (by kernel_rfl) ⟨(by assumption), (by assumption), (by assumption), (by assumption), (by assumption), (by assumption), (by simp_all <;> omega), (by omega), (by assumption), (by omega), (show (0 : Nat) + (1 : Nat) ≤ (1 : Nat) from (by omega))⟩ ?_
  refine Wp.ret' (by kernel_rfl) ?_
  exact FinQ.blk [322] (by kernel_rfl) (by kernel_rfl) (by kernel_rfl) (by kernel_rfl) (by kernel_rfl) trivial
end Go.Proofs.Tw
end

section
open Go Go.Sv
namespace Go.Proofs.Tw
attribute [local irreducible] Wp FinQ resV Ent Pur Go.Sv.Fn Sat0
set_option maxRecDepth 100000
set_option maxHeartbeats 4000000

def namesQ (l : List FT) (k : Nat) : List (List UInt8) := (l.take k).map (·.name)
def okQ (l : List FT) (i : Nat) : Bool := !((l.getD i .nil).name == []) && !isIn (namesQ l i) (l.getD i .nil).name
def unlikeQ (l : List FT) : Bool := (List.range l.length).all (okQ l)
theorem namesQ_succ (l : List FT) (k : Nat) (h : k < l.length) : namesQ l (k + 1) = namesQ l k ++ [(l.getD k .nil).name] := by
  unfold namesQ
  rw [List.take_succ_eq_append_getElem h, List.map_append, List.getD_eq_getElem?_getD, List.getElem?_eq_getElem h]
  rfl
theorem namesQ_len (l : List FT) (k : Nat) (h : k ≤ l.length) : k = (namesQ l k).length := by unfold namesQ; simp; omega
def dupI (l : List FT) : Int := ixF (fun i => !okQ l i) (List.range l.length)
theorem dup_some {l : List FT} {k : Nat} (hk : k < l.length) (hall : ∀ i, i < k → okQ l i = true) (h : okQ l k = false) : dupI l = (k : Int) := by
  unfold dupI
  refine ixF_some (d := 0) (by simpa using hk) (fun i hi => ?_) ?_
  · rw [List.getD_eq_getElem?_getD, List.getElem?_range (by omega)]; simp [hall i hi]
  · rw [List.getD_eq_getElem?_getD, List.getElem?_range hk]; simp [h]
theorem dup_none {l : List FT} (hall : ∀ i, i < l.length → okQ l i = true) : dupI l = -1 := by
  unfold dupI
  refine ixF_none (d := 0) (fun i hi => ?_)
  rw [List.length_range] at hi
  rw [List.getD_eq_getElem?_getD, List.getElem?_range hi]; simp [hall i hi]
theorem dup_unl (l : List FT) : decide (dupI l ≥ 0) = !unlikeQ l := by
  unfold dupI unlikeQ
  rw [ixF_any, List.not_all_eq_any_not]
def idxInvF (l : List FT) : Option Nat → St
  | none => ⟨[(0, .v (.c (encH l))), (1, .v (.c (clo1 (166 + 1000000000) (.ptr 0 0)))), (7, .v (.c (.int .i64 (l.length : Int)))), (8, .v (.c (.int .i64 0)))], [(0, .box 200 [.nilsl])], 65⟩
  | some k => ⟨[(0, .v (.c (encH l))), (1, .v (.c (clo1 (166 + 1000000000) (.ptr 0 0)))), (7, .v (.c (.int .i64 (l.length : Int)))), (8, .v (.c (.int .i64 (k : Int))))], [(0, .box 200 [.row 1 49 0 k]), (49, .row 9 1 k (strsF (namesQ l k)))], 65⟩
def idxFacts (l : List FT) : Option Nat → Prop
  | none => True
  | some k => k ≤ l.length ∧ (∀ i, i < k → okQ l i = true)
def idxMu (l : List FT) : Option Nat → Nat
  | none => l.length + 1
  | some k => l.length - k
theorem idxF_ok {G : Nat → Option (List Cell)} (l : List FT) (hl : l.length < 1000000000000) : FnB Tryz.prog G 207 [.box 200 [.nilsl]] [.c (encH l), .c (clo1 (166 + 1000000000) (.ptr 0 0))] [.c (.int .i64 (dupI l))] [] := by
  refine Fn.of' Tryz.func207 (by kernel_rfl) (by kernel_rfl) (by kernel_rfl) (by kernel_rfl) trivial ?_
  refine Wp.go (mx := true) (fun _ => mixed) [] 100 [] [] (by kernel_rfl) (by kernel_rfl) (by kernel_rfl) trivial ?_
  refine Wp.loopK (by kernel_rfl) (idxInvF l) (idxFacts l) (idxMu l) none (Ent.of [] (by kernel_rfl) (by kernel_rfl) (by kernel_rfl) trivial) trivial ?_
  rintro (_ | k) L hf again
  · have hall : ∀ i, i < 0 → okQ l i = true := fun _ h => absurd h (Nat.not_lt_zero _)
    rcases Nat.lt_or_ge 0 l.length with hlt | hge
    · have hns : namesQ l (0 + 1) = [(l.getD 0 .nil).name] := namesQ_succ l 0 hlt
      cases hn : (l.getD 0 .nil).name == [] with
      | true =>
        rw [dup_some hlt hall (by unfold okQ; rw [hn]; rfl)]
        have c := tw_a1 (G := G) (l.getD 0 .nil) hn
        refine Wp.go (mx := true) (fun _ => mixed) [(4, {cs := [(5, cb [0] c)]})] 100 [true, true] [decide ((0 : Int) < (↑l.length : Int)) = true, (0 : Int) ≤ (0 : Int) ∧ (0 : Int) < (↑l.length : Int), true = true] (by kernel_rfl) (by kernel_rfl) (by kernel_rfl) ⟨(by simp; omega), (by omega), rfl⟩ ?_
        refine Wp.ret' (by kernel_rfl) ?_
        exact FinQ.pure (rs' := [V1.c (Cell.int .i64 (0 : Int))]) (by kernel_rfl) rfl (by kernel_rfl)
      | false =>
        have ho : okQ l 0 = true := by unfold okQ; rw [hn]; rfl
        have hnx : idxFacts l (some (0 + 1)) := ⟨hlt, up1 hall ho⟩
        have hmu : idxMu l (some (0 + 1)) < idxMu l none := by show l.length - (0 + 1) < l.length + 1; omega
        have c := tw_a2 (G := G) (l.getD 0 .nil) hn
        rw [← hns] at c
        refine Wp.go (mx := true) (fun _ => mixed) [(4, {cs := [(5, cb [0] c)]})] 100 [true, false] [decide ((0 : Int) < (↑l.length : Int)) = true, (0 : Int) ≤ (0 : Int) ∧ (0 : Int) < (↑l.length : Int), false = false, inR IntKind.i64 ((0 : Int) + (1 : Int))] (by kernel_rfl) (by kernel_rfl) (by kernel_rfl) ⟨(by simp; omega), (by omega), rfl, inR64 (by omega) (by omega)⟩ ?_
        exact Wp.lpK (by kernel_rfl) (again _ (some (0 + 1)) (by assumption) (by omega) (Ent.of [(49, 193)] (by kernel_rfl) (by kernel_rfl) (by kernel_rfl) trivial))
    · rw [dup_none (fun i hi => by omega)]
      refine Wp.go (mx := true) (fun _ => mixed) [] 100 [false] [decide ((0 : Int) < (↑l.length : Int)) = false] (by kernel_rfl) (by kernel_rfl) (by kernel_rfl) (show decide ((0 : Int) < (↑l.length : Int)) = false from (by simp_all <;> omega)) ?_
      refine Wp.ret' (by kernel_rfl) ?_
      exact FinQ.pure (rs' := [V1.c (Cell.int .i64 (-1 : Int))]) (by kernel_rfl) rfl (by kernel_rfl)
  · obtain ⟨hk, hall⟩ := hf
    rcases Nat.lt_or_ge k l.length with hlt | hge
    · have hns : namesQ l (k + 1) = namesQ l k ++ [(l.getD k .nil).name] := namesQ_succ l k hlt
      have hnl := namesQ_len l k (by omega)
      cases hn : (l.getD k .nil).name == [] with
      | true =>
        rw [dup_some hlt hall (by unfold okQ; rw [hn]; rfl)]
        have c := tw_b1 (G := G) (namesQ l k) k hnl (by omega) (l.getD k .nil) hn
        refine Wp.go (mx := true) (fun _ => mixed) [(4, {cs := [(5, cb [0, 49] c)]})] 100 [true, true] [decide ((↑k : Int) < (↑l.length : Int)) = true, (0 : Int) ≤ (↑k : Int) ∧ (↑k : Int) < (↑l.length : Int), true = true] (by kernel_rfl) (by kernel_rfl) (by kernel_rfl) ⟨(by simp; omega), (by omega), rfl⟩ ?_
        refine Wp.ret' (by kernel_rfl) ?_
        exact FinQ.pure (rs' := [V1.c (Cell.int .i64 (↑k : Int))]) (by kernel_rfl) rfl (by kernel_rfl)
      | false =>
        cases hi : isIn (namesQ l k) (l.getD k .nil).name with
        | true =>
          rw [dup_some hlt hall (by unfold okQ; rw [hn, hi]; rfl)]
          have c := tw_b2 (G := G) (namesQ l k) k hnl (by omega) (l.getD k .nil) hn hi
          refine Wp.go (mx := true) (fun _ => mixed) [(4, {cs := [(5, cb [0, 49] c)]})] 100 [true, true] [decide ((↑k : Int) < (↑l.length : Int)) = true, (0 : Int) ≤ (↑k : Int) ∧ (↑k : Int) < (↑l.length : Int), true = true] (by kernel_rfl) (by kernel_rfl) (by kernel_rfl) ⟨(by simp; omega), (by omega), rfl⟩ ?_
          refine Wp.ret' (by kernel_rfl) ?_
          exact FinQ.pure (rs' := [V1.c (Cell.int .i64 (↑k : Int))]) (by kernel_rfl) rfl (by kernel_rfl)
        | false =>
          have ho : okQ l k = true := by unfold okQ; rw [hn, hi]; rfl
          have hnx : idxFacts l (some (k + 1)) := ⟨hlt, up1 hall ho⟩
          have hmu : idxMu l (some (k + 1)) < idxMu l (some k) := by show l.length - (k + 1) < l.length - k; omega
          have c := tw_b3 (G := G) (namesQ l k) k hnl (by omega) (l.getD k .nil) hn hi
          rw [← hns] at c
          refine Wp.go (mx := true) (fun _ => mixed) [(4, {cs := [(5, cb [0, 49] c)]})] 100 [true, false] [decide ((↑k : Int) < (↑l.length : Int)) = true, (0 : Int) ≤ (↑k : Int) ∧ (↑k : Int) < (↑l.length : Int), false = false, inR IntKind.i64 ((↑k : Int) + (1 : Int))] (by kernel_rfl) (by kernel_rfl) (by kernel_rfl) ⟨(by simp; omega), (by omega), rfl, inR64 (by omega) (by omega)⟩ ?_
          exact Wp.lpK (by kernel_rfl) (again _ (some (k + 1)) (by assumption) (by omega) (Ent.of [(49, 193)] (by kernel_rfl) (by kernel_rfl) (by kernel_rfl) trivial))
    · rw [dup_none (fun i hi => hall i (by omega))]
      refine Wp.go (mx := true) (fun _ => mixed) [] 100 [false] [decide ((↑k : Int) < (↑l.length : Int)) = false] (by kernel_rfl) (by kernel_rfl) (by kernel_rfl) (show decide ((↑k : Int) < (↑l.length : Int)) = false from (by simp; omega)) ?_
      refine Wp.ret' (by kernel_rfl) ?_
      exact FinQ.pure (rs' := [V1.c (Cell.int .i64 (-1 : Int))]) (by kernel_rfl) rfl (by kernel_rfl)
theorem conF_ok {G : Nat → Option (List Cell)} (l : List FT) (hl : l.length < 1000000000000) : FnB Tryz.prog G 165 [.box 200 [.nilsl]] [.c (encH l), .c (clo1 (166 + 1000000000) (.ptr 0 0))] [.c (.bool (!unlikeQ l))] [] := by
  refine Fn.of' Tryz.func165 (by kernel_rfl) (by kernel_rfl) (by kernel_rfl) (by kernel_rfl) trivial ?_
  rw [← dup_unl]
  refine Wp.go (mx := true) (fun _ => mixed) [(1, {cs := [(2, cb [0] (idxF_ok l (by assumption)))]})] 100 [] [] (by kernel_rfl) (by kernel_rfl) (by kernel_rfl) trivial ?_
  refine Wp.ret' (by kernel_rfl) ?_
  exact FinQ.pure (rs' := [V1.c (Cell.bool (decide (dupI l ≥ (0 : Int))))]) (by kernel_rfl) rfl (by kernel_rfl)
def targetU (u : UT) : List UInt8 := if u.query.length = 0 then u.path else u.path ++ [63] ++ printQ u.query
structure FitU (u : UT) : Prop where
  hh : u.host.length ≤ 1000000000
  hp : u.path.length ≤ 1000000000
  hn : u.query.length < 1000000000
  hj : (printQ u.query).length ≤ 10000000000
def mayU (u : UT) : Bool := hostT u.host && pathT u.path && decide ((u.query.length : Int) ≤ 24) && unlikeQ u.query && decide ((([104, 116, 116, 112, 115, 58, 47, 47] ++ u.host ++ targetU u).length : Int) ≤ 1024)
theorem may_b1 (u : UT) : (bif bif bif bif hostT u.host then pathT u.path else false then decide ((u.query.length : Int) ≤ 24) else false then unlikeQ u.query else false then decide ((([104, 116, 116, 112, 115, 58, 47, 47] ++ u.host ++ targetU u).length : Int) ≤ 1024) else false) = mayU u := by
  unfold mayU
  simp only [Bool.cond_false_right]
def printU (u : UT) : List UInt8 := if mayU u then [104, 116, 116, 112, 115, 58, 47, 47] ++ u.host ++ targetU u else []
theorem fGet_isIn (l : List FT) (k : Nat) (s : List UInt8) : (fGet (l.take k) s).isSome = isIn (namesQ l k) s := by
  unfold fGet isIn namesQ
  rw [Option.isSome_map, List.any_map, Bool.eq_iff_iff, List.find?_isSome]
  simp
theorem unlike10_ok {G : Nat → Option (List Cell)} (l : List FT) (hl : l.length < 1000000000000) : Pur Tryz.prog G 161 [.c (encH l)] [.c (.bool (unlikeQ l))] := by
  refine Pur.of Tryz.func161 (by kernel_rfl) (by kernel_rfl) (by kernel_rfl) ?_
  refine Wp.go (mx := true) (fun _ => mixed) [] 100 [] [] (by kernel_rfl) (by kernel_rfl) (by kernel_rfl) trivial ?_
  refine Wp.loopK (by kernel_rfl) (fun (k : Nat) => ⟨[(0, TV.v (V1.c (encH l))), (3, TV.v (V1.c (Cell.int .i64 (k : Int))))], [], 32⟩) (fun k => k ≤ l.length ∧ ∀ i, i < k → okQ l i = true) (fun k => l.length - k) 0 (Ent.of [] (by kernel_rfl) (by kernel_rfl) (by kernel_rfl) trivial) ⟨Nat.zero_le _, fun _ h => absurd h (Nat.not_lt_zero _)⟩ ?_
  intro k L ⟨hk, hall⟩ again
  rcases Nat.lt_or_ge k l.length with hlt | hge
  · have htl : (l.take k).length = k := by rw [List.length_take]; omega
    have e1 : EqvD (V1.c (Cell.sl 2 k (fun i j => nthD (encF (l.getD (0 + i) .nil)) j))) (.c (encH (l.take k))) := by
      refine EqvD.sl htl.symm fun i hi j hj => ?_
      simp [List.getD, List.getElem?_take, hi]
    have c := has10_n (G := G) (l.take k) (l.take k).length (l.getD k .nil).name rfl (by omega)
    rw [fGet_isIn l k] at c
    cases hn : (l.getD k .nil).name == [] with
    | true =>
      have hu : unlikeQ l = false := all_range_false hlt (by unfold okQ; rw [hn]; rfl)
      rw [hu]
      refine Wp.go (mx := true) (fun _ => mixed) [(4, {cs := [(15, pc c)], fm := [(9, .c (encH (l.take k)))]})] 100 [true, true] [decide ((↑k : Int) < (↑l.length : Int)) = true, (0 : Int) ≤ (↑k : Int) ∧ (↑k : Int) < (↑l.length : Int), EqvI (V1.c (Cell.sl (2 : Nat) ((Int.ofNat k).toNat - (0 : Nat)) fun (i j : Nat) => nthD [Cell.str (l.getD ((0 : Nat) + i) FT.nil).name, Cell.str (l.getD ((0 : Nat) + i) FT.nil).value] j)) (V1.c (encH (List.take k l))), ((l.getD k FT.nil).name == []) = false → EqvD (V1.c (Cell.sl (2 : Nat) ((Int.ofNat k).toNat - (0 : Nat)) fun (i j : Nat) => nthD [Cell.str (l.getD ((0 : Nat) + i) FT.nil).name, Cell.str (l.getD ((0 : Nat) + i) FT.nil).value] j)) (V1.c (encH (List.take k l))), ((l.getD k FT.nil).name == []) = false → (0 : Int) ≤ Int.ofNat (0) ∧ Int.ofNat (0) ≤ Int.ofNat k ∧ Int.ofNat k ≤ (↑l.length : Int), ((l.getD k FT.nil).name == []) = false → (0 : Int) ≤ (↑k : Int) ∧ (↑k : Int) < (↑l.length : Int), (bif (l.getD k FT.nil).name == [] then true else isIn (namesQ l k) (l.getD k FT.nil).name) = true] (by kernel_rfl) (by kernel_rfl) (by kernel_rfl) ⟨(by simp; omega), (by omega), fun _ _ => trivial, (by intro _; assumption), (by simp; omega), (by omega), (show (bif (l.getD k FT.nil).name == [] then true else isIn (namesQ l k) (l.getD k FT.nil).name) = true from (by simp_all <;> omega))⟩ ?_
      refine Wp.ret' (by kernel_rfl) ?_
      exact FinQ.pure (rs' := [V1.c (Cell.bool false)]) (by kernel_rfl) rfl (by kernel_rfl)
    | false =>
      cases hi : isIn (namesQ l k) (l.getD k .nil).name with
      | true =>
        have hu : unlikeQ l = false := all_range_false hlt (by unfold okQ; rw [hn, hi]; rfl)
        rw [hu]
        rw [hi] at c
        refine Wp.go (mx := true) (fun _ => mixed) [(4, {cs := [(15, pc c)], fm := [(9, .c (encH (l.take k)))]})] 100 [true, true] [decide ((↑k : Int) < (↑l.length : Int)) = true, (0 : Int) ≤ (↑k : Int) ∧ (↑k : Int) < (↑l.length : Int), EqvI (V1.c (Cell.sl (2 : Nat) ((Int.ofNat k).toNat - (0 : Nat)) fun (i j : Nat) => nthD [Cell.str (l.getD ((0 : Nat) + i) FT.nil).name, Cell.str (l.getD ((0 : Nat) + i) FT.nil).value] j)) (V1.c (encH (List.take k l))), ((l.getD k FT.nil).name == []) = false → EqvD (V1.c (Cell.sl (2 : Nat) ((Int.ofNat k).toNat - (0 : Nat)) fun (i j : Nat) => nthD [Cell.str (l.getD ((0 : Nat) + i) FT.nil).name, Cell.str (l.getD ((0 : Nat) + i) FT.nil).value] j)) (V1.c (encH (List.take k l))), ((l.getD k FT.nil).name == []) = false → (0 : Int) ≤ Int.ofNat (0) ∧ Int.ofNat (0) ≤ Int.ofNat k ∧ Int.ofNat k ≤ (↑l.length : Int), ((l.getD k FT.nil).name == []) = false → (0 : Int) ≤ (↑k : Int) ∧ (↑k : Int) < (↑l.length : Int), (bif (l.getD k FT.nil).name == [] then true else true) = true] (by kernel_rfl) (by kernel_rfl) (by kernel_rfl) ⟨(by simp; omega), (by omega), fun _ _ => trivial, (by intro _; assumption), (by simp; omega), (by omega), (show (bif (l.getD k FT.nil).name == [] then true else true) = true from (by simp; done))⟩ ?_
        refine Wp.ret' (by kernel_rfl) ?_
        exact FinQ.pure (rs' := [V1.c (Cell.bool false)]) (by kernel_rfl) rfl (by kernel_rfl)
      | false =>
        have ho : okQ l k = true := by unfold okQ; rw [hn, hi]; rfl
        have hall' := up1 hall ho
        rw [hi] at c
        refine Wp.go (mx := true) (fun _ => mixed) [(4, {cs := [(15, pc c)], fm := [(9, .c (encH (l.take k)))]})] 100 [true, false] [decide ((↑k : Int) < (↑l.length : Int)) = true, (0 : Int) ≤ (↑k : Int) ∧ (↑k : Int) < (↑l.length : Int), EqvI (V1.c (Cell.sl (2 : Nat) ((Int.ofNat k).toNat - (0 : Nat)) fun (i j : Nat) => nthD [Cell.str (l.getD ((0 : Nat) + i) FT.nil).name, Cell.str (l.getD ((0 : Nat) + i) FT.nil).value] j)) (V1.c (encH (List.take k l))), ((l.getD k FT.nil).name == []) = false → EqvD (V1.c (Cell.sl (2 : Nat) ((Int.ofNat k).toNat - (0 : Nat)) fun (i j : Nat) => nthD [Cell.str (l.getD ((0 : Nat) + i) FT.nil).name, Cell.str (l.getD ((0 : Nat) + i) FT.nil).value] j)) (V1.c (encH (List.take k l))), ((l.getD k FT.nil).name == []) = false → (0 : Int) ≤ Int.ofNat (0) ∧ Int.ofNat (0) ≤ Int.ofNat k ∧ Int.ofNat k ≤ (↑l.length : Int), ((l.getD k FT.nil).name == []) = false → (0 : Int) ≤ (↑k : Int) ∧ (↑k : Int) < (↑l.length : Int), (bif (l.getD k FT.nil).name == [] then true else false) = false, inR IntKind.i64 ((↑k : Int) + (1 : Int))] (by kernel_rfl) (by kernel_rfl) (by kernel_rfl) ⟨(by simp; omega), (by omega), fun _ _ => trivial, (by intro _; assumption), (by simp; omega), (by omega), (by simp_all <;> omega), inR64 (by omega) (by omega)⟩ ?_
        exact Wp.lpK (by kernel_rfl) (again _ (k + 1) ⟨(by assumption), (by assumption)⟩ (by omega) (Ent.of [] (by kernel_rfl) (by kernel_rfl) (by kernel_rfl) trivial))
  · have hu : unlikeQ l = true := all_range_true (fun i hi => hall i (by omega))
    rw [hu]
    refine Wp.go (mx := true) (fun _ => mixed) [] 100 [false] [decide ((↑k : Int) < (↑l.length : Int)) = false] (by kernel_rfl) (by kernel_rfl) (by kernel_rfl) (show decide ((↑k : Int) < (↑l.length : Int)) = false from (by simp; omega)) ?_
    refine Wp.ret' (by kernel_rfl) ?_
    exact FinQ.pure (rs' := [V1.c (Cell.bool true)]) (by kernel_rfl) rfl (by kernel_rfl)
theorem target_ok (u : UT) (h : FitU u) : Pur Tryz.prog Gp 119 [.agg (encU u)] [.c (.str (targetU u))] := by
  refine Pur.of Tryz.func119 (by kernel_rfl) (by kernel_rfl) (by kernel_rfl) ?_
  have hp := h.hp
  have hn := h.hn
  have hj := h.hj
  by_cases h0 : u.query.length = 0
  · have ht : targetU u = u.path := by unfold targetU; rw [if_pos h0]
    rw [ht]
    refine Wp.go (mx := true) (fun _ => mixed) [] 100 [true] [((↑u.query.length : Int) == (0 : Int)) = true] (by kernel_rfl) (by kernel_rfl) (by kernel_rfl) (show ((↑u.query.length : Int) == (0 : Int)) = true from (by simp_all <;> omega)) ?_
    refine Wp.ret' (by kernel_rfl) ?_
    exact FinQ.pure (rs' := [V1.c (Cell.str u.path)]) (by kernel_rfl) rfl (by kernel_rfl)
  · have ht : targetU u = u.path ++ [63] ++ printQ u.query := by unfold targetU; rw [if_neg h0]
    rw [ht]
    refine Wp.go (mx := true) (fun _ => mixed) [(3, {cs := [(5, pc (printQ_ok u.query (by omega) (by omega)))]})] 100 [false] [((↑u.query.length : Int) == (0 : Int)) = false, u.path.length + (1 : Nat) ≤ (9223372036854775807 : Nat), (u.path ++ [(63 : UInt8)]).length + (printQ u.query).length ≤ (9223372036854775807 : Nat)] (by kernel_rfl) (by kernel_rfl) (by kernel_rfl) ⟨(by simp_all <;> omega), (by omega), (show (u.path ++ [(63 : UInt8)]).length + (printQ u.query).length ≤ (9223372036854775807 : Nat) from (by simp; omega))⟩ ?_
    refine Wp.ret' (by kernel_rfl) ?_
    exact FinQ.pure (rs' := [V1.c (Cell.str (u.path ++ [(63 : UInt8)] ++ printQ u.query))]) (by kernel_rfl) rfl (by kernel_rfl)
theorem target11_ok {G : Nat → Option (List Cell)} (u : UT) (h : FitU u) : Pur Tryz.prog G 117 [.agg (encU u)] [.c (.str (targetU u))] := by
  refine Pur.of Tryz.func117 (by kernel_rfl) (by kernel_rfl) (by kernel_rfl) ?_
  have hp := h.hp
  have hn := h.hn
  have hj := h.hj
  by_cases h0 : u.query.length = 0
  · have ht : targetU u = u.path := by unfold targetU; rw [if_pos h0]
    rw [ht]
    refine Wp.go (mx := true) (fun _ => mixed) [] 100 [true] [((↑u.query.length : Int) == (0 : Int)) = true] (by kernel_rfl) (by kernel_rfl) (by kernel_rfl) (show ((↑u.query.length : Int) == (0 : Int)) = true from (by simp_all <;> omega)) ?_
    refine Wp.ret' (by kernel_rfl) ?_
    exact FinQ.pure (rs' := [V1.c (Cell.str u.path)]) (by kernel_rfl) rfl (by kernel_rfl)
  · have ht : targetU u = u.path ++ [63] ++ printQ u.query := by unfold targetU; rw [if_neg h0]
    rw [ht]
    refine Wp.go (mx := true) (fun _ => mixed) [(3, {cs := [(5, pc (print10_ok u.query (by omega) (by omega)))]})] 100 [false] [((↑u.query.length : Int) == (0 : Int)) = false, u.path.length + (1 : Nat) ≤ (9223372036854775807 : Nat), (u.path ++ [(63 : UInt8)]).length + (printQ u.query).length ≤ (9223372036854775807 : Nat)] (by kernel_rfl) (by kernel_rfl) (by kernel_rfl) ⟨(by simp_all <;> omega), (by omega), (show (u.path ++ [(63 : UInt8)]).length + (printQ u.query).length ≤ (9223372036854775807 : Nat) from (by simp; omega))⟩ ?_
    refine Wp.ret' (by kernel_rfl) ?_
    exact FinQ.pure (rs' := [V1.c (Cell.str (u.path ++ [(63 : UInt8)] ++ printQ u.query))]) (by kernel_rfl) rfl (by kernel_rfl)
theorem targetU_len (u : UT) (h : FitU u) : (targetU u).length ≤ 20000000000 := by
  have hp := h.hp
  have hj := h.hj
  unfold targetU
  split
  · omega
  · simp only [List.length_append, List.length_cons, List.length_nil]; omega
theorem may11_ok {G : Nat → Option (List Cell)} (u : UT) (h : FitU u) : Pur Tryz.prog G 116 [.agg (encU u)] [.c (.bool (mayU u))] := by
  refine Pur.of Tryz.func116 (by kernel_rfl) (by kernel_rfl) (by kernel_rfl) ?_
  have hh := h.hh
  have hp := h.hp
  have hn := h.hn
  have ht := targetU_len u h
  have c := target11_ok (G := G) u h
  rw [← may_b1]
  refine Wp.go (mx := true) (fun _ => mixed) [(1, {cs := [(2, pc (host11_ok u.host (by omega))), (6, pc (path11_ok u.path (by omega))), (17, pc (unlike10_ok u.query (by omega))), (24, pc c)]})] 100 [] [(bif bif bif hostT u.host then pathT u.path else false then decide ((↑u.query.length : Int) ≤ (24 : Int)) else false then unlikeQ u.query else false) = true → (8 : Nat) + u.host.length ≤ (9223372036854775807 : Nat), (bif bif bif hostT u.host then pathT u.path else false then decide ((↑u.query.length : Int) ≤ (24 : Int)) else false then unlikeQ u.query else false) = true → ([(104 : UInt8), 116, 116, 112, 115, 58, 47, 47] ++ u.host).length + (targetU u).length ≤ (9223372036854775807 : Nat)] (by kernel_rfl) (by kernel_rfl) (by kernel_rfl) ⟨(by omega), (show (bif bif bif hostT u.host then pathT u.path else false then decide ((↑u.query.length : Int) ≤ (24 : Int)) else false then unlikeQ u.query else false) = true → ([(104 : UInt8), 116, 116, 112, 115, 58, 47, 47] ++ u.host).length + (targetU u).length ≤ (9223372036854775807 : Nat) from (by simp; omega))⟩ ?_
  refine Wp.ret' (by kernel_rfl) ?_
  exact FinQ.pure (rs' := [V1.c (Cell.bool (bif bif bif bif hostT u.host then pathT u.path else false then decide ((↑u.query.length : Int) ≤ (24 : Int)) else false then unlikeQ u.query else false then decide ((↑([(104 : UInt8), 116, 116, 112, 115, 58, 47, 47] ++ u.host ++ targetU u).length : Int) ≤ (1024 : Int)) else false))]) (by kernel_rfl) rfl (by kernel_rfl)
theorem printU11_ok {G : Nat → Option (List Cell)} (u : UT) (h : FitU u) : Pur Tryz.prog G 68 [.agg (encU u)] [.c (.str (printU u))] := by
  refine Pur.of Tryz.func68 (by kernel_rfl) (by kernel_rfl) (by kernel_rfl) ?_
  have hh := h.hh
  have ht := targetU_len u h
  have c := target11_ok (G := G) u h
  have c2 := may11_ok (G := G) u h
  cases hm : mayU u with
  | true =>
    have hr : printU u = [104, 116, 116, 112, 115, 58, 47, 47] ++ u.host ++ targetU u := by unfold printU; rw [if_pos hm]
    rw [hm] at c2
    rw [hr]
    refine Wp.go (mx := true) (fun _ => mixed) [(1, {cs := [(1, pc c2)]}), (3, {cs := [(4, pc c)]})] 100 [false] [(!true) = false, (8 : Nat) + u.host.length ≤ (9223372036854775807 : Nat), ([(104 : UInt8), 116, 116, 112, 115, 58, 47, 47] ++ u.host).length + (targetU u).length ≤ (9223372036854775807 : Nat)] (by kernel_rfl) (by kernel_rfl) (by kernel_rfl) ⟨rfl, (by omega), (show ([(104 : UInt8), 116, 116, 112, 115, 58, 47, 47] ++ u.host).length + (targetU u).length ≤ (9223372036854775807 : Nat) from (by simp; omega))⟩ ?_
    refine Wp.ret' (by kernel_rfl) ?_
    exact FinQ.pure (rs' := [V1.c (Cell.str ([(104 : UInt8), 116, 116, 112, 115, 58, 47, 47] ++ u.host ++ targetU u))]) (by kernel_rfl) rfl (by kernel_rfl)
  | false =>
    have hr : printU u = [] := by unfold printU; rw [if_neg (by rw [hm]; decide)]
    rw [hm] at c2
    rw [hr]
    refine Wp.go (mx := true) (fun _ => mixed) [(1, {cs := [(1, pc c2)]})] 100 [true] [(!false) = true] (by kernel_rfl) (by kernel_rfl) (by kernel_rfl) rfl ?_
    refine Wp.ret' (by kernel_rfl) ?_
    exact FinQ.pure (rs' := [V1.c (Cell.str [])]) (by kernel_rfl) rfl (by kernel_rfl)
theorem may_b2 (u : UT) : (bif (bif bif !hostT u.host then true else !pathT u.path then true else decide ((u.query.length : Int) > 24)) then false else (bif !(!unlikeQ u.query) then decide ((8 : Int) + (u.host.length : Int) + ((targetU u).length : Int) ≤ 1024) else false)) = mayU u := by
  unfold mayU
  have h1 : decide ((u.query.length : Int) > 24) = !decide ((u.query.length : Int) ≤ 24) := by rw [← decide_not]; exact decide_eq_decide.2 (by omega)
  have h2 : decide ((([104, 116, 116, 112, 115, 58, 47, 47] ++ u.host ++ targetU u).length : Int) ≤ 1024) = decide ((8 : Int) + (u.host.length : Int) + ((targetU u).length : Int) ≤ 1024) := decide_eq_decide.2 (by simp only [List.length_append, List.length_cons, List.length_nil]; omega)
  rw [h1, h2]
  cases hostT u.host <;> cases pathT u.path <;> cases decide ((u.query.length : Int) ≤ 24) <;> cases unlikeQ u.query <;> simp
theorem mayUri_ok (u : UT) (h : FitU u) : Pur Tryz.prog Gp 118 [.agg (encU u)] [.c (.bool (mayU u))] := by
  refine Pur.of Tryz.func118 (by kernel_rfl) (by kernel_rfl) (by kernel_rfl) ?_
  have hh := h.hh
  have hp := h.hp
  have hn := h.hn
  have ht := targetU_len u h
  have c := target_ok u h
  rw [← may_b2]
  have e1 := clo1_D (166 + 1000000000) (.ptr 368 0)
  have e2 := clo1_I (166 + 1000000000) (.ptr 368 0)
  refine Wp.go (mx := true) (fun _ => mixed) [(5, {fm := [(2, .c (clo1 (166 + 1000000000) (.ptr 368 0)))]}), (2, {cs := [(1, pc (hosted_ok u.host u.path (by omega))), (5, pc (pathed_ok u.host u.path (by omega)))]})] 100 [] [] (by kernel_rfl) (by kernel_rfl) (by kernel_rfl) trivial ?_
  refine Wp.cond' (by kernel_rfl) (bif bif !hostT u.host then true else !pathT u.path then true else decide ((↑u.query.length : Int) > (24 : Int))) (by kernel_rfl) (fun h0 => ?_) (fun h0 => ?_)
  · have g0 := h0
    simp at g0
    refine Wp.go (mx := true) (fun _ => mixed) [(5, {fm := [(2, .c (clo1 (166 + 1000000000) (.ptr 368 0)))]})] 100 [] [] (by kernel_rfl) (by kernel_rfl) (by kernel_rfl) trivial ?_
    refine Wp.ret' (by kernel_rfl) ?_
    exact FinQ.pure (rs' := [V1.c (Cell.bool false)]) (by kernel_rfl) (by rw [h0]; rfl) (by kernel_rfl)
  · have g0 := h0
    simp at g0
    refine Wp.go (mx := true) (fun _ => mixed) [(5, {cs := [(3, cb [368] (conF_ok u.query (by omega))), (11, pc c)], fm := [(2, .c (clo1 (166 + 1000000000) (.ptr 368 0)))]})] 100 [] [EqvI (V1.c (cloRaw (166 + 1000000000) [V1.c (.ptr 368 0)])) (V1.c (clo1 ((166 : FuncId) + (1000000000 : FuncId)) (Cell.ptr (368 : Nat) (0 : Nat)))), EqvD (V1.c (cloRaw (166 + 1000000000) [V1.c (.ptr 368 0)])) (V1.c (clo1 ((166 : FuncId) + (1000000000 : FuncId)) (Cell.ptr (368 : Nat) (0 : Nat)))), (!!unlikeQ u.query) = true → inR IntKind.i64 ((8 : Int) + (↑u.host.length : Int)), (!!unlikeQ u.query) = true → inR IntKind.i64 ((8 : Int) + (↑u.host.length : Int) + (↑(targetU u).length : Int))] (by kernel_rfl) (by kernel_rfl) (by kernel_rfl) ⟨e2, e1, (fun _ => inR64 (by omega) (by omega)), (fun _ => inR64 (by omega) (by omega))⟩ ?_
    refine Wp.ret' (by kernel_rfl) ?_
    exact FinQ.pure (rs' := [V1.c (Cell.bool (bif !!unlikeQ u.query then decide ((8 : Int) + (↑u.host.length : Int) + (↑(targetU u).length : Int) ≤ (1024 : Int)) else false))]) (by kernel_rfl) (by simp [*]; done) (by kernel_rfl)
theorem printUri_ok (u : UT) (h : FitU u) : Pur Tryz.prog Gp 70 [.agg (encU u)] [.c (.str (printU u))] := by
  refine Pur.of Tryz.func70 (by kernel_rfl) (by kernel_rfl) (by kernel_rfl) ?_
  have hh := h.hh
  have ht := targetU_len u h
  have c := target_ok u h
  have c2 := mayUri_ok u h
  cases hm : mayU u with
  | true =>
    have hr : printU u = [104, 116, 116, 112, 115, 58, 47, 47] ++ u.host ++ targetU u := by unfold printU; rw [if_pos hm]
    rw [hm] at c2
    rw [hr]
    refine Wp.go (mx := true) (fun _ => mixed) [(1, {cs := [(1, pc c2)]}), (3, {cs := [(4, pc c)]})] 100 [false] [(!true) = false, (8 : Nat) + u.host.length ≤ (9223372036854775807 : Nat), ([(104 : UInt8), 116, 116, 112, 115, 58, 47, 47] ++ u.host).length + (targetU u).length ≤ (9223372036854775807 : Nat)] (by kernel_rfl) (by kernel_rfl) (by kernel_rfl) ⟨rfl, (by omega), (show ([(104 : UInt8), 116, 116, 112, 115, 58, 47, 47] ++ u.host).length + (targetU u).length ≤ (9223372036854775807 : Nat) from (by simp; omega))⟩ ?_
    refine Wp.ret' (by kernel_rfl) ?_
    exact FinQ.pure (rs' := [V1.c (Cell.str ([(104 : UInt8), 116, 116, 112, 115, 58, 47, 47] ++ u.host ++ targetU u))]) (by kernel_rfl) rfl (by kernel_rfl)
  | false =>
    have hr : printU u = [] := by unfold printU; rw [if_neg (by rw [hm]; decide)]
    rw [hm] at c2
    rw [hr]
    refine Wp.go (mx := true) (fun _ => mixed) [(1, {cs := [(1, pc c2)]})] 100 [true] [(!false) = true] (by kernel_rfl) (by kernel_rfl) (by kernel_rfl) rfl ?_
    refine Wp.ret' (by kernel_rfl) ?_
    exact FinQ.pure (rs' := [V1.c (Cell.str [])]) (by kernel_rfl) rfl (by kernel_rfl)
end Go.Proofs.Tw
end

section
open Go Go.Sv
namespace Go.Proofs.Tw
attribute [local irreducible] Wp FinQ resV Ent Pur Go.Sv.Fn Sat0
set_option maxRecDepth 100000
set_option maxHeartbeats 4000000

/-! cookies -/
def wdT (s : List UInt8) : Bool := s.all plainB && (decide (1 ≤ s.length) && decide (s.length ≤ 128))
theorem wd_b1 (s : List UInt8) : (bif bif !s == [] then decide ((s.length : Int) ≤ 128) else false then s.all plainB else false) = wdT s := by
  unfold wdT
  cases s with
  | nil => rfl
  | cons a r =>
    rw [show ((!(a :: r) == []) = true) from rfl, show decide (((a :: r).length : Int) ≤ 128) = decide ((a :: r).length ≤ 128) from decide_eq_decide.2 (by omega), show decide (1 ≤ (a :: r).length) = true from decide_eq_true (by simp)]
    cases decide ((a :: r).length ≤ 128) <;> simp
theorem wd_b2 (s : List UInt8) (h : s.all plainB = true) : (bif decide ((s.length : Int) ≥ 1) then decide ((s.length : Int) ≤ 128) else false) = wdT s := by
  unfold wdT
  rw [h, Bool.true_and, Bool.cond_false_right]
  congr 1 <;> (apply decide_eq_decide.2; omega)
theorem word_ok {G : Nat → Option (List Cell)} (s : List UInt8) (hl : s.length < 4611686018427387904) : Pur Tryz.prog G 81 [.c (.str s)] [.c (.bool (wdT s))] := by
  refine Pur.of Tryz.func81 (by kernel_rfl) (by kernel_rfl) (by kernel_rfl) ?_
  rw [← wd_b1]
  refine Wp.go (mx := true) (fun _ => mixed) [(1, {cs := [(9, pc (All_plain s (by assumption)))]})] 100 [] [] (by kernel_rfl) (by kernel_rfl) (by kernel_rfl) trivial ?_
  refine Wp.ret' (by kernel_rfl) ?_
  exact FinQ.pure (rs' := [V1.c (Cell.bool (bif bif !s == [] then decide ((↑s.length : Int) ≤ (128 : Int)) else false then s.all plainB else false))]) (by kernel_rfl) rfl (by kernel_rfl)
theorem word6_ok {G : Nat → Option (List Cell)} (s : List UInt8) (hl : s.length < 4611686018427387904) : Pur Tryz.prog G 85 [.c (.str s)] [.c (.bool (wdT s))] := by
  refine Pur.of Tryz.func85 (by kernel_rfl) (by kernel_rfl) (by kernel_rfl) ?_
  refine Wp.go (mx := true) (fun _ => mixed) [] 100 [] [] (by kernel_rfl) (by kernel_rfl) (by kernel_rfl) trivial ?_
  refine Wp.loopK (by kernel_rfl) (fun (k : Nat) => ⟨[(0, TV.v (V1.c (Cell.str s))), (3, TV.v (V1.c (Cell.int .i64 (k : Int))))], [], 32⟩) (fun k => k ≤ s.length ∧ s.all plainB = (s.drop k).all plainB) (fun k => s.length - k) 0 (Ent.of [] (by kernel_rfl) (by kernel_rfl) (by kernel_rfl) trivial) ⟨Nat.zero_le _, rfl⟩ ?_
  intro k L ⟨hk, hq⟩ again
  rcases Nat.lt_or_ge k s.length with hlt | hge
  · rw [dropS s k hlt, List.all_cons] at hq
    cases hp : plainB (s.getD k 0) with
    | true =>
      rw [hp, Bool.true_and] at hq
      have c := plain6_ok (G := G) (s.getD k 0)
      rw [hp] at c
      refine Wp.go (mx := true) (fun _ => mixed) [(4, {cs := [(3, pc c)]})] 100 [true, false] [decide ((↑k : Int) < (↑s.length : Int)) = true, (0 : Int) ≤ (↑k : Int) ∧ (↑k : Int) < (↑s.length : Int), (!true) = false, inR IntKind.i64 ((↑k : Int) + (1 : Int))] (by kernel_rfl) (by kernel_rfl) (by kernel_rfl) ⟨(by simp; omega), (by omega), rfl, inR64 (by omega) (by omega)⟩ ?_
      exact Wp.lpK (by kernel_rfl) (again _ (k + 1) ⟨(by assumption), (by assumption)⟩ (by omega) (Ent.of [] (by kernel_rfl) (by kernel_rfl) (by kernel_rfl) trivial))
    | false =>
      rw [hp, Bool.false_and] at hq
      have hw : wdT s = false := by unfold wdT; rw [hq]; rfl
      have c := plain6_ok (G := G) (s.getD k 0)
      rw [hp] at c
      rw [hw]
      refine Wp.go (mx := true) (fun _ => mixed) [(4, {cs := [(3, pc c)]})] 100 [true, true] [decide ((↑k : Int) < (↑s.length : Int)) = true, (0 : Int) ≤ (↑k : Int) ∧ (↑k : Int) < (↑s.length : Int), (!false) = true] (by kernel_rfl) (by kernel_rfl) (by kernel_rfl) ⟨(by simp; omega), (by omega), rfl⟩ ?_
      refine Wp.ret' (by kernel_rfl) ?_
      exact FinQ.pure (rs' := [V1.c (Cell.bool false)]) (by kernel_rfl) rfl (by kernel_rfl)
  · obtain rfl : k = s.length := by omega
    rw [List.drop_length] at hq
    rw [← wd_b2 s hq]
    refine Wp.go (mx := true) (fun _ => mixed) [] 100 [false] [decide ((↑s.length : Int) < (↑s.length : Int)) = false] (by kernel_rfl) (by kernel_rfl) (by kernel_rfl) (show decide ((↑s.length : Int) < (↑s.length : Int)) = false from (by simp; done)) ?_
    refine Wp.ret' (by kernel_rfl) ?_
    exact FinQ.pure (rs' := [V1.c (Cell.bool (bif decide ((↑s.length : Int) ≥ (1 : Int)) then decide ((↑s.length : Int) ≤ (128 : Int)) else false))]) (by kernel_rfl) rfl (by kernel_rfl)
def mayC (f : FT) : Bool := bif wdT f.name then wdT f.value else false
def pairC (f : FT) : List UInt8 := f.name ++ [61] ++ f.value
theorem mayC_ok {G : Nat → Option (List Cell)} (f : FT) (h1 : f.name.length < 1000000000) (h2 : f.value.length < 1000000000) : Pur Tryz.prog G 120 [.agg (encF f)] [.c (.bool (mayC f))] := by
  refine Pur.of Tryz.func120 (by kernel_rfl) (by kernel_rfl) (by kernel_rfl) ?_
  refine Wp.go (mx := true) (fun _ => mixed) [(1, {cs := [(2, pc (word_ok f.name (by omega))), (6, pc (word_ok f.value (by omega)))]})] 100 [] [] (by kernel_rfl) (by kernel_rfl) (by kernel_rfl) trivial ?_
  refine Wp.ret' (by kernel_rfl) ?_
  exact FinQ.pure (rs' := [V1.c (Cell.bool (bif wdT f.name then wdT f.value else false))]) (by kernel_rfl) rfl (by kernel_rfl)
theorem mayC14_ok {G : Nat → Option (List Cell)} (f : FT) (h1 : f.name.length < 1000000000) (h2 : f.value.length < 1000000000) : Pur Tryz.prog G 122 [.agg (encF f)] [.c (.bool (mayC f))] := by
  refine Pur.of Tryz.func122 (by kernel_rfl) (by kernel_rfl) (by kernel_rfl) ?_
  refine Wp.go (mx := true) (fun _ => mixed) [(1, {cs := [(2, pc (word6_ok f.name (by omega))), (6, pc (word6_ok f.value (by omega)))]})] 100 [] [] (by kernel_rfl) (by kernel_rfl) (by kernel_rfl) trivial ?_
  refine Wp.ret' (by kernel_rfl) ?_
  exact FinQ.pure (rs' := [V1.c (Cell.bool (bif wdT f.name then wdT f.value else false))]) (by kernel_rfl) rfl (by kernel_rfl)
theorem pair_ok {G : Nat → Option (List Cell)} (f : FT) (h1 : f.name.length < 1000000000) (h2 : f.value.length < 1000000000) : Pur Tryz.prog G 121 [.agg (encF f)] [.c (.str (pairC f))] := by
  refine Pur.of Tryz.func121 (by kernel_rfl) (by kernel_rfl) (by kernel_rfl) ?_
  refine Wp.go (mx := true) (fun _ => mixed) [] 100 [] [f.name.length + (1 : Nat) ≤ (9223372036854775807 : Nat), (f.name ++ [(61 : UInt8)]).length + f.value.length ≤ (9223372036854775807 : Nat)] (by kernel_rfl) (by kernel_rfl) (by kernel_rfl) ⟨(by omega), (show (f.name ++ [(61 : UInt8)]).length + f.value.length ≤ (9223372036854775807 : Nat) from (by simp; omega))⟩ ?_
  refine Wp.ret' (by kernel_rfl) ?_
  exact FinQ.pure (rs' := [V1.c (Cell.str (f.name ++ [(61 : UInt8)] ++ f.value))]) (by kernel_rfl) rfl (by kernel_rfl)
def ageC : List UInt8 := [59, 32, 77, 97, 120, 45, 65, 103, 101, 61]
def behC : List UInt8 := [59, 32, 80, 97, 116, 104, 61, 47, 59, 32, 83, 101, 99, 117, 114, 101, 59, 32, 72, 116, 116, 112, 79, 110, 108, 121, 59, 32, 83, 97, 109, 101, 83, 105, 116, 101, 61, 76, 97, 120]
def badC (f : FT) (n : Int) : Bool := bif bif !mayC f then true else decide (n < 0) then true else decide (n > 1099511627776)
def setC (f : FT) (n : Int) : List UInt8 := if badC f n then [] else pairC f ++ ageC ++ Lib.itoa n ++ behC
theorem setC_len (f : FT) (n : Int) (h1 : f.name.length < 1000000000) (h2 : f.value.length < 1000000000) (h0 : 0 ≤ n) (h3 : n ≤ 1099511627776) : (Lib.itoa n).length ≤ 1099511627777 ∧ (pairC f).length ≤ 2000000000 := by
  obtain ⟨k, rfl⟩ := Int.eq_ofNat_of_zero_le h0
  refine ⟨Nat.le_trans (dec_len k) (by omega), ?_⟩
  unfold pairC; simp only [List.length_append, List.length_cons, List.length_nil]; omega
theorem itoa_p (n : Int) (h0 : -9223372036854775808 ≤ n) (h1 : n ≤ 9223372036854775807) : Pur Tryz.prog Gp 108 [.c (.int .i64 n)] [.c (.str (Lib.itoa n))] := Tw.Pur.grow Gd_Gp (itoa_ok n h0 h1)
theorem set_ok (f : FT) (n : Int) (h1 : f.name.length < 1000000000) (h2 : f.value.length < 1000000000) : Pur Tryz.prog Gp 72 [.agg (encF f), .c (.int .i64 n)] [.c (.str (setC f n))] := by
  refine Pur.of Tryz.func72 (by kernel_rfl) (by kernel_rfl) (by kernel_rfl) ?_
  have c1 := mayC_ok (G := Gp) f h1 h2
  have c2 := pair_ok (G := Gp) f h1 h2
  cases hb : badC f n with
  | true =>
    have hs : setC f n = [] := by unfold setC; rw [if_pos hb]
    rw [hs]
    unfold badC at hb
    refine Wp.go (mx := true) (fun _ => mixed) [(1, {cs := [(1, pc c1)]})] 100 [true] [(bif bif !mayC f then true else decide (n < (0 : Int)) then true else decide (n > (1099511627776 : Int))) = true] (by kernel_rfl) (by kernel_rfl) (by kernel_rfl) (show (bif bif !mayC f then true else decide (n < (0 : Int)) then true else decide (n > (1099511627776 : Int))) = true from (by assumption)) ?_
    refine Wp.ret' (by kernel_rfl) ?_
    exact FinQ.pure (rs' := [V1.c (Cell.str [])]) (by kernel_rfl) rfl (by kernel_rfl)
  | false =>
    have hs : setC f n = pairC f ++ ageC ++ Lib.itoa n ++ behC := by unfold setC; rw [if_neg (by rw [hb]; decide)]
    rw [hs]
    have hn : 0 ≤ n ∧ n ≤ 1099511627776 := by
      unfold badC at hb
      have hb' := hb
      cases hm : mayC f with
      | false => rw [hm] at hb'; cases hb'
      | true =>
        rw [hm] at hb'
        simp at hb'
        omega
    obtain ⟨l1, l2⟩ := setC_len f n h1 h2 hn.1 hn.2
    have hn1 := hn.1
    have hn2 := hn.2
    unfold badC at hb
    refine Wp.go (mx := true) (fun _ => mixed) [(1, {cs := [(1, pc c1)]}), (3, {cs := [(1, pc c2), (4, pc (itoa_p n (by omega) (by omega)))]})] 100 [false] [(bif bif !mayC f then true else decide (n < (0 : Int)) then true else decide (n > (1099511627776 : Int))) = false, (pairC f).length + (10 : Nat) ≤ (9223372036854775807 : Nat), (pairC f ++ [(59 : UInt8), 32, 77, 97, 120, 45, 65, 103, 101, 61]).length + (Lib.itoa n).length ≤ (9223372036854775807 : Nat), (pairC f ++ [(59 : UInt8), 32, 77, 97, 120, 45, 65, 103, 101, 61] ++ Lib.itoa n).length + (40 : Nat) ≤ (9223372036854775807 : Nat)] (by kernel_rfl) (by kernel_rfl) (by kernel_rfl) ⟨(by assumption), (by omega), (by simp; omega), (show (pairC f ++ [(59 : UInt8), 32, 77, 97, 120, 45, 65, 103, 101, 61] ++ Lib.itoa n).length + (40 : Nat) ≤ (9223372036854775807 : Nat) from (by simp; omega))⟩ ?_
    refine Wp.ret' (by kernel_rfl) ?_
    exact FinQ.pure (rs' := [V1.c (Cell.str (pairC f ++ [(59 : UInt8), 32, 77, 97, 120, 45, 65, 103, 101, 61] ++ Lib.itoa n ++ [(59 : UInt8), 32, 80, 97, 116, 104, 61, 47, 59, 32, 83, 101, 99, 117, 114, 101, 59, 32, 72, 116, 116, 112, 79, 110, 108, 121, 59, 32, 83, 97, 109, 101, 83, 105, 116, 101, 61, 76, 97, 120]))]) (by kernel_rfl) rfl (by kernel_rfl)
theorem set14_ok {G : Nat → Option (List Cell)} (f : FT) (n : Int) (h1 : f.name.length < 1000000000) (h2 : f.value.length < 1000000000) : Pur Tryz.prog G 73 [.agg (encF f), .c (.int .i64 n)] [.c (.str (setC f n))] := by
  refine Pur.of Tryz.func73 (by kernel_rfl) (by kernel_rfl) (by kernel_rfl) ?_
  have c1 := mayC14_ok (G := G) f h1 h2
  cases hb : badC f n with
  | true =>
    have hs : setC f n = [] := by unfold setC; rw [if_pos hb]
    rw [hs]
    unfold badC at hb
    refine Wp.go (mx := true) (fun _ => mixed) [(1, {cs := [(1, pc c1)]})] 100 [true] [(bif bif !mayC f then true else decide (n < (0 : Int)) then true else decide (n > (1099511627776 : Int))) = true] (by kernel_rfl) (by kernel_rfl) (by kernel_rfl) (show (bif bif !mayC f then true else decide (n < (0 : Int)) then true else decide (n > (1099511627776 : Int))) = true from (by assumption)) ?_
    refine Wp.ret' (by kernel_rfl) ?_
    exact FinQ.pure (rs' := [V1.c (Cell.str [])]) (by kernel_rfl) rfl (by kernel_rfl)
  | false =>
    have hs : setC f n = pairC f ++ ageC ++ Lib.itoa n ++ behC := by unfold setC; rw [if_neg (by rw [hb]; decide)]
    rw [hs]
    have hn : 0 ≤ n ∧ n ≤ 1099511627776 := by
      unfold badC at hb
      have hb' := hb
      cases hm : mayC f with
      | false => rw [hm] at hb'; cases hb'
      | true =>
        rw [hm] at hb'
        simp at hb'
        omega
    obtain ⟨l1, l2⟩ := setC_len f n h1 h2 hn.1 hn.2
    have hn1 := hn.1
    have hn2 := hn.2
    unfold badC at hb
    refine Wp.go (mx := true) (fun _ => mixed) [(1, {cs := [(1, pc c1)]}), (3, {cs := [(8, pc (digits_ok n (by omega) (by omega)))]})] 100 [false] [(bif bif !mayC f then true else decide (n < (0 : Int)) then true else decide (n > (1099511627776 : Int))) = false, f.name.length + (1 : Nat) ≤ (9223372036854775807 : Nat), (f.name ++ [(61 : UInt8)]).length + f.value.length ≤ (9223372036854775807 : Nat), (f.name ++ [(61 : UInt8)] ++ f.value).length + (10 : Nat) ≤ (9223372036854775807 : Nat), (f.name ++ [(61 : UInt8)] ++ f.value ++ [(59 : UInt8), 32, 77, 97, 120, 45, 65, 103, 101, 61]).length + (Lib.itoa n).length ≤ (9223372036854775807 : Nat), (f.name ++ [(61 : UInt8)] ++ f.value ++ [(59 : UInt8), 32, 77, 97, 120, 45, 65, 103, 101, 61] ++ Lib.itoa n).length + (40 : Nat) ≤ (9223372036854775807 : Nat)] (by kernel_rfl) (by kernel_rfl) (by kernel_rfl) ⟨(by assumption), (by omega), (by simp; omega), (by simp; omega), (by simp; omega), (show (f.name ++ [(61 : UInt8)] ++ f.value ++ [(59 : UInt8), 32, 77, 97, 120, 45, 65, 103, 101, 61] ++ Lib.itoa n).length + (40 : Nat) ≤ (9223372036854775807 : Nat) from (by simp; omega))⟩ ?_
    refine Wp.ret' (by kernel_rfl) ?_
    exact FinQ.pure (rs' := [V1.c (Cell.str (f.name ++ [(61 : UInt8)] ++ f.value ++ [(59 : UInt8), 32, 77, 97, 120, 45, 65, 103, 101, 61] ++ Lib.itoa n ++ [(59 : UInt8), 32, 80, 97, 116, 104, 61, 47, 59, 32, 83, 101, 99, 117, 114, 101, 59, 32, 72, 116, 116, 112, 79, 110, 108, 121, 59, 32, 83, 97, 109, 101, 83, 105, 116, 101, 61, 76, 97, 120]))]) (by kernel_rfl) rfl (by kernel_rfl)
end Go.Proofs.Tw
end

section
open Go Go.Sv
namespace Go.Proofs.Tw
attribute [local irreducible] Wp FinQ resV Ent Pur Go.Sv.Fn Sat0
set_option maxRecDepth 100000
set_option maxHeartbeats 4000000

/-! answers: of an address, a page, a cookie -/
def goH (u : UT) : List FT := [⟨[108, 111, 99, 97, 116, 105, 111, 110], printU u⟩, ⟨[99, 97, 99, 104, 101, 45, 99, 111, 110, 116, 114, 111, 108], [110, 111, 45, 115, 116, 111, 114, 101]⟩]
def goT (u : UT) : RT := ⟨302, goH u, []⟩
theorem goH_den (u : UT) : EqvD (.c (.sl 2 2 (fun i j => nthD [.str [108, 111, 99, 97, 116, 105, 111, 110], .str (printU u), .str [99, 97, 99, 104, 101, 45, 99, 111, 110, 116, 114, 111, 108], .str [110, 111, 45, 115, 116, 111, 114, 101]] (i * 2 + j)))) (.c (encH (goH u))) := enc_lit (enc := encF) (d := .nil) (sz := 2) (fun _ => rfl) (goH u) rfl rfl
theorem go_ok (u : UT) (h : FitU u) : Pur Tryz.prog Gp 26 [.agg (encU u)] [.agg (encT (goT u))] := by
  refine Pur.of Tryz.func26 (by kernel_rfl) (by kernel_rfl) (by kernel_rfl) ?_
  have c1 := printUri_ok u h
  have c2 : Pur Tryz.prog Gp 60 [] [.agg [.str [99, 97, 99, 104, 101, 45, 99, 111, 110, 116, 114, 111, 108], .str [110, 111, 45, 115, 116, 111, 114, 101]]] := kept_ok
  have e1 := goH_den u
  refine Wp.go (mx := true) (fun _ => mixed) [(1, {cs := [(1, pc c1), (3, pc c2)], fm := [(4, .c (encH (goH u)))]})] 100 [] [EqvI (V1.c (Cell.sl (2 : Nat) (2 : Nat) fun (i j : Nat) => nthD [Cell.str [(108 : UInt8), 111, 99, 97, 116, 105, 111, 110], Cell.str (printU u), Cell.str [(99 : UInt8), 97, 99, 104, 101, 45, 99, 111, 110, 116, 114, 111, 108], Cell.str [(110 : UInt8), 111, 45, 115, 116, 111, 114, 101]] (i * (2 : Nat) + j))) (V1.c (encH (goH u))), EqvD (V1.c (Cell.sl (2 : Nat) (2 : Nat) fun (i j : Nat) => nthD [Cell.str [(108 : UInt8), 111, 99, 97, 116, 105, 111, 110], Cell.str (printU u), Cell.str [(99 : UInt8), 97, 99, 104, 101, 45, 99, 111, 110, 116, 114, 111, 108], Cell.str [(110 : UInt8), 111, 45, 115, 116, 111, 114, 101]] (i * (2 : Nat) + j))) (V1.c (encH (goH u)))] (by kernel_rfl) (by kernel_rfl) (by kernel_rfl) ⟨fun _ _ => trivial, (show EqvD (V1.c (Cell.sl (2 : Nat) (2 : Nat) fun (i j : Nat) => nthD [Cell.str [(108 : UInt8), 111, 99, 97, 116, 105, 111, 110], Cell.str (printU u), Cell.str [(99 : UInt8), 97, 99, 104, 101, 45, 99, 111, 110, 116, 114, 111, 108], Cell.str [(110 : UInt8), 111, 45, 115, 116, 111, 114, 101]] (i * (2 : Nat) + j))) (V1.c (encH (goH u))) from (by assumption))⟩ ?_
  refine Wp.ret' (by kernel_rfl) ?_
  exact FinQ.pure (rs' := [V1.agg [Cell.int .i64 (302 : Int), Cell.sl (2 : Nat) (goH u).length fun (i j : Nat) => nthD (encF ((goH u).getD i FT.nil)) j, Cell.str []]]) (by kernel_rfl) rfl (by kernel_rfl)
theorem go24_ok {G : Nat → Option (List Cell)} (u : UT) (h : FitU u) : Pur Tryz.prog G 23 [.agg (encU u)] [.agg (encT (goT u))] := by
  refine Pur.of Tryz.func23 (by kernel_rfl) (by kernel_rfl) (by kernel_rfl) ?_
  have c1 := printU11_ok (G := G) u h
  have e1 := goH_den u
  refine Wp.go (mx := true) (fun _ => mixed) [(1, {cs := [(1, pc c1)], fm := [(4, .c (encH (goH u)))]})] 100 [] [EqvI (V1.c (Cell.sl (2 : Nat) (2 : Nat) fun (i j : Nat) => nthD [Cell.str [(108 : UInt8), 111, 99, 97, 116, 105, 111, 110], Cell.str (printU u), Cell.str [(99 : UInt8), 97, 99, 104, 101, 45, 99, 111, 110, 116, 114, 111, 108], Cell.str [(110 : UInt8), 111, 45, 115, 116, 111, 114, 101]] (i * (2 : Nat) + j))) (V1.c (encH (goH u))), EqvD (V1.c (Cell.sl (2 : Nat) (2 : Nat) fun (i j : Nat) => nthD [Cell.str [(108 : UInt8), 111, 99, 97, 116, 105, 111, 110], Cell.str (printU u), Cell.str [(99 : UInt8), 97, 99, 104, 101, 45, 99, 111, 110, 116, 114, 111, 108], Cell.str [(110 : UInt8), 111, 45, 115, 116, 111, 114, 101]] (i * (2 : Nat) + j))) (V1.c (encH (goH u)))] (by kernel_rfl) (by kernel_rfl) (by kernel_rfl) ⟨fun _ _ => trivial, (show EqvD (V1.c (Cell.sl (2 : Nat) (2 : Nat) fun (i j : Nat) => nthD [Cell.str [(108 : UInt8), 111, 99, 97, 116, 105, 111, 110], Cell.str (printU u), Cell.str [(99 : UInt8), 97, 99, 104, 101, 45, 99, 111, 110, 116, 114, 111, 108], Cell.str [(110 : UInt8), 111, 45, 115, 116, 111, 114, 101]] (i * (2 : Nat) + j))) (V1.c (encH (goH u))) from (by assumption))⟩ ?_
  refine Wp.ret' (by kernel_rfl) ?_
  exact FinQ.pure (rs' := [V1.agg [Cell.int .i64 (302 : Int), Cell.sl (2 : Nat) (goH u).length fun (i j : Nat) => nthD (encF ((goH u).getD i FT.nil)) j, Cell.str []]]) (by kernel_rfl) rfl (by kernel_rfl)
def pageJ (name door : List UInt8) : JV := objJ [[112, 97, 103, 101], [116, 120, 110]] [textJ name, textJ door]
def pageT (name door : List UInt8) : RT := jsonT (pageJ name door)
theorem page_print (name door : List UInt8) : printJ (pageJ name door) = (123 :: Lib.join [(quotedT [112, 97, 103, 101] ++ [58]) ++ quotedT name, (quotedT [116, 120, 110] ++ [58]) ++ quotedT door] [44]) ++ [125] := by
  rw [printJ_eq]
  show (123 :: Lib.join (parts (pageJ name door) 2) [44]) ++ [125] = _
  have : parts (pageJ name door) 2 = [(quotedT [112, 97, 103, 101] ++ [58]) ++ quotedT name, (quotedT [116, 120, 110] ++ [58]) ++ quotedT door] := by
    show [partAt (pageJ name door) 0, partAt (pageJ name door) 1] = _
    unfold partAt
    rw [if_pos (by rfl), if_pos (by rfl)]
    show [(quotedT [112, 97, 103, 101] ++ [58]) ++ printJ (textJ name), (quotedT [116, 120, 110] ++ [58]) ++ printJ (textJ door)] = _
    rw [text_print, text_print]
  rw [this]
theorem page_fits (name door : List UInt8) (h1 : name.length ≤ 300) (h2 : door.length ≤ 300) : Small (pageJ name door) ∧ Short (pageJ name door) ∧ Fit (pageJ name door) := by
  have two : ∀ {p : JV → Prop}, p (textJ name) → p (textJ door) → ∀ x ∈ [textJ name, textJ door], p x := by
    intro p a b x hx
    rcases List.mem_cons.1 hx with rfl | hx
    · exact a
    · rcases List.mem_singleton.1 hx with rfl; exact b
  have l1 := quoted_len name
  have l2 := quoted_len door
  refine ⟨.mk (by show 2 < _; omega) (by show 2 < _; omega) (two (text_small _) (text_small _)), .mk (by show 0 < _; omega) (by show 2 < _; omega) (show ∀ x ∈ [[112, 97, 103, 101], [116, 120, 110]], x.length < 4611686018427387904 from by decide) (by show 2 < _; omega) (two (text_short _ (by omega)) (text_short _ (by omega))),
    .mk (by show 2 ≤ _; omega) (fun _ => by show 2 ≤ 2; omega) (by show _ ≤ (0 : Int); omega) (by show (0 : Int) ≤ _; omega) ?_ (two (text_fit _ (by omega)) (text_fit _ (by omega)))⟩
  rw [page_print]
  have q1 : (quotedT [112, 97, 103, 101]).length = 6 := by decide
  have q2 : (quotedT [116, 120, 110]).length = 5 := by decide
  simp only [Lib.join, List.length_append, List.length_cons, List.length_nil, q1, q2]
  simp
  omega
theorem page_ok (name door : List UInt8) (h1 : name.length ≤ 300) (h2 : door.length ≤ 300) : Pur Tryz.prog Tw.Gd 29 [.c (.str name), .c (.str door)] [.agg (encT (pageT name door))] := by
  obtain ⟨f1, f2, f3⟩ := page_fits name door h1 h2
  refine Pur.of Tryz.func29 (by kernel_rfl) (by kernel_rfl) (by kernel_rfl) ?_
  have e1 : EqvD (.c (.sl 1 2 (fun i j => nthD [Cell.str [112, 97, 103, 101], Cell.str [116, 120, 110]] (i * 1 + j)))) (.c (encS [[112, 97, 103, 101], [116, 120, 110]])) := strs_new [[112, 97, 103, 101], [116, 120, 110]]
  have e2 : EqvD (.c (.sl 6 2 (fun i j => nthD ([textJ name, textJ door].flatMap encJ) (i * 6 + j)))) (.c (.sl 6 2 (kidC [textJ name, textJ door]))) := kids_new [textJ name, textJ door]
  have c : Pur Tryz.prog Tw.Gd 17 [.agg (encJ (pageJ name door))] [.agg (encT (pageT name door))] := Json_ok f1 (fun _ => f3)
  refine Wp.go (mx := true) (fun _ => mixed) [(1, {cs := [(2, pc (text_ok name)), (4, pc (text_ok door)), (7, pc c)], fm := [(0, .c (encS [[112, 97, 103, 101], [116, 120, 110]])), (5, .c (.sl 6 2 (kidC [textJ name, textJ door])))]})] 100 [] [EqvI (V1.c (Cell.sl (1 : Nat) (2 : Nat) fun (i j : Nat) => nthD [Cell.str [(112 : UInt8), 97, 103, 101], Cell.str [(116 : UInt8), 120, 110]] (i * (1 : Nat) + j))) (V1.c (encS [[(112 : UInt8), 97, 103, 101], [(116 : UInt8), 120, 110]])), EqvD (V1.c (Cell.sl (1 : Nat) (2 : Nat) fun (i j : Nat) => nthD [Cell.str [(112 : UInt8), 97, 103, 101], Cell.str [(116 : UInt8), 120, 110]] (i * (1 : Nat) + j))) (V1.c (encS [[(112 : UInt8), 97, 103, 101], [(116 : UInt8), 120, 110]])), EqvI (V1.c (Cell.sl (6 : Nat) (2 : Nat) fun (i j : Nat) => nthD [Cell.int .i64 (textJ name).kind, Cell.bool (textJ name).b, Cell.int .i64 (textJ name).n, Cell.str (textJ name).s, Cell.sl (1 : Nat) (textJ name).names.length fun (i j : Nat) => nthD [Cell.str ((textJ name).names.getD i [])] j, Cell.sl (6 : Nat) (textJ name).kids.length (kidC (textJ name).kids), Cell.int .i64 (textJ door).kind, Cell.bool (textJ door).b, Cell.int .i64 (textJ door).n, Cell.str (textJ door).s, Cell.sl (1 : Nat) (textJ door).names.length fun (i j : Nat) => nthD [Cell.str ((textJ door).names.getD i [])] j, Cell.sl (6 : Nat) (textJ door).kids.length (kidC (textJ door).kids)] (i * (6 : Nat) + j))) (V1.c (Cell.sl (6 : Nat) (2 : Nat) (kidC [textJ name, textJ door]))), EqvD (V1.c (Cell.sl (6 : Nat) (2 : Nat) fun (i j : Nat) => nthD [Cell.int .i64 (textJ name).kind, Cell.bool (textJ name).b, Cell.int .i64 (textJ name).n, Cell.str (textJ name).s, Cell.sl (1 : Nat) (textJ name).names.length fun (i j : Nat) => nthD [Cell.str ((textJ name).names.getD i [])] j, Cell.sl (6 : Nat) (textJ name).kids.length (kidC (textJ name).kids), Cell.int .i64 (textJ door).kind, Cell.bool (textJ door).b, Cell.int .i64 (textJ door).n, Cell.str (textJ door).s, Cell.sl (1 : Nat) (textJ door).names.length fun (i j : Nat) => nthD [Cell.str ((textJ door).names.getD i [])] j, Cell.sl (6 : Nat) (textJ door).kids.length (kidC (textJ door).kids)] (i * (6 : Nat) + j))) (V1.c (Cell.sl (6 : Nat) (2 : Nat) (kidC [textJ name, textJ door])))] (by kernel_rfl) (by kernel_rfl) (by kernel_rfl) ⟨fun _ _ => trivial, (by assumption), fun _ _ => trivial, (show EqvD (V1.c (Cell.sl (6 : Nat) (2 : Nat) fun (i j : Nat) => nthD [Cell.int .i64 (textJ name).kind, Cell.bool (textJ name).b, Cell.int .i64 (textJ name).n, Cell.str (textJ name).s, Cell.sl (1 : Nat) (textJ name).names.length fun (i j : Nat) => nthD [Cell.str ((textJ name).names.getD i [])] j, Cell.sl (6 : Nat) (textJ name).kids.length (kidC (textJ name).kids), Cell.int .i64 (textJ door).kind, Cell.bool (textJ door).b, Cell.int .i64 (textJ door).n, Cell.str (textJ door).s, Cell.sl (1 : Nat) (textJ door).names.length fun (i j : Nat) => nthD [Cell.str ((textJ door).names.getD i [])] j, Cell.sl (6 : Nat) (textJ door).kids.length (kidC (textJ door).kids)] (i * (6 : Nat) + j))) (V1.c (Cell.sl (6 : Nat) (2 : Nat) (kidC [textJ name, textJ door]))) from (by assumption))⟩ ?_
  refine Wp.ret' (by kernel_rfl) ?_
  exact FinQ.pure (rs' := [V1.agg [Cell.int .i64 (pageT name door).status, Cell.sl (2 : Nat) (pageT name door).head.length fun (i j : Nat) => nthD (encF ((pageT name door).head.getD i FT.nil)) j, Cell.str (pageT name door).body]]) (by kernel_rfl) rfl (by kernel_rfl)
theorem page24_ok {G : Nat → Option (List Cell)} (name door : List UInt8) (h1 : name.length ≤ 300) (h2 : door.length ≤ 300) : Pur Tryz.prog G 30 [.c (.str name), .c (.str door)] [.agg (encT (pageT name door))] := by
  obtain ⟨f1, f2, f3⟩ := page_fits name door h1 h2
  refine Pur.of Tryz.func30 (by kernel_rfl) (by kernel_rfl) (by kernel_rfl) ?_
  have e1 : EqvD (.c (.sl 1 2 (fun i j => nthD [Cell.str [112, 97, 103, 101], Cell.str [116, 120, 110]] (i * 1 + j)))) (.c (encS [[112, 97, 103, 101], [116, 120, 110]])) := strs_new [[112, 97, 103, 101], [116, 120, 110]]
  have e2 : EqvD (.c (.sl 6 2 (fun i j => nthD ([textJ name, textJ door].flatMap encJ) (i * 6 + j)))) (.c (.sl 6 2 (kidC [textJ name, textJ door]))) := kids_new [textJ name, textJ door]
  have c : Pur Tryz.prog G 21 [.agg (encJ (pageJ name door))] [.agg (encT (pageT name door))] := Json24_ok f2 (fun _ => f3)
  have c2 : Pur Tryz.prog G 74 [.c (encS [[112, 97, 103, 101], [116, 120, 110]]), .c (.sl 6 2 (kidC [textJ name, textJ door]))] [.agg (encJ (pageJ name door))] := O_ok [[112, 97, 103, 101], [116, 120, 110]] [textJ name, textJ door]
  refine Wp.go (mx := true) (fun _ => mixed) [(1, {cs := [(2, pc (S_ok name)), (4, pc (S_ok door)), (6, pc c2), (7, pc c)], fm := [(0, .c (encS [[112, 97, 103, 101], [116, 120, 110]])), (5, .c (.sl 6 2 (kidC [textJ name, textJ door])))]})] 100 [] [EqvI (V1.c (Cell.sl (1 : Nat) (2 : Nat) fun (i j : Nat) => nthD [Cell.str [(112 : UInt8), 97, 103, 101], Cell.str [(116 : UInt8), 120, 110]] (i * (1 : Nat) + j))) (V1.c (encS [[(112 : UInt8), 97, 103, 101], [(116 : UInt8), 120, 110]])), EqvD (V1.c (Cell.sl (1 : Nat) (2 : Nat) fun (i j : Nat) => nthD [Cell.str [(112 : UInt8), 97, 103, 101], Cell.str [(116 : UInt8), 120, 110]] (i * (1 : Nat) + j))) (V1.c (encS [[(112 : UInt8), 97, 103, 101], [(116 : UInt8), 120, 110]])), EqvI (V1.c (Cell.sl (6 : Nat) (2 : Nat) fun (i j : Nat) => nthD [Cell.int .i64 (textJ name).kind, Cell.bool (textJ name).b, Cell.int .i64 (textJ name).n, Cell.str (textJ name).s, Cell.sl (1 : Nat) (textJ name).names.length fun (i j : Nat) => nthD [Cell.str ((textJ name).names.getD i [])] j, Cell.sl (6 : Nat) (textJ name).kids.length (kidC (textJ name).kids), Cell.int .i64 (textJ door).kind, Cell.bool (textJ door).b, Cell.int .i64 (textJ door).n, Cell.str (textJ door).s, Cell.sl (1 : Nat) (textJ door).names.length fun (i j : Nat) => nthD [Cell.str ((textJ door).names.getD i [])] j, Cell.sl (6 : Nat) (textJ door).kids.length (kidC (textJ door).kids)] (i * (6 : Nat) + j))) (V1.c (Cell.sl (6 : Nat) (2 : Nat) (kidC [textJ name, textJ door]))), EqvD (V1.c (Cell.sl (6 : Nat) (2 : Nat) fun (i j : Nat) => nthD [Cell.int .i64 (textJ name).kind, Cell.bool (textJ name).b, Cell.int .i64 (textJ name).n, Cell.str (textJ name).s, Cell.sl (1 : Nat) (textJ name).names.length fun (i j : Nat) => nthD [Cell.str ((textJ name).names.getD i [])] j, Cell.sl (6 : Nat) (textJ name).kids.length (kidC (textJ name).kids), Cell.int .i64 (textJ door).kind, Cell.bool (textJ door).b, Cell.int .i64 (textJ door).n, Cell.str (textJ door).s, Cell.sl (1 : Nat) (textJ door).names.length fun (i j : Nat) => nthD [Cell.str ((textJ door).names.getD i [])] j, Cell.sl (6 : Nat) (textJ door).kids.length (kidC (textJ door).kids)] (i * (6 : Nat) + j))) (V1.c (Cell.sl (6 : Nat) (2 : Nat) (kidC [textJ name, textJ door])))] (by kernel_rfl) (by kernel_rfl) (by kernel_rfl) ⟨fun _ _ => trivial, (by assumption), fun _ _ => trivial, (show EqvD (V1.c (Cell.sl (6 : Nat) (2 : Nat) fun (i j : Nat) => nthD [Cell.int .i64 (textJ name).kind, Cell.bool (textJ name).b, Cell.int .i64 (textJ name).n, Cell.str (textJ name).s, Cell.sl (1 : Nat) (textJ name).names.length fun (i j : Nat) => nthD [Cell.str ((textJ name).names.getD i [])] j, Cell.sl (6 : Nat) (textJ name).kids.length (kidC (textJ name).kids), Cell.int .i64 (textJ door).kind, Cell.bool (textJ door).b, Cell.int .i64 (textJ door).n, Cell.str (textJ door).s, Cell.sl (1 : Nat) (textJ door).names.length fun (i j : Nat) => nthD [Cell.str ((textJ door).names.getD i [])] j, Cell.sl (6 : Nat) (textJ door).kids.length (kidC (textJ door).kids)] (i * (6 : Nat) + j))) (V1.c (Cell.sl (6 : Nat) (2 : Nat) (kidC [textJ name, textJ door]))) from (by assumption))⟩ ?_
  refine Wp.ret' (by kernel_rfl) ?_
  exact FinQ.pure (rs' := [V1.agg [Cell.int .i64 (pageT name door).status, Cell.sl (2 : Nat) (pageT name door).head.length fun (i j : Nat) => nthD (encF ((pageT name door).head.getD i FT.nil)) j, Cell.str (pageT name door).body]]) (by kernel_rfl) rfl (by kernel_rfl)
def boolJ (b : Bool) : JV := .mk 2 b 0 [] [] []
def intJ (n : Int) : JV := .mk 3 false n [] [] []
theorem B_ok {G : Nat → Option (List Cell)} (b : Bool) : Pur Tryz.prog G 62 [.c (.bool b)] [.agg (encJ (boolJ b))] := by
  refine Pur.of Tryz.func62 (by kernel_rfl) (by kernel_rfl) (by kernel_rfl) ?_
  have e1 : EqvD (.agg [.int .i64 2, .bool b, .int .i64 0, .str [], .nilsl, .nilsl]) (.agg (encJ (boolJ b))) := agg_eqv (.cons CEq.rfl' (.cons CEq.rfl' (.cons CEq.rfl' (.cons CEq.rfl' (.cons CEq.nil (.cons CEq.nil .nil))))))
  refine Wp.go (mx := true) (fun _ => mixed) [(1, {fm := [(1, .agg (encJ (boolJ b)))]})] 100 [] [EqvI (V1.agg [Cell.int .i64 (2 : Int), Cell.bool b, Cell.int .i64 (0 : Int), Cell.str [], Cell.nilsl, Cell.nilsl]) (V1.agg (encJ (boolJ b))), EqvD (V1.agg [Cell.int .i64 (2 : Int), Cell.bool b, Cell.int .i64 (0 : Int), Cell.str [], Cell.nilsl, Cell.nilsl]) (V1.agg (encJ (boolJ b)))] (by kernel_rfl) (by kernel_rfl) (by kernel_rfl) ⟨eqvI_flat _ _ (by kernel_rfl), (show EqvD (V1.agg [Cell.int .i64 (2 : Int), Cell.bool b, Cell.int .i64 (0 : Int), Cell.str [], Cell.nilsl, Cell.nilsl]) (V1.agg (encJ (boolJ b))) from (by assumption))⟩ ?_
  refine Wp.ret' (by kernel_rfl) ?_
  exact FinQ.pure (rs' := [V1.agg [Cell.int .i64 (boolJ b).kind, Cell.bool (boolJ b).b, Cell.int .i64 (boolJ b).n, Cell.str (boolJ b).s, Cell.sl (1 : Nat) (boolJ b).names.length fun (i j : Nat) => nthD [Cell.str ((boolJ b).names.getD i [])] j, Cell.sl (6 : Nat) (boolJ b).kids.length (kidC (boolJ b).kids)]]) (by kernel_rfl) rfl (by kernel_rfl)
theorem I_ok {G : Nat → Option (List Cell)} (n : Int) : Pur Tryz.prog G 63 [.c (.int .i64 n)] [.agg (encJ (intJ n))] := by
  refine Pur.of Tryz.func63 (by kernel_rfl) (by kernel_rfl) (by kernel_rfl) ?_
  have e1 : EqvD (.agg [.int .i64 3, .bool false, .int .i64 n, .str [], .nilsl, .nilsl]) (.agg (encJ (intJ n))) := agg_eqv (.cons CEq.rfl' (.cons CEq.rfl' (.cons CEq.rfl' (.cons CEq.rfl' (.cons CEq.nil (.cons CEq.nil .nil))))))
  refine Wp.go (mx := true) (fun _ => mixed) [(1, {fm := [(1, .agg (encJ (intJ n)))]})] 100 [] [EqvI (V1.agg [Cell.int .i64 (3 : Int), Cell.bool false, Cell.int .i64 n, Cell.str [], Cell.nilsl, Cell.nilsl]) (V1.agg (encJ (intJ n))), EqvD (V1.agg [Cell.int .i64 (3 : Int), Cell.bool false, Cell.int .i64 n, Cell.str [], Cell.nilsl, Cell.nilsl]) (V1.agg (encJ (intJ n)))] (by kernel_rfl) (by kernel_rfl) (by kernel_rfl) ⟨eqvI_flat _ _ (by kernel_rfl), (show EqvD (V1.agg [Cell.int .i64 (3 : Int), Cell.bool false, Cell.int .i64 n, Cell.str [], Cell.nilsl, Cell.nilsl]) (V1.agg (encJ (intJ n))) from (by assumption))⟩ ?_
  refine Wp.ret' (by kernel_rfl) ?_
  exact FinQ.pure (rs' := [V1.agg [Cell.int .i64 (intJ n).kind, Cell.bool (intJ n).b, Cell.int .i64 (intJ n).n, Cell.str (intJ n).s, Cell.sl (1 : Nat) (intJ n).names.length fun (i j : Nat) => nthD [Cell.str ((intJ n).names.getD i [])] j, Cell.sl (6 : Nat) (intJ n).kids.length (kidC (intJ n).kids)]]) (by kernel_rfl) rfl (by kernel_rfl)
theorem doc24_ok {G : Nat → Option (List Cell)} (name : List UInt8) (hn : name.length ≤ 1000000) : Pur Tryz.prog G 33 [.c (.str name)] [.agg (encJ (docJ name))] := by
  have hb : (docB name).length = 8 + name.length := by unfold docB; simp; omega
  refine Pur.of Tryz.func33 (by kernel_rfl) (by kernel_rfl) (by kernel_rfl) ?_
  have e1 : EqvD (.c (.sl 1 9 (fun i j => nthD (docNs.map Cell.str) (i * 1 + j)))) (.c (encS docNs)) := strs_new docNs
  have e2 : EqvD (.c (.sl 6 1 (fun i j => nthD ([textJ [83, 50, 53, 54]].flatMap encJ) (i * 6 + j)))) (.c (.sl 6 1 (kidC [textJ [83, 50, 53, 54]]))) := kids_new [textJ [83, 50, 53, 54]]
  have e3 : EqvD (.agg (rawList [textJ [83, 50, 53, 54]])) (.agg (encJ (listJ [textJ [83, 50, 53, 54]]))) := agg_eqv (.cons CEq.rfl' (.cons CEq.rfl' (.cons CEq.rfl' (.cons CEq.rfl' (.cons CEq.nil (.cons CEq.rfl' .nil))))))
  have e4 : EqvD (.c (.sl 6 9 (fun i j => nthD ((docKs name).flatMap encJ) (i * 6 + j)))) (.c (.sl 6 9 (kidC (docKs name)))) := kids_new (docKs name)
  have b1 : Pur Tryz.prog G 62 [.c (.bool true)] [.agg (encJ trueJ)] := B_ok true
  have o1 : Pur Tryz.prog G 74 [.c (encS docNs), .c (.sl 6 9 (kidC (docKs name)))] [.agg (encJ (docJ name))] := O_ok docNs (docKs name)
  refine Wp.go (mx := true) (fun _ => mixed) [(2, {fm := [(0, .c (encS docNs))]}), (3, {fm := [(21, .c (.sl 6 1 (kidC [textJ [83, 50, 53, 54]]))), (22, .agg (encJ (listJ [textJ [83, 50, 53, 54]]))), (23, .c (.sl 6 9 (kidC (docKs name))))], cs := [(2, pc (S_ok (docB name))), (5, pc (S_ok (docB name ++ [47, 112, 97, 114]))), (8, pc (S_ok (docB name ++ [47, 97, 117, 116, 104, 111, 114, 105, 122, 101]))), (11, pc (S_ok (docB name ++ [47, 116, 111, 107, 101, 110]))), (14, pc (S_ok (docB name ++ [47, 105, 110, 116, 114, 111, 115, 112, 101, 99, 116]))), (17, pc (S_ok (docB name ++ [47, 114, 101, 118, 111, 107, 101]))), (18, pc b1), (19, pc b1), (20, pc (S_ok [83, 50, 53, 54])), (24, pc o1)]})] 100 [] [8 + name.length ≤ 9223372036854775807, EqvI (.c (.sl 1 9 (fun i j => nthD (docNs.map Cell.str) (i * 1 + j)))) (.c (encS docNs)), EqvD (.c (.sl 1 9 (fun i j => nthD (docNs.map Cell.str) (i * 1 + j)))) (.c (encS docNs)), (docB name).length + 4 ≤ 9223372036854775807, (docB name).length + 10 ≤ 9223372036854775807, (docB name).length + 6 ≤ 9223372036854775807, (docB name).length + 11 ≤ 9223372036854775807, (docB name).length + 7 ≤ 9223372036854775807, EqvI (.c (.sl 6 1 (fun i j => nthD ([textJ [83, 50, 53, 54]].flatMap encJ) (i * 6 + j)))) (.c (.sl 6 1 (kidC [textJ [83, 50, 53, 54]]))), EqvD (.c (.sl 6 1 (fun i j => nthD ([textJ [83, 50, 53, 54]].flatMap encJ) (i * 6 + j)))) (.c (.sl 6 1 (kidC [textJ [83, 50, 53, 54]]))), EqvI (.agg (rawList [textJ [83, 50, 53, 54]])) (.agg (encJ (listJ [textJ [83, 50, 53, 54]]))), EqvD (.agg (rawList [textJ [83, 50, 53, 54]])) (.agg (encJ (listJ [textJ [83, 50, 53, 54]]))), EqvI (.c (.sl 6 9 (fun i j => nthD ((docKs name).flatMap encJ) (i * 6 + j)))) (.c (.sl 6 9 (kidC (docKs name)))), EqvD (.c (.sl 6 9 (fun i j => nthD ((docKs name).flatMap encJ) (i * 6 + j)))) (.c (.sl 6 9 (kidC (docKs name))))] (by kernel_rfl) (by kernel_rfl) (by kernel_rfl) ⟨by omega, fun _ _ => trivial, e1, by omega, by omega, by omega, by omega, by omega, fun _ _ => trivial, e2, EqvI.flatA rfl, e3, fun _ _ => trivial, e4⟩ ?_
  refine Wp.ret' (by kernel_rfl) ?_
  exact FinQ.pure (rs' := [.agg (encJ (docJ name))]) (by kernel_rfl) rfl (by kernel_rfl)
/-- A copy of fields. -/
theorem ownF_ok {G : Nat → Option (List Cell)} (l : List FT) (hl : l.length ≤ 1000000000000) : FnB Tryz.prog G 71 [] [.c (encH l)] [.c (.row 2 0 0 l.length)] [(0, .row 108 2 l.length (rowF encF .nil l))] := by
  refine Fn.of' Tryz.func71 (by kernel_rfl) (by kernel_rfl) (by kernel_rfl) (by kernel_rfl) trivial ?_
  have e1 : BlkEqv (.row 108 2 l.length (cpyF 0 l.length (fun _ j => nthD [.str [], .str []] j) (fun i j => nthD (encF (l.getD i .nil)) j))) (.row 108 2 l.length (rowF encF .nil l)) := by
    refine BlkEqv.row_ext rfl fun i hi j hj => ?_
    unfold cpyF
    rw [if_neg (by omega), if_pos (by omega), Nat.sub_zero]
    rfl
  refine Wp.go (mx := true) (fun _ => mixed) [(2, {bs := [(2, Blk.row 108 2 l.length (rowF encF .nil l))]})] 100 [] [(0 : Int) ≤ (↑l.length : Int), (↑l.length : Int) ≤ (↑l.length : Int), (↑l.length : Int) * (↑(32 : Nat) : Int) ≤ (140737488355328 : Int), l.length ≤ l.length, (0 : Nat) + l.length ≤ l.length, BlkEqv (Blk.row 108 (2 : Nat) l.length fun (i j : Nat) => if i < (0 : Nat) then nthD [Cell.str [], Cell.str []] j else if i < (0 : Nat) + l.length then nthD (encF (l.getD (i - (0 : Nat)) FT.nil)) j else nthD [Cell.str [], Cell.str []] j) (Blk.row 108 (2 : Nat) l.length (rowF encF FT.nil l))] (by kernel_rfl) (by kernel_rfl) (by kernel_rfl) ⟨(by omega), (by omega), (by omega), (by omega), (by omega), (show BlkEqv (Blk.row 108 (2 : Nat) l.length fun (i j : Nat) => if i < (0 : Nat) then nthD [Cell.str [], Cell.str []] j else if i < (0 : Nat) + l.length then nthD (encF (l.getD (i - (0 : Nat)) FT.nil)) j else nthD [Cell.str [], Cell.str []] j) (Blk.row 108 (2 : Nat) l.length (rowF encF FT.nil l)) from (by assumption))⟩ ?_
  refine Wp.ret' (by kernel_rfl) ?_
  exact FinQ.blk [48] (by kernel_rfl) (by kernel_rfl) (by kernel_rfl) (by kernel_rfl) (by kernel_rfl) trivial
def ckF (sid : List UInt8) (age : Int) : FT := ⟨[115, 101, 116, 45, 99, 111, 111, 107, 105, 101], setC ⟨[115, 105, 100], sid⟩ age⟩
def withT2 (r : RT) (sid : List UInt8) (age : Int) : RT := ⟨r.status, r.head ++ [ckF sid age], r.body⟩
theorem with_ok (r : RT) (sid : List UInt8) (age : Int) (hl : r.head.length ≤ 1000000) (hs : sid.length < 1000000) : Pur Tryz.prog Gp 27 [.agg (encT r), .c (.str sid), .c (.int .i64 age)] [.agg (encT (withT2 r sid age))] := by
  refine Pur.of Tryz.func27 (by kernel_rfl) (by kernel_rfl) (by kernel_rfl) ?_
  have c := set_ok ⟨[115, 105, 100], sid⟩ age (by show 3 < _; omega) (by show sid.length < _; omega)
  have e1 : BlkEqv (.row 108 2 (r.head.length + 1) (catF r.head.length (rowF encF .nil r.head) (fun i j => nthD (encF (ckF sid age)) ((0 + i) * 2 + j)))) (.row 108 2 (r.head.length + 1) (rowF encF .nil (r.head ++ [ckF sid age]))) := enc_app r.head _ rfl
  refine Wp.go (mx := true) (fun _ => mixed) [(1, {cs := [(2, cb [] (ownF_ok (G := Gp) r.head (by omega))), (6, pc c)], bs := [(9, .row 108 2 (r.head.length + 1) (rowF encF .nil (r.head ++ [ckF sid age])))]})] 4 [] [(r.head.length + 1) * 32 ≤ 140737488355328, BlkEqv (.row 108 2 (r.head.length + 1) (catF r.head.length (rowF encF .nil r.head) (fun i j => nthD (encF (ckF sid age)) ((0 + i) * 2 + j)))) (.row 108 2 (r.head.length + 1) (rowF encF .nil (r.head ++ [ckF sid age]))), r.head.length ≤ r.head.length, 0 + 1 ≤ 1] (by kernel_rfl) (by kernel_rfl) (by kernel_rfl) ⟨by omega, e1, Nat.le_refl _, Nat.le_refl _⟩ ?_
  refine Wp.ent' (by kernel_rfl) (Ent.pubC (id := 176) (b := 0) (o := 1) (off := 0) (m := r.head.length + 1) (sz := 2) (n := r.head.length + 1) (e := 108) (e' := 43) (cs := [.int .i64 r.status, .row 2 176 0 (r.head.length + 1), .str r.body]) (f := rowF encF .nil (r.head ++ [ckF sid age])) (m' := (r.head ++ [ckF sid age]).length) (f' := fun i j => nthD (encF ((r.head ++ [ckF sid age]).getD i .nil)) j) (by kernel_rfl) (by kernel_rfl) (by kernel_rfl) (by omega) (by simp) (fun i _ j _ => by rw [Nat.zero_add]; rfl) rfl) ?_
  refine Wp.go (mx := true) (fun _ => mixed) [] 100 [] [] (by kernel_rfl) (by kernel_rfl) (by kernel_rfl) trivial ?_
  refine Wp.ret' (by kernel_rfl) ?_
  exact FinQ.pure (rs' := [V1.agg [Cell.int .i64 r.status, Cell.sl (2 : Nat) (r.head ++ [ckF sid age]).length fun (i j : Nat) => nthD (encF ((r.head ++ [ckF sid age]).getD i FT.nil)) j, Cell.str r.body]]) (by kernel_rfl) rfl (by kernel_rfl)
theorem with24_ok {G : Nat → Option (List Cell)} (r : RT) (sid : List UInt8) (age : Int) (hl : r.head.length ≤ 1000000) (hs : sid.length < 1000000) : Pur Tryz.prog G 28 [.agg (encT r), .c (.str sid), .c (.int .i64 age)] [.agg (encT (withT2 r sid age))] := by
  refine Pur.of Tryz.func28 (by kernel_rfl) (by kernel_rfl) (by kernel_rfl) ?_
  have c := set14_ok (G := G) ⟨[115, 105, 100], sid⟩ age (by show 3 < _; omega) (by show sid.length < _; omega)
  have e0 : BlkEqv (.row 108 2 (0 + r.head.length) (catF 0 (fun i j => nthD [] (i * 2 + j)) (fun i j => nthD (encF (r.head.getD i .nil)) j))) (.row 108 2 (0 + r.head.length) (rowF encF .nil r.head)) := by
    refine BlkEqv.row_ext rfl fun i hi j hj => ?_
    unfold catF
    rw [if_neg (by omega), Nat.sub_zero]
    rfl
  have e1 : BlkEqv (.row 108 2 (0 + r.head.length + 1) (catF (0 + r.head.length) (rowF encF .nil r.head) (fun i j => nthD (encF (ckF sid age)) ((0 + i) * 2 + j)))) (.row 108 2 (0 + r.head.length + 1) (rowF encF .nil (r.head ++ [ckF sid age]))) := enc_app r.head _ (Nat.zero_add _)
  refine Wp.go (mx := true) (fun _ => mixed) [(1, {cs := [(7, pc c)], bs := [(3, .row 108 2 (0 + r.head.length) (rowF encF .nil r.head)), (10, .row 108 2 (0 + r.head.length + 1) (rowF encF .nil (r.head ++ [ckF sid age])))]})] 4 [] [(0 + r.head.length) * 32 ≤ 140737488355328, BlkEqv (.row 108 2 (0 + r.head.length) (catF 0 (fun i j => nthD [] (i * 2 + j)) (fun i j => nthD (encF (r.head.getD i .nil)) j))) (.row 108 2 (0 + r.head.length) (rowF encF .nil r.head)), 0 ≤ 0, (0 + r.head.length + 1) * 32 ≤ 140737488355328, BlkEqv (.row 108 2 (0 + r.head.length + 1) (catF (0 + r.head.length) (rowF encF .nil r.head) (fun i j => nthD (encF (ckF sid age)) ((0 + i) * 2 + j)))) (.row 108 2 (0 + r.head.length + 1) (rowF encF .nil (r.head ++ [ckF sid age]))), 0 + r.head.length ≤ 0 + r.head.length, 0 + 1 ≤ 1] (by kernel_rfl) (by kernel_rfl) (by kernel_rfl) ⟨by omega, e0, Nat.le_refl _, by omega, e1, Nat.le_refl _, Nat.le_refl _⟩ ?_
  refine Wp.ent' (by kernel_rfl) (Ent.pubC (id := 192) (b := 0) (o := 1) (off := 0) (m := 0 + r.head.length + 1) (sz := 2) (n := 0 + r.head.length + 1) (e := 108) (e' := 43) (cs := [.int .i64 r.status, .row 2 192 0 (0 + r.head.length + 1), .str r.body]) (f := rowF encF .nil (r.head ++ [ckF sid age])) (m' := (r.head ++ [ckF sid age]).length) (f' := fun i j => nthD (encF ((r.head ++ [ckF sid age]).getD i .nil)) j) (by kernel_rfl) (by kernel_rfl) (by kernel_rfl) (by omega) (by simp) (fun i _ j _ => by rw [Nat.zero_add]; rfl) rfl) ?_
  refine Wp.go (mx := true) (fun _ => mixed) [] 100 [] [] (by kernel_rfl) (by kernel_rfl) (by kernel_rfl) trivial ?_
  refine Wp.ret' (by kernel_rfl) ?_
  exact FinQ.pure (rs' := [V1.agg [Cell.int .i64 r.status, Cell.sl (2 : Nat) (r.head ++ [ckF sid age]).length fun (i j : Nat) => nthD (encF ((r.head ++ [ckF sid age]).getD i FT.nil)) j, Cell.str r.body]]) (by kernel_rfl) rfl (by kernel_rfl)
end Go.Proofs.Tw
end

section
open Go Go.Sv
namespace Go.Proofs.Tw
attribute [local irreducible] Wp FinQ resV Ent Pur Go.Sv.Fn Sat0
set_option maxRecDepth 100000
set_option maxHeartbeats 4000000
variable {G : Nat → Option (List Cell)}

/-! a tape's value -/
def ints8 : List Int := [0, 1, 7, 300, -1, 9007199254740992, -9007199254740992, 42]
def txt11 : List (List UInt8) := [[], [97], [34], [92], [0], [31], [10], [195, 169], [127], [126, 65, 103, 65, 65, 65, 65, 69, 126], [104, 116, 116, 112, 115, 58, 47, 47, 97, 115]]
def nam4 : List (List UInt8) := [[97], [98], [], [34]]
def nullJ : JV := .mk 1 false 0 [] [] []
def leafT (ns : List Int) (k : Int) (a : Nat) : JV × Nat :=
  if k = 0 then (nullJ, a) else if k = 1 then (boolJ (nextV ns a 2 == 1), nextA ns a 2)
  else if k = 2 ∨ k = 3 then (intJ (ints8.getD (nextV ns a 8).toNat 0), nextA ns a 8)
  else (textJ (pickT txt11 ns a), nextA ns a 11)
def kidsT (f : Nat → JV × Nat) (ns : List Int) (obj : Bool) : Nat → Nat → List (List UInt8) → List JV → List (List UInt8) × List JV × Nat
  | 0, a, nm, ks => (nm, ks, a)
  | i + 1, a, nm, ks => kidsT f ns obj i (f (if obj then nextA ns a 4 else a)).2 (if obj then nm ++ [pickT nam4 ns a ++ [UInt8.ofNat (48 + (i + 1))]] else nm) (ks ++ [(f (if obj then nextA ns a 4 else a)).1])
def valT (ns : List Int) : Nat → Nat → JV × Nat
  | 0, a => leafT ns ((nextV ns a 9).tmod 6) (nextA ns a 9)
  | n + 1, a => if nextV ns a 9 < 6 then leafT ns (nextV ns a 9) (nextA ns a 9) else
    (.mk (if nextV ns a 9 > 6 then 6 else 5) false 0 []
      (kidsT (valT ns n) ns (decide (nextV ns a 9 > 6)) (nextV ns (nextA ns a 9) 4).toNat (nextA ns (nextA ns a 9) 4) [] []).1
      (kidsT (valT ns n) ns (decide (nextV ns a 9 > 6)) (nextV ns (nextA ns a 9) 4).toNat (nextA ns (nextA ns a 9) 4) [] []).2.1,
      (kidsT (valT ns n) ns (decide (nextV ns a 9 > 6)) (nextV ns (nextA ns a 9) 4).toNat (nextA ns (nextA ns a 9) 4) [] []).2.2)
theorem null_den : EqvD (.agg [.int .i64 1, .bool false, .int .i64 0, .str [], .nilsl, .nilsl]) (.agg (encJ nullJ)) := agg_eqv (.cons CEq.rfl' (.cons CEq.rfl' (.cons CEq.rfl' (.cons CEq.rfl' (.cons CEq.nil (.cons CEq.nil .nil))))))
theorem ints8_den : EqvD (.c (.sl 1 8 (fun i j => nthD [.int .i64 0, .int .i64 1, .int .i64 7, .int .i64 300, .int .i64 (-1), .int .i64 9007199254740992, .int .i64 (-9007199254740992), .int .i64 42] (i * 1 + j)))) (.c (.sl 1 ints8.length (intsF ints8))) := by
  refine EqvD.sl rfl fun i hi j hj => ?_
  obtain rfl : j = 0 := by omega
  have : i = 0 ∨ i = 1 ∨ i = 2 ∨ i = 3 ∨ i = 4 ∨ i = 5 ∨ i = 6 ∨ i = 7 := by omega
  rcases this with rfl | rfl | rfl | rfl | rfl | rfl | rfl | rfl <;> rfl
theorem val_zero (ns : List Int) (hl : ns.length ≤ 9223372036854775807) (a : Nat) : FnB Tryz.prog G 18 [tapeB ns a] [.c (.ptr 0 0), .c (.int .i64 0)] [.agg (encJ (valT ns 0 a).1)] [(0, tapeB ns (valT ns 0 a).2)] := by
  refine Fn.of' Tryz.func18 (by kernel_rfl) (by kernel_rfl) (by kernel_rfl) (by kernel_rfl) trivial ?_
  have r9 := nextV_rng ns a 9 (by decide)
  have r8 : 0 ≤ nextV ns (nextA ns a 9) 8 ∧ nextV ns (nextA ns a 9) 8 < ((ints8.length : Nat) : Int) := nextV_rng ns (nextA ns a 9) 8 (by decide)
  have m0 : 0 ≤ (nextV ns a 9).tmod 6 := Int.tmod_nonneg 6 r9.1
  have m6 : (nextV ns a 9).tmod 6 < 6 := Int.tmod_lt_of_pos _ (by decide)
  have e1 := null_den
  have e2 := ints8_den
  have e3 : EqvD (.c (.sl 1 11 (fun i j => nthD [Cell.str [], Cell.str [97], Cell.str [34], Cell.str [92], Cell.str [0], Cell.str [31], Cell.str [10], Cell.str [195, 169], Cell.str [127], Cell.str [126, 65, 103, 65, 65, 65, 65, 69, 126], Cell.str [104, 116, 116, 112, 115, 58, 47, 47, 97, 115]] (i * 1 + j)))) (.c (.sl 1 txt11.length (strsF txt11))) := strs_lit txt11 rfl rfl
  have hv : valT ns 0 a = leafT ns ((nextV ns a 9).tmod 6) (nextA ns a 9) := rfl
  rw [hv]
  have hk : (nextV ns a 9).tmod 6 = 0 ∨ (nextV ns a 9).tmod 6 = 1 ∨ (nextV ns a 9).tmod 6 = 2 ∨ (nextV ns a 9).tmod 6 = 3 ∨ (nextV ns a 9).tmod 6 = 4 ∨ (nextV ns a 9).tmod 6 = 5 := by omega
  clear hv
  rcases hk with hk | hk | hk | hk | hk | hk
  · have hw : leafT ns ((nextV ns a 9).tmod 6) (nextA ns a 9) = (nullJ, nextA ns a 9) := by rw [hk]; rfl
    rw [hw]
    clear hw
    refine Wp.go (mx := true) (fun _ => mixed) [(6, {fm := [(0, .agg (encJ nullJ))]}), (11, {fm := [(0, .c (.sl 1 ints8.length (intsF ints8)))]}), (14, {fm := [(1, .c (.sl 1 txt11.length (strsF txt11)))]}), (1, {cs := [(1, cb [0] (next_ok ns a (9 : Int) (by assumption) (by omega)))]})] 100 [true, true] [decide ((0 : Int) ≤ (0 : Int)) = true, (6 : Int) ≠ (0 : Int), ((nextV ns a (9 : Int)).tmod (6 : Int) == (0 : Int)) = true, EqvI (V1.agg [Cell.int .i64 (1 : Int), Cell.bool false, Cell.int .i64 (0 : Int), Cell.str [], Cell.nilsl, Cell.nilsl]) (V1.agg (encJ nullJ)), EqvD (V1.agg [Cell.int .i64 (1 : Int), Cell.bool false, Cell.int .i64 (0 : Int), Cell.str [], Cell.nilsl, Cell.nilsl]) (V1.agg (encJ nullJ))] (by kernel_rfl) (by kernel_rfl) (by kernel_rfl) ⟨rfl, (by omega), (by simp; omega), eqvI_flat _ _ (by kernel_rfl), (show EqvD (V1.agg [Cell.int .i64 (1 : Int), Cell.bool false, Cell.int .i64 (0 : Int), Cell.str [], Cell.nilsl, Cell.nilsl]) (V1.agg (encJ nullJ)) from (by assumption))⟩ ?_
    refine Wp.ret' (by kernel_rfl) ?_
    exact FinQ.blk [] (by kernel_rfl) (by kernel_rfl) (by kernel_rfl) (by kernel_rfl) (by kernel_rfl) trivial
  · have hw : leafT ns ((nextV ns a 9).tmod 6) (nextA ns a 9) = (boolJ (nextV ns (nextA ns a 9) 2 == 1), nextA ns (nextA ns a 9) 2) := by rw [hk]; rfl
    rw [hw]
    clear hw
    refine Wp.go (mx := true) (fun _ => mixed) [(6, {fm := [(0, .agg (encJ nullJ))]}), (11, {fm := [(0, .c (.sl 1 ints8.length (intsF ints8)))]}), (14, {fm := [(1, .c (.sl 1 txt11.length (strsF txt11)))]}), (1, {cs := [(1, cb [0] (next_ok ns a (9 : Int) (by assumption) (by omega)))]}), (8, {cs := [(1, cb [0] (next_ok ns (nextA ns a (9 : Int)) (2 : Int) (by assumption) (by omega))), (3, pc (B_ok (nextV ns (nextA ns a (9 : Int)) (2 : Int) == (1 : Int))))]})] 100 [true, false, true] [decide ((0 : Int) ≤ (0 : Int)) = true, (6 : Int) ≠ (0 : Int), ((nextV ns a (9 : Int)).tmod (6 : Int) == (0 : Int)) = false, ((nextV ns a (9 : Int)).tmod (6 : Int) == (1 : Int)) = true] (by kernel_rfl) (by kernel_rfl) (by kernel_rfl) ⟨rfl, (by omega), (by simp; omega), (show ((nextV ns a (9 : Int)).tmod (6 : Int) == (1 : Int)) = true from (by simp; omega))⟩ ?_
    refine Wp.ret' (by kernel_rfl) ?_
    exact FinQ.blk [] (by kernel_rfl) (by kernel_rfl) (by kernel_rfl) (by kernel_rfl) (by kernel_rfl) trivial
  · have hw : leafT ns ((nextV ns a 9).tmod 6) (nextA ns a 9) = (intJ (ints8.getD (nextV ns (nextA ns a 9) 8).toNat 0), nextA ns (nextA ns a 9) 8) := by rw [hk]; rfl
    rw [hw]
    clear hw
    refine Wp.go (mx := true) (fun _ => mixed) [(6, {fm := [(0, .agg (encJ nullJ))]}), (11, {cs := [(2, cb [0] (next_ok ns (nextA ns a (9 : Int)) (8 : Int) (by assumption) (by omega))), (5, pc (I_ok (ints8.getD (nextV ns (nextA ns a (9 : Int)) (8 : Int)).toNat (0 : Int))))], fm := [(0, .c (.sl 1 ints8.length (intsF ints8)))]}), (14, {fm := [(1, .c (.sl 1 txt11.length (strsF txt11)))]}), (1, {cs := [(1, cb [0] (next_ok ns a (9 : Int) (by assumption) (by omega)))]})] 100 [true, false, false, true, true] [decide ((0 : Int) ≤ (0 : Int)) = true, (6 : Int) ≠ (0 : Int), ((nextV ns a (9 : Int)).tmod (6 : Int) == (0 : Int)) = false, ((nextV ns a (9 : Int)).tmod (6 : Int) == (1 : Int)) = false, ((nextV ns a (9 : Int)).tmod (6 : Int) == (2 : Int)) = true, ((nextV ns a (9 : Int)).tmod (6 : Int) == (2 : Int)) = true, EqvI (V1.c (Cell.sl (1 : Nat) (8 : Nat) fun (i j : Nat) => nthD [Cell.int .i64 (0 : Int), Cell.int .i64 (1 : Int), Cell.int .i64 (7 : Int), Cell.int .i64 (300 : Int), Cell.int .i64 (-1 : Int), Cell.int .i64 (9007199254740992 : Int), Cell.int .i64 (-9007199254740992 : Int), Cell.int .i64 (42 : Int)] (i * (1 : Nat) + j))) (V1.c (Cell.sl (1 : Nat) ints8.length (intsF ints8))), EqvD (V1.c (Cell.sl (1 : Nat) (8 : Nat) fun (i j : Nat) => nthD [Cell.int .i64 (0 : Int), Cell.int .i64 (1 : Int), Cell.int .i64 (7 : Int), Cell.int .i64 (300 : Int), Cell.int .i64 (-1 : Int), Cell.int .i64 (9007199254740992 : Int), Cell.int .i64 (-9007199254740992 : Int), Cell.int .i64 (42 : Int)] (i * (1 : Nat) + j))) (V1.c (Cell.sl (1 : Nat) ints8.length (intsF ints8))), (0 : Int) ≤ nextV ns (nextA ns a (9 : Int)) (8 : Int) ∧ nextV ns (nextA ns a (9 : Int)) (8 : Int) < (↑ints8.length : Int)] (by kernel_rfl) (by kernel_rfl) (by kernel_rfl) ⟨rfl, (by omega), (by simp; omega), (by simp; omega), (by simp; omega), (by simp; omega), fun _ _ => trivial, (by assumption), (show (0 : Int) ≤ nextV ns (nextA ns a (9 : Int)) (8 : Int) ∧ nextV ns (nextA ns a (9 : Int)) (8 : Int) < (↑ints8.length : Int) from (by omega))⟩ ?_
    refine Wp.ret' (by kernel_rfl) ?_
    exact FinQ.blk [] (by kernel_rfl) (by kernel_rfl) (by kernel_rfl) (by kernel_rfl) (by kernel_rfl) trivial
  · have hw : leafT ns ((nextV ns a 9).tmod 6) (nextA ns a 9) = (intJ (ints8.getD (nextV ns (nextA ns a 9) 8).toNat 0), nextA ns (nextA ns a 9) 8) := by rw [hk]; rfl
    rw [hw]
    clear hw
    refine Wp.go (mx := true) (fun _ => mixed) [(6, {fm := [(0, .agg (encJ nullJ))]}), (11, {cs := [(2, cb [0] (next_ok ns (nextA ns a (9 : Int)) (8 : Int) (by assumption) (by omega))), (5, pc (I_ok (ints8.getD (nextV ns (nextA ns a (9 : Int)) (8 : Int)).toNat (0 : Int))))], fm := [(0, .c (.sl 1 ints8.length (intsF ints8)))]}), (14, {fm := [(1, .c (.sl 1 txt11.length (strsF txt11)))]}), (1, {cs := [(1, cb [0] (next_ok ns a (9 : Int) (by assumption) (by omega)))]})] 100 [true, false, false, false, true] [decide ((0 : Int) ≤ (0 : Int)) = true, (6 : Int) ≠ (0 : Int), ((nextV ns a (9 : Int)).tmod (6 : Int) == (0 : Int)) = false, ((nextV ns a (9 : Int)).tmod (6 : Int) == (1 : Int)) = false, ((nextV ns a (9 : Int)).tmod (6 : Int) == (2 : Int)) = false, ((nextV ns a (9 : Int)).tmod (6 : Int) == (3 : Int)) = true, EqvI (V1.c (Cell.sl (1 : Nat) (8 : Nat) fun (i j : Nat) => nthD [Cell.int .i64 (0 : Int), Cell.int .i64 (1 : Int), Cell.int .i64 (7 : Int), Cell.int .i64 (300 : Int), Cell.int .i64 (-1 : Int), Cell.int .i64 (9007199254740992 : Int), Cell.int .i64 (-9007199254740992 : Int), Cell.int .i64 (42 : Int)] (i * (1 : Nat) + j))) (V1.c (Cell.sl (1 : Nat) ints8.length (intsF ints8))), EqvD (V1.c (Cell.sl (1 : Nat) (8 : Nat) fun (i j : Nat) => nthD [Cell.int .i64 (0 : Int), Cell.int .i64 (1 : Int), Cell.int .i64 (7 : Int), Cell.int .i64 (300 : Int), Cell.int .i64 (-1 : Int), Cell.int .i64 (9007199254740992 : Int), Cell.int .i64 (-9007199254740992 : Int), Cell.int .i64 (42 : Int)] (i * (1 : Nat) + j))) (V1.c (Cell.sl (1 : Nat) ints8.length (intsF ints8))), (0 : Int) ≤ nextV ns (nextA ns a (9 : Int)) (8 : Int) ∧ nextV ns (nextA ns a (9 : Int)) (8 : Int) < (↑ints8.length : Int)] (by kernel_rfl) (by kernel_rfl) (by kernel_rfl) ⟨rfl, (by omega), (by simp; omega), (by simp; omega), (by simp; omega), (by simp; omega), fun _ _ => trivial, (by assumption), (show (0 : Int) ≤ nextV ns (nextA ns a (9 : Int)) (8 : Int) ∧ nextV ns (nextA ns a (9 : Int)) (8 : Int) < (↑ints8.length : Int) from (by omega))⟩ ?_
    refine Wp.ret' (by kernel_rfl) ?_
    exact FinQ.blk [] (by kernel_rfl) (by kernel_rfl) (by kernel_rfl) (by kernel_rfl) (by kernel_rfl) trivial
  · have hw : leafT ns ((nextV ns a 9).tmod 6) (nextA ns a 9) = (textJ (pickT txt11 ns (nextA ns a 9)), nextA ns (nextA ns a 9) 11) := by rw [hk]; rfl
    rw [hw]
    clear hw
    refine Wp.go (mx := true) (fun _ => mixed) [(6, {fm := [(0, .agg (encJ nullJ))]}), (11, {fm := [(0, .c (.sl 1 ints8.length (intsF ints8)))]}), (14, {cs := [(2, cb [0] (pick_ok txt11 ns (nextA ns a (9 : Int)) (by assumption) (by decide))), (3, pc (S_ok (txt11.getD (nextV ns (nextA ns a (9 : Int)) (↑txt11.length : Int)).toNat [])))], fm := [(1, .c (.sl 1 txt11.length (strsF txt11)))]}), (1, {cs := [(1, cb [0] (next_ok ns a (9 : Int) (by assumption) (by omega)))]})] 100 [true, false, false, false, false, true, true] [decide ((0 : Int) ≤ (0 : Int)) = true, (6 : Int) ≠ (0 : Int), ((nextV ns a (9 : Int)).tmod (6 : Int) == (0 : Int)) = false, ((nextV ns a (9 : Int)).tmod (6 : Int) == (1 : Int)) = false, ((nextV ns a (9 : Int)).tmod (6 : Int) == (2 : Int)) = false, ((nextV ns a (9 : Int)).tmod (6 : Int) == (3 : Int)) = false, ((nextV ns a (9 : Int)).tmod (6 : Int) == (4 : Int)) = true, ((nextV ns a (9 : Int)).tmod (6 : Int) == (4 : Int)) = true, EqvI (V1.c (Cell.sl (1 : Nat) (11 : Nat) fun (i j : Nat) => nthD [Cell.str [], Cell.str [(97 : UInt8)], Cell.str [(34 : UInt8)], Cell.str [(92 : UInt8)], Cell.str [(0 : UInt8)], Cell.str [(31 : UInt8)], Cell.str [(10 : UInt8)], Cell.str [(195 : UInt8), 169], Cell.str [(127 : UInt8)], Cell.str [(126 : UInt8), 65, 103, 65, 65, 65, 65, 69, 126], Cell.str [(104 : UInt8), 116, 116, 112, 115, 58, 47, 47, 97, 115]] (i * (1 : Nat) + j))) (V1.c (Cell.sl (1 : Nat) txt11.length (strsF txt11))), EqvD (V1.c (Cell.sl (1 : Nat) (11 : Nat) fun (i j : Nat) => nthD [Cell.str [], Cell.str [(97 : UInt8)], Cell.str [(34 : UInt8)], Cell.str [(92 : UInt8)], Cell.str [(0 : UInt8)], Cell.str [(31 : UInt8)], Cell.str [(10 : UInt8)], Cell.str [(195 : UInt8), 169], Cell.str [(127 : UInt8)], Cell.str [(126 : UInt8), 65, 103, 65, 65, 65, 65, 69, 126], Cell.str [(104 : UInt8), 116, 116, 112, 115, 58, 47, 47, 97, 115]] (i * (1 : Nat) + j))) (V1.c (Cell.sl (1 : Nat) txt11.length (strsF txt11)))] (by kernel_rfl) (by kernel_rfl) (by kernel_rfl) ⟨rfl, (by omega), (by simp; omega), (by simp; omega), (by simp; omega), (by simp; omega), (by simp; omega), (by simp; omega), fun _ _ => trivial, (show EqvD (V1.c (Cell.sl (1 : Nat) (11 : Nat) fun (i j : Nat) => nthD [Cell.str [], Cell.str [(97 : UInt8)], Cell.str [(34 : UInt8)], Cell.str [(92 : UInt8)], Cell.str [(0 : UInt8)], Cell.str [(31 : UInt8)], Cell.str [(10 : UInt8)], Cell.str [(195 : UInt8), 169], Cell.str [(127 : UInt8)], Cell.str [(126 : UInt8), 65, 103, 65, 65, 65, 65, 69, 126], Cell.str [(104 : UInt8), 116, 116, 112, 115, 58, 47, 47, 97, 115]] (i * (1 : Nat) + j))) (V1.c (Cell.sl (1 : Nat) txt11.length (strsF txt11))) from (by assumption))⟩ ?_
    refine Wp.ret' (by kernel_rfl) ?_
    exact FinQ.blk [] (by kernel_rfl) (by kernel_rfl) (by kernel_rfl) (by kernel_rfl) (by kernel_rfl) trivial
  · have hw : leafT ns ((nextV ns a 9).tmod 6) (nextA ns a 9) = (textJ (pickT txt11 ns (nextA ns a 9)), nextA ns (nextA ns a 9) 11) := by rw [hk]; rfl
    rw [hw]
    clear hw
    refine Wp.go (mx := true) (fun _ => mixed) [(6, {fm := [(0, .agg (encJ nullJ))]}), (11, {fm := [(0, .c (.sl 1 ints8.length (intsF ints8)))]}), (14, {cs := [(2, cb [0] (pick_ok txt11 ns (nextA ns a (9 : Int)) (by assumption) (by decide))), (3, pc (S_ok (txt11.getD (nextV ns (nextA ns a (9 : Int)) (↑txt11.length : Int)).toNat [])))], fm := [(1, .c (.sl 1 txt11.length (strsF txt11)))]}), (1, {cs := [(1, cb [0] (next_ok ns a (9 : Int) (by assumption) (by omega)))]})] 100 [true, false, false, false, false, false, true] [decide ((0 : Int) ≤ (0 : Int)) = true, (6 : Int) ≠ (0 : Int), ((nextV ns a (9 : Int)).tmod (6 : Int) == (0 : Int)) = false, ((nextV ns a (9 : Int)).tmod (6 : Int) == (1 : Int)) = false, ((nextV ns a (9 : Int)).tmod (6 : Int) == (2 : Int)) = false, ((nextV ns a (9 : Int)).tmod (6 : Int) == (3 : Int)) = false, ((nextV ns a (9 : Int)).tmod (6 : Int) == (4 : Int)) = false, ((nextV ns a (9 : Int)).tmod (6 : Int) == (5 : Int)) = true, EqvI (V1.c (Cell.sl (1 : Nat) (11 : Nat) fun (i j : Nat) => nthD [Cell.str [], Cell.str [(97 : UInt8)], Cell.str [(34 : UInt8)], Cell.str [(92 : UInt8)], Cell.str [(0 : UInt8)], Cell.str [(31 : UInt8)], Cell.str [(10 : UInt8)], Cell.str [(195 : UInt8), 169], Cell.str [(127 : UInt8)], Cell.str [(126 : UInt8), 65, 103, 65, 65, 65, 65, 69, 126], Cell.str [(104 : UInt8), 116, 116, 112, 115, 58, 47, 47, 97, 115]] (i * (1 : Nat) + j))) (V1.c (Cell.sl (1 : Nat) txt11.length (strsF txt11))), EqvD (V1.c (Cell.sl (1 : Nat) (11 : Nat) fun (i j : Nat) => nthD [Cell.str [], Cell.str [(97 : UInt8)], Cell.str [(34 : UInt8)], Cell.str [(92 : UInt8)], Cell.str [(0 : UInt8)], Cell.str [(31 : UInt8)], Cell.str [(10 : UInt8)], Cell.str [(195 : UInt8), 169], Cell.str [(127 : UInt8)], Cell.str [(126 : UInt8), 65, 103, 65, 65, 65, 65, 69, 126], Cell.str [(104 : UInt8), 116, 116, 112, 115, 58, 47, 47, 97, 115]] (i * (1 : Nat) + j))) (V1.c (Cell.sl (1 : Nat) txt11.length (strsF txt11)))] (by kernel_rfl) (by kernel_rfl) (by kernel_rfl) ⟨rfl, (by omega), (by simp; omega), (by simp; omega), (by simp; omega), (by simp; omega), (by simp; omega), (by simp; omega), fun _ _ => trivial, (show EqvD (V1.c (Cell.sl (1 : Nat) (11 : Nat) fun (i j : Nat) => nthD [Cell.str [], Cell.str [(97 : UInt8)], Cell.str [(34 : UInt8)], Cell.str [(92 : UInt8)], Cell.str [(0 : UInt8)], Cell.str [(31 : UInt8)], Cell.str [(10 : UInt8)], Cell.str [(195 : UInt8), 169], Cell.str [(127 : UInt8)], Cell.str [(126 : UInt8), 65, 103, 65, 65, 65, 65, 69, 126], Cell.str [(104 : UInt8), 116, 116, 112, 115, 58, 47, 47, 97, 115]] (i * (1 : Nat) + j))) (V1.c (Cell.sl (1 : Nat) txt11.length (strsF txt11))) from (by assumption))⟩ ?_
    refine Wp.ret' (by kernel_rfl) ?_
    exact FinQ.blk [] (by kernel_rfl) (by kernel_rfl) (by kernel_rfl) (by kernel_rfl) (by kernel_rfl) trivial
theorem val_leaf (ns : List Int) (hl : ns.length ≤ 9223372036854775807) (a : Nat) (n : Nat) (h6 : nextV ns a 9 < 6) : FnB Tryz.prog G 18 [tapeB ns a] [.c (.ptr 0 0), .c (.int .i64 ((n + 1 : Nat) : Int))] [.agg (encJ (valT ns (n + 1) a).1)] [(0, tapeB ns (valT ns (n + 1) a).2)] := by
  refine Fn.of' Tryz.func18 (by kernel_rfl) (by kernel_rfl) (by kernel_rfl) (by kernel_rfl) trivial ?_
  have r9 := nextV_rng ns a 9 (by decide)
  have r8 : 0 ≤ nextV ns (nextA ns a 9) 8 ∧ nextV ns (nextA ns a 9) 8 < ((ints8.length : Nat) : Int) := nextV_rng ns (nextA ns a 9) 8 (by decide)
  have e1 := null_den
  have e2 := ints8_den
  have e3 : EqvD (.c (.sl 1 11 (fun i j => nthD [Cell.str [], Cell.str [97], Cell.str [34], Cell.str [92], Cell.str [0], Cell.str [31], Cell.str [10], Cell.str [195, 169], Cell.str [127], Cell.str [126, 65, 103, 65, 65, 65, 65, 69, 126], Cell.str [104, 116, 116, 112, 115, 58, 47, 47, 97, 115]] (i * 1 + j)))) (.c (.sl 1 txt11.length (strsF txt11))) := strs_lit txt11 rfl rfl
  have hv : valT ns (n + 1) a = leafT ns (nextV ns a 9) (nextA ns a 9) := by rw [valT, if_pos h6]
  rw [hv]
  have hk : nextV ns a 9 = 0 ∨ nextV ns a 9 = 1 ∨ nextV ns a 9 = 2 ∨ nextV ns a 9 = 3 ∨ nextV ns a 9 = 4 ∨ nextV ns a 9 = 5 := by omega
  clear hv
  rcases hk with hk | hk | hk | hk | hk | hk
  · have hw : leafT ns (nextV ns a 9) (nextA ns a 9) = (nullJ, nextA ns a 9) := by rw [hk]; rfl
    rw [hw]
    clear hw
    refine Wp.go (mx := true) (fun _ => mixed) [(6, {fm := [(0, .agg (encJ nullJ))]}), (11, {fm := [(0, .c (.sl 1 ints8.length (intsF ints8)))]}), (14, {fm := [(1, .c (.sl 1 txt11.length (strsF txt11)))]}), (1, {cs := [(1, cb [0] (next_ok ns a (9 : Int) (by assumption) (by omega)))]})] 100 [false, true] [decide ((↑(n + (1 : Nat)) : Int) ≤ (0 : Int)) = false, (nextV ns a (9 : Int) == (0 : Int)) = true, EqvI (V1.agg [Cell.int .i64 (1 : Int), Cell.bool false, Cell.int .i64 (0 : Int), Cell.str [], Cell.nilsl, Cell.nilsl]) (V1.agg (encJ nullJ)), EqvD (V1.agg [Cell.int .i64 (1 : Int), Cell.bool false, Cell.int .i64 (0 : Int), Cell.str [], Cell.nilsl, Cell.nilsl]) (V1.agg (encJ nullJ))] (by kernel_rfl) (by kernel_rfl) (by kernel_rfl) ⟨rfl, (by simp; omega), eqvI_flat _ _ (by kernel_rfl), (show EqvD (V1.agg [Cell.int .i64 (1 : Int), Cell.bool false, Cell.int .i64 (0 : Int), Cell.str [], Cell.nilsl, Cell.nilsl]) (V1.agg (encJ nullJ)) from (by assumption))⟩ ?_
    refine Wp.ret' (by kernel_rfl) ?_
    exact FinQ.blk [] (by kernel_rfl) (by kernel_rfl) (by kernel_rfl) (by kernel_rfl) (by kernel_rfl) trivial
  · have hw : leafT ns (nextV ns a 9) (nextA ns a 9) = (boolJ (nextV ns (nextA ns a 9) 2 == 1), nextA ns (nextA ns a 9) 2) := by rw [hk]; rfl
    rw [hw]
    clear hw
    refine Wp.go (mx := true) (fun _ => mixed) [(6, {fm := [(0, .agg (encJ nullJ))]}), (11, {fm := [(0, .c (.sl 1 ints8.length (intsF ints8)))]}), (14, {fm := [(1, .c (.sl 1 txt11.length (strsF txt11)))]}), (1, {cs := [(1, cb [0] (next_ok ns a (9 : Int) (by assumption) (by omega)))]}), (8, {cs := [(1, cb [0] (next_ok ns (nextA ns a (9 : Int)) (2 : Int) (by assumption) (by omega))), (3, pc (B_ok (nextV ns (nextA ns a (9 : Int)) (2 : Int) == (1 : Int))))]})] 100 [false, false, true] [decide ((↑(n + (1 : Nat)) : Int) ≤ (0 : Int)) = false, (nextV ns a (9 : Int) == (0 : Int)) = false, (nextV ns a (9 : Int) == (1 : Int)) = true] (by kernel_rfl) (by kernel_rfl) (by kernel_rfl) ⟨rfl, (by simp; omega), (show (nextV ns a (9 : Int) == (1 : Int)) = true from (by simp; omega))⟩ ?_
    refine Wp.ret' (by kernel_rfl) ?_
    exact FinQ.blk [] (by kernel_rfl) (by kernel_rfl) (by kernel_rfl) (by kernel_rfl) (by kernel_rfl) trivial
  · have hw : leafT ns (nextV ns a 9) (nextA ns a 9) = (intJ (ints8.getD (nextV ns (nextA ns a 9) 8).toNat 0), nextA ns (nextA ns a 9) 8) := by rw [hk]; rfl
    rw [hw]
    clear hw
    refine Wp.go (mx := true) (fun _ => mixed) [(6, {fm := [(0, .agg (encJ nullJ))]}), (11, {cs := [(2, cb [0] (next_ok ns (nextA ns a (9 : Int)) (8 : Int) (by assumption) (by omega))), (5, pc (I_ok (ints8.getD (nextV ns (nextA ns a (9 : Int)) (8 : Int)).toNat (0 : Int))))], fm := [(0, .c (.sl 1 ints8.length (intsF ints8)))]}), (14, {fm := [(1, .c (.sl 1 txt11.length (strsF txt11)))]}), (1, {cs := [(1, cb [0] (next_ok ns a (9 : Int) (by assumption) (by omega)))]})] 100 [false, false, false, true, true] [decide ((↑(n + (1 : Nat)) : Int) ≤ (0 : Int)) = false, (nextV ns a (9 : Int) == (0 : Int)) = false, (nextV ns a (9 : Int) == (1 : Int)) = false, (nextV ns a (9 : Int) == (2 : Int)) = true, (nextV ns a (9 : Int) == (2 : Int)) = true, EqvI (V1.c (Cell.sl (1 : Nat) (8 : Nat) fun (i j : Nat) => nthD [Cell.int .i64 (0 : Int), Cell.int .i64 (1 : Int), Cell.int .i64 (7 : Int), Cell.int .i64 (300 : Int), Cell.int .i64 (-1 : Int), Cell.int .i64 (9007199254740992 : Int), Cell.int .i64 (-9007199254740992 : Int), Cell.int .i64 (42 : Int)] (i * (1 : Nat) + j))) (V1.c (Cell.sl (1 : Nat) ints8.length (intsF ints8))), EqvD (V1.c (Cell.sl (1 : Nat) (8 : Nat) fun (i j : Nat) => nthD [Cell.int .i64 (0 : Int), Cell.int .i64 (1 : Int), Cell.int .i64 (7 : Int), Cell.int .i64 (300 : Int), Cell.int .i64 (-1 : Int), Cell.int .i64 (9007199254740992 : Int), Cell.int .i64 (-9007199254740992 : Int), Cell.int .i64 (42 : Int)] (i * (1 : Nat) + j))) (V1.c (Cell.sl (1 : Nat) ints8.length (intsF ints8))), (0 : Int) ≤ nextV ns (nextA ns a (9 : Int)) (8 : Int) ∧ nextV ns (nextA ns a (9 : Int)) (8 : Int) < (↑ints8.length : Int)] (by kernel_rfl) (by kernel_rfl) (by kernel_rfl) ⟨rfl, (by simp; omega), (by simp; omega), (by simp; omega), (by simp; omega), fun _ _ => trivial, (by assumption), (show (0 : Int) ≤ nextV ns (nextA ns a (9 : Int)) (8 : Int) ∧ nextV ns (nextA ns a (9 : Int)) (8 : Int) < (↑ints8.length : Int) from (by omega))⟩ ?_
    refine Wp.ret' (by kernel_rfl) ?_
    exact FinQ.blk [] (by kernel_rfl) (by kernel_rfl) (by kernel_rfl) (by kernel_rfl) (by kernel_rfl) trivial
  · have hw : leafT ns (nextV ns a 9) (nextA ns a 9) = (intJ (ints8.getD (nextV ns (nextA ns a 9) 8).toNat 0), nextA ns (nextA ns a 9) 8) := by rw [hk]; rfl
    rw [hw]
    clear hw
    refine Wp.go (mx := true) (fun _ => mixed) [(6, {fm := [(0, .agg (encJ nullJ))]}), (11, {cs := [(2, cb [0] (next_ok ns (nextA ns a (9 : Int)) (8 : Int) (by assumption) (by omega))), (5, pc (I_ok (ints8.getD (nextV ns (nextA ns a (9 : Int)) (8 : Int)).toNat (0 : Int))))], fm := [(0, .c (.sl 1 ints8.length (intsF ints8)))]}), (14, {fm := [(1, .c (.sl 1 txt11.length (strsF txt11)))]}), (1, {cs := [(1, cb [0] (next_ok ns a (9 : Int) (by assumption) (by omega)))]})] 100 [false, false, false, false, true] [decide ((↑(n + (1 : Nat)) : Int) ≤ (0 : Int)) = false, (nextV ns a (9 : Int) == (0 : Int)) = false, (nextV ns a (9 : Int) == (1 : Int)) = false, (nextV ns a (9 : Int) == (2 : Int)) = false, (nextV ns a (9 : Int) == (3 : Int)) = true, EqvI (V1.c (Cell.sl (1 : Nat) (8 : Nat) fun (i j : Nat) => nthD [Cell.int .i64 (0 : Int), Cell.int .i64 (1 : Int), Cell.int .i64 (7 : Int), Cell.int .i64 (300 : Int), Cell.int .i64 (-1 : Int), Cell.int .i64 (9007199254740992 : Int), Cell.int .i64 (-9007199254740992 : Int), Cell.int .i64 (42 : Int)] (i * (1 : Nat) + j))) (V1.c (Cell.sl (1 : Nat) ints8.length (intsF ints8))), EqvD (V1.c (Cell.sl (1 : Nat) (8 : Nat) fun (i j : Nat) => nthD [Cell.int .i64 (0 : Int), Cell.int .i64 (1 : Int), Cell.int .i64 (7 : Int), Cell.int .i64 (300 : Int), Cell.int .i64 (-1 : Int), Cell.int .i64 (9007199254740992 : Int), Cell.int .i64 (-9007199254740992 : Int), Cell.int .i64 (42 : Int)] (i * (1 : Nat) + j))) (V1.c (Cell.sl (1 : Nat) ints8.length (intsF ints8))), (0 : Int) ≤ nextV ns (nextA ns a (9 : Int)) (8 : Int) ∧ nextV ns (nextA ns a (9 : Int)) (8 : Int) < (↑ints8.length : Int)] (by kernel_rfl) (by kernel_rfl) (by kernel_rfl) ⟨rfl, (by simp; omega), (by simp; omega), (by simp; omega), (by simp; omega), fun _ _ => trivial, (by assumption), (show (0 : Int) ≤ nextV ns (nextA ns a (9 : Int)) (8 : Int) ∧ nextV ns (nextA ns a (9 : Int)) (8 : Int) < (↑ints8.length : Int) from (by omega))⟩ ?_
    refine Wp.ret' (by kernel_rfl) ?_
    exact FinQ.blk [] (by kernel_rfl) (by kernel_rfl) (by kernel_rfl) (by kernel_rfl) (by kernel_rfl) trivial
  · have hw : leafT ns (nextV ns a 9) (nextA ns a 9) = (textJ (pickT txt11 ns (nextA ns a 9)), nextA ns (nextA ns a 9) 11) := by rw [hk]; rfl
    rw [hw]
    clear hw
    refine Wp.go (mx := true) (fun _ => mixed) [(6, {fm := [(0, .agg (encJ nullJ))]}), (11, {fm := [(0, .c (.sl 1 ints8.length (intsF ints8)))]}), (14, {cs := [(2, cb [0] (pick_ok txt11 ns (nextA ns a (9 : Int)) (by assumption) (by decide))), (3, pc (S_ok (txt11.getD (nextV ns (nextA ns a (9 : Int)) (↑txt11.length : Int)).toNat [])))], fm := [(1, .c (.sl 1 txt11.length (strsF txt11)))]}), (1, {cs := [(1, cb [0] (next_ok ns a (9 : Int) (by assumption) (by omega)))]})] 100 [false, false, false, false, false, true, true] [decide ((↑(n + (1 : Nat)) : Int) ≤ (0 : Int)) = false, (nextV ns a (9 : Int) == (0 : Int)) = false, (nextV ns a (9 : Int) == (1 : Int)) = false, (nextV ns a (9 : Int) == (2 : Int)) = false, (nextV ns a (9 : Int) == (3 : Int)) = false, (nextV ns a (9 : Int) == (4 : Int)) = true, (nextV ns a (9 : Int) == (4 : Int)) = true, EqvI (V1.c (Cell.sl (1 : Nat) (11 : Nat) fun (i j : Nat) => nthD [Cell.str [], Cell.str [(97 : UInt8)], Cell.str [(34 : UInt8)], Cell.str [(92 : UInt8)], Cell.str [(0 : UInt8)], Cell.str [(31 : UInt8)], Cell.str [(10 : UInt8)], Cell.str [(195 : UInt8), 169], Cell.str [(127 : UInt8)], Cell.str [(126 : UInt8), 65, 103, 65, 65, 65, 65, 69, 126], Cell.str [(104 : UInt8), 116, 116, 112, 115, 58, 47, 47, 97, 115]] (i * (1 : Nat) + j))) (V1.c (Cell.sl (1 : Nat) txt11.length (strsF txt11))), EqvD (V1.c (Cell.sl (1 : Nat) (11 : Nat) fun (i j : Nat) => nthD [Cell.str [], Cell.str [(97 : UInt8)], Cell.str [(34 : UInt8)], Cell.str [(92 : UInt8)], Cell.str [(0 : UInt8)], Cell.str [(31 : UInt8)], Cell.str [(10 : UInt8)], Cell.str [(195 : UInt8), 169], Cell.str [(127 : UInt8)], Cell.str [(126 : UInt8), 65, 103, 65, 65, 65, 65, 69, 126], Cell.str [(104 : UInt8), 116, 116, 112, 115, 58, 47, 47, 97, 115]] (i * (1 : Nat) + j))) (V1.c (Cell.sl (1 : Nat) txt11.length (strsF txt11)))] (by kernel_rfl) (by kernel_rfl) (by kernel_rfl) ⟨rfl, (by simp; omega), (by simp; omega), (by simp; omega), (by simp; omega), (by simp; omega), (by simp; omega), fun _ _ => trivial, (show EqvD (V1.c (Cell.sl (1 : Nat) (11 : Nat) fun (i j : Nat) => nthD [Cell.str [], Cell.str [(97 : UInt8)], Cell.str [(34 : UInt8)], Cell.str [(92 : UInt8)], Cell.str [(0 : UInt8)], Cell.str [(31 : UInt8)], Cell.str [(10 : UInt8)], Cell.str [(195 : UInt8), 169], Cell.str [(127 : UInt8)], Cell.str [(126 : UInt8), 65, 103, 65, 65, 65, 65, 69, 126], Cell.str [(104 : UInt8), 116, 116, 112, 115, 58, 47, 47, 97, 115]] (i * (1 : Nat) + j))) (V1.c (Cell.sl (1 : Nat) txt11.length (strsF txt11))) from (by assumption))⟩ ?_
    refine Wp.ret' (by kernel_rfl) ?_
    exact FinQ.blk [] (by kernel_rfl) (by kernel_rfl) (by kernel_rfl) (by kernel_rfl) (by kernel_rfl) trivial
  · have hw : leafT ns (nextV ns a 9) (nextA ns a 9) = (textJ (pickT txt11 ns (nextA ns a 9)), nextA ns (nextA ns a 9) 11) := by rw [hk]; rfl
    rw [hw]
    clear hw
    refine Wp.go (mx := true) (fun _ => mixed) [(6, {fm := [(0, .agg (encJ nullJ))]}), (11, {fm := [(0, .c (.sl 1 ints8.length (intsF ints8)))]}), (14, {cs := [(2, cb [0] (pick_ok txt11 ns (nextA ns a (9 : Int)) (by assumption) (by decide))), (3, pc (S_ok (txt11.getD (nextV ns (nextA ns a (9 : Int)) (↑txt11.length : Int)).toNat [])))], fm := [(1, .c (.sl 1 txt11.length (strsF txt11)))]}), (1, {cs := [(1, cb [0] (next_ok ns a (9 : Int) (by assumption) (by omega)))]})] 100 [false, false, false, false, false, false, true] [decide ((↑(n + (1 : Nat)) : Int) ≤ (0 : Int)) = false, (nextV ns a (9 : Int) == (0 : Int)) = false, (nextV ns a (9 : Int) == (1 : Int)) = false, (nextV ns a (9 : Int) == (2 : Int)) = false, (nextV ns a (9 : Int) == (3 : Int)) = false, (nextV ns a (9 : Int) == (4 : Int)) = false, (nextV ns a (9 : Int) == (5 : Int)) = true, EqvI (V1.c (Cell.sl (1 : Nat) (11 : Nat) fun (i j : Nat) => nthD [Cell.str [], Cell.str [(97 : UInt8)], Cell.str [(34 : UInt8)], Cell.str [(92 : UInt8)], Cell.str [(0 : UInt8)], Cell.str [(31 : UInt8)], Cell.str [(10 : UInt8)], Cell.str [(195 : UInt8), 169], Cell.str [(127 : UInt8)], Cell.str [(126 : UInt8), 65, 103, 65, 65, 65, 65, 69, 126], Cell.str [(104 : UInt8), 116, 116, 112, 115, 58, 47, 47, 97, 115]] (i * (1 : Nat) + j))) (V1.c (Cell.sl (1 : Nat) txt11.length (strsF txt11))), EqvD (V1.c (Cell.sl (1 : Nat) (11 : Nat) fun (i j : Nat) => nthD [Cell.str [], Cell.str [(97 : UInt8)], Cell.str [(34 : UInt8)], Cell.str [(92 : UInt8)], Cell.str [(0 : UInt8)], Cell.str [(31 : UInt8)], Cell.str [(10 : UInt8)], Cell.str [(195 : UInt8), 169], Cell.str [(127 : UInt8)], Cell.str [(126 : UInt8), 65, 103, 65, 65, 65, 65, 69, 126], Cell.str [(104 : UInt8), 116, 116, 112, 115, 58, 47, 47, 97, 115]] (i * (1 : Nat) + j))) (V1.c (Cell.sl (1 : Nat) txt11.length (strsF txt11)))] (by kernel_rfl) (by kernel_rfl) (by kernel_rfl) ⟨rfl, (by simp; omega), (by simp; omega), (by simp; omega), (by simp; omega), (by simp; omega), (by simp; omega), fun _ _ => trivial, (show EqvD (V1.c (Cell.sl (1 : Nat) (11 : Nat) fun (i j : Nat) => nthD [Cell.str [], Cell.str [(97 : UInt8)], Cell.str [(34 : UInt8)], Cell.str [(92 : UInt8)], Cell.str [(0 : UInt8)], Cell.str [(31 : UInt8)], Cell.str [(10 : UInt8)], Cell.str [(195 : UInt8), 169], Cell.str [(127 : UInt8)], Cell.str [(126 : UInt8), 65, 103, 65, 65, 65, 65, 69, 126], Cell.str [(104 : UInt8), 116, 116, 112, 115, 58, 47, 47, 97, 115]] (i * (1 : Nat) + j))) (V1.c (Cell.sl (1 : Nat) txt11.length (strsF txt11))) from (by assumption))⟩ ?_
    refine Wp.ret' (by kernel_rfl) ?_
    exact FinQ.blk [] (by kernel_rfl) (by kernel_rfl) (by kernel_rfl) (by kernel_rfl) (by kernel_rfl) trivial
end Go.Proofs.Tw
end

section
open Go Go.Sv
namespace Go.Proofs.Tw
attribute [local irreducible] Wp FinQ resV Ent Pur Go.Sv.Fn Sat0
set_option maxRecDepth 100000
set_option maxHeartbeats 4000000
variable {G : Nat → Option (List Cell)}

theorem kid_pub (ks : List JV) {k : Nat} (hk : k = ks.length) : ∀ i, i < k → ∀ j, j < 6 → rowF encJ .nil ks (0 + i) j = kidC ks i j := by
  intro i hi j hj
  unfold rowF kidC
  rw [Nat.zero_add, cellsL_eq ks i (by omega)]
theorem pick_mem4 (ns : List Int) (a : Nat) : pickT nam4 ns a ∈ nam4 := by
  have h1 := nextV_rng ns a nam4.length (by decide)
  unfold pickT
  rw [List.getD_eq_getElem?_getD, List.getElem?_eq_getElem (by omega)]
  exact List.getElem_mem _
theorem val_list (ns : List Int) (hl : ns.length ≤ 9223372036854775807) (a : Nat) (n : Nat) (hn : n ≤ 1000) (h6 : nextV ns a 9 = 6) (ih : ∀ a, FnB Tryz.prog G 18 [tapeB ns a] [.c (.ptr 0 0), .c (.int .i64 (n : Int))] [.agg (encJ (valT ns n a).1)] [(0, tapeB ns (valT ns n a).2)]) :
    FnB Tryz.prog G 18 [tapeB ns a] [.c (.ptr 0 0), .c (.int .i64 ((n + 1 : Nat) : Int))] [.agg (encJ (valT ns (n + 1) a).1)] [(0, tapeB ns (valT ns (n + 1) a).2)] := by
  refine Fn.of' Tryz.func18 (by kernel_rfl) (by kernel_rfl) (by kernel_rfl) (by kernel_rfl) trivial ?_
  have r9 := nextV_rng ns a 9 (by decide)
  have r4 := nextV_rng ns (nextA ns a 9) 4 (by decide)
  obtain ⟨m, hm⟩ := Int.eq_ofNat_of_zero_le r4.1
  have hm4 : m < 4 := by omega
  have c4 : FnB Tryz.prog G 22 [tapeB ns (nextA ns a 9)] [.c (.ptr 0 0), .c (.int .i64 4)] [.c (.int .i64 (m : Int))] [(0, tapeB ns (nextA ns (nextA ns a 9) 4))] := by
    have := next_ok (G := G) ns (nextA ns a 9) 4 hl (by decide)
    rwa [hm] at this
  have hv : valT ns (n + 1) a = (.mk 5 false 0 [] (kidsT (valT ns n) ns false m (nextA ns (nextA ns a 9) 4) [] []).1 (kidsT (valT ns n) ns false m (nextA ns (nextA ns a 9) 4) [] []).2.1, (kidsT (valT ns n) ns false m (nextA ns (nextA ns a 9) 4) [] []).2.2) := by
    rw [valT, if_neg (by omega), hm]
    rw [if_neg (by omega), decide_eq_false (by omega)]
    rfl
  rw [hv]
  clear hv
  generalize hR : kidsT (valT ns n) ns false m (nextA ns (nextA ns a 9) 4) [] [] = R
  refine Wp.go (mx := true) (fun _ => mixed) [(1, {cs := [(1, cb [0] (next_ok ns a (9 : Int) (by assumption) (by omega)))]}), (18, {cs := [(1, cb [0] c4)]})] 100 [false, false, false, false, false, false, false, false] [decide ((↑(n + (1 : Nat)) : Int) ≤ (0 : Int)) = false, (nextV ns a (9 : Int) == (0 : Int)) = false, (nextV ns a (9 : Int) == (1 : Int)) = false, (nextV ns a (9 : Int) == (2 : Int)) = false, (nextV ns a (9 : Int) == (3 : Int)) = false, (nextV ns a (9 : Int) == (4 : Int)) = false, (nextV ns a (9 : Int) == (5 : Int)) = false, decide (nextV ns a (9 : Int) > (6 : Int)) = false] (by kernel_rfl) (by kernel_rfl) (by kernel_rfl) ⟨rfl, (by simp; omega), (by simp; omega), (by simp; omega), (by simp; omega), (by simp; omega), (by simp; omega), (show decide (nextV ns a (9 : Int) > (6 : Int)) = false from (by simp; omega))⟩ ?_
  refine Wp.loopK (by kernel_rfl) (fun (x : Nat × Nat × Nat × List (List UInt8) × Nat × List JV) => ⟨[(0, TV.v (V1.c (Cell.ptr 0 0))), (1, TV.v (V1.c (Cell.int .i64 ((n + 1 : Nat) : Int)))), (4, TV.v (V1.c (Cell.ptr 1 0))), (6, TV.v (V1.c (Cell.ptr 321 0))), (7, TV.v (V1.c (Cell.int .i64 (x.1 : Int))))], [(1, Blk.box 31 [Cell.int .i64 0, Cell.bool false, Cell.int .i64 0, Cell.str [], Cell.nilsl, Cell.nilsl]), (321, Blk.box 31 [Cell.int .i64 5, Cell.bool false, Cell.int .i64 0, Cell.str [], Cell.row 1 433 0 x.2.2.1, Cell.row 6 449 0 x.2.2.2.2.1]), (0, tapeB ns x.2.1), (433, Blk.row 9 1 x.2.2.1 (strsF x.2.2.2.1)), (449, Blk.row 31 6 x.2.2.2.2.1 (rowF encJ .nil x.2.2.2.2.2))], 465⟩)
    (fun x => x.1 ≤ m ∧ x.2.2.1 = x.2.2.2.1.length ∧ x.2.2.2.2.1 = x.2.2.2.2.2.length ∧ x.2.2.1 = 0 ∧ x.2.2.2.2.1 + x.1 = m ∧ kidsT (valT ns n) ns false x.1 x.2.1 x.2.2.2.1 x.2.2.2.2.2 = R) (fun x => x.1) (m, nextA ns (nextA ns a 9) 4, 0, [], 0, [])
    (Ent.trans (Ent.empC (b := 321) (o := 4) (sz := 1) (e := 9) (e' := 31) (cs := [Cell.int .i64 5, Cell.bool false, Cell.int .i64 0, Cell.str [], Cell.nilsl, Cell.nilsl]) (f := strsF []) (by decide) (of_decide_eq_true (by kernel_rfl)) (by kernel_rfl) (by kernel_rfl) rfl) (Ent.trans (Ent.empC (b := 321) (o := 5) (sz := 6) (e := 31) (e' := 31) (cs := [Cell.int .i64 5, Cell.bool false, Cell.int .i64 0, Cell.str [], Cell.row 1 433 0 0, Cell.nilsl]) (f := rowF encJ .nil []) (by decide) (of_decide_eq_true (by kernel_rfl)) (by kernel_rfl) (by kernel_rfl) rfl) (Ent.of [] (by kernel_rfl) (by kernel_rfl) (by kernel_rfl) trivial))) ⟨Nat.le_refl _, rfl, rfl, rfl, Nat.zero_add _, hR⟩ ?_
  rintro ⟨i, a', nn, nm, nk, ks⟩ L ⟨hi, h1, h2, h3, h4, h5⟩ again
  simp only at hi h1 h2 h3 h4 h5
  rcases i with _ | j
  · have hr : R = (nm, ks, a') := h5.symm
    rw [hr]
    refine Wp.ent' (by kernel_rfl) (Ent.pubC (id := 433) (b := 321) (o := 4) (off := 0) (m := nn) (sz := 1) (n := nn) (e := 9) (e' := 31) (cs := [Cell.int .i64 5, Cell.bool false, Cell.int .i64 0, Cell.str [], Cell.row 1 433 0 nn, Cell.row 6 449 0 nk]) (f := strsF nm) (m' := nm.length) (f' := fun i j => nthD [.str (nm.getD i [])] j) (by kernel_rfl) (by kernel_rfl) (by kernel_rfl) (by omega) h1 (fun i _ j hj => str_one nm i j hj) rfl) ?_
    refine Wp.ent' (by kernel_rfl) (Ent.pubC (id := 449) (b := 321) (o := 5) (off := 0) (m := nk) (sz := 6) (n := nk) (e := 31) (e' := 31) (cs := [Cell.int .i64 5, Cell.bool false, Cell.int .i64 0, Cell.str [], Cell.sl 1 nm.length (fun i j => nthD [.str (nm.getD i [])] j), Cell.row 6 449 0 nk]) (f := rowF encJ .nil ks) (m' := ks.length) (f' := kidC ks) (by kernel_rfl) (by kernel_rfl) (by kernel_rfl) (by omega) h2 (kid_pub ks h2) rfl) ?_
    refine Wp.go (mx := true) (fun _ => mixed) [] 100 [false] [decide ((↑(0 : Nat) : Int) > (0 : Int)) = false] (by kernel_rfl) (by kernel_rfl) (by kernel_rfl) rfl ?_
    refine Wp.ret' (by kernel_rfl) ?_
    exact FinQ.blk [] (by kernel_rfl) (by kernel_rfl) (by kernel_rfl) (by kernel_rfl) (by kernel_rfl) trivial
  · have e7 : EqvD (V1.c (Cell.int .i64 (((j + 1 : Nat) : Int) - 1))) (.c (.int .i64 (j : Int))) := eqvD_of (by rw [show ((j + 1 : Nat) : Int) - 1 = (j : Int) from by omega])
    have e0 : EqvD (V1.c (Cell.int .i64 (((n + 1 : Nat) : Int) - 1))) (.c (.int .i64 (n : Int))) := eqvD_of (by rw [show ((n + 1 : Nat) : Int) - 1 = (n : Int) from by omega])
    have e5 : BlkEqv (.row 31 6 (nk + 1) (catF nk (rowF encJ .nil ks) (fun i j_1 => nthD (encJ (valT ns n a').1) ((0 + i) * 6 + j_1)))) (.row 31 6 (nk + 1) (rowF encJ .nil (ks ++ [(valT ns n a').1]))) := enc_app ks _ h2
    have hnx : kidsT (valT ns n) ns false j (valT ns n a').2 nm (ks ++ [(valT ns n a').1]) = R := h5
    have q2 : nk + 1 = (ks ++ [(valT ns n a').1]).length := by simp [h2]
    have ihc := ih a'
    clear h5 hR
    refine Wp.go (mx := true) (fun _ => mixed) [(20, {fm := [(2, .c (.int .i64 (j : Int)))]}), (23, {cs := [(5, cb [0] ihc)], fm := [(4, .c (.int .i64 (n : Int)))], bs := [(7, Blk.row 31 6 (nk + 1) (rowF encJ .nil (ks ++ [(valT ns n a').1])))]})] 100 [true, false] [decide ((↑(j + (1 : Nat)) : Int) > (0 : Int)) = true, ((5 : Int) == (6 : Int)) = false, EqvI (V1.c (Cell.int .i64 ((↑(n + (1 : Nat)) : Int) - (1 : Int)))) (V1.c (Cell.int .i64 (↑n : Int))), EqvD (V1.c (Cell.int .i64 ((↑(n + (1 : Nat)) : Int) - (1 : Int)))) (V1.c (Cell.int .i64 (↑n : Int))), inR IntKind.i64 ((↑(n + (1 : Nat)) : Int) - (1 : Int)), (nk + (1 : Nat)) * (88 : Nat) ≤ (140737488355328 : Nat), BlkEqv (Blk.row 31 (6 : Nat) (nk + (1 : Nat)) (catF nk (fun (i j : Nat) => nthD [Cell.int .i64 (ks.getD i JV.nil).kind, Cell.bool (ks.getD i JV.nil).b, Cell.int .i64 (ks.getD i JV.nil).n, Cell.str (ks.getD i JV.nil).s, encS (ks.getD i JV.nil).names, Cell.sl (6 : Nat) (ks.getD i JV.nil).kids.length (kidC (ks.getD i JV.nil).kids)] j) fun (i j : Nat) => nthD [Cell.int .i64 (valT ns n a').1.kind, Cell.bool (valT ns n a').1.b, Cell.int .i64 (valT ns n a').1.n, Cell.str (valT ns n a').1.s, Cell.sl (1 : Nat) (valT ns n a').1.names.length fun (i j : Nat) => nthD [Cell.str ((valT ns n a').1.names.getD i [])] j, Cell.sl (6 : Nat) (valT ns n a').1.kids.length (kidC (valT ns n a').1.kids)] (((0 : Nat) + i) * (6 : Nat) + j))) (Blk.row 31 (6 : Nat) (nk + (1 : Nat)) fun (i j : Nat) => nthD [Cell.int .i64 ((ks ++ [(valT ns n a').1]).getD i JV.nil).kind, Cell.bool ((ks ++ [(valT ns n a').1]).getD i JV.nil).b, Cell.int .i64 ((ks ++ [(valT ns n a').1]).getD i JV.nil).n, Cell.str ((ks ++ [(valT ns n a').1]).getD i JV.nil).s, encS ((ks ++ [(valT ns n a').1]).getD i JV.nil).names, Cell.sl (6 : Nat) ((ks ++ [(valT ns n a').1]).getD i JV.nil).kids.length (kidC ((ks ++ [(valT ns n a').1]).getD i JV.nil).kids)] j), nk ≤ nk, (0 : Nat) + (1 : Nat) ≤ (1 : Nat), inR IntKind.i64 ((↑(j + (1 : Nat)) : Int) - (1 : Int)), EqvI (V1.c (Cell.int .i64 ((↑(j + (1 : Nat)) : Int) - (1 : Int)))) (V1.c (Cell.int .i64 (↑j : Int))), EqvD (V1.c (Cell.int .i64 ((↑(j + (1 : Nat)) : Int) - (1 : Int)))) (V1.c (Cell.int .i64 (↑j : Int)))] (by kernel_rfl) (by kernel_rfl) (by kernel_rfl) ⟨(by simp; done), rfl, fun _ _ => trivial, (by assumption), inR64 (by omega) (by omega), (by omega), (by assumption), (by omega), (by omega), inR64 (by omega) (by omega), fun _ _ => trivial, (show EqvD (V1.c (Cell.int .i64 ((↑(j + (1 : Nat)) : Int) - (1 : Int)))) (V1.c (Cell.int .i64 (↑j : Int))) from (by assumption))⟩ ?_
    exact Wp.lpK (by kernel_rfl) (again _ (j, (valT ns n a').2, nn, nm, nk + 1, ks ++ [(valT ns n a').1]) ⟨(by omega), ⟨(by assumption), ⟨(by assumption), ⟨(by assumption), ⟨(by simp; omega), (by assumption)⟩⟩⟩⟩⟩ (by omega) (Ent.of [(449, 657)] (by kernel_rfl) (by kernel_rfl) (by kernel_rfl) trivial))
theorem val_obj (ns : List Int) (hl : ns.length ≤ 9223372036854775807) (a : Nat) (n : Nat) (hn : n ≤ 1000) (h6 : nextV ns a 9 > 6) (ih : ∀ a, FnB Tryz.prog G 18 [tapeB ns a] [.c (.ptr 0 0), .c (.int .i64 (n : Int))] [.agg (encJ (valT ns n a).1)] [(0, tapeB ns (valT ns n a).2)]) :
    FnB Tryz.prog G 18 [tapeB ns a] [.c (.ptr 0 0), .c (.int .i64 ((n + 1 : Nat) : Int))] [.agg (encJ (valT ns (n + 1) a).1)] [(0, tapeB ns (valT ns (n + 1) a).2)] := by
  refine Fn.of' Tryz.func18 (by kernel_rfl) (by kernel_rfl) (by kernel_rfl) (by kernel_rfl) trivial ?_
  have r9 := nextV_rng ns a 9 (by decide)
  have r4 := nextV_rng ns (nextA ns a 9) 4 (by decide)
  obtain ⟨m, hm⟩ := Int.eq_ofNat_of_zero_le r4.1
  have hm4 : m < 4 := by omega
  have c4 : FnB Tryz.prog G 22 [tapeB ns (nextA ns a 9)] [.c (.ptr 0 0), .c (.int .i64 4)] [.c (.int .i64 (m : Int))] [(0, tapeB ns (nextA ns (nextA ns a 9) 4))] := by
    have := next_ok (G := G) ns (nextA ns a 9) 4 hl (by decide)
    rwa [hm] at this
  have hv : valT ns (n + 1) a = (.mk 6 false 0 [] (kidsT (valT ns n) ns true m (nextA ns (nextA ns a 9) 4) [] []).1 (kidsT (valT ns n) ns true m (nextA ns (nextA ns a 9) 4) [] []).2.1, (kidsT (valT ns n) ns true m (nextA ns (nextA ns a 9) 4) [] []).2.2) := by
    rw [valT, if_neg (by omega), hm]
    rw [if_pos h6, decide_eq_true h6]
    rfl
  rw [hv]
  clear hv
  generalize hR : kidsT (valT ns n) ns true m (nextA ns (nextA ns a 9) 4) [] [] = R
  refine Wp.go (mx := true) (fun _ => mixed) [(1, {cs := [(1, cb [0] (next_ok ns a (9 : Int) (by assumption) (by omega)))]}), (18, {cs := [(1, cb [0] c4)]})] 100 [false, false, false, false, false, false, false, true] [decide ((↑(n + (1 : Nat)) : Int) ≤ (0 : Int)) = false, (nextV ns a (9 : Int) == (0 : Int)) = false, (nextV ns a (9 : Int) == (1 : Int)) = false, (nextV ns a (9 : Int) == (2 : Int)) = false, (nextV ns a (9 : Int) == (3 : Int)) = false, (nextV ns a (9 : Int) == (4 : Int)) = false, (nextV ns a (9 : Int) == (5 : Int)) = false, decide (nextV ns a (9 : Int) > (6 : Int)) = true] (by kernel_rfl) (by kernel_rfl) (by kernel_rfl) ⟨rfl, (by simp; omega), (by simp; omega), (by simp; omega), (by simp; omega), (by simp; omega), (by simp; omega), (show decide (nextV ns a (9 : Int) > (6 : Int)) = true from (by simp; omega))⟩ ?_
  refine Wp.loopK (by kernel_rfl) (fun (x : Nat × Nat × Nat × List (List UInt8) × Nat × List JV) => ⟨[(0, TV.v (V1.c (Cell.ptr 0 0))), (1, TV.v (V1.c (Cell.int .i64 ((n + 1 : Nat) : Int)))), (4, TV.v (V1.c (Cell.ptr 1 0))), (6, TV.v (V1.c (Cell.ptr 321 0))), (7, TV.v (V1.c (Cell.int .i64 (x.1 : Int))))], [(1, Blk.box 31 [Cell.int .i64 0, Cell.bool false, Cell.int .i64 0, Cell.str [], Cell.nilsl, Cell.nilsl]), (321, Blk.box 31 [Cell.int .i64 6, Cell.bool false, Cell.int .i64 0, Cell.str [], Cell.row 1 465 0 x.2.2.1, Cell.row 6 481 0 x.2.2.2.2.1]), (0, tapeB ns x.2.1), (465, Blk.row 9 1 x.2.2.1 (strsF x.2.2.2.1)), (481, Blk.row 31 6 x.2.2.2.2.1 (rowF encJ .nil x.2.2.2.2.2))], 497⟩)
    (fun x => x.1 ≤ m ∧ x.2.2.1 = x.2.2.2.1.length ∧ x.2.2.2.2.1 = x.2.2.2.2.2.length ∧ x.2.2.1 = x.2.2.2.2.1 ∧ x.2.2.2.2.1 + x.1 = m ∧ kidsT (valT ns n) ns true x.1 x.2.1 x.2.2.2.1 x.2.2.2.2.2 = R) (fun x => x.1) (m, nextA ns (nextA ns a 9) 4, 0, [], 0, [])
    (Ent.trans (Ent.empC (b := 321) (o := 4) (sz := 1) (e := 9) (e' := 31) (cs := [Cell.int .i64 6, Cell.bool false, Cell.int .i64 0, Cell.str [], Cell.nilsl, Cell.nilsl]) (f := strsF []) (by decide) (of_decide_eq_true (by kernel_rfl)) (by kernel_rfl) (by kernel_rfl) rfl) (Ent.trans (Ent.empC (b := 321) (o := 5) (sz := 6) (e := 31) (e' := 31) (cs := [Cell.int .i64 6, Cell.bool false, Cell.int .i64 0, Cell.str [], Cell.row 1 465 0 0, Cell.nilsl]) (f := rowF encJ .nil []) (by decide) (of_decide_eq_true (by kernel_rfl)) (by kernel_rfl) (by kernel_rfl) rfl) (Ent.of [] (by kernel_rfl) (by kernel_rfl) (by kernel_rfl) trivial))) ⟨Nat.le_refl _, rfl, rfl, rfl, Nat.zero_add _, hR⟩ ?_
  rintro ⟨i, a', nn, nm, nk, ks⟩ L ⟨hi, h1, h2, h3, h4, h5⟩ again
  simp only at hi h1 h2 h3 h4 h5
  rcases i with _ | j
  · have hr : R = (nm, ks, a') := h5.symm
    rw [hr]
    refine Wp.ent' (by kernel_rfl) (Ent.pubC (id := 465) (b := 321) (o := 4) (off := 0) (m := nn) (sz := 1) (n := nn) (e := 9) (e' := 31) (cs := [Cell.int .i64 6, Cell.bool false, Cell.int .i64 0, Cell.str [], Cell.row 1 465 0 nn, Cell.row 6 481 0 nk]) (f := strsF nm) (m' := nm.length) (f' := fun i j => nthD [.str (nm.getD i [])] j) (by kernel_rfl) (by kernel_rfl) (by kernel_rfl) (by omega) h1 (fun i _ j hj => str_one nm i j hj) rfl) ?_
    refine Wp.ent' (by kernel_rfl) (Ent.pubC (id := 481) (b := 321) (o := 5) (off := 0) (m := nk) (sz := 6) (n := nk) (e := 31) (e' := 31) (cs := [Cell.int .i64 6, Cell.bool false, Cell.int .i64 0, Cell.str [], Cell.sl 1 nm.length (fun i j => nthD [.str (nm.getD i [])] j), Cell.row 6 481 0 nk]) (f := rowF encJ .nil ks) (m' := ks.length) (f' := kidC ks) (by kernel_rfl) (by kernel_rfl) (by kernel_rfl) (by omega) h2 (kid_pub ks h2) rfl) ?_
    refine Wp.go (mx := true) (fun _ => mixed) [] 100 [false] [decide ((↑(0 : Nat) : Int) > (0 : Int)) = false] (by kernel_rfl) (by kernel_rfl) (by kernel_rfl) rfl ?_
    refine Wp.ret' (by kernel_rfl) ?_
    exact FinQ.blk [] (by kernel_rfl) (by kernel_rfl) (by kernel_rfl) (by kernel_rfl) (by kernel_rfl) trivial
  · have e7 : EqvD (V1.c (Cell.int .i64 (((j + 1 : Nat) : Int) - 1))) (.c (.int .i64 (j : Int))) := eqvD_of (by rw [show ((j + 1 : Nat) : Int) - 1 = (j : Int) from by omega])
    have e0 : EqvD (V1.c (Cell.int .i64 (((n + 1 : Nat) : Int) - 1))) (.c (.int .i64 (n : Int))) := eqvD_of (by rw [show ((n + 1 : Nat) : Int) - 1 = (n : Int) from by omega])
    have e1 : EqvD (.c (.sl 1 4 (fun i j => nthD [Cell.str [97], Cell.str [98], Cell.str [], Cell.str [34]] (i * 1 + j)))) (.c (.sl 1 nam4.length (strsF nam4))) := strs_lit nam4 rfl rfl
    have hj3 : j = 0 ∨ j = 1 ∨ j = 2 := by omega
    have e2 : areBytes (fun i j_1 => nthD [.int .u8 (IntKind.u8.wrap (48 + ((j + 1 : Nat) : Int)))] (i * 1 + j_1)) 0 1 := by
      intro i hi
      obtain rfl : i = 0 := by omega
      rcases hj3 with rfl | rfl | rfl <;> rfl
    have e3 : EqvD (V1.c (Cell.str (byteL (fun i j_1 => nthD [.int .u8 (IntKind.u8.wrap (48 + ((j + 1 : Nat) : Int)))] (i * 1 + j_1)) 0 1))) (.c (.str [UInt8.ofNat (48 + (j + 1))])) := eqvD_of (by rcases hj3 with rfl | rfl | rfl <;> rfl)
    have e4 : BlkEqv (.row 9 1 (nn + 1) (catF nn (strsF nm) (fun i j_1 => nthD [.str (pickT nam4 ns a' ++ [UInt8.ofNat (48 + (j + 1))])] ((0 + i) * 1 + j_1)))) (.row 9 1 (nn + 1) (strsF (nm ++ [pickT nam4 ns a' ++ [UInt8.ofNat (48 + (j + 1))]]))) := strs_app nm _ h1
    have e5 : BlkEqv (.row 31 6 (nk + 1) (catF nk (rowF encJ .nil ks) (fun i j_1 => nthD (encJ (valT ns n (nextA ns a' 4)).1) ((0 + i) * 6 + j_1)))) (.row 31 6 (nk + 1) (rowF encJ .nil (ks ++ [(valT ns n (nextA ns a' 4)).1]))) := enc_app ks _ h2
    have hnx : kidsT (valT ns n) ns true j (valT ns n (nextA ns a' 4)).2 (nm ++ [pickT nam4 ns a' ++ [UInt8.ofNat (48 + (j + 1))]]) (ks ++ [(valT ns n (nextA ns a' 4)).1]) = R := h5
    have q1 : nn + 1 = (nm ++ [pickT nam4 ns a' ++ [UInt8.ofNat (48 + (j + 1))]]).length := by simp [h1]
    have q2 : nk + 1 = (ks ++ [(valT ns n (nextA ns a' 4)).1]).length := by simp [h2]
    have q3 : (nam4.getD (nextV ns a' ((nam4.length : Nat) : Int)).toNat []).length ≤ 1000 := by
      have : ∀ s ∈ nam4, s.length ≤ 1000 := by decide
      exact this _ (pick_mem4 ns a')
    have ihc := ih (nextA ns a' 4)
    clear h5 hR
    refine Wp.go (mx := true) (fun _ => mixed) [(20, {fm := [(2, .c (.int .i64 (j : Int)))]}), (22, {cs := [(4, cb [0] (pick_ok nam4 ns a' (by assumption) (by decide)))], fm := [(3, .c (.sl 1 nam4.length (strsF nam4))), (9, .c (.str [UInt8.ofNat (48 + (j + 1))]))], bs := [(12, Blk.row 9 1 (nn + 1) (strsF (nm ++ [pickT nam4 ns a' ++ [UInt8.ofNat (48 + (j + 1))]])))]}), (23, {cs := [(5, cb [0] ihc)], fm := [(4, .c (.int .i64 (n : Int)))], bs := [(7, Blk.row 31 6 (nk + 1) (rowF encJ .nil (ks ++ [(valT ns n (nextA ns a' 4)).1])))]})] 100 [true, true] [decide ((↑(j + (1 : Nat)) : Int) > (0 : Int)) = true, ((6 : Int) == (6 : Int)) = true, EqvI (V1.c (Cell.sl (1 : Nat) (4 : Nat) fun (i j : Nat) => nthD [Cell.str [(97 : UInt8)], Cell.str [(98 : UInt8)], Cell.str [], Cell.str [(34 : UInt8)]] (i * (1 : Nat) + j))) (V1.c (Cell.sl (1 : Nat) nam4.length (strsF nam4))), EqvD (V1.c (Cell.sl (1 : Nat) (4 : Nat) fun (i j : Nat) => nthD [Cell.str [(97 : UInt8)], Cell.str [(98 : UInt8)], Cell.str [], Cell.str [(34 : UInt8)]] (i * (1 : Nat) + j))) (V1.c (Cell.sl (1 : Nat) nam4.length (strsF nam4))), inR IntKind.i64 ((48 : Int) + (↑(j + (1 : Nat)) : Int)), EqvI (V1.c (Cell.str [{ toBitVec := BitVec.ofNat (8 : Nat) (IntKind.u8.wrap ((48 : Int) + (↑(j + (1 : Nat)) : Int))).toNat }])) (V1.c (Cell.str [UInt8.ofNat ((48 : Nat) + (j + (1 : Nat)))])), EqvD (V1.c (Cell.str [{ toBitVec := BitVec.ofNat (8 : Nat) (IntKind.u8.wrap ((48 : Int) + (↑(j + (1 : Nat)) : Int))).toNat }])) (V1.c (Cell.str [UInt8.ofNat ((48 : Nat) + (j + (1 : Nat)))])), (0 : Nat) + (1 : Nat) ≤ (1 : Nat), areBytes (fun (i j_1 : Nat) => nthD [Cell.int .u8 (IntKind.u8.wrap ((48 : Int) + (↑(j + (1 : Nat)) : Int)))] (i * (1 : Nat) + j_1)) (0 : Nat) (1 : Nat), (nam4.getD (nextV ns a' (↑nam4.length : Int)).toNat []).length + (1 : Nat) ≤ (9223372036854775807 : Nat), (nn + (1 : Nat)) * (16 : Nat) ≤ (140737488355328 : Nat), BlkEqv (Blk.row 9 (1 : Nat) (nn + (1 : Nat)) (catF nn (strsF nm) fun (i j_1 : Nat) => nthD [Cell.str (nam4.getD (nextV ns a' (↑nam4.length : Int)).toNat [] ++ [UInt8.ofNat ((48 : Nat) + (j + (1 : Nat)))])] (((0 : Nat) + i) * (1 : Nat) + j_1))) (Blk.row 9 (1 : Nat) (nn + (1 : Nat)) (strsF (nm ++ [pickT nam4 ns a' ++ [UInt8.ofNat ((48 : Nat) + (j + (1 : Nat)))]]))), nn ≤ nn, (0 : Nat) + (1 : Nat) ≤ (1 : Nat), EqvI (V1.c (Cell.int .i64 ((↑(n + (1 : Nat)) : Int) - (1 : Int)))) (V1.c (Cell.int .i64 (↑n : Int))), EqvD (V1.c (Cell.int .i64 ((↑(n + (1 : Nat)) : Int) - (1 : Int)))) (V1.c (Cell.int .i64 (↑n : Int))), inR IntKind.i64 ((↑(n + (1 : Nat)) : Int) - (1 : Int)), (nk + (1 : Nat)) * (88 : Nat) ≤ (140737488355328 : Nat), BlkEqv (Blk.row 31 (6 : Nat) (nk + (1 : Nat)) (catF nk (fun (i j : Nat) => nthD [Cell.int .i64 (ks.getD i JV.nil).kind, Cell.bool (ks.getD i JV.nil).b, Cell.int .i64 (ks.getD i JV.nil).n, Cell.str (ks.getD i JV.nil).s, encS (ks.getD i JV.nil).names, Cell.sl (6 : Nat) (ks.getD i JV.nil).kids.length (kidC (ks.getD i JV.nil).kids)] j) fun (i j : Nat) => nthD [Cell.int .i64 (valT ns n (nextA ns a' (4 : Int))).1.kind, Cell.bool (valT ns n (nextA ns a' (4 : Int))).1.b, Cell.int .i64 (valT ns n (nextA ns a' (4 : Int))).1.n, Cell.str (valT ns n (nextA ns a' (4 : Int))).1.s, Cell.sl (1 : Nat) (valT ns n (nextA ns a' (4 : Int))).1.names.length fun (i j : Nat) => nthD [Cell.str ((valT ns n (nextA ns a' (4 : Int))).1.names.getD i [])] j, Cell.sl (6 : Nat) (valT ns n (nextA ns a' (4 : Int))).1.kids.length (kidC (valT ns n (nextA ns a' (4 : Int))).1.kids)] (((0 : Nat) + i) * (6 : Nat) + j))) (Blk.row 31 (6 : Nat) (nk + (1 : Nat)) fun (i j : Nat) => nthD [Cell.int .i64 ((ks ++ [(valT ns n (nextA ns a' (4 : Int))).1]).getD i JV.nil).kind, Cell.bool ((ks ++ [(valT ns n (nextA ns a' (4 : Int))).1]).getD i JV.nil).b, Cell.int .i64 ((ks ++ [(valT ns n (nextA ns a' (4 : Int))).1]).getD i JV.nil).n, Cell.str ((ks ++ [(valT ns n (nextA ns a' (4 : Int))).1]).getD i JV.nil).s, encS ((ks ++ [(valT ns n (nextA ns a' (4 : Int))).1]).getD i JV.nil).names, Cell.sl (6 : Nat) ((ks ++ [(valT ns n (nextA ns a' (4 : Int))).1]).getD i JV.nil).kids.length (kidC ((ks ++ [(valT ns n (nextA ns a' (4 : Int))).1]).getD i JV.nil).kids)] j), nk ≤ nk, (0 : Nat) + (1 : Nat) ≤ (1 : Nat), inR IntKind.i64 ((↑(j + (1 : Nat)) : Int) - (1 : Int)), EqvI (V1.c (Cell.int .i64 ((↑(j + (1 : Nat)) : Int) - (1 : Int)))) (V1.c (Cell.int .i64 (↑j : Int))), EqvD (V1.c (Cell.int .i64 ((↑(j + (1 : Nat)) : Int) - (1 : Int)))) (V1.c (Cell.int .i64 (↑j : Int)))] (by kernel_rfl) (by kernel_rfl) (by kernel_rfl) ⟨(by simp; done), rfl, fun _ _ => trivial, (by assumption), inR64 (by omega) (by omega), fun _ _ => trivial, (by assumption), (by omega), (by assumption), (by omega), (by omega), (by assumption), (by omega), (by omega), fun _ _ => trivial, (by assumption), inR64 (by omega) (by omega), (by omega), (by assumption), (by omega), (by omega), inR64 (by omega) (by omega), fun _ _ => trivial, (show EqvD (V1.c (Cell.int .i64 ((↑(j + (1 : Nat)) : Int) - (1 : Int)))) (V1.c (Cell.int .i64 (↑j : Int))) from (by assumption))⟩ ?_
    exact Wp.lpK (by kernel_rfl) (again _ (j, (valT ns n (nextA ns a' 4)).2, nn + 1, nm ++ [pickT nam4 ns a' ++ [UInt8.ofNat (48 + (j + 1))]], nk + 1, ks ++ [(valT ns n (nextA ns a' 4)).1]) ⟨(by omega), ⟨(by assumption), ⟨(by assumption), ⟨(by simp; omega), ⟨(by simp; omega), (by assumption)⟩⟩⟩⟩⟩ (by omega) (Ent.of [(465, 769), (481, 929)] (by kernel_rfl) (by kernel_rfl) (by kernel_rfl) trivial))
theorem val_ok (ns : List Int) (hl : ns.length ≤ 9223372036854775807) : ∀ (n : Nat), n ≤ 1000 → ∀ a, FnB Tryz.prog G 18 [tapeB ns a] [.c (.ptr 0 0), .c (.int .i64 (n : Int))] [.agg (encJ (valT ns n a).1)] [(0, tapeB ns (valT ns n a).2)]
  | 0, _, a => val_zero ns hl a
  | n + 1, hn, a => by
    have r9 := nextV_rng ns a 9 (by decide)
    have ih := val_ok ns hl n (by omega)
    by_cases h6 : nextV ns a 9 < 6
    · exact val_leaf ns hl a n h6
    · by_cases h7 : nextV ns a 9 = 6
      · exact val_list ns hl a n (by omega) h7 ih
      · exact val_obj ns hl a n (by omega) (by omega) ih
end Go.Proofs.Tw
end

section
open Go Go.Sv
namespace Go.Proofs.Tw
attribute [local irreducible] Wp FinQ resV Ent Pur Go.Sv.Fn Sat0
set_option maxRecDepth 100000
set_option maxHeartbeats 4000000
variable {G : Nat → Option (List Cell)}

theorem same_top (v : JV) : (bif bif bif bif bif v.kind != v.kind then true else (v.b != v.b) then true else v.n != v.n then true else !(v.s == v.s) then true else ((v.names.length : Int) != (v.names.length : Int)) then true else ((v.kids.length : Int) != (v.kids.length : Int))) = false := by simp
/-- A value is the same as itself. -/
theorem sameJ_ok {v : JV} (hs : Small v) : Pur Tryz.prog G 32 [.agg (encJ v), .agg (encJ v)] [.c (.bool true)] := by
  induction hs with
  | mk hn hk hkids ih =>
  rename_i v
  refine Pur.of Tryz.func32 (by kernel_rfl) (by kernel_rfl) (by kernel_rfl) ?_
  have ht := same_top v
  refine Wp.go (mx := true) (fun _ => mixed) [] 100 [false] [(bif bif bif bif bif v.kind != v.kind then true else !v.b == v.b then true else v.n != v.n then true else !v.s == v.s then true else (↑v.names.length : Int) != (↑v.names.length : Int) then true else (↑v.kids.length : Int) != (↑v.kids.length : Int)) = false] (by kernel_rfl) (by kernel_rfl) (by kernel_rfl) (show (bif bif bif bif bif v.kind != v.kind then true else !v.b == v.b then true else v.n != v.n then true else !v.s == v.s then true else (↑v.names.length : Int) != (↑v.names.length : Int) then true else (↑v.kids.length : Int) != (↑v.kids.length : Int)) = false from (by assumption)) ?_
  refine Wp.loopK (by kernel_rfl) (fun (k : Nat) => ⟨[(2, TV.v (V1.c (Cell.ptr 0 0))), (3, TV.v (V1.c (Cell.ptr 16 0))), (5, TV.v (V1.c (Cell.int .i64 (k : Int))))], [(0, Blk.box 31 (encJ v)), (16, Blk.box 31 (encJ v))], 768⟩) (fun k => k ≤ v.names.length) (fun k => v.names.length - k) 0 (Ent.of [] (by kernel_rfl) (by kernel_rfl) (by kernel_rfl) trivial) (Nat.zero_le _) ?_
  intro k L hk again
  rcases Nat.lt_or_ge k v.names.length with hlt | hge
  · refine Wp.go (mx := true) (fun _ => mixed) [] 100 [true, false] [decide ((↑k : Int) < (↑v.names.length : Int)) = true, (0 : Int) ≤ (↑k : Int) ∧ (↑k : Int) < (↑v.names.length : Int), (0 : Int) ≤ (↑k : Int) ∧ (↑k : Int) < (↑v.names.length : Int), (!v.names.getD k [] == v.names.getD k []) = false, inR IntKind.i64 ((↑k : Int) + (1 : Int))] (by kernel_rfl) (by kernel_rfl) (by kernel_rfl) ⟨(by simp; omega), (by omega), (by omega), (by simp; done), inR64 (by omega) (by omega)⟩ ?_
    exact Wp.lpK (by kernel_rfl) (again _ (k + 1) (by assumption) (by omega) (Ent.of [] (by kernel_rfl) (by kernel_rfl) (by kernel_rfl) trivial))
  · obtain rfl : k = v.names.length := by omega
    clear again
    refine Wp.go (mx := true) (fun _ => mixed) [] 100 [false] [decide ((v.names.length : Int) < (v.names.length : Int)) = false] (by kernel_rfl) (by kernel_rfl) (by kernel_rfl) (show decide ((v.names.length : Int) < (v.names.length : Int)) = false from (by simp)) ?_
    refine Wp.loopK (by kernel_rfl) (fun (k : Nat) => ⟨[(2, TV.v (V1.c (Cell.ptr 0 0))), (3, TV.v (V1.c (Cell.ptr 16 0))), (6, TV.v (V1.c (Cell.int .i64 (k : Int))))], [(0, Blk.box 31 (encJ v)), (16, Blk.box 31 (encJ v))], 1024⟩) (fun k => k ≤ v.kids.length) (fun k => v.kids.length - k) 0 (Ent.of [] (by kernel_rfl) (by kernel_rfl) (by kernel_rfl) trivial) (Nat.zero_le _) ?_
    intro k L' hk2 again
    rcases Nat.lt_or_ge k v.kids.length with hlt | hge2
    · have e1 := kid_den hlt
      have c := ih (v.kids.getD k .nil) (by simp [List.getD, hlt])
      refine Wp.go (mx := true) (fun _ => mixed) [(11, {cs := [(10, pc c)], fm := [(4, .agg (encJ (v.kids.getD k .nil))), (9, .agg (encJ (v.kids.getD k .nil)))]})] 100 [true, false] [decide ((↑k : Int) < (↑v.kids.length : Int)) = true, (0 : Int) ≤ (↑k : Int) ∧ (↑k : Int) < (↑v.kids.length : Int), EqvD (V1.agg [kidC v.kids k (0 : Nat), kidC v.kids k ((0 : Nat) + (1 : Nat)), kidC v.kids k ((0 : Nat) + (1 : Nat) + (1 : Nat)), kidC v.kids k ((0 : Nat) + (1 : Nat) + (1 : Nat) + (1 : Nat)), kidC v.kids k ((0 : Nat) + (1 : Nat) + (1 : Nat) + (1 : Nat) + (1 : Nat)), kidC v.kids k ((0 : Nat) + (1 : Nat) + (1 : Nat) + (1 : Nat) + (1 : Nat) + (1 : Nat))]) (V1.agg (encJ (v.kids.getD k JV.nil))), (0 : Int) ≤ (↑k : Int) ∧ (↑k : Int) < (↑v.kids.length : Int), EqvD (V1.agg [kidC v.kids k (0 : Nat), kidC v.kids k ((0 : Nat) + (1 : Nat)), kidC v.kids k ((0 : Nat) + (1 : Nat) + (1 : Nat)), kidC v.kids k ((0 : Nat) + (1 : Nat) + (1 : Nat) + (1 : Nat)), kidC v.kids k ((0 : Nat) + (1 : Nat) + (1 : Nat) + (1 : Nat) + (1 : Nat)), kidC v.kids k ((0 : Nat) + (1 : Nat) + (1 : Nat) + (1 : Nat) + (1 : Nat) + (1 : Nat))]) (V1.agg (encJ (v.kids.getD k JV.nil))), (!true) = false, inR IntKind.i64 ((↑k : Int) + (1 : Int))] (by kernel_rfl) (by kernel_rfl) (by kernel_rfl) ⟨(by simp; omega), (by omega), (by assumption), (by omega), (by assumption), rfl, inR64 (by omega) (by omega)⟩ ?_
      exact Wp.lpK (by kernel_rfl) (again _ (k + 1) (by assumption) (by omega) (Ent.of [] (by kernel_rfl) (by kernel_rfl) (by kernel_rfl) trivial))
    · obtain rfl : k = v.kids.length := by omega
      refine Wp.go (mx := true) (fun _ => mixed) [] 100 [false] [decide ((↑v.kids.length : Int) < (↑v.kids.length : Int)) = false] (by kernel_rfl) (by kernel_rfl) (by kernel_rfl) (show decide ((↑v.kids.length : Int) < (↑v.kids.length : Int)) = false from (by simp; done)) ?_
      refine Wp.ret' (by kernel_rfl) ?_
      exact FinQ.pure (rs' := [V1.c (Cell.bool true)]) (by kernel_rfl) rfl (by kernel_rfl)
end Go.Proofs.Tw
end

section
open Go Go.Sv
namespace Go.Proofs.Tw
attribute [local irreducible] Wp FinQ resV Ent Pur Go.Sv.Fn Sat0
set_option maxRecDepth 100000
set_option maxHeartbeats 4000000
variable {G : Nat → Option (List Cell)}

/-! the mark of a nonce -/
def encN (k : Int) : List Cell := [.int .i64 2, .int .i64 k, .str [], .nilsl]
theorem N_ok (k : Int) : Pur Tryz.prog G 65 [.c (.int .i64 k)] [.agg (encN k)] := by
  refine Pur.of Tryz.func65 (by kernel_rfl) (by kernel_rfl) (by kernel_rfl) ?_
  refine Wp.go (mx := true) (fun _ => mixed) [] 100 [] [] (by kernel_rfl) (by kernel_rfl) (by kernel_rfl) trivial ?_
  refine Wp.ret' (by kernel_rfl) ?_
  exact FinQ.pure (rs' := [V1.agg [Cell.int .i64 (2 : Int), Cell.int .i64 k, Cell.str [], Cell.nilsl]]) (by kernel_rfl) rfl (by kernel_rfl)
theorem kids2_ok : Pur Tryz.prog G 237 [.c (.int .i64 2)] [.c (.int .i64 0)] := by
  refine Pur.of Tryz.func237 (by kernel_rfl) (by kernel_rfl) (by kernel_rfl) ?_
  refine Wp.go (mx := true) (fun _ => mixed) [] 100 [false, true] [((2 : Int) == (1 : Int)) = false, ((2 : Int) == (2 : Int)) = true] (by kernel_rfl) (by kernel_rfl) (by kernel_rfl) ⟨rfl, rfl⟩ ?_
  refine Wp.ret' (by kernel_rfl) ?_
  exact FinQ.pure (rs' := [V1.c (Cell.int .i64 (0 : Int))]) (by kernel_rfl) rfl (by kernel_rfl)
theorem walkN_ok (k : Int) (h0 : 0 ≤ k) (h1 : k ≤ 1073741824) : Pur Tryz.prog G 203 [.agg (encN k), .c (.int .i64 1), .c (.int .i64 64)] [.c (.int .i64 63)] := by
  refine Pur.of Tryz.func203 (by kernel_rfl) (by kernel_rfl) (by kernel_rfl) ?_
  have a1 : decide (k < 0) = false := by simp; omega
  have a2 : decide (k > 1073741824) = false := by simp; omega
  refine Wp.go (mx := true) (fun _ => mixed) [(1, {cs := [(9, pc kids2_ok)]})] 100 [false] [(bif bif bif bif bif bif bif decide ((64 : Int) < (1 : Int)) then true else decide ((1 : Int) > (16 : Int)) then true else (0 : Int) != (0 : Int) then true else bif (2 : Int) != (1 : Int) then !([] : List UInt8) == [] else false then true else decide ((↑([] : List UInt8).length : Int) > (1024 : Int)) then true else bif (2 : Int) != (2 : Int) then k != (0 : Int) else false then true else decide (k < (0 : Int)) then true else decide (k > (1073741824 : Int))) = false, inR IntKind.i64 ((64 : Int) - (1 : Int))] (by kernel_rfl) (by kernel_rfl) (by kernel_rfl) ⟨(by simp; omega), inR64 (by omega) (by omega)⟩ ?_
  refine Wp.loopK (by kernel_rfl) (fun (_ : Nat) => ⟨[(1, TV.v (V1.c (Cell.int .i64 1))), (2, TV.v (V1.c (Cell.int .i64 ((64 : Int) - 1)))), (3, TV.v (V1.c (Cell.ptr 0 0))), (7, TV.v (V1.c (Cell.int .i64 0)))], [(0, Blk.box 117 (encN k))], 912⟩) (fun _ => True) (fun k => k) 0 (Ent.of [] (by kernel_rfl) (by kernel_rfl) (by kernel_rfl) trivial) trivial ?_
  intro _ L _ again
  refine Wp.go (mx := true) (fun _ => mixed) [] 100 [false] [(bif decide ((0 : Int) < (0 : Int)) then decide ((64 : Int) - (1 : Int) ≥ (0 : Int)) else false) = false] (by kernel_rfl) (by kernel_rfl) (by kernel_rfl) rfl ?_
  refine Wp.ret' (by kernel_rfl) ?_
  exact FinQ.pure (rs' := [V1.c (Cell.int .i64 ((64 : Int) - (1 : Int)))]) (by kernel_rfl) rfl (by kernel_rfl)
theorem MayN_ok (k : Int) (h0 : 0 ≤ k) (h1 : k ≤ 1073741824) : Pur Tryz.prog G 158 [.agg (encN k)] [.c (.bool true)] := by
  refine Pur.of Tryz.func158 (by kernel_rfl) (by kernel_rfl) (by kernel_rfl) ?_
  have c := walkN_ok (G := G) k h0 h1
  refine Wp.go (mx := true) (fun _ => mixed) [(1, {cs := [(1, pc c)]})] 100 [] [] (by kernel_rfl) (by kernel_rfl) (by kernel_rfl) trivial ?_
  refine Wp.ret' (by kernel_rfl) ?_
  exact FinQ.pure (rs' := [V1.c (Cell.bool (decide ((63 : Int) ≥ (0 : Int))))]) (by kernel_rfl) rfl (by kernel_rfl)
def byteN (k : Int) (j : Nat) : UInt8 := UInt8.ofNat (IntKind.u8.wrap (k.fdiv (2 ^ (8 * (3 - j))))).toNat
theorem byteN_eq (k : Int) (j : Nat) : IntKind.u8.wrap (k.fdiv (2 ^ (8 * (3 - j)))) = ((byteN k j).toNat : Int) := by
  unfold byteN
  generalize k.fdiv (2 ^ (8 * (3 - j))) = x
  have h : 0 ≤ IntKind.u8.wrap x ∧ IntKind.u8.wrap x < 256 := by simp [IntKind.wrap, IntKind.bits, IntKind.signed]; omega
  obtain ⟨y, hy⟩ := Int.eq_ofNat_of_zero_le h.1
  rw [hy] at h ⊢
  simp only [Int.toNat_natCast]
  have : (UInt8.ofNat y).toNat = y := by simp; omega
  rw [this]
def num4 (k : Int) : List UInt8 := [byteN k 0, byteN k 1, byteN k 2, byteN k 3]
def numInv (k : Int) (x : Nat × Nat × List UInt8) : St := match x.1 with
  | 0 => ⟨[(0, TV.v (V1.c (Cell.row 1 0 0 x.2.1))), (1, TV.v (V1.c (Cell.int .i64 k))), (7, TV.v (V1.c (Cell.int .i64 (3 - (x.1 : Int)))))], [(0, Blk.row 5 1 x.2.1 (bytesF x.2.2))], 65⟩
  | _ + 1 => ⟨[(0, TV.v (V1.c (Cell.row 1 49 0 x.2.1))), (1, TV.v (V1.c (Cell.int .i64 k))), (7, TV.v (V1.c (Cell.int .i64 (3 - (x.1 : Int)))))], [(49, Blk.row 5 1 x.2.1 (bytesF x.2.2))], 65⟩
theorem num_ok (n : Nat) (l : List UInt8) (hn : n = l.length) (hm : n ≤ 1000) (k : Int) : FnB Tryz.prog G 204 [.row 5 1 n (bytesF l)] [.c (.row 1 0 0 n), .c (.int .i64 k), .c (.int .i64 4)] [.c (.row 1 1 0 (n + 1 + 1 + 1 + 1))] [(1, .row 5 1 (n + 1 + 1 + 1 + 1) (bytesF ((((l ++ [byteN k 0]) ++ [byteN k 1]) ++ [byteN k 2]) ++ [byteN k 3])))] := by
  refine Fn.of' Tryz.func204 (by kernel_rfl) (by kernel_rfl) (by kernel_rfl) (by kernel_rfl) trivial ?_
  refine Wp.go (mx := true) (fun _ => mixed) [] 100 [] [inR .i64 ((4 : Int) - (1 : Int))] (by kernel_rfl) (by kernel_rfl) (by kernel_rfl) (inR64 (by decide) (by decide)) ?_
  refine Wp.loopK (by kernel_rfl) (numInv k) (fun x => x = (0, n, l) ∨ x = (1, n + 1, (l ++ [byteN k 0])) ∨ x = (2, n + 1 + 1, ((l ++ [byteN k 0]) ++ [byteN k 1])) ∨ x = (3, n + 1 + 1 + 1, (((l ++ [byteN k 0]) ++ [byteN k 1]) ++ [byteN k 2])) ∨ x = (4, n + 1 + 1 + 1 + 1, ((((l ++ [byteN k 0]) ++ [byteN k 1]) ++ [byteN k 2]) ++ [byteN k 3]))) (fun x => 4 - x.1) (0, n, l) (Ent.of [] (by kernel_rfl) (by kernel_rfl) (by kernel_rfl) trivial) (Or.inl rfl) ?_
  intro x L hx again
  rcases hx with rfl | rfl | rfl | rfl | rfl
  · have hl : n = (l).length := by simp [hn]
    have e1 : BlkEqv (.row 5 1 (n + 1) (catF (n) (bytesF l) (fun i j => nthD [.int .u8 (IntKind.u8.wrap (k.fdiv (2 ^ (8 * (3 - 0)))))] ((0 + i) * 1 + j)))) (.row 5 1 (n + 1) (bytesF (l ++ [byteN k 0]))) := by
      rw [byteN_eq k 0]; exact bytes_app l [byteN k 0] hl
    have hnx : ((1, n + 1, (l ++ [byteN k 0])) : Nat × Nat × List UInt8) = (1, n + 1, (l ++ [byteN k 0])) := rfl
    refine Wp.go (mx := true) (fun _ => mixed) [(4, {bs := [(7, Blk.row 5 1 (n + 1) (bytesF (l ++ [byteN k 0])))]})] 100 [true] [decide ((3 : Int) - (↑(0 : Nat) : Int) ≥ (0 : Int)) = true, inR IntKind.i64 ((8 : Int) * ((3 : Int) - (↑(0 : Nat) : Int))), (0 : Int) ≤ (8 : Int) * ((3 : Int) - (↑(0 : Nat) : Int)), (n + (1 : Nat)) * (1 : Nat) ≤ (140737488355328 : Nat), BlkEqv (Blk.row 5 (1 : Nat) (n + (1 : Nat)) (catF n (bytesF l) fun (i j : Nat) => nthD [Cell.int .u8 (IntKind.u8.wrap (k.fdiv ((2 : Int) ^ (24 : Nat))))] (((0 : Nat) + i) * (1 : Nat) + j))) (Blk.row 5 (1 : Nat) (n + (1 : Nat)) (bytesF (l ++ [byteN k (0 : Nat)]))), n ≤ n, (0 : Nat) + (1 : Nat) ≤ (1 : Nat), inR IntKind.i64 ((3 : Int) - (↑(0 : Nat) : Int) - (1 : Int))] (by kernel_rfl) (by kernel_rfl) (by kernel_rfl) ⟨rfl, inR64 (by omega) (by omega), (by omega), (by omega), (by assumption), (by omega), (by omega), inR64 (by omega) (by omega)⟩ ?_
    exact Wp.lpK (by kernel_rfl) (again _ (1, n + 1, (l ++ [byteN k 0])) (by simp; done) (by omega) (Ent.of [(49, 209)] (by kernel_rfl) (by kernel_rfl) (by kernel_rfl) trivial))
  · have hl : n + 1 = ((l ++ [byteN k 0])).length := by simp [hn]
    have e1 : BlkEqv (.row 5 1 (n + 1 + 1) (catF (n + 1) (bytesF (l ++ [byteN k 0])) (fun i j => nthD [.int .u8 (IntKind.u8.wrap (k.fdiv (2 ^ (8 * (3 - 1)))))] ((0 + i) * 1 + j)))) (.row 5 1 (n + 1 + 1) (bytesF ((l ++ [byteN k 0]) ++ [byteN k 1]))) := by
      rw [byteN_eq k 1]; exact bytes_app (l ++ [byteN k 0]) [byteN k 1] hl
    have hnx : ((2, n + 1 + 1, ((l ++ [byteN k 0]) ++ [byteN k 1])) : Nat × Nat × List UInt8) = (2, n + 1 + 1, ((l ++ [byteN k 0]) ++ [byteN k 1])) := rfl
    refine Wp.go (mx := true) (fun _ => mixed) [(4, {bs := [(7, Blk.row 5 1 (n + 1 + 1) (bytesF ((l ++ [byteN k 0]) ++ [byteN k 1])))]})] 100 [true] [decide ((3 : Int) - (↑(1 : Nat) : Int) ≥ (0 : Int)) = true, inR IntKind.i64 ((8 : Int) * ((3 : Int) - (↑(1 : Nat) : Int))), (0 : Int) ≤ (8 : Int) * ((3 : Int) - (↑(1 : Nat) : Int)), (n + (1 : Nat) + (1 : Nat)) * (1 : Nat) ≤ (140737488355328 : Nat), BlkEqv (Blk.row 5 (1 : Nat) (n + (1 : Nat) + (1 : Nat)) (catF (n + (1 : Nat)) (bytesF (l ++ [byteN k (0 : Nat)])) fun (i j : Nat) => nthD [Cell.int .u8 (IntKind.u8.wrap (k.fdiv ((2 : Int) ^ (16 : Nat))))] (((0 : Nat) + i) * (1 : Nat) + j))) (Blk.row 5 (1 : Nat) (n + (1 : Nat) + (1 : Nat)) (bytesF (l ++ [byteN k (0 : Nat)] ++ [byteN k (1 : Nat)]))), n + (1 : Nat) ≤ n + (1 : Nat), (0 : Nat) + (1 : Nat) ≤ (1 : Nat), inR IntKind.i64 ((3 : Int) - (↑(1 : Nat) : Int) - (1 : Int))] (by kernel_rfl) (by kernel_rfl) (by kernel_rfl) ⟨rfl, inR64 (by omega) (by omega), (by omega), (by omega), (by assumption), (by omega), (by omega), inR64 (by omega) (by omega)⟩ ?_
    exact Wp.lpK (by kernel_rfl) (again _ (2, n + 1 + 1, ((l ++ [byteN k 0]) ++ [byteN k 1])) (by simp; done) (by omega) (Ent.of [(49, 209)] (by kernel_rfl) (by kernel_rfl) (by kernel_rfl) trivial))
  · have hl : n + 1 + 1 = (((l ++ [byteN k 0]) ++ [byteN k 1])).length := by simp [hn]
    have e1 : BlkEqv (.row 5 1 (n + 1 + 1 + 1) (catF (n + 1 + 1) (bytesF ((l ++ [byteN k 0]) ++ [byteN k 1])) (fun i j => nthD [.int .u8 (IntKind.u8.wrap (k.fdiv (2 ^ (8 * (3 - 2)))))] ((0 + i) * 1 + j)))) (.row 5 1 (n + 1 + 1 + 1) (bytesF (((l ++ [byteN k 0]) ++ [byteN k 1]) ++ [byteN k 2]))) := by
      rw [byteN_eq k 2]; exact bytes_app ((l ++ [byteN k 0]) ++ [byteN k 1]) [byteN k 2] hl
    have hnx : ((3, n + 1 + 1 + 1, (((l ++ [byteN k 0]) ++ [byteN k 1]) ++ [byteN k 2])) : Nat × Nat × List UInt8) = (3, n + 1 + 1 + 1, (((l ++ [byteN k 0]) ++ [byteN k 1]) ++ [byteN k 2])) := rfl
    refine Wp.go (mx := true) (fun _ => mixed) [(4, {bs := [(7, Blk.row 5 1 (n + 1 + 1 + 1) (bytesF (((l ++ [byteN k 0]) ++ [byteN k 1]) ++ [byteN k 2])))]})] 100 [true] [decide ((3 : Int) - (↑(2 : Nat) : Int) ≥ (0 : Int)) = true, inR IntKind.i64 ((8 : Int) * ((3 : Int) - (↑(2 : Nat) : Int))), (0 : Int) ≤ (8 : Int) * ((3 : Int) - (↑(2 : Nat) : Int)), (n + (1 : Nat) + (1 : Nat) + (1 : Nat)) * (1 : Nat) ≤ (140737488355328 : Nat), BlkEqv (Blk.row 5 (1 : Nat) (n + (1 : Nat) + (1 : Nat) + (1 : Nat)) (catF (n + (1 : Nat) + (1 : Nat)) (bytesF (l ++ [byteN k (0 : Nat)] ++ [byteN k (1 : Nat)])) fun (i j : Nat) => nthD [Cell.int .u8 (IntKind.u8.wrap (k.fdiv ((2 : Int) ^ (8 : Nat))))] (((0 : Nat) + i) * (1 : Nat) + j))) (Blk.row 5 (1 : Nat) (n + (1 : Nat) + (1 : Nat) + (1 : Nat)) (bytesF (l ++ [byteN k (0 : Nat)] ++ [byteN k (1 : Nat)] ++ [byteN k (2 : Nat)]))), n + (1 : Nat) + (1 : Nat) ≤ n + (1 : Nat) + (1 : Nat), (0 : Nat) + (1 : Nat) ≤ (1 : Nat), inR IntKind.i64 ((3 : Int) - (↑(2 : Nat) : Int) - (1 : Int))] (by kernel_rfl) (by kernel_rfl) (by kernel_rfl) ⟨rfl, inR64 (by omega) (by omega), (by omega), (by omega), (by assumption), (by omega), (by omega), inR64 (by omega) (by omega)⟩ ?_
    exact Wp.lpK (by kernel_rfl) (again _ (3, n + 1 + 1 + 1, (((l ++ [byteN k 0]) ++ [byteN k 1]) ++ [byteN k 2])) (by simp; done) (by omega) (Ent.of [(49, 209)] (by kernel_rfl) (by kernel_rfl) (by kernel_rfl) trivial))
  · have hl : n + 1 + 1 + 1 = ((((l ++ [byteN k 0]) ++ [byteN k 1]) ++ [byteN k 2])).length := by simp [hn]
    have e1 : BlkEqv (.row 5 1 (n + 1 + 1 + 1 + 1) (catF (n + 1 + 1 + 1) (bytesF (((l ++ [byteN k 0]) ++ [byteN k 1]) ++ [byteN k 2])) (fun i j => nthD [.int .u8 (IntKind.u8.wrap (k.fdiv (2 ^ (8 * (3 - 3)))))] ((0 + i) * 1 + j)))) (.row 5 1 (n + 1 + 1 + 1 + 1) (bytesF ((((l ++ [byteN k 0]) ++ [byteN k 1]) ++ [byteN k 2]) ++ [byteN k 3]))) := by
      rw [byteN_eq k 3]; exact bytes_app (((l ++ [byteN k 0]) ++ [byteN k 1]) ++ [byteN k 2]) [byteN k 3] hl
    have hnx : ((4, n + 1 + 1 + 1 + 1, ((((l ++ [byteN k 0]) ++ [byteN k 1]) ++ [byteN k 2]) ++ [byteN k 3])) : Nat × Nat × List UInt8) = (4, n + 1 + 1 + 1 + 1, ((((l ++ [byteN k 0]) ++ [byteN k 1]) ++ [byteN k 2]) ++ [byteN k 3])) := rfl
    refine Wp.go (mx := true) (fun _ => mixed) [(4, {bs := [(7, Blk.row 5 1 (n + 1 + 1 + 1 + 1) (bytesF ((((l ++ [byteN k 0]) ++ [byteN k 1]) ++ [byteN k 2]) ++ [byteN k 3])))]})] 100 [true] [decide ((3 : Int) - (↑(3 : Nat) : Int) ≥ (0 : Int)) = true, inR IntKind.i64 ((8 : Int) * ((3 : Int) - (↑(3 : Nat) : Int))), (0 : Int) ≤ (8 : Int) * ((3 : Int) - (↑(3 : Nat) : Int)), (n + (1 : Nat) + (1 : Nat) + (1 : Nat) + (1 : Nat)) * (1 : Nat) ≤ (140737488355328 : Nat), BlkEqv (Blk.row 5 (1 : Nat) (n + (1 : Nat) + (1 : Nat) + (1 : Nat) + (1 : Nat)) (catF (n + (1 : Nat) + (1 : Nat) + (1 : Nat)) (bytesF (l ++ [byteN k (0 : Nat)] ++ [byteN k (1 : Nat)] ++ [byteN k (2 : Nat)])) fun (i j : Nat) => nthD [Cell.int .u8 (IntKind.u8.wrap (k.fdiv ((2 : Int) ^ (0 : Nat))))] (((0 : Nat) + i) * (1 : Nat) + j))) (Blk.row 5 (1 : Nat) (n + (1 : Nat) + (1 : Nat) + (1 : Nat) + (1 : Nat)) (bytesF (l ++ [byteN k (0 : Nat)] ++ [byteN k (1 : Nat)] ++ [byteN k (2 : Nat)] ++ [byteN k (3 : Nat)]))), n + (1 : Nat) + (1 : Nat) + (1 : Nat) ≤ n + (1 : Nat) + (1 : Nat) + (1 : Nat), (0 : Nat) + (1 : Nat) ≤ (1 : Nat), inR IntKind.i64 ((3 : Int) - (↑(3 : Nat) : Int) - (1 : Int))] (by kernel_rfl) (by kernel_rfl) (by kernel_rfl) ⟨rfl, inR64 (by omega) (by omega), (by omega), (by omega), (by assumption), (by omega), (by omega), inR64 (by omega) (by omega)⟩ ?_
    exact Wp.lpK (by kernel_rfl) (again _ (4, n + 1 + 1 + 1 + 1, ((((l ++ [byteN k 0]) ++ [byteN k 1]) ++ [byteN k 2]) ++ [byteN k 3])) (by simp; done) (by omega) (Ent.of [(49, 209)] (by kernel_rfl) (by kernel_rfl) (by kernel_rfl) trivial))
  · refine Wp.go (mx := true) (fun _ => mixed) [] 100 [false] [decide ((3 : Int) - (↑(4 : Nat) : Int) ≥ (0 : Int)) = false] (by kernel_rfl) (by kernel_rfl) (by kernel_rfl) rfl ?_
    refine Wp.ret' (by kernel_rfl) ?_
    exact FinQ.blk [49] (by kernel_rfl) (by kernel_rfl) (by kernel_rfl) (by kernel_rfl) (by kernel_rfl) trivial
end Go.Proofs.Tw
end

section
open Go Go.Sv
namespace Go.Proofs.Tw
attribute [local irreducible] Wp FinQ resV Ent Pur Go.Sv.Fn Sat0
set_option maxRecDepth 100000
set_option maxHeartbeats 4000000
variable {G : Nat → Option (List Cell)}

def keyB (k : Int) : List UInt8 := ((([2] ++ [byteN k 0]) ++ [byteN k 1]) ++ [byteN k 2]) ++ [byteN k 3]
theorem putN_ok (k : Int) : FnB Tryz.prog G 159 [] [.c .nilsl, .agg (encN k)] [.c (.row 1 0 0 5)] [(0, .row 5 1 5 (bytesF (keyB k)))] := by
  refine Fn.of' Tryz.func159 (by kernel_rfl) (by kernel_rfl) (by kernel_rfl) (by kernel_rfl) trivial ?_
  have e1 : BlkEqv (.row 5 1 1 (catF 0 (fun _ _ => .nilif) (fun i j => nthD [.int .u8 (IntKind.u8.wrap 2)] ((0 + i) * 1 + j)))) (.row 5 1 1 (bytesF [2])) := by
    refine BlkEqv.row_ext rfl fun i hi j hj => ?_
    obtain ⟨rfl, rfl⟩ : i = 0 ∧ j = 0 := by omega
    rfl
  have c : FnB Tryz.prog G 204 [.row 5 1 1 (bytesF [2])] [.c (.row 1 0 0 1), .c (.int .i64 k), .c (.int .i64 4)] [.c (.row 1 1 0 5)] [(1, .row 5 1 5 (bytesF (keyB k)))] := num_ok 1 [2] rfl (by decide) k
  refine Wp.go (mx := true) (fun _ => mixed) [(1, {bs := [(5, Blk.row 5 1 1 (bytesF [2]))]}), (6, {cs := [(3, cb [112] c)]})] 100 [false, true] [(1 : Nat) ≤ (140737488355328 : Nat), BlkEqv (Blk.row 5 (1 : Nat) (1 : Nat) (catF (0 : Nat) (fun (x x_1 : Nat) => Cell.nilif) fun (i j : Nat) => nthD [Cell.int .u8 (IntKind.u8.wrap (2 : Int))] (((0 : Nat) + i) * (1 : Nat) + j))) (Blk.row 5 (1 : Nat) (1 : Nat) (bytesF [(2 : UInt8)])), (0 : Nat) + (1 : Nat) ≤ (1 : Nat), ((2 : Int) == (1 : Int)) = false, ((2 : Int) == (2 : Int)) = true] (by kernel_rfl) (by kernel_rfl) (by kernel_rfl) ⟨(by omega), (by assumption), (by omega), rfl, rfl⟩ ?_
  refine Wp.loopK (by kernel_rfl) (fun (_ : Nat) => ⟨[(0, .v (.c (.row 1 288 0 5))), (3, .v (.c (.ptr 0 0))), (5, .v (.c (.int .i64 0)))], [(0, .box 117 (encN k)), (288, .row 5 1 5 (bytesF (keyB k)))], 336⟩) (fun _ => True) (fun k => k) 0 (Ent.of [] (by kernel_rfl) (by kernel_rfl) (by kernel_rfl) trivial) trivial ?_
  intro _ L _ again
  refine Wp.go (mx := true) (fun _ => mixed) [] 100 [false] [decide ((0 : Int) < (0 : Int)) = false] (by kernel_rfl) (by kernel_rfl) (by kernel_rfl) rfl ?_
  refine Wp.ret' (by kernel_rfl) ?_
  exact FinQ.blk [288] (by kernel_rfl) (by kernel_rfl) (by kernel_rfl) (by kernel_rfl) (by kernel_rfl) trivial
end Go.Proofs.Tw
end
