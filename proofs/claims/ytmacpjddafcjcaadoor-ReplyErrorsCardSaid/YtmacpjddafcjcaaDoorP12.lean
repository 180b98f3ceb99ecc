import Derived.Test.YtmacpjddafcjcaaDoorQ12
set_option linter.all false
open Go Go.Sv
namespace Go.Proofs.Tw
attribute [local irreducible] Wp FinQ resV Ent Pur Go.Sv.Fn Sat0
set_option maxRecDepth 100000
variable {G : Nat → Option (List Cell)}

theorem dec_len (m : Nat) : (Lib.decDigits m).length ≤ m + 1 := by
  induction m using Nat.strongRecOn with
  | _ m ih =>
  rw [Lib.decDigits]
  split
  · simp
  · rename_i h
    have := ih (m / 10) (by omega)
    simp only [List.length_append, List.length_cons, List.length_nil]; omega
theorem dec_len2 (m : Nat) (h : 10 ≤ m * 10) : (Lib.decDigits m).length ≤ m := by
  rw [Lib.decDigits]
  split
  · simp; omega
  · have := dec_len (m / 10)
    simp only [List.length_append, List.length_cons, List.length_nil]; omega
theorem dig_nat (m : Nat) : m < 9223372036854775808 → Pur Tryd.prog G 35 [.c (.int .i64 (m : Int))] [.c (.str (Lib.decDigits m))] := by
  induction m using Nat.strongRecOn with
  | _ m ih =>
  intro hm
  refine Pur.of Tryd.func35 (by kernel_rfl) (by kernel_rfl) (by kernel_rfl) ?_
  refine Wp.go (mx := true) (fun _ => mixed) [] 100 [] [] (by kernel_rfl) (by kernel_rfl) (by kernel_rfl) trivial ?_
  refine Wp.cond' (by kernel_rfl) (decide ((m : Int) < 0)) (by kernel_rfl) (fun h => ?_) (fun h => ?_)
  · simp at h
    omega
  refine Wp.go (mx := true) (fun _ => mixed) [] 100 [] [] (by kernel_rfl) (by kernel_rfl) (by kernel_rfl) trivial ?_
  refine Wp.cond' (by kernel_rfl) (decide ((m : Int) < 10)) (by kernel_rfl) (fun h => ?_) (fun h => ?_)
  · have h10 : m < 10 := by simp at h; omega
    have e1 : IntKind.u8.wrap (48 + (m : Int)) = ((UInt8.ofNat (48 + m)).toNat : Int) := by rw [wrap8 (by omega) (by omega), UInt8.toNat_ofNat', Nat.mod_eq_of_lt (by omega)]; omega
    have e2 : byteL (rowB [UInt8.ofNat (48 + m)]) 0 1 = Lib.decDigits m := by rw [byteL_B (n := 1) [UInt8.ofNat (48 + m)] rfl, Lib.decDigits_one h10]
    refine Wp.go (mx := true) (fun _ => mixed) [(4, {fm := [(2, .c (.int .u8 ((UInt8.ofNat (48 + m)).toNat : Int))), (4, .c (.str (Lib.decDigits m)))]})] 100 [] [inR .i64 (48 + (m : Int)), EqvI (.c (.int .u8 (IntKind.u8.wrap (48 + (m : Int))))) (.c (.int .u8 ((UInt8.ofNat (48 + m)).toNat : Int))), EqvD (.c (.int .u8 (IntKind.u8.wrap (48 + (m : Int))))) (.c (.int .u8 ((UInt8.ofNat (48 + m)).toNat : Int))), EqvI (.c (.str (byteL (rowB [UInt8.ofNat (48 + m)]) 0 1))) (.c (.str (Lib.decDigits m))), EqvD (.c (.str (byteL (rowB [UInt8.ofNat (48 + m)]) 0 1))) (.c (.str (Lib.decDigits m))), 0 + 1 ≤ 1, areBytes (rowB [UInt8.ofNat (48 + m)]) 0 1] (by kernel_rfl) (by kernel_rfl) (by kernel_rfl) ⟨inR64 (by omega) (by omega), fun _ _ => trivial, by rw [e1]; exact fun _ _ _ h => h, fun _ _ => trivial, by rw [e2]; exact fun _ _ _ h => h, Nat.le_refl _, areBytes_B _ rfl⟩ ?_
    refine Wp.ret' (by kernel_rfl) ?_
    exact FinQ.pure (rs' := [.c (.str (Lib.decDigits m))]) (by kernel_rfl) rfl (by kernel_rfl)
  · have h10 : ¬ m < 10 := by simp at h; omega
    have hd : Lib.decDigits m = Lib.decDigits (m / 10) ++ [UInt8.ofNat (48 + m % 10)] := by conv => lhs; rw [Lib.decDigits, dif_neg h10]
    have hq : IntKind.i64.wrap ((m : Int).tdiv 10) = ((m / 10 : Nat) : Int) := by
      rw [Int.tdiv_eq_ediv_of_nonneg (by omega), wrap64 (n := (m : Int) / 10) (by omega) (by omega)]; omega
    have hr : (m : Int).tmod 10 = ((m % 10 : Nat) : Int) := by rw [Int.tmod_eq_emod_of_nonneg (by omega)]; omega
    have e1 : IntKind.u8.wrap (48 + (m : Int).tmod 10) = ((UInt8.ofNat (48 + m % 10)).toNat : Int) := by rw [hr, wrap8 (n := 48 + ((m % 10 : Nat) : Int)) (by omega) (by omega), UInt8.toNat_ofNat', Nat.mod_eq_of_lt (a := 48 + m % 10) (b := 2 ^ 8) (by omega)]; omega
    have e2 : byteL (rowB [UInt8.ofNat (48 + m % 10)]) 0 1 = [UInt8.ofNat (48 + m % 10)] := byteL_B _ rfl
    have hlen : (Lib.decDigits (m / 10)).length ≤ m / 10 + 1 := dec_len _
    have hle : (Lib.decDigits (m / 10)).length + 1 ≤ 9223372036854775807 := by omega
    refine Wp.go (mx := true) (fun _ => mixed) [(5, {fm := [(1, .c (.int .i64 ((m / 10 : Nat) : Int))), (6, .c (.int .u8 ((UInt8.ofNat (48 + m % 10)).toNat : Int))), (8, .c (.str [UInt8.ofNat (48 + m % 10)]))], cs := [(2, pc (ih (m / 10) (by omega) (by omega)))]})] 100 [] [EqvI (.c (.int .i64 (IntKind.i64.wrap ((m : Int).tdiv 10)))) (.c (.int .i64 ((m / 10 : Nat) : Int))), EqvD (.c (.int .i64 (IntKind.i64.wrap ((m : Int).tdiv 10)))) (.c (.int .i64 ((m / 10 : Nat) : Int))), (10 : Int) ≠ 0, (10 : Int) ≠ 0, inR .i64 (48 + (m : Int).tmod 10), EqvI (.c (.int .u8 (IntKind.u8.wrap (48 + (m : Int).tmod 10)))) (.c (.int .u8 ((UInt8.ofNat (48 + m % 10)).toNat : Int))), EqvD (.c (.int .u8 (IntKind.u8.wrap (48 + (m : Int).tmod 10)))) (.c (.int .u8 ((UInt8.ofNat (48 + m % 10)).toNat : Int))), EqvI (.c (.str (byteL (rowB [UInt8.ofNat (48 + m % 10)]) 0 1))) (.c (.str [UInt8.ofNat (48 + m % 10)])), EqvD (.c (.str (byteL (rowB [UInt8.ofNat (48 + m % 10)]) 0 1))) (.c (.str [UInt8.ofNat (48 + m % 10)])), 0 + 1 ≤ 1, areBytes (rowB [UInt8.ofNat (48 + m % 10)]) 0 1, (Lib.decDigits (m / 10)).length + 1 ≤ 9223372036854775807] (by kernel_rfl) (by kernel_rfl) (by kernel_rfl) ⟨fun _ _ => trivial, by rw [hq]; exact fun _ _ _ h => h, by decide, by decide, by rw [hr]; exact inR64 (by omega) (by omega), fun _ _ => trivial, by rw [e1]; exact fun _ _ _ h => h, fun _ _ => trivial, by rw [e2]; exact fun _ _ _ h => h, Nat.le_refl _, areBytes_B _ rfl, hle⟩ ?_
    refine Wp.ret' (by kernel_rfl) ?_
    exact FinQ.pure (rs' := [.c (.str (Lib.decDigits (m / 10) ++ [UInt8.ofNat (48 + m % 10)]))]) (by kernel_rfl) (by rw [hd]) (by kernel_rfl)

theorem digits_ok (n : Int) (h0 : -4611686018427387904 ≤ n) (h1 : n ≤ 4611686018427387904) : Pur Tryd.prog G 35 [.c (.int .i64 n)] [.c (.str (Lib.itoa n))] := by
  by_cases hn : n < 0
  · have hm := dig_nat (G := G) n.natAbs (by omega)
    rw [show ((n.natAbs : Nat) : Int) = 0 - n from by omega] at hm
    have hl := dec_len n.natAbs
    refine Pur.of Tryd.func35 (by kernel_rfl) (by kernel_rfl) (by kernel_rfl) ?_
    refine Wp.go (mx := true) (fun _ => mixed) [] 100 [] [] (by kernel_rfl) (by kernel_rfl) (by kernel_rfl) trivial ?_
    refine Wp.cond' (by kernel_rfl) (decide (n < 0)) (by kernel_rfl) (fun h => ?_) (fun h => ?_)
    · have hl2 : 1 + (Lib.decDigits n.natAbs).length ≤ 9223372036854775807 := by have := dec_len2 n.natAbs (by omega); omega
      refine Wp.go (mx := true) (fun _ => mixed) [(2, {cs := [(2, pc hm)]})] 100 [] [inR .i64 (0 - n), 1 + (Lib.decDigits n.natAbs).length ≤ 9223372036854775807] (by kernel_rfl) (by kernel_rfl) (by kernel_rfl) ⟨inR64 (by omega) (by omega), hl2⟩ ?_
      refine Wp.ret' (by kernel_rfl) ?_
      exact FinQ.pure (rs' := [.c (.str (45 :: Lib.decDigits n.natAbs))]) (by kernel_rfl) (by unfold Lib.itoa; rw [if_pos hn]) (by kernel_rfl)
    · simp at h; omega
  · have hm := dig_nat (G := G) n.toNat (by omega)
    rw [show ((n.toNat : Nat) : Int) = n from by omega] at hm
    rw [show Lib.itoa n = Lib.decDigits n.toNat from by unfold Lib.itoa; rw [if_neg hn]]
    exact hm

/-! printing, as the document does it -/
theorem join_snoc (l : List (List UInt8)) (x sep : List UInt8) : Lib.join (l ++ [x]) sep = if l = [] then x else Lib.join l sep ++ sep ++ x := by
  cases l with
  | nil => rw [if_pos rfl]; exact Lib.join_one x sep
  | cons y r => rw [if_neg (by simp), List.cons_append, Lib.join_cons, Lib.join_cons]; simp [Lib.joinTail]
def accT (v : JV) (k : Nat) : List UInt8 := Lib.join (parts v k) [44]
theorem acc_zero (v : JV) : accT v 0 = [] := rfl
theorem acc_succ (v : JV) (k : Nat) : accT v (k + 1) = if k = 0 then partAt v k else accT v k ++ [44] ++ partAt v k := by
  unfold accT
  rw [parts_succ, join_snoc]
  by_cases hk : k = 0
  · subst hk; rfl
  · rw [if_neg hk, if_neg (by intro e; have := congrArg List.length e; simp [parts] at this; exact hk this)]
theorem acc_le (v : JV) {k m : Nat} (h : k ≤ m) : (accT v k).length ≤ (accT v m).length := by
  induction h with
  | refl => exact Nat.le_refl _
  | step h ih =>
    rw [acc_succ]
    split
    · rename_i e; subst e; have : k = 0 := Nat.le_zero.1 h
      subst this; rw [acc_zero]; simp
    · simp only [List.length_append]; omega

def p12Inv (v : JV) (k : Nat) : St := ⟨[(1, .v (.c (.ptr 0 0))), (3, .v (.c (.str (accT v k)))), (4, .v (.c (.int .i64 (k : Int))))], [(0, .box 38 (encJ v))], 16⟩
theorem print12_ok {v : JV} (hf : Fit v) : Pur Tryd.prog G 28 [.agg (encJ v)] [.c (.str (printJ v))] := by
  induction hf with
  | mk h2 h6 h0 h1 hp h3 ih =>
  rename_i v
  rw [printJ_eq] at hp ⊢
  refine Pur.of Tryd.func28 (by kernel_rfl) (by kernel_rfl) (by kernel_rfl) ?_
  refine Wp.go (mx := true) (fun _ => mixed) [] 100 [] [] (by kernel_rfl) (by kernel_rfl) (by kernel_rfl) trivial ?_
  refine Wp.cond' (by kernel_rfl) (v.kind == 1) (by kernel_rfl) (fun h => ?_) (fun h => ?_)
  · refine Wp.go (mx := true) (fun _ => mixed) [] 100 [] [] (by kernel_rfl) (by kernel_rfl) (by kernel_rfl) trivial ?_
    refine Wp.ret' (by kernel_rfl) ?_
    exact FinQ.pure (rs' := [.c (.str [110, 117, 108, 108])]) (by kernel_rfl) (by rw [if_pos h]) (by kernel_rfl)
  rw [if_neg (by simp [h])] at hp
  have k1 := h
  refine Wp.go (mx := true) (fun _ => mixed) [] 100 [] [] (by kernel_rfl) (by kernel_rfl) (by kernel_rfl) trivial ?_
  refine Wp.cond' (by kernel_rfl) (v.kind == 2) (by kernel_rfl) (fun h => ?_) (fun h => ?_)
  · have k2 := h
    refine Wp.go (mx := true) (fun _ => mixed) [] 100 [] [] (by kernel_rfl) (by kernel_rfl) (by kernel_rfl) trivial ?_
    refine Wp.cond' (by kernel_rfl) (v.b) (by kernel_rfl) (fun h => ?_) (fun h => ?_)
    · refine Wp.go (mx := true) (fun _ => mixed) [] 100 [] [] (by kernel_rfl) (by kernel_rfl) (by kernel_rfl) trivial ?_
      refine Wp.ret' (by kernel_rfl) ?_
      exact FinQ.pure (rs' := [.c (.str [116, 114, 117, 101])]) (by kernel_rfl) (by rw [if_neg (by simp [k1]), if_pos k2, h]; rfl) (by kernel_rfl)
    · refine Wp.go (mx := true) (fun _ => mixed) [] 100 [] [] (by kernel_rfl) (by kernel_rfl) (by kernel_rfl) trivial ?_
      refine Wp.ret' (by kernel_rfl) ?_
      exact FinQ.pure (rs' := [.c (.str [102, 97, 108, 115, 101])]) (by kernel_rfl) (by rw [if_neg (by simp [k1]), if_pos k2, h]; rfl) (by kernel_rfl)
  rw [if_neg (by simp [h])] at hp
  have k2 := h
  refine Wp.go (mx := true) (fun _ => mixed) [] 100 [] [] (by kernel_rfl) (by kernel_rfl) (by kernel_rfl) trivial ?_
  refine Wp.cond' (by kernel_rfl) (v.kind == 3) (by kernel_rfl) (fun h => ?_) (fun h => ?_)
  · refine Wp.go (mx := true) (fun _ => mixed) [(9, {cs := [(2, pc (digits_ok v.n h0 h1))]})] 100 [] [] (by kernel_rfl) (by kernel_rfl) (by kernel_rfl) trivial ?_
    refine Wp.ret' (by kernel_rfl) ?_
    exact FinQ.pure (rs' := [.c (.str (Lib.itoa v.n))]) (by kernel_rfl) (by rw [if_neg (by simp [k1]), if_neg (by simp [k2]), if_pos h]) (by kernel_rfl)
  rw [if_neg (by simp [h])] at hp
  have k3 := h
  refine Wp.go (mx := true) (fun _ => mixed) [] 100 [] [] (by kernel_rfl) (by kernel_rfl) (by kernel_rfl) trivial ?_
  refine Wp.cond' (by kernel_rfl) (v.kind == 4) (by kernel_rfl) (fun h => ?_) (fun h => ?_)
  · rw [if_pos h] at hp
    refine Wp.go (mx := true) (fun _ => mixed) [(11, {cs := [(2, pc (quoted12_ok v.s hp))]})] 100 [] [] (by kernel_rfl) (by kernel_rfl) (by kernel_rfl) trivial ?_
    refine Wp.ret' (by kernel_rfl) ?_
    exact FinQ.pure (rs' := [.c (.str (quotedT v.s))]) (by kernel_rfl) (by rw [if_neg (by simp [k1]), if_neg (by simp [k2]), if_neg (by simp [k3]), if_pos h]) (by kernel_rfl)
  rw [if_neg (by simp [h])] at hp
  have k4 := h
  have hj : (accT v v.kids.length).length + 2 ≤ 140737488355328 := by
    unfold accT
    split at hp <;> simp only [List.length_append, List.length_cons, List.length_nil] at hp <;> omega
  refine Wp.go (mx := true) (fun _ => mixed) [] 100 [] [] (by kernel_rfl) (by kernel_rfl) (by kernel_rfl) trivial ?_
  refine Wp.loopK (by kernel_rfl) (p12Inv v) (fun k => k ≤ v.kids.length) (fun k => v.kids.length - k) 0 (Ent.of [] (by kernel_rfl) (by kernel_rfl) (by kernel_rfl) trivial) (Nat.zero_le _) ?_
  intro k L hk again
  refine Wp.go (mx := true) (fun _ => mixed) [] 100 [] [] (by kernel_rfl) (by kernel_rfl) (by kernel_rfl) trivial ?_
  refine Wp.cond' (by kernel_rfl) (decide ((k : Int) < (v.kids.length : Int))) (by kernel_rfl) (fun h => ?_) (fun h => ?_)
  · have hk' : k < v.kids.length := by simpa using h
    have hin : 0 ≤ (k : Int) ∧ (k : Int) < (v.kids.length : Int) := by omega
    have hm : v.kids.getD k .nil ∈ v.kids := by simp [List.getD, hk']
    have ha1 := acc_le v (show k + 1 ≤ v.kids.length from hk')
    have hacc := acc_succ v k
    -- what stands ahead of the element
    obtain ⟨pre, hpre⟩ : ∃ pre, pre = if k = 0 then accT v k else accT v k ++ [44] := ⟨_, rfl⟩
    have hs1 : accT v (k + 1) = pre ++ partAt v k := by
      rw [hacc, hpre]; split
      · rename_i e; subst e; rw [acc_zero]; rfl
      · rfl
    have hlen : pre.length + (partAt v k).length ≤ 140737488355326 := by rw [hs1, List.length_append] at ha1; omega
    rcases Nat.eq_zero_or_pos k with hk0 | hk0
    · have hdk : decide ((k : Int) > 0) = false := by simp; omega
      have hpe : pre = accT v k := by rw [hpre, if_pos hk0]
      rw [hpe] at hs1 hlen
      refine Wp.go (mx := true) (fun _ => mixed) [] 100 [false] [decide ((k : Int) > 0) = false] (by kernel_rfl) (by kernel_rfl) (by kernel_rfl) hdk ?_
      refine Wp.cond' (by kernel_rfl) (v.kind == 6) (by kernel_rfl) (fun h => ?_) (fun h => ?_)
      · have hp1 : partAt v k = (quotedT (v.names.getD k []) ++ [58]) ++ printJ (v.kids.getD k .nil) := by unfold partAt; rw [if_pos h]
        have hin2 : 0 ≤ (k : Int) ∧ (k : Int) < (v.names.length : Int) := by have := h6 (by simpa using h); omega
        rw [hp1] at hs1 hlen
        have hq : (quotedT (v.names.getD k [])).length ≤ 140737488355328 := by simp only [List.length_append] at hlen; omega
        have l1 : (accT v k).length + (quotedT (v.names.getD k [])).length ≤ 9223372036854775807 := by simp only [List.length_append, List.length_cons, List.length_nil] at hlen ⊢; omega
        have l2 : (accT v k ++ quotedT (v.names.getD k [])).length + 1 ≤ 9223372036854775807 := by simp only [List.length_append, List.length_cons, List.length_nil] at hlen ⊢; omega
        have l3 : ((accT v k ++ quotedT (v.names.getD k [])) ++ [58]).length + (printJ (v.kids.getD k .nil)).length ≤ 9223372036854775807 := by simp only [List.length_append, List.length_cons, List.length_nil] at hlen ⊢; omega
        have he : ((accT v k ++ quotedT (v.names.getD k [])) ++ [58]) ++ printJ (v.kids.getD k .nil) = accT v (k + 1) := by rw [hs1]; simp
        refine Wp.go (mx := true) (fun _ => mixed) [(19, {cs := [(6, pc (quoted12_ok (v.names.getD k []) hq))]}), (20, {fm := [(5, .agg (encJ (v.kids.getD k .nil))), (8, .c (.str (accT v (k + 1))))], cs := [(6, pc (ih _ hm))]})] 100 [] [0 ≤ (k : Int) ∧ (k : Int) < (v.names.length : Int), (accT v k).length + (quotedT (v.names.getD k [])).length ≤ 9223372036854775807, (accT v k ++ quotedT (v.names.getD k [])).length + 1 ≤ 9223372036854775807, 0 ≤ (k : Int) ∧ (k : Int) < (v.kids.length : Int), EqvD (.agg [kidC v.kids k 0, kidC v.kids k 1, kidC v.kids k 2, kidC v.kids k 3, kidC v.kids k 4, kidC v.kids k 5]) (.agg (encJ (v.kids.getD k .nil))), ((accT v k ++ quotedT (v.names.getD k [])) ++ [58]).length + (printJ (v.kids.getD k .nil)).length ≤ 9223372036854775807, EqvI (.c (.str (((accT v k ++ quotedT (v.names.getD k [])) ++ [58]) ++ printJ (v.kids.getD k .nil)))) (.c (.str (accT v (k + 1)))), EqvD (.c (.str (((accT v k ++ quotedT (v.names.getD k [])) ++ [58]) ++ printJ (v.kids.getD k .nil)))) (.c (.str (accT v (k + 1)))), inR .i64 ((k : Int) + 1)] (by kernel_rfl) (by kernel_rfl) (by kernel_rfl) ⟨hin2, l1, l2, hin, kid_den hk', l3, fun _ _ => trivial, by rw [he]; exact fun _ _ _ h => h, inR64 (by omega) (by omega)⟩ ?_
        exact Wp.lpK (by kernel_rfl) (again _ (k + 1) hk' (by show v.kids.length - (k + 1) < v.kids.length - k; omega) (Ent.of [] (by kernel_rfl) (by kernel_rfl) (by kernel_rfl) trivial))
      · have hp1 : partAt v k = printJ (v.kids.getD k .nil) := by unfold partAt; rw [if_neg (by simp [h])]
        rw [hp1] at hs1 hlen
        have l3 : (accT v k).length + (printJ (v.kids.getD k .nil)).length ≤ 9223372036854775807 := by omega
        refine Wp.go (mx := true) (fun _ => mixed) [(20, {fm := [(5, .agg (encJ (v.kids.getD k .nil))), (8, .c (.str (accT v (k + 1))))], cs := [(6, pc (ih _ hm))]})] 100 [] [0 ≤ (k : Int) ∧ (k : Int) < (v.kids.length : Int), EqvD (.agg [kidC v.kids k 0, kidC v.kids k 1, kidC v.kids k 2, kidC v.kids k 3, kidC v.kids k 4, kidC v.kids k 5]) (.agg (encJ (v.kids.getD k .nil))), (accT v k).length + (printJ (v.kids.getD k .nil)).length ≤ 9223372036854775807, EqvI (.c (.str (accT v k ++ printJ (v.kids.getD k .nil)))) (.c (.str (accT v (k + 1)))), EqvD (.c (.str (accT v k ++ printJ (v.kids.getD k .nil)))) (.c (.str (accT v (k + 1)))), inR .i64 ((k : Int) + 1)] (by kernel_rfl) (by kernel_rfl) (by kernel_rfl) ⟨hin, kid_den hk', l3, fun _ _ => trivial, by rw [← hs1]; exact fun _ _ _ h => h, inR64 (by omega) (by omega)⟩ ?_
        exact Wp.lpK (by kernel_rfl) (again _ (k + 1) hk' (by show v.kids.length - (k + 1) < v.kids.length - k; omega) (Ent.of [] (by kernel_rfl) (by kernel_rfl) (by kernel_rfl) trivial))
    · have hdk : decide ((k : Int) > 0) = true := by simp; omega
      have hpe : pre = (accT v k ++ [44]) := by rw [hpre, if_neg (by omega)]
      rw [hpe] at hs1 hlen
      have hcm : (accT v k).length + 1 ≤ 9223372036854775807 := by simp only [List.length_append, List.length_cons, List.length_nil] at hlen; omega
      refine Wp.go (mx := true) (fun _ => mixed) [] 100 [true] [decide ((k : Int) > 0) = true, (accT v k).length + 1 ≤ 9223372036854775807] (by kernel_rfl) (by kernel_rfl) (by kernel_rfl) ⟨hdk, hcm⟩ ?_
      refine Wp.cond' (by kernel_rfl) (v.kind == 6) (by kernel_rfl) (fun h => ?_) (fun h => ?_)
      · have hp1 : partAt v k = (quotedT (v.names.getD k []) ++ [58]) ++ printJ (v.kids.getD k .nil) := by unfold partAt; rw [if_pos h]
        have hin2 : 0 ≤ (k : Int) ∧ (k : Int) < (v.names.length : Int) := by have := h6 (by simpa using h); omega
        rw [hp1] at hs1 hlen
        have hq : (quotedT (v.names.getD k [])).length ≤ 140737488355328 := by simp only [List.length_append] at hlen; omega
        have l1 : ((accT v k ++ [44])).length + (quotedT (v.names.getD k [])).length ≤ 9223372036854775807 := by simp only [List.length_append, List.length_cons, List.length_nil] at hlen ⊢; omega
        have l2 : ((accT v k ++ [44]) ++ quotedT (v.names.getD k [])).length + 1 ≤ 9223372036854775807 := by simp only [List.length_append, List.length_cons, List.length_nil] at hlen ⊢; omega
        have l3 : (((accT v k ++ [44]) ++ quotedT (v.names.getD k [])) ++ [58]).length + (printJ (v.kids.getD k .nil)).length ≤ 9223372036854775807 := by simp only [List.length_append, List.length_cons, List.length_nil] at hlen ⊢; omega
        have he : (((accT v k ++ [44]) ++ quotedT (v.names.getD k [])) ++ [58]) ++ printJ (v.kids.getD k .nil) = accT v (k + 1) := by rw [hs1]; simp
        refine Wp.go (mx := true) (fun _ => mixed) [(19, {cs := [(6, pc (quoted12_ok (v.names.getD k []) hq))]}), (20, {fm := [(5, .agg (encJ (v.kids.getD k .nil))), (8, .c (.str (accT v (k + 1))))], cs := [(6, pc (ih _ hm))]})] 100 [] [0 ≤ (k : Int) ∧ (k : Int) < (v.names.length : Int), ((accT v k ++ [44])).length + (quotedT (v.names.getD k [])).length ≤ 9223372036854775807, ((accT v k ++ [44]) ++ quotedT (v.names.getD k [])).length + 1 ≤ 9223372036854775807, 0 ≤ (k : Int) ∧ (k : Int) < (v.kids.length : Int), EqvD (.agg [kidC v.kids k 0, kidC v.kids k 1, kidC v.kids k 2, kidC v.kids k 3, kidC v.kids k 4, kidC v.kids k 5]) (.agg (encJ (v.kids.getD k .nil))), (((accT v k ++ [44]) ++ quotedT (v.names.getD k [])) ++ [58]).length + (printJ (v.kids.getD k .nil)).length ≤ 9223372036854775807, EqvI (.c (.str ((((accT v k ++ [44]) ++ quotedT (v.names.getD k [])) ++ [58]) ++ printJ (v.kids.getD k .nil)))) (.c (.str (accT v (k + 1)))), EqvD (.c (.str ((((accT v k ++ [44]) ++ quotedT (v.names.getD k [])) ++ [58]) ++ printJ (v.kids.getD k .nil)))) (.c (.str (accT v (k + 1)))), inR .i64 ((k : Int) + 1)] (by kernel_rfl) (by kernel_rfl) (by kernel_rfl) ⟨hin2, l1, l2, hin, kid_den hk', l3, fun _ _ => trivial, by rw [he]; exact fun _ _ _ h => h, inR64 (by omega) (by omega)⟩ ?_
        exact Wp.lpK (by kernel_rfl) (again _ (k + 1) hk' (by show v.kids.length - (k + 1) < v.kids.length - k; omega) (Ent.of [] (by kernel_rfl) (by kernel_rfl) (by kernel_rfl) trivial))
      · have hp1 : partAt v k = printJ (v.kids.getD k .nil) := by unfold partAt; rw [if_neg (by simp [h])]
        rw [hp1] at hs1 hlen
        have l3 : ((accT v k ++ [44])).length + (printJ (v.kids.getD k .nil)).length ≤ 9223372036854775807 := by omega
        refine Wp.go (mx := true) (fun _ => mixed) [(20, {fm := [(5, .agg (encJ (v.kids.getD k .nil))), (8, .c (.str (accT v (k + 1))))], cs := [(6, pc (ih _ hm))]})] 100 [] [0 ≤ (k : Int) ∧ (k : Int) < (v.kids.length : Int), EqvD (.agg [kidC v.kids k 0, kidC v.kids k 1, kidC v.kids k 2, kidC v.kids k 3, kidC v.kids k 4, kidC v.kids k 5]) (.agg (encJ (v.kids.getD k .nil))), ((accT v k ++ [44])).length + (printJ (v.kids.getD k .nil)).length ≤ 9223372036854775807, EqvI (.c (.str ((accT v k ++ [44]) ++ printJ (v.kids.getD k .nil)))) (.c (.str (accT v (k + 1)))), EqvD (.c (.str ((accT v k ++ [44]) ++ printJ (v.kids.getD k .nil)))) (.c (.str (accT v (k + 1)))), inR .i64 ((k : Int) + 1)] (by kernel_rfl) (by kernel_rfl) (by kernel_rfl) ⟨hin, kid_den hk', l3, fun _ _ => trivial, by rw [← hs1]; exact fun _ _ _ h => h, inR64 (by omega) (by omega)⟩ ?_
        exact Wp.lpK (by kernel_rfl) (again _ (k + 1) hk' (by show v.kids.length - (k + 1) < v.kids.length - k; omega) (Ent.of [] (by kernel_rfl) (by kernel_rfl) (by kernel_rfl) trivial))
  · have hke : k = v.kids.length := by simp at h; omega
    subst hke
    have hj1 : 1 + (accT v v.kids.length).length ≤ 9223372036854775807 := by omega
    have hj2 : ∀ c : UInt8, (c :: accT v v.kids.length).length + 1 ≤ 9223372036854775807 := fun c => by simp only [List.length_cons]; omega
    refine Wp.go (mx := true) (fun _ => mixed) [] 100 [] [] (by kernel_rfl) (by kernel_rfl) (by kernel_rfl) trivial ?_
    refine Wp.cond' (by kernel_rfl) (v.kind == 6) (by kernel_rfl) (fun h => ?_) (fun h => ?_)
    · refine Wp.go (mx := true) (fun _ => mixed) [] 100 [] [1 + (accT v v.kids.length).length ≤ 9223372036854775807, (123 :: accT v v.kids.length).length + 1 ≤ 9223372036854775807] (by kernel_rfl) (by kernel_rfl) (by kernel_rfl) ⟨hj1, hj2 _⟩ ?_
      refine Wp.ret' (by kernel_rfl) ?_
      exact FinQ.pure (rs' := [.c (.str ((123 :: accT v v.kids.length) ++ [125]))]) (by kernel_rfl) (by rw [if_neg (by simp [k1]), if_neg (by simp [k2]), if_neg (by simp [k3]), if_neg (by simp [k4]), if_pos h]; rfl) (by kernel_rfl)
    · refine Wp.go (mx := true) (fun _ => mixed) [] 100 [] [1 + (accT v v.kids.length).length ≤ 9223372036854775807, (91 :: accT v v.kids.length).length + 1 ≤ 9223372036854775807] (by kernel_rfl) (by kernel_rfl) (by kernel_rfl) ⟨hj1, hj2 _⟩ ?_
      refine Wp.ret' (by kernel_rfl) ?_
      exact FinQ.pure (rs' := [.c (.str ((91 :: accT v v.kids.length) ++ [93]))]) (by kernel_rfl) (by rw [if_neg (by simp [k1]), if_neg (by simp [k2]), if_neg (by simp [k3]), if_neg (by simp [k4]), if_neg (by simp [h])]; rfl) (by kernel_rfl)

theorem Print12_ok {v : JV} (hs : Short v) (hf : mayJ v 0 = true → Fit v) : Pur Tryd.prog G 24 [.agg (encJ v)] [.c (.str (printT v))] := by
  refine Pur.of Tryd.func24 (by kernel_rfl) (by kernel_rfl) (by kernel_rfl) ?_
  refine Wp.go (mx := true) (fun _ => mixed) [(1, {cs := [(1, pc (May12_ok hs))]})] 100 [] [] (by kernel_rfl) (by kernel_rfl) (by kernel_rfl) trivial ?_
  refine Wp.cond' (by kernel_rfl) (!(mayJ v 0)) (by kernel_rfl) (fun h => ?_) (fun h => ?_)
  · refine Wp.go (mx := true) (fun _ => mixed) [] 100 [] [] (by kernel_rfl) (by kernel_rfl) (by kernel_rfl) trivial ?_
    refine Wp.ret' (by kernel_rfl) ?_
    exact FinQ.pure (rs' := [.c (.str [])]) (by kernel_rfl) (by unfold printT; rw [if_neg (by simpa using h)]) (by kernel_rfl)
  · have hm : mayJ v 0 = true := by simpa using h
    refine Wp.go (mx := true) (fun _ => mixed) [(3, {cs := [(1, pc (print12_ok (hf hm)))]})] 100 [] [] (by kernel_rfl) (by kernel_rfl) (by kernel_rfl) trivial ?_
    refine Wp.ret' (by kernel_rfl) ?_
    exact FinQ.pure (rs' := [.c (.str (printJ v))]) (by kernel_rfl) (by unfold printT; rw [if_pos hm]) (by kernel_rfl)
end Go.Proofs.Tw
