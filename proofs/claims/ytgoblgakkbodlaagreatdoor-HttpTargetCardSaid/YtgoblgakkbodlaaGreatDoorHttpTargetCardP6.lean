/- Own texts for this claim: Hp3, Hp4, Hp5, Ck5, Ck6, Ck7, Hp6, Hp7, Hp8, Hp9, Hp10, Hp11, Hp12, Smal, Hp13, Hp14, Hp15, Jn, Hp17, Dec7, Dec8, Prs, Hp20, SvKeep, SvRead. -/
import Derived.Test.YtgoblgakkbodlaaGreatDoorHttpTargetCardP5
import Derived.Test.YtgoblgakkbodlaaGreatDoorHttpTargetCardP3
import Derived.ChangeSlices
set_option linter.all false

section
open Go Go.Sv Go.RowKit
namespace Go.Proofs.Tw
attribute [local irreducible] Wp FinQ resV Ent Pur Go.Sv.Fn Sat0
set_option maxRecDepth 100000
set_option maxHeartbeats 4000000
variable {G : Nat → Option (List Cell)}

theorem fGet_con (l : List FT) (n : List UInt8) : (l.map (·.name)).contains n = (fGet l n).isSome := by
  induction l with
  | nil => rfl
  | cons x l ih =>
    rw [fGet_cons, List.map_cons, List.contains_cons, ih]
    cases h : (x.name == n) with
    | true => rw [show (n == x.name) = true from by rw [eq_of_beq h]; simp]; rfl
    | false => rw [show (n == x.name) = false from by rw [beq_eq_false_iff_ne] at h ⊢; exact fun e => h e.symm]; rfl
theorem fGet_snoc (l : List FT) (x : FT) (n : List UInt8) : fGet (l ++ [x]) n = match fGet l n with
    | some v => some v
    | none => if x.name == n then some x.value else none := by
  induction l with
  | nil => rw [List.nil_append, fGet_cons, fGet_nil]
  | cons y l ih =>
    rw [List.cons_append, fGet_cons, fGet_cons, ih]
    split <;> rfl
theorem filt_cl (acc : List FT) (x : FT) (h : (x.name == clN) = true) : (acc ++ [x]).filter notCl = acc.filter notCl := by
  rw [List.filter_append]; simp [notCl, h]
theorem filt_no (acc : List FT) (x : FT) (h : (x.name == clN) = false) : (acc ++ [x]).filter notCl = acc.filter notCl ++ [x] := by
  rw [List.filter_append]; simp [notCl, h]
theorem snoc_cl (acc : List FT) (x : FT) (h : (x.name == clN) = true) (hn : fGet acc clN = none) : fGet (acc ++ [x]) clN = some x.value := by
  rw [fGet_snoc, hn]; simp only [h]; rfl
theorem snoc_no (acc : List FT) (x : FT) (h : (x.name == clN) = false) : fGet (acc ++ [x]) clN = fGet acc clN := by
  rw [fGet_snoc]; cases fGet acc clN <;> simp [h]
theorem fA_step (l : List (List UInt8)) (acc : List FT) (k : Nat) (hk : k < l.length) : fieldsA (l.drop k) acc = if okA acc (l.getD k []) then fieldsA (l.drop (k + 1)) (acc ++ [lineF (l.getD k [])]) else acc := by
  rw [dropM l [] k hk, fieldsA]
theorem fO_step (l : List (List UInt8)) (acc : List FT) (k : Nat) (hk : k < l.length) : fieldsO (l.drop k) acc = if okA acc (l.getD k []) then fieldsO (l.drop (k + 1)) (acc ++ [lineF (l.getD k [])]) else false := by
  rw [dropM l [] k hk, fieldsO]
theorem okA_b (c t s h : Bool) : (bif bif bif !c then true else !t then true else !s then true else h) = !((c && (t && s)) && !h) := by
  cases c <;> cases t <;> cases s <;> cases h <;> rfl
theorem rfields_ok (hL : HasLen G) (f b : List UInt8) (l : List (List UInt8)) (hl : ∀ k, (l.getD k []).length < 1000000000) (hn : l.length < 1000000) : FnB Tryz.prog G 68 [rdB f .nilsl b (encL l) [] false] [.c (.ptr 0 0)] [.c (.int .i64 (if fieldsO l [] then 0 else 3))]
    [(0, rdB f (encH ((fieldsA l []).filter notCl)) b (encL l) ((fGet (fieldsA l []) clN).getD []) (fGet (fieldsA l []) clN).isSome)] := by
  refine Fn.of' Tryz.func68 (by kernel_rfl) (by kernel_rfl) (by kernel_rfl) (by kernel_rfl) trivial ?_
  obtain ⟨mx, hG⟩ := hL
  refine Wp.go (mx := true) (fun _ => mixed) [] 100 [] [] (by kernel_rfl) (by kernel_rfl) (by kernel_rfl) trivial ?_
  refine Wp.loopK (by kernel_rfl) (fun (x : Nat × Nat × List FT × List FT × List UInt8 × Bool) => ⟨[(0, TV.v (V1.c (Cell.ptr 0 0))), (3, TV.v (V1.c (Cell.map 17))), (14, TV.v (V1.c (Cell.sl 1 l.length (strsF l)))), (15, TV.v (V1.c (Cell.int .i64 (l.length : Int)))), (16, TV.v (V1.c (Cell.int .i64 (x.1 : Int))))], [(0, Blk.box 77 [.str f, .row 2 145 0 x.2.1, .str b, encL l, .str x.2.2.2.2.1, .bool x.2.2.2.2.2]), (17, Blk.ob (Ob.ms (seenL (x.2.2.1.map (·.name))))), (145, Blk.row 40 2 x.2.1 (rowF encF .nil x.2.2.2.1))], 161⟩)
    (fun x => x.1 ≤ l.length ∧ x.2.1 = x.2.2.2.1.length ∧ x.2.1 ≤ x.1 ∧ fieldsA l [] = fieldsA (l.drop x.1) x.2.2.1 ∧ fieldsO l [] = fieldsO (l.drop x.1) x.2.2.1 ∧ x.2.2.2.1 = x.2.2.1.filter notCl ∧ x.2.2.2.2.1 = (fGet x.2.2.1 clN).getD [] ∧ x.2.2.2.2.2 = (fGet x.2.2.1 clN).isSome) (fun x => l.length - x.1) (0, 0, [], [], [], false)
    (Ent.trans (Ent.empC (b := 0) (o := 1) (sz := 2) (e := 40) (e' := 77) (cs := [.str f, .nilsl, .str b, encL l, .str [], .bool false]) (f := rowF encF .nil []) (by decide) (of_decide_eq_true (by kernel_rfl)) (by kernel_rfl) (by kernel_rfl) rfl) (Ent.of [] (by kernel_rfl) (by kernel_rfl) (by kernel_rfl) trivial)) ⟨Nat.zero_le _, rfl, Nat.le_refl _, rfl, rfl, rfl, rfl, rfl⟩ ?_
  rintro ⟨k, n, acc, H, z, d⟩ L ⟨hk, hnH, hnk, hA, hO, hH, hz, hd⟩ again
  simp only at hk hnH hnk hA hO hH hz hd
  rcases Nat.lt_or_ge k l.length with hlt | hge
  · rw [fA_step l acc k hlt] at hA
    rw [fO_step l acc k hlt] at hO
    have hp := hl k
    have hcl := cut_len (l.getD k []) [58, 32]
    have c1 := lib_Cut (G := G) hG (l.getD k []) [58, 32] (by omega)
    have c2 := fold_ok (G := G) (Lib.cut (l.getD k []) [58, 32]).1 (by omega)
    have c3 := token_ok (G := G) (Lib.cut (l.getD k []) [58, 32]).1 (by omega)
    have c4 := seen_ok (G := G) (Lib.cut (l.getD k []) [58, 32]).2.1 (by omega)
    have e0 : EqvD (mget (seenL (acc.map (·.name))) (foldT (Lib.cut (l.getD k []) [58, 32]).1) (.c (.bool false))) (.c (.bool ((acc.map (·.name)).contains (lineF (l.getD k [])).name))) := eqvD_of (seenL_get _ _)
    have ht := okA_b (Lib.cut (l.getD k []) [58, 32]).2.2 (tokenT (Lib.cut (l.getD k []) [58, 32]).1) ((Lib.cut (l.getD k []) [58, 32]).2.1.all seenB) ((acc.map (·.name)).contains (lineF (l.getD k [])).name)
    rw [show (((Lib.cut (l.getD k []) [58, 32]).2.2 && (tokenT (Lib.cut (l.getD k []) [58, 32]).1 && (Lib.cut (l.getD k []) [58, 32]).2.1.all seenB)) && !((acc.map (·.name)).contains (lineF (l.getD k [])).name)) = okA acc (l.getD k []) from by rw [fGet_con]; rfl] at ht
    cases hok : okA acc (l.getD k []) with
    | false =>
      rw [hok, if_neg (by decide)] at hA hO
      rw [hA, hO, ← hH, ← hz, ← hd]
      rw [hok] at ht
      have ht : (bif bif bif !(Lib.cut (l.getD k []) [58, 32]).2.2 then true else !tokenT (Lib.cut (l.getD k []) [58, 32]).1 then true else !(Lib.cut (l.getD k []) [58, 32]).2.1.all seenB then true else (acc.map (·.name)).contains (lineF (l.getD k [])).name) = true := ht
      clear hA hO hok hH hz hd
      refine Wp.ent' (by kernel_rfl) (Ent.pubC (id := 145) (b := 0) (o := 1) (off := 0) (m := n) (sz := 2) (n := n) (e := 40) (e' := 77) (cs := [.str f, .row 2 145 0 n, .str b, encL l, .str z, .bool d]) (f := rowF encF .nil H) (m' := H.length) (f' := fun i j => nthD (encF (H.getD i .nil)) j) (by kernel_rfl) (by kernel_rfl) (by kernel_rfl) (by omega) hnH (fun i _ j hj => by rw [Nat.zero_add]; rfl) rfl) ?_
      refine Wp.go (mx := true) (fun _ => mixed) [(7, {cs := [(4, pc c3), (9, pc c4)], fm := [(15, .c (.bool ((acc.map (·.name)).contains (lineF (l.getD k [])).name)))]}), (5, {cs := [(1, pc c1)]}), (6, {cs := [(1, pc c2)]})] 100 [true, true] [decide ((↑k : Int) < (↑l.length : Int)) = true, (0 : Int) ≤ (↑k : Int) ∧ (↑k : Int) < (↑l.length : Int), EqvI (mget (seenL (List.map (fun (x : FT) => x.name) acc)) (foldT (Lib.cut (l.getD k []) [(58 : UInt8), 32]).1) (V1.c (Cell.bool false))) (V1.c (Cell.bool ((List.map (fun (x : FT) => x.name) acc).contains (lineF (l.getD k [])).name))), (bif bif !(Lib.cut (l.getD k []) [(58 : UInt8), 32]).2.snd then true else !tokenT (Lib.cut (l.getD k []) [(58 : UInt8), 32]).1 then true else !(Lib.cut (l.getD k []) [(58 : UInt8), 32]).2.fst.all seenB) = false → EqvD (mget (seenL (List.map (fun (x : FT) => x.name) acc)) (foldT (Lib.cut (l.getD k []) [(58 : UInt8), 32]).1) (V1.c (Cell.bool false))) (V1.c (Cell.bool ((List.map (fun (x : FT) => x.name) acc).contains (lineF (l.getD k [])).name))), (bif bif bif !(Lib.cut (l.getD k []) [(58 : UInt8), 32]).2.snd then true else !tokenT (Lib.cut (l.getD k []) [(58 : UInt8), 32]).1 then true else !(Lib.cut (l.getD k []) [(58 : UInt8), 32]).2.fst.all seenB then true else (List.map (fun (x : FT) => x.name) acc).contains (lineF (l.getD k [])).name) = true] (by kernel_rfl) (by kernel_rfl) (by kernel_rfl) ⟨(by simp; omega), (by omega), fun _ _ => trivial, (by intro _; assumption), (show (bif bif bif !(Lib.cut (l.getD k []) [(58 : UInt8), 32]).2.snd then true else !tokenT (Lib.cut (l.getD k []) [(58 : UInt8), 32]).1 then true else !(Lib.cut (l.getD k []) [(58 : UInt8), 32]).2.fst.all seenB then true else (List.map (fun (x : FT) => x.name) acc).contains (lineF (l.getD k [])).name) = true from (by assumption))⟩ ?_
      refine Wp.ret' (by kernel_rfl) ?_
      exact FinQ.blk [] (by kernel_rfl) (by kernel_rfl) (by kernel_rfl) (by kernel_rfl) (by kernel_rfl) trivial
    | true =>
      rw [hok, if_pos rfl] at hA hO
      rw [hok] at ht
      have ht : (bif bif bif !(Lib.cut (l.getD k []) [58, 32]).2.2 then true else !tokenT (Lib.cut (l.getD k []) [58, 32]).1 then true else !(Lib.cut (l.getD k []) [58, 32]).2.1.all seenB then true else (acc.map (·.name)).contains (lineF (l.getD k [])).name) = false := ht
      have hno : (fGet acc (lineF (l.getD k [])).name) = none := by
        unfold okA at hok
        cases hg : fGet acc (lineF (l.getD k [])).name with
        | none => rfl
        | some v => rw [hg] at hok; simp at hok
      have hc : (acc.map (·.name)).contains (lineF (l.getD k [])).name = false := by rw [fGet_con, hno]; rfl
      have e2 : BlkEqv (.ob (.ms (mset (seenL (acc.map (·.name))) (lineF (l.getD k [])).name (.c (.bool true))))) (.ob (.ms (seenL ((acc ++ [lineF (l.getD k [])]).map (·.name))))) := BlkEqv.of_eq (by rw [seenL_set _ _ hc, List.map_append]; rfl)
      cases hcl2 : ((lineF (l.getD k [])).name == clN) with
      | true =>
        have hcl3 : (foldT (Lib.cut (l.getD k []) [58, 32]).1 == clN) = true := hcl2
        have hnone : fGet acc clN = none := by rw [← eq_of_beq hcl2]; exact hno
        have f1 : H = (acc ++ [lineF (l.getD k [])]).filter notCl := by rw [filt_cl _ _ hcl2, ← hH]
        have f2 : (Lib.cut (l.getD k []) [58, 32]).2.1 = (fGet (acc ++ [lineF (l.getD k [])]) clN).getD [] := by rw [snoc_cl _ _ hcl2 hnone]; rfl
        have f3 : true = (fGet (acc ++ [lineF (l.getD k [])]) clN).isSome := by rw [snoc_cl _ _ hcl2 hnone]; rfl
        clear hok hno hc hnone hcl2 hH hz hd
        refine Wp.go (mx := true) (fun _ => mixed) [(7, {cs := [(4, pc c3), (9, pc c4)], fm := [(15, .c (.bool ((acc.map (·.name)).contains (lineF (l.getD k [])).name)))]}), (9, {bs := [(2, .ob (.ms (seenL ((acc ++ [lineF (l.getD k [])]).map (·.name)))))]}), (5, {cs := [(1, pc c1)]}), (6, {cs := [(1, pc c2)]})] 100 [true, false, true] [decide ((↑k : Int) < (↑l.length : Int)) = true, (0 : Int) ≤ (↑k : Int) ∧ (↑k : Int) < (↑l.length : Int), EqvI (mget (seenL (List.map (fun (x : FT) => x.name) acc)) (foldT (Lib.cut (l.getD k []) [(58 : UInt8), 32]).1) (V1.c (Cell.bool false))) (V1.c (Cell.bool ((List.map (fun (x : FT) => x.name) acc).contains (lineF (l.getD k [])).name))), (bif bif !(Lib.cut (l.getD k []) [(58 : UInt8), 32]).2.snd then true else !tokenT (Lib.cut (l.getD k []) [(58 : UInt8), 32]).1 then true else !(Lib.cut (l.getD k []) [(58 : UInt8), 32]).2.fst.all seenB) = false → EqvD (mget (seenL (List.map (fun (x : FT) => x.name) acc)) (foldT (Lib.cut (l.getD k []) [(58 : UInt8), 32]).1) (V1.c (Cell.bool false))) (V1.c (Cell.bool ((List.map (fun (x : FT) => x.name) acc).contains (lineF (l.getD k [])).name))), (bif bif bif !(Lib.cut (l.getD k []) [(58 : UInt8), 32]).2.snd then true else !tokenT (Lib.cut (l.getD k []) [(58 : UInt8), 32]).1 then true else !(Lib.cut (l.getD k []) [(58 : UInt8), 32]).2.fst.all seenB then true else (List.map (fun (x : FT) => x.name) acc).contains (lineF (l.getD k [])).name) = false, BlkEqv (Blk.ob (Ob.ms (mset (seenL (List.map (fun (x : FT) => x.name) acc)) (foldT (Lib.cut (l.getD k []) [(58 : UInt8), 32]).1) (V1.c (Cell.bool true))))) (Blk.ob (Ob.ms (seenL (List.map (fun (x : FT) => x.name) (acc ++ [lineF (l.getD k [])]))))), (foldT (Lib.cut (l.getD k []) [(58 : UInt8), 32]).1 == [(99 : UInt8), 111, 110, 116, 101, 110, 116, 45, 108, 101, 110, 103, 116, 104]) = true, inR IntKind.i64 ((↑k : Int) + (1 : Int))] (by kernel_rfl) (by kernel_rfl) (by kernel_rfl) ⟨(by simp; omega), (by omega), fun _ _ => trivial, (by intro _; assumption), (by assumption), (by assumption), (by assumption), inR64 (by omega) (by omega)⟩ ?_
        exact Wp.lpK (by kernel_rfl) (again _ (k + 1, n, acc ++ [lineF (l.getD k [])], H, (Lib.cut (l.getD k []) [58, 32]).2.1, true) ⟨(by assumption), ⟨(by assumption), ⟨(by simp; omega), ⟨(by assumption), ⟨(by assumption), ⟨(by assumption), ⟨(by assumption), (by assumption)⟩⟩⟩⟩⟩⟩⟩ (by omega) (Ent.of [] (by kernel_rfl) (by kernel_rfl) (by kernel_rfl) trivial))
      | false =>
        have hcl3 : (foldT (Lib.cut (l.getD k []) [58, 32]).1 == clN) = false := hcl2
        have f1 : H ++ [lineF (l.getD k [])] = (acc ++ [lineF (l.getD k [])]).filter notCl := by rw [filt_no _ _ hcl2, ← hH]
        have f2 : z = (fGet (acc ++ [lineF (l.getD k [])]) clN).getD [] := by rw [snoc_no _ _ hcl2]; exact hz
        have f3 : d = (fGet (acc ++ [lineF (l.getD k [])]) clN).isSome := by rw [snoc_no _ _ hcl2]; exact hd
        have e3 : BlkEqv (.row 40 2 (n + 1) (catF n (rowF encF .nil H) (fun i j => nthD (encF (lineF (l.getD k []))) ((0 + i) * 2 + j)))) (.row 40 2 (n + 1) (rowF encF .nil (H ++ [lineF (l.getD k [])]))) := enc_app H _ hnH
        have q2 : n + 1 = (H ++ [lineF (l.getD k [])]).length := by simp [hnH]
        clear hok hno hc hcl2 hH hz hd
        refine Wp.go (mx := true) (fun _ => mixed) [(7, {cs := [(4, pc c3), (9, pc c4)], fm := [(15, .c (.bool ((acc.map (·.name)).contains (lineF (l.getD k [])).name)))]}), (9, {bs := [(2, .ob (.ms (seenL ((acc ++ [lineF (l.getD k [])]).map (·.name)))))]}), (12, {bs := [(10, Blk.row 40 2 (n + 1) (rowF encF .nil (H ++ [lineF (l.getD k [])])))]}), (5, {cs := [(1, pc c1)]}), (6, {cs := [(1, pc c2)]})] 100 [true, false, false] [decide ((↑k : Int) < (↑l.length : Int)) = true, (0 : Int) ≤ (↑k : Int) ∧ (↑k : Int) < (↑l.length : Int), EqvI (mget (seenL (List.map (fun (x : FT) => x.name) acc)) (foldT (Lib.cut (l.getD k []) [(58 : UInt8), 32]).1) (V1.c (Cell.bool false))) (V1.c (Cell.bool ((List.map (fun (x : FT) => x.name) acc).contains (lineF (l.getD k [])).name))), (bif bif !(Lib.cut (l.getD k []) [(58 : UInt8), 32]).2.snd then true else !tokenT (Lib.cut (l.getD k []) [(58 : UInt8), 32]).1 then true else !(Lib.cut (l.getD k []) [(58 : UInt8), 32]).2.fst.all seenB) = false → EqvD (mget (seenL (List.map (fun (x : FT) => x.name) acc)) (foldT (Lib.cut (l.getD k []) [(58 : UInt8), 32]).1) (V1.c (Cell.bool false))) (V1.c (Cell.bool ((List.map (fun (x : FT) => x.name) acc).contains (lineF (l.getD k [])).name))), (bif bif bif !(Lib.cut (l.getD k []) [(58 : UInt8), 32]).2.snd then true else !tokenT (Lib.cut (l.getD k []) [(58 : UInt8), 32]).1 then true else !(Lib.cut (l.getD k []) [(58 : UInt8), 32]).2.fst.all seenB then true else (List.map (fun (x : FT) => x.name) acc).contains (lineF (l.getD k [])).name) = false, BlkEqv (Blk.ob (Ob.ms (mset (seenL (List.map (fun (x : FT) => x.name) acc)) (foldT (Lib.cut (l.getD k []) [(58 : UInt8), 32]).1) (V1.c (Cell.bool true))))) (Blk.ob (Ob.ms (seenL (List.map (fun (x : FT) => x.name) (acc ++ [lineF (l.getD k [])]))))), (foldT (Lib.cut (l.getD k []) [(58 : UInt8), 32]).1 == [(99 : UInt8), 111, 110, 116, 101, 110, 116, 45, 108, 101, 110, 103, 116, 104]) = false, (n + (1 : Nat)) * (32 : Nat) ≤ (140737488355328 : Nat), BlkEqv (Blk.row 40 (2 : Nat) (n + (1 : Nat)) (catF n (fun (i j : Nat) => nthD [Cell.str (H.getD i FT.nil).name, Cell.str (H.getD i FT.nil).value] j) fun (i j : Nat) => nthD [Cell.str (foldT (Lib.cut (l.getD k []) [(58 : UInt8), 32]).1), Cell.str (Lib.cut (l.getD k []) [(58 : UInt8), 32]).2.fst] (((0 : Nat) + i) * (2 : Nat) + j))) (Blk.row 40 (2 : Nat) (n + (1 : Nat)) (rowF encF FT.nil (H ++ [lineF (l.getD k [])]))), n ≤ n, (0 : Nat) + (1 : Nat) ≤ (1 : Nat), inR IntKind.i64 ((↑k : Int) + (1 : Int))] (by kernel_rfl) (by kernel_rfl) (by kernel_rfl) ⟨(by simp; omega), (by omega), fun _ _ => trivial, (by intro _; assumption), (by assumption), (by assumption), (by assumption), (by omega), (by assumption), (by omega), (by omega), inR64 (by omega) (by omega)⟩ ?_
        exact Wp.lpK (by kernel_rfl) (again _ (k + 1, n + 1, acc ++ [lineF (l.getD k [])], H ++ [lineF (l.getD k [])], z, d) ⟨(by assumption), ⟨(by assumption), ⟨(by simp; omega), ⟨(by assumption), ⟨(by assumption), ⟨(by assumption), ⟨(by assumption), (by assumption)⟩⟩⟩⟩⟩⟩⟩ (by omega) (Ent.of [(145, 929)] (by kernel_rfl) (by kernel_rfl) (by kernel_rfl) trivial))
  · rw [List.drop_of_length_le hge] at hA hO
    rw [hA, hO, fieldsA, fieldsO, ← hH, ← hz, ← hd]
    clear hA hO hH hz hd
    refine Wp.ent' (by kernel_rfl) (Ent.pubC (id := 145) (b := 0) (o := 1) (off := 0) (m := n) (sz := 2) (n := n) (e := 40) (e' := 77) (cs := [.str f, .row 2 145 0 n, .str b, encL l, .str z, .bool d]) (f := rowF encF .nil H) (m' := H.length) (f' := fun i j => nthD (encF (H.getD i .nil)) j) (by kernel_rfl) (by kernel_rfl) (by kernel_rfl) (by omega) hnH (fun i _ j hj => by rw [Nat.zero_add]; rfl) rfl) ?_
    refine Wp.go (mx := true) (fun _ => mixed) [] 100 [false] [decide ((↑k : Int) < (↑l.length : Int)) = false] (by kernel_rfl) (by kernel_rfl) (by kernel_rfl) (show decide ((↑k : Int) < (↑l.length : Int)) = false from (by simp; omega)) ?_
    refine Wp.ret' (by kernel_rfl) ?_
    exact FinQ.blk [] (by kernel_rfl) (by kernel_rfl) (by kernel_rfl) (by kernel_rfl) (by kernel_rfl) trivial
end Go.Proofs.Tw
end

section
open Go Go.Sv Go.RowKit
namespace Go.Proofs.Tw
attribute [local irreducible] Wp FinQ resV Ent Pur Go.Sv.Fn Sat0
set_option maxRecDepth 100000
set_option maxHeartbeats 4000000
variable {G : Nat → Option (List Cell)}

theorem readH_no1 {line : List UInt8 → Bool} {s : List UInt8} (h : bigH s = true) : readH line s = ([], 4) := by
  unfold readH splitH; rw [h]; rfl
theorem readH_no2 {line : List UInt8 → Bool} {s : List UInt8} (h : bigH s = false) (hi : (hdC s).2.2 = false) : readH line s = ([], 3) := by
  unfold readH splitH; rw [h, hi]; rfl
theorem readH_no3 {line : List UInt8 → Bool} {s : List UInt8} (h : bigH s = false) (hi : (hdC s).2.2 = true) (hm : (linesH s).length > 25) : readH line s = ([], 4) := by
  unfold readH splitH; rw [h, hi, if_pos hm]; rfl
theorem splitH_yes {s : List UInt8} (h : bigH s = false) (hi : (hdC s).2.2 = true) (hm : ¬ (linesH s).length > 25) : splitH s = 0 := by
  unfold splitH; rw [h, hi, if_neg hm]; rfl
theorem readH_line {line : List UInt8 → Bool} {s : List UInt8} (h : splitH s = 0) (hf : line (firstH s) = false) : readH line s = ([], 3) := by
  unfold readH; rw [h, hf]; rfl
theorem readH_flds {line : List UInt8 → Bool} {s : List UInt8} (h : splitH s = 0) (hf : line (firstH s) = true) (hO : fieldsO (fieldsL s) [] = false) : readH line s = ([], 3) := by
  unfold readH; rw [h, hf, hO]; rfl
theorem readH_end {line : List UInt8 → Bool} {s : List UInt8} (h : splitH s = 0) (hf : line (firstH s) = true) (hO : fieldsO (fieldsL s) [] = true) : readH line s = if bodyE (fieldsA (fieldsL s) []) (hdC s).2.1 = 0 then ((fieldsA (fieldsL s) []).filter notCl, 0) else ([], bodyE (fieldsA (fieldsL s) []) (hdC s).2.1) := by
  unfold readH; rw [h, hf, hO]; rfl
/-- All that a field of a head is, is no longer than a bound of the lines. -/
theorem fA_sm {B : Nat} : ∀ (l : List (List UInt8)) (acc : List FT), (∀ p ∈ l, p.length ≤ B) → (∀ f ∈ acc, f.name.length ≤ B ∧ f.value.length ≤ B) → ∀ f ∈ fieldsA l acc, f.name.length ≤ B ∧ f.value.length ≤ B
  | [], acc, _, h => by simpa [fieldsA] using h
  | p :: r, acc, hl, h => by
    unfold fieldsA
    split
    · refine fA_sm r _ (fun q hq => hl q (by simp [hq])) (fun f hf => ?_)
      rcases List.mem_append.1 hf with hf | hf
      · exact h f hf
      · rw [List.mem_singleton.1 hf]
        have := cut_len p [58, 32]
        have hp := hl p (by simp)
        exact ⟨by show (foldT _).length ≤ _; unfold foldT; rw [List.length_map]; omega, by show (Lib.cut p [58, 32]).2.1.length ≤ _; omega⟩
    · exact h
theorem fGet_mem {l : List FT} {n v : List UInt8} (h : fGet l n = some v) : ∃ f ∈ l, f.name = n ∧ f.value = v := by
  unfold fGet at h
  cases hf : l.find? (fun f => f.name == n) with
  | none => rw [hf] at h; cases h
  | some f =>
    rw [hf] at h
    have h1 := List.find?_some hf
    exact ⟨f, List.mem_of_find?_eq_some hf, eq_of_beq h1, by simpa using h⟩
theorem fldsL_sm (s : List UInt8) : ∀ p ∈ fieldsL s, p.length ≤ s.length := by
  intro p hp
  have h1 := splitK_len [13, 10] _ (hdC s).1 p (List.mem_of_mem_drop hp)
  have h2 : (hdC s).1.length ≤ s.length := (cut_len s [13, 10, 13, 10]).1
  omega
theorem first_sm (s : List UInt8) : (firstH s).length ≤ s.length := by
  have h1 : (firstH s).length ≤ (hdC s).1.length := split_el (hdC s).1 [13, 10] 0
  have h2 : (hdC s).1.length ≤ s.length := (cut_len s [13, 10, 13, 10]).1
  omega
theorem cl_sm (s : List UInt8) : ((fGet (fieldsA (fieldsL s) []) clN).getD []).length ≤ s.length := by
  cases h : fGet (fieldsA (fieldsL s) []) clN with
  | none => simp
  | some v =>
    obtain ⟨f, hf, _, rfl⟩ := fGet_mem h
    exact (fA_sm (B := s.length) _ [] (fldsL_sm s) (fun f hf => by cases hf) f hf).2
theorem readsQ_no (hL : HasLen G) (s : List UInt8) (hl : s.length < 1000000000) (h : (readH askB s).2 ≠ 0) : ∃ (f b z : List UInt8) (hd : List FT) (l : List (List UInt8)) (d : Bool), FnB Tryz.prog G 32 [.box 28 [.str [], .str [], .nilsl, .str []]] [.c (.str s), .c (clo1 33 (.ptr 0 0))] [.c (.ptr 1 0), .c (.int .i64 (readH askB s).2)] [(1, rdB f (encH hd) b (encL l) z d)] := by
  have hb : (hdC s).2.1.length ≤ s.length := (cut_len s [13, 10, 13, 10]).2
  cases hbig : bigH s with
  | true =>
    rw [readH_no1 hbig]
    refine ⟨[], [], [], [], [], false, ?_⟩
    refine Fn.of' Tryz.func32 (by kernel_rfl) (by kernel_rfl) (by kernel_rfl) (by kernel_rfl) trivial ?_
    have c1 := rcut_big hL s hl hbig
    refine Wp.go (mx := true) (fun _ => mixed) [(2, {cs := [(2, cb [49] c1)]}), (3, {grd := [(3, false), (4, false), (5, false), (6, false), (7, false), (8, false), (9, false), (10, false), (11, false)]})] 100 [false, false, false] [((4 : Int) == (0 : Int)) = !true, ((4 : Int) == (0 : Int)) = !true, ((4 : Int) == (0 : Int)) = !true, ((4 : Int) == (0 : Int)) = !true, ((4 : Int) == (0 : Int)) = !true, ((4 : Int) == (0 : Int)) = !true, ((4 : Int) == (0 : Int)) = !true, ((4 : Int) == (0 : Int)) = !true, ((4 : Int) == (0 : Int)) = false, false = false, ((4 : Int) == (0 : Int)) = false, ((4 : Int) == (0 : Int)) = false] (by kernel_rfl) (by kernel_rfl) (by kernel_rfl) ⟨rfl, rfl, rfl, rfl, rfl, rfl, rfl, rfl, rfl, rfl, rfl, rfl⟩ ?_
    refine Wp.ret' (by kernel_rfl) ?_
    exact FinQ.blk [49] (by kernel_rfl) (by kernel_rfl) (by kernel_rfl) (by kernel_rfl) (by kernel_rfl) trivial
  | false =>
    cases hi : (hdC s).2.2 with
    | false =>
      rw [readH_no2 hbig hi]
      refine ⟨[], [], [], [], [], false, ?_⟩
      refine Fn.of' Tryz.func32 (by kernel_rfl) (by kernel_rfl) (by kernel_rfl) (by kernel_rfl) trivial ?_
      have c1 := rcut_form hL s hl hbig hi
      refine Wp.go (mx := true) (fun _ => mixed) [(2, {cs := [(2, cb [49] c1)]}), (3, {grd := [(3, false), (4, false), (5, false), (6, false), (7, false), (8, false), (9, false), (10, false), (11, false)]})] 100 [false, false, false] [((3 : Int) == (0 : Int)) = !true, ((3 : Int) == (0 : Int)) = !true, ((3 : Int) == (0 : Int)) = !true, ((3 : Int) == (0 : Int)) = !true, ((3 : Int) == (0 : Int)) = !true, ((3 : Int) == (0 : Int)) = !true, ((3 : Int) == (0 : Int)) = !true, ((3 : Int) == (0 : Int)) = !true, ((3 : Int) == (0 : Int)) = false, false = false, ((3 : Int) == (0 : Int)) = false, ((3 : Int) == (0 : Int)) = false] (by kernel_rfl) (by kernel_rfl) (by kernel_rfl) ⟨rfl, rfl, rfl, rfl, rfl, rfl, rfl, rfl, rfl, rfl, rfl, rfl⟩ ?_
      refine Wp.ret' (by kernel_rfl) ?_
      exact FinQ.blk [49] (by kernel_rfl) (by kernel_rfl) (by kernel_rfl) (by kernel_rfl) (by kernel_rfl) trivial
    | true =>
      by_cases hm : (linesH s).length > 25
      · rw [readH_no3 hbig hi hm]
        refine ⟨[], (hdC s).2.1, [], [], linesH s, false, ?_⟩
        refine Fn.of' Tryz.func32 (by kernel_rfl) (by kernel_rfl) (by kernel_rfl) (by kernel_rfl) trivial ?_
        have c1 := rcut_many hL s hl hbig hi hm
        refine Wp.go (mx := true) (fun _ => mixed) [(2, {cs := [(2, cb [49] c1)]}), (3, {grd := [(3, false), (4, false), (5, false), (6, false), (7, false), (8, false), (9, false), (10, false), (11, false)]})] 100 [false, false, false] [((4 : Int) == (0 : Int)) = !true, ((4 : Int) == (0 : Int)) = !true, ((4 : Int) == (0 : Int)) = !true, ((4 : Int) == (0 : Int)) = !true, ((4 : Int) == (0 : Int)) = !true, ((4 : Int) == (0 : Int)) = !true, ((4 : Int) == (0 : Int)) = !true, ((4 : Int) == (0 : Int)) = !true, ((4 : Int) == (0 : Int)) = false, false = false, ((4 : Int) == (0 : Int)) = false, ((4 : Int) == (0 : Int)) = false] (by kernel_rfl) (by kernel_rfl) (by kernel_rfl) ⟨rfl, rfl, rfl, rfl, rfl, rfl, rfl, rfl, rfl, rfl, rfl, rfl⟩ ?_
        refine Wp.ret' (by kernel_rfl) ?_
        exact FinQ.blk [49] (by kernel_rfl) (by kernel_rfl) (by kernel_rfl) (by kernel_rfl) (by kernel_rfl) trivial
      · have hsp := splitH_yes hbig hi hm
        have c1 := rcut_yes hL s hl hbig hi (by omega)
        have hfs := first_sm s
        have hfl := fldsL_sm s
        have hcl := cl_sm s
        have hfn : (fieldsL s).length < 1000000 := by unfold fieldsL; rw [List.length_drop]; omega
        have hfe : ∀ k, ((fieldsL s).getD k []).length < 1000000000 := fun k => by
          rw [List.getD_eq_getElem?_getD]
          cases hx : (fieldsL s)[k]? with
          | none => show 0 < _; omega
          | some x => have := hfl x (List.mem_of_getElem? hx); simp; omega
        have c2 := askL_ok hL (firstH s) [] [] (by omega)
        cases hf : askB (firstH s) with
        | false =>
          rw [readH_line hsp hf]
          rw [hf] at c2
          refine ⟨firstH s, (hdC s).2.1, [], [], fieldsL s, false, ?_⟩
          refine Fn.of' Tryz.func32 (by kernel_rfl) (by kernel_rfl) (by kernel_rfl) (by kernel_rfl) trivial ?_
          clear hf
          refine Wp.go (mx := true) (fun _ => mixed) [(3, {grd := [(3, true), (4, true), (5, true), (6, true), (7, true), (8, true), (9, true), (10, true)], cs := [(9, cb [0] c2)]}), (2, {cs := [(2, cb [49] c1)]})] 100 [true, false, false] [((0 : Int) == (0 : Int)) = true, ((0 : Int) == (0 : Int)) = true, ((0 : Int) == (0 : Int)) = true, ((0 : Int) == (0 : Int)) = true, ((0 : Int) == (0 : Int)) = true, ((0 : Int) == (0 : Int)) = true, ((0 : Int) == (0 : Int)) = true, ((0 : Int) == (0 : Int)) = true, (bif (0 : Int) == (0 : Int) then !false else false) = true, ((3 : Int) == (0 : Int)) = false, ((3 : Int) == (0 : Int)) = false] (by kernel_rfl) (by kernel_rfl) (by kernel_rfl) ⟨rfl, rfl, rfl, rfl, rfl, rfl, rfl, rfl, rfl, rfl, rfl⟩ ?_
          refine Wp.ent' (by kernel_rfl) (Ent.blkE (id := 49) (b := rdB (firstH s) .nilsl (hdC s).2.1 (encL (fieldsL s)) [] false) (b' := rdB (firstH s) (encH []) (hdC s).2.1 (encL (fieldsL s)) [] false) (by kernel_rfl) (rdz_eqv _ _ _) rfl) ?_
          refine Wp.ret' (by kernel_rfl) ?_
          exact FinQ.blk [49] (by kernel_rfl) (by kernel_rfl) (by kernel_rfl) (by kernel_rfl) (by kernel_rfl) trivial
        | true =>
          rw [hf] at c2
          have c3 := rfields_ok hL (firstH s) (hdC s).2.1 (fieldsL s) hfe hfn
          cases hO : fieldsO (fieldsL s) [] with
          | false =>
            rw [readH_flds hsp hf hO]
            rw [hO] at c3
            refine ⟨firstH s, (hdC s).2.1, (fGet (fieldsA (fieldsL s) []) clN).getD [], (fieldsA (fieldsL s) []).filter notCl, fieldsL s, (fGet (fieldsA (fieldsL s) []) clN).isSome, ?_⟩
            refine Fn.of' Tryz.func32 (by kernel_rfl) (by kernel_rfl) (by kernel_rfl) (by kernel_rfl) trivial ?_
            clear hf h
            refine Wp.go (mx := true) (fun _ => mixed) [(3, {grd := [(3, true), (4, true), (5, true), (6, true), (7, true), (8, true), (9, true), (10, true)], cs := [(9, cb [0] c2)]}), (2, {cs := [(2, cb [49] c1)]}), (6, {cs := [(1, cb [49] c3)]})] 100 [false, true, false] [((0 : Int) == (0 : Int)) = true, ((0 : Int) == (0 : Int)) = true, ((0 : Int) == (0 : Int)) = true, ((0 : Int) == (0 : Int)) = true, ((0 : Int) == (0 : Int)) = true, ((0 : Int) == (0 : Int)) = true, ((0 : Int) == (0 : Int)) = true, ((0 : Int) == (0 : Int)) = true, (bif (0 : Int) == (0 : Int) then !true else false) = false, ((0 : Int) == (0 : Int)) = true, ((if false = true then (0 : Int) else (3 : Int)) == (0 : Int)) = false] (by kernel_rfl) (by kernel_rfl) (by kernel_rfl) ⟨rfl, rfl, rfl, rfl, rfl, rfl, rfl, rfl, rfl, rfl, rfl⟩ ?_
            refine Wp.ret' (by kernel_rfl) ?_
            exact FinQ.blk [49] (by kernel_rfl) (by kernel_rfl) (by kernel_rfl) (by kernel_rfl) (by kernel_rfl) trivial
          | true =>
            rw [readH_end hsp hf hO] at h ⊢
            rw [hO] at c3
            have c4 := rsized_ok (G := G) (firstH s) (hdC s).2.1 ((fGet (fieldsA (fieldsL s) []) clN).getD []) (fGet (fieldsA (fieldsL s) []) clN).isSome ((fieldsA (fieldsL s) []).filter notCl) (fieldsL s) (by omega) (by omega)
            rw [show szE ((fGet (fieldsA (fieldsL s) []) clN).getD []) (fGet (fieldsA (fieldsL s) []) clN).isSome (hdC s).2.1 = bodyE (fieldsA (fieldsL s) []) (hdC s).2.1 from rfl] at c4
            by_cases he : bodyE (fieldsA (fieldsL s) []) (hdC s).2.1 = 0
            · rw [if_pos he] at h
              exact (h rfl).elim
            · rw [if_neg he]
              refine ⟨firstH s, (hdC s).2.1, (fGet (fieldsA (fieldsL s) []) clN).getD [], (fieldsA (fieldsL s) []).filter notCl, fieldsL s, (fGet (fieldsA (fieldsL s) []) clN).isSome, ?_⟩
              refine Fn.of' Tryz.func32 (by kernel_rfl) (by kernel_rfl) (by kernel_rfl) (by kernel_rfl) trivial ?_
              clear hf h
              refine Wp.go (mx := true) (fun _ => mixed) [(3, {grd := [(3, true), (4, true), (5, true), (6, true), (7, true), (8, true), (9, true), (10, true)], cs := [(9, cb [0] c2)]}), (2, {cs := [(2, cb [49] c1)]}), (6, {cs := [(1, cb [49] c3)]}), (8, {cs := [(1, cb [49] c4)]})] 100 [false, true, true] [((0 : Int) == (0 : Int)) = true, ((0 : Int) == (0 : Int)) = true, ((0 : Int) == (0 : Int)) = true, ((0 : Int) == (0 : Int)) = true, ((0 : Int) == (0 : Int)) = true, ((0 : Int) == (0 : Int)) = true, ((0 : Int) == (0 : Int)) = true, ((0 : Int) == (0 : Int)) = true, (bif (0 : Int) == (0 : Int) then !true else false) = false, ((0 : Int) == (0 : Int)) = true, ((if true = true then (0 : Int) else (3 : Int)) == (0 : Int)) = true] (by kernel_rfl) (by kernel_rfl) (by kernel_rfl) ⟨rfl, rfl, rfl, rfl, rfl, rfl, rfl, rfl, rfl, rfl, rfl⟩ ?_
              refine Wp.ret' (by kernel_rfl) ?_
              exact FinQ.blk [49] (by kernel_rfl) (by kernel_rfl) (by kernel_rfl) (by kernel_rfl) (by kernel_rfl) trivial
theorem readsQ_yes (hL : HasLen G) (s : List UInt8) (hl : s.length < 1000000000) (h : (readH askB s).2 = 0) : ∃ (f z : List UInt8) (l : List (List UInt8)) (d : Bool), FnB Tryz.prog G 32 [.box 28 [.str [], .str [], .nilsl, .str []]] [.c (.str s), .c (clo1 33 (.ptr 0 0))] [.c (.ptr 1 0), .c (.int .i64 0)] [(0, .box 28 [.str (askM (firstH s)), .str (askT (firstH s)), .nilsl, .str []]), (1, rdB f (encH (readH askB s).1) (hdC s).2.1 (encL l) z d)] := by
  have hb : (hdC s).2.1.length ≤ s.length := (cut_len s [13, 10, 13, 10]).2
  cases hbig : bigH s with
  | true => rw [readH_no1 hbig] at h; cases h
  | false =>
    cases hi : (hdC s).2.2 with
    | false => rw [readH_no2 hbig hi] at h; cases h
    | true =>
      by_cases hm : (linesH s).length > 25
      · rw [readH_no3 hbig hi hm] at h; cases h
      · have hsp := splitH_yes hbig hi hm
        have c1 := rcut_yes hL s hl hbig hi (by omega)
        have hfs := first_sm s
        have hfl := fldsL_sm s
        have hcl := cl_sm s
        have hfn : (fieldsL s).length < 1000000 := by unfold fieldsL; rw [List.length_drop]; omega
        have hfe : ∀ k, ((fieldsL s).getD k []).length < 1000000000 := fun k => by
          rw [List.getD_eq_getElem?_getD]
          cases hx : (fieldsL s)[k]? with
          | none => show 0 < _; omega
          | some x => have := hfl x (List.mem_of_getElem? hx); simp; omega
        have c2 := askL_ok hL (firstH s) [] [] (by omega)
        cases hf : askB (firstH s) with
        | false => rw [readH_line hsp hf] at h; cases h
        | true =>
          rw [hf] at c2
          have c3 := rfields_ok hL (firstH s) (hdC s).2.1 (fieldsL s) hfe hfn
          cases hO : fieldsO (fieldsL s) [] with
          | false => rw [readH_flds hsp hf hO] at h; cases h
          | true =>
            rw [readH_end hsp hf hO] at h ⊢
            rw [hO] at c3
            have c4 := rsized_ok (G := G) (firstH s) (hdC s).2.1 ((fGet (fieldsA (fieldsL s) []) clN).getD []) (fGet (fieldsA (fieldsL s) []) clN).isSome ((fieldsA (fieldsL s) []).filter notCl) (fieldsL s) (by omega) (by omega)
            rw [show szE ((fGet (fieldsA (fieldsL s) []) clN).getD []) (fGet (fieldsA (fieldsL s) []) clN).isSome (hdC s).2.1 = bodyE (fieldsA (fieldsL s) []) (hdC s).2.1 from rfl] at c4
            by_cases he : bodyE (fieldsA (fieldsL s) []) (hdC s).2.1 = 0
            · rw [if_pos he]
              rw [he] at c4
              refine ⟨firstH s, (fGet (fieldsA (fieldsL s) []) clN).getD [], fieldsL s, (fGet (fieldsA (fieldsL s) []) clN).isSome, ?_⟩
              refine Fn.of' Tryz.func32 (by kernel_rfl) (by kernel_rfl) (by kernel_rfl) (by kernel_rfl) trivial ?_
              clear hf h he
              refine Wp.go (mx := true) (fun _ => mixed) [(3, {grd := [(3, true), (4, true), (5, true), (6, true), (7, true), (8, true), (9, true), (10, true)], cs := [(9, cb [0] c2)]}), (2, {cs := [(2, cb [49] c1)]}), (6, {cs := [(1, cb [49] c3)]}), (8, {cs := [(1, cb [49] c4)]})] 100 [false, true, true] [((0 : Int) == (0 : Int)) = true, ((0 : Int) == (0 : Int)) = true, ((0 : Int) == (0 : Int)) = true, ((0 : Int) == (0 : Int)) = true, ((0 : Int) == (0 : Int)) = true, ((0 : Int) == (0 : Int)) = true, ((0 : Int) == (0 : Int)) = true, ((0 : Int) == (0 : Int)) = true, (bif (0 : Int) == (0 : Int) then !true else false) = false, ((0 : Int) == (0 : Int)) = true, ((if true = true then (0 : Int) else (3 : Int)) == (0 : Int)) = true] (by kernel_rfl) (by kernel_rfl) (by kernel_rfl) ⟨rfl, rfl, rfl, rfl, rfl, rfl, rfl, rfl, rfl, rfl, rfl⟩ ?_
              refine Wp.ret' (by kernel_rfl) ?_
              exact FinQ.blk [49] (by kernel_rfl) (by kernel_rfl) (by kernel_rfl) (by kernel_rfl) (by kernel_rfl) trivial
            · rw [if_neg he] at h
              exact (he h).elim
theorem readsR_no (hL : HasLen G) (s : List UInt8) (hl : s.length < 1000000000) (h : (readH tellB s).2 ≠ 0) : ∃ (f b z : List UInt8) (hd : List FT) (l : List (List UInt8)) (d : Bool), FnB Tryz.prog G 32 [.box 33 [.int .i64 0, .nilsl, .str []]] [.c (.str s), .c (clo1 41 (.ptr 0 0))] [.c (.ptr 1 0), .c (.int .i64 (readH tellB s).2)] [(1, rdB f (encH hd) b (encL l) z d)] := by
  have hb : (hdC s).2.1.length ≤ s.length := (cut_len s [13, 10, 13, 10]).2
  cases hbig : bigH s with
  | true =>
    rw [readH_no1 hbig]
    refine ⟨[], [], [], [], [], false, ?_⟩
    refine Fn.of' Tryz.func32 (by kernel_rfl) (by kernel_rfl) (by kernel_rfl) (by kernel_rfl) trivial ?_
    have c1 := rcut_big hL s hl hbig
    refine Wp.go (mx := true) (fun _ => mixed) [(2, {cs := [(2, cb [49] c1)]}), (3, {grd := [(3, false), (4, false), (5, false), (6, false), (7, false), (8, false), (9, false), (10, false), (11, false)]})] 100 [false, false, false] [((4 : Int) == (0 : Int)) = !true, ((4 : Int) == (0 : Int)) = !true, ((4 : Int) == (0 : Int)) = !true, ((4 : Int) == (0 : Int)) = !true, ((4 : Int) == (0 : Int)) = !true, ((4 : Int) == (0 : Int)) = !true, ((4 : Int) == (0 : Int)) = !true, ((4 : Int) == (0 : Int)) = !true, ((4 : Int) == (0 : Int)) = false, false = false, ((4 : Int) == (0 : Int)) = false, ((4 : Int) == (0 : Int)) = false] (by kernel_rfl) (by kernel_rfl) (by kernel_rfl) ⟨rfl, rfl, rfl, rfl, rfl, rfl, rfl, rfl, rfl, rfl, rfl, rfl⟩ ?_
    refine Wp.ret' (by kernel_rfl) ?_
    exact FinQ.blk [49] (by kernel_rfl) (by kernel_rfl) (by kernel_rfl) (by kernel_rfl) (by kernel_rfl) trivial
  | false =>
    cases hi : (hdC s).2.2 with
    | false =>
      rw [readH_no2 hbig hi]
      refine ⟨[], [], [], [], [], false, ?_⟩
      refine Fn.of' Tryz.func32 (by kernel_rfl) (by kernel_rfl) (by kernel_rfl) (by kernel_rfl) trivial ?_
      have c1 := rcut_form hL s hl hbig hi
      refine Wp.go (mx := true) (fun _ => mixed) [(2, {cs := [(2, cb [49] c1)]}), (3, {grd := [(3, false), (4, false), (5, false), (6, false), (7, false), (8, false), (9, false), (10, false), (11, false)]})] 100 [false, false, false] [((3 : Int) == (0 : Int)) = !true, ((3 : Int) == (0 : Int)) = !true, ((3 : Int) == (0 : Int)) = !true, ((3 : Int) == (0 : Int)) = !true, ((3 : Int) == (0 : Int)) = !true, ((3 : Int) == (0 : Int)) = !true, ((3 : Int) == (0 : Int)) = !true, ((3 : Int) == (0 : Int)) = !true, ((3 : Int) == (0 : Int)) = false, false = false, ((3 : Int) == (0 : Int)) = false, ((3 : Int) == (0 : Int)) = false] (by kernel_rfl) (by kernel_rfl) (by kernel_rfl) ⟨rfl, rfl, rfl, rfl, rfl, rfl, rfl, rfl, rfl, rfl, rfl, rfl⟩ ?_
      refine Wp.ret' (by kernel_rfl) ?_
      exact FinQ.blk [49] (by kernel_rfl) (by kernel_rfl) (by kernel_rfl) (by kernel_rfl) (by kernel_rfl) trivial
    | true =>
      by_cases hm : (linesH s).length > 25
      · rw [readH_no3 hbig hi hm]
        refine ⟨[], (hdC s).2.1, [], [], linesH s, false, ?_⟩
        refine Fn.of' Tryz.func32 (by kernel_rfl) (by kernel_rfl) (by kernel_rfl) (by kernel_rfl) trivial ?_
        have c1 := rcut_many hL s hl hbig hi hm
        refine Wp.go (mx := true) (fun _ => mixed) [(2, {cs := [(2, cb [49] c1)]}), (3, {grd := [(3, false), (4, false), (5, false), (6, false), (7, false), (8, false), (9, false), (10, false), (11, false)]})] 100 [false, false, false] [((4 : Int) == (0 : Int)) = !true, ((4 : Int) == (0 : Int)) = !true, ((4 : Int) == (0 : Int)) = !true, ((4 : Int) == (0 : Int)) = !true, ((4 : Int) == (0 : Int)) = !true, ((4 : Int) == (0 : Int)) = !true, ((4 : Int) == (0 : Int)) = !true, ((4 : Int) == (0 : Int)) = !true, ((4 : Int) == (0 : Int)) = false, false = false, ((4 : Int) == (0 : Int)) = false, ((4 : Int) == (0 : Int)) = false] (by kernel_rfl) (by kernel_rfl) (by kernel_rfl) ⟨rfl, rfl, rfl, rfl, rfl, rfl, rfl, rfl, rfl, rfl, rfl, rfl⟩ ?_
        refine Wp.ret' (by kernel_rfl) ?_
        exact FinQ.blk [49] (by kernel_rfl) (by kernel_rfl) (by kernel_rfl) (by kernel_rfl) (by kernel_rfl) trivial
      · have hsp := splitH_yes hbig hi hm
        have c1 := rcut_yes hL s hl hbig hi (by omega)
        have hfs := first_sm s
        have hfl := fldsL_sm s
        have hcl := cl_sm s
        have hfn : (fieldsL s).length < 1000000 := by unfold fieldsL; rw [List.length_drop]; omega
        have hfe : ∀ k, ((fieldsL s).getD k []).length < 1000000000 := fun k => by
          rw [List.getD_eq_getElem?_getD]
          cases hx : (fieldsL s)[k]? with
          | none => show 0 < _; omega
          | some x => have := hfl x (List.mem_of_getElem? hx); simp; omega
        have c2 := tellL_ok hL (firstH s) 0 (by omega)
        cases hf : tellB (firstH s) with
        | false =>
          rw [readH_line hsp hf]
          rw [hf] at c2
          refine ⟨firstH s, (hdC s).2.1, [], [], fieldsL s, false, ?_⟩
          refine Fn.of' Tryz.func32 (by kernel_rfl) (by kernel_rfl) (by kernel_rfl) (by kernel_rfl) trivial ?_
          clear hf
          refine Wp.go (mx := true) (fun _ => mixed) [(3, {grd := [(3, true), (4, true), (5, true), (6, true), (7, true), (8, true), (9, true), (10, true)], cs := [(9, cb [0] c2)]}), (2, {cs := [(2, cb [49] c1)]})] 100 [true, false, false] [((0 : Int) == (0 : Int)) = true, ((0 : Int) == (0 : Int)) = true, ((0 : Int) == (0 : Int)) = true, ((0 : Int) == (0 : Int)) = true, ((0 : Int) == (0 : Int)) = true, ((0 : Int) == (0 : Int)) = true, ((0 : Int) == (0 : Int)) = true, ((0 : Int) == (0 : Int)) = true, (bif (0 : Int) == (0 : Int) then !false else false) = true, ((3 : Int) == (0 : Int)) = false, ((3 : Int) == (0 : Int)) = false] (by kernel_rfl) (by kernel_rfl) (by kernel_rfl) ⟨rfl, rfl, rfl, rfl, rfl, rfl, rfl, rfl, rfl, rfl, rfl⟩ ?_
          refine Wp.ent' (by kernel_rfl) (Ent.blkE (id := 49) (b := rdB (firstH s) .nilsl (hdC s).2.1 (encL (fieldsL s)) [] false) (b' := rdB (firstH s) (encH []) (hdC s).2.1 (encL (fieldsL s)) [] false) (by kernel_rfl) (rdz_eqv _ _ _) rfl) ?_
          refine Wp.ret' (by kernel_rfl) ?_
          exact FinQ.blk [49] (by kernel_rfl) (by kernel_rfl) (by kernel_rfl) (by kernel_rfl) (by kernel_rfl) trivial
        | true =>
          rw [hf] at c2
          have c3 := rfields_ok hL (firstH s) (hdC s).2.1 (fieldsL s) hfe hfn
          cases hO : fieldsO (fieldsL s) [] with
          | false =>
            rw [readH_flds hsp hf hO]
            rw [hO] at c3
            refine ⟨firstH s, (hdC s).2.1, (fGet (fieldsA (fieldsL s) []) clN).getD [], (fieldsA (fieldsL s) []).filter notCl, fieldsL s, (fGet (fieldsA (fieldsL s) []) clN).isSome, ?_⟩
            refine Fn.of' Tryz.func32 (by kernel_rfl) (by kernel_rfl) (by kernel_rfl) (by kernel_rfl) trivial ?_
            clear hf h
            refine Wp.go (mx := true) (fun _ => mixed) [(3, {grd := [(3, true), (4, true), (5, true), (6, true), (7, true), (8, true), (9, true), (10, true)], cs := [(9, cb [0] c2)]}), (2, {cs := [(2, cb [49] c1)]}), (6, {cs := [(1, cb [49] c3)]})] 100 [false, true, false] [((0 : Int) == (0 : Int)) = true, ((0 : Int) == (0 : Int)) = true, ((0 : Int) == (0 : Int)) = true, ((0 : Int) == (0 : Int)) = true, ((0 : Int) == (0 : Int)) = true, ((0 : Int) == (0 : Int)) = true, ((0 : Int) == (0 : Int)) = true, ((0 : Int) == (0 : Int)) = true, (bif (0 : Int) == (0 : Int) then !true else false) = false, ((0 : Int) == (0 : Int)) = true, ((if false = true then (0 : Int) else (3 : Int)) == (0 : Int)) = false] (by kernel_rfl) (by kernel_rfl) (by kernel_rfl) ⟨rfl, rfl, rfl, rfl, rfl, rfl, rfl, rfl, rfl, rfl, rfl⟩ ?_
            refine Wp.ret' (by kernel_rfl) ?_
            exact FinQ.blk [49] (by kernel_rfl) (by kernel_rfl) (by kernel_rfl) (by kernel_rfl) (by kernel_rfl) trivial
          | true =>
            rw [readH_end hsp hf hO] at h ⊢
            rw [hO] at c3
            have c4 := rsized_ok (G := G) (firstH s) (hdC s).2.1 ((fGet (fieldsA (fieldsL s) []) clN).getD []) (fGet (fieldsA (fieldsL s) []) clN).isSome ((fieldsA (fieldsL s) []).filter notCl) (fieldsL s) (by omega) (by omega)
            rw [show szE ((fGet (fieldsA (fieldsL s) []) clN).getD []) (fGet (fieldsA (fieldsL s) []) clN).isSome (hdC s).2.1 = bodyE (fieldsA (fieldsL s) []) (hdC s).2.1 from rfl] at c4
            by_cases he : bodyE (fieldsA (fieldsL s) []) (hdC s).2.1 = 0
            · rw [if_pos he] at h
              exact (h rfl).elim
            · rw [if_neg he]
              refine ⟨firstH s, (hdC s).2.1, (fGet (fieldsA (fieldsL s) []) clN).getD [], (fieldsA (fieldsL s) []).filter notCl, fieldsL s, (fGet (fieldsA (fieldsL s) []) clN).isSome, ?_⟩
              refine Fn.of' Tryz.func32 (by kernel_rfl) (by kernel_rfl) (by kernel_rfl) (by kernel_rfl) trivial ?_
              clear hf h
              refine Wp.go (mx := true) (fun _ => mixed) [(3, {grd := [(3, true), (4, true), (5, true), (6, true), (7, true), (8, true), (9, true), (10, true)], cs := [(9, cb [0] c2)]}), (2, {cs := [(2, cb [49] c1)]}), (6, {cs := [(1, cb [49] c3)]}), (8, {cs := [(1, cb [49] c4)]})] 100 [false, true, true] [((0 : Int) == (0 : Int)) = true, ((0 : Int) == (0 : Int)) = true, ((0 : Int) == (0 : Int)) = true, ((0 : Int) == (0 : Int)) = true, ((0 : Int) == (0 : Int)) = true, ((0 : Int) == (0 : Int)) = true, ((0 : Int) == (0 : Int)) = true, ((0 : Int) == (0 : Int)) = true, (bif (0 : Int) == (0 : Int) then !true else false) = false, ((0 : Int) == (0 : Int)) = true, ((if true = true then (0 : Int) else (3 : Int)) == (0 : Int)) = true] (by kernel_rfl) (by kernel_rfl) (by kernel_rfl) ⟨rfl, rfl, rfl, rfl, rfl, rfl, rfl, rfl, rfl, rfl, rfl⟩ ?_
              refine Wp.ret' (by kernel_rfl) ?_
              exact FinQ.blk [49] (by kernel_rfl) (by kernel_rfl) (by kernel_rfl) (by kernel_rfl) (by kernel_rfl) trivial
theorem readsR_yes (hL : HasLen G) (s : List UInt8) (hl : s.length < 1000000000) (h : (readH tellB s).2 = 0) : ∃ (f z : List UInt8) (l : List (List UInt8)) (d : Bool), FnB Tryz.prog G 32 [.box 33 [.int .i64 0, .nilsl, .str []]] [.c (.str s), .c (clo1 41 (.ptr 0 0))] [.c (.ptr 1 0), .c (.int .i64 0)] [(0, .box 33 [.int .i64 (tellN (firstH s)), .nilsl, .str []]), (1, rdB f (encH (readH tellB s).1) (hdC s).2.1 (encL l) z d)] := by
  have hb : (hdC s).2.1.length ≤ s.length := (cut_len s [13, 10, 13, 10]).2
  cases hbig : bigH s with
  | true => rw [readH_no1 hbig] at h; cases h
  | false =>
    cases hi : (hdC s).2.2 with
    | false => rw [readH_no2 hbig hi] at h; cases h
    | true =>
      by_cases hm : (linesH s).length > 25
      · rw [readH_no3 hbig hi hm] at h; cases h
      · have hsp := splitH_yes hbig hi hm
        have c1 := rcut_yes hL s hl hbig hi (by omega)
        have hfs := first_sm s
        have hfl := fldsL_sm s
        have hcl := cl_sm s
        have hfn : (fieldsL s).length < 1000000 := by unfold fieldsL; rw [List.length_drop]; omega
        have hfe : ∀ k, ((fieldsL s).getD k []).length < 1000000000 := fun k => by
          rw [List.getD_eq_getElem?_getD]
          cases hx : (fieldsL s)[k]? with
          | none => show 0 < _; omega
          | some x => have := hfl x (List.mem_of_getElem? hx); simp; omega
        have c2 := tellL_ok hL (firstH s) 0 (by omega)
        cases hf : tellB (firstH s) with
        | false => rw [readH_line hsp hf] at h; cases h
        | true =>
          rw [hf] at c2
          have c3 := rfields_ok hL (firstH s) (hdC s).2.1 (fieldsL s) hfe hfn
          cases hO : fieldsO (fieldsL s) [] with
          | false => rw [readH_flds hsp hf hO] at h; cases h
          | true =>
            rw [readH_end hsp hf hO] at h ⊢
            rw [hO] at c3
            have c4 := rsized_ok (G := G) (firstH s) (hdC s).2.1 ((fGet (fieldsA (fieldsL s) []) clN).getD []) (fGet (fieldsA (fieldsL s) []) clN).isSome ((fieldsA (fieldsL s) []).filter notCl) (fieldsL s) (by omega) (by omega)
            rw [show szE ((fGet (fieldsA (fieldsL s) []) clN).getD []) (fGet (fieldsA (fieldsL s) []) clN).isSome (hdC s).2.1 = bodyE (fieldsA (fieldsL s) []) (hdC s).2.1 from rfl] at c4
            by_cases he : bodyE (fieldsA (fieldsL s) []) (hdC s).2.1 = 0
            · rw [if_pos he]
              rw [he] at c4
              refine ⟨firstH s, (fGet (fieldsA (fieldsL s) []) clN).getD [], fieldsL s, (fGet (fieldsA (fieldsL s) []) clN).isSome, ?_⟩
              refine Fn.of' Tryz.func32 (by kernel_rfl) (by kernel_rfl) (by kernel_rfl) (by kernel_rfl) trivial ?_
              clear hf h he
              refine Wp.go (mx := true) (fun _ => mixed) [(3, {grd := [(3, true), (4, true), (5, true), (6, true), (7, true), (8, true), (9, true), (10, true)], cs := [(9, cb [0] c2)]}), (2, {cs := [(2, cb [49] c1)]}), (6, {cs := [(1, cb [49] c3)]}), (8, {cs := [(1, cb [49] c4)]})] 100 [false, true, true] [((0 : Int) == (0 : Int)) = true, ((0 : Int) == (0 : Int)) = true, ((0 : Int) == (0 : Int)) = true, ((0 : Int) == (0 : Int)) = true, ((0 : Int) == (0 : Int)) = true, ((0 : Int) == (0 : Int)) = true, ((0 : Int) == (0 : Int)) = true, ((0 : Int) == (0 : Int)) = true, (bif (0 : Int) == (0 : Int) then !true else false) = false, ((0 : Int) == (0 : Int)) = true, ((if true = true then (0 : Int) else (3 : Int)) == (0 : Int)) = true] (by kernel_rfl) (by kernel_rfl) (by kernel_rfl) ⟨rfl, rfl, rfl, rfl, rfl, rfl, rfl, rfl, rfl, rfl, rfl⟩ ?_
              refine Wp.ret' (by kernel_rfl) ?_
              exact FinQ.blk [49] (by kernel_rfl) (by kernel_rfl) (by kernel_rfl) (by kernel_rfl) (by kernel_rfl) trivial
            · rw [if_neg he] at h
              exact (he h).elim
end Go.Proofs.Tw
end

section
open Go Go.Sv Go.RowKit
namespace Go.Proofs.Tw
attribute [local irreducible] Wp FinQ resV Ent Pur Go.Sv.Fn Sat0
set_option maxRecDepth 100000
set_option maxHeartbeats 4000000
variable {G : Nat → Option (List Cell)}

theorem parseQ_ok (hL : HasLen G) (s : List UInt8) (hl : s.length < 1000000000) : Pur Tryz.prog G 9 [.c (.str s)] [.agg (encQ (parseQ s).1), .c (.int .i64 (parseQ s).2)] := by
  have e0 : EqvD (.agg [.str [], .str [], .nilsl, .str []]) (.agg (encQ QT.nil)) := agg_eqv (.cons CEq.rfl' (.cons CEq.rfl' (.cons CEq.nil (.cons CEq.rfl' .nil))))
  cases hr : decide ((readH askB s).2 = 0) with
  | false =>
    have hr := of_decide_eq_false hr
    obtain ⟨f, b, z, hd, l, d, c⟩ := readsQ_no hL s hl hr
    have hp : parseQ s = (QT.nil, (readH askB s).2) := by unfold parseQ; rw [if_neg hr]
    rw [hp]
    have ht : ((readH askB s).2 != 0) = true := bne_iff_ne.2 hr
    generalize (readH askB s).2 = e at c ht
    clear hr hp
    refine Pur.of Tryz.func9 (by kernel_rfl) (by kernel_rfl) (by kernel_rfl) ?_
    refine Wp.go (mx := true) (fun _ => mixed) [(2, {cs := [(2, cb [32] c)], fm := [(1, .c (clo1 33 (.ptr 32 0)))]}), (4, {fm := [(0, .agg (encQ QT.nil))]})] 100 [true] [EqvI (V1.c (cloRaw (33 : Nat) [V1.c (Cell.ptr (32 : Nat) (0 : Nat))])) (V1.c (clo1 (33 : FuncId) (Cell.ptr (32 : Nat) (0 : Nat)))), EqvD (V1.c (cloRaw (33 : Nat) [V1.c (Cell.ptr (32 : Nat) (0 : Nat))])) (V1.c (clo1 (33 : FuncId) (Cell.ptr (32 : Nat) (0 : Nat)))), (e != (0 : Int)) = true, EqvI (V1.agg [Cell.str [], Cell.str [], Cell.nilsl, Cell.str []]) (V1.agg (encQ QT.nil)), EqvD (V1.agg [Cell.str [], Cell.str [], Cell.nilsl, Cell.str []]) (V1.agg (encQ QT.nil))] (by kernel_rfl) (by kernel_rfl) (by kernel_rfl) ⟨clo1_I _ _, clo1_D _ _, (by assumption), eqvI_flat _ _ (by kernel_rfl), (show EqvD (V1.agg [Cell.str [], Cell.str [], Cell.nilsl, Cell.str []]) (V1.agg (encQ QT.nil)) from (by assumption))⟩ ?_
    refine Wp.ret' (by kernel_rfl) ?_
    exact FinQ.pure (rs' := [V1.agg [Cell.str QT.nil.method, Cell.str QT.nil.target, Cell.sl (2 : Nat) QT.nil.head.length fun (i j : Nat) => nthD (encF (QT.nil.head.getD i FT.nil)) j, Cell.str QT.nil.body], V1.c (Cell.int .i64 e)]) (by kernel_rfl) rfl (by kernel_rfl)
  | true =>
    have hr := of_decide_eq_true hr
    obtain ⟨f, z, l, d, c⟩ := readsQ_yes hL s hl hr
    have hp : parseQ s = (⟨askM (firstH s), askT (firstH s), (readH askB s).1, (hdC s).2.1⟩, 0) := by unfold parseQ; rw [if_pos hr]
    rw [hp]
    have ht : ((0 : Int) != 0) = false := rfl
    generalize (readH askB s).1 = H at c
    clear hr hp
    refine Pur.of Tryz.func9 (by kernel_rfl) (by kernel_rfl) (by kernel_rfl) ?_
    refine Wp.go (mx := true) (fun _ => mixed) [(2, {cs := [(2, cb [32] c)], fm := [(1, .c (clo1 33 (.ptr 32 0)))]})] 100 [false] [EqvI (V1.c (cloRaw (33 : Nat) [V1.c (Cell.ptr (32 : Nat) (0 : Nat))])) (V1.c (clo1 (33 : FuncId) (Cell.ptr (32 : Nat) (0 : Nat)))), EqvD (V1.c (cloRaw (33 : Nat) [V1.c (Cell.ptr (32 : Nat) (0 : Nat))])) (V1.c (clo1 (33 : FuncId) (Cell.ptr (32 : Nat) (0 : Nat)))), ((0 : Int) != (0 : Int)) = false] (by kernel_rfl) (by kernel_rfl) (by kernel_rfl) ⟨clo1_I _ _, clo1_D _ _, rfl⟩ ?_
    refine Wp.ret' (by kernel_rfl) ?_
    exact FinQ.pure (rs' := [V1.agg [Cell.str (askM (firstH s)), Cell.str (askT (firstH s)), Cell.sl (2 : Nat) H.length fun (i j : Nat) => nthD (encF (H.getD i FT.nil)) j, Cell.str (hdC s).2.fst], V1.c (Cell.int .i64 (0 : Int))]) (by kernel_rfl) rfl (by kernel_rfl)
theorem parseR_ok (hL : HasLen G) (s : List UInt8) (hl : s.length < 1000000000) : Pur Tryz.prog G 11 [.c (.str s)] [.agg (encT (parseR s).1), .c (.int .i64 (parseR s).2)] := by
  have e0 : EqvD (.agg [.int .i64 0, .nilsl, .str []]) (.agg (encT nilR)) := agg_eqv (.cons CEq.rfl' (.cons CEq.nil (.cons CEq.rfl' .nil)))
  cases hr : decide ((readH tellB s).2 = 0) with
  | false =>
    have hr := of_decide_eq_false hr
    obtain ⟨f, b, z, hd, l, d, c⟩ := readsR_no hL s hl hr
    have hp : parseR s = (nilR, (readH tellB s).2) := by unfold parseR; rw [if_neg hr]
    rw [hp]
    have ht : ((readH tellB s).2 != 0) = true := bne_iff_ne.2 hr
    generalize (readH tellB s).2 = e at c ht
    clear hr hp
    refine Pur.of Tryz.func11 (by kernel_rfl) (by kernel_rfl) (by kernel_rfl) ?_
    refine Wp.go (mx := true) (fun _ => mixed) [(2, {cs := [(2, cb [32] c)], fm := [(1, .c (clo1 41 (.ptr 32 0)))]}), (4, {fm := [(0, .agg (encT nilR))]})] 100 [true] [EqvI (V1.c (cloRaw (41 : Nat) [V1.c (Cell.ptr (32 : Nat) (0 : Nat))])) (V1.c (clo1 (41 : FuncId) (Cell.ptr (32 : Nat) (0 : Nat)))), EqvD (V1.c (cloRaw (41 : Nat) [V1.c (Cell.ptr (32 : Nat) (0 : Nat))])) (V1.c (clo1 (41 : FuncId) (Cell.ptr (32 : Nat) (0 : Nat)))), (e != (0 : Int)) = true, EqvI (V1.agg [Cell.int .i64 (0 : Int), Cell.nilsl, Cell.str []]) (V1.agg (encT nilR)), EqvD (V1.agg [Cell.int .i64 (0 : Int), Cell.nilsl, Cell.str []]) (V1.agg (encT nilR))] (by kernel_rfl) (by kernel_rfl) (by kernel_rfl) ⟨clo1_I _ _, clo1_D _ _, (by assumption), eqvI_flat _ _ (by kernel_rfl), (show EqvD (V1.agg [Cell.int .i64 (0 : Int), Cell.nilsl, Cell.str []]) (V1.agg (encT nilR)) from (by assumption))⟩ ?_
    refine Wp.ret' (by kernel_rfl) ?_
    exact FinQ.pure (rs' := [V1.agg [Cell.int .i64 nilR.status, Cell.sl (2 : Nat) nilR.head.length fun (i j : Nat) => nthD (encF (nilR.head.getD i FT.nil)) j, Cell.str nilR.body], V1.c (Cell.int .i64 e)]) (by kernel_rfl) rfl (by kernel_rfl)
  | true =>
    have hr := of_decide_eq_true hr
    obtain ⟨f, z, l, d, c⟩ := readsR_yes hL s hl hr
    have hp : parseR s = (⟨tellN (firstH s), (readH tellB s).1, (hdC s).2.1⟩, 0) := by unfold parseR; rw [if_pos hr]
    rw [hp]
    have ht : ((0 : Int) != 0) = false := rfl
    generalize (readH tellB s).1 = H at c
    clear hr hp
    refine Pur.of Tryz.func11 (by kernel_rfl) (by kernel_rfl) (by kernel_rfl) ?_
    refine Wp.go (mx := true) (fun _ => mixed) [(2, {cs := [(2, cb [32] c)], fm := [(1, .c (clo1 41 (.ptr 32 0)))]})] 100 [false] [EqvI (V1.c (cloRaw (41 : Nat) [V1.c (Cell.ptr (32 : Nat) (0 : Nat))])) (V1.c (clo1 (41 : FuncId) (Cell.ptr (32 : Nat) (0 : Nat)))), EqvD (V1.c (cloRaw (41 : Nat) [V1.c (Cell.ptr (32 : Nat) (0 : Nat))])) (V1.c (clo1 (41 : FuncId) (Cell.ptr (32 : Nat) (0 : Nat)))), ((0 : Int) != (0 : Int)) = false] (by kernel_rfl) (by kernel_rfl) (by kernel_rfl) ⟨clo1_I _ _, clo1_D _ _, rfl⟩ ?_
    refine Wp.ret' (by kernel_rfl) ?_
    exact FinQ.pure (rs' := [V1.agg [Cell.int .i64 (tellN (firstH s)), Cell.sl (2 : Nat) H.length fun (i j : Nat) => nthD (encF (H.getD i FT.nil)) j, Cell.str (hdC s).2.fst], V1.c (Cell.int .i64 (0 : Int))]) (by kernel_rfl) rfl (by kernel_rfl)
end Go.Proofs.Tw
end

section
open Go Go.Sv
namespace Go.Proofs.Tw
attribute [local irreducible] Wp FinQ resV Ent Pur Go.Sv.Fn Sat0
set_option maxRecDepth 100000
set_option maxHeartbeats 4000000
variable {G : Nat → Option (List Cell)}

end Go.Proofs.Tw
end

section
open Go Go.Sv
namespace Go.Proofs.Tw
attribute [local irreducible] Wp FinQ resV Ent Pur Go.Sv.Fn Sat0
set_option maxRecDepth 100000
set_option maxHeartbeats 4000000
variable {G : Nat → Option (List Cell)}

end Go.Proofs.Tw
end

section
open Go Go.Sv
namespace Go.Proofs.Tw
attribute [local irreducible] Wp FinQ resV Ent Pur Go.Sv.Fn Sat0
set_option maxRecDepth 100000
set_option maxHeartbeats 4000000
variable {G : Nat → Option (List Cell)}

theorem idx_at (a t r : List UInt8) (c : UInt8) (h : c ∉ a) : Lib.index (a ++ (c :: r) ++ t) (c :: r) = a.length := by
  refine Lib.index_first (by simp only [List.length_append]; omega) ?_ (fun j hj => ?_)
  · unfold Lib.occAt
    rw [List.append_assoc, List.drop_left]
    exact List.isPrefixOf_iff_prefix.2 (List.prefix_append _ _)
  · unfold Lib.occAt
    have hx : (a ++ (c :: r) ++ t).drop j = a.getD j 0 :: (a ++ (c :: r) ++ t).drop (j + 1) := by
      rw [dropS _ j (by simp only [List.length_append]; omega)]
      congr 1
      rw [List.append_assoc, List.getD_eq_getElem?_getD, List.getD_eq_getElem?_getD, List.getElem?_append_left hj]
    rw [hx, List.isPrefixOf]
    have : (c == a.getD j 0) = false := by
      rw [beq_eq_false_iff_ne]
      rintro rfl
      exact h (by rw [List.getD_eq_getElem?_getD, List.getElem?_eq_getElem hj]; exact List.getElem_mem hj)
    rw [this]; rfl
theorem cut_at (a t r : List UInt8) (c : UInt8) (h : c ∉ a) : Lib.cut (a ++ (c :: r) ++ t) (c :: r) = (a, t, true) := by
  unfold Lib.cut
  rw [idx_at a t r c h, if_pos (by omega)]
  have e : ((a.length : Nat) : Int).toNat = a.length := by omega
  rw [e, List.append_assoc, List.take_left, ← List.append_assoc, show a.length + (c :: r).length = (a ++ (c :: r)).length from by simp, List.drop_left]
theorem suf_app (a p : List UInt8) : Lib.hasSuffix (a ++ p) p = true ∧ Lib.trimSuffix (a ++ p) p = a := by
  have h : Lib.hasSuffix (a ++ p) p = true := List.isSuffixOf_iff_suffix.2 (List.suffix_append _ _)
  refine ⟨h, ?_⟩
  unfold Lib.trimSuffix
  rw [if_pos h]; simp
end Go.Proofs.Tw
end

section
open Go Go.Sv Go.RowKit
namespace Go.Proofs.Tw
attribute [local irreducible] Wp FinQ resV Ent Pur Go.Sv.Fn Sat0
set_option maxRecDepth 100000
set_option maxHeartbeats 4000000
variable {G : Nat → Option (List Cell)}

end Go.Proofs.Tw
end

section
open Go Go.Sv Go.RowKit
namespace Go.Proofs.Tw
attribute [local irreducible] Wp FinQ resV Ent Pur Go.Sv.Fn Sat0
set_option maxRecDepth 100000
set_option maxHeartbeats 4000000
variable {G : Nat → Option (List Cell)}

end Go.Proofs.Tw
end

section
open Go Go.Sv Go.RowKit
namespace Go.Proofs.Tw
attribute [local irreducible] Wp FinQ resV Ent Pur Go.Sv.Fn Sat0
set_option maxRecDepth 100000
set_option maxHeartbeats 4000000
variable {G : Nat → Option (List Cell)}

def httpV : List UInt8 := [72, 84, 84, 80, 47, 49, 46, 49]
theorem linQ_eqv (m t : List UInt8) : EqvD (.agg [.str m, .str t, .nilsl, .str []]) (.agg (encQ ⟨m, t, [], []⟩)) := agg_eqv (.cons CEq.rfl' (.cons CEq.rfl' (.cons CEq.nil (.cons CEq.rfl' .nil))))
theorem dig_seen {t : List UInt8} (h : t.all digitB = true) : t.all seenB = true := by
  rw [List.all_eq_true] at h ⊢
  intro c hc
  have : ∀ c : UInt8, (!digitB c || seenB c) = true := byte_all _ (by kernel_rfl)
  have := this c
  rw [h c hc] at this
  simpa using this
end Go.Proofs.Tw
end

section
open Go Go.Sv Go.RowKit
namespace Go.Proofs.Tw
attribute [local irreducible] Wp FinQ resV Ent Pur Go.Sv.Fn Sat0
set_option maxRecDepth 100000
set_option maxHeartbeats 4000000
variable {G : Nat → Option (List Cell)}

theorem filter_none {l : List FT} (h : fGet l clN = none) : l.filter notCl = l := by
  rw [List.filter_eq_self]
  intro f hf
  unfold notCl
  cases hc : f.name == clN with
  | false => rfl
  | true =>
    have : (fGet l clN).isSome = true := by rw [← fGet_con, List.contains_iff_mem]; exact List.mem_map.2 ⟨f, hf, eq_of_beq hc⟩
    rw [h] at this
    cases this
end Go.Proofs.Tw
end

section
open Go Go.Sv Go.RowKit
namespace Go.Proofs.Tw
attribute [local irreducible] Wp FinQ resV Ent Pur Go.Sv.Fn Sat0
set_option maxRecDepth 100000
set_option maxHeartbeats 4000000
variable {G : Nat → Option (List Cell)}

end Go.Proofs.Tw
end

section
open Go Go.Sv Go.RowKit
namespace Go.Proofs.Tw
attribute [local irreducible] Wp FinQ resV Ent Pur Go.Sv.Fn Sat0
set_option maxRecDepth 100000
set_option maxHeartbeats 4000000
variable {G : Nat → Option (List Cell)}

def askedM (r : QT) : MT := ⟨r.method ++ [32] ++ r.target ++ [32] ++ httpV, r.head, r.body⟩
theorem asked_ok (r : QT) (h1 : r.method.length < 1000000000) (h2 : r.target.length < 1000000000) : Pur Tryz.prog G 51 [.agg (encQ r)] [.agg (encM (askedM r) ++ encQ r)] := by
  refine Pur.of Tryz.func51 (by kernel_rfl) (by kernel_rfl) (by kernel_rfl) ?_
  have q1 : r.method.length + 1 ≤ 9223372036854775807 := by omega
  have q2 : (r.method ++ [32]).length + r.target.length ≤ 9223372036854775807 := by simp; omega
  have q3 : (r.method ++ [32] ++ r.target).length + 1 ≤ 9223372036854775807 := by simp; omega
  have q4 : (r.method ++ [32] ++ r.target ++ [32]).length + 8 ≤ 9223372036854775807 := by simp; omega
  refine Wp.go (mx := true) (fun _ => mixed) [] 100 [] [r.method.length + (1 : Nat) ≤ (9223372036854775807 : Nat), (r.method ++ [(32 : UInt8)]).length + r.target.length ≤ (9223372036854775807 : Nat), (r.method ++ [(32 : UInt8)] ++ r.target).length + (1 : Nat) ≤ (9223372036854775807 : Nat), (r.method ++ [(32 : UInt8)] ++ r.target ++ [(32 : UInt8)]).length + (8 : Nat) ≤ (9223372036854775807 : Nat)] (by kernel_rfl) (by kernel_rfl) (by kernel_rfl) ⟨(by assumption), (by assumption), (by assumption), (show (r.method ++ [(32 : UInt8)] ++ r.target ++ [(32 : UInt8)]).length + (8 : Nat) ≤ (9223372036854775807 : Nat) from (by assumption))⟩ ?_
  refine Wp.ret' (by kernel_rfl) ?_
  exact FinQ.pure (rs' := [V1.agg [Cell.str (r.method ++ [(32 : UInt8)] ++ r.target ++ [(32 : UInt8)] ++ [(72 : UInt8), 84, 84, 80, 47, 49, 46, 49]), Cell.sl (2 : Nat) r.head.length fun (i j : Nat) => nthD (encF (r.head.getD i FT.nil)) j, Cell.str r.body, Cell.str r.method, Cell.str r.target, Cell.sl (2 : Nat) r.head.length fun (i j : Nat) => nthD (encF (r.head.getD i FT.nil)) j, Cell.str r.body]]) (by kernel_rfl) rfl (by kernel_rfl)
def mayAskT (r : QT) : Bool := bif linedT r.method r.target then mayM (askedM r) else false
structure FitQ (r : QT) : Prop where
  h1 : r.method.length < 1000000000
  h2 : r.target.length < 1000000000
  h3 : FitM (askedM r)
theorem mayAsk_ok (hp : HasPow G) (r : QT) (h : FitQ r) : Pur Tryz.prog G 17 [.agg (encQ r)] [.c (.bool (mayAskT r))] := by
  refine Pur.of Tryz.func17 (by kernel_rfl) (by kernel_rfl) (by kernel_rfl) ?_
  have c1 := lined_ok (G := G) r.method r.target (Nat.lt_trans h.h1 (by decide)) (Nat.lt_trans h.h2 (by decide))
  have c2 := asked_ok (G := G) r h.h1 h.h2
  have c3 := mayM_ok hp (askedM r) h.h3
  unfold mayAskT
  refine Wp.go (mx := true) (fun _ => mixed) [(1, {cs := [(4, pc c1), (7, pc c2), (9, pc c3)]})] 100 [] [] (by kernel_rfl) (by kernel_rfl) (by kernel_rfl) trivial ?_
  refine Wp.ret' (by kernel_rfl) ?_
  exact FinQ.pure (rs' := [V1.c (Cell.bool (bif linedT r.method r.target then mayM (askedM r) else false))]) (by kernel_rfl) rfl (by kernel_rfl)
def printAskT (r : QT) : List UInt8 := if mayAskT r then aheadT (askedM r) ++ r.body else []
theorem printAsk_ok (hp : HasPow G) (r : QT) (h : FitQ r) : Pur Tryz.prog G 19 [.agg (encQ r)] [.c (.str (printAskT r))] := by
  refine Pur.of Tryz.func19 (by kernel_rfl) (by kernel_rfl) (by kernel_rfl) ?_
  have c1 := mayAsk_ok hp r h
  have c2 := asked_ok (G := G) r h.h1 h.h2
  have c3 : Pur Tryz.prog G 58 [.agg (encM (askedM r))] [.c (.str (aheadT (askedM r) ++ r.body))] := printM_ok hp (askedM r) h.h3
  unfold printAskT
  generalize aheadT (askedM r) ++ r.body = S at c3 ⊢
  cases hm : mayAskT r with
  | true =>
    rw [if_pos rfl]
    rw [hm] at c1
    clear hm
    refine Wp.go (mx := true) (fun _ => mixed) [(1, {cs := [(1, pc c1)]}), (3, {cs := [(1, pc c2), (3, pc c3)]})] 100 [false] [(!true) = false] (by kernel_rfl) (by kernel_rfl) (by kernel_rfl) rfl ?_
    refine Wp.ret' (by kernel_rfl) ?_
    exact FinQ.pure (rs' := [V1.c (Cell.str S)]) (by kernel_rfl) rfl (by kernel_rfl)
  | false =>
    rw [if_neg (by decide)]
    rw [hm] at c1
    clear hm
    refine Wp.go (mx := true) (fun _ => mixed) [(1, {cs := [(1, pc c1)]})] 100 [true] [(!false) = true] (by kernel_rfl) (by kernel_rfl) (by kernel_rfl) rfl ?_
    refine Wp.ret' (by kernel_rfl) ?_
    exact FinQ.pure (rs' := [V1.c (Cell.str [])]) (by kernel_rfl) rfl (by kernel_rfl)
theorem mayTell_any (hp : HasPow G) (r : RT) (h : 0 ≤ r.status → r.status ≤ 1000 → FitM (toldM r)) : Pur Tryz.prog G 21 [.agg (encT r)] [.c (.bool (mayTell r))] := by
  cases hs : statedT r.status with
  | true =>
    have hs' := hs
    unfold statedT at hs'
    rw [Bool.cond_false_right, Bool.and_eq_true, decide_eq_true_eq, decide_eq_true_eq] at hs'
    exact mayTell_ok hp r (by omega) (by omega) (h (by omega) (by omega))
  | false =>
    refine Pur.of Tryz.func21 (by kernel_rfl) (by kernel_rfl) (by kernel_rfl) ?_
    have c := stated_ok (G := G) r.status
    rw [show mayTell r = false from by unfold mayTell; rw [hs]; rfl]
    rw [hs] at c
    clear hs
    refine Wp.go (mx := true) (fun _ => mixed) [(1, {grd := [(4, false), (5, false), (6, false), (7, false), (8, false)], cs := [(2, pc c)]})] 100 [] [false = !true, false = !true, false = !true, false = !true, false = false] (by kernel_rfl) (by kernel_rfl) (by kernel_rfl) ⟨rfl, rfl, rfl, rfl, rfl⟩ ?_
    refine Wp.ret' (by kernel_rfl) ?_
    exact FinQ.pure (rs' := [V1.c (Cell.bool false)]) (by kernel_rfl) rfl (by kernel_rfl)
theorem printTell_any (hp : HasPow G) (r : RT) (h : 0 ≤ r.status → r.status ≤ 1000 → FitM (toldM r)) : Pur Tryz.prog G 23 [.agg (encT r)] [.c (.str (printTell r))] := by
  cases hs : statedT r.status with
  | true =>
    have hs' := hs
    unfold statedT at hs'
    rw [Bool.cond_false_right, Bool.and_eq_true, decide_eq_true_eq, decide_eq_true_eq] at hs'
    exact printTell_ok hp r (by omega) (by omega) (h (by omega) (by omega))
  | false =>
    refine Pur.of Tryz.func23 (by kernel_rfl) (by kernel_rfl) (by kernel_rfl) ?_
    have c := mayTell_any hp r h
    have hm : mayTell r = false := by unfold mayTell; rw [hs]; rfl
    rw [show printTell r = [] from by unfold printTell; rw [hm]; rfl]
    rw [hm] at c
    clear hs hm
    refine Wp.go (mx := true) (fun _ => mixed) [(1, {cs := [(1, pc c)]})] 100 [true] [(!false) = true] (by kernel_rfl) (by kernel_rfl) (by kernel_rfl) rfl ?_
    refine Wp.ret' (by kernel_rfl) ?_
    exact FinQ.pure (rs' := [V1.c (Cell.str [])]) (by kernel_rfl) rfl (by kernel_rfl)
def okF (f : FT) : Bool := tokenT f.name && ((foldT f.name == f.name) && (!(f.name == clN) && f.value.all seenB))
def mostT (b : List UInt8) : Int := if b == [] then 24 else 23
def headT (l : List FT) (b : List UInt8) : Bool := l.all okF && (decide ((l.length : Int) ≤ mostT b) && (unlikeQ l && decide ((b.length : Int) ≤ 4096)))
def clL (b : List UInt8) : List UInt8 := if b == [] then [] else [99, 111, 110, 116, 101, 110, 116, 45, 108, 101, 110, 103, 116, 104, 58, 32] ++ Lib.itoa b.length ++ [13, 10]
def linesT (l : List FT) (b : List UInt8) : List UInt8 := l.flatMap fieldL ++ clL b ++ [13, 10]
theorem ahead_lines (m : MT) : aheadT m = m.first ++ [13, 10] ++ linesT m.head m.body := by
  unfold aheadT headN linesT lenL clL
  rw [List.take_length]
  simp
end Go.Proofs.Tw
end

section
open Go Go.Sv Go.RowKit
namespace Go.Proofs.Tw
attribute [local irreducible] Wp FinQ resV Ent Pur Go.Sv.Fn Sat0
set_option maxRecDepth 100000
set_option maxHeartbeats 4000000
variable {G : Nat → Option (List Cell)}

theorem fieldsOk_iff : ∀ (l : List FT) (seen : List (List UInt8)), fieldsOk seen l = true ↔ ∀ i, i < l.length → fOk (seen ++ (l.take i).map (·.name)) (l.getD i .nil) = true
  | [], seen => by simp [fieldsOk]
  | x :: r, seen => by
    rw [fieldsOk, Bool.and_eq_true, fieldsOk_iff r]
    constructor
    · rintro ⟨h0, h⟩ i hi
      cases i with
      | zero => simpa using h0
      | succ i =>
        have := h i (by simpa using hi)
        simpa using this
    · intro h
      refine ⟨by simpa using h 0 (by simp), fun i hi => ?_⟩
      have := h (i + 1) (by simpa using hi)
      simpa using this
theorem fOk_iff (names : List (List UInt8)) (f : FT) : fOk ([clN] ++ names) f = true ↔ okF f = true ∧ names.contains f.name = false := by
  unfold fOk okF
  rw [List.contains_append]
  have : ([clN] : List (List UInt8)).contains f.name = (f.name == clN) := by rw [Bool.eq_iff_iff]; simp
  rw [this]
  cases tokenT f.name <;> cases (foldT f.name == f.name) <;> cases (f.name == clN) <;> cases f.value.all seenB <;> cases names.contains f.name <;> simp
theorem fieldsOk_eq (l : List FT) : fieldsOk [clN] l = (l.all okF && unlikeQ l) := by
  rw [Bool.eq_iff_iff, fieldsOk_iff, Bool.and_eq_true]
  have hall : l.all okF = true ↔ ∀ i, i < l.length → okF (l.getD i .nil) = true := by
    rw [List.all_eq_true]
    constructor
    · intro h i hi
      exact h _ (by simp [List.getD, hi])
    · intro h x hx
      obtain ⟨i, hi, rfl⟩ := List.getElem_of_mem hx
      have := h i hi
      simpa [List.getD, hi] using this
  have hunl : unlikeQ l = true ↔ ∀ i, i < l.length → okQ l i = true := by
    unfold unlikeQ
    rw [List.all_eq_true]
    exact ⟨fun h i hi => h i (List.mem_range.2 hi), fun h i hi => h i (List.mem_range.1 hi)⟩
  rw [hall, hunl]
  have hq : ∀ i, okQ l i = (!((l.getD i .nil).name == []) && !((l.take i).map (·.name)).contains (l.getD i .nil).name) := fun i => by
    unfold okQ; rw [← fGet_isIn, ← fGet_con]
  constructor
  · intro h
    refine ⟨fun i hi => ((fOk_iff _ _).1 (h i hi)).1, fun i hi => ?_⟩
    obtain ⟨h1, h2⟩ := (fOk_iff _ _).1 (h i hi)
    rw [hq, h2]
    have : tokenT (l.getD i .nil).name = true := by unfold okF at h1; rw [Bool.and_eq_true] at h1; exact h1.1
    unfold tokenT at this
    rw [Bool.and_eq_true] at this
    rw [this.1]; rfl
  · rintro ⟨h1, h2⟩ i hi
    refine (fOk_iff _ _).2 ⟨h1 i hi, ?_⟩
    have := h2 i hi
    rw [hq, Bool.and_eq_true] at this
    simpa using this.2
theorem mayM_eq (m : MT) : mayM m = (headT m.head m.body && decide (((aheadT m).length : Int) ≤ 2048)) := by
  unfold mayM fieldedT headT
  rw [show fieldsOk [[99, 111, 110, 116, 101, 110, 116, 45, 108, 101, 110, 103, 116, 104]] m.head = fieldsOk [clN] m.head from rfl, fieldsOk_eq, show roomT m = mostT m.body from rfl]
  cases m.head.all okF <;> cases unlikeQ m.head <;> cases decide ((m.head.length : Int) ≤ mostT m.body) <;> cases decide ((m.body.length : Int) ≤ 4096) <;> cases decide (((aheadT m).length : Int) ≤ 2048) <;> rfl
def firstQ (r : QT) : List UInt8 := r.method ++ [32] ++ r.target ++ [32, 72, 84, 84, 80, 47, 49, 46, 49] ++ [13, 10]
def firstR (r : RT) : List UInt8 := verS ++ Lib.itoa r.status ++ [32] ++ reasonT r.status ++ [13, 10]
theorem ahead_Q (r : QT) : aheadT (askedM r) = firstQ r ++ linesT r.head r.body := by
  rw [ahead_lines]
  unfold askedM firstQ httpV
  simp
theorem ahead_R (r : RT) : aheadT (toldM r) = firstR r ++ linesT r.head r.body := by
  rw [ahead_lines]
  unfold toldM firstR verS
  simp
structure FitH (l : List FT) (b : List UInt8) : Prop where
  hn : l.length < 1000000000
  hs : ∀ f ∈ l, f.name.length < 1000000000 ∧ f.value.length < 1000000000
  hb : b.length < 1000000000
  hl : (linesT l b).length ≤ 90000000000000
theorem FitH.q {r : QT} (h : FitH r.head r.body) (h1 : r.method.length < 1000000000) (h2 : r.target.length < 1000000000) : FitQ r := by
  refine ⟨h1, h2, Nat.lt_trans h.hn (by decide), fun f hf => ?_, ?_, ?_⟩
  · have := h.hs f hf; omega
  · have := h.hb; show r.body.length ≤ _; omega
  · rw [ahead_Q]
    unfold firstQ
    have := h.hl
    simp only [List.length_append, List.length_cons, List.length_nil]
    omega
theorem FitH.r {r : RT} (h : FitH r.head r.body) (h0 : 0 ≤ r.status) (h1 : r.status ≤ 1000) : FitM (toldM r) := by
  refine ⟨Nat.lt_trans h.hn (by decide), fun f hf => ?_, ?_, ?_⟩
  · have := h.hs f hf; omega
  · have := h.hb; show r.body.length ≤ _; omega
  · rw [ahead_R]
    unfold firstR verS
    have := h.hl
    have h3 := itoa_len r.status h0 h1
    have h4 := reason_len r.status
    simp only [List.length_append, List.length_cons, List.length_nil]
    omega
end Go.Proofs.Tw
end

section
open Go Go.Sv
namespace Go.Proofs.Tw
set_option maxRecDepth 100000
set_option maxHeartbeats 4000000

theorem pick_in (ss : List (List UInt8)) (ns : List Int) (a : Nat) (h : 0 < ss.length) : pickT ss ns a ∈ ss := by
  have h1 := nextV_rng ns a ss.length (by omega)
  unfold pickT
  rw [List.getD_eq_getElem?_getD, List.getElem?_eq_getElem (by omega)]
  exact List.getElem_mem _
theorem joinTail_le (c : UInt8) (B : Nat) : ∀ xs : List (List UInt8), (∀ x ∈ xs, x.length ≤ B) → (Lib.joinTail [c] xs).length ≤ xs.length * (B + 1)
  | [], _ => Nat.zero_le _
  | x :: r, h => by
    have ih := joinTail_le c B r (fun y hy => h y (List.mem_cons_of_mem _ hy))
    have hx := h x List.mem_cons_self
    unfold Lib.joinTail at ih ⊢
    rw [List.map_cons, List.flatten_cons, List.length_append, List.length_append, List.length_cons, List.length_cons, Nat.succ_mul]
    simp only [List.length_nil]
    omega
theorem join_le (c : UInt8) (B : Nat) (xs : List (List UInt8)) (h : ∀ x ∈ xs, x.length ≤ B) : (Lib.join xs [c]).length ≤ xs.length * (B + 1) := by
  cases xs with
  | nil => exact Nat.zero_le _
  | cons x r =>
    have ih := joinTail_le c B r (fun y hy => h y (List.mem_cons_of_mem _ hy))
    have hx := h x List.mem_cons_self
    rw [Lib.join_cons, List.length_append, List.length_cons, Nat.succ_mul]
    omega
structure Flat (v : JV) : Prop where
  h1 : v.names.length ≤ 3
  h2 : v.kids.length ≤ 3
  h3 : v.kind = 6 → v.kids.length ≤ v.names.length
  h4 : ∀ x ∈ v.names, x.length ≤ 2
  h5 : v.s.length ≤ 20
  h6 : -4611686018427387904 ≤ v.n
  h7 : v.n ≤ 4611686018427387904
  h8 : (Lib.itoa v.n).length ≤ 100
theorem fields_small (ns : List Int) : ∀ (k a : Nat) (l : List FT), (∀ f ∈ l, f.name.length ≤ 20 ∧ f.value.length ≤ 20) → (fldsN ns k a l).length ≤ l.length + k ∧ ∀ f ∈ fldsN ns k a l, f.name.length ≤ 20 ∧ f.value.length ≤ 20
  | 0, a, l, h => ⟨Nat.le_refl _, h⟩
  | k + 1, a, l, h => by
    unfold fldsN
    split
    · split
      · have := fields_small ns k (nextA ns (nextA ns a 9) 8) l h
        exact ⟨by omega, this.2⟩
      · have h1 : ∀ x ∈ names10, x.length ≤ 20 := by decide
        have h2 : ∀ x ∈ vals10, x.length ≤ 20 := by decide
        have := fields_small ns k (nextA ns (nextA ns a 9) 8) (l ++ [⟨pickT names10 ns a, pickT vals10 ns (nextA ns a 9)⟩]) (by
          intro f hf
          rcases List.mem_append.1 hf with hf | hf
          · exact h f hf
          · rcases List.mem_singleton.1 hf with rfl
            exact ⟨h1 _ (pick_in names10 ns a (by decide)), h2 _ (pick_in vals10 ns _ (by decide))⟩)
        rw [List.length_append] at this
        exact ⟨by have := this.1; simp only [List.length_cons, List.length_nil] at this; omega, this.2⟩
    · exact ⟨by omega, h⟩
theorem pctT_le (form : Bool) (s : List UInt8) : (pctT form s).length ≤ 3 * s.length := by
  have h := pctN_len form s s.length (Nat.le_refl _)
  rw [pctN_end] at h
  exact h.2
theorem query_small (l : List FT) (n : Nat) (hn : l.length ≤ n) (h : ∀ f ∈ l, f.name.length ≤ 20 ∧ f.value.length ≤ 20) : (printQ l).length ≤ n * 122 := by
  unfold printQ
  have := join_le 38 121 (l.map fieldQ) (by
    intro x hx
    obtain ⟨f, hf, rfl⟩ := List.mem_map.1 hx
    have := h f hf
    have a := pctT_le true f.name
    have b := pctT_le true f.value
    unfold fieldQ
    simp only [List.length_append, List.length_cons, List.length_nil]
    omega)
  rw [List.length_map] at this
  have := Nat.mul_le_mul_right 122 hn
  omega
theorem uri_fit (ns : List Int) : FitU (uriT ns) := by
  have r := nextV_rng ns (nextA ns (nextA ns 0 7) 6) 6 (by decide)
  have h1 : ∀ x ∈ hostsU, x.length ≤ 20 := by decide
  have h2 : ∀ x ∈ pathsU, x.length ≤ 20 := by decide
  have a := h1 _ (pick_in hostsU ns 0 (by decide))
  have b := h2 _ (pick_in pathsU ns (nextA ns 0 7) (by decide))
  have c := fields_small ns (nextV ns (nextA ns (nextA ns 0 7) 6) 6).toNat 0 [] (by intro f hf; cases hf)
  have d : (fldsN ns (nextV ns (nextA ns (nextA ns 0 7) 6) 6).toNat 0 []).length ≤ 6 := by have := c.1; simp only [List.length_nil] at this; omega
  have e := query_small _ 6 d c.2
  exact ⟨by show (pickT hostsU ns 0).length ≤ _; omega, by show (pickT pathsU ns (nextA ns 0 7)).length ≤ _; omega, by show (fldsN ns _ 0 []).length < _; omega, by show (printQ (fldsN ns _ 0 [])).length ≤ _; omega⟩
end Go.Proofs.Tw
end

section
open Go Go.Sv Go.RowKit
namespace Go.Proofs.Tw
attribute [local irreducible] Wp FinQ resV Ent Pur Go.Sv.Fn Sat0
set_option maxRecDepth 100000
set_option maxHeartbeats 4000000
variable {G : Nat → Option (List Cell)}

/-- Fields that may be a head's, short, of unlike names. -/
def OkG (l : List FT) : Prop := (∀ f ∈ l, okF f = true ∧ f.name.length ≤ 40 ∧ f.value.length ≤ 40) ∧ l.Pairwise (fun x y => x.name ≠ y.name)
theorem fGet_no {l : List FT} {n : List UInt8} (h : (fGet l n).isSome = false) : ∀ f ∈ l, f.name ≠ n := by
  intro f hf he
  rw [← fGet_con] at h
  have : (l.map (·.name)).contains n = true := by rw [List.contains_iff_mem]; exact List.mem_map.2 ⟨f, hf, he⟩
  rw [h] at this
  cases this
end Go.Proofs.Tw
end

section
open Go Go.Sv Go.RowKit
namespace Go.Proofs.Tw
attribute [local irreducible] Wp FinQ resV Ent Pur Go.Sv.Fn Sat0
set_option maxRecDepth 100000
set_option maxHeartbeats 4000000
variable {G : Nat → Option (List Cell)}

theorem getD_mem {l : List FT} {i : Nat} (h : i < l.length) : l.getD i .nil ∈ l := by simp [List.getD, h]
theorem unlike_ok {l : List FT} (h : OkG l) : unlikeQ l = true := by
  unfold unlikeQ
  rw [List.all_eq_true]
  intro i hi
  have hi := List.mem_range.1 hi
  unfold okQ
  have h1 := (h.1 _ (getD_mem hi)).1
  have ht : tokenT (l.getD i .nil).name = true := by unfold okF at h1; rw [Bool.and_eq_true] at h1; exact h1.1
  unfold tokenT at ht
  rw [Bool.and_eq_true] at ht
  rw [ht.1, Bool.true_and, ← fGet_isIn, ← fGet_con]
  cases hc : ((l.take i).map (·.name)).contains (l.getD i .nil).name with
  | false => rfl
  | true =>
    rw [List.contains_iff_mem] at hc
    obtain ⟨f, hf, he⟩ := List.mem_map.1 hc
    obtain ⟨j, hj, rfl⟩ := List.getElem_of_mem hf
    rw [List.length_take] at hj
    have := List.pairwise_iff_getElem.1 h.2 j i (by omega) hi (by omega)
    rw [List.getElem_take] at he
    refine (this ?_).elim
    rw [he]
    simp [List.getD, hi]
theorem flat_len {l : List FT} (h : OkG l) : (l.flatMap fieldL).length ≤ l.length * 84 := by
  induction l with
  | nil => simp
  | cons x r ih =>
    have := ih ⟨fun f hf => h.1 f (by simp [hf]), (List.pairwise_cons.1 h.2).2⟩
    have hx := h.1 x (by simp)
    rw [List.flatMap_cons, List.length_append, field_len, List.length_cons]
    omega
theorem itoa_nat (n : Nat) : Lib.itoa (n : Int) = Lib.decDigits n := by
  unfold Lib.itoa
  rw [if_neg (by omega)]
  simp
theorem dec_len4 {n : Nat} (h : n ≤ 5000) : (Lib.decDigits n).length ≤ 4 := dec_len_le 3 n (by omega)
theorem clL_len (b : List UInt8) (h : b.length ≤ 5000) : (clL b).length ≤ 22 := by
  unfold clL
  split
  · simp
  · rw [itoa_nat]
    have := dec_len4 h
    simp only [List.length_append, List.length_cons, List.length_nil]
    omega
theorem linesT_len {l : List FT} {b : List UInt8} (h : OkG l) (hl : l.length ≤ 3) (hb : b.length ≤ 5000) : (linesT l b).length ≤ 276 := by
  unfold linesT
  have h1 := flat_len h
  have h2 := clL_len b hb
  simp only [List.length_append, List.length_cons, List.length_nil]
  omega
theorem head_ok {l : List FT} {b : List UInt8} (h : OkG l) (hl : l.length ≤ 3) (hb : b.length ≤ 4096) : headT l b = true := by
  unfold headT
  rw [unlike_ok h, List.all_eq_true.2 (fun f hf => (h.1 f hf).1)]
  have : (l.length : Int) ≤ mostT b := by unfold mostT; split <;> omega
  rw [decide_eq_true this, decide_eq_true (by omega)]
  rfl
structure AskF (r : QT) : Prop where
  hm : methT r.method = true
  ht : targT r.target = true
  h1 : r.method.length ≤ 16
  h2 : r.target.length ≤ 20
  hh : OkG r.head
  hn : r.head.length ≤ 3
  hb : r.body.length ≤ 488
theorem AskF.fit {r : QT} (h : AskF r) : FitH r.head r.body := by
  have h1 := h.hn
  have h2 := h.hb
  have h3 := linesT_len h.hh h.hn (by omega : r.body.length ≤ 5000)
  exact ⟨by omega, fun f hf => by have := h.hh.1 f hf; omega, by omega, by omega⟩
theorem AskF.fst {r : QT} (h : AskF r) : (firstQ r).length ≤ 48 := by
  have h1 := h.h1
  have h2 := h.h2
  unfold firstQ
  simp only [List.length_append, List.length_cons, List.length_nil]
  omega
theorem AskF.may {r : QT} (h : AskF r) : mayAskT r = true := by
  unfold mayAskT linedT
  rw [h.hm, h.ht, mayM_eq, ahead_Q]
  have h2 := h.hb
  have h3 := linesT_len h.hh h.hn (by omega : r.body.length ≤ 5000)
  have h4 := h.fst
  rw [show headT (askedM r).head (askedM r).body = true from head_ok h.hh h.hn (by show r.body.length ≤ 4096; omega), decide_eq_true (by rw [List.length_append]; omega)]
  rfl
theorem AskF.len {r : QT} (h : AskF r) : 0 < (printAskT r).length ∧ (printAskT r).length ≤ 900 := by
  unfold printAskT
  rw [h.may, if_pos rfl, ahead_Q]
  have h2 := h.hb
  have h3 := linesT_len h.hh h.hn (by omega : r.body.length ≤ 5000)
  have h4 := h.fst
  have h5 : 2 ≤ (firstQ r).length := by unfold firstQ; simp only [List.length_append, List.length_cons, List.length_nil]; omega
  simp only [List.length_append]
  omega
structure TellF (r : RT) : Prop where
  hs : statedT r.status = true
  h1 : 0 ≤ r.status
  h2 : r.status ≤ 1000
  hh : OkG r.head
  hn : r.head.length ≤ 3
  hb : r.body.length ≤ 488
theorem TellF.fit {r : RT} (h : TellF r) : FitH r.head r.body := by
  have h1 := h.hn
  have h2 := h.hb
  have h3 := linesT_len h.hh h.hn (by omega : r.body.length ≤ 5000)
  exact ⟨by omega, fun f hf => by have := h.hh.1 f hf; omega, by omega, by omega⟩
theorem TellF.fst {r : RT} (h : TellF r) : (firstR r).length ≤ 48 := by
  have h1 := h.h1
  have h2 := h.h2
  have h3 := reason_len r.status
  obtain ⟨n, hn⟩ := Int.eq_ofNat_of_zero_le h1
  have h4 : (Lib.itoa r.status).length ≤ 4 := by rw [hn, itoa_nat]; exact dec_len4 (by omega)
  unfold firstR verS
  simp only [List.length_append, List.length_cons, List.length_nil]
  omega
theorem TellF.may {r : RT} (h : TellF r) : mayTell r = true := by
  unfold mayTell
  rw [h.hs, mayM_eq, ahead_R]
  have h2 := h.hb
  have h3 := linesT_len h.hh h.hn (by omega : r.body.length ≤ 5000)
  have h4 := h.fst
  rw [show headT (toldM r).head (toldM r).body = true from head_ok h.hh h.hn (by show r.body.length ≤ 4096; omega), decide_eq_true (by rw [List.length_append]; omega)]
  rfl
theorem TellF.len {r : RT} (h : TellF r) : 0 < (printTell r).length ∧ (printTell r).length ≤ 900 := by
  unfold printTell
  rw [h.may, if_pos rfl, ahead_R]
  have h2 := h.hb
  have h3 := linesT_len h.hh h.hn (by omega : r.body.length ≤ 5000)
  have h4 := h.fst
  have h5 : 2 ≤ (firstR r).length := by unfold firstR; simp only [List.length_append, List.length_cons, List.length_nil]; omega
  simp only [List.length_append]
  omega
end Go.Proofs.Tw
end

section
open Go Go.Sv Go.RowKit
namespace Go.Proofs.Tw
attribute [local irreducible] Wp FinQ resV Ent Pur Go.Sv.Fn Sat0
set_option maxRecDepth 100000
set_option maxHeartbeats 4000000
variable {G : Nat → Option (List Cell)}

theorem qget_ok (l : List FT) (n : List UInt8) (hl : l.length < 4611686018427387904) : Pur Tryz.prog G 66 [.c (encH l), .c (.str n)] [.c (.str ((fGet l n).getD [])), .c (.bool (fGet l n).isSome)] := by
  refine Pur.of Tryz.func66 (by kernel_rfl) (by kernel_rfl) (by kernel_rfl) ?_
  refine Wp.go (mx := true) (fun _ => mixed) [] 100 [] [] (by kernel_rfl) (by kernel_rfl) (by kernel_rfl) trivial ?_
  refine Wp.loopK (by kernel_rfl) (fun (k : Nat) => ⟨[(1, .v (.c (.str n))), (8, .v (.c (encH l))), (9, .v (.c (.int .i64 (l.length : Int)))), (10, .v (.c (.int .i64 (k : Int))))], [], 80⟩) (fun k => k ≤ l.length ∧ fGet l n = fGet (l.drop k) n) (fun k => l.length - k) 0 (Ent.of [] (by kernel_rfl) (by kernel_rfl) (by kernel_rfl) trivial) ⟨Nat.zero_le _, rfl⟩ ?_
  intro k L ⟨hk, hq⟩ again
  rcases Nat.lt_or_ge k l.length with hlt | hge
  · rw [dropM l .nil k hlt, fGet_cons] at hq
    cases hb : (l.getD k .nil).name == n with
    | true =>
      rw [hb, if_pos rfl] at hq
      rw [hq]
      clear again hq
      refine Wp.go (mx := true) (fun _ => mixed) [] 100 [true, true] [decide ((↑k : Int) < (↑l.length : Int)) = true, (0 : Int) ≤ (↑k : Int) ∧ (↑k : Int) < (↑l.length : Int), ((l.getD k FT.nil).name == n) = true] (by kernel_rfl) (by kernel_rfl) (by kernel_rfl) ⟨(by simp; omega), (by omega), (show ((l.getD k FT.nil).name == n) = true from (by assumption))⟩ ?_
      refine Wp.ret' (by kernel_rfl) ?_
      exact FinQ.pure (rs' := [V1.c (Cell.str (l.getD k FT.nil).value), V1.c (Cell.bool true)]) (by kernel_rfl) rfl (by kernel_rfl)
    | false =>
      rw [hb, if_neg (by decide)] at hq
      refine Wp.go (mx := true) (fun _ => mixed) [] 100 [true, false] [decide ((↑k : Int) < (↑l.length : Int)) = true, (0 : Int) ≤ (↑k : Int) ∧ (↑k : Int) < (↑l.length : Int), ((l.getD k FT.nil).name == n) = false, inR IntKind.i64 ((↑k : Int) + (1 : Int))] (by kernel_rfl) (by kernel_rfl) (by kernel_rfl) ⟨(by simp; omega), (by omega), (by assumption), inR64 (by omega) (by omega)⟩ ?_
      exact Wp.lpK (by kernel_rfl) (again _ (k + 1) ⟨(by assumption), (by assumption)⟩ (by omega) (Ent.of [] (by kernel_rfl) (by kernel_rfl) (by kernel_rfl) trivial))
  · rw [List.drop_of_length_le hge, fGet_nil] at hq
    rw [hq]
    clear hq again
    refine Wp.go (mx := true) (fun _ => mixed) [] 100 [false] [decide ((↑k : Int) < (↑l.length : Int)) = false] (by kernel_rfl) (by kernel_rfl) (by kernel_rfl) (show decide ((↑k : Int) < (↑l.length : Int)) = false from (by simp; omega)) ?_
    refine Wp.ret' (by kernel_rfl) ?_
    exact FinQ.pure (rs' := [V1.c (Cell.str []), V1.c (Cell.bool false)]) (by kernel_rfl) rfl (by kernel_rfl)
theorem hget_ok (l : List FT) (n : List UInt8) (hl : l.length < 4611686018427387904) : Pur Tryz.prog G 29 [.c (encH l), .c (.str n)] [.c (.str ((fGet l n).getD [])), .c (.bool (fGet l n).isSome)] := by
  refine Pur.of Tryz.func29 (by kernel_rfl) (by kernel_rfl) (by kernel_rfl) ?_
  have c := qget_ok (G := G) l n hl
  refine Wp.go (mx := true) (fun _ => mixed) [(1, {cs := [(2, pc c)]})] 100 [] [] (by kernel_rfl) (by kernel_rfl) (by kernel_rfl) trivial ?_
  refine Wp.ret' (by kernel_rfl) ?_
  exact FinQ.pure (rs' := [V1.c (Cell.str ((fGet l n).getD [])), V1.c (Cell.bool (fGet l n).isSome)]) (by kernel_rfl) rfl (by kernel_rfl)
def tellS13 : List UInt8 := [72, 84, 84, 80, 47, 49, 46, 49, 32, 50, 48, 48, 32, 79, 75, 13, 10, 99, 111, 110, 116, 101, 110, 116, 45, 108, 101, 110, 103, 116, 104, 58, 32, 49, 13, 10, 13, 10, 120]
def getQ13 : QT := ⟨[71, 69, 84], [47, 97], [], []⟩
def tellR13 : RT := ⟨200, [], [120]⟩
theorem one_den (f : FT) : EqvD (.c (.sl 2 1 (fun i j => nthD [.str f.name, .str f.value] (i * 2 + j)))) (.c (encH [f])) := by
  refine EqvD.sl rfl fun i hi j hj => ?_
  obtain rfl : i = 0 := by omega
  rw [Nat.zero_mul, Nat.zero_add]; rfl
theorem known13_ok (hp : HasPow G) (hL : HasLen G) : Pur Tryz.prog G 7 [] [.c (.bool true)] := by
  refine Pur.of Tryz.func7 (by kernel_rfl) (by kernel_rfl) (by kernel_rfl) ?_
  have c1 := parseQ_ok hL [71, 69, 84, 32, 47, 97, 32, 72, 84, 84, 80, 47, 49, 46, 49, 13, 10, 13, 10] (by decide)
  rw [show parseQ [71, 69, 84, 32, 47, 97, 32, 72, 84, 84, 80, 47, 49, 46, 49, 13, 10, 13, 10] = (getQ13, 0) from (by kernel_rfl)] at c1
  have c2 := parseQ_ok hL [103, 101, 116] (by decide)
  rw [show parseQ [103, 101, 116] = (QT.nil, 3) from (by kernel_rfl)] at c2
  have c3 := parseR_ok hL tellS13 (by decide)
  rw [show parseR tellS13 = (tellR13, 0) from (by kernel_rfl)] at c3
  have c4 := hget_ok (G := G) [⟨[97], [98]⟩] [97] (by decide)
  have e4 := one_den ⟨[97], [98]⟩
  have fQ : FitH getQ13.head getQ13.body := ⟨by decide, fun f hf => (by cases hf), by decide, by show (2 : Nat) ≤ _; omega⟩
  have fR : FitH tellR13.head tellR13.body := ⟨by decide, fun f hf => (by cases hf), by decide, by have h21 : (linesT tellR13.head tellR13.body).length = 21 := (by kernel_rfl); omega⟩
  have c5 := mayAsk_ok hp getQ13 (fQ.q (by decide) (by decide))
  rw [show mayAskT getQ13 = true from (by kernel_rfl)] at c5
  have c6 := printAsk_ok hp getQ13 (fQ.q (by decide) (by decide))
  rw [show printAskT getQ13 = [71, 69, 84, 32, 47, 97, 32, 72, 84, 84, 80, 47, 49, 46, 49, 13, 10, 13, 10] from (by kernel_rfl)] at c6
  have c7 := mayTell_any hp tellR13 (fun h0 h1 => fR.r h0 h1)
  rw [show mayTell tellR13 = true from (by kernel_rfl)] at c7
  have c8 := printTell_any hp tellR13 (fun h0 h1 => fR.r h0 h1)
  rw [show printTell tellR13 = tellS13 from (by kernel_rfl)] at c8
  clear fQ fR
  refine Wp.go (mx := true) (fun _ => mixed) [(4, {cs := [(2, pc c4)], fm := [(1, .c (encH [⟨[97], [98]⟩]))]}), (1, {cs := [(0, pc c1)]}), (2, {cs := [(0, pc c2)]}), (3, {cs := [(0, pc c3)]}), (5, {cs := [(39, pc c6), (44, pc c5), (48, pc c7), (52, pc c8)]})] 100 [] [EqvI (V1.c (Cell.sl (2 : Nat) (1 : Nat) fun (i j : Nat) => nthD [Cell.str [(97 : UInt8)], Cell.str [(98 : UInt8)]] (i * (2 : Nat) + j))) (V1.c (encH [{ name := [(97 : UInt8)], value := [(98 : UInt8)] }])), EqvD (V1.c (Cell.sl (2 : Nat) (1 : Nat) fun (i j : Nat) => nthD [Cell.str [(97 : UInt8)], Cell.str [(98 : UInt8)]] (i * (2 : Nat) + j))) (V1.c (encH [{ name := [(97 : UInt8)], value := [(98 : UInt8)] }]))] (by kernel_rfl) (by kernel_rfl) (by kernel_rfl) ⟨fun _ _ => trivial, (show EqvD (V1.c (Cell.sl (2 : Nat) (1 : Nat) fun (i j : Nat) => nthD [Cell.str [(97 : UInt8)], Cell.str [(98 : UInt8)]] (i * (2 : Nat) + j))) (V1.c (encH [{ name := [(97 : UInt8)], value := [(98 : UInt8)] }])) from (by assumption))⟩ ?_
  refine Wp.ret' (by kernel_rfl) ?_
  exact FinQ.pure (rs' := [V1.c (Cell.bool (bif bif bif bif bif bif bif bif bif bif bif bif (0 : Int) == (0 : Int) then [(71 : UInt8), 69, 84] == [(71 : UInt8), 69, 84] else false then [(47 : UInt8), 97] == [(47 : UInt8), 97] else false then (3 : Int) == (3 : Int) else false then (0 : Int) == (0 : Int) else false then (200 : Int) == (200 : Int) else false then [(120 : UInt8)] == [(120 : UInt8)] else false then (fGet [{ name := [(97 : UInt8)], value := [(98 : UInt8)] }] [(97 : UInt8)]).getD [] == [(98 : UInt8)] else false then (fGet [{ name := [(97 : UInt8)], value := [(98 : UInt8)] }] [(97 : UInt8)]).isSome else false then [(71 : UInt8), 69, 84, 32, 47, 97, 32, 72, 84, 84, 80, 47, 49, 46, 49, 13, 10, 13, 10] == [(71 : UInt8), 69, 84, 32, 47, 97, 32, 72, 84, 84, 80, 47, 49, 46, 49, 13, 10, 13, 10] else false then true else false then true else false then decide ((↑tellS13.length : Int) > (0 : Int)) else false))]) (by kernel_rfl) rfl (by kernel_rfl)
end Go.Proofs.Tw
end

section
open Go Go.Sv
namespace Go.Proofs.Tw
set_option maxRecDepth 100000
set_option maxHeartbeats 4000000

theorem idx_no (a r : List UInt8) (c : UInt8) (h : c ∉ a) : Lib.index a (c :: r) = -1 := by
  refine Lib.index_none fun j hj => ?_
  cases hq : Lib.occAt a (c :: r) j with
  | false => rfl
  | true =>
    have := Lib.occAt_head rfl hq
    exact (h (List.mem_of_getElem? this)).elim
theorem join_two (x : List UInt8) (r : List (List UInt8)) (sep : List UInt8) (h : r ≠ []) : Lib.join (x :: r) sep = x ++ sep ++ Lib.join r sep := by
  cases r with
  | nil => exact (h rfl).elim
  | cons y r => rw [Lib.join_cons, Lib.join_cons]; simp [Lib.joinTail]
theorem split_join (c : UInt8) (r : List UInt8) : ∀ l : List (List UInt8), l ≠ [] → (∀ x ∈ l, c ∉ x) → Lib.split (Lib.join l (c :: r)) (c :: r) = l
  | [], h, _ => (h rfl).elim
  | [x], _, hx => by rw [Lib.join_one, split_miss (idx_no x r c (hx x (by simp)))]
  | x :: y :: l, _, hx => by
    rw [join_two x (y :: l) (c :: r) (by simp), split_hit (by simp) (idx_at x (Lib.join (y :: l) (c :: r)) r c (hx x (by simp)))]
    have ih := split_join c r (y :: l) (by simp) (fun z hz => hx z (by simp [hz]))
    rw [List.append_assoc, List.take_left, ← List.append_assoc, show x.length + (c :: r).length = (x ++ (c :: r)).length from by simp, List.drop_left, ih]
end Go.Proofs.Tw
end

section
open Go Go.Sv Go.RowKit
namespace Go.Proofs.Tw
set_option maxRecDepth 100000
set_option maxHeartbeats 4000000

/-- Lines: none is empty, none has a carriage return. -/
def OkLn (x : List UInt8) : Prop := x ≠ [] ∧ (13 : UInt8) ∉ x
theorem join_13 : ∀ (l : List (List UInt8)), l ≠ [] → (∀ x ∈ l, OkLn x) → ∀ j : Nat, (Lib.join l [13, 10])[j]? = some 13 → ∃ c, (Lib.join l [13, 10])[j + 2]? = some c ∧ c ≠ 13
  | [], h, _, _, _ => (h rfl).elim
  | [x], _, hx, j, hj => by
    rw [Lib.join_one] at hj
    exact ((hx x (by simp)).2 (List.mem_of_getElem? hj)).elim
  | x :: y :: l, _, hx, j, hj => by
    rw [join_two x (y :: l) [13, 10] (by simp)] at hj ⊢
    have h0 := hx x (by simp)
    have hy := hx y (by simp)
    have ih := join_13 (y :: l) (by simp) (fun z hz => hx z (by simp [hz]))
    rcases Nat.lt_or_ge j x.length with h1 | h1
    · rw [List.append_assoc, List.getElem?_append_left h1] at hj
      exact (h0.2 (List.mem_of_getElem? hj)).elim
    · rcases Nat.lt_or_ge j (x.length + 2) with h2 | h2
      · rcases Nat.lt_or_ge j (x.length + 1) with h3 | h3
        · obtain rfl : j = x.length := by omega
          rw [List.getElem?_append_right (by simp), show x.length + 2 - (x ++ ([13, 10] : List UInt8)).length = 0 from by simp]
          have : ∃ c r, Lib.join (y :: l) [13, 10] = c :: r ∧ c ∈ y := by
            rw [Lib.join_cons]
            cases y with
            | nil => exact (hy.1 rfl).elim
            | cons c r => exact ⟨c, r ++ Lib.joinTail [13, 10] l, rfl, by simp⟩
          obtain ⟨c, r, e, hc⟩ := this
          exact ⟨c, by rw [e]; rfl, fun e13 => hy.2 (e13 ▸ hc)⟩
        · obtain rfl : j = x.length + 1 := by omega
          rw [List.getElem?_append_left (by simp), List.getElem?_append_right (by omega)] at hj
          simp at hj
      · rw [List.getElem?_append_right (by simp; omega)] at hj ⊢
        simp only [List.length_append, List.length_cons, List.length_nil] at hj ⊢
        obtain ⟨c, hc, hn⟩ := ih _ hj
        exact ⟨c, by rw [← hc]; congr 1; omega, hn⟩
theorem cut_head (l : List (List UInt8)) (b : List UInt8) (hl : l ≠ []) (hx : ∀ x ∈ l, OkLn x) : Lib.cut (Lib.join l [13, 10] ++ [13, 10, 13, 10] ++ b) [13, 10, 13, 10] = (Lib.join l [13, 10], b, true) := by
  have h := join_13 l hl hx
  generalize Lib.join l [13, 10] = H at *
  have hi : Lib.index (H ++ [13, 10, 13, 10] ++ b) [13, 10, 13, 10] = H.length := by
    refine Lib.index_first (by simp) ?_ fun j hj => ?_
    · unfold Lib.occAt
      rw [List.append_assoc, List.drop_left]
      exact List.isPrefixOf_iff_prefix.2 ⟨b, rfl⟩
    · cases hq : Lib.occAt (H ++ [13, 10, 13, 10] ++ b) [13, 10, 13, 10] j with
      | false => rfl
      | true =>
        have h13 := Lib.occAt_head rfl hq
        rw [List.append_assoc, List.getElem?_append_left hj] at h13
        obtain ⟨c, hc, hn⟩ := h j h13
        have hc' : (H ++ [13, 10, 13, 10] ++ b)[j + 2]? = some c := by
          have : j + 2 < H.length := by
            rcases Nat.lt_or_ge (j + 2) H.length with h | h
            · exact h
            · rw [List.getElem?_eq_none h] at hc; cases hc
          rw [List.append_assoc, List.getElem?_append_left this]; exact hc
        unfold Lib.occAt at hq
        obtain ⟨t, ht⟩ := List.isPrefixOf_iff_prefix.1 hq
        have h2 : ((H ++ [13, 10, 13, 10] ++ b).drop j)[2]? = some 13 := by rw [← ht]; rfl
        rw [List.getElem?_drop, hc'] at h2
        exact (hn (Option.some.inj h2)).elim
  unfold Lib.cut
  rw [hi, if_pos (by omega)]
  simp only [Int.toNat_natCast]
  refine Prod.ext ?_ (Prod.ext ?_ rfl)
  · show (H ++ [13, 10, 13, 10] ++ b).take H.length = H
    rw [List.append_assoc, List.take_left]
  · show (H ++ [13, 10, 13, 10] ++ b).drop (H.length + 4) = b
    rw [show H.length + 4 = (H ++ [13, 10, 13, 10]).length from by simp, List.drop_left]
def lnF (f : FT) : List UInt8 := f.name ++ [58, 32] ++ f.value
def lnsT (l : List FT) (b : List UInt8) : List (List UInt8) := l.map lnF ++ if b = [] then [] else [clN ++ [58, 32] ++ Lib.decDigits b.length]
theorem tail_lines : ∀ (l : List (List UInt8)), [13, 10] ++ l.flatMap (fun p => p ++ [13, 10]) = Lib.joinTail [13, 10] l ++ [13, 10]
  | [] => rfl
  | x :: r => by
    have := tail_lines r
    unfold Lib.joinTail at *
    rw [List.map_cons, List.flatten_cons, List.flatMap_cons, List.append_assoc _ _ [13, 10], ← this]
    simp
theorem lines_join (F : List UInt8) (l : List FT) (b : List UInt8) : F ++ [13, 10] ++ linesT l b = Lib.join (F :: lnsT l b) [13, 10] ++ [13, 10, 13, 10] := by
  rw [Lib.join_cons]
  have h : l.flatMap fieldL ++ clL b = (lnsT l b).flatMap (fun p => p ++ [13, 10]) := by
    unfold lnsT clL
    rw [List.flatMap_append, List.flatMap_map]
    congr 1
    cases b with
    | nil => rfl
    | cons c r =>
      rw [if_neg (by simp), if_neg (by simp), itoa_nat]
      simp [clN]
  unfold linesT
  rw [h, List.append_assoc F, ← List.append_assoc [13, 10] _ (_ : List UInt8), tail_lines]
  simp
theorem okF_parts {f : FT} (h : okF f = true) : tokenT f.name = true ∧ foldT f.name = f.name ∧ f.name ≠ clN ∧ f.value.all seenB = true := by
  unfold okF at h
  simp only [Bool.and_eq_true, Bool.not_eq_true', beq_eq_false_iff_ne] at h
  exact ⟨h.1, eq_of_beq h.2.1, h.2.2.1, h.2.2.2⟩
theorem tok_no {s : List UInt8} (h : tokenT s = true) : (13 : UInt8) ∉ s ∧ (58 : UInt8) ∉ s ∧ s ≠ [] := by
  unfold tokenT at h
  rw [Bool.and_eq_true, List.all_eq_true] at h
  refine ⟨fun hc => ?_, fun hc => ?_, fun he => ?_⟩
  · have := h.2 _ hc; revert this; decide
  · have := h.2 _ hc; revert this; decide
  · rw [he] at h; exact absurd h.1 (by decide)
theorem seen_no {s : List UInt8} (h : s.all seenB = true) : (13 : UInt8) ∉ s := by
  rw [List.all_eq_true] at h
  intro hc
  have := h _ hc
  revert this
  decide
theorem dec_13 (n : Nat) : (13 : UInt8) ∉ Lib.decDigits n := by
  have h := dec_all n
  rw [List.all_eq_true] at h
  intro hc
  have := h _ hc
  revert this
  decide
theorem lnF_ok {f : FT} (h : okF f = true) : OkLn (lnF f) := by
  obtain ⟨h1, h2, h3, h4⟩ := okF_parts h
  obtain ⟨a, b, c⟩ := tok_no h1
  refine ⟨by unfold lnF; simp, ?_⟩
  unfold lnF
  simp only [List.mem_append, List.mem_cons, List.not_mem_nil, or_false, not_or]
  exact ⟨⟨a, by decide, by decide⟩, seen_no h4⟩
theorem lns_ok {l : List FT} {b : List UInt8} (h : ∀ f ∈ l, okF f = true) : ∀ x ∈ lnsT l b, OkLn x := by
  intro x hx
  unfold lnsT at hx
  rcases List.mem_append.1 hx with hx | hx
  · obtain ⟨f, hf, rfl⟩ := List.mem_map.1 hx
    exact lnF_ok (h f hf)
  · split at hx
    · cases hx
    · rw [List.mem_singleton.1 hx]
      refine ⟨by simp [clN], ?_⟩
      simp only [List.mem_append, List.mem_cons, List.not_mem_nil, or_false, not_or]
      exact ⟨⟨by decide, by decide, by decide⟩, dec_13 _⟩
theorem cut_ln {n v : List UInt8} (h : (58 : UInt8) ∉ n) : Lib.cut (n ++ [58, 32] ++ v) [58, 32] = (n, v, true) := cut_at n v [32] 58 h
theorem okA_ln {acc : List FT} {f : FT} (h : okF f = true) (hn : ∀ g ∈ acc, g.name ≠ f.name) : okA acc (lnF f) = true ∧ lineF (lnF f) = f := by
  obtain ⟨h1, h2, h3, h4⟩ := okF_parts h
  obtain ⟨_, h58, _⟩ := tok_no h1
  have hc : Lib.cut (lnF f) [58, 32] = (f.name, f.value, true) := cut_ln h58
  have hl : lineF (lnF f) = f := by unfold lineF; rw [hc]; show FT.mk (foldT f.name) f.value = f; rw [h2]
  refine ⟨?_, hl⟩
  unfold okA okL
  rw [hl, hc, h1, h4]
  cases hg : (fGet acc f.name).isSome with
  | false => rfl
  | true =>
    rw [← fGet_con, List.contains_iff_mem] at hg
    obtain ⟨g, hg1, hg2⟩ := List.mem_map.1 hg
    exact (hn g hg1 hg2).elim
theorem fA_lns : ∀ (l acc : List FT) (r : List (List UInt8)), (∀ f ∈ l, okF f = true) → (acc ++ l).Pairwise (fun x y => x.name ≠ y.name) → fieldsA (l.map lnF ++ r) acc = fieldsA r (acc ++ l) ∧ fieldsO (l.map lnF ++ r) acc = fieldsO r (acc ++ l)
  | [], acc, r, _, _ => by simp
  | f :: l, acc, r, h, hp => by
    have hn : ∀ g ∈ acc, g.name ≠ f.name := fun g hg => by
      rw [List.pairwise_append] at hp
      exact hp.2.2 g hg f (by simp)
    obtain ⟨h1, h2⟩ := okA_ln (h f (by simp)) hn
    have ih := fA_lns l (acc ++ [f]) r (fun g hg => h g (by simp [hg])) (by simpa using hp)
    rw [List.map_cons, List.cons_append, fieldsA, fieldsO, h1, if_pos rfl, if_pos rfl, h2, ih.1, ih.2]
    simp
theorem okA_cl {acc : List FT} {d : List UInt8} (hd : d.all seenB = true) (hn : fGet acc clN = none) : okA acc (clN ++ [58, 32] ++ d) = true ∧ lineF (clN ++ [58, 32] ++ d) = ⟨clN, d⟩ := by
  have hc : Lib.cut (clN ++ [58, 32] ++ d) [58, 32] = (clN, d, true) := cut_ln (by decide)
  have hl : lineF (clN ++ [58, 32] ++ d) = ⟨clN, d⟩ := by unfold lineF; rw [hc]; rfl
  refine ⟨?_, hl⟩
  unfold okA okL
  rw [hl, hc, hd, show (FT.mk clN d).name = clN from rfl, hn]
  rfl
theorem unlike_pw {l : List FT} (h : unlikeQ l = true) : l.Pairwise (fun x y => x.name ≠ y.name) := by
  unfold unlikeQ at h
  rw [List.all_eq_true] at h
  rw [List.pairwise_iff_getElem]
  intro i j hi hj hij he
  have := h j (List.mem_range.2 hj)
  unfold okQ at this
  rw [Bool.and_eq_true, ← fGet_isIn, ← fGet_con] at this
  have hm : ((l.take j).map (·.name)).contains (l.getD j .nil).name = true := by
    rw [List.contains_iff_mem]
    refine List.mem_map.2 ⟨l[i], ?_, ?_⟩
    · rw [List.mem_take_iff_getElem]
      exact ⟨i, by omega, rfl⟩
    · rw [he]; simp [List.getD, hj]
  rw [hm] at this
  simp at this
theorem numK_dec (n : Nat) (h : n ≤ 5000) : numK 9 (Lib.decDigits n) = true := by
  unfold numK
  have := dec_len4 h
  rw [canon_dec, decide_eq_true (by omega)]
  rfl
/-- What of a text comes that has a first line, fields, a body. -/
theorem read_text {line : List UInt8 → Bool} {F : List UInt8} {l : List FT} {b : List UInt8} (hF : OkLn F) (hl : line F = true) (hh : headT l b = true) (hs : (F ++ [13, 10] ++ linesT l b).length ≤ 2048) :
    readH line (F ++ [13, 10] ++ linesT l b ++ b) = (l, 0) ∧ firstH (F ++ [13, 10] ++ linesT l b ++ b) = F ∧ (hdC (F ++ [13, 10] ++ linesT l b ++ b)).2.1 = b := by
  unfold headT at hh
  simp only [Bool.and_eq_true, decide_eq_true_eq, List.all_eq_true] at hh
  obtain ⟨hok, hmost, hunl, hb⟩ := hh
  have hlo : ∀ x ∈ F :: lnsT l b, OkLn x := by
    intro x hx
    rcases List.mem_cons.1 hx with rfl | hx
    · exact hF
    · exact lns_ok hok x hx
  have hcut : hdC (F ++ [13, 10] ++ linesT l b ++ b) = (Lib.join (F :: lnsT l b) [13, 10], b, true) := by
    unfold hdC
    rw [lines_join]
    exact cut_head _ b (by simp) hlo
  have hlen : (Lib.join (F :: lnsT l b) [13, 10]).length + 4 ≤ 2048 := by
    rw [lines_join, List.length_append] at hs
    exact hs
  have hlin : linesH (F ++ [13, 10] ++ linesT l b ++ b) = F :: lnsT l b := by
    unfold linesH
    rw [hcut]
    exact split_join 13 [10] _ (by simp) (fun x hx => (hlo x hx).2)
  generalize F ++ [13, 10] ++ linesT l b ++ b = S at *
  have hbig : bigH S = false := by unfold bigH; rw [hcut]; show decide (((Lib.join (F :: lnsT l b) [13, 10]).length : Int) + 4 > 2048) = false; simp; omega
  have hll : (lnsT l b).length ≤ 24 := by
    unfold lnsT
    unfold mostT at hmost
    rw [List.length_append, List.length_map]
    by_cases hbe : b = []
    · subst hbe; rw [if_pos rfl]; simp at hmost ⊢; omega
    · have : (b == []) = false := by simpa using hbe
      rw [this, if_neg (by decide)] at hmost
      rw [if_neg hbe]; simp; omega
  have hsp : splitH S = 0 := splitH_yes hbig (by rw [hcut]) (by rw [hlin, List.length_cons]; omega)
  have hf : firstH S = F := by unfold firstH; rw [hlin]; rfl
  have hfl : fieldsL S = lnsT l b := by unfold fieldsL; rw [hlin]; rfl
  have hpw := unlike_pw hunl
  obtain ⟨fA, fO⟩ := fA_lns l [] (if b = [] then [] else [clN ++ [58, 32] ++ Lib.decDigits b.length]) hok (by simpa using hpw)
  rw [List.nil_append] at fA fO
  have hncl : ∀ g ∈ l, g.name ≠ clN := fun g hg => (okF_parts (hok g hg)).2.2.1
  have hno : fGet l clN = none := by
    cases hg : (fGet l clN).isSome with
    | false => simpa using hg
    | true =>
      rw [← fGet_con, List.contains_iff_mem] at hg
      obtain ⟨g, hg1, hg2⟩ := List.mem_map.1 hg
      exact (hncl g hg1 hg2).elim
  have hfil : l.filter notCl = l := filter_none hno
  have hds : (Lib.decDigits b.length).all seenB = true := dig_seen (dec_all _)
  obtain ⟨k1, k2⟩ := okA_cl hds hno
  have hO : fieldsO (fieldsL S) [] = true := by
    rw [hfl]
    unfold lnsT
    rw [fO]
    by_cases hbe : b = []
    · rw [if_pos hbe]; rfl
    · rw [if_neg hbe, fieldsO, k1, if_pos rfl]; rfl
  refine ⟨?_, hf, by rw [hcut]⟩
  rw [readH_end hsp (by rw [hf]; exact hl) hO, hfl, hcut]
  unfold lnsT
  rw [fA]
  by_cases hbe : b = []
  · rw [if_pos hbe, fieldsA]
    have : bodyE l b = 0 := by unfold bodyE; rw [hno, hbe]; rfl
    rw [if_pos this, hfil]
  · rw [if_neg hbe, fieldsA, k1, if_pos rfl, fieldsA, k2]
    have : bodyE (l ++ [⟨clN, Lib.decDigits b.length⟩]) b = 0 := by
      unfold bodyE
      rw [snoc_cl l _ (by simp) hno]
      show szE (Lib.decDigits b.length) true b = 0
      unfold szE
      rw [if_pos rfl, numK_dec _ (by omega), if_neg (by decide), nv_dec, if_neg (by omega), if_pos rfl]
    rw [if_pos this, filt_cl l _ (by simp), hfil]
theorem great_no {s : List UInt8} (h : s.all greatB = true) : (13 : UInt8) ∉ s ∧ (32 : UInt8) ∉ s := by
  rw [List.all_eq_true] at h
  exact ⟨fun hc => by have := h _ hc; revert this; decide, fun hc => by have := h _ hc; revert this; decide⟩
theorem tg_13 {t : List UInt8} (h : t.all tgB = true) : (13 : UInt8) ∉ t := by
  intro hc
  rw [List.all_eq_true] at h
  have := h _ hc
  revert this
  decide
/-- A request that is printed is parsed. -/
theorem parse_print_Q {r : QT} (h : mayAskT r = true) : parseQ (printAskT r) = (r, 0) := by
  unfold printAskT
  rw [if_pos h]
  unfold mayAskT at h
  rw [mayM_eq, Bool.cond_false_right, Bool.and_eq_true, Bool.and_eq_true, decide_eq_true_eq] at h
  obtain ⟨hl, hh, hs⟩ := h
  have hlin := hl
  unfold linedT methT targT at hl
  simp only [Bool.and_eq_true, decide_eq_true_eq] at hl
  obtain ⟨⟨g1, g2, g3⟩, t1, t2, t3⟩ := hl
  rw [ahead_lines] at hs ⊢
  have hb := (askedM r).head
  have hF : OkLn (askedM r).first := by
    refine ⟨by show r.method ++ [32] ++ r.target ++ [32] ++ httpV ≠ []; simp, ?_⟩
    show (13 : UInt8) ∉ r.method ++ [32] ++ r.target ++ [32] ++ httpV
    simp only [List.mem_append, List.mem_cons, List.not_mem_nil, or_false, not_or]
    exact ⟨⟨⟨⟨(great_no g1).1, by decide⟩, tg_13 t1⟩, by decide⟩, by decide⟩
  have hc : Lib.cut (askedM r).first [32] = (r.method, r.target ++ [32, 72, 84, 84, 80, 47, 49, 46, 49], true) := by
    have := cut_at r.method (r.target ++ [32, 72, 84, 84, 80, 47, 49, 46, 49]) [] 32 (great_no g1).2
    rw [← this]
    congr 1
    show r.method ++ [32] ++ r.target ++ [32] ++ httpV = _
    unfold httpV
    simp
  obtain ⟨s1, s2⟩ := suf_app r.target [32, 72, 84, 84, 80, 47, 49, 46, 49]
  have m1 : askM (askedM r).first = r.method := by unfold askM; rw [hc]
  have m2 : askT (askedM r).first = r.target := by unfold askT; rw [hc]; exact s2
  have m3 : askB (askedM r).first = true := by unfold askB; rw [m1, m2, hc]; show (Lib.hasSuffix (r.target ++ [32, 72, 84, 84, 80, 47, 49, 46, 49]) [32, 72, 84, 84, 80, 47, 49, 46, 49] && _) = true; rw [s1, hlin]; rfl
  obtain ⟨q1, q2, q3⟩ := read_text hF m3 hh (by omega)
  unfold parseQ
  rw [show r.body = (askedM r).body from rfl, q1, if_pos rfl, q2, q3, m1, m2]
  rfl
end Go.Proofs.Tw
end

section
open Go Go.Sv Go.RowKit
namespace Go.Proofs.Tw
attribute [local irreducible] Wp FinQ resV Ent Pur Go.Sv.Fn Sat0
set_option maxRecDepth 100000
set_option maxHeartbeats 4000000
variable {G : Nat → Option (List Cell)}

def hexI (c : UInt8) : Int := if 48 ≤ c ∧ c ≤ 57 then (c.toNat : Int) - 48 else if 65 ≤ c ∧ c ≤ 70 then (c.toNat : Int) - 55 else -1
theorem hexI_cases (c : UInt8) : (48 ≤ c.toNat ∧ c.toNat ≤ 57 ∧ hexI c = (c.toNat : Int) - 48) ∨ (65 ≤ c.toNat ∧ c.toNat ≤ 70 ∧ hexI c = (c.toNat : Int) - 55) ∨ (¬ (48 ≤ c.toNat ∧ c.toNat ≤ 57) ∧ ¬ (65 ≤ c.toNat ∧ c.toNat ≤ 70) ∧ hexI c = -1) := by
  unfold hexI
  have e1 : (48 ≤ c ∧ c ≤ 57) ↔ (48 ≤ c.toNat ∧ c.toNat ≤ 57) := by
    rw [UInt8.le_iff_toNat_le, UInt8.le_iff_toNat_le]; exact Iff.rfl
  have e2 : (65 ≤ c ∧ c ≤ 70) ↔ (65 ≤ c.toNat ∧ c.toNat ≤ 70) := by
    rw [UInt8.le_iff_toNat_le, UInt8.le_iff_toNat_le]; exact Iff.rfl
  by_cases h1 : 48 ≤ c.toNat ∧ c.toNat ≤ 57
  · rw [if_pos (e1.2 h1)]; exact .inl ⟨h1.1, h1.2, rfl⟩
  · rw [if_neg (fun h => h1 (e1.1 h))]
    by_cases h2 : 65 ≤ c.toNat ∧ c.toNat ≤ 70
    · rw [if_pos (e2.2 h2)]; exact .inr (.inl ⟨h2.1, h2.2, rfl⟩)
    · rw [if_neg (fun h => h2 (e2.1 h))]; exact .inr (.inr ⟨h1, h2, rfl⟩)
theorem digit7_ok (c : UInt8) : Pur Tryz.prog G 111 [.c (.int .u8 (c.toNat : Int))] [.c (.int .i64 (hexI c))] := by
  refine Pur.of Tryz.func111 (by kernel_rfl) (by kernel_rfl) (by kernel_rfl) ?_
  rcases hexI_cases c with ⟨h1, h2, h⟩ | ⟨h1, h2, h⟩ | ⟨h1, h2, h⟩
  · rw [h]
    have ht : (bif decide ((c.toNat : Int) ≥ 48) then decide ((c.toNat : Int) ≤ 57) else false) = true := by rw [decide_eq_true (by omega), decide_eq_true (by omega)]; rfl
    have ew : EqvD (.c (.int .u8 (IntKind.u8.wrap ((c.toNat : Int) - 48)))) (.c (.int .u8 ((c.toNat : Int) - 48))) := eqvD_of (by rw [wrap8 (by omega) (by omega)])
    have ew2 : EqvD (.c (.int .i64 (IntKind.i64.wrap ((c.toNat : Int) - 48)))) (.c (.int .i64 ((c.toNat : Int) - 48))) := eqvD_of (by rw [wrap64 (by omega) (by omega)])
    refine Wp.go (mx := true) (fun _ => mixed) [(2, {fm := [(1, .c (.int .u8 ((c.toNat : Int) - 48))), (2, .c (.int .i64 ((c.toNat : Int) - 48)))]})] 100 [true] [(bif decide ((↑c.toNat : Int) ≥ (48 : Int)) then decide ((↑c.toNat : Int) ≤ (57 : Int)) else false) = true, EqvI (V1.c (Cell.int .u8 (IntKind.u8.wrap ((↑c.toNat : Int) - (48 : Int))))) (V1.c (Cell.int .u8 ((↑c.toNat : Int) - (48 : Int)))), EqvD (V1.c (Cell.int .u8 (IntKind.u8.wrap ((↑c.toNat : Int) - (48 : Int))))) (V1.c (Cell.int .u8 ((↑c.toNat : Int) - (48 : Int)))), EqvI (V1.c (Cell.int .i64 (IntKind.i64.wrap ((↑c.toNat : Int) - (48 : Int))))) (V1.c (Cell.int .i64 ((↑c.toNat : Int) - (48 : Int)))), EqvD (V1.c (Cell.int .i64 (IntKind.i64.wrap ((↑c.toNat : Int) - (48 : Int))))) (V1.c (Cell.int .i64 ((↑c.toNat : Int) - (48 : Int))))] (by kernel_rfl) (by kernel_rfl) (by kernel_rfl) ⟨(by assumption), fun _ _ => trivial, (by assumption), fun _ _ => trivial, (show EqvD (V1.c (Cell.int .i64 (IntKind.i64.wrap ((↑c.toNat : Int) - (48 : Int))))) (V1.c (Cell.int .i64 ((↑c.toNat : Int) - (48 : Int)))) from (by assumption))⟩ ?_
    refine Wp.ret' (by kernel_rfl) ?_
    exact FinQ.pure (rs' := [V1.c (Cell.int .i64 ((↑c.toNat : Int) - (48 : Int)))]) (by kernel_rfl) rfl (by kernel_rfl)
  · rw [h]
    have ht : (bif decide ((c.toNat : Int) ≥ 48) then decide ((c.toNat : Int) ≤ 57) else false) = false := by rw [decide_eq_false (show ¬ (c.toNat : Int) ≤ 57 by omega)]; simp
    have ht2 : (bif decide ((c.toNat : Int) ≥ 65) then decide ((c.toNat : Int) ≤ 70) else false) = true := by rw [decide_eq_true (by omega), decide_eq_true (by omega)]; rfl
    have ew : EqvD (.c (.int .u8 (IntKind.u8.wrap ((c.toNat : Int) - 65)))) (.c (.int .u8 ((c.toNat : Int) - 65))) := eqvD_of (by rw [wrap8 (by omega) (by omega)])
    have ew2 : EqvD (.c (.int .i64 (IntKind.i64.wrap ((c.toNat : Int) - 65)))) (.c (.int .i64 ((c.toNat : Int) - 65))) := eqvD_of (by rw [wrap64 (by omega) (by omega)])
    have ew3 : EqvD (.c (.int .i64 ((c.toNat : Int) - 65 + 10))) (.c (.int .i64 ((c.toNat : Int) - 55))) := eqvD_of (by rw [show (c.toNat : Int) - 65 + 10 = (c.toNat : Int) - 55 by omega])
    refine Wp.go (mx := true) (fun _ => mixed) [(4, {fm := [(1, .c (.int .u8 ((c.toNat : Int) - 65))), (2, .c (.int .i64 ((c.toNat : Int) - 65))), (3, .c (.int .i64 ((c.toNat : Int) - 55)))]})] 100 [false, true] [(bif decide ((↑c.toNat : Int) ≥ (48 : Int)) then decide ((↑c.toNat : Int) ≤ (57 : Int)) else false) = false, (bif decide ((↑c.toNat : Int) ≥ (65 : Int)) then decide ((↑c.toNat : Int) ≤ (70 : Int)) else false) = true, EqvI (V1.c (Cell.int .u8 (IntKind.u8.wrap ((↑c.toNat : Int) - (65 : Int))))) (V1.c (Cell.int .u8 ((↑c.toNat : Int) - (65 : Int)))), EqvD (V1.c (Cell.int .u8 (IntKind.u8.wrap ((↑c.toNat : Int) - (65 : Int))))) (V1.c (Cell.int .u8 ((↑c.toNat : Int) - (65 : Int)))), EqvI (V1.c (Cell.int .i64 (IntKind.i64.wrap ((↑c.toNat : Int) - (65 : Int))))) (V1.c (Cell.int .i64 ((↑c.toNat : Int) - (65 : Int)))), EqvD (V1.c (Cell.int .i64 (IntKind.i64.wrap ((↑c.toNat : Int) - (65 : Int))))) (V1.c (Cell.int .i64 ((↑c.toNat : Int) - (65 : Int)))), EqvI (V1.c (Cell.int .i64 ((↑c.toNat : Int) - (65 : Int) + (10 : Int)))) (V1.c (Cell.int .i64 ((↑c.toNat : Int) - (55 : Int)))), EqvD (V1.c (Cell.int .i64 ((↑c.toNat : Int) - (65 : Int) + (10 : Int)))) (V1.c (Cell.int .i64 ((↑c.toNat : Int) - (55 : Int)))), inR IntKind.i64 ((↑c.toNat : Int) - (65 : Int) + (10 : Int))] (by kernel_rfl) (by kernel_rfl) (by kernel_rfl) ⟨(by assumption), (by assumption), fun _ _ => trivial, (by assumption), fun _ _ => trivial, (by assumption), fun _ _ => trivial, (by assumption), inR64 (by omega) (by omega)⟩ ?_
    refine Wp.ret' (by kernel_rfl) ?_
    exact FinQ.pure (rs' := [V1.c (Cell.int .i64 ((↑c.toNat : Int) - (55 : Int)))]) (by kernel_rfl) rfl (by kernel_rfl)
  · rw [h]
    have ht : (bif decide ((c.toNat : Int) ≥ 48) then decide ((c.toNat : Int) ≤ 57) else false) = false := by
      by_cases hh : (c.toNat : Int) ≥ 48
      · rw [decide_eq_true hh, decide_eq_false (show ¬ (c.toNat : Int) ≤ 57 by omega)]; rfl
      · rw [decide_eq_false hh]; rfl
    have ht2 : (bif decide ((c.toNat : Int) ≥ 65) then decide ((c.toNat : Int) ≤ 70) else false) = false := by
      by_cases hh : (c.toNat : Int) ≥ 65
      · rw [decide_eq_true hh, decide_eq_false (show ¬ (c.toNat : Int) ≤ 70 by omega)]; rfl
      · rw [decide_eq_false hh]; rfl
    refine Wp.go (mx := true) (fun _ => mixed) [] 100 [false, false] [(bif decide ((↑c.toNat : Int) ≥ (48 : Int)) then decide ((↑c.toNat : Int) ≤ (57 : Int)) else false) = false, (bif decide ((↑c.toNat : Int) ≥ (65 : Int)) then decide ((↑c.toNat : Int) ≤ (70 : Int)) else false) = false] (by kernel_rfl) (by kernel_rfl) (by kernel_rfl) ⟨(by assumption), (show (bif decide ((↑c.toNat : Int) ≥ (65 : Int)) then decide ((↑c.toNat : Int) ≤ (70 : Int)) else false) = false from (by assumption))⟩ ?_
    refine Wp.ret' (by kernel_rfl) ?_
    exact FinQ.pure (rs' := [V1.c (Cell.int .i64 (-1 : Int))]) (by kernel_rfl) rfl (by kernel_rfl)
/-- The bytes that a text with percent signs stands for. -/
def decL (form : Bool) : List UInt8 → Option (List UInt8)
  | [] => some []
  | c :: r => if plainB c then (decL form r).map (c :: ·) else if form && c == 43 then (decL form r).map (32 :: ·) else if c == 37 then match r with
    | a :: b :: t => if hexI a ≥ 0 ∧ hexI b ≥ 0 then (decL form t).map (UInt8.ofNat (hexI a * 16 + hexI b).toNat :: ·) else none
    | _ => none
    else none
def decT (form : Bool) (s : List UInt8) : List UInt8 × Int := match decL form s with
  | none => ([], 3)
  | some t => if pctT form t = s then (t, 0) else ([], 3)
theorem decL_plain {form : Bool} {c : UInt8} {r : List UInt8} (h : plainB c = true) : decL form (c :: r) = (decL form r).map (c :: ·) := by
  rw [decL.eq_def]; simp only [h, if_true]
theorem decL_plus {form : Bool} {c : UInt8} {r : List UInt8} (h : plainB c = false) (h2 : (form && c == 43) = true) : decL form (c :: r) = (decL form r).map (32 :: ·) := by
  rw [decL.eq_def]; simp only [h, h2, if_true]; rfl
theorem decL_bad {form : Bool} {c : UInt8} {r : List UInt8} (h : plainB c = false) (h2 : (form && c == 43) = false) (h3 : (c == 37) = false) : decL form (c :: r) = none := by
  rw [decL.eq_def]; simp only [h, h2, h3]; rfl
theorem decL_hex {form : Bool} {a b : UInt8} {t : List UInt8} (ha : hexI a ≥ 0) (hb : hexI b ≥ 0) : decL form (37 :: a :: b :: t) = (decL form t).map (UInt8.ofNat (hexI a * 16 + hexI b).toNat :: ·) := by
  rw [decL.eq_def]
  have h1 : plainB 37 = false := rfl
  have h2 : (form && (37 : UInt8) == 43) = false := by cases form <;> rfl
  simp only [h1, h2]
  rw [if_neg (by decide), if_neg (by decide), if_pos (by decide), if_pos ⟨ha, hb⟩]
theorem decL_hex_no {form : Bool} {r : List UInt8} (h : ∀ a b t, r = a :: b :: t → ¬ (hexI a ≥ 0 ∧ hexI b ≥ 0)) : decL form (37 :: r) = none := by
  rw [decL.eq_def]
  have h1 : plainB 37 = false := rfl
  have h2 : (form && (37 : UInt8) == 43) = false := by cases form <;> rfl
  simp only [h1, h2]
  rw [if_neg (by decide), if_neg (by decide), if_pos (by decide)]
  match r, h with
  | [], _ => rfl
  | [a], _ => rfl
  | a :: b :: t, h => exact if_neg (h a b t rfl)
theorem hexI_rng (c : UInt8) : -1 ≤ hexI c ∧ hexI c ≤ 15 := by
  rcases hexI_cases c with ⟨h1, h2, h⟩ | ⟨h1, h2, h⟩ | ⟨h1, h2, h⟩ <;> omega
end Go.Proofs.Tw
end

section
open Go Go.Sv Go.RowKit
namespace Go.Proofs.Tw
attribute [local irreducible] Wp FinQ resV Ent Pur Go.Sv.Fn Sat0
set_option maxRecDepth 100000
set_option maxHeartbeats 4000000
variable {G : Nat → Option (List Cell)}

theorem map_app (o : Option (List UInt8)) (acc : List UInt8) (c : UInt8) : ((o.map (c :: ·)).map (acc ++ ·)) = o.map ((acc ++ [c]) ++ ·) := by
  cases o <;> simp
theorem dec7_ok (s : List UInt8) (form : Bool) (hl : s.length ≤ 10000000000) : Pur Tryz.prog G 97 [.c (.str s), .c (.bool form)] [.c (.str (decT form s).1), .c (.int .i64 (decT form s).2)] := by
  refine Pur.of Tryz.func97 (by kernel_rfl) (by kernel_rfl) (by kernel_rfl) ?_
  refine Wp.go (mx := true) (fun _ => mixed) [] 100 [] [] (by kernel_rfl) (by kernel_rfl) (by kernel_rfl) trivial ?_
  refine Wp.loopK (by kernel_rfl) (fun (x : Nat × Nat × List UInt8) => ⟨[(0, .v (.c (.str s))), (1, .v (.c (.bool form))), (6, .v (.c (.row 1 64 0 x.2.1))), (7, .v (.c (.int .i64 (x.1 : Int))))], [(64, .row 5 1 x.2.1 (bytesF x.2.2))], 80⟩) (fun x => x.1 ≤ s.length ∧ x.2.1 = x.2.2.length ∧ x.2.1 ≤ x.1 ∧ decL form s = (decL form (s.drop x.1)).map (x.2.2 ++ ·)) (fun x => s.length - x.1) (0, 0, []) (Ent.trans (Ent.empT (t := 6) (sz := 1) (e := 5) (f := (bytesF [])) (by decide) (by kernel_rfl) rfl) (Ent.of [] (by kernel_rfl) (by kernel_rfl) (by kernel_rfl) trivial)) ⟨Nat.zero_le _, rfl, Nat.le_refl _, (show decL form s = (decL form s).map ([] ++ ·) by generalize decL form s = o; cases o <;> rfl)⟩ ?_
  rintro ⟨k, n, l⟩ L ⟨hk, hn, hnk, hq⟩ again
  simp only at hk hn hnk hq
  rcases Nat.lt_or_ge k s.length with hlt | hge
  · rw [dropS s k hlt] at hq
    have c0 := plain6_ok (G := G) (s.getD k 0)
    have h43 : (bif form then ((s.getD k 0).toNat : Int) == 43 else false) = (form && s.getD k 0 == 43) := by
      rw [Bool.cond_false_right, show (((s.getD k 0).toNat : Int) == 43) = (s.getD k 0 == 43) from ibeq _ 43]
    have h37 : (((s.getD k 0).toNat : Int) == 37) = (s.getD k 0 == 37) := ibeq _ 37
    cases hp : plainB (s.getD k 0) with
    | true =>
      rw [hp] at c0
      rw [decL_plain hp, map_app] at hq
      have e1 : BlkEqv (.row 5 1 (n + 1) (catF n (bytesF l) (fun i j => nthD [.int .u8 ((s.getD k 0).toNat : Int)] ((0 + i) * 1 + j)))) (.row 5 1 (n + 1) (bytesF (l ++ [s.getD k 0]))) := bytes_app l [s.getD k 0] hn
      have hn' : n + 1 = (l ++ [s.getD k 0]).length := by simp [hn]
      clear h43 h37 hp
      refine Wp.go (mx := true) (fun _ => mixed) [(8, {bs := [(3, Blk.row 5 1 (n + 1) (bytesF (l ++ [s.getD k 0])))]}), (7, {cs := [(1, pc c0)]})] 100 [true, true] [decide ((↑k : Int) < (↑s.length : Int)) = true, (0 : Int) ≤ (↑k : Int) ∧ (↑k : Int) < (↑s.length : Int), true = true, (n + (1 : Nat)) * (1 : Nat) ≤ (140737488355328 : Nat), BlkEqv (Blk.row 5 (1 : Nat) (n + (1 : Nat)) (catF n (bytesF l) fun (i j : Nat) => nthD [Cell.int .u8 (↑(s.getD k (0 : UInt8)).toNat : Int)] (((0 : Nat) + i) * (1 : Nat) + j))) (Blk.row 5 (1 : Nat) (n + (1 : Nat)) (bytesF (l ++ [s.getD k (0 : UInt8)]))), n ≤ n, (0 : Nat) + (1 : Nat) ≤ (1 : Nat), inR IntKind.i64 ((↑k : Int) + (1 : Int))] (by kernel_rfl) (by kernel_rfl) (by kernel_rfl) ⟨(by simp; omega), (by omega), rfl, (by omega), (by assumption), (by omega), (by omega), inR64 (by omega) (by omega)⟩ ?_
      exact Wp.lpK (by kernel_rfl) (again _ (k + 1, n + 1, l ++ [s.getD k 0]) ⟨(by assumption), ⟨(by assumption), ⟨(by simp; omega), (by assumption)⟩⟩⟩ (by omega) (Ent.of [(64, 304)] (by kernel_rfl) (by kernel_rfl) (by kernel_rfl) trivial))
    | false =>
      rw [hp] at c0
      cases hf : (form && s.getD k 0 == 43) with
      | true =>
        rw [hf] at h43
        rw [decL_plus hp hf, map_app] at hq
        have e1 : BlkEqv (.row 5 1 (n + 1) (catF n (bytesF l) (fun i j => nthD [.int .u8 (32 : Int)] ((0 + i) * 1 + j)))) (.row 5 1 (n + 1) (bytesF (l ++ [32]))) := bytes_app l [32] hn
        have hn' : n + 1 = (l ++ [32]).length := by simp [hn]
        clear h37 hp hf
        refine Wp.go (mx := true) (fun _ => mixed) [(10, {bs := [(2, Blk.row 5 1 (n + 1) (bytesF (l ++ [32])))]}), (7, {cs := [(1, pc c0)]})] 100 [true, false, true] [decide ((↑k : Int) < (↑s.length : Int)) = true, (0 : Int) ≤ (↑k : Int) ∧ (↑k : Int) < (↑s.length : Int), false = false, (bif form then (↑(s.getD k (0 : UInt8)).toNat : Int) == (43 : Int) else false) = true, (n + (1 : Nat)) * (1 : Nat) ≤ (140737488355328 : Nat), BlkEqv (Blk.row 5 (1 : Nat) (n + (1 : Nat)) (catF n (bytesF l) fun (i j : Nat) => nthD [Cell.int .u8 (32 : Int)] (((0 : Nat) + i) * (1 : Nat) + j))) (Blk.row 5 (1 : Nat) (n + (1 : Nat)) (bytesF (l ++ [(32 : UInt8)]))), n ≤ n, (0 : Nat) + (1 : Nat) ≤ (1 : Nat), inR IntKind.i64 ((↑k : Int) + (1 : Int))] (by kernel_rfl) (by kernel_rfl) (by kernel_rfl) ⟨(by simp; omega), (by omega), rfl, (by assumption), (by omega), (by assumption), (by omega), (by omega), inR64 (by omega) (by omega)⟩ ?_
        exact Wp.lpK (by kernel_rfl) (again _ (k + 1, n + 1, l ++ [32]) ⟨(by assumption), ⟨(by assumption), ⟨(by simp; omega), (by assumption)⟩⟩⟩ (by omega) (Ent.of [(64, 384)] (by kernel_rfl) (by kernel_rfl) (by kernel_rfl) trivial))
      | false =>
        rw [hf] at h43
        cases h3 : (s.getD k 0 == 37) with
        | false =>
          rw [h3] at h37
          rw [decL_bad hp hf h3] at hq
          have hT : decT form s = ([], 3) := by unfold decT; rw [hq]; rfl
          rw [hT]
          have ht : (bif bif bif ((s.getD k 0).toNat : Int) == 37 then decide ((k : Int) + 2 < (s.length : Int)) else false then decide (hexI (s.getD (k + 1) 0) ≥ 0) else false then decide (hexI (s.getD (k + 2) 0) ≥ 0) else false) = false := by rw [h37]; rfl
          have c1 := digit7_ok (G := G) (s.getD (k + 1) 0)
          have c2 := digit7_ok (G := G) (s.getD (k + 2) 0)
          clear hp hf h3 hT hq again
          refine Wp.go (mx := true) (fun _ => mixed) [(7, {cs := [(1, pc c0)]}), (11, {cs := [(14, pc c1), (22, pc c2)]})] 100 [true, false, false, false] [decide ((↑k : Int) < (↑s.length : Int)) = true, (0 : Int) ≤ (↑k : Int) ∧ (↑k : Int) < (↑s.length : Int), false = false, (bif form then (↑(s.getD k (0 : UInt8)).toNat : Int) == (43 : Int) else false) = false, ((↑(s.getD k (0 : UInt8)).toNat : Int) == (37 : Int)) = true → inR IntKind.i64 ((↑k : Int) + (2 : Int)), (bif (↑(s.getD k (0 : UInt8)).toNat : Int) == (37 : Int) then decide ((↑k : Int) + (2 : Int) < (↑s.length : Int)) else false) = true → inR IntKind.i64 ((↑k : Int) + (1 : Int)), (bif (↑(s.getD k (0 : UInt8)).toNat : Int) == (37 : Int) then decide ((↑k : Int) + (2 : Int) < (↑s.length : Int)) else false) = true → (0 : Int) ≤ (↑k : Int) + (1 : Int) ∧ (↑k : Int) + (1 : Int) < (↑s.length : Int), (bif bif (↑(s.getD k (0 : UInt8)).toNat : Int) == (37 : Int) then decide ((↑k : Int) + (2 : Int) < (↑s.length : Int)) else false then decide (hexI (s.getD (k + (1 : Nat)) (0 : UInt8)) ≥ (0 : Int)) else false) = true → inR IntKind.i64 ((↑k : Int) + (2 : Int)), (bif bif (↑(s.getD k (0 : UInt8)).toNat : Int) == (37 : Int) then decide ((↑k : Int) + (2 : Int) < (↑s.length : Int)) else false then decide (hexI (s.getD (k + (1 : Nat)) (0 : UInt8)) ≥ (0 : Int)) else false) = true → (0 : Int) ≤ (↑k : Int) + (2 : Int) ∧ (↑k : Int) + (2 : Int) < (↑s.length : Int), (bif bif bif (↑(s.getD k (0 : UInt8)).toNat : Int) == (37 : Int) then decide ((↑k : Int) + (2 : Int) < (↑s.length : Int)) else false then decide (hexI (s.getD (k + (1 : Nat)) (0 : UInt8)) ≥ (0 : Int)) else false then decide (hexI (s.getD (k + (2 : Nat)) (0 : UInt8)) ≥ (0 : Int)) else false) = false] (by kernel_rfl) (by kernel_rfl) (by kernel_rfl) ⟨(by simp; omega), (by omega), rfl, (by assumption), (fun _ => inR64 (by omega) (by omega)), (fun _ => inR64 (by omega) (by omega)), (by simp; omega), (fun _ => inR64 (by omega) (by omega)), (by simp; omega), (show (bif bif bif (↑(s.getD k (0 : UInt8)).toNat : Int) == (37 : Int) then decide ((↑k : Int) + (2 : Int) < (↑s.length : Int)) else false then decide (hexI (s.getD (k + (1 : Nat)) (0 : UInt8)) ≥ (0 : Int)) else false then decide (hexI (s.getD (k + (2 : Nat)) (0 : UInt8)) ≥ (0 : Int)) else false) = false from (by assumption))⟩ ?_
          refine Wp.ret' (by kernel_rfl) ?_
          exact FinQ.pure (rs' := [V1.c (Cell.str []), V1.c (Cell.int .i64 (3 : Int))]) (by kernel_rfl) rfl (by kernel_rfl)
        | true =>
          rw [h3] at h37
          have hc := eq_of_beq h3
          have c1 := digit7_ok (G := G) (s.getD (k + 1) 0)
          have c2 := digit7_ok (G := G) (s.getD (k + 2) 0)
          have r1 := hexI_rng (s.getD (k + 1) 0)
          have r2 := hexI_rng (s.getD (k + 2) 0)
          by_cases h2 : k + 2 < s.length
          · have hd1 : s.drop (k + 1) = s.getD (k + 1) 0 :: s.getD (k + 2) 0 :: s.drop (k + 2 + 1) := by rw [dropS s (k + 1) (by omega), dropS s (k + 1 + 1) (by omega)]
            rw [hd1] at hq
            have hlt2 : decide ((k : Int) + 2 < (s.length : Int)) = true := by simp; omega
            by_cases hh : hexI (s.getD (k + 1) 0) ≥ 0 ∧ hexI (s.getD (k + 2) 0) ≥ 0
            · rw [hc, decL_hex hh.1 hh.2, map_app] at hq
              have ht : (bif bif bif ((s.getD k 0).toNat : Int) == 37 then decide ((k : Int) + 2 < (s.length : Int)) else false then decide (hexI (s.getD (k + 1) 0) ≥ 0) else false then decide (hexI (s.getD (k + 2) 0) ≥ 0) else false) = true := by rw [h37, hlt2, decide_eq_true hh.1, decide_eq_true hh.2]; rfl
              obtain ⟨z, hz⟩ : ∃ z : Nat, hexI (s.getD (k + 1) 0) * 16 + hexI (s.getD (k + 2) 0) = (z : Int) := Int.eq_ofNat_of_zero_le (by omega)
              have hz2 : z < 256 := by omega
              have hzo : UInt8.ofNat (hexI (s.getD (k + 1) 0) * 16 + hexI (s.getD (k + 2) 0)).toNat = UInt8.ofNat z := by rw [hz]; rfl
              rw [hzo] at hq
              have hzn : ((UInt8.ofNat z).toNat : Int) = (z : Int) := by rw [UInt8.toNat_ofNat']; omega
              have e0 : EqvD (.c (.int .u8 (IntKind.u8.wrap (hexI (s.getD (k + 1) 0) * 16 + hexI (s.getD (k + 2) 0))))) (.c (.int .u8 ((UInt8.ofNat z).toNat : Int))) := eqvD_of (by rw [hz, hzn, wrap8 (by omega) (by omega)])
              have e1 : BlkEqv (.row 5 1 (n + 1) (catF n (bytesF l) (fun i j => nthD [.int .u8 ((UInt8.ofNat z).toNat : Int)] ((0 + i) * 1 + j)))) (.row 5 1 (n + 1) (bytesF (l ++ [UInt8.ofNat z]))) := bytes_app l [UInt8.ofNat z] hn
              have hn' : n + 1 = (l ++ [UInt8.ofNat z]).length := by simp [hn]
              have e2 : EqvD (.c (.int .i64 ((k : Int) + 2))) (.c (.int .i64 ((k + 2 : Nat) : Int))) := eqvD_of (by rw [show (k : Int) + 2 = ((k + 2 : Nat) : Int) by omega])
              clear hp hf h3 hd1 hzo hzn
              refine Wp.go (mx := true) (fun _ => mixed) [(12, {cs := [(5, pc c1), (11, pc c2)], fm := [(13, .c (.int .u8 ((UInt8.ofNat z).toNat : Int)))], bs := [(15, Blk.row 5 1 (n + 1) (bytesF (l ++ [UInt8.ofNat z])))]}), (13, {fm := [(1, .c (.int .i64 ((k + 2 : Nat) : Int)))]}), (7, {cs := [(1, pc c0)]}), (11, {cs := [(14, pc c1), (22, pc c2)]})] 100 [true, false, false, true] [decide ((↑k : Int) < (↑s.length : Int)) = true, (0 : Int) ≤ (↑k : Int) ∧ (↑k : Int) < (↑s.length : Int), false = false, (bif form then (↑(s.getD k (0 : UInt8)).toNat : Int) == (43 : Int) else false) = false, ((↑(s.getD k (0 : UInt8)).toNat : Int) == (37 : Int)) = true → inR IntKind.i64 ((↑k : Int) + (2 : Int)), (bif (↑(s.getD k (0 : UInt8)).toNat : Int) == (37 : Int) then decide ((↑k : Int) + (2 : Int) < (↑s.length : Int)) else false) = true → inR IntKind.i64 ((↑k : Int) + (1 : Int)), (bif (↑(s.getD k (0 : UInt8)).toNat : Int) == (37 : Int) then decide ((↑k : Int) + (2 : Int) < (↑s.length : Int)) else false) = true → (0 : Int) ≤ (↑k : Int) + (1 : Int) ∧ (↑k : Int) + (1 : Int) < (↑s.length : Int), (bif bif (↑(s.getD k (0 : UInt8)).toNat : Int) == (37 : Int) then decide ((↑k : Int) + (2 : Int) < (↑s.length : Int)) else false then decide (hexI (s.getD (k + (1 : Nat)) (0 : UInt8)) ≥ (0 : Int)) else false) = true → inR IntKind.i64 ((↑k : Int) + (2 : Int)), (bif bif (↑(s.getD k (0 : UInt8)).toNat : Int) == (37 : Int) then decide ((↑k : Int) + (2 : Int) < (↑s.length : Int)) else false then decide (hexI (s.getD (k + (1 : Nat)) (0 : UInt8)) ≥ (0 : Int)) else false) = true → (0 : Int) ≤ (↑k : Int) + (2 : Int) ∧ (↑k : Int) + (2 : Int) < (↑s.length : Int), (bif bif bif (↑(s.getD k (0 : UInt8)).toNat : Int) == (37 : Int) then decide ((↑k : Int) + (2 : Int) < (↑s.length : Int)) else false then decide (hexI (s.getD (k + (1 : Nat)) (0 : UInt8)) ≥ (0 : Int)) else false then decide (hexI (s.getD (k + (2 : Nat)) (0 : UInt8)) ≥ (0 : Int)) else false) = true, inR IntKind.i64 ((↑k : Int) + (1 : Int)), (0 : Int) ≤ (↑k : Int) + (1 : Int) ∧ (↑k : Int) + (1 : Int) < (↑s.length : Int), inR IntKind.i64 (hexI (s.getD (k + (1 : Nat)) (0 : UInt8)) * (16 : Int)), inR IntKind.i64 ((↑k : Int) + (2 : Int)), (0 : Int) ≤ (↑k : Int) + (2 : Int) ∧ (↑k : Int) + (2 : Int) < (↑s.length : Int), inR IntKind.i64 (hexI (s.getD (k + (1 : Nat)) (0 : UInt8)) * (16 : Int) + hexI (s.getD (k + (2 : Nat)) (0 : UInt8))), EqvI (V1.c (Cell.int .u8 (IntKind.u8.wrap (hexI (s.getD (k + (1 : Nat)) (0 : UInt8)) * (16 : Int) + hexI (s.getD (k + (2 : Nat)) (0 : UInt8)))))) (V1.c (Cell.int .u8 (↑(UInt8.ofNat z).toNat : Int))), EqvD (V1.c (Cell.int .u8 (IntKind.u8.wrap (hexI (s.getD (k + (1 : Nat)) (0 : UInt8)) * (16 : Int) + hexI (s.getD (k + (2 : Nat)) (0 : UInt8)))))) (V1.c (Cell.int .u8 (↑(UInt8.ofNat z).toNat : Int))), (n + (1 : Nat)) * (1 : Nat) ≤ (140737488355328 : Nat), BlkEqv (Blk.row 5 (1 : Nat) (n + (1 : Nat)) (catF n (bytesF l) fun (i j : Nat) => nthD [Cell.int .u8 (↑(UInt8.ofNat z).toNat : Int)] (((0 : Nat) + i) * (1 : Nat) + j))) (Blk.row 5 (1 : Nat) (n + (1 : Nat)) (bytesF (l ++ [UInt8.ofNat z]))), n ≤ n, (0 : Nat) + (1 : Nat) ≤ (1 : Nat), EqvI (V1.c (Cell.int .i64 ((↑k : Int) + (2 : Int)))) (V1.c (Cell.int .i64 (↑(k + (2 : Nat)) : Int))), EqvD (V1.c (Cell.int .i64 ((↑k : Int) + (2 : Int)))) (V1.c (Cell.int .i64 (↑(k + (2 : Nat)) : Int))), inR IntKind.i64 ((↑k : Int) + (2 : Int)), inR IntKind.i64 ((↑(k + (2 : Nat)) : Int) + (1 : Int))] (by kernel_rfl) (by kernel_rfl) (by kernel_rfl) ⟨(by simp; omega), (by omega), rfl, (by assumption), (fun _ => inR64 (by omega) (by omega)), (fun _ => inR64 (by omega) (by omega)), (by omega), (fun _ => inR64 (by omega) (by omega)), (by omega), (by assumption), inR64 (by omega) (by omega), (by omega), inR64 (by omega) (by omega), inR64 (by omega) (by omega), (by omega), inR64 (by omega) (by omega), fun _ _ => trivial, (by assumption), (by omega), (by assumption), (by omega), (by omega), fun _ _ => trivial, (by assumption), inR64 (by omega) (by omega), inR64 (by omega) (by omega)⟩ ?_
              exact Wp.lpK (by kernel_rfl) (again _ (k + 2 + 1, n + 1, l ++ [UInt8.ofNat z]) ⟨(by assumption), ⟨(by assumption), ⟨(by simp; omega), (by assumption)⟩⟩⟩ (by omega) (Ent.of [(64, 1008)] (by kernel_rfl) (by kernel_rfl) (by kernel_rfl) trivial))
            · rw [hc, decL_hex_no (fun a b t e => by cases e; exact hh)] at hq
              have hT : decT form s = ([], 3) := by unfold decT; rw [hq]; rfl
              rw [hT]
              have ht : (bif bif bif ((s.getD k 0).toNat : Int) == 37 then decide ((k : Int) + 2 < (s.length : Int)) else false then decide (hexI (s.getD (k + 1) 0) ≥ 0) else false then decide (hexI (s.getD (k + 2) 0) ≥ 0) else false) = false := by
                rw [h37, hlt2]
                by_cases ha : hexI (s.getD (k + 1) 0) ≥ 0
                · rw [decide_eq_true ha, decide_eq_false (fun hb => hh ⟨ha, hb⟩)]; rfl
                · rw [decide_eq_false ha]; rfl
              clear hp hf h3 hT hq again
              refine Wp.go (mx := true) (fun _ => mixed) [(7, {cs := [(1, pc c0)]}), (11, {cs := [(14, pc c1), (22, pc c2)]})] 100 [true, false, false, false] [decide ((↑k : Int) < (↑s.length : Int)) = true, (0 : Int) ≤ (↑k : Int) ∧ (↑k : Int) < (↑s.length : Int), false = false, (bif form then (↑(s.getD k (0 : UInt8)).toNat : Int) == (43 : Int) else false) = false, ((↑(s.getD k (0 : UInt8)).toNat : Int) == (37 : Int)) = true → inR IntKind.i64 ((↑k : Int) + (2 : Int)), (bif (↑(s.getD k (0 : UInt8)).toNat : Int) == (37 : Int) then decide ((↑k : Int) + (2 : Int) < (↑s.length : Int)) else false) = true → inR IntKind.i64 ((↑k : Int) + (1 : Int)), (bif (↑(s.getD k (0 : UInt8)).toNat : Int) == (37 : Int) then decide ((↑k : Int) + (2 : Int) < (↑s.length : Int)) else false) = true → (0 : Int) ≤ (↑k : Int) + (1 : Int) ∧ (↑k : Int) + (1 : Int) < (↑s.length : Int), (bif bif (↑(s.getD k (0 : UInt8)).toNat : Int) == (37 : Int) then decide ((↑k : Int) + (2 : Int) < (↑s.length : Int)) else false then decide (hexI (s.getD (k + (1 : Nat)) (0 : UInt8)) ≥ (0 : Int)) else false) = true → inR IntKind.i64 ((↑k : Int) + (2 : Int)), (bif bif (↑(s.getD k (0 : UInt8)).toNat : Int) == (37 : Int) then decide ((↑k : Int) + (2 : Int) < (↑s.length : Int)) else false then decide (hexI (s.getD (k + (1 : Nat)) (0 : UInt8)) ≥ (0 : Int)) else false) = true → (0 : Int) ≤ (↑k : Int) + (2 : Int) ∧ (↑k : Int) + (2 : Int) < (↑s.length : Int), (bif bif bif (↑(s.getD k (0 : UInt8)).toNat : Int) == (37 : Int) then decide ((↑k : Int) + (2 : Int) < (↑s.length : Int)) else false then decide (hexI (s.getD (k + (1 : Nat)) (0 : UInt8)) ≥ (0 : Int)) else false then decide (hexI (s.getD (k + (2 : Nat)) (0 : UInt8)) ≥ (0 : Int)) else false) = false] (by kernel_rfl) (by kernel_rfl) (by kernel_rfl) ⟨(by simp; omega), (by omega), rfl, (by assumption), (fun _ => inR64 (by omega) (by omega)), (fun _ => inR64 (by omega) (by omega)), (by omega), (fun _ => inR64 (by omega) (by omega)), (by omega), (show (bif bif bif (↑(s.getD k (0 : UInt8)).toNat : Int) == (37 : Int) then decide ((↑k : Int) + (2 : Int) < (↑s.length : Int)) else false then decide (hexI (s.getD (k + (1 : Nat)) (0 : UInt8)) ≥ (0 : Int)) else false then decide (hexI (s.getD (k + (2 : Nat)) (0 : UInt8)) ≥ (0 : Int)) else false) = false from (by assumption))⟩ ?_
              refine Wp.ret' (by kernel_rfl) ?_
              exact FinQ.pure (rs' := [V1.c (Cell.str []), V1.c (Cell.int .i64 (3 : Int))]) (by kernel_rfl) rfl (by kernel_rfl)
          · have hno : ∀ a b t, s.drop (k + 1) = a :: b :: t → ¬ (hexI a ≥ 0 ∧ hexI b ≥ 0) := fun a b t e => by
              have := congrArg List.length e
              simp at this
              omega
            rw [hc, decL_hex_no hno] at hq
            have hT : decT form s = ([], 3) := by unfold decT; rw [hq]; rfl
            rw [hT]
            have hlt2 : decide ((k : Int) + 2 < (s.length : Int)) = false := by simp; omega
            have ht : (bif bif bif ((s.getD k 0).toNat : Int) == 37 then decide ((k : Int) + 2 < (s.length : Int)) else false then decide (hexI (s.getD (k + 1) 0) ≥ 0) else false then decide (hexI (s.getD (k + 2) 0) ≥ 0) else false) = false := by rw [h37, hlt2]; rfl
            clear hp hf h3 hT hq again
            refine Wp.go (mx := true) (fun _ => mixed) [(7, {cs := [(1, pc c0)]}), (11, {cs := [(14, pc c1), (22, pc c2)]})] 100 [true, false, false, false] [decide ((↑k : Int) < (↑s.length : Int)) = true, (0 : Int) ≤ (↑k : Int) ∧ (↑k : Int) < (↑s.length : Int), false = false, (bif form then (↑(s.getD k (0 : UInt8)).toNat : Int) == (43 : Int) else false) = false, ((↑(s.getD k (0 : UInt8)).toNat : Int) == (37 : Int)) = true → inR IntKind.i64 ((↑k : Int) + (2 : Int)), (bif (↑(s.getD k (0 : UInt8)).toNat : Int) == (37 : Int) then decide ((↑k : Int) + (2 : Int) < (↑s.length : Int)) else false) = true → inR IntKind.i64 ((↑k : Int) + (1 : Int)), (bif (↑(s.getD k (0 : UInt8)).toNat : Int) == (37 : Int) then decide ((↑k : Int) + (2 : Int) < (↑s.length : Int)) else false) = true → (0 : Int) ≤ (↑k : Int) + (1 : Int) ∧ (↑k : Int) + (1 : Int) < (↑s.length : Int), (bif bif (↑(s.getD k (0 : UInt8)).toNat : Int) == (37 : Int) then decide ((↑k : Int) + (2 : Int) < (↑s.length : Int)) else false then decide (hexI (s.getD (k + (1 : Nat)) (0 : UInt8)) ≥ (0 : Int)) else false) = true → inR IntKind.i64 ((↑k : Int) + (2 : Int)), (bif bif (↑(s.getD k (0 : UInt8)).toNat : Int) == (37 : Int) then decide ((↑k : Int) + (2 : Int) < (↑s.length : Int)) else false then decide (hexI (s.getD (k + (1 : Nat)) (0 : UInt8)) ≥ (0 : Int)) else false) = true → (0 : Int) ≤ (↑k : Int) + (2 : Int) ∧ (↑k : Int) + (2 : Int) < (↑s.length : Int), (bif bif bif (↑(s.getD k (0 : UInt8)).toNat : Int) == (37 : Int) then decide ((↑k : Int) + (2 : Int) < (↑s.length : Int)) else false then decide (hexI (s.getD (k + (1 : Nat)) (0 : UInt8)) ≥ (0 : Int)) else false then decide (hexI (s.getD (k + (2 : Nat)) (0 : UInt8)) ≥ (0 : Int)) else false) = false] (by kernel_rfl) (by kernel_rfl) (by kernel_rfl) ⟨(by simp; omega), (by omega), rfl, (by assumption), (fun _ => inR64 (by omega) (by omega)), (fun _ => inR64 (by omega) (by omega)), (by simp; omega), (fun _ => inR64 (by omega) (by omega)), (by simp; omega), (show (bif bif bif (↑(s.getD k (0 : UInt8)).toNat : Int) == (37 : Int) then decide ((↑k : Int) + (2 : Int) < (↑s.length : Int)) else false then decide (hexI (s.getD (k + (1 : Nat)) (0 : UInt8)) ≥ (0 : Int)) else false then decide (hexI (s.getD (k + (2 : Nat)) (0 : UInt8)) ≥ (0 : Int)) else false) = false from (by assumption))⟩ ?_
            refine Wp.ret' (by kernel_rfl) ?_
            exact FinQ.pure (rs' := [V1.c (Cell.str []), V1.c (Cell.int .i64 (3 : Int))]) (by kernel_rfl) rfl (by kernel_rfl)
  · rw [List.drop_of_length_le hge] at hq
    have hq : decL form s = some l := by rw [hq]; simp [decL]
    have ee : byteL (bytesF l) 0 n = l := byteL_F l hn
    have ea : areBytes (bytesF l) 0 n := areBytes_F _ _ _
    have ef : EqvD (.c (.str (byteL (bytesF l) 0 n))) (.c (.str l)) := eqvD_of (by rw [ee])
    have c1 := enc7_ok (G := G) l form (by omega)
    clear again
    by_cases hh : pctT form l = s
    · have hT : decT form s = (l, 0) := by unfold decT; rw [hq]; exact if_pos hh
      rw [hT]
      have hb : (!(pctT form l == s)) = false := by rw [hh]; simp
      clear hT hq hh
      refine Wp.go (mx := true) (fun _ => mixed) [(14, {cs := [(3, pc c1)], fm := [(1, .c (.str l))]}), (16, {fm := [(1, .c (.str l))]})] 100 [false, false] [decide ((↑k : Int) < (↑s.length : Int)) = false, EqvI (V1.c (Cell.str (byteL (bytesF l) (0 : Nat) n))) (V1.c (Cell.str l)), EqvD (V1.c (Cell.str (byteL (bytesF l) (0 : Nat) n))) (V1.c (Cell.str l)), (0 : Nat) + n ≤ n, areBytes (bytesF l) (0 : Nat) n, (!pctT form l == s) = false, EqvI (V1.c (Cell.str (byteL (bytesF l) (0 : Nat) n))) (V1.c (Cell.str l)), EqvD (V1.c (Cell.str (byteL (bytesF l) (0 : Nat) n))) (V1.c (Cell.str l)), (0 : Nat) + n ≤ n, areBytes (bytesF l) (0 : Nat) n] (by kernel_rfl) (by kernel_rfl) (by kernel_rfl) ⟨(by simp; omega), fun _ _ => trivial, (by assumption), (by omega), (by assumption), (by assumption), fun _ _ => trivial, (by assumption), (by omega), (show areBytes (bytesF l) (0 : Nat) n from (by assumption))⟩ ?_
      refine Wp.ret' (by kernel_rfl) ?_
      exact FinQ.pure (rs' := [V1.c (Cell.str l), V1.c (Cell.int .i64 (0 : Int))]) (by kernel_rfl) rfl (by kernel_rfl)
    · have hT : decT form s = ([], 3) := by unfold decT; rw [hq]; exact if_neg hh
      rw [hT]
      have hb : (!(pctT form l == s)) = true := by simp [hh]
      clear hT hq hh
      refine Wp.go (mx := true) (fun _ => mixed) [(14, {cs := [(3, pc c1)], fm := [(1, .c (.str l))]})] 100 [false, true] [decide ((↑k : Int) < (↑s.length : Int)) = false, EqvI (V1.c (Cell.str (byteL (bytesF l) (0 : Nat) n))) (V1.c (Cell.str l)), EqvD (V1.c (Cell.str (byteL (bytesF l) (0 : Nat) n))) (V1.c (Cell.str l)), (0 : Nat) + n ≤ n, areBytes (bytesF l) (0 : Nat) n, (!pctT form l == s) = true] (by kernel_rfl) (by kernel_rfl) (by kernel_rfl) ⟨(by simp; omega), fun _ _ => trivial, (by assumption), (by omega), (by assumption), (show (!pctT form l == s) = true from (by assumption))⟩ ?_
      refine Wp.ret' (by kernel_rfl) ?_
      exact FinQ.pure (rs' := [V1.c (Cell.str []), V1.c (Cell.int .i64 (3 : Int))]) (by kernel_rfl) rfl (by kernel_rfl)
end Go.Proofs.Tw
end

section
open Go Go.Sv Go.RowKit
namespace Go.Proofs.Tw
attribute [local irreducible] Wp FinQ resV Ent Pur Go.Sv.Fn Sat0
set_option maxRecDepth 100000
set_option maxHeartbeats 4000000
variable {G : Nat → Option (List Cell)}

def ptN (p : List UInt8) : List UInt8 × Int := decT true (Lib.cut p [61]).1
def ptV (p : List UInt8) : List UInt8 × Int := decT true (Lib.cut p [61]).2.1
def ptF (p : List UInt8) : FT := ⟨(ptN p).1, (ptV p).1⟩
def ptBad (p : List UInt8) : Bool := bif bif bif !(Lib.cut p [61]).2.2 then true else (ptN p).2 != 0 then true else (ptV p).2 != 0 then true else (ptN p).1 == []
def partsP : List (List UInt8) → List FT → List FT × Int
  | [], acc => (acc, 0)
  | p :: r, acc => if ptBad p then ([], 3) else if (fGet acc (ptF p).name).isSome then ([], 6) else partsP r (acc ++ [ptF p])
def parseF (s : List UInt8) : List FT × Int := if s = [] then ([], 0) else if (Lib.split s [38]).length > 24 then ([], 7) else partsP (Lib.split s [38]) []
theorem parse10_ok (s : List UInt8) (hl : s.length < 1000000000) : Pur Tryz.prog G 65 [.c (.str s)] [.c (encH (parseF s).1), .c (.int .i64 (parseF s).2)] := by
  refine Pur.of Tryz.func65 (by kernel_rfl) (by kernel_rfl) (by kernel_rfl) ?_
  have hnil : EqvD (.c .nilsl) (.c (encH [])) := nil_eqv _ _
  unfold parseF
  by_cases h0 : s = []
  · rw [if_pos h0]
    have hb : (s == []) = true := by rw [h0]; rfl
    refine Wp.go (mx := true) (fun _ => mixed) [(2, {fm := [(0, .c (encH []))]})] 100 [true] [(s == []) = true, EqvI (V1.c Cell.nilsl) (V1.c (encH [])), EqvD (V1.c Cell.nilsl) (V1.c (encH []))] (by kernel_rfl) (by kernel_rfl) (by kernel_rfl) ⟨(by assumption), fun _ _ => trivial, (show EqvD (V1.c Cell.nilsl) (V1.c (encH [])) from (by assumption))⟩ ?_
    refine Wp.ret' (by kernel_rfl) ?_
    exact FinQ.pure (rs' := [V1.c (Cell.sl (2 : Nat) ([] : List UInt8).length fun (i j : Nat) => nthD (encF ([].getD i FT.nil)) j), V1.c (Cell.int .i64 (0 : Int))]) (by kernel_rfl) rfl (by kernel_rfl)
  rw [if_neg h0]
  have hb : (s == []) = false := by simpa using h0
  have c1 := parts_ok (G := G) s [38] hl (by simp) (by decide)
  have hel := split_el s [38]
  generalize Lib.split s [38] = l at c1 hel
  by_cases h1 : l.length > 24
  · rw [if_pos h1]
    have ht : decide ((l.length : Int) > 24) = true := by simp; omega
    refine Wp.go (mx := true) (fun _ => mixed) [(5, {fm := [(0, .c (encH []))]}), (3, {cs := [(1, pc c1)]})] 100 [false, true] [(s == []) = false, decide ((↑l.length : Int) > (24 : Int)) = true, EqvI (V1.c Cell.nilsl) (V1.c (encH [])), EqvD (V1.c Cell.nilsl) (V1.c (encH []))] (by kernel_rfl) (by kernel_rfl) (by kernel_rfl) ⟨(by assumption), (by assumption), fun _ _ => trivial, (show EqvD (V1.c Cell.nilsl) (V1.c (encH [])) from (by assumption))⟩ ?_
    refine Wp.ret' (by kernel_rfl) ?_
    exact FinQ.pure (rs' := [V1.c (Cell.sl (2 : Nat) ([] : List UInt8).length fun (i j : Nat) => nthD (encF ([].getD i FT.nil)) j), V1.c (Cell.int .i64 (7 : Int))]) (by kernel_rfl) rfl (by kernel_rfl)
  rw [if_neg h1]
  have hgt : decide ((l.length : Int) > 24) = false := by simp; omega
  refine Wp.go (mx := true) (fun _ => mixed) [(3, {cs := [(1, pc c1)]})] 100 [false, false] [(s == []) = false, decide ((l.length : Int) > 24) = false] (by kernel_rfl) (by kernel_rfl) (by kernel_rfl) ⟨hb, hgt⟩ ?_
  refine Wp.loopK (by kernel_rfl) (fun (x : Nat × Nat × List FT) => ⟨[(4, .v (.c (.sl 1 l.length (strsF l)))), (5, .v (.c (.row 2 192 0 x.2.1))), (6, .v (.c (.int .i64 (x.1 : Int))))], [(192, .row 40 2 x.2.1 (rowF encF .nil x.2.2))], 208⟩) (fun x => x.1 ≤ l.length ∧ x.2.1 = x.2.2.length ∧ x.2.1 ≤ x.1 ∧ partsP l [] = partsP (l.drop x.1) x.2.2) (fun x => l.length - x.1) (0, 0, []) (Ent.trans (Ent.empT (t := 5) (sz := 2) (e := 40) (f := (rowF encF .nil [])) (by decide) (by kernel_rfl) rfl) (Ent.of [] (by kernel_rfl) (by kernel_rfl) (by kernel_rfl) trivial)) ⟨Nat.zero_le _, rfl, Nat.le_refl _, rfl⟩ ?_
  rintro ⟨k, n, acc⟩ L ⟨hk, hn, hm, hq⟩ again
  simp only at hk hn hm hq
  rcases Nat.lt_or_ge k l.length with hlt | hge
  · rw [dropM l [] k hlt, partsP] at hq
    have hp := hel k
    have hc := cut_len (l.getD k []) [61]
    have c2 := cut6_ok (G := G) (l.getD k []) [61] (by omega) (by simp) (by decide)
    have c3 : Pur Tryz.prog G 97 [.c (.str (Lib.cut (l.getD k []) [61]).1), .c (.bool true)] [.c (.str (ptN (l.getD k [])).1), .c (.int .i64 (ptN (l.getD k [])).2)] := dec7_ok _ true (by omega)
    have c4 : Pur Tryz.prog G 97 [.c (.str (Lib.cut (l.getD k []) [61]).2.1), .c (.bool true)] [.c (.str (ptV (l.getD k [])).1), .c (.int .i64 (ptV (l.getD k [])).2)] := dec7_ok _ true (by omega)
    have c5 : Pur Tryz.prog G 78 [.c (.sl 2 n (fldF acc)), .c (.str (ptN (l.getD k [])).1)] [.c (.bool (fGet acc (ptF (l.getD k [])).name).isSome)] := has10_n acc n _ hn (by omega)
    cases hbad : ptBad (l.getD k []) with
    | true =>
      rw [hbad, if_pos rfl] at hq
      rw [hq]
      unfold ptBad at hbad
      clear hq again
      refine Wp.go (mx := true) (fun _ => mixed) [(14, {fm := [(0, .c (encH []))]}), (10, {cs := [(4, pc c2)]}), (11, {cs := [(1, pc c3)]}), (12, {cs := [(1, pc c4)]})] 100 [true, true] [decide ((↑k : Int) < (↑l.length : Int)) = true, (0 : Int) ≤ (↑k : Int) ∧ (↑k : Int) < (↑l.length : Int), (bif bif bif !(Lib.cut (l.getD k []) [(61 : UInt8)]).2.snd then true else (ptN (l.getD k [])).2 != (0 : Int) then true else (ptV (l.getD k [])).2 != (0 : Int) then true else (ptN (l.getD k [])).1 == []) = true, EqvI (V1.c Cell.nilsl) (V1.c (encH [])), EqvD (V1.c Cell.nilsl) (V1.c (encH []))] (by kernel_rfl) (by kernel_rfl) (by kernel_rfl) ⟨(by simp; omega), (by omega), (by assumption), fun _ _ => trivial, (show EqvD (V1.c Cell.nilsl) (V1.c (encH [])) from (by assumption))⟩ ?_
      refine Wp.ret' (by kernel_rfl) ?_
      exact FinQ.pure (rs' := [V1.c (Cell.sl (2 : Nat) ([] : List UInt8).length fun (i j : Nat) => nthD (encF ([].getD i FT.nil)) j), V1.c (Cell.int .i64 (3 : Int))]) (by kernel_rfl) rfl (by kernel_rfl)
    | false =>
      rw [hbad, if_neg (by decide)] at hq
      unfold ptBad at hbad
      cases hg : (fGet acc (ptF (l.getD k [])).name).isSome with
      | true =>
        rw [hg, if_pos rfl] at hq
        rw [hg] at c5
        rw [hq]
        clear hq again hg
        refine Wp.go (mx := true) (fun _ => mixed) [(16, {fm := [(0, .c (encH []))]}), (10, {cs := [(4, pc c2)]}), (11, {cs := [(1, pc c3)]}), (12, {cs := [(1, pc c4)]}), (15, {cs := [(2, lc [192] [Blk.row 40 (2 : Nat) n fun (i j : Nat) => nthD [Cell.str (acc.getD i FT.nil).name, Cell.str (acc.getD i FT.nil).value] j] [V1.c (Cell.row (2 : Nat) (0 : Nat) (0 : Nat) n), V1.c (Cell.str (ptN (l.getD k [])).1)] c5 (by kernel_rfl) (by kernel_rfl) (by kernel_rfl) (show (0 : Nat) + n ≤ n from (by omega)))]})] 100 [true, false, true] [decide ((↑k : Int) < (↑l.length : Int)) = true, (0 : Int) ≤ (↑k : Int) ∧ (↑k : Int) < (↑l.length : Int), (bif bif bif !(Lib.cut (l.getD k []) [(61 : UInt8)]).2.snd then true else (ptN (l.getD k [])).2 != (0 : Int) then true else (ptV (l.getD k [])).2 != (0 : Int) then true else (ptN (l.getD k [])).1 == []) = false, true = true, EqvI (V1.c Cell.nilsl) (V1.c (encH [])), EqvD (V1.c Cell.nilsl) (V1.c (encH []))] (by kernel_rfl) (by kernel_rfl) (by kernel_rfl) ⟨(by simp; omega), (by omega), (by assumption), rfl, fun _ _ => trivial, (show EqvD (V1.c Cell.nilsl) (V1.c (encH [])) from (by assumption))⟩ ?_
        refine Wp.ret' (by kernel_rfl) ?_
        exact FinQ.pure (rs' := [V1.c (Cell.sl (2 : Nat) ([] : List UInt8).length fun (i j : Nat) => nthD (encF ([].getD i FT.nil)) j), V1.c (Cell.int .i64 (6 : Int))]) (by kernel_rfl) rfl (by kernel_rfl)
      | false =>
        rw [hg, if_neg (by decide)] at hq
        rw [hg] at c5
        have e1 : BlkEqv (.row 40 2 (n + 1) (catF n (rowF encF .nil acc) (fun i j => nthD (encF (ptF (l.getD k []))) ((0 + i) * 2 + j)))) (.row 40 2 (n + 1) (rowF encF .nil (acc ++ [ptF (l.getD k [])]))) := enc_app acc _ hn
        have q2 : n + 1 = (acc ++ [ptF (l.getD k [])]).length := by simp [hn]
        clear hg
        refine Wp.go (mx := true) (fun _ => mixed) [(17, {bs := [(5, Blk.row 40 2 (n + 1) (rowF encF .nil (acc ++ [ptF (l.getD k [])])))]}), (10, {cs := [(4, pc c2)]}), (11, {cs := [(1, pc c3)]}), (12, {cs := [(1, pc c4)]}), (15, {cs := [(2, lc [192] [Blk.row 40 (2 : Nat) n fun (i j : Nat) => nthD [Cell.str (acc.getD i FT.nil).name, Cell.str (acc.getD i FT.nil).value] j] [V1.c (Cell.row (2 : Nat) (0 : Nat) (0 : Nat) n), V1.c (Cell.str (ptN (l.getD k [])).1)] c5 (by kernel_rfl) (by kernel_rfl) (by kernel_rfl) (show (0 : Nat) + n ≤ n from (by omega)))]})] 100 [true, false, false] [decide ((↑k : Int) < (↑l.length : Int)) = true, (0 : Int) ≤ (↑k : Int) ∧ (↑k : Int) < (↑l.length : Int), (bif bif bif !(Lib.cut (l.getD k []) [(61 : UInt8)]).2.snd then true else (ptN (l.getD k [])).2 != (0 : Int) then true else (ptV (l.getD k [])).2 != (0 : Int) then true else (ptN (l.getD k [])).1 == []) = false, false = false, (n + (1 : Nat)) * (32 : Nat) ≤ (140737488355328 : Nat), BlkEqv (Blk.row 40 (2 : Nat) (n + (1 : Nat)) (catF n (fun (i j : Nat) => nthD [Cell.str (acc.getD i FT.nil).name, Cell.str (acc.getD i FT.nil).value] j) fun (i j : Nat) => nthD [Cell.str (ptN (l.getD k [])).1, Cell.str (ptV (l.getD k [])).1] (((0 : Nat) + i) * (2 : Nat) + j))) (Blk.row 40 (2 : Nat) (n + (1 : Nat)) (rowF encF FT.nil (acc ++ [ptF (l.getD k [])]))), n ≤ n, (0 : Nat) + (1 : Nat) ≤ (1 : Nat), inR IntKind.i64 ((↑k : Int) + (1 : Int))] (by kernel_rfl) (by kernel_rfl) (by kernel_rfl) ⟨(by simp; omega), (by omega), (by assumption), rfl, (by omega), (by assumption), (by omega), (by omega), inR64 (by omega) (by omega)⟩ ?_
        exact Wp.lpK (by kernel_rfl) (again _ (k + 1, n + 1, acc ++ [ptF (l.getD k [])]) ⟨(by assumption), ⟨(by assumption), ⟨(by simp; omega), (by assumption)⟩⟩⟩ (by omega) (Ent.of [(192, 1072)] (by kernel_rfl) (by kernel_rfl) (by kernel_rfl) trivial))
  · rw [List.drop_of_length_le hge, partsP] at hq
    rw [hq]
    subst hn
    clear hq again
    refine Wp.ent' (by kernel_rfl) (Ent.pubT (e := 40) (sz := 2) (id := 192) (t := 5) (off := 0) (m := acc.length) (n := acc.length) (f := (rowF encF .nil acc)) (m' := acc.length) (f' := (fun i j => nthD (encF (acc.getD i .nil)) j)) (by kernel_rfl) (by kernel_rfl) (by omega) rfl (fun i _ j _ => by rw [Nat.zero_add]; rfl) rfl) ?_
    refine Wp.go (mx := true) (fun _ => mixed) [] 100 [false] [decide ((↑k : Int) < (↑l.length : Int)) = false] (by kernel_rfl) (by kernel_rfl) (by kernel_rfl) (show decide ((↑k : Int) < (↑l.length : Int)) = false from (by simp; omega)) ?_
    refine Wp.ret' (by kernel_rfl) ?_
    exact FinQ.pure (rs' := [V1.c (Cell.sl (2 : Nat) acc.length fun (i j : Nat) => nthD (encF (acc.getD i FT.nil)) j), V1.c (Cell.int .i64 (0 : Int))]) (by kernel_rfl) rfl (by kernel_rfl)
def splitB (s : List UInt8) : Bool := bif !pathT (Lib.cut s [63]).1 then true else bif (Lib.cut s [63]).2.2 then (Lib.cut s [63]).2.1 == [] else false
def splitU (s : List UInt8) : List UInt8 × List FT × Int := if s.length > 1024 then ([], [], 4) else if splitB s then ([], [], 3) else if (parseF (Lib.cut s [63]).2.1).2 = 0 then ((Lib.cut s [63]).1, (parseF (Lib.cut s [63]).2.1).1, 0) else ([], [], (parseF (Lib.cut s [63]).2.1).2)
theorem split11_ok (s : List UInt8) (hl : s.length < 1000000000) : Pur Tryz.prog G 27 [.c (.str s)] [.c (.str (splitU s).1), .c (encH (splitU s).2.1), .c (.int .i64 (splitU s).2.2)] := by
  refine Pur.of Tryz.func27 (by kernel_rfl) (by kernel_rfl) (by kernel_rfl) ?_
  have hnil : EqvD (.c .nilsl) (.c (encH [])) := nil_eqv _ _
  have hc := cut_len s [63]
  have c1 := cut6_ok (G := G) s [63] (by omega) (by decide) (by decide)
  have c2 := path11_ok (G := G) (Lib.cut s [63]).1 (by omega)
  have c3 := parse10_ok (G := G) (Lib.cut s [63]).2.1 (by omega)
  unfold splitU splitB
  generalize Lib.cut s [63] = C at *
  by_cases h1 : s.length > 1024
  · rw [if_pos h1]
    have ht : decide ((s.length : Int) > 1024) = true := by simp; omega
    refine Wp.go (mx := true) (fun _ => mixed) [(2, {fm := [(1, .c (encH []))]})] 100 [true] [decide ((↑s.length : Int) > (1024 : Int)) = true, EqvI (V1.c Cell.nilsl) (V1.c (encH [])), EqvD (V1.c Cell.nilsl) (V1.c (encH []))] (by kernel_rfl) (by kernel_rfl) (by kernel_rfl) ⟨(by assumption), fun _ _ => trivial, (show EqvD (V1.c Cell.nilsl) (V1.c (encH [])) from (by assumption))⟩ ?_
    refine Wp.ret' (by kernel_rfl) ?_
    exact FinQ.pure (rs' := [V1.c (Cell.str []), V1.c (Cell.sl (2 : Nat) ([] : List UInt8).length fun (i j : Nat) => nthD (encF ([].getD i FT.nil)) j), V1.c (Cell.int .i64 (4 : Int))]) (by kernel_rfl) rfl (by kernel_rfl)
  rw [if_neg h1]
  have ht : decide ((s.length : Int) > 1024) = false := by simp; omega
  cases hb : (bif !pathT C.1 then true else bif C.2.2 then C.2.1 == [] else false) with
  | true =>
    rw [if_pos rfl]
    refine Wp.go (mx := true) (fun _ => mixed) [(5, {fm := [(1, .c (encH []))]}), (3, {cs := [(1, pc c1)]}), (4, {cs := [(1, pc c2)]})] 100 [false, true] [decide ((↑s.length : Int) > (1024 : Int)) = false, (bif !pathT C.1 then true else bif C.2.snd then C.2.fst == [] else false) = true, EqvI (V1.c Cell.nilsl) (V1.c (encH [])), EqvD (V1.c Cell.nilsl) (V1.c (encH []))] (by kernel_rfl) (by kernel_rfl) (by kernel_rfl) ⟨(by assumption), (by assumption), fun _ _ => trivial, (show EqvD (V1.c Cell.nilsl) (V1.c (encH [])) from (by assumption))⟩ ?_
    refine Wp.ret' (by kernel_rfl) ?_
    exact FinQ.pure (rs' := [V1.c (Cell.str []), V1.c (Cell.sl (2 : Nat) ([] : List UInt8).length fun (i j : Nat) => nthD (encF ([].getD i FT.nil)) j), V1.c (Cell.int .i64 (3 : Int))]) (by kernel_rfl) rfl (by kernel_rfl)
  | false =>
    rw [if_neg (by decide)]
    by_cases h2 : (parseF C.2.1).2 = 0
    · rw [if_pos h2]
      rw [h2] at c3
      refine Wp.go (mx := true) (fun _ => mixed) [(3, {cs := [(1, pc c1)]}), (4, {cs := [(1, pc c2)]}), (6, {cs := [(1, pc c3)]})] 100 [false, false, false] [decide ((↑s.length : Int) > (1024 : Int)) = false, (bif !pathT C.1 then true else bif C.2.snd then C.2.fst == [] else false) = false, ((0 : Int) != (0 : Int)) = false] (by kernel_rfl) (by kernel_rfl) (by kernel_rfl) ⟨(by assumption), (by assumption), rfl⟩ ?_
      refine Wp.ret' (by kernel_rfl) ?_
      exact FinQ.pure (rs' := [V1.c (Cell.str C.1), V1.c (Cell.sl (2 : Nat) (parseF C.2.fst).fst.length fun (i j : Nat) => nthD [Cell.str ((parseF C.2.fst).fst.getD i FT.nil).name, Cell.str ((parseF C.2.fst).fst.getD i FT.nil).value] j), V1.c (Cell.int .i64 (0 : Int))]) (by kernel_rfl) rfl (by kernel_rfl)
    · rw [if_neg h2]
      have ht2 : ((parseF C.2.1).2 != 0) = true := bne_iff_ne.2 h2
      generalize (parseF C.2.1).2 = e at *
      clear h2
      refine Wp.go (mx := true) (fun _ => mixed) [(8, {fm := [(2, .c (encH []))]}), (3, {cs := [(1, pc c1)]}), (4, {cs := [(1, pc c2)]}), (6, {cs := [(1, pc c3)]})] 100 [false, false, true] [decide ((↑s.length : Int) > (1024 : Int)) = false, (bif !pathT C.1 then true else bif C.2.snd then C.2.fst == [] else false) = false, (e != (0 : Int)) = true, EqvI (V1.c Cell.nilsl) (V1.c (encH [])), EqvD (V1.c Cell.nilsl) (V1.c (encH []))] (by kernel_rfl) (by kernel_rfl) (by kernel_rfl) ⟨(by assumption), (by assumption), (by assumption), fun _ _ => trivial, (show EqvD (V1.c Cell.nilsl) (V1.c (encH [])) from (by assumption))⟩ ?_
      refine Wp.ret' (by kernel_rfl) ?_
      exact FinQ.pure (rs' := [V1.c (Cell.str []), V1.c (Cell.sl (2 : Nat) ([] : List UInt8).length fun (i j : Nat) => nthD (encF ([].getD i FT.nil)) j), V1.c (Cell.int .i64 e)]) (by kernel_rfl) rfl (by kernel_rfl)
def targetT (u : UT) : List UInt8 := if mayU u then targetU u else []
theorem Target11_ok (u : UT) (h : FitU u) : Pur Tryz.prog G 26 [.agg (encU u)] [.c (.str (targetT u))] := by
  refine Pur.of Tryz.func26 (by kernel_rfl) (by kernel_rfl) (by kernel_rfl) ?_
  have c1 := may11_ok (G := G) u h
  have c2 := target11_ok (G := G) u h
  unfold targetT
  cases hm : mayU u with
  | true =>
    rw [if_pos rfl]
    rw [hm] at c1
    clear hm h
    refine Wp.go (mx := true) (fun _ => mixed) [(1, {cs := [(1, pc c1)]}), (3, {cs := [(1, pc c2)]})] 100 [false] [(!true) = false] (by kernel_rfl) (by kernel_rfl) (by kernel_rfl) rfl ?_
    refine Wp.ret' (by kernel_rfl) ?_
    exact FinQ.pure (rs' := [V1.c (Cell.str (targetU u))]) (by kernel_rfl) rfl (by kernel_rfl)
  | false =>
    rw [if_neg (by decide)]
    rw [hm] at c1
    clear hm h
    refine Wp.go (mx := true) (fun _ => mixed) [(1, {cs := [(1, pc c1)]})] 100 [true] [(!false) = true] (by kernel_rfl) (by kernel_rfl) (by kernel_rfl) rfl ?_
    refine Wp.ret' (by kernel_rfl) ?_
    exact FinQ.pure (rs' := [V1.c (Cell.str [])]) (by kernel_rfl) rfl (by kernel_rfl)
end Go.Proofs.Tw
end

section
open Go Go.Sv Go.RowKit
namespace Go.Proofs.Tw
attribute [local irreducible] Wp FinQ resV Ent Pur Go.Sv.Fn Sat0
set_option maxRecDepth 100000
set_option maxHeartbeats 4000000
variable {G : Nat → Option (List Cell)}

theorem hexU_back (c : UInt8) : hexI (hexU.getD (c.toNat / 16) 0) = ((c.toNat / 16 : Nat) : Int) ∧ hexI (hexU.getD (c.toNat % 16) 0) = ((c.toNat % 16 : Nat) : Int) := by
  have := byte_all (fun c => decide (hexI (hexU.getD (c.toNat / 16) 0) = ((c.toNat / 16 : Nat) : Int) ∧ hexI (hexU.getD (c.toNat % 16) 0) = ((c.toNat % 16 : Nat) : Int))) (by kernel_rfl) c
  exact of_decide_eq_true this
theorem decL_pctB (c : UInt8) (r : List UInt8) : decL true (pctB true c ++ r) = (decL true r).map (c :: ·) := by
  unfold pctB
  cases hp : plainB c with
  | true => rw [if_pos rfl]; exact decL_plain hp
  | false =>
    rw [if_neg (by decide)]
    cases h2 : (true && c == 32) with
    | true =>
      rw [if_pos rfl]
      have hc : c = 32 := by simpa using h2
      subst hc
      exact decL_plus rfl rfl
    | false =>
      rw [if_neg (by decide)]
      obtain ⟨a, b⟩ := hexU_back c
      rw [List.cons_append, List.cons_append, List.cons_append, List.nil_append, decL_hex (by rw [a]; omega) (by rw [b]; omega), a, b]
      have : (((c.toNat / 16 : Nat) : Int) * 16 + ((c.toNat % 16 : Nat) : Int)).toNat = c.toNat := by omega
      rw [this]
      have hc : UInt8.ofNat c.toNat = c := by simp
      rw [hc]
theorem decL_pct : ∀ t : List UInt8, decL true (pctT true t) = some t
  | [] => rfl
  | c :: r => by
    have ih := decL_pct r
    unfold pctT at ih ⊢
    rw [List.flatMap_cons, decL_pctB, ih]
    rfl
theorem decT_pct (t : List UInt8) : decT true (pctT true t) = (t, 0) := by
  unfold decT
  rw [decL_pct]
  exact if_pos rfl
theorem pct_no (s : List UInt8) : (pctT true s).all (fun b => tgB b && (!(b == 38) && (!(b == 61) && !(b == 63)))) = true := by
  have hb : ∀ c : UInt8, (pctB true c).all (fun b => tgB b && (!(b == 38) && (!(b == 61) && !(b == 63)))) = true := byte_all _ (by kernel_rfl)
  unfold pctT
  rw [List.all_eq_true]
  intro b h
  obtain ⟨c, hc, h⟩ := List.mem_flatMap.1 h
  exact List.all_eq_true.1 (hb c) b h
theorem pct_mem {s : List UInt8} {b : UInt8} (h : b ∈ pctT true s) : tgB b = true ∧ b ≠ 38 ∧ b ≠ 61 ∧ b ≠ 63 := by
  have := List.all_eq_true.1 (pct_no s) b h
  simp only [Bool.and_eq_true, Bool.not_eq_true', beq_eq_false_iff_ne] at this
  exact this
theorem fieldQ_cut (f : FT) : Lib.cut (fieldQ f) [61] = (pctT true f.name, pctT true f.value, true) :=
  cut_at (pctT true f.name) (pctT true f.value) [] 61 (fun h => (pct_mem h).2.2.1 rfl)
theorem pt_field {f : FT} (h : f.name ≠ []) : ptBad (fieldQ f) = false ∧ ptF (fieldQ f) = f := by
  unfold ptBad ptF ptN ptV
  rw [fieldQ_cut, decT_pct, decT_pct]
  refine ⟨?_, rfl⟩
  have : (f.name == []) = false := by simpa using h
  show (bif bif bif !true then true else (0 : Int) != 0 then true else (0 : Int) != 0 then true else f.name == []) = false
  rw [this]; rfl
theorem partsP_all : ∀ (l acc : List FT), (∀ f ∈ l, f.name ≠ []) → (acc ++ l).Pairwise (fun x y => x.name ≠ y.name) → partsP (l.map fieldQ) acc = (acc ++ l, 0)
  | [], acc, _, _ => by simp [partsP]
  | f :: l, acc, h, hp => by
    obtain ⟨h1, h2⟩ := pt_field (h f (by simp))
    have hn : (fGet acc f.name).isSome = false := by
      cases hg : (fGet acc f.name).isSome with
      | false => rfl
      | true =>
        rw [← fGet_con, List.contains_iff_mem] at hg
        obtain ⟨g, hg1, hg2⟩ := List.mem_map.1 hg
        rw [List.pairwise_append] at hp
        exact (hp.2.2 g hg1 f (by simp) hg2).elim
    rw [List.map_cons, partsP, h1, if_neg (by decide), h2, hn, if_neg (by decide), partsP_all l (acc ++ [f]) (fun g hg => h g (by simp [hg])) (by simpa using hp)]
    simp
theorem parseF_print {l : List FT} (h : ∀ f ∈ l, f.name ≠ []) (hp : l.Pairwise (fun x y => x.name ≠ y.name)) (hn : l.length ≤ 24) : parseF (printQ l) = (l, 0) := by
  cases l with
  | nil => rfl
  | cons x r =>
    have hs : Lib.split (printQ (x :: r)) [38] = (x :: r).map fieldQ := split_join 38 [] _ (by simp) (by
      intro y hy hc
      obtain ⟨f, hf, rfl⟩ := List.mem_map.1 hy
      unfold fieldQ at hc
      simp only [List.mem_append, List.mem_singleton] at hc
      rcases hc with (hc | hc) | hc
      · exact (pct_mem hc).2.1 rfl
      · exact absurd hc (by decide)
      · exact (pct_mem hc).2.1 rfl)
    have hne : printQ (x :: r) ≠ [] := by
      intro e
      have := fieldQ_le (x :: r) (k := 0) (by simp)
      rw [e] at this
      have h2 : 1 ≤ (fieldQ x).length := by rw [fieldQ_len]; omega
      simp [List.getD] at this
      rw [this] at h2
      simp at h2
    unfold parseF
    rw [if_neg hne, hs, if_neg (by rw [List.length_map]; omega)]
    exact partsP_all (x :: r) [] h (by simpa using hp)
theorem unlike_gen {l : List FT} (h1 : ∀ f ∈ l, f.name ≠ []) (h2 : l.Pairwise (fun x y => x.name ≠ y.name)) : unlikeQ l = true := by
  unfold unlikeQ
  rw [List.all_eq_true]
  intro i hi
  have hi := List.mem_range.1 hi
  unfold okQ
  have ht := h1 _ (getD_mem hi)
  have ht : ((l.getD i .nil).name == []) = false := by simpa using ht
  rw [ht, Bool.not_false, Bool.true_and, ← fGet_isIn, ← fGet_con]
  cases hc : ((l.take i).map (·.name)).contains (l.getD i .nil).name with
  | false => rfl
  | true =>
    rw [List.contains_iff_mem] at hc
    obtain ⟨f, hf, he⟩ := List.mem_map.1 hc
    obtain ⟨j, hj, rfl⟩ := List.getElem_of_mem hf
    rw [List.length_take] at hj
    have := List.pairwise_iff_getElem.1 h2 j i (by omega) hi (by omega)
    rw [List.getElem_take] at he
    refine (this ?_).elim
    rw [he]
    simp [List.getD, hi]
theorem fldsN_pw (ns : List Int) : ∀ (k a : Nat) (l : List FT), ((∀ f ∈ l, f.name ≠ []) ∧ l.Pairwise (fun x y => x.name ≠ y.name)) → (∀ f ∈ fldsN ns k a l, f.name ≠ []) ∧ (fldsN ns k a l).Pairwise (fun x y => x.name ≠ y.name)
  | 0, a, l, h => h
  | k + 1, a, l, h => by
    unfold fldsN
    split
    · split
      · exact fldsN_pw ns k _ l h
      · rename_i hg
        refine fldsN_pw ns k _ _ ⟨fun f hf => ?_, ?_⟩
        · rcases List.mem_append.1 hf with hf | hf
          · exact h.1 f hf
          · rw [List.mem_singleton.1 hf]
            exact (by decide : ∀ x ∈ names10, x ≠ []) _ (pick_in names10 ns a (by decide))
        · rw [List.pairwise_append]
          refine ⟨h.2, List.pairwise_singleton _ _, fun x hx y hy => ?_⟩
          rw [List.mem_singleton.1 hy]
          exact fGet_no (by simpa using hg : (fGet l (pickT names10 ns a)).isSome = false) x hx
    · exact h
structure UriF (u : UT) : Prop where
  hh : hostT u.host = true
  hp : pathT u.path = true
  h1 : u.host.length ≤ 20
  h2 : u.path.length ≤ 20
  h3 : ∀ f ∈ u.query, f.name ≠ []
  h4 : u.query.Pairwise (fun x y => x.name ≠ y.name)
  h5 : u.query.length ≤ 6
  h6 : (printQ u.query).length ≤ 732
theorem uriT_f (ns : List Int) : UriF (uriT ns) := by
  have r := nextV_rng ns (nextA ns (nextA ns 0 7) 6) 6 (by decide)
  have a := pick_in hostsU ns 0 (by decide)
  have b := pick_in pathsU ns (nextA ns 0 7) (by decide)
  have aa : hostsU.all (fun x => hostT x && decide (x.length ≤ 20)) = true := (by kernel_rfl)
  have bb : pathsU.all (fun x => pathT x && decide (x.length ≤ 20)) = true := (by kernel_rfl)
  have aa := List.all_eq_true.1 aa _ a
  have bb := List.all_eq_true.1 bb _ b
  rw [Bool.and_eq_true, decide_eq_true_eq] at aa bb
  have c := fields_small ns (nextV ns (nextA ns (nextA ns 0 7) 6) 6).toNat 0 [] (by intro f hf; cases hf)
  have d : (fldsN ns (nextV ns (nextA ns (nextA ns 0 7) 6) 6).toNat 0 []).length ≤ 6 := by have := c.1; simp only [List.length_nil] at this; omega
  have e := query_small _ 6 d c.2
  have p := fldsN_pw ns (nextV ns (nextA ns (nextA ns 0 7) 6) 6).toNat 0 [] ⟨fun f hf => (by cases hf), List.Pairwise.nil⟩
  exact ⟨aa.1, bb.1, aa.2, bb.2, p.1, p.2, d, e⟩
theorem UriF.len {u : UT} (h : UriF u) : (targetU u).length ≤ 760 := by
  have h2 := h.h2
  have h6 := h.h6
  unfold targetU
  split
  · omega
  · simp only [List.length_append, List.length_cons, List.length_nil]; omega
theorem UriF.may {u : UT} (h : UriF u) : mayU u = true := by
  have h1 := h.h1
  have h5 := h.h5
  have hl := h.len
  unfold mayU
  rw [h.hh, h.hp, unlike_gen h.h3 h.h4, decide_eq_true (show (u.query.length : Int) ≤ 24 by omega), decide_eq_true (by simp only [List.length_append, List.length_cons, List.length_nil]; omega)]
  rfl
theorem path_no {s : List UInt8} (h : pathT s = true) : s.all tgB = true ∧ (63 : UInt8) ∉ s ∧ s ≠ [] := by
  unfold pathT at h
  simp only [Bool.and_eq_true, decide_eq_true_eq, List.all_eq_true] at h
  obtain ⟨h1, h2, h3⟩ := h
  have hb : ∀ c : UInt8, (!pathB c || (tgB c && !(c == 63))) = true := byte_all _ (by kernel_rfl)
  refine ⟨?_, fun hc => ?_, fun he => by rw [he] at h2; simp at h2⟩
  · rw [List.all_eq_true]
    intro c hc
    have := hb c
    rw [h1 c hc] at this
    simp only [Bool.not_true, Bool.false_or, Bool.and_eq_true] at this
    exact this.1
  · have := h1 _ hc
    revert this
    decide
theorem join_mem (c : UInt8) : ∀ (l : List (List UInt8)) (b : UInt8), b ∈ Lib.join l [c] → b = c ∨ ∃ x ∈ l, b ∈ x
  | [], b, h => by simp [Lib.join_nil] at h
  | x :: r, b, h => by
    rw [Lib.join_cons] at h
    rcases List.mem_append.1 h with h | h
    · exact .inr ⟨x, by simp, h⟩
    · unfold Lib.joinTail at h
      obtain ⟨y, hy, hb⟩ := List.mem_flatten.1 h
      obtain ⟨z, hz, rfl⟩ := List.mem_map.1 hy
      rcases List.mem_append.1 hb with hb | hb
      · exact .inl (List.mem_singleton.1 hb)
      · exact .inr ⟨z, by simp [hz], hb⟩
theorem printQ_tg (l : List FT) : (printQ l).all tgB = true := by
  rw [List.all_eq_true]
  intro b hb
  unfold printQ at hb
  rcases join_mem 38 _ b hb with rfl | ⟨x, hx, hb⟩
  · decide
  · obtain ⟨f, hf, rfl⟩ := List.mem_map.1 hx
    unfold fieldQ at hb
    simp only [List.mem_append, List.mem_singleton] at hb
    rcases hb with (hb | rfl) | hb
    · exact (pct_mem hb).1
    · decide
    · exact (pct_mem hb).1
theorem UriF.targ {u : UT} (h : UriF u) : targT (targetU u) = true := by
  obtain ⟨p1, p2, p3⟩ := path_no h.hp
  have hl := h.len
  have hpos : 1 ≤ u.path.length := List.length_pos_iff.2 p3
  unfold targT
  rw [decide_eq_true (show (targetU u).length ≤ 1024 by omega)]
  have h1 : 1 ≤ (targetU u).length := by unfold targetU; split <;> (try simp only [List.length_append]) <;> omega
  rw [decide_eq_true h1]
  have : (targetU u).all tgB = true := by
    unfold targetU
    split
    · exact p1
    · rw [List.all_append, List.all_append, p1, printQ_tg]; rfl
  rw [this]
  rfl
theorem UriF.split {u : UT} (h : UriF u) : splitU (targetU u) = (u.path, u.query, 0) := by
  obtain ⟨p1, p2, p3⟩ := path_no h.hp
  have hl := h.len
  have hpf := parseF_print h.h3 h.h4 (by have := h.h5; omega)
  have hc : Lib.cut (targetU u) [63] = if u.query.length = 0 then (u.path, [], false) else (u.path, printQ u.query, true) := by
    unfold targetU
    by_cases hq : u.query.length = 0
    · rw [if_pos hq, if_pos hq]
      unfold Lib.cut
      rw [idx_no u.path [] 63 p2]
      rfl
    · rw [if_neg hq, if_neg hq]
      exact cut_at u.path (printQ u.query) [] 63 p2
  unfold splitU splitB
  rw [if_neg (by omega), hc]
  by_cases hq : u.query.length = 0
  · rw [if_pos hq]
    have hn : u.query = [] := List.length_eq_zero_iff.1 hq
    rw [show (bif !pathT (u.path, ([] : List UInt8), false).1 then true else bif (u.path, ([] : List UInt8), false).2.2 then (u.path, ([] : List UInt8), false).2.1 == [] else false) = false from by show (bif !pathT u.path then true else false) = false; rw [h.hp]; rfl, hn]
    rfl
  · rw [if_neg hq]
    have hne : (printQ u.query == []) = false := by
      cases hpe : printQ u.query with
      | nil =>
        have hf := fieldQ_le u.query (k := 0) (by omega)
        rw [hpe] at hf
        have h2 : 1 ≤ (fieldQ (u.query.getD 0 .nil)).length := by rw [fieldQ_len]; omega
        simp only [List.length_nil] at hf
        omega
      | cons a b => rfl
    show (if (bif !pathT u.path then true else bif true then printQ u.query == [] else false) = true then _ else _) = _
    rw [h.hp, hne]
    show (if (parseF (printQ u.query)).2 = 0 then (u.path, (parseF (printQ u.query)).1, 0) else _) = _
    rw [hpf]
    rfl
theorem httpTarget_ok (hp : HasPow G) (hL : HasLen G) (ns : List Int) (hl : ns.length ≤ 9223372036854775807) : Pur Tryz.prog G 6 [.c (.sl 1 ns.length (intsF ns))] [.c (.bool true)] := by
  refine Pur.of Tryz.func6 (by kernel_rfl) (by kernel_rfl) (by kernel_rfl) ?_
  have k0 := known13_ok hp hL
  have fU := uriT_f ns
  have c1 := uri_ok (G := G) ns hl
  have c2 := Target11_ok (G := G) (uriT ns) (uri_fit ns)
  rw [show targetT (uriT ns) = targetU (uriT ns) from if_pos fU.may] at c2
  have hlen := fU.len
  have htg := fU.targ
  have hsp := fU.split
  have hql := fU.h5
  generalize uriT ns = u at *
  have hmay : mayAskT ⟨[71, 69, 84], targetU u, [], []⟩ = true := by
    unfold mayAskT linedT
    rw [show methT (QT.mk [71, 69, 84] (targetU u) [] []).method = true from rfl, show targT (QT.mk [71, 69, 84] (targetU u) [] []).target = true from htg, mayM_eq, ahead_Q]
    show (headT [] [] && decide (((firstQ ⟨[71, 69, 84], targetU u, [], []⟩ ++ linesT [] []).length : Int) ≤ 2048)) = true
    rw [show headT [] [] = true from rfl, decide_eq_true (by unfold firstQ linesT clL; simp; omega)]
    rfl
  have fit : FitH ([] : List FT) ([] : List UInt8) := ⟨by decide, fun f hf => (by cases hf), by decide, by show (2 : Nat) ≤ _; omega⟩
  have c3 := printAsk_ok hp ⟨[71, 69, 84], targetU u, [], []⟩ (FitH.q fit (by show (3 : Nat) < _; omega) (by show (targetU u).length < _; omega))
  have hpl : (printAskT ⟨[71, 69, 84], targetU u, [], []⟩).length < 1000000000 := by
    unfold printAskT
    rw [if_pos hmay, ahead_Q]
    unfold firstQ linesT clL
    simp
    omega
  have c4 := parseQ_ok hL (printAskT ⟨[71, 69, 84], targetU u, [], []⟩) hpl
  rw [parse_print_Q hmay] at c4
  generalize printAskT ⟨[71, 69, 84], targetU u, [], []⟩ = S at *
  have c5 := split11_ok (G := G) (targetU u) (by omega)
  rw [hsp] at c5
  have c6 := same_ok (G := G) u.query u.query (by omega)
  rw [sameF_refl] at c6
  have e1 : EqvD (.agg [.str [71, 69, 84], .str (targetU u), .nilsl, .str []]) (.agg (encQ ⟨[71, 69, 84], targetU u, [], []⟩)) := linQ_eqv _ _
  generalize targetU u = t at *
  clear fU hmay fit hpl hsp
  refine Wp.go (mx := true) (fun _ => mixed) [(4, {cs := [(1, pc c2), (3, pc c3), (4, pc c4)], fm := [(2, .agg (encQ ⟨[71, 69, 84], t, [], []⟩))]}), (1, {cs := [(0, pc k0)]}), (3, {cs := [(1, pc c1)]}), (5, {cs := [(2, pc c5)]}), (6, {cs := [(16, pc c6)]})] 100 [false] [(!true) = false, EqvI (V1.agg [Cell.str [(71 : UInt8), 69, 84], Cell.str t, Cell.nilsl, Cell.str []]) (V1.agg (encQ { method := [(71 : UInt8), 69, 84], target := t, head := [], body := [] })), EqvD (V1.agg [Cell.str [(71 : UInt8), 69, 84], Cell.str t, Cell.nilsl, Cell.str []]) (V1.agg (encQ { method := [(71 : UInt8), 69, 84], target := t, head := [], body := [] }))] (by kernel_rfl) (by kernel_rfl) (by kernel_rfl) ⟨rfl, eqvI_flat _ _ (by kernel_rfl), (show EqvD (V1.agg [Cell.str [(71 : UInt8), 69, 84], Cell.str t, Cell.nilsl, Cell.str []]) (V1.agg (encQ { method := [(71 : UInt8), 69, 84], target := t, head := [], body := [] })) from (by assumption))⟩ ?_
  refine Wp.ret' (by kernel_rfl) ?_
  exact FinQ.pure (rs' := [V1.c (Cell.bool (bif bif bif (0 : Int) == (0 : Int) then (0 : Int) == (0 : Int) else false then u.path == u.path else false then true else false))]) (by kernel_rfl) (by simp; done) (by kernel_rfl)
end Go.Proofs.Tw
end

section
/-
  Own layer 'SV' (30): what has been read reads so in a later world.
-/
namespace Go.Sv

theorem mapM_keep {α β : Type} {f g : α → Option β} : ∀ {l : List α} {ys : List β}, l.mapM f = some ys → (∀ x ∈ l, ∀ y, f x = some y → y ∈ ys → g x = some y) → l.mapM g = some ys
  | [], ys, h, _ => by simpa using h
  | x :: l, ys, h, hg => by
    rw [List.mapM_cons] at h ⊢
    cases hx : f x with
    | none => rw [hx] at h; cases h
    | some y =>
      rw [hx] at h
      cases hl : l.mapM f with
      | none => rw [hl] at h; cases h
      | some zs =>
        rw [hl] at h
        obtain rfl : y :: zs = ys := by simpa using h
        rw [hg x (by simp) y hx (by simp), mapM_keep hl (fun u hu v hv hm => hg u (by simp [hu]) v hv (by simp [hm]))]
        rfl
theorem cell_keep {W W' : World} (hk : ∀ b, b < W.heap.size → W'.heap[b]? = W.heap[b]?) {a : Addr} {v : Value} (h : W.cell? a = some v) : W'.cell? a = some v := by
  have hb : a.block < W.heap.size := by
    rcases Nat.lt_or_ge a.block W.heap.size with hlt | hge
    · exact hlt
    · simp [World.cell?, Array.getElem?_eq_none hge] at h
  simp only [World.cell?, hk _ hb] at h ⊢
  exact h
theorem cells_keep {W W' : World} (hk : ∀ b, b < W.heap.size → W'.heap[b]? = W.heap[b]?) {base : Nat} {a : Addr} {n : Nat} {l : List Value} (h : W.cells? base a n = some l) : W'.cells? base a n = some l := by
  unfold World.cells? at h ⊢
  split at h
  · rename_i hb
    rw [if_pos hb]
    exact mapM_keep h (fun x _ y hy _ => cell_keep hk hy)
  · cases h

/-- Types that lead to no others, and to no slices of nothing. -/
def stepT (P : Program) (S : TypeId → Bool) (t : TypeId) : Bool := match P.underlying t with
  | some (.slice e) => !(Nat.beq (P.cellsOf e) 0) && S e
  | some (.pointer e) => S e
  | some (.struct fs) => fs.toList.all fun f => S f.type
  | some (.array _ e) => S e
  | some (.map _ e) => S e
  | _ => true
def inL (l : List TypeId) (t : TypeId) : Bool := l.any fun u => Nat.beq u t
def closedT (P : Program) (l : List TypeId) : Bool := l.all (stepT P (inL l))
theorem closed_step {P : Program} {l : List TypeId} (h : closedT P l = true) {t : TypeId} (ht : inL l t = true) : stepT P (inL l) t = true := by
  obtain ⟨u, hu, e⟩ := List.any_eq_true.1 ht
  obtain rfl : u = t := Nat.eq_of_beq_eq_true e
  exact List.all_eq_true.1 h u hu
theorem trod_keep {H : Type} {enc : TypeId × Value → H} {P : Program} {W W' : World} {base : Nat} {sp sp' : Nat → Bool} {l : List TypeId} (hk : ∀ b, b < W.heap.size → W'.heap[b]? = W.heap[b]?)
    (hz : closedT P l = true) (hsp : ∀ b, sp b = true) : ∀ (fuel : Nat) (t : TypeId) (cs : List Value) (d : DataW H) (p : List MemPlace), inL l t = true → DataW.trod enc P W base sp true fuel t cs = some (d, p) →
      (∀ q ∈ p, sp' q.block = true) → DataW.trod enc P W' base sp' true fuel t cs = some (d, p) := by
  intro fuel
  induction fuel with
  | zero => intro t cs d p _ h; simp [DataW.trod] at h
  | succ fuel ih =>
    intro t cs d p hin h hs
    have hst := closed_step hz hin
    unfold stepT at hst
    unfold DataW.trod at h ⊢
    generalize hu : P.underlying t = u at h hst ⊢
    split at h
    case h_6 e a =>
      simp only at hst
      rw [Option.map_eq_some_iff] at h
      obtain ⟨x, hx, he⟩ := h
      rw [Option.bind_eq_some_iff] at hx
      obtain ⟨vl, hl, hx⟩ := hx
      simp only [Prod.mk.injEq] at he
      obtain ⟨rfl, rfl⟩ := he
      simp only [cells_keep hk hl, Option.bind_some]
      rw [ih e vl x.1 x.2 hst hx (fun q hq => hs q (by simp [hq]))]
      rfl
    case h_8 e a len cap =>
      simp only [Bool.and_eq_true, Bool.not_eq_true'] at hst
      have hz : P.cellsOf e ≠ 0 := fun h0 => by rw [h0] at hst; exact absurd hst.1 (by decide)
      simp only at h ⊢
      split at h
      · rename_i hc
        rw [if_pos hc]
        rw [Option.bind_eq_some_iff] at h
        obtain ⟨elems, hel, h⟩ := h
        rw [Option.map_eq_some_iff] at h
        obtain ⟨rest, hre, he⟩ := h
        simp only [Prod.mk.injEq] at he
        obtain ⟨rfl, rfl⟩ := he
        have elemAt : ∀ (i : Nat) (y : DataW H × List MemPlace), (W.cells? base (a.add (i * P.cellsOf e)) (P.cellsOf e)).bind (DataW.trod enc P W base sp true fuel e) = some y → y ∈ elems ++ rest →
            (W'.cells? base (a.add (i * P.cellsOf e)) (P.cellsOf e)).bind (DataW.trod enc P W' base sp' true fuel e) = some y := by
          intro i y hy hm
          rw [Option.bind_eq_some_iff] at hy ⊢
          obtain ⟨vl, hl, hy⟩ := hy
          exact ⟨vl, cells_keep hk hl, ih e vl y.1 y.2 hst.2 hy (fun q hq => hs q (List.mem_append_right _ (List.mem_flatMap.2 ⟨y, hm, hq⟩)))⟩
        rw [mapM_keep hel (fun x _ y hy hm => elemAt x y hy (List.mem_append_left _ hm))]
        simp only [Option.bind_some]
        have hrest : (if sp' a.block = true then (List.range (cap - len)).mapM fun j => (W'.cells? base (a.add ((len + j) * P.cellsOf e)) (P.cellsOf e)).bind (DataW.trod enc P W' base sp' true fuel e) else some []) = some rest := by
          by_cases h0 : elems.length + rest.length = 0
          · have hr : rest = [] := List.eq_nil_of_length_eq_zero (by omega)
            have hle : elems = [] := List.eq_nil_of_length_eq_zero (by omega)
            have none0 : ∀ {f : Nat → Option (DataW H × List MemPlace)} {n : Nat} {ys : List (DataW H × List MemPlace)}, (List.range n).mapM f = some ys → ys = [] → n = 0 := by
              intro f n ys h hy
              subst hy
              cases n with
              | zero => rfl
              | succ n =>
                rw [List.range_succ_eq_map, List.mapM_cons] at h
                exfalso
                revert h
                cases f 0 with
                | none => intro h; cases h
                | some y =>
                  intro h
                  simp only [Option.bind_eq_bind, Option.bind_some] at h
                  rw [Option.bind_eq_some_iff] at h
                  obtain ⟨_, _, h⟩ := h
                  simp at h
            have hlen := none0 hel hle
            rw [if_pos (hsp _)] at hre
            have hc0 := none0 hre hr
            rw [hc0, hr]
            simp
          · have hb : sp' a.block = true := by
              have hm : (MemPlace.cell a.block (a.off + 0)) ∈ MemPlace.row a ((elems.length + rest.length) * P.cellsOf e) := by
                unfold MemPlace.row
                refine List.mem_map.2 ⟨0, List.mem_range.2 ?_, rfl⟩
                exact Nat.mul_pos (by omega) (by omega)
              exact hs _ (List.mem_append_left _ hm)
            rw [if_pos hb]
            rw [if_pos (hsp _)] at hre
            exact mapM_keep hre (fun x _ y hy hm => elemAt (len + x) y hy (List.mem_append_right _ hm))
        rw [hrest]
        rfl
      · cases h
    case h_9 fs =>
      split at h
      · rename_i hc
        rw [if_pos hc]
        rw [Option.map_eq_some_iff] at h
        obtain ⟨xs, hx, he⟩ := h
        simp only [Prod.mk.injEq] at he
        obtain ⟨rfl, rfl⟩ := he
        rw [mapM_keep hx (fun f hf y hy hm => ih _ _ y.1 y.2 (List.all_eq_true.1 hst f hf) hy (fun q hq => hs q (List.mem_flatMap.2 ⟨y, hm, hq⟩)))]
        rfl
      · cases h
    case h_10 n e =>
      split at h
      · rename_i hc
        rw [if_pos hc]
        rw [Option.map_eq_some_iff] at h
        obtain ⟨xs, hx, he⟩ := h
        simp only [Prod.mk.injEq] at he
        obtain ⟨rfl, rfl⟩ := he
        rw [mapM_keep hx (fun f _ y hy hm => ih _ _ y.1 y.2 hst hy (fun q hq => hs q (List.mem_flatMap.2 ⟨y, hm, hq⟩)))]
        rfl
      · cases h
    case h_12 ms u v => exact h
    case h_14 k e b =>
      cases hb : W.heap[b]? with
      | none => rw [hb] at h; cases h
      | some o =>
        have hlt : b < W.heap.size := by
          rcases Nat.lt_or_ge b W.heap.size with hlt | hge
          · exact hlt
          · rw [Array.getElem?_eq_none hge] at hb; cases hb
        rw [hb] at h
        rw [hk b hlt, hb]
        cases o with
        | map es clock =>
          simp only at h ⊢
          split at h
          · rename_i hc
            rw [if_pos hc]
            rw [Option.bind_eq_some_iff] at h
            obtain ⟨entries, he, h⟩ := h
            have he' : entries.flatMap (fun x => x.2) ⊆ p := by
              split at h
              · simp only [Option.some.injEq, Prod.mk.injEq] at h
                rw [← h.2]
                exact fun x hx => List.mem_cons_of_mem _ hx
              · cases h
            rw [mapM_keep (g := fun x => (keyOf P k x.key).bind fun key => if x.val.formed P e then (DataW.trod enc P W' base sp' true fuel e x.val.cells.toList).map fun y => ((key, y.1), y.2) else none) he (fun x _ y hy hm => by
              rw [Option.bind_eq_some_iff] at hy ⊢
              obtain ⟨key, hkey, hy⟩ := hy
              refine ⟨key, hkey, ?_⟩
              split at hy
              · rename_i hf
                rw [if_pos hf]
                rw [Option.map_eq_some_iff] at hy ⊢
                obtain ⟨z, hz', rfl⟩ := hy
                exact ⟨z, ih e _ z.1 z.2 hst hz' (fun q hq => hs q (he' (List.mem_flatMap.2 ⟨_, hm, hq⟩))), rfl⟩
              · cases hy)]
            exact h
          · cases h
        | _ => cases h
    all_goals exact h
/-- All arguments read as before. -/
theorem trodAll_keep {H : Type} {enc : TypeId × Value → H} {P : Program} {W W' : World} {base : Nat} {sp sp' : Nat → Bool} {l : List TypeId} (hk : ∀ b, b < W.heap.size → W'.heap[b]? = W.heap[b]?)
    (hz : closedT P l = true) (hsp : ∀ b, sp b = true) : ∀ (ts : List TypeId) (vs : List Value) (ds : List (DataW H)) (p : List MemPlace), (∀ t ∈ ts, inL l t = true) → DataW.TrodAll enc P W base sp true ts vs ds p →
      (∀ q ∈ p, sp' q.block = true) → DataW.TrodAll enc P W' base sp' true ts vs ds p
  | [], [], [], p, _, h, _ => h
  | t :: ts, v :: vs, d :: ds, p, hl, ⟨p1, q1, ⟨fuel, h1⟩, h2, e⟩, hs =>
    ⟨p1, q1, ⟨fuel, trod_keep hk hz hsp fuel t _ d p1 (hl t (by simp)) h1 (fun q hq => hs q (by rw [e]; simp [hq]))⟩, trodAll_keep hk hz hsp ts vs ds q1 (fun t ht => hl t (by simp [ht])) h2 (fun q hq => hs q (by rw [e]; simp [hq])), e⟩
/-- A row of numbers among the arguments. -/
theorem ints_den {H : Type} {enc : TypeId × Value → H} {P : Program} {W : World} {base0 base : Nat} {sp : Nat → Bool} {held : Bool} {t e : TypeId} {k : IntKind} (ht : P.underlying t = some (.slice e)) (he : P.underlying e = some (.int k)) (hc : P.cellsOf e = 1)
    {v : Value} {d : DataW H} {p : List MemPlace} (hok : Value.okWide P W .any base0 t v) (h : DataW.Trod enc P W base sp held t v d p) :
    ∃ ns : List Int, ns.length ≤ maxLen ∧ DenV (Dw W) rho0 (.c (.sl 1 ns.length (fun i _ => .int k (ns.getD i 0)))) v := by
  obtain ⟨fuel, hf⟩ := h
  obtain ⟨a0, len0, cap0, rfl⟩ := Go.WideShapes.okWide_slice ht hok
  rcases Go.ChangeShapes.open_ints ht he hc hf with ⟨hcs, _⟩ | ⟨a, len, cap, zs, hcs, _, hl, hm, hzl, _, hcell, _⟩
  · have : Value.slice a0 len0 cap0 = .slice none 0 0 := by simpa [Value.cells] using hcs
    rw [this]
    exact ⟨[], Nat.zero_le _, none, 0, rfl, Nat.le_refl _, Nat.zero_le _, .inl ⟨rfl, rfl⟩⟩
  · have hv : Value.slice a0 len0 cap0 = .slice (some a) len cap := by simpa [Value.cells] using hcs
    rw [hv] at hok ⊢
    have hsp : a.spot = none := by
      simp only [Value.okWide, ht, Cell.okWide, Cell.ok] at hok
      exact hok.2.2.2.1
    obtain ⟨b, o, spot⟩ := a
    simp only at hsp
    subst hsp
    have hle : len ≤ zs.length := by rw [hzl]; split <;> omega
    have hn : (zs.take len).length = len := by rw [List.length_take]; omega
    refine ⟨zs.take len, by rw [hn]; omega, some ⟨b, o, none⟩, cap, by rw [hn], by rw [hn]; exact hl, hm, .inr ⟨b, o, rfl, fun i hi j hj => ?_⟩⟩
    obtain rfl : j = 0 := by omega
    rw [hn] at hi
    have := hcell i (by omega)
    rw [Go.WideShapes.add_plain] at this
    refine ⟨.int k (zs.getD i 0), by unfold Dw; rw [← this]; congr 2; omega, ?_⟩
    simp only [Den]
    congr 1
    simp [List.getD, List.getElem?_take, hi]
end Go.Sv
end

section
/-
  Own layer 'SV' (31): more readings of arguments: rows of structs, structs.
-/
namespace Go.Sv

/-- A variable of an integer type holds some number. -/
theorem int_shape {P : Program} {w : World} {g : Nat} {t : TypeId} {zero : Array Value} {k : IntKind} (h : w.ShapedOpen P) (hg : g < P.globals.size)
    (h0 : ((begin P (fun _ _ => 0) default).world.heap[g]?).bind Obj.row? = some (zero, t)) (hz : zero.size = 1)
    (hb : P.buildable t = true) (hc : P.cellTypes P.depth t = some [t]) (hu : P.underlying t = some (.int k)) : ∃ (m : Int) (cs : Array Value) (fz : Nat × Nat), w.heap[g]? = some (.cells cs t fz) ∧ cs.size = 1 ∧ cs[0]? = some (.int k m) := by
  obtain ⟨cs, hh, hs, hr⟩ := h.1 g zero t hg h0
  obtain ⟨ts, hts, _, hall⟩ := hr hb
  rw [hc] at hts
  cases hts
  have h1 : 0 < cs.size := by omega
  obtain ⟨u, hu', hok⟩ := hall 0 cs[0] (by simp [h1])
  have : u = t := by simpa using hu'.symm
  subst this
  have hcell : cs[0]? = some cs[0] := by simp [h1]
  unfold Cell.ok at hok
  rw [hu] at hok
  cases hv : cs[0] with
  | int k' n =>
    rw [hv] at hok
    have hk : k' = k := by first | exact hok.1 | exact hok.1.symm | (simp at hok; exact hok.1) | (simp at hok; exact hok.1.symm)
    subst hk
    exact ⟨n, cs, _, hh, by omega, by rw [hcell, hv]⟩
  | _ => rw [hv] at hok; simp at hok
/-- The listed tables, and one variable that holds some number. -/
theorem glob_plus {P : Program} {G : Nat → Option (List Cell)} {W : World} {laid : List (String × DataW Unit)} {g0 : Nat} {k : IntKind} {m : Int} {cs0 : Array Value} {t0 : TypeId} {fz0 : Nat × Nat} (h : laidMet P laid W)
    (hw : W.heap[g0]? = some (.cells cs0 t0 fz0)) (hs : cs0.size = 1) (hx : cs0[0]? = some (.int k m)) (h0 : G g0 = some [.int k m])
    (hG : ∀ g cs, g ≠ g0 → G g = some cs → ∃ n d t, (n, d) ∈ laid ∧ P.globalNamed n = some g ∧ (P.globals[g]?).map (·.type) = some t ∧ dc P 9 t d = some cs) : GlobOk G (Dw W) ∧ GlobW G W := by
  obtain ⟨k1, k2⟩ := glob_ok (G := fun g => if g = g0 then none else G g) (laid := laid) h (fun g cs hg => by
    split at hg
    · cases hg
    · rename_i hne; exact hG g cs hne hg)
  refine ⟨fun g cs hg j x hj => ?_, fun g cs hg hne => ?_⟩
  · by_cases e : g = g0
    · subst e
      rw [h0] at hg
      obtain rfl := Option.some.inj hg
      cases j with
      | zero =>
        simp at hj; subst hj
        exact ⟨.int k m, by simp only [Dw, World.cell?, hw, Option.isSome_none, Bool.false_eq_true, if_false]; exact hx, rfl⟩
      | succ j => simp at hj
    · exact k1 g cs (by show (if g = g0 then none else G g) = some cs; rw [if_neg e]; exact hg) j x hj
  · by_cases e : g = g0
    · subst e
      rw [h0] at hg
      obtain rfl := Option.some.inj hg
      exact ⟨cs0, t0, fz0, hw, by rw [hs]; rfl⟩
    · exact k2 g cs (by show (if g = g0 then none else G g) = some cs; rw [if_neg e]; exact hg) hne
end Go.Sv
end
