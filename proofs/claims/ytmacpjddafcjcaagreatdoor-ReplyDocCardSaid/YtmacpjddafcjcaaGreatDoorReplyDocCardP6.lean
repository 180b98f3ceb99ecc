/- Own texts for this claim: Tel, G12, Doc, SvKeep. -/
import Derived.Test.YtmacpjddafcjcaaGreatDoorReplyDocCardP5
import Derived.Test.YtmacpjddafcjcaaGreatDoorReplyDocCardP3
import Derived.ChangeSlices
set_option linter.all false

section
open Go Go.Sv
namespace Go.Proofs.Tw
attribute [local irreducible] Wp FinQ resV Ent Pur Go.Sv.Fn Sat0
set_option maxRecDepth 100000
set_option maxHeartbeats 4000000

def mayM (m : MT) : Bool := bif bif fieldedT m then decide ((m.body.length : Int) ≤ 4096) else false then decide (((aheadT m).length : Int) ≤ 2048) else false
/-- What may be shown of a message whose bytes are not too many. -/
structure FitM (m : MT) : Prop where
  hn : m.head.length < 4611686018427387904
  hs : ∀ f ∈ m.head, f.name.length ≤ 140737488355328 ∧ f.value.length ≤ 140737488355328
  hb : m.body.length ≤ 140737488355328
  hA : (aheadT m).length ≤ 100000000000000
theorem fielded_f (m : MT) (h : FitM m) : Pur Tryz.prog Gd 150 [.agg (encM m)] [.c (.bool (fieldedT m))] := fielded_ok m h.hn h.hs
theorem ahead_f (m : MT) (h : FitM m) : Pur Tryz.prog Gd 110 [.agg (encM m)] [.c (.str (aheadT m))] := ahead_ok m h.hn h.hb h.hA
theorem mayM_ok (m : MT) (h : FitM m) : Pur Tryz.prog Gd 107 [.agg (encM m)] [.c (.bool (mayM m))] := by
  refine Pur.of Tryz.func107 (by kernel_rfl) (by kernel_rfl) (by kernel_rfl) ?_
  have c1 := fielded_f m h
  have c2 := ahead_f m h
  refine Wp.go (mx := true) (fun _ => mixed) [(1, {cs := [(1, pc c1), (10, pc c2)]})] 100 [] [] (by kernel_rfl) (by kernel_rfl) (by kernel_rfl) trivial ?_
  refine Wp.ret' (by kernel_rfl) ?_
  exact FinQ.pure (rs' := [V1.c (Cell.bool (bif bif fieldedT m then decide ((↑m.body.length : Int) ≤ (4096 : Int)) else false then decide ((↑(aheadT m).length : Int) ≤ (2048 : Int)) else false))]) (by kernel_rfl) rfl (by kernel_rfl)
theorem print_ok (m : MT) (h : FitM m) : Pur Tryz.prog Gd 59 [.agg (encM m)] [.c (.str (aheadT m ++ m.body))] := by
  refine Pur.of Tryz.func59 (by kernel_rfl) (by kernel_rfl) (by kernel_rfl) ?_
  have c2 := ahead_f m h
  have h1 := h.hA
  have h2 := h.hb
  refine Wp.go (mx := true) (fun _ => mixed) [(1, {cs := [(1, pc c2)]})] 100 [] [(aheadT m).length + m.body.length ≤ (9223372036854775807 : Nat)] (by kernel_rfl) (by kernel_rfl) (by kernel_rfl) (show (aheadT m).length + m.body.length ≤ (9223372036854775807 : Nat) from (by omega)) ?_
  refine Wp.ret' (by kernel_rfl) ?_
  exact FinQ.pure (rs' := [V1.c (Cell.str (aheadT m ++ m.body))]) (by kernel_rfl) rfl (by kernel_rfl)
def statedT (n : Int) : Bool := bif decide (n ≥ 100) then decide (n ≤ 599) else false
theorem stated_ok (n : Int) : Pur Tryz.prog Gd 106 [.c (.int .i64 n)] [.c (.bool (statedT n))] := by
  refine Pur.of Tryz.func106 (by kernel_rfl) (by kernel_rfl) (by kernel_rfl) ?_
  refine Wp.go (mx := true) (fun _ => mixed) [] 100 [] [] (by kernel_rfl) (by kernel_rfl) (by kernel_rfl) trivial ?_
  refine Wp.ret' (by kernel_rfl) ?_
  exact FinQ.pure (rs' := [V1.c (Cell.bool (bif decide (n ≥ (100 : Int)) then decide (n ≤ (599 : Int)) else false))]) (by kernel_rfl) rfl (by kernel_rfl)
def reasonT (n : Int) : List UInt8 := if n = 200 then [79, 75] else if n = 302 then [70, 111, 117, 110, 100] else if n = 400 then [66, 97, 100, 32, 82, 101, 113, 117, 101, 115, 116] else if n = 401 then [85, 110, 97, 117, 116, 104, 111, 114, 105, 122, 101, 100] else if n = 403 then [70, 111, 114, 98, 105, 100, 100, 101, 110] else if n = 404 then [78, 111, 116, 32, 70, 111, 117, 110, 100] else if n = 405 then [77, 101, 116, 104, 111, 100, 32, 78, 111, 116, 32, 65, 108, 108, 111, 119, 101, 100] else if n = 413 then [67, 111, 110, 116, 101, 110, 116, 32, 84, 111, 111, 32, 76, 97, 114, 103, 101] else if n = 503 then [83, 101, 114, 118, 105, 99, 101, 32, 85, 110, 97, 118, 97, 105, 108, 97, 98, 108, 101] else [79, 116, 104, 101, 114]
theorem reason_ok (n : Int) : Pur Tryz.prog Gd 109 [.c (.int .i64 n)] [.c (.str (reasonT n))] := by
  refine Pur.of Tryz.func109 (by kernel_rfl) (by kernel_rfl) (by kernel_rfl) ?_
  refine Wp.go (mx := true) (fun _ => mixed) [] 100 [] [] (by kernel_rfl) (by kernel_rfl) (by kernel_rfl) trivial ?_
  refine Wp.cond' (by kernel_rfl) (n == (200 : Int)) (by kernel_rfl) (fun h0 => ?_) (fun h0 => ?_)
  · have g0 := eq_of_beq h0
    refine Wp.go (mx := true) (fun _ => mixed) [] 100 [] [] (by kernel_rfl) (by kernel_rfl) (by kernel_rfl) trivial ?_
    refine Wp.ret' (by kernel_rfl) ?_
    exact FinQ.pure (rs' := [V1.c (Cell.str [(79 : UInt8), 75])]) (by kernel_rfl) (by simp [reasonT, *]; done) (by kernel_rfl)
  · have g0 := ne_of_beq_false h0
    refine Wp.go (mx := true) (fun _ => mixed) [] 100 [] [] (by kernel_rfl) (by kernel_rfl) (by kernel_rfl) trivial ?_
    refine Wp.cond' (by kernel_rfl) (n == (302 : Int)) (by kernel_rfl) (fun h1 => ?_) (fun h1 => ?_)
    · have g1 := eq_of_beq h1
      refine Wp.go (mx := true) (fun _ => mixed) [] 100 [] [] (by kernel_rfl) (by kernel_rfl) (by kernel_rfl) trivial ?_
      refine Wp.ret' (by kernel_rfl) ?_
      exact FinQ.pure (rs' := [V1.c (Cell.str [(70 : UInt8), 111, 117, 110, 100])]) (by kernel_rfl) (by simp [reasonT, *]; done) (by kernel_rfl)
    · have g1 := ne_of_beq_false h1
      refine Wp.go (mx := true) (fun _ => mixed) [] 100 [] [] (by kernel_rfl) (by kernel_rfl) (by kernel_rfl) trivial ?_
      refine Wp.cond' (by kernel_rfl) (n == (400 : Int)) (by kernel_rfl) (fun h2 => ?_) (fun h2 => ?_)
      · have g2 := eq_of_beq h2
        refine Wp.go (mx := true) (fun _ => mixed) [] 100 [] [] (by kernel_rfl) (by kernel_rfl) (by kernel_rfl) trivial ?_
        refine Wp.ret' (by kernel_rfl) ?_
        exact FinQ.pure (rs' := [V1.c (Cell.str [(66 : UInt8), 97, 100, 32, 82, 101, 113, 117, 101, 115, 116])]) (by kernel_rfl) (by simp [reasonT, *]; done) (by kernel_rfl)
      · have g2 := ne_of_beq_false h2
        refine Wp.go (mx := true) (fun _ => mixed) [] 100 [] [] (by kernel_rfl) (by kernel_rfl) (by kernel_rfl) trivial ?_
        refine Wp.cond' (by kernel_rfl) (n == (401 : Int)) (by kernel_rfl) (fun h3 => ?_) (fun h3 => ?_)
        · have g3 := eq_of_beq h3
          refine Wp.go (mx := true) (fun _ => mixed) [] 100 [] [] (by kernel_rfl) (by kernel_rfl) (by kernel_rfl) trivial ?_
          refine Wp.ret' (by kernel_rfl) ?_
          exact FinQ.pure (rs' := [V1.c (Cell.str [(85 : UInt8), 110, 97, 117, 116, 104, 111, 114, 105, 122, 101, 100])]) (by kernel_rfl) (by simp [reasonT, *]; done) (by kernel_rfl)
        · have g3 := ne_of_beq_false h3
          refine Wp.go (mx := true) (fun _ => mixed) [] 100 [] [] (by kernel_rfl) (by kernel_rfl) (by kernel_rfl) trivial ?_
          refine Wp.cond' (by kernel_rfl) (n == (403 : Int)) (by kernel_rfl) (fun h4 => ?_) (fun h4 => ?_)
          · have g4 := eq_of_beq h4
            refine Wp.go (mx := true) (fun _ => mixed) [] 100 [] [] (by kernel_rfl) (by kernel_rfl) (by kernel_rfl) trivial ?_
            refine Wp.ret' (by kernel_rfl) ?_
            exact FinQ.pure (rs' := [V1.c (Cell.str [(70 : UInt8), 111, 114, 98, 105, 100, 100, 101, 110])]) (by kernel_rfl) (by simp [reasonT, *]; done) (by kernel_rfl)
          · have g4 := ne_of_beq_false h4
            refine Wp.go (mx := true) (fun _ => mixed) [] 100 [] [] (by kernel_rfl) (by kernel_rfl) (by kernel_rfl) trivial ?_
            refine Wp.cond' (by kernel_rfl) (n == (404 : Int)) (by kernel_rfl) (fun h5 => ?_) (fun h5 => ?_)
            · have g5 := eq_of_beq h5
              refine Wp.go (mx := true) (fun _ => mixed) [] 100 [] [] (by kernel_rfl) (by kernel_rfl) (by kernel_rfl) trivial ?_
              refine Wp.ret' (by kernel_rfl) ?_
              exact FinQ.pure (rs' := [V1.c (Cell.str [(78 : UInt8), 111, 116, 32, 70, 111, 117, 110, 100])]) (by kernel_rfl) (by simp [reasonT, *]; done) (by kernel_rfl)
            · have g5 := ne_of_beq_false h5
              refine Wp.go (mx := true) (fun _ => mixed) [] 100 [] [] (by kernel_rfl) (by kernel_rfl) (by kernel_rfl) trivial ?_
              refine Wp.cond' (by kernel_rfl) (n == (405 : Int)) (by kernel_rfl) (fun h6 => ?_) (fun h6 => ?_)
              · have g6 := eq_of_beq h6
                refine Wp.go (mx := true) (fun _ => mixed) [] 100 [] [] (by kernel_rfl) (by kernel_rfl) (by kernel_rfl) trivial ?_
                refine Wp.ret' (by kernel_rfl) ?_
                exact FinQ.pure (rs' := [V1.c (Cell.str [(77 : UInt8), 101, 116, 104, 111, 100, 32, 78, 111, 116, 32, 65, 108, 108, 111, 119, 101, 100])]) (by kernel_rfl) (by simp [reasonT, *]; done) (by kernel_rfl)
              · have g6 := ne_of_beq_false h6
                refine Wp.go (mx := true) (fun _ => mixed) [] 100 [] [] (by kernel_rfl) (by kernel_rfl) (by kernel_rfl) trivial ?_
                refine Wp.cond' (by kernel_rfl) (n == (413 : Int)) (by kernel_rfl) (fun h7 => ?_) (fun h7 => ?_)
                · have g7 := eq_of_beq h7
                  refine Wp.go (mx := true) (fun _ => mixed) [] 100 [] [] (by kernel_rfl) (by kernel_rfl) (by kernel_rfl) trivial ?_
                  refine Wp.ret' (by kernel_rfl) ?_
                  exact FinQ.pure (rs' := [V1.c (Cell.str [(67 : UInt8), 111, 110, 116, 101, 110, 116, 32, 84, 111, 111, 32, 76, 97, 114, 103, 101])]) (by kernel_rfl) (by simp [reasonT, *]; done) (by kernel_rfl)
                · have g7 := ne_of_beq_false h7
                  refine Wp.go (mx := true) (fun _ => mixed) [] 100 [] [] (by kernel_rfl) (by kernel_rfl) (by kernel_rfl) trivial ?_
                  refine Wp.cond' (by kernel_rfl) (n == (503 : Int)) (by kernel_rfl) (fun h8 => ?_) (fun h8 => ?_)
                  · have g8 := eq_of_beq h8
                    refine Wp.go (mx := true) (fun _ => mixed) [] 100 [] [] (by kernel_rfl) (by kernel_rfl) (by kernel_rfl) trivial ?_
                    refine Wp.ret' (by kernel_rfl) ?_
                    exact FinQ.pure (rs' := [V1.c (Cell.str [(83 : UInt8), 101, 114, 118, 105, 99, 101, 32, 85, 110, 97, 118, 97, 105, 108, 97, 98, 108, 101])]) (by kernel_rfl) (by simp [reasonT, *]; done) (by kernel_rfl)
                  · have g8 := ne_of_beq_false h8
                    refine Wp.go (mx := true) (fun _ => mixed) [] 100 [] [] (by kernel_rfl) (by kernel_rfl) (by kernel_rfl) trivial ?_
                    refine Wp.ret' (by kernel_rfl) ?_
                    exact FinQ.pure (rs' := [V1.c (Cell.str [(79 : UInt8), 116, 104, 101, 114])]) (by kernel_rfl) (by simp [reasonT, *]; done) (by kernel_rfl)
theorem reason_len (n : Int) : (reasonT n).length ≤ 30 := by
  unfold reasonT
  repeat' split
  all_goals decide
def toldM (r : RT) : MT := ⟨[72, 84, 84, 80, 47, 49, 46, 49, 32] ++ Lib.itoa r.status ++ [32] ++ reasonT r.status, r.head, r.body⟩
theorem itoa_len (n : Int) (h0 : 0 ≤ n) (h1 : n ≤ 1000) : (Lib.itoa n).length ≤ 1001 := by
  obtain ⟨k, rfl⟩ := Int.eq_ofNat_of_zero_le h0
  exact Nat.le_trans (dec_len k) (by omega)
theorem told_ok (r : RT) (h0 : 0 ≤ r.status) (h1 : r.status ≤ 1000) : Pur Tryz.prog Gd 58 [.agg (encT r)] [.agg (encM (toldM r) ++ encT r)] := by
  refine Pur.of Tryz.func58 (by kernel_rfl) (by kernel_rfl) (by kernel_rfl) ?_
  have h3 := itoa_len r.status h0 h1
  have h4 := reason_len r.status
  refine Wp.go (mx := true) (fun _ => mixed) [(1, {cs := [(2, pc (itoa_ok r.status (by omega) (by omega))), (7, pc (reason_ok r.status))]})] 100 [] [(9 : Nat) + (Lib.itoa r.status).length ≤ (9223372036854775807 : Nat), ([(72 : UInt8), 84, 84, 80, 47, 49, 46, 49, 32] ++ Lib.itoa r.status).length + (1 : Nat) ≤ (9223372036854775807 : Nat), ([(72 : UInt8), 84, 84, 80, 47, 49, 46, 49, 32] ++ Lib.itoa r.status ++ [(32 : UInt8)]).length + (reasonT r.status).length ≤ (9223372036854775807 : Nat)] (by kernel_rfl) (by kernel_rfl) (by kernel_rfl) ⟨(by omega), (by simp; omega), (show ([(72 : UInt8), 84, 84, 80, 47, 49, 46, 49, 32] ++ Lib.itoa r.status ++ [(32 : UInt8)]).length + (reasonT r.status).length ≤ (9223372036854775807 : Nat) from (by simp; omega))⟩ ?_
  refine Wp.ret' (by kernel_rfl) ?_
  exact FinQ.pure (rs' := [V1.agg [Cell.str ([(72 : UInt8), 84, 84, 80, 47, 49, 46, 49, 32] ++ Lib.itoa r.status ++ [(32 : UInt8)] ++ reasonT r.status), Cell.sl (2 : Nat) r.head.length fun (i j : Nat) => nthD (encF (r.head.getD i FT.nil)) j, Cell.str r.body, Cell.int .i64 r.status, Cell.sl (2 : Nat) r.head.length fun (i j : Nat) => nthD (encF (r.head.getD i FT.nil)) j, Cell.str r.body]]) (by kernel_rfl) rfl (by kernel_rfl)
def mayTell (r : RT) : Bool := bif statedT r.status then mayM (toldM r) else false
theorem mayTell_ok (r : RT) (h0 : 0 ≤ r.status) (h1 : r.status ≤ 1000) (h : FitM (toldM r)) : Pur Tryz.prog Gd 57 [.agg (encT r)] [.c (.bool (mayTell r))] := by
  refine Pur.of Tryz.func57 (by kernel_rfl) (by kernel_rfl) (by kernel_rfl) ?_
  have c := mayM_ok (toldM r) h
  refine Wp.go (mx := true) (fun _ => mixed) [(1, {cs := [(2, pc (stated_ok r.status)), (5, pc (told_ok r (by assumption) (by assumption))), (7, pc c)]})] 100 [] [] (by kernel_rfl) (by kernel_rfl) (by kernel_rfl) trivial ?_
  refine Wp.ret' (by kernel_rfl) ?_
  exact FinQ.pure (rs' := [V1.c (Cell.bool (bif statedT r.status then mayM (toldM r) else false))]) (by kernel_rfl) rfl (by kernel_rfl)
def printTell (r : RT) : List UInt8 := if mayTell r then aheadT (toldM r) ++ r.body else []
theorem printTell_ok (r : RT) (h0 : 0 ≤ r.status) (h1 : r.status ≤ 1000) (h : FitM (toldM r)) : Pur Tryz.prog Gd 16 [.agg (encT r)] [.c (.str (printTell r))] := by
  refine Pur.of Tryz.func16 (by kernel_rfl) (by kernel_rfl) (by kernel_rfl) ?_
  have c1 := mayTell_ok r h0 h1 h
  have c := print_ok (toldM r) h
  refine Wp.go (mx := true) (fun _ => mixed) [(1, {cs := [(1, pc c1)]})] 100 [] [] (by kernel_rfl) (by kernel_rfl) (by kernel_rfl) trivial ?_
  refine Wp.cond' (by kernel_rfl) (!mayTell r) (by kernel_rfl) (fun h0 => ?_) (fun h0 => ?_)
  · have g0 := h0
    simp at g0
    refine Wp.go (mx := true) (fun _ => mixed) [] 100 [] [] (by kernel_rfl) (by kernel_rfl) (by kernel_rfl) trivial ?_
    refine Wp.ret' (by kernel_rfl) ?_
    exact FinQ.pure (rs' := [V1.c (Cell.str [])]) (by kernel_rfl) (by simp [printTell, *]; done) (by kernel_rfl)
  · have g0 := h0
    simp at g0
    refine Wp.go (mx := true) (fun _ => mixed) [(3, {cs := [(1, pc (told_ok r (by assumption) (by assumption))), (3, pc c)]})] 100 [] [] (by kernel_rfl) (by kernel_rfl) (by kernel_rfl) trivial ?_
    refine Wp.ret' (by kernel_rfl) ?_
    exact FinQ.pure (rs' := [V1.c (Cell.str (aheadT (toldM r) ++ (toldM r).body))]) (by kernel_rfl) (by rw [printTell, if_pos (show mayTell r = true from by simpa using h0)]; rfl) (by kernel_rfl)
end Go.Proofs.Tw
end

section
open Go Go.Sv
namespace Go.Proofs.Tw
attribute [local irreducible] Wp FinQ resV Ent Pur Go.Sv.Fn Sat0
set_option maxRecDepth 100000
set_option maxHeartbeats 4000000
variable {G : Nat → Option (List Cell)}

/-- What a value has of a name. -/
def getF (v : JV) (n : List UInt8) (k : Nat) : Option JV := (((v.names.zip v.kids).drop k).find? fun p => p.1 == n).map (·.2)
def getJ (v : JV) (n : List UInt8) : Option JV := if v.kind == 6 then getF v n 0 else none
def getT (v : JV) (n : List UInt8) : Option (List UInt8) := (getJ v n).bind fun x => if x.kind == 4 then some x.s else none
theorem getF_step (v : JV) (n : List UInt8) (k : Nat) (h1 : k < v.names.length) (h2 : k < v.kids.length) : getF v n k = if v.names.getD k [] == n then some (v.kids.getD k .nil) else getF v n (k + 1) := by
  unfold getF
  have hk : k < (v.names.zip v.kids).length := by rw [List.length_zip]; omega
  rw [List.drop_eq_getElem_cons hk, List.find?_cons, List.getElem_zip]
  simp only [List.getD, List.getElem?_eq_getElem h1, List.getElem?_eq_getElem h2, Option.getD_some]
  cases v.names[k] == n <;> rfl
theorem getF_end (v : JV) (n : List UInt8) (k : Nat) (h : v.names.length ≤ k ∨ v.kids.length ≤ k) : getF v n k = none := by
  unfold getF
  rw [List.drop_eq_nil_of_le (by rw [List.length_zip]; omega)]
  rfl
theorem nilJ_den : EqvD (.agg [.int .i64 0, .bool false, .int .i64 0, .str [], .nilsl, .nilsl]) (.agg (encJ .nil)) :=
  agg_eqv (.cons CEq.rfl' (.cons CEq.rfl' (.cons CEq.rfl' (.cons CEq.rfl' (.cons CEq.nil (.cons CEq.nil .nil))))))
theorem get12_ok (v : JV) (n : List UInt8) (h1 : v.names.length < 4611686018427387904) (h2 : v.kids.length < 4611686018427387904) :
    Pur Tryz.prog G 14 [.agg (encJ v), .c (.str n)] [.agg (encJ ((getJ v n).getD .nil)), .c (.bool (getJ v n).isSome)] := by
  refine Pur.of Tryz.func14 (by kernel_rfl) (by kernel_rfl) (by kernel_rfl) ?_
  refine Wp.go (mx := true) (fun _ => mixed) [] 100 [] [] (by kernel_rfl) (by kernel_rfl) (by kernel_rfl) trivial ?_
  refine Wp.loopK (by kernel_rfl) (fun (k : Nat) => ⟨[(1, TV.v (V1.c (Cell.str n))), (2, TV.v (V1.c (Cell.ptr 0 0))), (4, TV.v (V1.c (Cell.ptr 16 0))), (6, TV.v (V1.c (Cell.int .i64 (k : Int))))], [(0, Blk.box 31 (encJ v)), (16, Blk.box 31 [Cell.int .i64 (0 : Int), Cell.bool false, Cell.int .i64 (0 : Int), Cell.str [], Cell.nilsl, Cell.nilsl])], 64⟩) (fun k => k ≤ v.names.length ∧ k ≤ v.kids.length ∧ getF v n 0 = getF v n k) (fun k => v.names.length - k) 0 (Ent.of [] (by kernel_rfl) (by kernel_rfl) (by kernel_rfl) trivial) ⟨Nat.zero_le _, Nat.zero_le _, rfl⟩ ?_
  intro k L ⟨hk, hk2, hq⟩ again
  have e0 := nilJ_den
  by_cases h6 : v.kind = 6
  · have hJ : getJ v n = getF v n k := by unfold getJ; rw [if_pos (by rw [h6]; rfl), hq]
    rcases Nat.lt_or_ge k v.names.length with hlt | hge
    · rcases Nat.lt_or_ge k v.kids.length with hlt2 | hge2
      · have e1 := kid_den hlt2
        rw [getF_step v n k hlt hlt2] at hJ hq
        cases hn : v.names.getD k [] == n with
        | true =>
          rw [hn, if_pos rfl] at hJ
          rw [hJ]
          refine Wp.go (mx := true) (fun _ => mixed) [(5, {fm := [(4, .agg (encJ (v.kids.getD k .nil)))]})] 100 [true, true] [(bif bif decide ((↑k : Int) < (↑v.names.length : Int)) then decide ((↑k : Int) < (↑v.kids.length : Int)) else false then v.kind == (6 : Int) else false) = true, (0 : Int) ≤ (↑k : Int) ∧ (↑k : Int) < (↑v.names.length : Int), (v.names.getD k [] == n) = true, (0 : Int) ≤ (↑k : Int) ∧ (↑k : Int) < (↑v.kids.length : Int), EqvD (V1.agg [kidC v.kids k (0 : Nat), kidC v.kids k ((0 : Nat) + (1 : Nat)), kidC v.kids k ((0 : Nat) + (1 : Nat) + (1 : Nat)), kidC v.kids k ((0 : Nat) + (1 : Nat) + (1 : Nat) + (1 : Nat)), kidC v.kids k ((0 : Nat) + (1 : Nat) + (1 : Nat) + (1 : Nat) + (1 : Nat)), kidC v.kids k ((0 : Nat) + (1 : Nat) + (1 : Nat) + (1 : Nat) + (1 : Nat) + (1 : Nat))]) (V1.agg (encJ (v.kids.getD k JV.nil)))] (by kernel_rfl) (by kernel_rfl) (by kernel_rfl) ⟨(by simp; omega), (by omega), (by assumption), (by omega), (show EqvD (V1.agg [kidC v.kids k (0 : Nat), kidC v.kids k ((0 : Nat) + (1 : Nat)), kidC v.kids k ((0 : Nat) + (1 : Nat) + (1 : Nat)), kidC v.kids k ((0 : Nat) + (1 : Nat) + (1 : Nat) + (1 : Nat)), kidC v.kids k ((0 : Nat) + (1 : Nat) + (1 : Nat) + (1 : Nat) + (1 : Nat)), kidC v.kids k ((0 : Nat) + (1 : Nat) + (1 : Nat) + (1 : Nat) + (1 : Nat) + (1 : Nat))]) (V1.agg (encJ (v.kids.getD k JV.nil))) from (by assumption))⟩ ?_
          refine Wp.ret' (by kernel_rfl) ?_
          exact FinQ.pure (rs' := [V1.agg [Cell.int .i64 (v.kids.getD k JV.nil).kind, Cell.bool (v.kids.getD k JV.nil).b, Cell.int .i64 (v.kids.getD k JV.nil).n, Cell.str (v.kids.getD k JV.nil).s, Cell.sl (1 : Nat) (v.kids.getD k JV.nil).names.length fun (i j : Nat) => nthD [Cell.str ((v.kids.getD k JV.nil).names.getD i [])] j, Cell.sl (6 : Nat) (v.kids.getD k JV.nil).kids.length (kidC (v.kids.getD k JV.nil).kids)], V1.c (Cell.bool true)]) (by kernel_rfl) rfl (by kernel_rfl)
        | false =>
          rw [hn, if_neg (by decide)] at hq
          clear hJ
          refine Wp.go (mx := true) (fun _ => mixed) [] 100 [true, false] [(bif bif decide ((↑k : Int) < (↑v.names.length : Int)) then decide ((↑k : Int) < (↑v.kids.length : Int)) else false then v.kind == (6 : Int) else false) = true, (0 : Int) ≤ (↑k : Int) ∧ (↑k : Int) < (↑v.names.length : Int), (v.names.getD k [] == n) = false, inR IntKind.i64 ((↑k : Int) + (1 : Int))] (by kernel_rfl) (by kernel_rfl) (by kernel_rfl) ⟨(by simp; omega), (by omega), (by assumption), inR64 (by omega) (by omega)⟩ ?_
          exact Wp.lpK (by kernel_rfl) (again _ (k + 1) (⟨(by assumption), ⟨(by assumption), (by assumption)⟩⟩) (by omega) (Ent.of [] (by kernel_rfl) (by kernel_rfl) (by kernel_rfl) trivial))
      · rw [getF_end v n k (by omega)] at hJ
        rw [hJ]
        refine Wp.go (mx := true) (fun _ => mixed) [(6, {fm := [(0, .agg (encJ .nil))]})] 100 [false] [(bif bif decide ((↑k : Int) < (↑v.names.length : Int)) then decide ((↑k : Int) < (↑v.kids.length : Int)) else false then v.kind == (6 : Int) else false) = false, EqvI (V1.agg [Cell.int .i64 (0 : Int), Cell.bool false, Cell.int .i64 (0 : Int), Cell.str [], Cell.nilsl, Cell.nilsl]) (V1.agg (encJ JV.nil)), EqvD (V1.agg [Cell.int .i64 (0 : Int), Cell.bool false, Cell.int .i64 (0 : Int), Cell.str [], Cell.nilsl, Cell.nilsl]) (V1.agg (encJ JV.nil))] (by kernel_rfl) (by kernel_rfl) (by kernel_rfl) ⟨(by simp; omega), eqvI_flat _ _ (by kernel_rfl), (show EqvD (V1.agg [Cell.int .i64 (0 : Int), Cell.bool false, Cell.int .i64 (0 : Int), Cell.str [], Cell.nilsl, Cell.nilsl]) (V1.agg (encJ JV.nil)) from (by assumption))⟩ ?_
        refine Wp.ret' (by kernel_rfl) ?_
        exact FinQ.pure (rs' := [V1.agg [Cell.int .i64 JV.nil.kind, Cell.bool JV.nil.b, Cell.int .i64 JV.nil.n, Cell.str JV.nil.s, Cell.sl (1 : Nat) JV.nil.names.length fun (i j : Nat) => nthD [Cell.str (JV.nil.names.getD i [])] j, Cell.sl (6 : Nat) JV.nil.kids.length (kidC JV.nil.kids)], V1.c (Cell.bool false)]) (by kernel_rfl) rfl (by kernel_rfl)
    · rw [getF_end v n k (by omega)] at hJ
      rw [hJ]
      refine Wp.go (mx := true) (fun _ => mixed) [(6, {fm := [(0, .agg (encJ .nil))]})] 100 [false] [(bif bif decide ((↑k : Int) < (↑v.names.length : Int)) then decide ((↑k : Int) < (↑v.kids.length : Int)) else false then v.kind == (6 : Int) else false) = false, EqvI (V1.agg [Cell.int .i64 (0 : Int), Cell.bool false, Cell.int .i64 (0 : Int), Cell.str [], Cell.nilsl, Cell.nilsl]) (V1.agg (encJ JV.nil)), EqvD (V1.agg [Cell.int .i64 (0 : Int), Cell.bool false, Cell.int .i64 (0 : Int), Cell.str [], Cell.nilsl, Cell.nilsl]) (V1.agg (encJ JV.nil))] (by kernel_rfl) (by kernel_rfl) (by kernel_rfl) ⟨(by simp; omega), eqvI_flat _ _ (by kernel_rfl), (show EqvD (V1.agg [Cell.int .i64 (0 : Int), Cell.bool false, Cell.int .i64 (0 : Int), Cell.str [], Cell.nilsl, Cell.nilsl]) (V1.agg (encJ JV.nil)) from (by assumption))⟩ ?_
      refine Wp.ret' (by kernel_rfl) ?_
      exact FinQ.pure (rs' := [V1.agg [Cell.int .i64 JV.nil.kind, Cell.bool JV.nil.b, Cell.int .i64 JV.nil.n, Cell.str JV.nil.s, Cell.sl (1 : Nat) JV.nil.names.length fun (i j : Nat) => nthD [Cell.str (JV.nil.names.getD i [])] j, Cell.sl (6 : Nat) JV.nil.kids.length (kidC JV.nil.kids)], V1.c (Cell.bool false)]) (by kernel_rfl) rfl (by kernel_rfl)
  · have hJ : getJ v n = none := by unfold getJ; rw [if_neg (by simpa using h6)]
    rw [hJ]
    have hb : (v.kind == 6) = false := by simpa using h6
    refine Wp.go (mx := true) (fun _ => mixed) [(6, {fm := [(0, .agg (encJ .nil))]})] 100 [false] [(bif bif decide ((↑k : Int) < (↑v.names.length : Int)) then decide ((↑k : Int) < (↑v.kids.length : Int)) else false then v.kind == (6 : Int) else false) = false, EqvI (V1.agg [Cell.int .i64 (0 : Int), Cell.bool false, Cell.int .i64 (0 : Int), Cell.str [], Cell.nilsl, Cell.nilsl]) (V1.agg (encJ JV.nil)), EqvD (V1.agg [Cell.int .i64 (0 : Int), Cell.bool false, Cell.int .i64 (0 : Int), Cell.str [], Cell.nilsl, Cell.nilsl]) (V1.agg (encJ JV.nil))] (by kernel_rfl) (by kernel_rfl) (by kernel_rfl) ⟨(by simp; omega), eqvI_flat _ _ (by kernel_rfl), (show EqvD (V1.agg [Cell.int .i64 (0 : Int), Cell.bool false, Cell.int .i64 (0 : Int), Cell.str [], Cell.nilsl, Cell.nilsl]) (V1.agg (encJ JV.nil)) from (by assumption))⟩ ?_
    refine Wp.ret' (by kernel_rfl) ?_
    exact FinQ.pure (rs' := [V1.agg [Cell.int .i64 JV.nil.kind, Cell.bool JV.nil.b, Cell.int .i64 JV.nil.n, Cell.str JV.nil.s, Cell.sl (1 : Nat) JV.nil.names.length fun (i j : Nat) => nthD [Cell.str (JV.nil.names.getD i [])] j, Cell.sl (6 : Nat) JV.nil.kids.length (kidC JV.nil.kids)], V1.c (Cell.bool false)]) (by kernel_rfl) rfl (by kernel_rfl)
theorem text12_ok (v : JV) (n : List UInt8) (h1 : v.names.length < 4611686018427387904) (h2 : v.kids.length < 4611686018427387904) :
    Pur Tryz.prog G 12 [.agg (encJ v), .c (.str n)] [.c (.str ((getT v n).getD [])), .c (.bool (getT v n).isSome)] := by
  refine Pur.of Tryz.func12 (by kernel_rfl) (by kernel_rfl) (by kernel_rfl) ?_
  have c := get12_ok (G := G) v n h1 h2
  cases hx : getJ v n with
  | none =>
    have hT : getT v n = none := by unfold getT; rw [hx]; rfl
    rw [hT]
    rw [hx] at c
    simp only [Option.getD_none, Option.isSome_none, Option.getD_some, Option.isSome_some] at c
    refine Wp.go (mx := true) (fun _ => mixed) [(1, {cs := [(2, pc c)]})] 100 [true] [(bif !false then true else JV.nil.kind != (4 : Int)) = true] (by kernel_rfl) (by kernel_rfl) (by kernel_rfl) rfl ?_
    refine Wp.ret' (by kernel_rfl) ?_
    exact FinQ.pure (rs' := [V1.c (Cell.str []), V1.c (Cell.bool false)]) (by kernel_rfl) rfl (by kernel_rfl)
  | some x =>
    rw [hx] at c
    simp only [Option.getD_none, Option.isSome_none, Option.getD_some, Option.isSome_some] at c
    by_cases h4 : x.kind = 4
    · have hT : getT v n = some x.s := by unfold getT; rw [hx, Option.bind_some, if_pos (by rw [h4]; rfl)]
      rw [hT]
      refine Wp.go (mx := true) (fun _ => mixed) [(1, {cs := [(2, pc c)]})] 100 [false] [(bif !true then true else x.kind != (4 : Int)) = false] (by kernel_rfl) (by kernel_rfl) (by kernel_rfl) ((show (bif !true then true else x.kind != (4 : Int)) = false from (by simp; omega))) ?_
      refine Wp.ret' (by kernel_rfl) ?_
      exact FinQ.pure (rs' := [V1.c (Cell.str x.s), V1.c (Cell.bool true)]) (by kernel_rfl) rfl (by kernel_rfl)
    · have hT : getT v n = none := by unfold getT; rw [hx, Option.bind_some, if_neg (by simpa using h4)]
      rw [hT]
      have hb : (x.kind != 4) = true := by simpa using h4
      refine Wp.go (mx := true) (fun _ => mixed) [(1, {cs := [(2, pc c)]})] 100 [true] [(bif !true then true else x.kind != (4 : Int)) = true] (by kernel_rfl) (by kernel_rfl) (by kernel_rfl) ((show (bif !true then true else x.kind != (4 : Int)) = true from (by assumption))) ?_
      refine Wp.ret' (by kernel_rfl) ?_
      exact FinQ.pure (rs' := [V1.c (Cell.str []), V1.c (Cell.bool false)]) (by kernel_rfl) rfl (by kernel_rfl)
end Go.Proofs.Tw
end

section
open Go Go.Sv
namespace Go.Proofs.Tw
attribute [local irreducible] Wp FinQ resV Ent Pur Go.Sv.Fn Sat0
set_option maxRecDepth 100000
set_option maxHeartbeats 4000000

/-! values and messages that are not too great -/
def fitB : Nat → JV → Bool
  | 0, _ => false
  | n + 1, v => decide (v.s.length ≤ 1000000) && (decide (v.names.length ≤ 1000000) && (v.names.all (fun x => decide (x.length ≤ 1000000)) && (decide (v.kids.length ≤ 1000000) && ((v.kind != 6 || decide (v.kids.length ≤ v.names.length)) && (decide (-1000000 ≤ v.n) && (decide (v.n ≤ 1000000) && (decide ((printJ v).length ≤ 1000000) && v.kids.all (fitB n))))))))
theorem fit_all : ∀ (n : Nat) (v : JV), fitB n v = true → Small v ∧ Short v ∧ Fit v
  | 0, v, h => by cases h
  | n + 1, v, h => by
    simp only [fitB, Bool.and_eq_true, decide_eq_true_eq, List.all_eq_true] at h
    obtain ⟨h1, h2, h3, h4, h5, h6, h7, h8, h9⟩ := h
    have ih := fun x hx => fit_all n x (h9 x hx)
    refine ⟨.mk (by omega) (by omega) (fun x hx => (ih x hx).1), .mk (by omega) (by omega) (fun x hx => by have := h3 x hx; omega) (by omega) (fun x hx => (ih x hx).2.1),
      .mk (by omega) (fun hk => ?_) (by omega) (by omega) (by omega) (fun x hx => (ih x hx).2.2)⟩
    simp only [hk, Bool.or_eq_true, decide_eq_true_eq] at h5
    rcases h5 with h5 | h5
    · exact absurd h5 (by decide)
    · exact h5
def fitMB (m : MT) : Bool := decide (m.head.length ≤ 1000000) && (m.head.all (fun f => decide (f.name.length ≤ 1000000) && decide (f.value.length ≤ 1000000)) && (decide (m.body.length ≤ 1000000) && decide ((aheadT m).length ≤ 1000000)))
theorem fitM_of {m : MT} (h : fitMB m = true) : FitM m := by
  simp only [fitMB, Bool.and_eq_true, decide_eq_true_eq, List.all_eq_true] at h
  obtain ⟨h1, h2, h3, h4⟩ := h
  exact ⟨by omega, fun f hf => by have := h2 f hf; omega, by omega, by omega⟩

/-! ReplyDoc: the host is one of seven texts -/
def endsD : List (List UInt8) := [[116, 111, 107, 101, 110], [97, 117, 116, 104, 111, 114, 105, 122, 97, 116, 105, 111, 110], [105, 110, 116, 114, 111, 115, 112, 101, 99, 116, 105, 111, 110], [114, 101, 118, 111, 99, 97, 116, 105, 111, 110], [112, 117, 115, 104, 101, 100, 95, 97, 117, 116, 104, 111, 114, 105, 122, 97, 116, 105, 111, 110, 95, 114, 101, 113, 117, 101, 115, 116]]
def endD (k : Nat) : List UInt8 := endsD.getD k [] ++ [95, 101, 110, 100, 112, 111, 105, 110, 116]
def addrD (h : List UInt8) (k : Nat) : List UInt8 := (getT (docJ h) (endD k)).getD []
def restD (h : List UInt8) (k : Nat) : List UInt8 := (Lib.cut ((addrD h k).drop 8) [47]).2.1
/-- All that is asked of a host's k-th address. -/
def okD (h : List UInt8) (k : Nat) : Bool := (getT (docJ h) (endD k)).isSome && (decide ((addrD h k).length ≤ 1024) && (decide (8 ≤ (addrD h k).length) && ((addrD h k).take 8 == [104, 116, 116, 112, 115, 58, 47, 47] && (Lib.cut ((addrD h k).drop 8) [47] == (h, restD h k, true) && (hostT h && (Lib.cut (47 :: restD h k) [63] == (47 :: restD h k, [], false) && (pathT (47 :: restD h k) && (decide ((47 :: restD h k).length ≤ 1024) && decide (h.length ≤ 64)))))))))
def reqN : List UInt8 := [114, 101, 113, 117, 105, 114, 101, 95, 112, 117, 115, 104, 101, 100, 95, 97, 117, 116, 104, 111, 114, 105, 122, 97, 116, 105, 111, 110, 95, 114, 101, 113, 117, 101, 115, 116, 115]
def issD (h : List UInt8) : Bool := getT (docJ h) [105, 115, 115, 117, 101, 114] == some ([104, 116, 116, 112, 115, 58, 47, 47] ++ h)
def reqD (h : List UInt8) : Bool := match getJ (docJ h) reqN with
  | some x => x.b
  | none => false
def respD (h : List UInt8) : RT := jsonT (docJ h)
def prtD (h : List UInt8) : Bool := mayTell (respD h) && (fitMB (toldM (respD h)) && fitB 9 (docJ h))
def allD (h : List UInt8) : Bool := decide (h.length ≤ 10) && (issD h && (reqD h && (mayJ (docJ h) 0 && (prtD h && (List.range 5).all (okD h)))))
theorem all_D : hostsU.all allD = true := by kernel_rfl
theorem pick_mem (ss : List (List UInt8)) (ns : List Int) (a : Nat) (h : 0 < ss.length) : pickT ss ns a ∈ ss := by
  have h1 := nextV_rng ns a ss.length (by omega)
  unfold pickT
  rw [List.getD_eq_getElem?_getD, List.getElem?_eq_getElem (by omega)]
  exact List.getElem_mem _
theorem host_D (ns : List Int) : allD (uriT ns).host = true := List.all_eq_true.1 all_D _ (pick_mem hostsU ns 0 (by decide))
theorem doc_ok (ns : List Int) (hl : ns.length ≤ 9223372036854775807) : Pur Tryz.prog Gd 3 [.c (.sl 1 ns.length (intsF ns))] [.c (.bool true)] := by
  have hA := host_D ns
  generalize hh : (uriT ns).host = h at hA
  simp only [allD, Bool.and_eq_true, decide_eq_true_eq, List.all_eq_true, List.mem_range, issD, prtD, beq_iff_eq] at hA
  obtain ⟨hlen, hiss, hreq, hmay, ⟨hprt, hfm, hfb⟩, hok⟩ := hA
  obtain ⟨f1, f2, f3⟩ := fit_all 9 _ hfb
  have f4 := fitM_of hfm
  have hn9 : (docJ h).names.length = 9 := rfl
  have hk9 : (docJ h).kids.length = 9 := rfl
  have c1 : Pur Tryz.prog Gd 10 [.c (.sl 1 ns.length (intsF ns))] [.agg [.str h, .str (uriT ns).path, encH (uriT ns).query]] := by
    have := uri_ok (G := Gd) ns hl
    rwa [encU, hh] at this
  have c2 := Doc_ok (G := Gd) h (by omega)
  have c3 : Pur Tryz.prog Gd 12 [.agg (encJ (docJ h)), .c (.str [105, 115, 115, 117, 101, 114])] [.c (.str ([104, 116, 116, 112, 115, 58, 47, 47] ++ h)), .c (.bool true)] := by
    have := text12_ok (G := Gd) (docJ h) [105, 115, 115, 117, 101, 114] (by omega) (by omega)
    rwa [hiss] at this
  obtain ⟨x, hx, hxb⟩ : ∃ x, getJ (docJ h) reqN = some x ∧ x.b = true := by
    unfold reqD at hreq
    split at hreq
    · rename_i x hx; exact ⟨x, hx, hreq⟩
    · cases hreq
  have c4 : Pur Tryz.prog Gd 14 [.agg (encJ (docJ h)), .c (.str reqN)] [.agg (encJ x), .c (.bool true)] := by
    have := get12_ok (G := Gd) (docJ h) reqN (by omega) (by omega)
    rwa [hx] at this
  have c5 : Pur Tryz.prog Gd 15 [.agg (encJ (docJ h))] [.c (.bool true)] := by
    have := May12_ok (G := Gd) f2
    rwa [hmay] at this
  have c6 := Json_ok f1 (fun _ => f3)
  have c7 := printTell_ok (respD h) (by show (0 : Int) ≤ 200; omega) (by show (200 : Int) ≤ 1000; omega) f4
  have hlp : 0 < (printTell (respD h)).length := by
    unfold printTell
    rw [if_pos hprt]
    unfold aheadT
    simp only [List.length_append, List.length_cons]
    omega
  have e1 : EqvD (.c (.sl 1 5 (fun i j => nthD [Cell.str [116, 111, 107, 101, 110], Cell.str [97, 117, 116, 104, 111, 114, 105, 122, 97, 116, 105, 111, 110], Cell.str [105, 110, 116, 114, 111, 115, 112, 101, 99, 116, 105, 111, 110], Cell.str [114, 101, 118, 111, 99, 97, 116, 105, 111, 110], Cell.str [112, 117, 115, 104, 101, 100, 95, 97, 117, 116, 104, 111, 114, 105, 122, 97, 116, 105, 111, 110, 95, 114, 101, 113, 117, 101, 115, 116]] (i * 1 + j)))) (.c (.sl 1 5 (strsF endsD))) := strs_lit endsD rfl rfl
  clear hiss hreq hmay hprt hfm hfb hx
  refine Pur.of Tryz.func3 (by kernel_rfl) (by kernel_rfl) (by kernel_rfl) ?_
  refine Wp.go (mx := true) (fun _ => mixed) [(1, {cs := [(0, pc known_ok)]}), (3, {cs := [(1, pc c1)]}), (4, {cs := [(1, pc c2)]}), (5, {cs := [(1, pc c3)]}), (6, {fm := [(0, .c (.sl 1 5 (strsF endsD)))]})] 100 [false] [(!true) = false, EqvI (.c (.sl 1 5 (fun i j => nthD [Cell.str [116, 111, 107, 101, 110], Cell.str [97, 117, 116, 104, 111, 114, 105, 122, 97, 116, 105, 111, 110], Cell.str [105, 110, 116, 114, 111, 115, 112, 101, 99, 116, 105, 111, 110], Cell.str [114, 101, 118, 111, 99, 97, 116, 105, 111, 110], Cell.str [112, 117, 115, 104, 101, 100, 95, 97, 117, 116, 104, 111, 114, 105, 122, 97, 116, 105, 111, 110, 95, 114, 101, 113, 117, 101, 115, 116]] (i * 1 + j)))) (.c (.sl 1 5 (strsF endsD))), EqvD (.c (.sl 1 5 (fun i j => nthD [Cell.str [116, 111, 107, 101, 110], Cell.str [97, 117, 116, 104, 111, 114, 105, 122, 97, 116, 105, 111, 110], Cell.str [105, 110, 116, 114, 111, 115, 112, 101, 99, 116, 105, 111, 110], Cell.str [114, 101, 118, 111, 99, 97, 116, 105, 111, 110], Cell.str [112, 117, 115, 104, 101, 100, 95, 97, 117, 116, 104, 111, 114, 105, 122, 97, 116, 105, 111, 110, 95, 114, 101, 113, 117, 101, 115, 116]] (i * 1 + j)))) (.c (.sl 1 5 (strsF endsD)))] (by kernel_rfl) (by kernel_rfl) (by kernel_rfl) ⟨rfl, fun _ _ => trivial, e1⟩ ?_
  refine Wp.loopK (by kernel_rfl) (fun (k : Nat) => ⟨[(3, TV.v (V1.c (Cell.str h))), (4, TV.v (V1.c (Cell.ptr 144 0))), (5, TV.v (V1.c (Cell.str ([104, 116, 116, 112, 115, 58, 47, 47] ++ h)))), (6, TV.v (V1.c (Cell.bool true))), (7, TV.v (V1.c (Cell.sl 1 5 (strsF endsD)))), (8, TV.v (V1.c (Cell.int .i64 (k : Int))))], [(144, Blk.box 31 (encJ (docJ h)))], 336⟩) (fun k => k ≤ 5) (fun k => 5 - k) 0 (Ent.of [] (by kernel_rfl) (by kernel_rfl) (by kernel_rfl) trivial) (Nat.zero_le _) ?_
  intro k L hk again
  rcases Nat.lt_or_ge k 5 with hlt | hge
  · have hk1 := hok k hlt
    simp only [okD, Bool.and_eq_true, decide_eq_true_eq, beq_iff_eq] at hk1
    obtain ⟨k1, k2, k3, k4, k5, k6, k7, k8, k9, k10⟩ := hk1
    have d1 : Pur Tryz.prog Gd 12 [.agg (encJ (docJ h)), .c (.str (endsD.getD k [] ++ [95, 101, 110, 100, 112, 111, 105, 110, 116]))] [.c (.str (addrD h k)), .c (.bool true)] := by
      have := text12_ok (G := Gd) (docJ h) (endD k) (by omega) (by omega)
      rwa [k1] at this
    have d2 := parse11_nq (G := Gd) (addrD h k) h (restD h k) k2 k3 k4 k5 k6 k7 k8 k9 k10
    have he : (endsD.getD k []).length ≤ 1000 := by
      have : ∀ k, k < 5 → (endsD.getD k []).length ≤ 1000 := by decide
      exact this k hlt
    clear hok k1 k4 k5 k6 k7 k8
    refine Wp.go (mx := true) (fun _ => mixed) [(10, {cs := [(6, pc d1)]}), (11, {cs := [(1, pc d2)]})] 100 [true, false] [decide ((↑k : Int) < (↑(5 : Nat) : Int)) = true, (0 : Int) ≤ (↑k : Int) ∧ (↑k : Int) < (↑(5 : Nat) : Int), (endsD.getD k []).length + (9 : Nat) ≤ (9223372036854775807 : Nat), (bif bif !true then true else (0 : Int) != (0 : Int) then true else !h == h) = false, inR IntKind.i64 ((↑k : Int) + (1 : Int))] (by kernel_rfl) (by kernel_rfl) (by kernel_rfl) ⟨(by simp; omega), (by omega), (by omega), (by simp; done), inR64 (by omega) (by omega)⟩ ?_
    exact Wp.lpK (by kernel_rfl) (again _ (k + 1) (by assumption) (by omega) (Ent.of [] (by kernel_rfl) (by kernel_rfl) (by kernel_rfl) trivial))
  · obtain rfl : k = 5 := by omega
    have c6' : Pur Tryz.prog Gd 17 [.agg (encJ (docJ h))] [.agg (encT (respD h))] := c6
    clear hok
    refine Wp.go (mx := true) (fun _ => mixed) [(14, {cs := [(1, pc c4)]}), (15, {cs := [(16, pc c5), (20, pc c6'), (21, pc c7)]})] 100 [false] [decide ((↑(5 : Nat) : Int) < (↑(5 : Nat) : Int)) = false, true = true → (8 : Nat) + h.length ≤ (9223372036854775807 : Nat)] (by kernel_rfl) (by kernel_rfl) (by kernel_rfl) ⟨rfl, (show true = true → (8 : Nat) + h.length ≤ (9223372036854775807 : Nat) from (by omega))⟩ ?_
    refine Wp.ret' (by kernel_rfl) ?_
    exact FinQ.pure (rs' := [V1.c (Cell.bool (bif bif bif bif bif true then [(104 : UInt8), 116, 116, 112, 115, 58, 47, 47] ++ h == [(104 : UInt8), 116, 116, 112, 115, 58, 47, 47] ++ h else false then true else false then x.b else false then true else false then decide ((↑(printTell (respD h)).length : Int) > (0 : Int)) else false))]) (by kernel_rfl) (by simp [*]; done) (by kernel_rfl)
end Go.Proofs.Tw
end

section
/-
  Own layer 'SV' (30): what has been read reads so in a later world.
-/
namespace Go.Sv

theorem mapM_keep {α β : Type} {f g : α → Option β} : ∀ {l : List α} {ys : List β}, l.mapM f = some ys → (∀ x ∈ l, ∀ y, f x = some y → y ∈ ys → g x = some y) → l.mapM g = some ys
  | [], ys, h, _ => by simpa using h
  | x :: l, ys, h, hg => by
    rw [List.mapM_cons] at h ⊢
    cases hx : f x with
    | none => rw [hx] at h; cases h
    | some y =>
      rw [hx] at h
      cases hl : l.mapM f with
      | none => rw [hl] at h; cases h
      | some zs =>
        rw [hl] at h
        obtain rfl : y :: zs = ys := by simpa using h
        rw [hg x (by simp) y hx (by simp), mapM_keep hl (fun u hu v hv hm => hg u (by simp [hu]) v hv (by simp [hm]))]
        rfl
theorem cell_keep {W W' : World} (hk : ∀ b, b < W.heap.size → W'.heap[b]? = W.heap[b]?) {a : Addr} {v : Value} (h : W.cell? a = some v) : W'.cell? a = some v := by
  have hb : a.block < W.heap.size := by
    rcases Nat.lt_or_ge a.block W.heap.size with hlt | hge
    · exact hlt
    · simp [World.cell?, Array.getElem?_eq_none hge] at h
  simp only [World.cell?, hk _ hb] at h ⊢
  exact h
theorem cells_keep {W W' : World} (hk : ∀ b, b < W.heap.size → W'.heap[b]? = W.heap[b]?) {base : Nat} {a : Addr} {n : Nat} {l : List Value} (h : W.cells? base a n = some l) : W'.cells? base a n = some l := by
  unfold World.cells? at h ⊢
  split at h
  · rename_i hb
    rw [if_pos hb]
    exact mapM_keep h (fun x _ y hy _ => cell_keep hk hy)
  · cases h

/-- Types that lead to no others, and to no slices of nothing. -/
def stepT (P : Program) (S : TypeId → Bool) (t : TypeId) : Bool := match P.underlying t with
  | some (.slice e) => !(Nat.beq (P.cellsOf e) 0) && S e
  | some (.pointer e) => S e
  | some (.struct fs) => fs.toList.all fun f => S f.type
  | some (.array _ e) => S e
  | some (.map _ e) => S e
  | _ => true
def inL (l : List TypeId) (t : TypeId) : Bool := l.any fun u => Nat.beq u t
def closedT (P : Program) (l : List TypeId) : Bool := l.all (stepT P (inL l))
theorem closed_step {P : Program} {l : List TypeId} (h : closedT P l = true) {t : TypeId} (ht : inL l t = true) : stepT P (inL l) t = true := by
  obtain ⟨u, hu, e⟩ := List.any_eq_true.1 ht
  obtain rfl : u = t := Nat.eq_of_beq_eq_true e
  exact List.all_eq_true.1 h u hu
theorem trod_keep {H : Type} {enc : TypeId × Value → H} {P : Program} {W W' : World} {base : Nat} {sp sp' : Nat → Bool} {l : List TypeId} (hk : ∀ b, b < W.heap.size → W'.heap[b]? = W.heap[b]?)
    (hz : closedT P l = true) (hsp : ∀ b, sp b = true) : ∀ (fuel : Nat) (t : TypeId) (cs : List Value) (d : DataW H) (p : List MemPlace), inL l t = true → DataW.trod enc P W base sp true fuel t cs = some (d, p) →
      (∀ q ∈ p, sp' q.block = true) → DataW.trod enc P W' base sp' true fuel t cs = some (d, p) := by
  intro fuel
  induction fuel with
  | zero => intro t cs d p _ h; simp [DataW.trod] at h
  | succ fuel ih =>
    intro t cs d p hin h hs
    have hst := closed_step hz hin
    unfold stepT at hst
    unfold DataW.trod at h ⊢
    generalize hu : P.underlying t = u at h hst ⊢
    split at h
    case h_6 e a =>
      simp only at hst
      rw [Option.map_eq_some_iff] at h
      obtain ⟨x, hx, he⟩ := h
      rw [Option.bind_eq_some_iff] at hx
      obtain ⟨vl, hl, hx⟩ := hx
      simp only [Prod.mk.injEq] at he
      obtain ⟨rfl, rfl⟩ := he
      simp only [cells_keep hk hl, Option.bind_some]
      rw [ih e vl x.1 x.2 hst hx (fun q hq => hs q (by simp [hq]))]
      rfl
    case h_8 e a len cap =>
      simp only [Bool.and_eq_true, Bool.not_eq_true'] at hst
      have hz : P.cellsOf e ≠ 0 := fun h0 => by rw [h0] at hst; exact absurd hst.1 (by decide)
      simp only at h ⊢
      split at h
      · rename_i hc
        rw [if_pos hc]
        rw [Option.bind_eq_some_iff] at h
        obtain ⟨elems, hel, h⟩ := h
        rw [Option.map_eq_some_iff] at h
        obtain ⟨rest, hre, he⟩ := h
        simp only [Prod.mk.injEq] at he
        obtain ⟨rfl, rfl⟩ := he
        have elemAt : ∀ (i : Nat) (y : DataW H × List MemPlace), (W.cells? base (a.add (i * P.cellsOf e)) (P.cellsOf e)).bind (DataW.trod enc P W base sp true fuel e) = some y → y ∈ elems ++ rest →
            (W'.cells? base (a.add (i * P.cellsOf e)) (P.cellsOf e)).bind (DataW.trod enc P W' base sp' true fuel e) = some y := by
          intro i y hy hm
          rw [Option.bind_eq_some_iff] at hy ⊢
          obtain ⟨vl, hl, hy⟩ := hy
          exact ⟨vl, cells_keep hk hl, ih e vl y.1 y.2 hst.2 hy (fun q hq => hs q (List.mem_append_right _ (List.mem_flatMap.2 ⟨y, hm, hq⟩)))⟩
        rw [mapM_keep hel (fun x _ y hy hm => elemAt x y hy (List.mem_append_left _ hm))]
        simp only [Option.bind_some]
        have hrest : (if sp' a.block = true then (List.range (cap - len)).mapM fun j => (W'.cells? base (a.add ((len + j) * P.cellsOf e)) (P.cellsOf e)).bind (DataW.trod enc P W' base sp' true fuel e) else some []) = some rest := by
          by_cases h0 : elems.length + rest.length = 0
          · have hr : rest = [] := List.eq_nil_of_length_eq_zero (by omega)
            have hle : elems = [] := List.eq_nil_of_length_eq_zero (by omega)
            have none0 : ∀ {f : Nat → Option (DataW H × List MemPlace)} {n : Nat} {ys : List (DataW H × List MemPlace)}, (List.range n).mapM f = some ys → ys = [] → n = 0 := by
              intro f n ys h hy
              subst hy
              cases n with
              | zero => rfl
              | succ n =>
                rw [List.range_succ_eq_map, List.mapM_cons] at h
                exfalso
                revert h
                cases f 0 with
                | none => intro h; cases h
                | some y =>
                  intro h
                  simp only [Option.bind_eq_bind, Option.bind_some] at h
                  rw [Option.bind_eq_some_iff] at h
                  obtain ⟨_, _, h⟩ := h
                  simp at h
            have hlen := none0 hel hle
            rw [if_pos (hsp _)] at hre
            have hc0 := none0 hre hr
            rw [hc0, hr]
            simp
          · have hb : sp' a.block = true := by
              have hm : (MemPlace.cell a.block (a.off + 0)) ∈ MemPlace.row a ((elems.length + rest.length) * P.cellsOf e) := by
                unfold MemPlace.row
                refine List.mem_map.2 ⟨0, List.mem_range.2 ?_, rfl⟩
                exact Nat.mul_pos (by omega) (by omega)
              exact hs _ (List.mem_append_left _ hm)
            rw [if_pos hb]
            rw [if_pos (hsp _)] at hre
            exact mapM_keep hre (fun x _ y hy hm => elemAt (len + x) y hy (List.mem_append_right _ hm))
        rw [hrest]
        rfl
      · cases h
    case h_9 fs =>
      split at h
      · rename_i hc
        rw [if_pos hc]
        rw [Option.map_eq_some_iff] at h
        obtain ⟨xs, hx, he⟩ := h
        simp only [Prod.mk.injEq] at he
        obtain ⟨rfl, rfl⟩ := he
        rw [mapM_keep hx (fun f hf y hy hm => ih _ _ y.1 y.2 (List.all_eq_true.1 hst f hf) hy (fun q hq => hs q (List.mem_flatMap.2 ⟨y, hm, hq⟩)))]
        rfl
      · cases h
    case h_10 n e =>
      split at h
      · rename_i hc
        rw [if_pos hc]
        rw [Option.map_eq_some_iff] at h
        obtain ⟨xs, hx, he⟩ := h
        simp only [Prod.mk.injEq] at he
        obtain ⟨rfl, rfl⟩ := he
        rw [mapM_keep hx (fun f _ y hy hm => ih _ _ y.1 y.2 hst hy (fun q hq => hs q (List.mem_flatMap.2 ⟨y, hm, hq⟩)))]
        rfl
      · cases h
    case h_12 ms u v => exact h
    case h_14 k e b =>
      cases hb : W.heap[b]? with
      | none => rw [hb] at h; cases h
      | some o =>
        have hlt : b < W.heap.size := by
          rcases Nat.lt_or_ge b W.heap.size with hlt | hge
          · exact hlt
          · rw [Array.getElem?_eq_none hge] at hb; cases hb
        rw [hb] at h
        rw [hk b hlt, hb]
        cases o with
        | map es clock =>
          simp only at h ⊢
          split at h
          · rename_i hc
            rw [if_pos hc]
            rw [Option.bind_eq_some_iff] at h
            obtain ⟨entries, he, h⟩ := h
            have he' : entries.flatMap (fun x => x.2) ⊆ p := by
              split at h
              · simp only [Option.some.injEq, Prod.mk.injEq] at h
                rw [← h.2]
                exact fun x hx => List.mem_cons_of_mem _ hx
              · cases h
            rw [mapM_keep (g := fun x => (keyOf P k x.key).bind fun key => if x.val.formed P e then (DataW.trod enc P W' base sp' true fuel e x.val.cells.toList).map fun y => ((key, y.1), y.2) else none) he (fun x _ y hy hm => by
              rw [Option.bind_eq_some_iff] at hy ⊢
              obtain ⟨key, hkey, hy⟩ := hy
              refine ⟨key, hkey, ?_⟩
              split at hy
              · rename_i hf
                rw [if_pos hf]
                rw [Option.map_eq_some_iff] at hy ⊢
                obtain ⟨z, hz', rfl⟩ := hy
                exact ⟨z, ih e _ z.1 z.2 hst hz' (fun q hq => hs q (he' (List.mem_flatMap.2 ⟨_, hm, hq⟩))), rfl⟩
              · cases hy)]
            exact h
          · cases h
        | _ => cases h
    all_goals exact h
/-- All arguments read as before. -/
theorem trodAll_keep {H : Type} {enc : TypeId × Value → H} {P : Program} {W W' : World} {base : Nat} {sp sp' : Nat → Bool} {l : List TypeId} (hk : ∀ b, b < W.heap.size → W'.heap[b]? = W.heap[b]?)
    (hz : closedT P l = true) (hsp : ∀ b, sp b = true) : ∀ (ts : List TypeId) (vs : List Value) (ds : List (DataW H)) (p : List MemPlace), (∀ t ∈ ts, inL l t = true) → DataW.TrodAll enc P W base sp true ts vs ds p →
      (∀ q ∈ p, sp' q.block = true) → DataW.TrodAll enc P W' base sp' true ts vs ds p
  | [], [], [], p, _, h, _ => h
  | t :: ts, v :: vs, d :: ds, p, hl, ⟨p1, q1, ⟨fuel, h1⟩, h2, e⟩, hs =>
    ⟨p1, q1, ⟨fuel, trod_keep hk hz hsp fuel t _ d p1 (hl t (by simp)) h1 (fun q hq => hs q (by rw [e]; simp [hq]))⟩, trodAll_keep hk hz hsp ts vs ds q1 (fun t ht => hl t (by simp [ht])) h2 (fun q hq => hs q (by rw [e]; simp [hq])), e⟩
/-- A row of numbers among the arguments. -/
theorem ints_den {H : Type} {enc : TypeId × Value → H} {P : Program} {W : World} {base0 base : Nat} {sp : Nat → Bool} {held : Bool} {t e : TypeId} {k : IntKind} (ht : P.underlying t = some (.slice e)) (he : P.underlying e = some (.int k)) (hc : P.cellsOf e = 1)
    {v : Value} {d : DataW H} {p : List MemPlace} (hok : Value.okWide P W .any base0 t v) (h : DataW.Trod enc P W base sp held t v d p) :
    ∃ ns : List Int, ns.length ≤ maxLen ∧ DenV (Dw W) rho0 (.c (.sl 1 ns.length (fun i _ => .int k (ns.getD i 0)))) v := by
  obtain ⟨fuel, hf⟩ := h
  obtain ⟨a0, len0, cap0, rfl⟩ := Go.WideShapes.okWide_slice ht hok
  rcases Go.ChangeShapes.open_ints ht he hc hf with ⟨hcs, _⟩ | ⟨a, len, cap, zs, hcs, _, hl, hm, hzl, _, hcell, _⟩
  · have : Value.slice a0 len0 cap0 = .slice none 0 0 := by simpa [Value.cells] using hcs
    rw [this]
    exact ⟨[], Nat.zero_le _, none, 0, rfl, Nat.le_refl _, Nat.zero_le _, .inl ⟨rfl, rfl⟩⟩
  · have hv : Value.slice a0 len0 cap0 = .slice (some a) len cap := by simpa [Value.cells] using hcs
    rw [hv] at hok ⊢
    have hsp : a.spot = none := by
      simp only [Value.okWide, ht, Cell.okWide, Cell.ok] at hok
      exact hok.2.2.2.1
    obtain ⟨b, o, spot⟩ := a
    simp only at hsp
    subst hsp
    have hle : len ≤ zs.length := by rw [hzl]; split <;> omega
    have hn : (zs.take len).length = len := by rw [List.length_take]; omega
    refine ⟨zs.take len, by rw [hn]; omega, some ⟨b, o, none⟩, cap, by rw [hn], by rw [hn]; exact hl, hm, .inr ⟨b, o, rfl, fun i hi j hj => ?_⟩⟩
    obtain rfl : j = 0 := by omega
    rw [hn] at hi
    have := hcell i (by omega)
    rw [Go.WideShapes.add_plain] at this
    refine ⟨.int k (zs.getD i 0), by unfold Dw; rw [← this]; congr 2; omega, ?_⟩
    simp only [Den]
    congr 1
    simp [List.getD, List.getElem?_take, hi]
end Go.Sv
end
