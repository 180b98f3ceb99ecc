/- Own texts for this claim: Hp10, Hp11, Hp12, Smal, Hp13, Hp14, Hp15, Hp16, SvKeep, SvRead. -/
import Derived.Test.YtgoblgakkbodlaaGreatDoorHttpMayCardP6
import Derived.Test.YtgoblgakkbodlaaGreatDoorHttpMayCardP3
import Derived.ChangeSlices
set_option linter.all false

section
open Go Go.Sv Go.RowKit
namespace Go.Proofs.Tw
attribute [local irreducible] Wp FinQ resV Ent Pur Go.Sv.Fn Sat0
set_option maxRecDepth 100000
set_option maxHeartbeats 4000000
variable {G : Nat → Option (List Cell)}

theorem szE_f (z r : List UInt8) : szE z false r = if r = [] then 0 else 3 := rfl
theorem body13_e (l : List FT) (r : List UInt8) (hl : l.length < 1000000) (hv : ((fGet l clN).getD []).length < 1000000000) (hr : r.length < 1000000000) (h : bodyE l r ≠ 0) : Pur Tryz.prog G 40 [.agg (pT l []), .c (.str r)] [.agg (pT l []), .c (.int .i64 (bodyE l r))] := by
  unfold bodyE at *
  cases hg : fGet l clN with
  | none =>
    rw [hg] at h
    rw [show (none : Option (List UInt8)).isSome = false from rfl, szE_f] at h ⊢
    by_cases hn : r = []
    · rw [if_pos hn] at h; exact (h rfl).elim
    · rw [if_neg hn]; exact body13_nof l r hl hg hn
  | some v =>
    rw [hg] at h hv
    exact body13_no l r v hl hv hr hg h
theorem body13_0 (l : List FT) (r : List UInt8) (hl : l.length < 1000000) (hv : ((fGet l clN).getD []).length < 1000000000) (hr : r.length < 1000000000) (h : bodyE l r = 0) : Pur Tryz.prog G 40 [.agg (pT l []), .c (.str r)] [.agg (pT (l.filter notCl) r), .c (.int .i64 0)] := by
  unfold bodyE at *
  cases hg : fGet l clN with
  | none =>
    rw [hg] at h
    rw [show (none : Option (List UInt8)).isSome = false from rfl, szE_f] at h
    by_cases hn : r = []
    · rw [filter_none hg, hn]; exact body13_non l [] hl hg rfl
    · rw [if_neg hn] at h; cases h
  | some v =>
    rw [hg] at h hv
    exact body13_yes l r v hl hv hr hg h
theorem nilR_eqv : EqvD (.agg [.int .i64 0, .nilsl, .str []]) (.agg (encT nilR)) := agg_eqv (.cons CEq.rfl' (.cons CEq.nil (.cons CEq.rfl' .nil)))
theorem drop1_eqv' (s : List UInt8) (n : Nat) (hn : n = (linesH s).length - 1) : EqvD (.c (.sl 1 n (fun i j => strsF (linesH s) (1 + i) j))) (.c (encL (fieldsL s))) := drop1_eqv _ _ hn
theorem parse13Q_ok (s : List UInt8) (hl : s.length < 1000000000) : Pur Tryz.prog G 10 [.c (.str s)] [.agg (encQ (parseQ s).1), .c (.int .i64 (parseQ s).2)] := by
  have e0 := nilQ_eqv
  have hb : (hdC s).2.1.length ≤ s.length := (cut_len s [13, 10, 13, 10]).2
  by_cases hsp : splitH s ≠ 0
  · have hr : readH askB s = ([], splitH s) := by unfold readH; rw [if_pos hsp]
    have hp : parseQ s = (QT.nil, splitH s) := by unfold parseQ; rw [hr, if_neg hsp]
    rw [hp]
    have c1 := splitH_no (G := G) hl hsp
    have ht : (splitH s != 0) = true := bne_iff_ne.2 hsp
    generalize splitH s = e at *
    clear hr hp hsp
    refine Pur.of Tryz.func10 (by kernel_rfl) (by kernel_rfl) (by kernel_rfl) ?_
    refine Wp.go (mx := true) (fun _ => mixed) [(3, {fm := [(0, .agg (encQ QT.nil))]}), (1, {cs := [(1, pc c1)]})] 100 [true] [(e != (0 : Int)) = true, EqvI (V1.agg [Cell.str [], Cell.str [], Cell.nilsl, Cell.str []]) (V1.agg (encQ QT.nil)), EqvD (V1.agg [Cell.str [], Cell.str [], Cell.nilsl, Cell.str []]) (V1.agg (encQ QT.nil))] (by kernel_rfl) (by kernel_rfl) (by kernel_rfl) ⟨(by assumption), eqvI_flat _ _ (by kernel_rfl), (show EqvD (V1.agg [Cell.str [], Cell.str [], Cell.nilsl, Cell.str []]) (V1.agg (encQ QT.nil)) from (by assumption))⟩ ?_
    refine Wp.ret' (by kernel_rfl) ?_
    exact FinQ.pure (rs' := [V1.agg [Cell.str QT.nil.method, Cell.str QT.nil.target, Cell.sl (2 : Nat) QT.nil.head.length fun (i j : Nat) => nthD (encF (QT.nil.head.getD i FT.nil)) j, Cell.str QT.nil.body], V1.c (Cell.int .i64 e)]) (by kernel_rfl) rfl (by kernel_rfl)
  · have hsp : splitH s = 0 := by omega
    have c1 := split13_yes (G := G) s hl hsp
    have hfs := first_sm s
    have hfl := fldsL_sm s
    have hcl := cl_sm s
    have hpos := lines_pos s
    have h25 : (linesH s).length ≤ 25 := by
      unfold splitH at hsp
      split at hsp
      · cases hsp
      · split at hsp
        · cases hsp
        · split at hsp
          · cases hsp
          · omega
    have hfn : (fieldsL s).length < 1000000 := by unfold fieldsL; rw [List.length_drop]; omega
    have hfe : ∀ k, ((fieldsL s).getD k []).length < 1000000000 := fun k => by
      rw [List.getD_eq_getElem?_getD]
      cases hx : (fieldsL s)[k]? with
      | none => show 0 < _; omega
      | some x => have := hfl x (List.mem_of_getElem? hx); simp; omega
    have e1 := drop1_eqv' s ((linesH s).length - 1) rfl
    have hi0 : (0 : Int) ≤ 0 ∧ (0 : Int) < ((linesH s).length : Int) := by omega
    cases hf : askB (firstH s) with
    | false =>
      have hr := readH_line hsp hf
      have hp : parseQ s = (QT.nil, 3) := by unfold parseQ; rw [hr]; rfl
      rw [hp]
      have c2 : Pur Tryz.prog G 38 [.c (.str ((linesH s).getD 0 []))] [.agg (encQ .nil), .c (.bool false)] := ask13_no (firstH s) (by omega) hf
      clear hr hp hf hsp
      refine Pur.of Tryz.func10 (by kernel_rfl) (by kernel_rfl) (by kernel_rfl) ?_
      refine Wp.go (mx := true) (fun _ => mixed) [(6, {fm := [(0, .agg (encQ QT.nil))]}), (1, {cs := [(1, pc c1)]}), (4, {cs := [(3, pc c2)]})] 100 [false, true] [((0 : Int) != (0 : Int)) = false, (0 : Int) ≤ (0 : Int) ∧ (0 : Int) < (↑(linesH s).length : Int), (!false) = true, EqvI (V1.agg [Cell.str [], Cell.str [], Cell.nilsl, Cell.str []]) (V1.agg (encQ QT.nil)), EqvD (V1.agg [Cell.str [], Cell.str [], Cell.nilsl, Cell.str []]) (V1.agg (encQ QT.nil))] (by kernel_rfl) (by kernel_rfl) (by kernel_rfl) ⟨rfl, (by omega), rfl, eqvI_flat _ _ (by kernel_rfl), (show EqvD (V1.agg [Cell.str [], Cell.str [], Cell.nilsl, Cell.str []]) (V1.agg (encQ QT.nil)) from (by assumption))⟩ ?_
      refine Wp.ret' (by kernel_rfl) ?_
      exact FinQ.pure (rs' := [V1.agg [Cell.str QT.nil.method, Cell.str QT.nil.target, Cell.sl (2 : Nat) QT.nil.head.length fun (i j : Nat) => nthD (encF (QT.nil.head.getD i FT.nil)) j, Cell.str QT.nil.body], V1.c (Cell.int .i64 (3 : Int))]) (by kernel_rfl) rfl (by kernel_rfl)
    | true =>
      have c2 : Pur Tryz.prog G 38 [.c (.str ((linesH s).getD 0 []))] [.agg [.str (askM ((linesH s).getD 0 [])), .str (askT ((linesH s).getD 0 [])), encH [], .str []], .c (.bool true)] := ask13_yes (firstH s) (by omega) hf
      have c3 := fields13_ok (G := G) (fieldsL s) hfe hfn
      cases hO : fieldsO (fieldsL s) [] with
      | false =>
        have hr := readH_flds hsp hf hO
        have hp : parseQ s = (QT.nil, 3) := by unfold parseQ; rw [hr]; rfl
        rw [hp]
        rw [hO, if_neg (by decide), if_neg (by decide)] at c3
        clear hr hp hf hsp hO
        refine Pur.of Tryz.func10 (by kernel_rfl) (by kernel_rfl) (by kernel_rfl) ?_
        refine Wp.go (mx := true) (fun _ => mixed) [(7, {cs := [(2, pc c3)], fm := [(1, .c (encL (fieldsL s)))]}), (9, {fm := [(0, .agg (encQ QT.nil))]}), (1, {cs := [(1, pc c1)]}), (4, {cs := [(3, pc c2)]})] 100 [false, false, true] [((0 : Int) != (0 : Int)) = false, (0 : Int) ≤ (0 : Int) ∧ (0 : Int) < (↑(linesH s).length : Int), (!true) = false, EqvI (V1.c (Cell.sl (1 : Nat) ((Int.ofNat (linesH s).length).toNat - (1 : Nat)) fun (i j : Nat) => strsF (linesH s) ((1 : Nat) + i) j)) (V1.c (encL (fieldsL s))), EqvD (V1.c (Cell.sl (1 : Nat) ((Int.ofNat (linesH s).length).toNat - (1 : Nat)) fun (i j : Nat) => strsF (linesH s) ((1 : Nat) + i) j)) (V1.c (encL (fieldsL s))), (0 : Int) ≤ Int.ofNat (1) ∧ Int.ofNat (1) ≤ Int.ofNat (linesH s).length ∧ Int.ofNat (linesH s).length ≤ (↑(linesH s).length : Int), ((3 : Int) != (0 : Int)) = true, EqvI (V1.agg [Cell.str [], Cell.str [], Cell.nilsl, Cell.str []]) (V1.agg (encQ QT.nil)), EqvD (V1.agg [Cell.str [], Cell.str [], Cell.nilsl, Cell.str []]) (V1.agg (encQ QT.nil))] (by kernel_rfl) (by kernel_rfl) (by kernel_rfl) ⟨rfl, (by omega), rfl, fun _ _ => trivial, (by assumption), ⟨(by decide), ⟨(by simp; omega), (by simp; done)⟩⟩, rfl, eqvI_flat _ _ (by kernel_rfl), (show EqvD (V1.agg [Cell.str [], Cell.str [], Cell.nilsl, Cell.str []]) (V1.agg (encQ QT.nil)) from (by assumption))⟩ ?_
        refine Wp.ret' (by kernel_rfl) ?_
        exact FinQ.pure (rs' := [V1.agg [Cell.str QT.nil.method, Cell.str QT.nil.target, Cell.sl (2 : Nat) QT.nil.head.length fun (i j : Nat) => nthD (encF (QT.nil.head.getD i FT.nil)) j, Cell.str QT.nil.body], V1.c (Cell.int .i64 (3 : Int))]) (by kernel_rfl) rfl (by kernel_rfl)
      | true =>
        have hr := readH_end hsp hf hO
        rw [hO, if_pos rfl, if_pos rfl] at c3
        have hA : (fieldsA (fieldsL s) []).length < 1000000 := by
          have := fA_len (fieldsL s) []
          unfold fieldsL at *
          rw [List.length_drop, List.length_nil] at this
          omega
        by_cases he : bodyE (fieldsA (fieldsL s) []) (hdC s).2.1 = 0
        · rw [if_pos he] at hr
          have c4 := body13_0 (G := G) _ _ hA (by omega) (by omega) he
          have hp : parseQ s = (⟨askM (firstH s), askT (firstH s), (fieldsA (fieldsL s) []).filter notCl, (hdC s).2.1⟩, 0) := by unfold parseQ; rw [hr]; rfl
          rw [hp]
          unfold firstH
          generalize fieldsA (fieldsL s) [] = A at *
          clear hr hp hf hsp hO he
          refine Pur.of Tryz.func10 (by kernel_rfl) (by kernel_rfl) (by kernel_rfl) ?_
          refine Wp.go (mx := true) (fun _ => mixed) [(7, {cs := [(2, pc c3)], fm := [(1, .c (encL (fieldsL s)))]}), (1, {cs := [(1, pc c1)]}), (4, {cs := [(3, pc c2)]}), (10, {cs := [(3, pc c4)]})] 100 [false, false, false, false] [((0 : Int) != (0 : Int)) = false, (0 : Int) ≤ (0 : Int) ∧ (0 : Int) < (↑(linesH s).length : Int), (!true) = false, EqvI (V1.c (Cell.sl (1 : Nat) ((Int.ofNat (linesH s).length).toNat - (1 : Nat)) fun (i j : Nat) => strsF (linesH s) ((1 : Nat) + i) j)) (V1.c (encL (fieldsL s))), EqvD (V1.c (Cell.sl (1 : Nat) ((Int.ofNat (linesH s).length).toNat - (1 : Nat)) fun (i j : Nat) => strsF (linesH s) ((1 : Nat) + i) j)) (V1.c (encL (fieldsL s))), (0 : Int) ≤ Int.ofNat (1) ∧ Int.ofNat (1) ≤ Int.ofNat (linesH s).length ∧ Int.ofNat (linesH s).length ≤ (↑(linesH s).length : Int), ((0 : Int) != (0 : Int)) = false, ((0 : Int) != (0 : Int)) = false] (by kernel_rfl) (by kernel_rfl) (by kernel_rfl) ⟨rfl, (by omega), rfl, fun _ _ => trivial, (by assumption), ⟨(by decide), ⟨(by simp; omega), (by simp; done)⟩⟩, rfl, rfl⟩ ?_
          refine Wp.ret' (by kernel_rfl) ?_
          exact FinQ.pure (rs' := [V1.agg [Cell.str (askM ((linesH s).getD (0 : Nat) [])), Cell.str (askT ((linesH s).getD (0 : Nat) [])), Cell.sl (2 : Nat) (List.filter notCl A).length fun (i j : Nat) => nthD (encF ((List.filter notCl A).getD i FT.nil)) j, Cell.str (hdC s).2.fst], V1.c (Cell.int .i64 (0 : Int))]) (by kernel_rfl) rfl (by kernel_rfl)
        · rw [if_neg he] at hr
          have c4 := body13_e (G := G) _ _ hA (by omega) (by omega) he
          have hp : parseQ s = (QT.nil, bodyE (fieldsA (fieldsL s) []) (hdC s).2.1) := by unfold parseQ; rw [hr, if_neg he]
          rw [hp]
          have ht : (bodyE (fieldsA (fieldsL s) []) (hdC s).2.1 != 0) = true := bne_iff_ne.2 he
          generalize bodyE (fieldsA (fieldsL s) []) (hdC s).2.1 = e at *
          generalize fieldsA (fieldsL s) [] = A at *
          clear hr hp hf hsp hO he
          refine Pur.of Tryz.func10 (by kernel_rfl) (by kernel_rfl) (by kernel_rfl) ?_
          refine Wp.go (mx := true) (fun _ => mixed) [(7, {cs := [(2, pc c3)], fm := [(1, .c (encL (fieldsL s)))]}), (12, {fm := [(0, .agg (encQ QT.nil))]}), (1, {cs := [(1, pc c1)]}), (4, {cs := [(3, pc c2)]}), (10, {cs := [(3, pc c4)]})] 100 [false, false, false, true] [((0 : Int) != (0 : Int)) = false, (0 : Int) ≤ (0 : Int) ∧ (0 : Int) < (↑(linesH s).length : Int), (!true) = false, EqvI (V1.c (Cell.sl (1 : Nat) ((Int.ofNat (linesH s).length).toNat - (1 : Nat)) fun (i j : Nat) => strsF (linesH s) ((1 : Nat) + i) j)) (V1.c (encL (fieldsL s))), EqvD (V1.c (Cell.sl (1 : Nat) ((Int.ofNat (linesH s).length).toNat - (1 : Nat)) fun (i j : Nat) => strsF (linesH s) ((1 : Nat) + i) j)) (V1.c (encL (fieldsL s))), (0 : Int) ≤ Int.ofNat (1) ∧ Int.ofNat (1) ≤ Int.ofNat (linesH s).length ∧ Int.ofNat (linesH s).length ≤ (↑(linesH s).length : Int), ((0 : Int) != (0 : Int)) = false, (e != (0 : Int)) = true, EqvI (V1.agg [Cell.str [], Cell.str [], Cell.nilsl, Cell.str []]) (V1.agg (encQ QT.nil)), EqvD (V1.agg [Cell.str [], Cell.str [], Cell.nilsl, Cell.str []]) (V1.agg (encQ QT.nil))] (by kernel_rfl) (by kernel_rfl) (by kernel_rfl) ⟨rfl, (by omega), rfl, fun _ _ => trivial, (by assumption), ⟨(by decide), ⟨(by simp; omega), (by simp; done)⟩⟩, rfl, (by assumption), eqvI_flat _ _ (by kernel_rfl), (show EqvD (V1.agg [Cell.str [], Cell.str [], Cell.nilsl, Cell.str []]) (V1.agg (encQ QT.nil)) from (by assumption))⟩ ?_
          refine Wp.ret' (by kernel_rfl) ?_
          exact FinQ.pure (rs' := [V1.agg [Cell.str QT.nil.method, Cell.str QT.nil.target, Cell.sl (2 : Nat) QT.nil.head.length fun (i j : Nat) => nthD (encF (QT.nil.head.getD i FT.nil)) j, Cell.str QT.nil.body], V1.c (Cell.int .i64 e)]) (by kernel_rfl) rfl (by kernel_rfl)
theorem parse13R_ok (s : List UInt8) (hl : s.length < 1000000000) : Pur Tryz.prog G 12 [.c (.str s)] [.agg (encT (parseR s).1), .c (.int .i64 (parseR s).2)] := by
  have e0 := nilR_eqv
  have hb : (hdC s).2.1.length ≤ s.length := (cut_len s [13, 10, 13, 10]).2
  by_cases hsp : splitH s ≠ 0
  · have hr : readH tellB s = ([], splitH s) := by unfold readH; rw [if_pos hsp]
    have hp : parseR s = (nilR, splitH s) := by unfold parseR; rw [hr, if_neg hsp]
    rw [hp]
    have c1 := splitH_no (G := G) hl hsp
    have ht : (splitH s != 0) = true := bne_iff_ne.2 hsp
    generalize splitH s = e at *
    clear hr hp hsp
    refine Pur.of Tryz.func12 (by kernel_rfl) (by kernel_rfl) (by kernel_rfl) ?_
    refine Wp.go (mx := true) (fun _ => mixed) [(3, {fm := [(0, .agg (encT nilR))]}), (1, {cs := [(1, pc c1)]})] 100 [true] [(e != (0 : Int)) = true, EqvI (V1.agg [Cell.int .i64 (0 : Int), Cell.nilsl, Cell.str []]) (V1.agg (encT nilR)), EqvD (V1.agg [Cell.int .i64 (0 : Int), Cell.nilsl, Cell.str []]) (V1.agg (encT nilR))] (by kernel_rfl) (by kernel_rfl) (by kernel_rfl) ⟨(by assumption), eqvI_flat _ _ (by kernel_rfl), (show EqvD (V1.agg [Cell.int .i64 (0 : Int), Cell.nilsl, Cell.str []]) (V1.agg (encT nilR)) from (by assumption))⟩ ?_
    refine Wp.ret' (by kernel_rfl) ?_
    exact FinQ.pure (rs' := [V1.agg [Cell.int .i64 nilR.status, Cell.sl (2 : Nat) nilR.head.length fun (i j : Nat) => nthD (encF (nilR.head.getD i FT.nil)) j, Cell.str nilR.body], V1.c (Cell.int .i64 e)]) (by kernel_rfl) rfl (by kernel_rfl)
  · have hsp : splitH s = 0 := by omega
    have c1 := split13_yes (G := G) s hl hsp
    have hfs := first_sm s
    have hfl := fldsL_sm s
    have hcl := cl_sm s
    have hpos := lines_pos s
    have h25 : (linesH s).length ≤ 25 := by
      unfold splitH at hsp
      split at hsp
      · cases hsp
      · split at hsp
        · cases hsp
        · split at hsp
          · cases hsp
          · omega
    have hfn : (fieldsL s).length < 1000000 := by unfold fieldsL; rw [List.length_drop]; omega
    have hfe : ∀ k, ((fieldsL s).getD k []).length < 1000000000 := fun k => by
      rw [List.getD_eq_getElem?_getD]
      cases hx : (fieldsL s)[k]? with
      | none => show 0 < _; omega
      | some x => have := hfl x (List.mem_of_getElem? hx); simp; omega
    have e1 := drop1_eqv' s ((linesH s).length - 1) rfl
    have hi0 : (0 : Int) ≤ 0 ∧ (0 : Int) < ((linesH s).length : Int) := by omega
    cases hf : tellB (firstH s) with
    | false =>
      have hr := readH_line hsp hf
      have hp : parseR s = (nilR, 3) := by unfold parseR; rw [hr]; rfl
      rw [hp]
      have c2 : Pur Tryz.prog G 46 [.c (.str ((linesH s).getD 0 []))] [.c (.int .i64 (tell13N (firstH s))), .c (.bool false)] := by have := tell13_ok (G := G) (firstH s) (by omega); rw [(tell13B_eq (firstH s)).1, hf] at this; exact this
      clear hr hp hf hsp
      refine Pur.of Tryz.func12 (by kernel_rfl) (by kernel_rfl) (by kernel_rfl) ?_
      refine Wp.go (mx := true) (fun _ => mixed) [(6, {fm := [(0, .agg (encT nilR))]}), (1, {cs := [(1, pc c1)]}), (4, {cs := [(3, pc c2)]})] 100 [false, true] [((0 : Int) != (0 : Int)) = false, (0 : Int) ≤ (0 : Int) ∧ (0 : Int) < (↑(linesH s).length : Int), (!false) = true, EqvI (V1.agg [Cell.int .i64 (0 : Int), Cell.nilsl, Cell.str []]) (V1.agg (encT nilR)), EqvD (V1.agg [Cell.int .i64 (0 : Int), Cell.nilsl, Cell.str []]) (V1.agg (encT nilR))] (by kernel_rfl) (by kernel_rfl) (by kernel_rfl) ⟨rfl, (by omega), rfl, eqvI_flat _ _ (by kernel_rfl), (show EqvD (V1.agg [Cell.int .i64 (0 : Int), Cell.nilsl, Cell.str []]) (V1.agg (encT nilR)) from (by assumption))⟩ ?_
      refine Wp.ret' (by kernel_rfl) ?_
      exact FinQ.pure (rs' := [V1.agg [Cell.int .i64 nilR.status, Cell.sl (2 : Nat) nilR.head.length fun (i j : Nat) => nthD (encF (nilR.head.getD i FT.nil)) j, Cell.str nilR.body], V1.c (Cell.int .i64 (3 : Int))]) (by kernel_rfl) rfl (by kernel_rfl)
    | true =>
      have c2 : Pur Tryz.prog G 46 [.c (.str ((linesH s).getD 0 []))] [.c (.int .i64 (tellN ((linesH s).getD 0 []))), .c (.bool true)] := by have := tell13_ok (G := G) (firstH s) (by omega); rw [(tell13B_eq (firstH s)).1, (tell13B_eq (firstH s)).2 hf, hf] at this; exact this
      have c3 := fields13_ok (G := G) (fieldsL s) hfe hfn
      cases hO : fieldsO (fieldsL s) [] with
      | false =>
        have hr := readH_flds hsp hf hO
        have hp : parseR s = (nilR, 3) := by unfold parseR; rw [hr]; rfl
        rw [hp]
        rw [hO, if_neg (by decide), if_neg (by decide)] at c3
        clear hr hp hf hsp hO
        refine Pur.of Tryz.func12 (by kernel_rfl) (by kernel_rfl) (by kernel_rfl) ?_
        refine Wp.go (mx := true) (fun _ => mixed) [(7, {cs := [(2, pc c3)], fm := [(1, .c (encL (fieldsL s)))]}), (9, {fm := [(0, .agg (encT nilR))]}), (1, {cs := [(1, pc c1)]}), (4, {cs := [(3, pc c2)]})] 100 [false, false, true] [((0 : Int) != (0 : Int)) = false, (0 : Int) ≤ (0 : Int) ∧ (0 : Int) < (↑(linesH s).length : Int), (!true) = false, EqvI (V1.c (Cell.sl (1 : Nat) ((Int.ofNat (linesH s).length).toNat - (1 : Nat)) fun (i j : Nat) => strsF (linesH s) ((1 : Nat) + i) j)) (V1.c (encL (fieldsL s))), EqvD (V1.c (Cell.sl (1 : Nat) ((Int.ofNat (linesH s).length).toNat - (1 : Nat)) fun (i j : Nat) => strsF (linesH s) ((1 : Nat) + i) j)) (V1.c (encL (fieldsL s))), (0 : Int) ≤ Int.ofNat (1) ∧ Int.ofNat (1) ≤ Int.ofNat (linesH s).length ∧ Int.ofNat (linesH s).length ≤ (↑(linesH s).length : Int), ((3 : Int) != (0 : Int)) = true, EqvI (V1.agg [Cell.int .i64 (0 : Int), Cell.nilsl, Cell.str []]) (V1.agg (encT nilR)), EqvD (V1.agg [Cell.int .i64 (0 : Int), Cell.nilsl, Cell.str []]) (V1.agg (encT nilR))] (by kernel_rfl) (by kernel_rfl) (by kernel_rfl) ⟨rfl, (by omega), rfl, fun _ _ => trivial, (by assumption), ⟨(by decide), ⟨(by simp; omega), (by simp; done)⟩⟩, rfl, eqvI_flat _ _ (by kernel_rfl), (show EqvD (V1.agg [Cell.int .i64 (0 : Int), Cell.nilsl, Cell.str []]) (V1.agg (encT nilR)) from (by assumption))⟩ ?_
        refine Wp.ret' (by kernel_rfl) ?_
        exact FinQ.pure (rs' := [V1.agg [Cell.int .i64 nilR.status, Cell.sl (2 : Nat) nilR.head.length fun (i j : Nat) => nthD (encF (nilR.head.getD i FT.nil)) j, Cell.str nilR.body], V1.c (Cell.int .i64 (3 : Int))]) (by kernel_rfl) rfl (by kernel_rfl)
      | true =>
        have hr := readH_end hsp hf hO
        rw [hO, if_pos rfl, if_pos rfl] at c3
        have hA : (fieldsA (fieldsL s) []).length < 1000000 := by
          have := fA_len (fieldsL s) []
          unfold fieldsL at *
          rw [List.length_drop, List.length_nil] at this
          omega
        by_cases he : bodyE (fieldsA (fieldsL s) []) (hdC s).2.1 = 0
        · rw [if_pos he] at hr
          have c4 := body13_0 (G := G) _ _ hA (by omega) (by omega) he
          have hp : parseR s = (⟨tellN (firstH s), (fieldsA (fieldsL s) []).filter notCl, (hdC s).2.1⟩, 0) := by unfold parseR; rw [hr]; rfl
          rw [hp]
          unfold firstH
          generalize fieldsA (fieldsL s) [] = A at *
          clear hr hp hf hsp hO he
          refine Pur.of Tryz.func12 (by kernel_rfl) (by kernel_rfl) (by kernel_rfl) ?_
          refine Wp.go (mx := true) (fun _ => mixed) [(7, {cs := [(2, pc c3)], fm := [(1, .c (encL (fieldsL s)))]}), (1, {cs := [(1, pc c1)]}), (4, {cs := [(3, pc c2)]}), (10, {cs := [(3, pc c4)]})] 100 [false, false, false, false] [((0 : Int) != (0 : Int)) = false, (0 : Int) ≤ (0 : Int) ∧ (0 : Int) < (↑(linesH s).length : Int), (!true) = false, EqvI (V1.c (Cell.sl (1 : Nat) ((Int.ofNat (linesH s).length).toNat - (1 : Nat)) fun (i j : Nat) => strsF (linesH s) ((1 : Nat) + i) j)) (V1.c (encL (fieldsL s))), EqvD (V1.c (Cell.sl (1 : Nat) ((Int.ofNat (linesH s).length).toNat - (1 : Nat)) fun (i j : Nat) => strsF (linesH s) ((1 : Nat) + i) j)) (V1.c (encL (fieldsL s))), (0 : Int) ≤ Int.ofNat (1) ∧ Int.ofNat (1) ≤ Int.ofNat (linesH s).length ∧ Int.ofNat (linesH s).length ≤ (↑(linesH s).length : Int), ((0 : Int) != (0 : Int)) = false, ((0 : Int) != (0 : Int)) = false] (by kernel_rfl) (by kernel_rfl) (by kernel_rfl) ⟨rfl, (by omega), rfl, fun _ _ => trivial, (by assumption), ⟨(by decide), ⟨(by simp; omega), (by simp; done)⟩⟩, rfl, rfl⟩ ?_
          refine Wp.ret' (by kernel_rfl) ?_
          exact FinQ.pure (rs' := [V1.agg [Cell.int .i64 (tellN ((linesH s).getD (0 : Nat) [])), Cell.sl (2 : Nat) (List.filter notCl A).length fun (i j : Nat) => nthD (encF ((List.filter notCl A).getD i FT.nil)) j, Cell.str (hdC s).2.fst], V1.c (Cell.int .i64 (0 : Int))]) (by kernel_rfl) rfl (by kernel_rfl)
        · rw [if_neg he] at hr
          have c4 := body13_e (G := G) _ _ hA (by omega) (by omega) he
          have hp : parseR s = (nilR, bodyE (fieldsA (fieldsL s) []) (hdC s).2.1) := by unfold parseR; rw [hr, if_neg he]
          rw [hp]
          have ht : (bodyE (fieldsA (fieldsL s) []) (hdC s).2.1 != 0) = true := bne_iff_ne.2 he
          generalize bodyE (fieldsA (fieldsL s) []) (hdC s).2.1 = e at *
          generalize fieldsA (fieldsL s) [] = A at *
          clear hr hp hf hsp hO he
          refine Pur.of Tryz.func12 (by kernel_rfl) (by kernel_rfl) (by kernel_rfl) ?_
          refine Wp.go (mx := true) (fun _ => mixed) [(7, {cs := [(2, pc c3)], fm := [(1, .c (encL (fieldsL s)))]}), (12, {fm := [(0, .agg (encT nilR))]}), (1, {cs := [(1, pc c1)]}), (4, {cs := [(3, pc c2)]}), (10, {cs := [(3, pc c4)]})] 100 [false, false, false, true] [((0 : Int) != (0 : Int)) = false, (0 : Int) ≤ (0 : Int) ∧ (0 : Int) < (↑(linesH s).length : Int), (!true) = false, EqvI (V1.c (Cell.sl (1 : Nat) ((Int.ofNat (linesH s).length).toNat - (1 : Nat)) fun (i j : Nat) => strsF (linesH s) ((1 : Nat) + i) j)) (V1.c (encL (fieldsL s))), EqvD (V1.c (Cell.sl (1 : Nat) ((Int.ofNat (linesH s).length).toNat - (1 : Nat)) fun (i j : Nat) => strsF (linesH s) ((1 : Nat) + i) j)) (V1.c (encL (fieldsL s))), (0 : Int) ≤ Int.ofNat (1) ∧ Int.ofNat (1) ≤ Int.ofNat (linesH s).length ∧ Int.ofNat (linesH s).length ≤ (↑(linesH s).length : Int), ((0 : Int) != (0 : Int)) = false, (e != (0 : Int)) = true, EqvI (V1.agg [Cell.int .i64 (0 : Int), Cell.nilsl, Cell.str []]) (V1.agg (encT nilR)), EqvD (V1.agg [Cell.int .i64 (0 : Int), Cell.nilsl, Cell.str []]) (V1.agg (encT nilR))] (by kernel_rfl) (by kernel_rfl) (by kernel_rfl) ⟨rfl, (by omega), rfl, fun _ _ => trivial, (by assumption), ⟨(by decide), ⟨(by simp; omega), (by simp; done)⟩⟩, rfl, (by assumption), eqvI_flat _ _ (by kernel_rfl), (show EqvD (V1.agg [Cell.int .i64 (0 : Int), Cell.nilsl, Cell.str []]) (V1.agg (encT nilR)) from (by assumption))⟩ ?_
          refine Wp.ret' (by kernel_rfl) ?_
          exact FinQ.pure (rs' := [V1.agg [Cell.int .i64 nilR.status, Cell.sl (2 : Nat) nilR.head.length fun (i j : Nat) => nthD (encF (nilR.head.getD i FT.nil)) j, Cell.str nilR.body], V1.c (Cell.int .i64 e)]) (by kernel_rfl) rfl (by kernel_rfl)
def sameQ (a b : QT) : Bool := cond (cond (cond (a.method == b.method) (a.target == b.target) false) (sameF a.head b.head) false) (a.body == b.body) false
theorem sameQ_ok (a b : QT) (ha : a.head.length < 4611686018427387904) : Pur Tryz.prog G 13 [.agg (encQ a), .agg (encQ b)] [.c (.bool (sameQ a b))] := by
  refine Pur.of Tryz.func13 (by kernel_rfl) (by kernel_rfl) (by kernel_rfl) ?_
  have c := same_ok (G := G) a.head b.head ha
  unfold sameQ
  refine Wp.go (mx := true) (fun _ => mixed) [(1, {cs := [(17, pc c)]})] 100 [] [] (by kernel_rfl) (by kernel_rfl) (by kernel_rfl) trivial ?_
  refine Wp.ret' (by kernel_rfl) ?_
  exact FinQ.pure (rs' := [V1.c (Cell.bool (bif bif bif a.method == b.method then a.target == b.target else false then sameF a.head b.head else false then a.body == b.body else false))]) (by kernel_rfl) rfl (by kernel_rfl)
theorem sameQ_refl (a : QT) : sameQ a a = true := by unfold sameQ; rw [sameF_refl]; simp
end Go.Proofs.Tw
end

section
open Go Go.Sv Go.RowKit
namespace Go.Proofs.Tw
attribute [local irreducible] Wp FinQ resV Ent Pur Go.Sv.Fn Sat0
set_option maxRecDepth 100000
set_option maxHeartbeats 4000000
variable {G : Nat → Option (List Cell)}

/-! may it be, and how it is written -/
def askedM (r : QT) : MT := ⟨r.method ++ [32] ++ r.target ++ [32] ++ httpV, r.head, r.body⟩
theorem asked_ok (r : QT) (h1 : r.method.length < 1000000000) (h2 : r.target.length < 1000000000) : Pur Tryz.prog G 51 [.agg (encQ r)] [.agg (encM (askedM r) ++ encQ r)] := by
  refine Pur.of Tryz.func51 (by kernel_rfl) (by kernel_rfl) (by kernel_rfl) ?_
  have q1 : r.method.length + 1 ≤ 9223372036854775807 := by omega
  have q2 : (r.method ++ [32]).length + r.target.length ≤ 9223372036854775807 := by simp; omega
  have q3 : (r.method ++ [32] ++ r.target).length + 1 ≤ 9223372036854775807 := by simp; omega
  have q4 : (r.method ++ [32] ++ r.target ++ [32]).length + 8 ≤ 9223372036854775807 := by simp; omega
  refine Wp.go (mx := true) (fun _ => mixed) [] 100 [] [r.method.length + (1 : Nat) ≤ (9223372036854775807 : Nat), (r.method ++ [(32 : UInt8)]).length + r.target.length ≤ (9223372036854775807 : Nat), (r.method ++ [(32 : UInt8)] ++ r.target).length + (1 : Nat) ≤ (9223372036854775807 : Nat), (r.method ++ [(32 : UInt8)] ++ r.target ++ [(32 : UInt8)]).length + (8 : Nat) ≤ (9223372036854775807 : Nat)] (by kernel_rfl) (by kernel_rfl) (by kernel_rfl) ⟨(by assumption), (by assumption), (by assumption), (show (r.method ++ [(32 : UInt8)] ++ r.target ++ [(32 : UInt8)]).length + (8 : Nat) ≤ (9223372036854775807 : Nat) from (by assumption))⟩ ?_
  refine Wp.ret' (by kernel_rfl) ?_
  exact FinQ.pure (rs' := [V1.agg [Cell.str (r.method ++ [(32 : UInt8)] ++ r.target ++ [(32 : UInt8)] ++ [(72 : UInt8), 84, 84, 80, 47, 49, 46, 49]), Cell.sl (2 : Nat) r.head.length fun (i j : Nat) => nthD (encF (r.head.getD i FT.nil)) j, Cell.str r.body, Cell.str r.method, Cell.str r.target, Cell.sl (2 : Nat) r.head.length fun (i j : Nat) => nthD (encF (r.head.getD i FT.nil)) j, Cell.str r.body]]) (by kernel_rfl) rfl (by kernel_rfl)
def mayAskT (r : QT) : Bool := bif linedT r.method r.target then mayM (askedM r) else false
structure FitQ (r : QT) : Prop where
  h1 : r.method.length < 1000000000
  h2 : r.target.length < 1000000000
  h3 : FitM (askedM r)
theorem mayAsk_ok (hp : HasPow G) (r : QT) (h : FitQ r) : Pur Tryz.prog G 17 [.agg (encQ r)] [.c (.bool (mayAskT r))] := by
  refine Pur.of Tryz.func17 (by kernel_rfl) (by kernel_rfl) (by kernel_rfl) ?_
  have c1 := lined_ok (G := G) r.method r.target (Nat.lt_trans h.h1 (by decide)) (Nat.lt_trans h.h2 (by decide))
  have c2 := asked_ok (G := G) r h.h1 h.h2
  have c3 := mayM_ok hp (askedM r) h.h3
  unfold mayAskT
  refine Wp.go (mx := true) (fun _ => mixed) [(1, {cs := [(4, pc c1), (7, pc c2), (9, pc c3)]})] 100 [] [] (by kernel_rfl) (by kernel_rfl) (by kernel_rfl) trivial ?_
  refine Wp.ret' (by kernel_rfl) ?_
  exact FinQ.pure (rs' := [V1.c (Cell.bool (bif linedT r.method r.target then mayM (askedM r) else false))]) (by kernel_rfl) rfl (by kernel_rfl)
def printAskT (r : QT) : List UInt8 := if mayAskT r then aheadT (askedM r) ++ r.body else []
theorem printAsk_ok (hp : HasPow G) (r : QT) (h : FitQ r) : Pur Tryz.prog G 19 [.agg (encQ r)] [.c (.str (printAskT r))] := by
  refine Pur.of Tryz.func19 (by kernel_rfl) (by kernel_rfl) (by kernel_rfl) ?_
  have c1 := mayAsk_ok hp r h
  have c2 := asked_ok (G := G) r h.h1 h.h2
  have c3 : Pur Tryz.prog G 58 [.agg (encM (askedM r))] [.c (.str (aheadT (askedM r) ++ r.body))] := printM_ok hp (askedM r) h.h3
  unfold printAskT
  generalize aheadT (askedM r) ++ r.body = S at c3 ⊢
  cases hm : mayAskT r with
  | true =>
    rw [if_pos rfl]
    rw [hm] at c1
    clear hm
    refine Wp.go (mx := true) (fun _ => mixed) [(1, {cs := [(1, pc c1)]}), (3, {cs := [(1, pc c2), (3, pc c3)]})] 100 [false] [(!true) = false] (by kernel_rfl) (by kernel_rfl) (by kernel_rfl) rfl ?_
    refine Wp.ret' (by kernel_rfl) ?_
    exact FinQ.pure (rs' := [V1.c (Cell.str S)]) (by kernel_rfl) rfl (by kernel_rfl)
  | false =>
    rw [if_neg (by decide)]
    rw [hm] at c1
    clear hm
    refine Wp.go (mx := true) (fun _ => mixed) [(1, {cs := [(1, pc c1)]})] 100 [true] [(!false) = true] (by kernel_rfl) (by kernel_rfl) (by kernel_rfl) rfl ?_
    refine Wp.ret' (by kernel_rfl) ?_
    exact FinQ.pure (rs' := [V1.c (Cell.str [])]) (by kernel_rfl) rfl (by kernel_rfl)
theorem mayTell_any (hp : HasPow G) (r : RT) (h : 0 ≤ r.status → r.status ≤ 1000 → FitM (toldM r)) : Pur Tryz.prog G 21 [.agg (encT r)] [.c (.bool (mayTell r))] := by
  cases hs : statedT r.status with
  | true =>
    have hs' := hs
    unfold statedT at hs'
    rw [Bool.cond_false_right, Bool.and_eq_true, decide_eq_true_eq, decide_eq_true_eq] at hs'
    exact mayTell_ok hp r (by omega) (by omega) (h (by omega) (by omega))
  | false =>
    refine Pur.of Tryz.func21 (by kernel_rfl) (by kernel_rfl) (by kernel_rfl) ?_
    have c := stated_ok (G := G) r.status
    rw [show mayTell r = false from by unfold mayTell; rw [hs]; rfl]
    rw [hs] at c
    clear hs
    refine Wp.go (mx := true) (fun _ => mixed) [(1, {grd := [(4, false), (5, false), (6, false), (7, false), (8, false)], cs := [(2, pc c)]})] 100 [] [false = !true, false = !true, false = !true, false = !true, false = false] (by kernel_rfl) (by kernel_rfl) (by kernel_rfl) ⟨rfl, rfl, rfl, rfl, rfl⟩ ?_
    refine Wp.ret' (by kernel_rfl) ?_
    exact FinQ.pure (rs' := [V1.c (Cell.bool false)]) (by kernel_rfl) rfl (by kernel_rfl)
theorem printTell_any (hp : HasPow G) (r : RT) (h : 0 ≤ r.status → r.status ≤ 1000 → FitM (toldM r)) : Pur Tryz.prog G 23 [.agg (encT r)] [.c (.str (printTell r))] := by
  cases hs : statedT r.status with
  | true =>
    have hs' := hs
    unfold statedT at hs'
    rw [Bool.cond_false_right, Bool.and_eq_true, decide_eq_true_eq, decide_eq_true_eq] at hs'
    exact printTell_ok hp r (by omega) (by omega) (h (by omega) (by omega))
  | false =>
    refine Pur.of Tryz.func23 (by kernel_rfl) (by kernel_rfl) (by kernel_rfl) ?_
    have c := mayTell_any hp r h
    have hm : mayTell r = false := by unfold mayTell; rw [hs]; rfl
    rw [show printTell r = [] from by unfold printTell; rw [hm]; rfl]
    rw [hm] at c
    clear hs hm
    refine Wp.go (mx := true) (fun _ => mixed) [(1, {cs := [(1, pc c)]})] 100 [true] [(!false) = true] (by kernel_rfl) (by kernel_rfl) (by kernel_rfl) rfl ?_
    refine Wp.ret' (by kernel_rfl) ?_
    exact FinQ.pure (rs' := [V1.c (Cell.str [])]) (by kernel_rfl) rfl (by kernel_rfl)
/-! the same, as the document says it -/
def okF (f : FT) : Bool := tokenT f.name && ((foldT f.name == f.name) && (!(f.name == clN) && f.value.all seenB))
def mostT (b : List UInt8) : Int := if b == [] then 24 else 23
def headT (l : List FT) (b : List UInt8) : Bool := l.all okF && (decide ((l.length : Int) ≤ mostT b) && (unlikeQ l && decide ((b.length : Int) ≤ 4096)))
theorem okF_b (t f c s : Bool) : (bif bif bif !t then true else !f then true else c then true else !s) = !(t && (f && (!c && s))) := by
  cases t <;> cases f <;> cases c <;> cases s <;> rfl
theorem head13_ok (l : List FT) (b : List UInt8) (hl : l.length < 1000000000) (hs : ∀ f ∈ l, f.name.length < 1000000000 ∧ f.value.length < 1000000000) : Pur Tryz.prog G 55 [.c (encH l), .c (.str b)] [.c (.bool (headT l b))] := by
  refine Pur.of Tryz.func55 (by kernel_rfl) (by kernel_rfl) (by kernel_rfl) ?_
  have c0 := unlike10_ok (G := G) l (by omega)
  cases hbe : b == [] with
  | true =>
    have ht : (!(b == [])) = false := by rw [hbe]; rfl
    have hm : mostT b = 24 := by unfold mostT; rw [if_pos hbe]
    refine Wp.go (mx := true) (fun _ => mixed) [] 100 [false] [(!b == []) = false] (by kernel_rfl) (by kernel_rfl) (by kernel_rfl) ht ?_
    refine Wp.loopK (by kernel_rfl) (fun (k : Nat) => ⟨[(0, .v (.c (encH l))), (1, .v (.c (.str b))), (5, .v (.c (.int .i64 24))), (6, .v (.c (.int .i64 (k : Int))))], [], 80⟩) (fun k => k ≤ l.length ∧ l.all okF = (l.drop k).all okF) (fun k => l.length - k) 0 (Ent.of [] (by kernel_rfl) (by kernel_rfl) (by kernel_rfl) trivial) ⟨Nat.zero_le _, rfl⟩ ?_
    intro k L ⟨hk, hq⟩ again
    rcases Nat.lt_or_ge k l.length with hlt | hge
    · rw [dropM l .nil k hlt, List.all_cons] at hq
      have hmem : l.getD k .nil ∈ l := by simp [List.getD, hlt]
      obtain ⟨s1, s2⟩ := hs _ hmem
      have c1 := token6_ok (G := G) (l.getD k .nil).name (by omega)
      have c2 := fold6_ok (G := G) (l.getD k .nil).name (by omega)
      have c3 := seen6_ok (G := G) (l.getD k .nil).value (by omega)
      have hb := okF_b (tokenT (l.getD k .nil).name) (foldT (l.getD k .nil).name == (l.getD k .nil).name) ((l.getD k .nil).name == clN) ((l.getD k .nil).value.all seenB)
      cases ho : okF (l.getD k .nil) with
      | true =>
        rw [ho, Bool.true_and] at hq
        unfold okF at ho
        rw [ho] at hb
        have hb : (bif bif bif !tokenT (l.getD k .nil).name then true else !(foldT (l.getD k .nil).name == (l.getD k .nil).name) then true else ((l.getD k .nil).name == clN) then true else !((l.getD k .nil).value.all seenB)) = false := hb
        clear ho
        refine Wp.go (mx := true) (fun _ => mixed) [(7, {cs := [(5, pc c1), (13, pc c2), (35, pc c3)]})] 100 [true, false] [decide ((↑k : Int) < (↑l.length : Int)) = true, (0 : Int) ≤ (↑k : Int) ∧ (↑k : Int) < (↑l.length : Int), (!tokenT (l.getD k FT.nil).name) = false → (0 : Int) ≤ (↑k : Int) ∧ (↑k : Int) < (↑l.length : Int), (!tokenT (l.getD k FT.nil).name) = false → (0 : Int) ≤ (↑k : Int) ∧ (↑k : Int) < (↑l.length : Int), (bif !tokenT (l.getD k FT.nil).name then true else !foldT (l.getD k FT.nil).name == (l.getD k FT.nil).name) = false → (0 : Int) ≤ (↑k : Int) ∧ (↑k : Int) < (↑l.length : Int), (bif bif !tokenT (l.getD k FT.nil).name then true else !foldT (l.getD k FT.nil).name == (l.getD k FT.nil).name then true else (l.getD k FT.nil).name == [(99 : UInt8), 111, 110, 116, 101, 110, 116, 45, 108, 101, 110, 103, 116, 104]) = false → (0 : Int) ≤ (↑k : Int) ∧ (↑k : Int) < (↑l.length : Int), (bif bif bif !tokenT (l.getD k FT.nil).name then true else !foldT (l.getD k FT.nil).name == (l.getD k FT.nil).name then true else (l.getD k FT.nil).name == [(99 : UInt8), 111, 110, 116, 101, 110, 116, 45, 108, 101, 110, 103, 116, 104] then true else !(l.getD k FT.nil).value.all seenB) = false, inR IntKind.i64 ((↑k : Int) + (1 : Int))] (by kernel_rfl) (by kernel_rfl) (by kernel_rfl) ⟨(by simp; omega), (by omega), (by omega), (by omega), (by omega), (by omega), (by assumption), inR64 (by omega) (by omega)⟩ ?_
        exact Wp.lpK (by kernel_rfl) (again _ (k + 1) ⟨(by assumption), (by assumption)⟩ (by omega) (Ent.of [] (by kernel_rfl) (by kernel_rfl) (by kernel_rfl) trivial))
      | false =>
        rw [ho, Bool.false_and] at hq
        unfold okF at ho
        rw [ho] at hb
        have hb : (bif bif bif !tokenT (l.getD k .nil).name then true else !(foldT (l.getD k .nil).name == (l.getD k .nil).name) then true else ((l.getD k .nil).name == clN) then true else !((l.getD k .nil).value.all seenB)) = true := hb
        rw [show headT l b = false from by unfold headT; rw [hq]; rfl]
        clear ho hq again
        refine Wp.go (mx := true) (fun _ => mixed) [(7, {cs := [(5, pc c1), (13, pc c2), (35, pc c3)]})] 100 [true, true] [decide ((↑k : Int) < (↑l.length : Int)) = true, (0 : Int) ≤ (↑k : Int) ∧ (↑k : Int) < (↑l.length : Int), (!tokenT (l.getD k FT.nil).name) = false → (0 : Int) ≤ (↑k : Int) ∧ (↑k : Int) < (↑l.length : Int), (!tokenT (l.getD k FT.nil).name) = false → (0 : Int) ≤ (↑k : Int) ∧ (↑k : Int) < (↑l.length : Int), (bif !tokenT (l.getD k FT.nil).name then true else !foldT (l.getD k FT.nil).name == (l.getD k FT.nil).name) = false → (0 : Int) ≤ (↑k : Int) ∧ (↑k : Int) < (↑l.length : Int), (bif bif !tokenT (l.getD k FT.nil).name then true else !foldT (l.getD k FT.nil).name == (l.getD k FT.nil).name then true else (l.getD k FT.nil).name == [(99 : UInt8), 111, 110, 116, 101, 110, 116, 45, 108, 101, 110, 103, 116, 104]) = false → (0 : Int) ≤ (↑k : Int) ∧ (↑k : Int) < (↑l.length : Int), (bif bif bif !tokenT (l.getD k FT.nil).name then true else !foldT (l.getD k FT.nil).name == (l.getD k FT.nil).name then true else (l.getD k FT.nil).name == [(99 : UInt8), 111, 110, 116, 101, 110, 116, 45, 108, 101, 110, 103, 116, 104] then true else !(l.getD k FT.nil).value.all seenB) = true] (by kernel_rfl) (by kernel_rfl) (by kernel_rfl) ⟨(by simp; omega), (by omega), (by omega), (by omega), (by omega), (by omega), (show (bif bif bif !tokenT (l.getD k FT.nil).name then true else !foldT (l.getD k FT.nil).name == (l.getD k FT.nil).name then true else (l.getD k FT.nil).name == [(99 : UInt8), 111, 110, 116, 101, 110, 116, 45, 108, 101, 110, 103, 116, 104] then true else !(l.getD k FT.nil).value.all seenB) = true from (by assumption))⟩ ?_
        refine Wp.ret' (by kernel_rfl) ?_
        exact FinQ.pure (rs' := [V1.c (Cell.bool false)]) (by kernel_rfl) rfl (by kernel_rfl)
    · rw [List.drop_of_length_le hge, List.all_nil] at hq
      rw [show headT l b = (bif bif decide ((l.length : Int) ≤ 24) then unlikeQ l else false then decide ((b.length : Int) ≤ 4096) else false) from by unfold headT; rw [hq, hm]; cases decide ((l.length : Int) ≤ 24) <;> cases unlikeQ l <;> rfl]
      clear hq again
      refine Wp.go (mx := true) (fun _ => mixed) [(9, {cs := [(6, pc c0)]})] 100 [false] [decide ((↑k : Int) < (↑l.length : Int)) = false] (by kernel_rfl) (by kernel_rfl) (by kernel_rfl) (show decide ((↑k : Int) < (↑l.length : Int)) = false from (by simp; omega)) ?_
      refine Wp.ret' (by kernel_rfl) ?_
      exact FinQ.pure (rs' := [V1.c (Cell.bool (bif bif decide ((↑l.length : Int) ≤ (24 : Int)) then unlikeQ l else false then decide ((↑b.length : Int) ≤ (4096 : Int)) else false))]) (by kernel_rfl) rfl (by kernel_rfl)
  | false =>
    have ht : (!(b == [])) = true := by rw [hbe]; rfl
    have hm : mostT b = 23 := by unfold mostT; rw [hbe]; rfl
    refine Wp.go (mx := true) (fun _ => mixed) [] 100 [true] [(!b == []) = true, inR IntKind.i64 ((24 : Int) - (1 : Int))] (by kernel_rfl) (by kernel_rfl) (by kernel_rfl) ⟨ht, inR64 (by decide) (by decide)⟩ ?_
    refine Wp.loopK (by kernel_rfl) (fun (k : Nat) => ⟨[(0, .v (.c (encH l))), (1, .v (.c (.str b))), (5, .v (.c (.int .i64 ((24 : Int) - 1)))), (6, .v (.c (.int .i64 (k : Int))))], [], 128⟩) (fun k => k ≤ l.length ∧ l.all okF = (l.drop k).all okF) (fun k => l.length - k) 0 (Ent.of [] (by kernel_rfl) (by kernel_rfl) (by kernel_rfl) trivial) ⟨Nat.zero_le _, rfl⟩ ?_
    intro k L ⟨hk, hq⟩ again
    rcases Nat.lt_or_ge k l.length with hlt | hge
    · rw [dropM l .nil k hlt, List.all_cons] at hq
      have hmem : l.getD k .nil ∈ l := by simp [List.getD, hlt]
      obtain ⟨s1, s2⟩ := hs _ hmem
      have c1 := token6_ok (G := G) (l.getD k .nil).name (by omega)
      have c2 := fold6_ok (G := G) (l.getD k .nil).name (by omega)
      have c3 := seen6_ok (G := G) (l.getD k .nil).value (by omega)
      have hb := okF_b (tokenT (l.getD k .nil).name) (foldT (l.getD k .nil).name == (l.getD k .nil).name) ((l.getD k .nil).name == clN) ((l.getD k .nil).value.all seenB)
      cases ho : okF (l.getD k .nil) with
      | true =>
        rw [ho, Bool.true_and] at hq
        unfold okF at ho
        rw [ho] at hb
        have hb : (bif bif bif !tokenT (l.getD k .nil).name then true else !(foldT (l.getD k .nil).name == (l.getD k .nil).name) then true else ((l.getD k .nil).name == clN) then true else !((l.getD k .nil).value.all seenB)) = false := hb
        clear ho
        refine Wp.go (mx := true) (fun _ => mixed) [(7, {cs := [(5, pc c1), (13, pc c2), (35, pc c3)]})] 100 [true, false] [decide ((↑k : Int) < (↑l.length : Int)) = true, (0 : Int) ≤ (↑k : Int) ∧ (↑k : Int) < (↑l.length : Int), (!tokenT (l.getD k FT.nil).name) = false → (0 : Int) ≤ (↑k : Int) ∧ (↑k : Int) < (↑l.length : Int), (!tokenT (l.getD k FT.nil).name) = false → (0 : Int) ≤ (↑k : Int) ∧ (↑k : Int) < (↑l.length : Int), (bif !tokenT (l.getD k FT.nil).name then true else !foldT (l.getD k FT.nil).name == (l.getD k FT.nil).name) = false → (0 : Int) ≤ (↑k : Int) ∧ (↑k : Int) < (↑l.length : Int), (bif bif !tokenT (l.getD k FT.nil).name then true else !foldT (l.getD k FT.nil).name == (l.getD k FT.nil).name then true else (l.getD k FT.nil).name == [(99 : UInt8), 111, 110, 116, 101, 110, 116, 45, 108, 101, 110, 103, 116, 104]) = false → (0 : Int) ≤ (↑k : Int) ∧ (↑k : Int) < (↑l.length : Int), (bif bif bif !tokenT (l.getD k FT.nil).name then true else !foldT (l.getD k FT.nil).name == (l.getD k FT.nil).name then true else (l.getD k FT.nil).name == [(99 : UInt8), 111, 110, 116, 101, 110, 116, 45, 108, 101, 110, 103, 116, 104] then true else !(l.getD k FT.nil).value.all seenB) = false, inR IntKind.i64 ((↑k : Int) + (1 : Int))] (by kernel_rfl) (by kernel_rfl) (by kernel_rfl) ⟨(by simp; omega), (by omega), (by omega), (by omega), (by omega), (by omega), (by assumption), inR64 (by omega) (by omega)⟩ ?_
        exact Wp.lpK (by kernel_rfl) (again _ (k + 1) ⟨(by assumption), (by assumption)⟩ (by omega) (Ent.of [] (by kernel_rfl) (by kernel_rfl) (by kernel_rfl) trivial))
      | false =>
        rw [ho, Bool.false_and] at hq
        unfold okF at ho
        rw [ho] at hb
        have hb : (bif bif bif !tokenT (l.getD k .nil).name then true else !(foldT (l.getD k .nil).name == (l.getD k .nil).name) then true else ((l.getD k .nil).name == clN) then true else !((l.getD k .nil).value.all seenB)) = true := hb
        rw [show headT l b = false from by unfold headT; rw [hq]; rfl]
        clear ho hq again
        refine Wp.go (mx := true) (fun _ => mixed) [(7, {cs := [(5, pc c1), (13, pc c2), (35, pc c3)]})] 100 [true, true] [decide ((↑k : Int) < (↑l.length : Int)) = true, (0 : Int) ≤ (↑k : Int) ∧ (↑k : Int) < (↑l.length : Int), (!tokenT (l.getD k FT.nil).name) = false → (0 : Int) ≤ (↑k : Int) ∧ (↑k : Int) < (↑l.length : Int), (!tokenT (l.getD k FT.nil).name) = false → (0 : Int) ≤ (↑k : Int) ∧ (↑k : Int) < (↑l.length : Int), (bif !tokenT (l.getD k FT.nil).name then true else !foldT (l.getD k FT.nil).name == (l.getD k FT.nil).name) = false → (0 : Int) ≤ (↑k : Int) ∧ (↑k : Int) < (↑l.length : Int), (bif bif !tokenT (l.getD k FT.nil).name then true else !foldT (l.getD k FT.nil).name == (l.getD k FT.nil).name then true else (l.getD k FT.nil).name == [(99 : UInt8), 111, 110, 116, 101, 110, 116, 45, 108, 101, 110, 103, 116, 104]) = false → (0 : Int) ≤ (↑k : Int) ∧ (↑k : Int) < (↑l.length : Int), (bif bif bif !tokenT (l.getD k FT.nil).name then true else !foldT (l.getD k FT.nil).name == (l.getD k FT.nil).name then true else (l.getD k FT.nil).name == [(99 : UInt8), 111, 110, 116, 101, 110, 116, 45, 108, 101, 110, 103, 116, 104] then true else !(l.getD k FT.nil).value.all seenB) = true] (by kernel_rfl) (by kernel_rfl) (by kernel_rfl) ⟨(by simp; omega), (by omega), (by omega), (by omega), (by omega), (by omega), (show (bif bif bif !tokenT (l.getD k FT.nil).name then true else !foldT (l.getD k FT.nil).name == (l.getD k FT.nil).name then true else (l.getD k FT.nil).name == [(99 : UInt8), 111, 110, 116, 101, 110, 116, 45, 108, 101, 110, 103, 116, 104] then true else !(l.getD k FT.nil).value.all seenB) = true from (by assumption))⟩ ?_
        refine Wp.ret' (by kernel_rfl) ?_
        exact FinQ.pure (rs' := [V1.c (Cell.bool false)]) (by kernel_rfl) rfl (by kernel_rfl)
    · rw [List.drop_of_length_le hge, List.all_nil] at hq
      rw [show headT l b = (bif bif decide ((l.length : Int) ≤ (24 : Int) - 1) then unlikeQ l else false then decide ((b.length : Int) ≤ 4096) else false) from by unfold headT; rw [hq, hm, show (24 : Int) - 1 = 23 from rfl]; cases decide ((l.length : Int) ≤ 23) <;> cases unlikeQ l <;> rfl]
      clear hq again
      refine Wp.go (mx := true) (fun _ => mixed) [(9, {cs := [(6, pc c0)]})] 100 [false] [decide ((↑k : Int) < (↑l.length : Int)) = false] (by kernel_rfl) (by kernel_rfl) (by kernel_rfl) (show decide ((↑k : Int) < (↑l.length : Int)) = false from (by simp; omega)) ?_
      refine Wp.ret' (by kernel_rfl) ?_
      exact FinQ.pure (rs' := [V1.c (Cell.bool (bif bif decide ((↑l.length : Int) ≤ (24 : Int) - (1 : Int)) then unlikeQ l else false then decide ((↑b.length : Int) ≤ (4096 : Int)) else false))]) (by kernel_rfl) rfl (by kernel_rfl)
def hdN (l : List FT) (k : Nat) : List UInt8 := (l.take k).flatMap fieldL
theorem hdN_succ (l : List FT) (k : Nat) (h : k < l.length) : hdN l (k + 1) = hdN l k ++ fieldL (l.getD k .nil) := by
  unfold hdN
  rw [List.take_succ_eq_append_getElem h, List.flatMap_append, List.getD_eq_getElem?_getD, List.getElem?_eq_getElem h]
  simp
theorem hdN_le (l : List FT) (k : Nat) : (hdN l k).length ≤ (l.flatMap fieldL).length := by
  unfold hdN
  conv => rhs; rw [← List.take_append_drop k l, List.flatMap_append, List.length_append]
  omega
def clL (b : List UInt8) : List UInt8 := if b == [] then [] else [99, 111, 110, 116, 101, 110, 116, 45, 108, 101, 110, 103, 116, 104, 58, 32] ++ Lib.itoa b.length ++ [13, 10]
def linesT (l : List FT) (b : List UInt8) : List UInt8 := l.flatMap fieldL ++ clL b ++ [13, 10]
theorem ahead_lines (m : MT) : aheadT m = m.first ++ [13, 10] ++ linesT m.head m.body := by
  unfold aheadT headN linesT lenL clL
  rw [List.take_length]
  simp
theorem lines13_ok (l : List FT) (b : List UInt8) (hn : l.length < 1000000000) (hb : b.length < 1000000000) (hl : (linesT l b).length ≤ 100000000000000) : Pur Tryz.prog G 57 [.c (encH l), .c (.str b)] [.c (.str (linesT l b))] := by
  refine Pur.of Tryz.func57 (by kernel_rfl) (by kernel_rfl) (by kernel_rfl) ?_
  have hL1 : (l.flatMap fieldL).length + (clL b).length + 2 ≤ 100000000000000 := by
    unfold linesT at hl
    simp only [List.length_append] at hl
    exact hl
  refine Wp.go (mx := true) (fun _ => mixed) [] 100 [] [] (by kernel_rfl) (by kernel_rfl) (by kernel_rfl) trivial ?_
  refine Wp.loopK (by kernel_rfl) (fun (x : Nat × List UInt8) => ⟨[(0, .v (.c (encH l))), (1, .v (.c (.str b))), (5, .v (.c (.str x.2))), (6, .v (.c (.int .i64 (x.1 : Int))))], [], 48⟩) (fun x => x.1 ≤ l.length ∧ x.2 = hdN l x.1) (fun x => l.length - x.1) (0, []) (Ent.of [] (by kernel_rfl) (by kernel_rfl) (by kernel_rfl) trivial) ⟨Nat.zero_le _, rfl⟩ ?_
  rintro ⟨k, s⟩ L ⟨hk, hq⟩ again
  simp only at hk hq
  rcases Nat.lt_or_ge k l.length with hlt | hge
  · have hsu := hdN_succ l k hlt
    have hle := hdN_le l (k + 1)
    rw [hsu, List.length_append, field_len, ← hq] at hle
    have hq2 : s ++ (l.getD k .nil).name ++ [58, 32] ++ (l.getD k .nil).value ++ [13, 10] = hdN l (k + 1) := by rw [hsu, ← hq]; unfold fieldL; simp
    have q1 : s.length + (l.getD k .nil).name.length ≤ 9223372036854775807 := by omega
    have q2 : (s ++ (l.getD k .nil).name).length + 2 ≤ 9223372036854775807 := by simp only [List.length_append]; omega
    have q3 : (s ++ (l.getD k .nil).name ++ [58, 32]).length + (l.getD k .nil).value.length ≤ 9223372036854775807 := by simp only [List.length_append, List.length_cons, List.length_nil]; omega
    have q4 : (s ++ (l.getD k .nil).name ++ [58, 32] ++ (l.getD k .nil).value).length + 2 ≤ 9223372036854775807 := by simp only [List.length_append, List.length_cons, List.length_nil]; omega
    clear hq hsu
    refine Wp.go (mx := true) (fun _ => mixed) [] 100 [true] [decide ((↑k : Int) < (↑l.length : Int)) = true, (0 : Int) ≤ (↑k : Int) ∧ (↑k : Int) < (↑l.length : Int), s.length + (l.getD k FT.nil).name.length ≤ (9223372036854775807 : Nat), (s ++ (l.getD k FT.nil).name).length + (2 : Nat) ≤ (9223372036854775807 : Nat), (0 : Int) ≤ (↑k : Int) ∧ (↑k : Int) < (↑l.length : Int), (s ++ (l.getD k FT.nil).name ++ [(58 : UInt8), 32]).length + (l.getD k FT.nil).value.length ≤ (9223372036854775807 : Nat), (s ++ (l.getD k FT.nil).name ++ [(58 : UInt8), 32] ++ (l.getD k FT.nil).value).length + (2 : Nat) ≤ (9223372036854775807 : Nat), inR IntKind.i64 ((↑k : Int) + (1 : Int))] (by kernel_rfl) (by kernel_rfl) (by kernel_rfl) ⟨(by simp; omega), (by omega), (by assumption), (by assumption), (by omega), (by assumption), (by assumption), inR64 (by omega) (by omega)⟩ ?_
    exact Wp.lpK (by kernel_rfl) (again _ (k + 1, s ++ (l.getD k .nil).name ++ [58, 32] ++ (l.getD k .nil).value ++ [13, 10]) ⟨(by assumption), (by assumption)⟩ (by omega) (Ent.of [] (by kernel_rfl) (by kernel_rfl) (by kernel_rfl) trivial))
  · have hs : s = l.flatMap fieldL := by rw [hq]; unfold hdN; rw [List.take_of_length_le hge]
    unfold linesT
    rw [← hs] at hL1 ⊢
    clear again hq
    cases hbe : b == [] with
    | true =>
      have ht : (!(b == [])) = false := by rw [hbe]; rfl
      rw [show clL b = [] from by unfold clL; rw [if_pos hbe], List.append_nil]
      have q1 : s.length + 2 ≤ 9223372036854775807 := by omega
      refine Wp.go (mx := true) (fun _ => mixed) [] 100 [false, false] [decide ((↑k : Int) < (↑l.length : Int)) = false, (!b == []) = false, s.length + (2 : Nat) ≤ (9223372036854775807 : Nat)] (by kernel_rfl) (by kernel_rfl) (by kernel_rfl) ⟨(by simp; omega), (by assumption), (show s.length + (2 : Nat) ≤ (9223372036854775807 : Nat) from (by assumption))⟩ ?_
      refine Wp.ret' (by kernel_rfl) ?_
      exact FinQ.pure (rs' := [V1.c (Cell.str (s ++ [(13 : UInt8), 10]))]) (by kernel_rfl) rfl (by kernel_rfl)
    | false =>
      have ht : (!(b == [])) = true := by rw [hbe]; rfl
      have hcl : clL b = [99, 111, 110, 116, 101, 110, 116, 45, 108, 101, 110, 103, 116, 104, 58, 32] ++ Lib.itoa b.length ++ [13, 10] := by unfold clL; rw [if_neg (by rw [hbe]; decide)]
      rw [hcl] at hL1 ⊢
      simp only [List.length_append, List.length_cons, List.length_nil] at hL1
      have c := digits_ok (G := G) (b.length : Int) (by omega) (by omega)
      have q1 : s.length + 16 ≤ 9223372036854775807 := by omega
      have q2 : (s ++ [99, 111, 110, 116, 101, 110, 116, 45, 108, 101, 110, 103, 116, 104, 58, 32]).length + (Lib.itoa (b.length : Int)).length ≤ 9223372036854775807 := by simp only [List.length_append, List.length_cons, List.length_nil]; omega
      have q3 : (s ++ [99, 111, 110, 116, 101, 110, 116, 45, 108, 101, 110, 103, 116, 104, 58, 32] ++ Lib.itoa (b.length : Int)).length + 2 ≤ 9223372036854775807 := by simp only [List.length_append, List.length_cons, List.length_nil]; omega
      have q4 : (s ++ [99, 111, 110, 116, 101, 110, 116, 45, 108, 101, 110, 103, 116, 104, 58, 32] ++ Lib.itoa (b.length : Int) ++ [13, 10]).length + 2 ≤ 9223372036854775807 := by simp only [List.length_append, List.length_cons, List.length_nil]; omega
      rw [show s ++ ([99, 111, 110, 116, 101, 110, 116, 45, 108, 101, 110, 103, 116, 104, 58, 32] ++ Lib.itoa (b.length : Int) ++ [13, 10]) ++ [13, 10] = s ++ [99, 111, 110, 116, 101, 110, 116, 45, 108, 101, 110, 103, 116, 104, 58, 32] ++ Lib.itoa (b.length : Int) ++ [13, 10] ++ [13, 10] from by simp only [List.append_assoc]]
      refine Wp.go (mx := true) (fun _ => mixed) [(7, {cs := [(4, pc c)]})] 100 [false, true] [decide ((↑k : Int) < (↑l.length : Int)) = false, (!b == []) = true, s.length + (16 : Nat) ≤ (9223372036854775807 : Nat), (s ++ [(99 : UInt8), 111, 110, 116, 101, 110, 116, 45, 108, 101, 110, 103, 116, 104, 58, 32]).length + (Lib.itoa (↑b.length : Int)).length ≤ (9223372036854775807 : Nat), (s ++ [(99 : UInt8), 111, 110, 116, 101, 110, 116, 45, 108, 101, 110, 103, 116, 104, 58, 32] ++ Lib.itoa (↑b.length : Int)).length + (2 : Nat) ≤ (9223372036854775807 : Nat), (s ++ [(99 : UInt8), 111, 110, 116, 101, 110, 116, 45, 108, 101, 110, 103, 116, 104, 58, 32] ++ Lib.itoa (↑b.length : Int) ++ [(13 : UInt8), 10]).length + (2 : Nat) ≤ (9223372036854775807 : Nat)] (by kernel_rfl) (by kernel_rfl) (by kernel_rfl) ⟨(by simp; omega), (by assumption), (by assumption), (by assumption), (by assumption), (show (s ++ [(99 : UInt8), 111, 110, 116, 101, 110, 116, 45, 108, 101, 110, 103, 116, 104, 58, 32] ++ Lib.itoa (↑b.length : Int) ++ [(13 : UInt8), 10]).length + (2 : Nat) ≤ (9223372036854775807 : Nat) from (by assumption))⟩ ?_
      refine Wp.ret' (by kernel_rfl) ?_
      exact FinQ.pure (rs' := [V1.c (Cell.str (s ++ [(99 : UInt8), 111, 110, 116, 101, 110, 116, 45, 108, 101, 110, 103, 116, 104, 58, 32] ++ Lib.itoa (↑b.length : Int) ++ [(13 : UInt8), 10] ++ [(13 : UInt8), 10]))]) (by kernel_rfl) rfl (by kernel_rfl)
end Go.Proofs.Tw
end

section
open Go Go.Sv Go.RowKit
namespace Go.Proofs.Tw
attribute [local irreducible] Wp FinQ resV Ent Pur Go.Sv.Fn Sat0
set_option maxRecDepth 100000
set_option maxHeartbeats 4000000
variable {G : Nat → Option (List Cell)}

/-! both say the same of a head -/
theorem fieldsOk_iff : ∀ (l : List FT) (seen : List (List UInt8)), fieldsOk seen l = true ↔ ∀ i, i < l.length → fOk (seen ++ (l.take i).map (·.name)) (l.getD i .nil) = true
  | [], seen => by simp [fieldsOk]
  | x :: r, seen => by
    rw [fieldsOk, Bool.and_eq_true, fieldsOk_iff r]
    constructor
    · rintro ⟨h0, h⟩ i hi
      cases i with
      | zero => simpa using h0
      | succ i =>
        have := h i (by simpa using hi)
        simpa using this
    · intro h
      refine ⟨by simpa using h 0 (by simp), fun i hi => ?_⟩
      have := h (i + 1) (by simpa using hi)
      simpa using this
theorem fOk_iff (names : List (List UInt8)) (f : FT) : fOk ([clN] ++ names) f = true ↔ okF f = true ∧ names.contains f.name = false := by
  unfold fOk okF
  rw [List.contains_append]
  have : ([clN] : List (List UInt8)).contains f.name = (f.name == clN) := by rw [Bool.eq_iff_iff]; simp
  rw [this]
  cases tokenT f.name <;> cases (foldT f.name == f.name) <;> cases (f.name == clN) <;> cases f.value.all seenB <;> cases names.contains f.name <;> simp
theorem fieldsOk_eq (l : List FT) : fieldsOk [clN] l = (l.all okF && unlikeQ l) := by
  rw [Bool.eq_iff_iff, fieldsOk_iff, Bool.and_eq_true]
  have hall : l.all okF = true ↔ ∀ i, i < l.length → okF (l.getD i .nil) = true := by
    rw [List.all_eq_true]
    constructor
    · intro h i hi
      exact h _ (by simp [List.getD, hi])
    · intro h x hx
      obtain ⟨i, hi, rfl⟩ := List.getElem_of_mem hx
      have := h i hi
      simpa [List.getD, hi] using this
  have hunl : unlikeQ l = true ↔ ∀ i, i < l.length → okQ l i = true := by
    unfold unlikeQ
    rw [List.all_eq_true]
    exact ⟨fun h i hi => h i (List.mem_range.2 hi), fun h i hi => h i (List.mem_range.1 hi)⟩
  rw [hall, hunl]
  have hq : ∀ i, okQ l i = (!((l.getD i .nil).name == []) && !((l.take i).map (·.name)).contains (l.getD i .nil).name) := fun i => by
    unfold okQ; rw [← fGet_isIn, ← fGet_con]
  constructor
  · intro h
    refine ⟨fun i hi => ((fOk_iff _ _).1 (h i hi)).1, fun i hi => ?_⟩
    obtain ⟨h1, h2⟩ := (fOk_iff _ _).1 (h i hi)
    rw [hq, h2]
    have : tokenT (l.getD i .nil).name = true := by unfold okF at h1; rw [Bool.and_eq_true] at h1; exact h1.1
    unfold tokenT at this
    rw [Bool.and_eq_true] at this
    rw [this.1]; rfl
  · rintro ⟨h1, h2⟩ i hi
    refine (fOk_iff _ _).2 ⟨h1 i hi, ?_⟩
    have := h2 i hi
    rw [hq, Bool.and_eq_true] at this
    simpa using this.2
theorem mayM_eq (m : MT) : mayM m = (headT m.head m.body && decide (((aheadT m).length : Int) ≤ 2048)) := by
  unfold mayM fieldedT headT
  rw [show fieldsOk [[99, 111, 110, 116, 101, 110, 116, 45, 108, 101, 110, 103, 116, 104]] m.head = fieldsOk [clN] m.head from rfl, fieldsOk_eq, show roomT m = mostT m.body from rfl]
  cases m.head.all okF <;> cases unlikeQ m.head <;> cases decide ((m.head.length : Int) ≤ mostT m.body) <;> cases decide ((m.body.length : Int) ≤ 4096) <;> cases decide (((aheadT m).length : Int) ≤ 2048) <;> rfl
def firstQ (r : QT) : List UInt8 := r.method ++ [32] ++ r.target ++ [32, 72, 84, 84, 80, 47, 49, 46, 49] ++ [13, 10]
def firstR (r : RT) : List UInt8 := verS ++ Lib.itoa r.status ++ [32] ++ reasonT r.status ++ [13, 10]
theorem ahead_Q (r : QT) : aheadT (askedM r) = firstQ r ++ linesT r.head r.body := by
  rw [ahead_lines]
  unfold askedM firstQ httpV
  simp
theorem ahead_R (r : RT) : aheadT (toldM r) = firstR r ++ linesT r.head r.body := by
  rw [ahead_lines]
  unfold toldM firstR verS
  simp
theorem first13_ok (r : QT) (h1 : r.method.length < 1000000000) (h2 : r.target.length < 1000000000) : Pur Tryz.prog G 56 [.agg (encQ r)] [.c (.str (firstQ r))] := by
  refine Pur.of Tryz.func56 (by kernel_rfl) (by kernel_rfl) (by kernel_rfl) ?_
  have q1 : r.method.length + 1 ≤ 9223372036854775807 := by omega
  have q2 : (r.method ++ [32]).length + r.target.length ≤ 9223372036854775807 := by simp; omega
  have q3 : (r.method ++ [32] ++ r.target).length + 9 ≤ 9223372036854775807 := by simp; omega
  have q4 : (r.method ++ [32] ++ r.target ++ [32, 72, 84, 84, 80, 47, 49, 46, 49]).length + 2 ≤ 9223372036854775807 := by simp; omega
  unfold firstQ
  refine Wp.go (mx := true) (fun _ => mixed) [] 100 [] [r.method.length + (1 : Nat) ≤ (9223372036854775807 : Nat), (r.method ++ [(32 : UInt8)]).length + r.target.length ≤ (9223372036854775807 : Nat), (r.method ++ [(32 : UInt8)] ++ r.target).length + (9 : Nat) ≤ (9223372036854775807 : Nat), (r.method ++ [(32 : UInt8)] ++ r.target ++ [(32 : UInt8), 72, 84, 84, 80, 47, 49, 46, 49]).length + (2 : Nat) ≤ (9223372036854775807 : Nat)] (by kernel_rfl) (by kernel_rfl) (by kernel_rfl) ⟨(by assumption), (by assumption), (by assumption), (show (r.method ++ [(32 : UInt8)] ++ r.target ++ [(32 : UInt8), 72, 84, 84, 80, 47, 49, 46, 49]).length + (2 : Nat) ≤ (9223372036854775807 : Nat) from (by assumption))⟩ ?_
  refine Wp.ret' (by kernel_rfl) ?_
  exact FinQ.pure (rs' := [V1.c (Cell.str (r.method ++ [(32 : UInt8)] ++ r.target ++ [(32 : UInt8), 72, 84, 84, 80, 47, 49, 46, 49] ++ [(13 : UInt8), 10]))]) (by kernel_rfl) rfl (by kernel_rfl)
theorem reason13_ok (n : Int) : Pur Tryz.prog G 94 [.c (.int .i64 n)] [.c (.str (reasonT n))] := by
  refine Pur.of Tryz.func94 (by kernel_rfl) (by kernel_rfl) (by kernel_rfl) ?_
  refine Wp.go (mx := true) (fun _ => mixed) [] 100 [] [] (by kernel_rfl) (by kernel_rfl) (by kernel_rfl) trivial ?_
  refine Wp.cond' (by kernel_rfl) (n == (200 : Int)) (by kernel_rfl) (fun h0 => ?_) (fun h0 => ?_)
  · have g0 := eq_of_beq h0
    refine Wp.go (mx := true) (fun _ => mixed) [] 100 [] [] (by kernel_rfl) (by kernel_rfl) (by kernel_rfl) trivial ?_
    refine Wp.ret' (by kernel_rfl) ?_
    exact FinQ.pure (rs' := [V1.c (Cell.str [(79 : UInt8), 75])]) (by kernel_rfl) (by simp [reasonT, *]; done) (by kernel_rfl)
  · have g0 := ne_of_beq_false h0
    refine Wp.go (mx := true) (fun _ => mixed) [] 100 [] [] (by kernel_rfl) (by kernel_rfl) (by kernel_rfl) trivial ?_
    refine Wp.cond' (by kernel_rfl) (n == (302 : Int)) (by kernel_rfl) (fun h1 => ?_) (fun h1 => ?_)
    · have g1 := eq_of_beq h1
      refine Wp.go (mx := true) (fun _ => mixed) [] 100 [] [] (by kernel_rfl) (by kernel_rfl) (by kernel_rfl) trivial ?_
      refine Wp.ret' (by kernel_rfl) ?_
      exact FinQ.pure (rs' := [V1.c (Cell.str [(70 : UInt8), 111, 117, 110, 100])]) (by kernel_rfl) (by simp [reasonT, *]; done) (by kernel_rfl)
    · have g1 := ne_of_beq_false h1
      refine Wp.go (mx := true) (fun _ => mixed) [] 100 [] [] (by kernel_rfl) (by kernel_rfl) (by kernel_rfl) trivial ?_
      refine Wp.cond' (by kernel_rfl) (n == (400 : Int)) (by kernel_rfl) (fun h2 => ?_) (fun h2 => ?_)
      · have g2 := eq_of_beq h2
        refine Wp.go (mx := true) (fun _ => mixed) [] 100 [] [] (by kernel_rfl) (by kernel_rfl) (by kernel_rfl) trivial ?_
        refine Wp.ret' (by kernel_rfl) ?_
        exact FinQ.pure (rs' := [V1.c (Cell.str [(66 : UInt8), 97, 100, 32, 82, 101, 113, 117, 101, 115, 116])]) (by kernel_rfl) (by simp [reasonT, *]; done) (by kernel_rfl)
      · have g2 := ne_of_beq_false h2
        refine Wp.go (mx := true) (fun _ => mixed) [] 100 [] [] (by kernel_rfl) (by kernel_rfl) (by kernel_rfl) trivial ?_
        refine Wp.cond' (by kernel_rfl) (n == (401 : Int)) (by kernel_rfl) (fun h3 => ?_) (fun h3 => ?_)
        · have g3 := eq_of_beq h3
          refine Wp.go (mx := true) (fun _ => mixed) [] 100 [] [] (by kernel_rfl) (by kernel_rfl) (by kernel_rfl) trivial ?_
          refine Wp.ret' (by kernel_rfl) ?_
          exact FinQ.pure (rs' := [V1.c (Cell.str [(85 : UInt8), 110, 97, 117, 116, 104, 111, 114, 105, 122, 101, 100])]) (by kernel_rfl) (by simp [reasonT, *]; done) (by kernel_rfl)
        · have g3 := ne_of_beq_false h3
          refine Wp.go (mx := true) (fun _ => mixed) [] 100 [] [] (by kernel_rfl) (by kernel_rfl) (by kernel_rfl) trivial ?_
          refine Wp.cond' (by kernel_rfl) (n == (403 : Int)) (by kernel_rfl) (fun h4 => ?_) (fun h4 => ?_)
          · have g4 := eq_of_beq h4
            refine Wp.go (mx := true) (fun _ => mixed) [] 100 [] [] (by kernel_rfl) (by kernel_rfl) (by kernel_rfl) trivial ?_
            refine Wp.ret' (by kernel_rfl) ?_
            exact FinQ.pure (rs' := [V1.c (Cell.str [(70 : UInt8), 111, 114, 98, 105, 100, 100, 101, 110])]) (by kernel_rfl) (by simp [reasonT, *]; done) (by kernel_rfl)
          · have g4 := ne_of_beq_false h4
            refine Wp.go (mx := true) (fun _ => mixed) [] 100 [] [] (by kernel_rfl) (by kernel_rfl) (by kernel_rfl) trivial ?_
            refine Wp.cond' (by kernel_rfl) (n == (404 : Int)) (by kernel_rfl) (fun h5 => ?_) (fun h5 => ?_)
            · have g5 := eq_of_beq h5
              refine Wp.go (mx := true) (fun _ => mixed) [] 100 [] [] (by kernel_rfl) (by kernel_rfl) (by kernel_rfl) trivial ?_
              refine Wp.ret' (by kernel_rfl) ?_
              exact FinQ.pure (rs' := [V1.c (Cell.str [(78 : UInt8), 111, 116, 32, 70, 111, 117, 110, 100])]) (by kernel_rfl) (by simp [reasonT, *]; done) (by kernel_rfl)
            · have g5 := ne_of_beq_false h5
              refine Wp.go (mx := true) (fun _ => mixed) [] 100 [] [] (by kernel_rfl) (by kernel_rfl) (by kernel_rfl) trivial ?_
              refine Wp.cond' (by kernel_rfl) (n == (405 : Int)) (by kernel_rfl) (fun h6 => ?_) (fun h6 => ?_)
              · have g6 := eq_of_beq h6
                refine Wp.go (mx := true) (fun _ => mixed) [] 100 [] [] (by kernel_rfl) (by kernel_rfl) (by kernel_rfl) trivial ?_
                refine Wp.ret' (by kernel_rfl) ?_
                exact FinQ.pure (rs' := [V1.c (Cell.str [(77 : UInt8), 101, 116, 104, 111, 100, 32, 78, 111, 116, 32, 65, 108, 108, 111, 119, 101, 100])]) (by kernel_rfl) (by simp [reasonT, *]; done) (by kernel_rfl)
              · have g6 := ne_of_beq_false h6
                refine Wp.go (mx := true) (fun _ => mixed) [] 100 [] [] (by kernel_rfl) (by kernel_rfl) (by kernel_rfl) trivial ?_
                refine Wp.cond' (by kernel_rfl) (n == (413 : Int)) (by kernel_rfl) (fun h7 => ?_) (fun h7 => ?_)
                · have g7 := eq_of_beq h7
                  refine Wp.go (mx := true) (fun _ => mixed) [] 100 [] [] (by kernel_rfl) (by kernel_rfl) (by kernel_rfl) trivial ?_
                  refine Wp.ret' (by kernel_rfl) ?_
                  exact FinQ.pure (rs' := [V1.c (Cell.str [(67 : UInt8), 111, 110, 116, 101, 110, 116, 32, 84, 111, 111, 32, 76, 97, 114, 103, 101])]) (by kernel_rfl) (by simp [reasonT, *]; done) (by kernel_rfl)
                · have g7 := ne_of_beq_false h7
                  refine Wp.go (mx := true) (fun _ => mixed) [] 100 [] [] (by kernel_rfl) (by kernel_rfl) (by kernel_rfl) trivial ?_
                  refine Wp.cond' (by kernel_rfl) (n == (503 : Int)) (by kernel_rfl) (fun h8 => ?_) (fun h8 => ?_)
                  · have g8 := eq_of_beq h8
                    refine Wp.go (mx := true) (fun _ => mixed) [] 100 [] [] (by kernel_rfl) (by kernel_rfl) (by kernel_rfl) trivial ?_
                    refine Wp.ret' (by kernel_rfl) ?_
                    exact FinQ.pure (rs' := [V1.c (Cell.str [(83 : UInt8), 101, 114, 118, 105, 99, 101, 32, 85, 110, 97, 118, 97, 105, 108, 97, 98, 108, 101])]) (by kernel_rfl) (by simp [reasonT, *]; done) (by kernel_rfl)
                  · have g8 := ne_of_beq_false h8
                    refine Wp.go (mx := true) (fun _ => mixed) [] 100 [] [] (by kernel_rfl) (by kernel_rfl) (by kernel_rfl) trivial ?_
                    refine Wp.ret' (by kernel_rfl) ?_
                    exact FinQ.pure (rs' := [V1.c (Cell.str [(79 : UInt8), 116, 104, 101, 114])]) (by kernel_rfl) (by simp [reasonT, *]; done) (by kernel_rfl)
theorem status13_ok (r : RT) (h0 : 0 ≤ r.status) (h1 : r.status ≤ 1000) : Pur Tryz.prog G 60 [.agg (encT r)] [.c (.str (firstR r))] := by
  refine Pur.of Tryz.func60 (by kernel_rfl) (by kernel_rfl) (by kernel_rfl) ?_
  have c1 := digits_ok (G := G) r.status (by omega) (by omega)
  have c2 := reason13_ok (G := G) r.status
  have h3 := itoa_len r.status h0 h1
  have h4 := reason_len r.status
  unfold firstR
  have q1 : 9 + (Lib.itoa r.status).length ≤ 9223372036854775807 := by omega
  have q2 : (verS ++ Lib.itoa r.status).length + 1 ≤ 9223372036854775807 := by simp [verS]; omega
  have q3 : (verS ++ Lib.itoa r.status ++ [32]).length + (reasonT r.status).length ≤ 9223372036854775807 := by simp [verS]; omega
  have q4 : (verS ++ Lib.itoa r.status ++ [32] ++ reasonT r.status).length + 2 ≤ 9223372036854775807 := by simp [verS]; omega
  refine Wp.go (mx := true) (fun _ => mixed) [(1, {cs := [(2, pc c1), (7, pc c2)]})] 100 [] [(9 : Nat) + (Lib.itoa r.status).length ≤ (9223372036854775807 : Nat), ([(72 : UInt8), 84, 84, 80, 47, 49, 46, 49, 32] ++ Lib.itoa r.status).length + (1 : Nat) ≤ (9223372036854775807 : Nat), ([(72 : UInt8), 84, 84, 80, 47, 49, 46, 49, 32] ++ Lib.itoa r.status ++ [(32 : UInt8)]).length + (reasonT r.status).length ≤ (9223372036854775807 : Nat), ([(72 : UInt8), 84, 84, 80, 47, 49, 46, 49, 32] ++ Lib.itoa r.status ++ [(32 : UInt8)] ++ reasonT r.status).length + (2 : Nat) ≤ (9223372036854775807 : Nat)] (by kernel_rfl) (by kernel_rfl) (by kernel_rfl) ⟨(by assumption), (by assumption), (by assumption), (show ([(72 : UInt8), 84, 84, 80, 47, 49, 46, 49, 32] ++ Lib.itoa r.status ++ [(32 : UInt8)] ++ reasonT r.status).length + (2 : Nat) ≤ (9223372036854775807 : Nat) from (by assumption))⟩ ?_
  refine Wp.ret' (by kernel_rfl) ?_
  exact FinQ.pure (rs' := [V1.c (Cell.str ([(72 : UInt8), 84, 84, 80, 47, 49, 46, 49, 32] ++ Lib.itoa r.status ++ [(32 : UInt8)] ++ reasonT r.status ++ [(13 : UInt8), 10]))]) (by kernel_rfl) rfl (by kernel_rfl)
/-- What may be shown of fields and a body that are not too many. -/
theorem FitM.lines {m : MT} (h : FitM m) : (linesT m.head m.body).length ≤ 100000000000000 := by
  have := h.hA
  rw [ahead_lines] at this
  simp only [List.length_append] at this
  omega
structure FitH (l : List FT) (b : List UInt8) : Prop where
  hn : l.length < 1000000000
  hs : ∀ f ∈ l, f.name.length < 1000000000 ∧ f.value.length < 1000000000
  hb : b.length < 1000000000
  hl : (linesT l b).length ≤ 90000000000000
theorem FitH.q {r : QT} (h : FitH r.head r.body) (h1 : r.method.length < 1000000000) (h2 : r.target.length < 1000000000) : FitQ r := by
  refine ⟨h1, h2, Nat.lt_trans h.hn (by decide), fun f hf => ?_, ?_, ?_⟩
  · have := h.hs f hf; omega
  · have := h.hb; show r.body.length ≤ _; omega
  · rw [ahead_Q]
    unfold firstQ
    have := h.hl
    simp only [List.length_append, List.length_cons, List.length_nil]
    omega
theorem FitH.r {r : RT} (h : FitH r.head r.body) (h0 : 0 ≤ r.status) (h1 : r.status ≤ 1000) : FitM (toldM r) := by
  refine ⟨Nat.lt_trans h.hn (by decide), fun f hf => ?_, ?_, ?_⟩
  · have := h.hs f hf; omega
  · have := h.hb; show r.body.length ≤ _; omega
  · rw [ahead_R]
    unfold firstR verS
    have := h.hl
    have h3 := itoa_len r.status h0 h1
    have h4 := reason_len r.status
    simp only [List.length_append, List.length_cons, List.length_nil]
    omega
theorem mayAsk_b (r : QT) : (bif bif bif methT r.method then targT r.target else false then headT r.head r.body else false then decide (((firstQ r ++ linesT r.head r.body).length : Int) ≤ 2048) else false) = mayAskT r := by
  unfold mayAskT linedT
  rw [mayM_eq, ahead_Q]
  show _ = bif methT r.method && targT r.target then headT r.head r.body && _ else false
  cases methT r.method <;> cases targT r.target <;> cases headT r.head r.body <;> rfl
theorem mayAsk13_ok (r : QT) (h : FitH r.head r.body) (h1 : r.method.length < 1000000000) (h2 : r.target.length < 1000000000) : Pur Tryz.prog G 18 [.agg (encQ r)] [.c (.bool (mayAskT r))] := by
  refine Pur.of Tryz.func18 (by kernel_rfl) (by kernel_rfl) (by kernel_rfl) ?_
  have c1 := method13_ok (G := G) r.method (by omega)
  have c2 := target13_ok (G := G) r.target (by omega)
  have c3 := head13_ok (G := G) r.head r.body h.hn h.hs
  have c4 := first13_ok (G := G) r h1 h2
  have hl := h.hl
  have c5 := lines13_ok (G := G) r.head r.body h.hn h.hb (by omega)
  rw [← mayAsk_b]
  have hf : (firstQ r).length ≤ 3000000000 := by unfold firstQ; simp only [List.length_append, List.length_cons, List.length_nil]; omega
  generalize firstQ r = S at *
  generalize linesT r.head r.body = T at *
  have q : S.length + T.length ≤ 9223372036854775807 := by omega
  refine Wp.go (mx := true) (fun _ => mixed) [(1, {cs := [(2, pc c1), (6, pc c2), (13, pc c3), (17, pc c4), (22, pc c5)]})] 100 [] [(bif bif methT r.method then targT r.target else false then headT r.head r.body else false) = true → S.length + T.length ≤ (9223372036854775807 : Nat)] (by kernel_rfl) (by kernel_rfl) (by kernel_rfl) (show (bif bif methT r.method then targT r.target else false then headT r.head r.body else false) = true → S.length + T.length ≤ (9223372036854775807 : Nat) from (by omega)) ?_
  refine Wp.ret' (by kernel_rfl) ?_
  exact FinQ.pure (rs' := [V1.c (Cell.bool (bif bif bif methT r.method then targT r.target else false then headT r.head r.body else false then decide ((↑(S ++ T).length : Int) ≤ (2048 : Int)) else false))]) (by kernel_rfl) rfl (by kernel_rfl)
theorem printAsk13_ok (r : QT) (h : FitH r.head r.body) (h1 : r.method.length < 1000000000) (h2 : r.target.length < 1000000000) : Pur Tryz.prog G 20 [.agg (encQ r)] [.c (.str (printAskT r))] := by
  refine Pur.of Tryz.func20 (by kernel_rfl) (by kernel_rfl) (by kernel_rfl) ?_
  have c1 := mayAsk13_ok (G := G) r h h1 h2
  have c4 := first13_ok (G := G) r h1 h2
  have hl := h.hl
  have hb := h.hb
  have c5 := lines13_ok (G := G) r.head r.body h.hn h.hb (by omega)
  unfold printAskT
  rw [ahead_Q]
  have hf : (firstQ r).length ≤ 3000000000 := by unfold firstQ; simp only [List.length_append, List.length_cons, List.length_nil]; omega
  generalize firstQ r = S at *
  generalize linesT r.head r.body = T at *
  have q : S.length + T.length ≤ 9223372036854775807 := by omega
  have q2 : (S ++ T).length + r.body.length ≤ 9223372036854775807 := by rw [List.length_append]; omega
  cases hm : mayAskT r with
  | true =>
    rw [if_pos rfl]
    rw [hm] at c1
    clear hm h
    refine Wp.go (mx := true) (fun _ => mixed) [(1, {cs := [(1, pc c1)]}), (3, {cs := [(1, pc c4), (6, pc c5)]})] 100 [false] [(!true) = false, S.length + T.length ≤ (9223372036854775807 : Nat), (S ++ T).length + r.body.length ≤ (9223372036854775807 : Nat)] (by kernel_rfl) (by kernel_rfl) (by kernel_rfl) ⟨rfl, (by assumption), (show (S ++ T).length + r.body.length ≤ (9223372036854775807 : Nat) from (by assumption))⟩ ?_
    refine Wp.ret' (by kernel_rfl) ?_
    exact FinQ.pure (rs' := [V1.c (Cell.str (S ++ T ++ r.body))]) (by kernel_rfl) rfl (by kernel_rfl)
  | false =>
    rw [if_neg (by decide)]
    rw [hm] at c1
    clear hm h
    refine Wp.go (mx := true) (fun _ => mixed) [(1, {cs := [(1, pc c1)]})] 100 [true] [(!false) = true] (by kernel_rfl) (by kernel_rfl) (by kernel_rfl) rfl ?_
    refine Wp.ret' (by kernel_rfl) ?_
    exact FinQ.pure (rs' := [V1.c (Cell.str [])]) (by kernel_rfl) rfl (by kernel_rfl)
theorem mayTell_b (r : RT) : (bif bif bif decide (r.status ≥ 100) then decide (r.status ≤ 599) else false then headT r.head r.body else false then decide (((firstR r ++ linesT r.head r.body).length : Int) ≤ 2048) else false) = mayTell r := by
  unfold mayTell statedT
  rw [mayM_eq, ahead_R]
  show _ = bif bif decide (r.status ≥ 100) then decide (r.status ≤ 599) else false then headT r.head r.body && _ else false
  cases decide (r.status ≥ 100) <;> cases decide (r.status ≤ 599) <;> cases headT r.head r.body <;> rfl
theorem mayTell13_ok (r : RT) (h : FitH r.head r.body) : Pur Tryz.prog G 22 [.agg (encT r)] [.c (.bool (mayTell r))] := by
  refine Pur.of Tryz.func22 (by kernel_rfl) (by kernel_rfl) (by kernel_rfl) ?_
  have c3 := head13_ok (G := G) r.head r.body h.hn h.hs
  have hl := h.hl
  have c5 := lines13_ok (G := G) r.head r.body h.hn h.hb (by omega)
  cases hs : (bif decide (r.status ≥ 100) then decide (r.status ≤ 599) else false) with
  | true =>
    have hs' := hs
    rw [Bool.cond_false_right, Bool.and_eq_true, decide_eq_true_eq, decide_eq_true_eq] at hs'
    have c4 := status13_ok (G := G) r (by omega) (by omega)
    rw [← mayTell_b]
    have hf : (firstR r).length ≤ 3000000000 := by
      unfold firstR
      have h3 := itoa_len r.status (by omega) (by omega)
      have h4 := reason_len r.status
      simp only [List.length_append, List.length_cons, List.length_nil, verS]; omega
    generalize firstR r = S at *
    generalize linesT r.head r.body = T at *
    have q : S.length + T.length ≤ 9223372036854775807 := by omega
    clear hs
    refine Wp.go (mx := true) (fun _ => mixed) [(1, {cs := [(13, pc c3), (17, pc c4), (22, pc c5)]})] 100 [] [(bif bif decide (r.status ≥ (100 : Int)) then decide (r.status ≤ (599 : Int)) else false then headT r.head r.body else false) = true → S.length + T.length ≤ (9223372036854775807 : Nat)] (by kernel_rfl) (by kernel_rfl) (by kernel_rfl) (show (bif bif decide (r.status ≥ (100 : Int)) then decide (r.status ≤ (599 : Int)) else false then headT r.head r.body else false) = true → S.length + T.length ≤ (9223372036854775807 : Nat) from (by omega)) ?_
    refine Wp.ret' (by kernel_rfl) ?_
    exact FinQ.pure (rs' := [V1.c (Cell.bool (bif bif bif decide (r.status ≥ (100 : Int)) then decide (r.status ≤ (599 : Int)) else false then headT r.head r.body else false then decide ((↑(S ++ T).length : Int) ≤ (2048 : Int)) else false))]) (by kernel_rfl) rfl (by kernel_rfl)
  | false =>
    rw [show mayTell r = false from by unfold mayTell statedT; rw [hs]; rfl]
    refine Wp.go (mx := true) (fun _ => mixed) [(1, {grd := [(16, false), (17, false), (18, false), (19, false), (20, false), (21, false), (22, false), (23, false), (24, false), (25, false), (26, false)], cs := [(13, pc c3)]})] 100 [] [(bif bif decide (r.status ≥ (100 : Int)) then decide (r.status ≤ (599 : Int)) else false then headT r.head r.body else false) = !true, (bif bif decide (r.status ≥ (100 : Int)) then decide (r.status ≤ (599 : Int)) else false then headT r.head r.body else false) = !true, (bif bif decide (r.status ≥ (100 : Int)) then decide (r.status ≤ (599 : Int)) else false then headT r.head r.body else false) = !true, (bif bif decide (r.status ≥ (100 : Int)) then decide (r.status ≤ (599 : Int)) else false then headT r.head r.body else false) = !true, (bif bif decide (r.status ≥ (100 : Int)) then decide (r.status ≤ (599 : Int)) else false then headT r.head r.body else false) = !true, (bif bif decide (r.status ≥ (100 : Int)) then decide (r.status ≤ (599 : Int)) else false then headT r.head r.body else false) = !true, (bif bif decide (r.status ≥ (100 : Int)) then decide (r.status ≤ (599 : Int)) else false then headT r.head r.body else false) = !true, (bif bif decide (r.status ≥ (100 : Int)) then decide (r.status ≤ (599 : Int)) else false then headT r.head r.body else false) = !true, (bif bif decide (r.status ≥ (100 : Int)) then decide (r.status ≤ (599 : Int)) else false then headT r.head r.body else false) = !true, (bif bif decide (r.status ≥ (100 : Int)) then decide (r.status ≤ (599 : Int)) else false then headT r.head r.body else false) = !true, (bif bif decide (r.status ≥ (100 : Int)) then decide (r.status ≤ (599 : Int)) else false then headT r.head r.body else false) = false] (by kernel_rfl) (by kernel_rfl) (by kernel_rfl) ⟨(by simp_all <;> omega), (by simp_all <;> omega), (by simp_all <;> omega), (by simp_all <;> omega), (by simp_all <;> omega), (by simp_all <;> omega), (by simp_all <;> omega), (by simp_all <;> omega), (by simp_all <;> omega), (by simp_all <;> omega), (show (bif bif decide (r.status ≥ (100 : Int)) then decide (r.status ≤ (599 : Int)) else false then headT r.head r.body else false) = false from (by simp_all <;> omega))⟩ ?_
    refine Wp.ret' (by kernel_rfl) ?_
    exact FinQ.pure (rs' := [V1.c (Cell.bool false)]) (by kernel_rfl) rfl (by kernel_rfl)
theorem printTell13_ok (r : RT) (h : FitH r.head r.body) : Pur Tryz.prog G 24 [.agg (encT r)] [.c (.str (printTell r))] := by
  refine Pur.of Tryz.func24 (by kernel_rfl) (by kernel_rfl) (by kernel_rfl) ?_
  have c1 := mayTell13_ok (G := G) r h
  have hl := h.hl
  have hb := h.hb
  have c5 := lines13_ok (G := G) r.head r.body h.hn h.hb (by omega)
  unfold printTell
  rw [ahead_R]
  cases hm : mayTell r with
  | true =>
    have hs : statedT r.status = true := by
      cases hs : statedT r.status with
      | true => rfl
      | false => unfold mayTell at hm; rw [hs] at hm; cases hm
    unfold statedT at hs
    rw [Bool.cond_false_right, Bool.and_eq_true, decide_eq_true_eq, decide_eq_true_eq] at hs
    have c4 := status13_ok (G := G) r (by omega) (by omega)
    have hf : (firstR r).length ≤ 3000000000 := by
      unfold firstR
      have h3 := itoa_len r.status (by omega) (by omega)
      have h4 := reason_len r.status
      simp only [List.length_append, List.length_cons, List.length_nil, verS]; omega
    generalize firstR r = S at *
    generalize linesT r.head r.body = T at *
    have q : S.length + T.length ≤ 9223372036854775807 := by omega
    have q2 : (S ++ T).length + r.body.length ≤ 9223372036854775807 := by rw [List.length_append]; omega
    rw [if_pos rfl]
    rw [hm] at c1
    clear hm h
    refine Wp.go (mx := true) (fun _ => mixed) [(1, {cs := [(1, pc c1)]}), (3, {cs := [(1, pc c4), (6, pc c5)]})] 100 [false] [(!true) = false, S.length + T.length ≤ (9223372036854775807 : Nat), (S ++ T).length + r.body.length ≤ (9223372036854775807 : Nat)] (by kernel_rfl) (by kernel_rfl) (by kernel_rfl) ⟨rfl, (by assumption), (show (S ++ T).length + r.body.length ≤ (9223372036854775807 : Nat) from (by assumption))⟩ ?_
    refine Wp.ret' (by kernel_rfl) ?_
    exact FinQ.pure (rs' := [V1.c (Cell.str (S ++ T ++ r.body))]) (by kernel_rfl) rfl (by kernel_rfl)
  | false =>
    rw [if_neg (by decide)]
    rw [hm] at c1
    clear hm h
    refine Wp.go (mx := true) (fun _ => mixed) [(1, {cs := [(1, pc c1)]})] 100 [true] [(!false) = true] (by kernel_rfl) (by kernel_rfl) (by kernel_rfl) rfl ?_
    refine Wp.ret' (by kernel_rfl) ?_
    exact FinQ.pure (rs' := [V1.c (Cell.str [])]) (by kernel_rfl) rfl (by kernel_rfl)
end Go.Proofs.Tw
end

section
open Go Go.Sv
namespace Go.Proofs.Tw
set_option maxRecDepth 100000
set_option maxHeartbeats 4000000

/-! what a tape brings is small -/
theorem pick_in (ss : List (List UInt8)) (ns : List Int) (a : Nat) (h : 0 < ss.length) : pickT ss ns a ∈ ss := by
  have h1 := nextV_rng ns a ss.length (by omega)
  unfold pickT
  rw [List.getD_eq_getElem?_getD, List.getElem?_eq_getElem (by omega)]
  exact List.getElem_mem _
theorem joinTail_le (c : UInt8) (B : Nat) : ∀ xs : List (List UInt8), (∀ x ∈ xs, x.length ≤ B) → (Lib.joinTail [c] xs).length ≤ xs.length * (B + 1)
  | [], _ => Nat.zero_le _
  | x :: r, h => by
    have ih := joinTail_le c B r (fun y hy => h y (List.mem_cons_of_mem _ hy))
    have hx := h x List.mem_cons_self
    unfold Lib.joinTail at ih ⊢
    rw [List.map_cons, List.flatten_cons, List.length_append, List.length_append, List.length_cons, List.length_cons, Nat.succ_mul]
    simp only [List.length_nil]
    omega
theorem join_le (c : UInt8) (B : Nat) (xs : List (List UInt8)) (h : ∀ x ∈ xs, x.length ≤ B) : (Lib.join xs [c]).length ≤ xs.length * (B + 1) := by
  cases xs with
  | nil => exact Nat.zero_le _
  | cons x r =>
    have ih := joinTail_le c B r (fun y hy => h y (List.mem_cons_of_mem _ hy))
    have hx := h x List.mem_cons_self
    rw [Lib.join_cons, List.length_append, List.length_cons, Nat.succ_mul]
    omega
structure Flat (v : JV) : Prop where
  h1 : v.names.length ≤ 3
  h2 : v.kids.length ≤ 3
  h3 : v.kind = 6 → v.kids.length ≤ v.names.length
  h4 : ∀ x ∈ v.names, x.length ≤ 2
  h5 : v.s.length ≤ 20
  h6 : -4611686018427387904 ≤ v.n
  h7 : v.n ≤ 4611686018427387904
  h8 : (Lib.itoa v.n).length ≤ 100
theorem fields_small (ns : List Int) : ∀ (k a : Nat) (l : List FT), (∀ f ∈ l, f.name.length ≤ 20 ∧ f.value.length ≤ 20) → (fldsN ns k a l).length ≤ l.length + k ∧ ∀ f ∈ fldsN ns k a l, f.name.length ≤ 20 ∧ f.value.length ≤ 20
  | 0, a, l, h => ⟨Nat.le_refl _, h⟩
  | k + 1, a, l, h => by
    unfold fldsN
    split
    · split
      · have := fields_small ns k (nextA ns (nextA ns a 9) 8) l h
        exact ⟨by omega, this.2⟩
      · have h1 : ∀ x ∈ names10, x.length ≤ 20 := by decide
        have h2 : ∀ x ∈ vals10, x.length ≤ 20 := by decide
        have := fields_small ns k (nextA ns (nextA ns a 9) 8) (l ++ [⟨pickT names10 ns a, pickT vals10 ns (nextA ns a 9)⟩]) (by
          intro f hf
          rcases List.mem_append.1 hf with hf | hf
          · exact h f hf
          · rcases List.mem_singleton.1 hf with rfl
            exact ⟨h1 _ (pick_in names10 ns a (by decide)), h2 _ (pick_in vals10 ns _ (by decide))⟩)
        rw [List.length_append] at this
        exact ⟨by have := this.1; simp only [List.length_cons, List.length_nil] at this; omega, this.2⟩
    · exact ⟨by omega, h⟩
theorem pctT_le (form : Bool) (s : List UInt8) : (pctT form s).length ≤ 3 * s.length := by
  have h := pctN_len form s s.length (Nat.le_refl _)
  rw [pctN_end] at h
  exact h.2
theorem query_small (l : List FT) (n : Nat) (hn : l.length ≤ n) (h : ∀ f ∈ l, f.name.length ≤ 20 ∧ f.value.length ≤ 20) : (printQ l).length ≤ n * 122 := by
  unfold printQ
  have := join_le 38 121 (l.map fieldQ) (by
    intro x hx
    obtain ⟨f, hf, rfl⟩ := List.mem_map.1 hx
    have := h f hf
    have a := pctT_le true f.name
    have b := pctT_le true f.value
    unfold fieldQ
    simp only [List.length_append, List.length_cons, List.length_nil]
    omega)
  rw [List.length_map] at this
  have := Nat.mul_le_mul_right 122 hn
  omega
theorem uri_fit (ns : List Int) : FitU (uriT ns) := by
  have r := nextV_rng ns (nextA ns (nextA ns 0 7) 6) 6 (by decide)
  have h1 : ∀ x ∈ hostsU, x.length ≤ 20 := by decide
  have h2 : ∀ x ∈ pathsU, x.length ≤ 20 := by decide
  have a := h1 _ (pick_in hostsU ns 0 (by decide))
  have b := h2 _ (pick_in pathsU ns (nextA ns 0 7) (by decide))
  have c := fields_small ns (nextV ns (nextA ns (nextA ns 0 7) 6) 6).toNat 0 [] (by intro f hf; cases hf)
  have d : (fldsN ns (nextV ns (nextA ns (nextA ns 0 7) 6) 6).toNat 0 []).length ≤ 6 := by have := c.1; simp only [List.length_nil] at this; omega
  have e := query_small _ 6 d c.2
  exact ⟨by show (pickT hostsU ns 0).length ≤ _; omega, by show (pickT pathsU ns (nextA ns 0 7)).length ≤ _; omega, by show (fldsN ns _ 0 []).length < _; omega, by show (printQ (fldsN ns _ 0 [])).length ≤ _; omega⟩
end Go.Proofs.Tw
end

section
open Go Go.Sv Go.RowKit
namespace Go.Proofs.Tw
attribute [local irreducible] Wp FinQ resV Ent Pur Go.Sv.Fn Sat0
set_option maxRecDepth 100000
set_option maxHeartbeats 4000000
variable {G : Nat → Option (List Cell)}

/-! what a tape brings: fields of a head, requests, responses -/
def nmsH : List (List UInt8) := [[99, 111, 111, 107, 105, 101], [99, 111, 110, 116, 101, 110, 116, 45, 116, 121, 112, 101], [97, 117, 116, 104, 111, 114, 105, 122, 97, 116, 105, 111, 110], [120, 45, 97], [115, 101, 116, 45, 99, 111, 111, 107, 105, 101], [108, 111, 99, 97, 116, 105, 111, 110]]
def valsH : List (List UInt8) := [[], [97], [115, 105, 100, 61, 126, 65, 103, 65, 65, 65, 65, 69, 126], [97, 112, 112, 108, 105, 99, 97, 116, 105, 111, 110, 47, 120, 45, 119, 119, 119, 45, 102, 111, 114, 109, 45, 117, 114, 108, 101, 110, 99, 111, 100, 101, 100], [66, 101, 97, 114, 101, 114, 32, 126, 65, 103, 65, 65, 65, 65, 69, 126], [97, 58, 32, 98], [32, 32]]
def fldH (ns : List Int) (a : Nat) : FT := ⟨pickT nmsH ns a, pickT valsH ns (nextA ns a 6)⟩
def hdG (ns : List Int) : Nat → Nat → List FT → List FT × Nat
  | 0, a, l => (l, a)
  | k + 1, a, l => hdG ns k (nextA ns (nextA ns a 6) 7) (if (fGet l (fldH ns a).name).isSome then l else l ++ [fldH ns a])
def headG (ns : List Int) (a : Nat) : List FT × Nat := hdG ns (nextV ns a 4).toNat (nextA ns a 4) []
theorem headG_ok (ns : List Int) (a : Nat) (hl : ns.length ≤ 9223372036854775807) : FnB Tryz.prog G 47 [tapeB ns a] [.c (.ptr 0 0)] [.c (encH (headG ns a).1)] [(0, tapeB ns (headG ns a).2)] := by
  refine Fn.of' Tryz.func47 (by kernel_rfl) (by kernel_rfl) (by kernel_rfl) (by kernel_rfl) trivial ?_
  have rn := nextV_rng ns a 4 (by decide)
  have c1 := next_ok (G := G) ns a 4 hl (by omega)
  obtain ⟨m, hm⟩ := Int.eq_ofNat_of_zero_le rn.1
  have hm4 : m < 4 := by omega
  unfold headG
  rw [hm] at c1 ⊢
  rw [show ((m : Int)).toNat = m from by omega]
  generalize hR : hdG ns m (nextA ns a 4) [] = R
  refine Wp.go (mx := true) (fun _ => mixed) [(2, {cs := [(1, cb [0] c1)]})] 100 [] [] (by kernel_rfl) (by kernel_rfl) (by kernel_rfl) trivial ?_
  refine Wp.loopK (by kernel_rfl) (fun (x : Nat × Nat × Nat × List FT) => ⟨[(0, .v (.c (.ptr 0 0))), (3, .v (.c (.row 2 81 0 x.2.2.1))), (4, .v (.c (.int .i64 (x.1 : Int))))], [(0, tapeB ns x.2.1), (81, .row 40 2 x.2.2.1 (rowF encF .nil x.2.2.2))], 97⟩) (fun x => x.1 ≤ 3 ∧ x.2.2.1 = x.2.2.2.length ∧ x.2.2.1 + x.1 ≤ 3 ∧ hdG ns x.1 x.2.1 x.2.2.2 = R) (fun x => x.1) (m, nextA ns a 4, 0, []) (Ent.trans (Ent.empT (t := 3) (sz := 2) (e := 40) (f := (rowF encF .nil [])) (by decide) (by kernel_rfl) rfl) (Ent.of [] (by kernel_rfl) (by kernel_rfl) (by kernel_rfl) trivial)) ⟨by omega, rfl, (by show 0 + m ≤ 3; omega), hR⟩ ?_
  rintro ⟨i, b, n, l⟩ L ⟨hi, hn, hs, hq⟩ again
  simp only at hi hn hs hq
  rcases i with _ | j
  · have hr : R = (l, b) := hq.symm
    rw [hr]
    subst hn
    clear again hq hr hR
    refine Wp.ent' (by kernel_rfl) (Ent.pubT (e := 40) (sz := 2) (id := 81) (t := 3) (off := 0) (m := l.length) (n := l.length) (f := (rowF encF .nil l)) (m' := l.length) (f' := (fun i j => nthD (encF (l.getD i .nil)) j)) (by kernel_rfl) (by kernel_rfl) (by omega) rfl (fun i _ j _ => by rw [Nat.zero_add]; rfl) rfl) ?_
    refine Wp.go (mx := true) (fun _ => mixed) [] 100 [false] [decide ((↑(0 : Nat) : Int) > (0 : Int)) = false] (by kernel_rfl) (by kernel_rfl) (by kernel_rfl) rfl ?_
    refine Wp.ret' (by kernel_rfl) ?_
    exact FinQ.blk [] (by kernel_rfl) (by kernel_rfl) (by kernel_rfl) (by kernel_rfl) (by kernel_rfl) trivial
  · have e1 : EqvD (.c (.sl 1 6 (fun i j => nthD [Cell.str [99, 111, 111, 107, 105, 101], Cell.str [99, 111, 110, 116, 101, 110, 116, 45, 116, 121, 112, 101], Cell.str [97, 117, 116, 104, 111, 114, 105, 122, 97, 116, 105, 111, 110], Cell.str [120, 45, 97], Cell.str [115, 101, 116, 45, 99, 111, 111, 107, 105, 101], Cell.str [108, 111, 99, 97, 116, 105, 111, 110]] (i * 1 + j)))) (.c (.sl 1 nmsH.length (strsF nmsH))) := strs_lit nmsH rfl rfl
    have e2 : EqvD (.c (.sl 1 7 (fun i j => nthD [Cell.str [], Cell.str [97], Cell.str [115, 105, 100, 61, 126, 65, 103, 65, 65, 65, 65, 69, 126], Cell.str [97, 112, 112, 108, 105, 99, 97, 116, 105, 111, 110, 47, 120, 45, 119, 119, 119, 45, 102, 111, 114, 109, 45, 117, 114, 108, 101, 110, 99, 111, 100, 101, 100], Cell.str [66, 101, 97, 114, 101, 114, 32, 126, 65, 103, 65, 65, 65, 65, 69, 126], Cell.str [97, 58, 32, 98], Cell.str [32, 32]] (i * 1 + j)))) (.c (.sl 1 valsH.length (strsF valsH))) := strs_lit valsH rfl rfl
    have p1 := pick_ok (G := G) nmsH ns b hl (by decide)
    have p2 := pick_ok (G := G) valsH ns (nextA ns b 6) hl (by decide)
    have hc := has10_n (G := G) l n (fldH ns b).name hn (by omega)
    have e7 : EqvD (V1.c (Cell.int .i64 (((j + 1 : Nat) : Int) - 1))) (.c (.int .i64 (j : Int))) := eqvD_of (by rw [show ((j + 1 : Nat) : Int) - 1 = (j : Int) from by omega])
    cases hg : (fGet l (fldH ns b).name).isSome with
    | true =>
      rw [hg] at hc
      have hq : hdG ns j (nextA ns (nextA ns b 6) 7) l = R := by rw [← hq, hdG, hg, if_pos rfl]
      clear hg hR
      refine Wp.go (mx := true) (fun _ => mixed) [(5, {cs := [(2, cb [0] p1), (5, cb [0] p2)], fm := [(1, .c (.sl 1 nmsH.length (strsF nmsH))), (4, .c (.sl 1 valsH.length (strsF valsH)))]}), (4, {fm := [(1, .c (.int .i64 (j : Int)))]}), (6, {cs := [(3, lc [81] [Blk.row 40 (2 : Nat) n fun (i j : Nat) => nthD [Cell.str (l.getD i FT.nil).name, Cell.str (l.getD i FT.nil).value] j] [V1.c (Cell.row (2 : Nat) (0 : Nat) (0 : Nat) n), V1.c (Cell.str (nmsH.getD (nextV ns b (↑nmsH.length : Int)).toNat []))] hc (by kernel_rfl) (by kernel_rfl) (by kernel_rfl) (show (0 : Nat) + n ≤ n from (by omega)))]})] 100 [true, false] [decide ((↑(j + (1 : Nat)) : Int) > (0 : Int)) = true, EqvI (V1.c (Cell.sl (1 : Nat) (6 : Nat) fun (i j : Nat) => nthD [Cell.str [(99 : UInt8), 111, 111, 107, 105, 101], Cell.str [(99 : UInt8), 111, 110, 116, 101, 110, 116, 45, 116, 121, 112, 101], Cell.str [(97 : UInt8), 117, 116, 104, 111, 114, 105, 122, 97, 116, 105, 111, 110], Cell.str [(120 : UInt8), 45, 97], Cell.str [(115 : UInt8), 101, 116, 45, 99, 111, 111, 107, 105, 101], Cell.str [(108 : UInt8), 111, 99, 97, 116, 105, 111, 110]] (i * (1 : Nat) + j))) (V1.c (Cell.sl (1 : Nat) nmsH.length (strsF nmsH))), EqvD (V1.c (Cell.sl (1 : Nat) (6 : Nat) fun (i j : Nat) => nthD [Cell.str [(99 : UInt8), 111, 111, 107, 105, 101], Cell.str [(99 : UInt8), 111, 110, 116, 101, 110, 116, 45, 116, 121, 112, 101], Cell.str [(97 : UInt8), 117, 116, 104, 111, 114, 105, 122, 97, 116, 105, 111, 110], Cell.str [(120 : UInt8), 45, 97], Cell.str [(115 : UInt8), 101, 116, 45, 99, 111, 111, 107, 105, 101], Cell.str [(108 : UInt8), 111, 99, 97, 116, 105, 111, 110]] (i * (1 : Nat) + j))) (V1.c (Cell.sl (1 : Nat) nmsH.length (strsF nmsH))), EqvI (V1.c (Cell.sl (1 : Nat) (7 : Nat) fun (i j : Nat) => nthD [Cell.str [], Cell.str [(97 : UInt8)], Cell.str [(115 : UInt8), 105, 100, 61, 126, 65, 103, 65, 65, 65, 65, 69, 126], Cell.str [(97 : UInt8), 112, 112, 108, 105, 99, 97, 116, 105, 111, 110, 47, 120, 45, 119, 119, 119, 45, 102, 111, 114, 109, 45, 117, 114, 108, 101, 110, 99, 111, 100, 101, 100], Cell.str [(66 : UInt8), 101, 97, 114, 101, 114, 32, 126, 65, 103, 65, 65, 65, 65, 69, 126], Cell.str [(97 : UInt8), 58, 32, 98], Cell.str [(32 : UInt8), 32]] (i * (1 : Nat) + j))) (V1.c (Cell.sl (1 : Nat) valsH.length (strsF valsH))), EqvD (V1.c (Cell.sl (1 : Nat) (7 : Nat) fun (i j : Nat) => nthD [Cell.str [], Cell.str [(97 : UInt8)], Cell.str [(115 : UInt8), 105, 100, 61, 126, 65, 103, 65, 65, 65, 65, 69, 126], Cell.str [(97 : UInt8), 112, 112, 108, 105, 99, 97, 116, 105, 111, 110, 47, 120, 45, 119, 119, 119, 45, 102, 111, 114, 109, 45, 117, 114, 108, 101, 110, 99, 111, 100, 101, 100], Cell.str [(66 : UInt8), 101, 97, 114, 101, 114, 32, 126, 65, 103, 65, 65, 65, 65, 69, 126], Cell.str [(97 : UInt8), 58, 32, 98], Cell.str [(32 : UInt8), 32]] (i * (1 : Nat) + j))) (V1.c (Cell.sl (1 : Nat) valsH.length (strsF valsH))), (!true) = false, EqvI (V1.c (Cell.int .i64 ((↑(j + (1 : Nat)) : Int) - (1 : Int)))) (V1.c (Cell.int .i64 (↑j : Int))), EqvD (V1.c (Cell.int .i64 ((↑(j + (1 : Nat)) : Int) - (1 : Int)))) (V1.c (Cell.int .i64 (↑j : Int))), inR IntKind.i64 ((↑(j + (1 : Nat)) : Int) - (1 : Int))] (by kernel_rfl) (by kernel_rfl) (by kernel_rfl) ⟨(by simp; done), fun _ _ => trivial, (by assumption), fun _ _ => trivial, (by assumption), rfl, fun _ _ => trivial, (by assumption), inR64 (by omega) (by omega)⟩ ?_
      exact Wp.lpK (by kernel_rfl) (again _ (j, nextA ns (nextA ns b 6) 7, n, l) ⟨(by omega), ⟨(by assumption), ⟨(by simp; omega), (by assumption)⟩⟩⟩ (by omega) (Ent.of [] (by kernel_rfl) (by kernel_rfl) (by kernel_rfl) trivial))
    | false =>
      rw [hg] at hc
      have hq : hdG ns j (nextA ns (nextA ns b 6) 7) (l ++ [fldH ns b]) = R := by rw [← hq, hdG, hg, if_neg (by decide)]
      have e3 : BlkEqv (.row 40 2 (n + 1) (catF n (rowF encF .nil l) (fun i j => nthD (encF (fldH ns b)) ((0 + i) * 2 + j)))) (.row 40 2 (n + 1) (rowF encF .nil (l ++ [fldH ns b]))) := enc_app l _ hn
      have q2 : n + 1 = (l ++ [fldH ns b]).length := by simp [hn]
      clear hg hR
      refine Wp.go (mx := true) (fun _ => mixed) [(5, {cs := [(2, cb [0] p1), (5, cb [0] p2)], fm := [(1, .c (.sl 1 nmsH.length (strsF nmsH))), (4, .c (.sl 1 valsH.length (strsF valsH)))]}), (7, {bs := [(3, Blk.row 40 2 (n + 1) (rowF encF .nil (l ++ [fldH ns b])))]}), (4, {fm := [(1, .c (.int .i64 (j : Int)))]}), (6, {cs := [(3, lc [81] [Blk.row 40 (2 : Nat) n fun (i j : Nat) => nthD [Cell.str (l.getD i FT.nil).name, Cell.str (l.getD i FT.nil).value] j] [V1.c (Cell.row (2 : Nat) (0 : Nat) (0 : Nat) n), V1.c (Cell.str (nmsH.getD (nextV ns b (↑nmsH.length : Int)).toNat []))] hc (by kernel_rfl) (by kernel_rfl) (by kernel_rfl) (show (0 : Nat) + n ≤ n from (by omega)))]})] 100 [true, true] [decide ((↑(j + (1 : Nat)) : Int) > (0 : Int)) = true, EqvI (V1.c (Cell.sl (1 : Nat) (6 : Nat) fun (i j : Nat) => nthD [Cell.str [(99 : UInt8), 111, 111, 107, 105, 101], Cell.str [(99 : UInt8), 111, 110, 116, 101, 110, 116, 45, 116, 121, 112, 101], Cell.str [(97 : UInt8), 117, 116, 104, 111, 114, 105, 122, 97, 116, 105, 111, 110], Cell.str [(120 : UInt8), 45, 97], Cell.str [(115 : UInt8), 101, 116, 45, 99, 111, 111, 107, 105, 101], Cell.str [(108 : UInt8), 111, 99, 97, 116, 105, 111, 110]] (i * (1 : Nat) + j))) (V1.c (Cell.sl (1 : Nat) nmsH.length (strsF nmsH))), EqvD (V1.c (Cell.sl (1 : Nat) (6 : Nat) fun (i j : Nat) => nthD [Cell.str [(99 : UInt8), 111, 111, 107, 105, 101], Cell.str [(99 : UInt8), 111, 110, 116, 101, 110, 116, 45, 116, 121, 112, 101], Cell.str [(97 : UInt8), 117, 116, 104, 111, 114, 105, 122, 97, 116, 105, 111, 110], Cell.str [(120 : UInt8), 45, 97], Cell.str [(115 : UInt8), 101, 116, 45, 99, 111, 111, 107, 105, 101], Cell.str [(108 : UInt8), 111, 99, 97, 116, 105, 111, 110]] (i * (1 : Nat) + j))) (V1.c (Cell.sl (1 : Nat) nmsH.length (strsF nmsH))), EqvI (V1.c (Cell.sl (1 : Nat) (7 : Nat) fun (i j : Nat) => nthD [Cell.str [], Cell.str [(97 : UInt8)], Cell.str [(115 : UInt8), 105, 100, 61, 126, 65, 103, 65, 65, 65, 65, 69, 126], Cell.str [(97 : UInt8), 112, 112, 108, 105, 99, 97, 116, 105, 111, 110, 47, 120, 45, 119, 119, 119, 45, 102, 111, 114, 109, 45, 117, 114, 108, 101, 110, 99, 111, 100, 101, 100], Cell.str [(66 : UInt8), 101, 97, 114, 101, 114, 32, 126, 65, 103, 65, 65, 65, 65, 69, 126], Cell.str [(97 : UInt8), 58, 32, 98], Cell.str [(32 : UInt8), 32]] (i * (1 : Nat) + j))) (V1.c (Cell.sl (1 : Nat) valsH.length (strsF valsH))), EqvD (V1.c (Cell.sl (1 : Nat) (7 : Nat) fun (i j : Nat) => nthD [Cell.str [], Cell.str [(97 : UInt8)], Cell.str [(115 : UInt8), 105, 100, 61, 126, 65, 103, 65, 65, 65, 65, 69, 126], Cell.str [(97 : UInt8), 112, 112, 108, 105, 99, 97, 116, 105, 111, 110, 47, 120, 45, 119, 119, 119, 45, 102, 111, 114, 109, 45, 117, 114, 108, 101, 110, 99, 111, 100, 101, 100], Cell.str [(66 : UInt8), 101, 97, 114, 101, 114, 32, 126, 65, 103, 65, 65, 65, 65, 69, 126], Cell.str [(97 : UInt8), 58, 32, 98], Cell.str [(32 : UInt8), 32]] (i * (1 : Nat) + j))) (V1.c (Cell.sl (1 : Nat) valsH.length (strsF valsH))), (!false) = true, (n + (1 : Nat)) * (32 : Nat) ≤ (140737488355328 : Nat), BlkEqv (Blk.row 40 (2 : Nat) (n + (1 : Nat)) (catF n (fun (i j : Nat) => nthD [Cell.str (l.getD i FT.nil).name, Cell.str (l.getD i FT.nil).value] j) fun (i j : Nat) => nthD [Cell.str (nmsH.getD (nextV ns b (↑nmsH.length : Int)).toNat []), Cell.str (valsH.getD (nextV ns (nextA ns b (6 : Int)) (↑valsH.length : Int)).toNat [])] (((0 : Nat) + i) * (2 : Nat) + j))) (Blk.row 40 (2 : Nat) (n + (1 : Nat)) (rowF encF FT.nil (l ++ [fldH ns b]))), n ≤ n, (0 : Nat) + (1 : Nat) ≤ (1 : Nat), EqvI (V1.c (Cell.int .i64 ((↑(j + (1 : Nat)) : Int) - (1 : Int)))) (V1.c (Cell.int .i64 (↑j : Int))), EqvD (V1.c (Cell.int .i64 ((↑(j + (1 : Nat)) : Int) - (1 : Int)))) (V1.c (Cell.int .i64 (↑j : Int))), inR IntKind.i64 ((↑(j + (1 : Nat)) : Int) - (1 : Int))] (by kernel_rfl) (by kernel_rfl) (by kernel_rfl) ⟨(by simp; done), fun _ _ => trivial, (by assumption), fun _ _ => trivial, (by assumption), rfl, (by omega), (by assumption), (by omega), (by omega), fun _ _ => trivial, (by assumption), inR64 (by omega) (by omega)⟩ ?_
      exact Wp.lpK (by kernel_rfl) (again _ (j, nextA ns (nextA ns b 6) 7, n + 1, l ++ [fldH ns b]) ⟨(by omega), ⟨(by assumption), ⟨(by simp; omega), (by assumption)⟩⟩⟩ (by omega) (Ent.of [(81, 401)] (by kernel_rfl) (by kernel_rfl) (by kernel_rfl) trivial))
/-- Fields that may be a head's, short, of unlike names. -/
def OkG (l : List FT) : Prop := (∀ f ∈ l, okF f = true ∧ f.name.length ≤ 40 ∧ f.value.length ≤ 40) ∧ l.Pairwise (fun x y => x.name ≠ y.name)
theorem fldH_ok (ns : List Int) (a : Nat) : okF (fldH ns a) = true ∧ (fldH ns a).name.length ≤ 40 ∧ (fldH ns a).value.length ≤ 40 := by
  have h1 := pick_in nmsH ns a (by decide)
  have h2 := pick_in valsH ns (nextA ns a 6) (by decide)
  have all : ∀ x ∈ nmsH, ∀ y ∈ valsH, (okF ⟨x, y⟩ && (decide (x.length ≤ 40) && decide (y.length ≤ 40))) = true := by
    have : (nmsH.all fun x => valsH.all fun y => okF ⟨x, y⟩ && (decide (x.length ≤ 40) && decide (y.length ≤ 40))) = true := (by kernel_rfl)
    intro x hx y hy
    exact List.all_eq_true.1 (List.all_eq_true.1 this x hx) y hy
  have := all _ h1 _ h2
  simp only [Bool.and_eq_true, decide_eq_true_eq] at this
  exact this
theorem fGet_no {l : List FT} {n : List UInt8} (h : (fGet l n).isSome = false) : ∀ f ∈ l, f.name ≠ n := by
  intro f hf he
  rw [← fGet_con] at h
  have : (l.map (·.name)).contains n = true := by rw [List.contains_iff_mem]; exact List.mem_map.2 ⟨f, hf, he⟩
  rw [h] at this
  cases this
theorem hdG_ok (ns : List Int) : ∀ (k a : Nat) (l : List FT), OkG l → OkG (hdG ns k a l).1 ∧ (hdG ns k a l).1.length ≤ l.length + k
  | 0, a, l, h => ⟨h, Nat.le_refl _⟩
  | k + 1, a, l, h => by
    unfold hdG
    split
    · obtain ⟨h1, h2⟩ := hdG_ok ns k (nextA ns (nextA ns a 6) 7) l h
      exact ⟨h1, by omega⟩
    · rename_i hg
      have hn := fGet_no (by simpa using hg : (fGet l (fldH ns a).name).isSome = false)
      have hok : OkG (l ++ [fldH ns a]) := by
        refine ⟨fun f hf => ?_, ?_⟩
        · rcases List.mem_append.1 hf with hf | hf
          · exact h.1 f hf
          · rw [List.mem_singleton.1 hf]; exact fldH_ok ns a
        · rw [List.pairwise_append]
          refine ⟨h.2, List.pairwise_singleton _ _, fun x hx y hy => ?_⟩
          rw [List.mem_singleton.1 hy]
          exact hn x hx
      obtain ⟨h1, h2⟩ := hdG_ok ns k (nextA ns (nextA ns a 6) 7) _ hok
      rw [List.length_append] at h2
      exact ⟨h1, by simp at h2; omega⟩
theorem headG_facts (ns : List Int) (a : Nat) : OkG (headG ns a).1 ∧ (headG ns a).1.length ≤ 3 := by
  have h := hdG_ok ns (nextV ns a 4).toNat (nextA ns a 4) [] ⟨fun f hf => (by cases hf), List.Pairwise.nil⟩
  have rn := nextV_rng ns a 4 (by decide)
  exact ⟨h.1, by have := h.2; unfold headG; simp only [List.length_nil] at this; omega⟩
def metsQ : List (List UInt8) := [[71, 69, 84], [80, 79, 83, 84], [65], [65, 66, 67, 68, 69, 70, 71, 72, 73, 74, 75, 76, 77, 78, 79, 80]]
def tgtsQ : List (List UInt8) := [[47], [47, 115, 116, 97, 114, 116, 63, 105, 115, 115, 61, 97, 115], [47, 112, 97, 114], [42], [97, 126, 98]]
def bodsQ (ns : List Int) : List (List UInt8) := [[97, 61, 98], [120], [0, 255], printQ (fldsT ns 4)]
def a2Q (ns : List Int) : Nat := nextA ns (nextA ns 0 4) 5
def a3Q (ns : List Int) : Nat := (headG ns (a2Q ns)).2
def askG (ns : List Int) : QT := ⟨pickT metsQ ns 0, pickT tgtsQ ns (nextA ns 0 4), (headG ns (a2Q ns)).1, if nextV ns (a3Q ns) 2 = 1 then pickT (bodsQ ns) ns (nextA ns (a3Q ns) 2) else []⟩
theorem askG_ok (ns : List Int) (hl : ns.length ≤ 9223372036854775807) : Pur Tryz.prog G 15 [.c (.sl 1 ns.length (intsF ns))] [.agg (encQ (askG ns))] := by
  refine Pur.of Tryz.func15 (by kernel_rfl) (by kernel_rfl) (by kernel_rfl) ?_
  have e1 : EqvD (.c (.sl 1 4 (fun i j => nthD [Cell.str [71, 69, 84], Cell.str [80, 79, 83, 84], Cell.str [65], Cell.str [65, 66, 67, 68, 69, 70, 71, 72, 73, 74, 75, 76, 77, 78, 79, 80]] (i * 1 + j)))) (.c (.sl 1 metsQ.length (strsF metsQ))) := strs_lit metsQ rfl rfl
  have e2 : EqvD (.c (.sl 1 5 (fun i j => nthD [Cell.str [47], Cell.str [47, 115, 116, 97, 114, 116, 63, 105, 115, 115, 61, 97, 115], Cell.str [47, 112, 97, 114], Cell.str [42], Cell.str [97, 126, 98]] (i * 1 + j)))) (.c (.sl 1 tgtsQ.length (strsF tgtsQ))) := strs_lit tgtsQ rfl rfl
  have e3 : EqvD (.c (.sl 1 4 (fun i j => nthD ((bodsQ ns).map Cell.str) (i * 1 + j)))) (.c (.sl 1 (bodsQ ns).length (strsF (bodsQ ns)))) := strs_lit (bodsQ ns) rfl rfl
  have p1 := pick_ok (G := G) metsQ ns 0 hl (by decide)
  have p2 := pick_ok (G := G) tgtsQ ns (nextA ns 0 4) hl (by decide)
  have c3 := headG_ok (G := G) ns (a2Q ns) hl
  have c4 := next_ok (G := G) ns (a3Q ns) 2 hl (by omega)
  have p5 := pick_ok (G := G) (bodsQ ns) ns (nextA ns (a3Q ns) 2) hl (by show (4 : Nat) < _; decide)
  have c6 := flds_i (G := G) ns 4 hl (by decide) (by decide)
  have fs := fields_small ns 4 0 [] (by intro f hf; cases hf)
  have hfl : (fldsT ns 4).length ≤ 4 := by have := fs.1; unfold fldsT; simp only [List.length_nil] at this; omega
  have hpl := query_small (fldsT ns 4) 4 hfl fs.2
  have c7 := print10_ok (G := G) (fldsT ns 4) (by omega) (by omega)
  unfold askG
  by_cases hb : nextV ns (a3Q ns) 2 = 1
  · rw [if_pos hb]
    have ht : (nextV ns (a3Q ns) 2 == 1) = true := by rw [hb]; rfl
    clear hb fs
    refine Wp.go (mx := true) (fun _ => mixed) [(2, {cs := [(2, cb [48] p1), (5, cb [48] p2), (7, cb [48] c3)], fm := [(1, .c (.sl 1 metsQ.length (strsF metsQ))), (4, .c (.sl 1 tgtsQ.length (strsF tgtsQ)))]}), (4, {cs := [(2, pc c6), (3, pc c7), (5, cb [48] p5)], fm := [(4, .c (.sl 1 (bodsQ ns).length (strsF (bodsQ ns))))]}), (3, {cs := [(1, cb [48] c4)]})] 100 [true] [EqvI (V1.c (Cell.sl (1 : Nat) (4 : Nat) fun (i j : Nat) => nthD [Cell.str [(71 : UInt8), 69, 84], Cell.str [(80 : UInt8), 79, 83, 84], Cell.str [(65 : UInt8)], Cell.str [(65 : UInt8), 66, 67, 68, 69, 70, 71, 72, 73, 74, 75, 76, 77, 78, 79, 80]] (i * (1 : Nat) + j))) (V1.c (Cell.sl (1 : Nat) metsQ.length (strsF metsQ))), EqvD (V1.c (Cell.sl (1 : Nat) (4 : Nat) fun (i j : Nat) => nthD [Cell.str [(71 : UInt8), 69, 84], Cell.str [(80 : UInt8), 79, 83, 84], Cell.str [(65 : UInt8)], Cell.str [(65 : UInt8), 66, 67, 68, 69, 70, 71, 72, 73, 74, 75, 76, 77, 78, 79, 80]] (i * (1 : Nat) + j))) (V1.c (Cell.sl (1 : Nat) metsQ.length (strsF metsQ))), EqvI (V1.c (Cell.sl (1 : Nat) (5 : Nat) fun (i j : Nat) => nthD [Cell.str [(47 : UInt8)], Cell.str [(47 : UInt8), 115, 116, 97, 114, 116, 63, 105, 115, 115, 61, 97, 115], Cell.str [(47 : UInt8), 112, 97, 114], Cell.str [(42 : UInt8)], Cell.str [(97 : UInt8), 126, 98]] (i * (1 : Nat) + j))) (V1.c (Cell.sl (1 : Nat) tgtsQ.length (strsF tgtsQ))), EqvD (V1.c (Cell.sl (1 : Nat) (5 : Nat) fun (i j : Nat) => nthD [Cell.str [(47 : UInt8)], Cell.str [(47 : UInt8), 115, 116, 97, 114, 116, 63, 105, 115, 115, 61, 97, 115], Cell.str [(47 : UInt8), 112, 97, 114], Cell.str [(42 : UInt8)], Cell.str [(97 : UInt8), 126, 98]] (i * (1 : Nat) + j))) (V1.c (Cell.sl (1 : Nat) tgtsQ.length (strsF tgtsQ))), (nextV ns (a3Q ns) (2 : Int) == (1 : Int)) = true, EqvI (V1.c (Cell.sl (1 : Nat) (4 : Nat) fun (i j : Nat) => nthD [Cell.str [(97 : UInt8), 61, 98], Cell.str [(120 : UInt8)], Cell.str [(0 : UInt8), 255], Cell.str (printQ (fldsT ns (4 : Nat)))] (i * (1 : Nat) + j))) (V1.c (Cell.sl (1 : Nat) (bodsQ ns).length (strsF (bodsQ ns)))), EqvD (V1.c (Cell.sl (1 : Nat) (4 : Nat) fun (i j : Nat) => nthD [Cell.str [(97 : UInt8), 61, 98], Cell.str [(120 : UInt8)], Cell.str [(0 : UInt8), 255], Cell.str (printQ (fldsT ns (4 : Nat)))] (i * (1 : Nat) + j))) (V1.c (Cell.sl (1 : Nat) (bodsQ ns).length (strsF (bodsQ ns))))] (by kernel_rfl) (by kernel_rfl) (by kernel_rfl) ⟨fun _ _ => trivial, (by assumption), fun _ _ => trivial, (by assumption), (by assumption), fun _ _ => trivial, (show EqvD (V1.c (Cell.sl (1 : Nat) (4 : Nat) fun (i j : Nat) => nthD [Cell.str [(97 : UInt8), 61, 98], Cell.str [(120 : UInt8)], Cell.str [(0 : UInt8), 255], Cell.str (printQ (fldsT ns (4 : Nat)))] (i * (1 : Nat) + j))) (V1.c (Cell.sl (1 : Nat) (bodsQ ns).length (strsF (bodsQ ns)))) from (by assumption))⟩ ?_
    refine Wp.ret' (by kernel_rfl) ?_
    exact FinQ.pure (rs' := [V1.agg [Cell.str (metsQ.getD (nextV ns (0 : Nat) (↑metsQ.length : Int)).toNat []), Cell.str (tgtsQ.getD (nextV ns (nextA ns (0 : Nat) (4 : Int)) (↑tgtsQ.length : Int)).toNat []), Cell.sl (2 : Nat) (headG ns (a2Q ns)).1.length fun (i j : Nat) => nthD [Cell.str ((headG ns (a2Q ns)).1.getD i FT.nil).name, Cell.str ((headG ns (a2Q ns)).1.getD i FT.nil).value] j, Cell.str ((bodsQ ns).getD (nextV ns (nextA ns (a3Q ns) (2 : Int)) (↑(bodsQ ns).length : Int)).toNat [])]]) (by kernel_rfl) rfl (by kernel_rfl)
  · rw [if_neg hb]
    have ht : (nextV ns (a3Q ns) 2 == 1) = false := by rw [beq_eq_false_iff_ne]; exact hb
    clear hb fs
    refine Wp.go (mx := true) (fun _ => mixed) [(2, {cs := [(2, cb [48] p1), (5, cb [48] p2), (7, cb [48] c3)], fm := [(1, .c (.sl 1 metsQ.length (strsF metsQ))), (4, .c (.sl 1 tgtsQ.length (strsF tgtsQ)))]}), (3, {cs := [(1, cb [48] c4)]})] 100 [false] [EqvI (V1.c (Cell.sl (1 : Nat) (4 : Nat) fun (i j : Nat) => nthD [Cell.str [(71 : UInt8), 69, 84], Cell.str [(80 : UInt8), 79, 83, 84], Cell.str [(65 : UInt8)], Cell.str [(65 : UInt8), 66, 67, 68, 69, 70, 71, 72, 73, 74, 75, 76, 77, 78, 79, 80]] (i * (1 : Nat) + j))) (V1.c (Cell.sl (1 : Nat) metsQ.length (strsF metsQ))), EqvD (V1.c (Cell.sl (1 : Nat) (4 : Nat) fun (i j : Nat) => nthD [Cell.str [(71 : UInt8), 69, 84], Cell.str [(80 : UInt8), 79, 83, 84], Cell.str [(65 : UInt8)], Cell.str [(65 : UInt8), 66, 67, 68, 69, 70, 71, 72, 73, 74, 75, 76, 77, 78, 79, 80]] (i * (1 : Nat) + j))) (V1.c (Cell.sl (1 : Nat) metsQ.length (strsF metsQ))), EqvI (V1.c (Cell.sl (1 : Nat) (5 : Nat) fun (i j : Nat) => nthD [Cell.str [(47 : UInt8)], Cell.str [(47 : UInt8), 115, 116, 97, 114, 116, 63, 105, 115, 115, 61, 97, 115], Cell.str [(47 : UInt8), 112, 97, 114], Cell.str [(42 : UInt8)], Cell.str [(97 : UInt8), 126, 98]] (i * (1 : Nat) + j))) (V1.c (Cell.sl (1 : Nat) tgtsQ.length (strsF tgtsQ))), EqvD (V1.c (Cell.sl (1 : Nat) (5 : Nat) fun (i j : Nat) => nthD [Cell.str [(47 : UInt8)], Cell.str [(47 : UInt8), 115, 116, 97, 114, 116, 63, 105, 115, 115, 61, 97, 115], Cell.str [(47 : UInt8), 112, 97, 114], Cell.str [(42 : UInt8)], Cell.str [(97 : UInt8), 126, 98]] (i * (1 : Nat) + j))) (V1.c (Cell.sl (1 : Nat) tgtsQ.length (strsF tgtsQ))), (nextV ns (a3Q ns) (2 : Int) == (1 : Int)) = false] (by kernel_rfl) (by kernel_rfl) (by kernel_rfl) ⟨fun _ _ => trivial, (by assumption), fun _ _ => trivial, (by assumption), (show (nextV ns (a3Q ns) (2 : Int) == (1 : Int)) = false from (by assumption))⟩ ?_
    refine Wp.ret' (by kernel_rfl) ?_
    exact FinQ.pure (rs' := [V1.agg [Cell.str (metsQ.getD (nextV ns (0 : Nat) (↑metsQ.length : Int)).toNat []), Cell.str (tgtsQ.getD (nextV ns (nextA ns (0 : Nat) (4 : Int)) (↑tgtsQ.length : Int)).toNat []), Cell.sl (2 : Nat) (headG ns (a2Q ns)).1.length fun (i j : Nat) => nthD [Cell.str ((headG ns (a2Q ns)).1.getD i FT.nil).name, Cell.str ((headG ns (a2Q ns)).1.getD i FT.nil).value] j, Cell.str []]]) (by kernel_rfl) rfl (by kernel_rfl)
def statL : List Int := [200, 302, 400, 401, 403, 404, 405, 413, 503, 100, 599, 201]
def bodsR : List (List UInt8) := [[123, 125], [120], [13, 10, 13, 10], [123, 34, 112, 97, 103, 101, 34, 58, 34, 108, 111, 103, 105, 110, 34, 125]]
def a1R (ns : List Int) : Nat := (headG ns (nextA ns 0 12)).2
def tellG (ns : List Int) : RT := ⟨statL.getD (nextV ns 0 12).toNat 0, (headG ns (nextA ns 0 12)).1, if nextV ns (a1R ns) 2 = 1 then pickT bodsR ns (nextA ns (a1R ns) 2) else []⟩
theorem stat_den : EqvD (.c (.sl 1 12 (fun i j => nthD [.int .i64 200, .int .i64 302, .int .i64 400, .int .i64 401, .int .i64 403, .int .i64 404, .int .i64 405, .int .i64 413, .int .i64 503, .int .i64 100, .int .i64 599, .int .i64 201] (i * 1 + j)))) (.c (.sl 1 statL.length (intsF statL))) := by
  refine EqvD.sl rfl fun i hi j hj => ?_
  obtain rfl : j = 0 := by omega
  have : i < 12 := hi
  match i, this with
  | 0, _ => rfl
  | 1, _ => rfl
  | 2, _ => rfl
  | 3, _ => rfl
  | 4, _ => rfl
  | 5, _ => rfl
  | 6, _ => rfl
  | 7, _ => rfl
  | 8, _ => rfl
  | 9, _ => rfl
  | 10, _ => rfl
  | 11, _ => rfl
theorem tellG_ok (ns : List Int) (hl : ns.length ≤ 9223372036854775807) : Pur Tryz.prog G 16 [.c (.sl 1 ns.length (intsF ns))] [.agg (encT (tellG ns))] := by
  refine Pur.of Tryz.func16 (by kernel_rfl) (by kernel_rfl) (by kernel_rfl) ?_
  have e1 := stat_den
  have e3 : EqvD (.c (.sl 1 4 (fun i j => nthD (bodsR.map Cell.str) (i * 1 + j)))) (.c (.sl 1 bodsR.length (strsF bodsR))) := strs_lit bodsR rfl rfl
  have c1 := next_ok (G := G) ns 0 12 hl (by omega)
  have rn := nextV_rng ns 0 12 (by decide)
  have c3 := headG_ok (G := G) ns (nextA ns 0 12) hl
  have c4 := next_ok (G := G) ns (a1R ns) 2 hl (by omega)
  have p5 := pick_ok (G := G) bodsR ns (nextA ns (a1R ns) 2) hl (by decide)
  have ri : (0 : Int) ≤ nextV ns 0 12 ∧ nextV ns 0 12 < ((statL.length : Nat) : Int) := by exact ⟨rn.1, rn.2⟩
  unfold tellG
  by_cases hb : nextV ns (a1R ns) 2 = 1
  · rw [if_pos hb]
    have ht : (nextV ns (a1R ns) 2 == 1) = true := by rw [hb]; rfl
    clear hb
    refine Wp.go (mx := true) (fun _ => mixed) [(2, {cs := [(2, cb [48] c1), (6, cb [48] c3)], fm := [(0, .c (.sl 1 statL.length (intsF statL)))]}), (4, {cs := [(2, cb [48] p5)], fm := [(1, .c (.sl 1 bodsR.length (strsF bodsR)))]}), (3, {cs := [(1, cb [48] c4)]})] 100 [true] [EqvI (V1.c (Cell.sl (1 : Nat) (12 : Nat) fun (i j : Nat) => nthD [Cell.int .i64 (200 : Int), Cell.int .i64 (302 : Int), Cell.int .i64 (400 : Int), Cell.int .i64 (401 : Int), Cell.int .i64 (403 : Int), Cell.int .i64 (404 : Int), Cell.int .i64 (405 : Int), Cell.int .i64 (413 : Int), Cell.int .i64 (503 : Int), Cell.int .i64 (100 : Int), Cell.int .i64 (599 : Int), Cell.int .i64 (201 : Int)] (i * (1 : Nat) + j))) (V1.c (Cell.sl (1 : Nat) statL.length (intsF statL))), EqvD (V1.c (Cell.sl (1 : Nat) (12 : Nat) fun (i j : Nat) => nthD [Cell.int .i64 (200 : Int), Cell.int .i64 (302 : Int), Cell.int .i64 (400 : Int), Cell.int .i64 (401 : Int), Cell.int .i64 (403 : Int), Cell.int .i64 (404 : Int), Cell.int .i64 (405 : Int), Cell.int .i64 (413 : Int), Cell.int .i64 (503 : Int), Cell.int .i64 (100 : Int), Cell.int .i64 (599 : Int), Cell.int .i64 (201 : Int)] (i * (1 : Nat) + j))) (V1.c (Cell.sl (1 : Nat) statL.length (intsF statL))), (0 : Int) ≤ nextV ns (0 : Nat) (12 : Int) ∧ nextV ns (0 : Nat) (12 : Int) < (↑statL.length : Int), (nextV ns (a1R ns) (2 : Int) == (1 : Int)) = true, EqvI (V1.c (Cell.sl (1 : Nat) (4 : Nat) fun (i j : Nat) => nthD [Cell.str [(123 : UInt8), 125], Cell.str [(120 : UInt8)], Cell.str [(13 : UInt8), 10, 13, 10], Cell.str [(123 : UInt8), 34, 112, 97, 103, 101, 34, 58, 34, 108, 111, 103, 105, 110, 34, 125]] (i * (1 : Nat) + j))) (V1.c (Cell.sl (1 : Nat) bodsR.length (strsF bodsR))), EqvD (V1.c (Cell.sl (1 : Nat) (4 : Nat) fun (i j : Nat) => nthD [Cell.str [(123 : UInt8), 125], Cell.str [(120 : UInt8)], Cell.str [(13 : UInt8), 10, 13, 10], Cell.str [(123 : UInt8), 34, 112, 97, 103, 101, 34, 58, 34, 108, 111, 103, 105, 110, 34, 125]] (i * (1 : Nat) + j))) (V1.c (Cell.sl (1 : Nat) bodsR.length (strsF bodsR)))] (by kernel_rfl) (by kernel_rfl) (by kernel_rfl) ⟨fun _ _ => trivial, (by assumption), (by omega), (by assumption), fun _ _ => trivial, (show EqvD (V1.c (Cell.sl (1 : Nat) (4 : Nat) fun (i j : Nat) => nthD [Cell.str [(123 : UInt8), 125], Cell.str [(120 : UInt8)], Cell.str [(13 : UInt8), 10, 13, 10], Cell.str [(123 : UInt8), 34, 112, 97, 103, 101, 34, 58, 34, 108, 111, 103, 105, 110, 34, 125]] (i * (1 : Nat) + j))) (V1.c (Cell.sl (1 : Nat) bodsR.length (strsF bodsR))) from (by assumption))⟩ ?_
    refine Wp.ret' (by kernel_rfl) ?_
    exact FinQ.pure (rs' := [V1.agg [Cell.int .i64 (statL.getD (nextV ns (0 : Nat) (12 : Int)).toNat (0 : Int)), Cell.sl (2 : Nat) (headG ns (nextA ns (0 : Nat) (12 : Int))).1.length fun (i j : Nat) => nthD [Cell.str ((headG ns (nextA ns (0 : Nat) (12 : Int))).1.getD i FT.nil).name, Cell.str ((headG ns (nextA ns (0 : Nat) (12 : Int))).1.getD i FT.nil).value] j, Cell.str (bodsR.getD (nextV ns (nextA ns (a1R ns) (2 : Int)) (↑bodsR.length : Int)).toNat [])]]) (by kernel_rfl) rfl (by kernel_rfl)
  · rw [if_neg hb]
    have ht : (nextV ns (a1R ns) 2 == 1) = false := by rw [beq_eq_false_iff_ne]; exact hb
    clear hb
    refine Wp.go (mx := true) (fun _ => mixed) [(2, {cs := [(2, cb [48] c1), (6, cb [48] c3)], fm := [(0, .c (.sl 1 statL.length (intsF statL)))]}), (3, {cs := [(1, cb [48] c4)]})] 100 [false] [EqvI (V1.c (Cell.sl (1 : Nat) (12 : Nat) fun (i j : Nat) => nthD [Cell.int .i64 (200 : Int), Cell.int .i64 (302 : Int), Cell.int .i64 (400 : Int), Cell.int .i64 (401 : Int), Cell.int .i64 (403 : Int), Cell.int .i64 (404 : Int), Cell.int .i64 (405 : Int), Cell.int .i64 (413 : Int), Cell.int .i64 (503 : Int), Cell.int .i64 (100 : Int), Cell.int .i64 (599 : Int), Cell.int .i64 (201 : Int)] (i * (1 : Nat) + j))) (V1.c (Cell.sl (1 : Nat) statL.length (intsF statL))), EqvD (V1.c (Cell.sl (1 : Nat) (12 : Nat) fun (i j : Nat) => nthD [Cell.int .i64 (200 : Int), Cell.int .i64 (302 : Int), Cell.int .i64 (400 : Int), Cell.int .i64 (401 : Int), Cell.int .i64 (403 : Int), Cell.int .i64 (404 : Int), Cell.int .i64 (405 : Int), Cell.int .i64 (413 : Int), Cell.int .i64 (503 : Int), Cell.int .i64 (100 : Int), Cell.int .i64 (599 : Int), Cell.int .i64 (201 : Int)] (i * (1 : Nat) + j))) (V1.c (Cell.sl (1 : Nat) statL.length (intsF statL))), (0 : Int) ≤ nextV ns (0 : Nat) (12 : Int) ∧ nextV ns (0 : Nat) (12 : Int) < (↑statL.length : Int), (nextV ns (a1R ns) (2 : Int) == (1 : Int)) = false] (by kernel_rfl) (by kernel_rfl) (by kernel_rfl) ⟨fun _ _ => trivial, (by assumption), (by omega), (show (nextV ns (a1R ns) (2 : Int) == (1 : Int)) = false from (by assumption))⟩ ?_
    refine Wp.ret' (by kernel_rfl) ?_
    exact FinQ.pure (rs' := [V1.agg [Cell.int .i64 (statL.getD (nextV ns (0 : Nat) (12 : Int)).toNat (0 : Int)), Cell.sl (2 : Nat) (headG ns (nextA ns (0 : Nat) (12 : Int))).1.length fun (i j : Nat) => nthD [Cell.str ((headG ns (nextA ns (0 : Nat) (12 : Int))).1.getD i FT.nil).name, Cell.str ((headG ns (nextA ns (0 : Nat) (12 : Int))).1.getD i FT.nil).value] j, Cell.str []]]) (by kernel_rfl) rfl (by kernel_rfl)
end Go.Proofs.Tw
end

section
open Go Go.Sv Go.RowKit
namespace Go.Proofs.Tw
attribute [local irreducible] Wp FinQ resV Ent Pur Go.Sv.Fn Sat0
set_option maxRecDepth 100000
set_option maxHeartbeats 4000000
variable {G : Nat → Option (List Cell)}

/-! what a tape brings may be -/
theorem getD_mem {l : List FT} {i : Nat} (h : i < l.length) : l.getD i .nil ∈ l := by simp [List.getD, h]
theorem unlike_ok {l : List FT} (h : OkG l) : unlikeQ l = true := by
  unfold unlikeQ
  rw [List.all_eq_true]
  intro i hi
  have hi := List.mem_range.1 hi
  unfold okQ
  have h1 := (h.1 _ (getD_mem hi)).1
  have ht : tokenT (l.getD i .nil).name = true := by unfold okF at h1; rw [Bool.and_eq_true] at h1; exact h1.1
  unfold tokenT at ht
  rw [Bool.and_eq_true] at ht
  rw [ht.1, Bool.true_and, ← fGet_isIn, ← fGet_con]
  cases hc : ((l.take i).map (·.name)).contains (l.getD i .nil).name with
  | false => rfl
  | true =>
    rw [List.contains_iff_mem] at hc
    obtain ⟨f, hf, he⟩ := List.mem_map.1 hc
    obtain ⟨j, hj, rfl⟩ := List.getElem_of_mem hf
    rw [List.length_take] at hj
    have := List.pairwise_iff_getElem.1 h.2 j i (by omega) hi (by omega)
    rw [List.getElem_take] at he
    refine (this ?_).elim
    rw [he]
    simp [List.getD, hi]
theorem flat_len {l : List FT} (h : OkG l) : (l.flatMap fieldL).length ≤ l.length * 84 := by
  induction l with
  | nil => simp
  | cons x r ih =>
    have := ih ⟨fun f hf => h.1 f (by simp [hf]), (List.pairwise_cons.1 h.2).2⟩
    have hx := h.1 x (by simp)
    rw [List.flatMap_cons, List.length_append, field_len, List.length_cons]
    omega
theorem itoa_nat (n : Nat) : Lib.itoa (n : Int) = Lib.decDigits n := by
  unfold Lib.itoa
  rw [if_neg (by omega)]
  simp
theorem dec_len4 {n : Nat} (h : n ≤ 5000) : (Lib.decDigits n).length ≤ 4 := dec_len_le 3 n (by omega)
theorem clL_len (b : List UInt8) (h : b.length ≤ 5000) : (clL b).length ≤ 22 := by
  unfold clL
  split
  · simp
  · rw [itoa_nat]
    have := dec_len4 h
    simp only [List.length_append, List.length_cons, List.length_nil]
    omega
theorem linesT_len {l : List FT} {b : List UInt8} (h : OkG l) (hl : l.length ≤ 3) (hb : b.length ≤ 5000) : (linesT l b).length ≤ 276 := by
  unfold linesT
  have h1 := flat_len h
  have h2 := clL_len b hb
  simp only [List.length_append, List.length_cons, List.length_nil]
  omega
theorem head_ok {l : List FT} {b : List UInt8} (h : OkG l) (hl : l.length ≤ 3) (hb : b.length ≤ 4096) : headT l b = true := by
  unfold headT
  rw [unlike_ok h, List.all_eq_true.2 (fun f hf => (h.1 f hf).1)]
  have : (l.length : Int) ≤ mostT b := by unfold mostT; split <;> omega
  rw [decide_eq_true this, decide_eq_true (by omega)]
  rfl
theorem bodQ_len (ns : List Int) : ∀ x ∈ bodsQ ns, x.length ≤ 488 := by
  have fs := fields_small ns 4 0 [] (by intro f hf; cases hf)
  have hfl : (fldsT ns 4).length ≤ 4 := by have := fs.1; unfold fldsT; simp only [List.length_nil] at this; omega
  have hpl := query_small (fldsT ns 4) 4 hfl fs.2
  intro x hx
  simp only [bodsQ, List.mem_cons, List.not_mem_nil, or_false] at hx
  rcases hx with rfl | rfl | rfl | rfl
  · decide
  · decide
  · decide
  · omega
structure AskF (r : QT) : Prop where
  hm : methT r.method = true
  ht : targT r.target = true
  h1 : r.method.length ≤ 16
  h2 : r.target.length ≤ 20
  hh : OkG r.head
  hn : r.head.length ≤ 3
  hb : r.body.length ≤ 488
theorem askG_f (ns : List Int) : AskF (askG ns) := by
  have m := pick_in metsQ ns 0 (by decide)
  have t := pick_in tgtsQ ns (nextA ns 0 4) (by decide)
  have mm : metsQ.all (fun x => methT x && decide (x.length ≤ 16)) = true := (by kernel_rfl)
  have tt : tgtsQ.all (fun x => targT x && decide (x.length ≤ 20)) = true := (by kernel_rfl)
  have mm := List.all_eq_true.1 mm _ m
  have tt := List.all_eq_true.1 tt _ t
  rw [Bool.and_eq_true, decide_eq_true_eq] at mm tt
  have h := headG_facts ns (a2Q ns)
  refine ⟨mm.1, tt.1, mm.2, tt.2, h.1, h.2, ?_⟩
  unfold askG
  show (if nextV ns (a3Q ns) 2 = 1 then pickT (bodsQ ns) ns (nextA ns (a3Q ns) 2) else []).length ≤ 488
  split
  · exact bodQ_len ns _ (pick_in (bodsQ ns) ns _ (by show 0 < 4; decide))
  · simp
theorem AskF.fit {r : QT} (h : AskF r) : FitH r.head r.body := by
  have h1 := h.hn
  have h2 := h.hb
  have h3 := linesT_len h.hh h.hn (by omega : r.body.length ≤ 5000)
  exact ⟨by omega, fun f hf => by have := h.hh.1 f hf; omega, by omega, by omega⟩
theorem AskF.fst {r : QT} (h : AskF r) : (firstQ r).length ≤ 48 := by
  have h1 := h.h1
  have h2 := h.h2
  unfold firstQ
  simp only [List.length_append, List.length_cons, List.length_nil]
  omega
theorem AskF.may {r : QT} (h : AskF r) : mayAskT r = true := by
  unfold mayAskT linedT
  rw [h.hm, h.ht, mayM_eq, ahead_Q]
  have h2 := h.hb
  have h3 := linesT_len h.hh h.hn (by omega : r.body.length ≤ 5000)
  have h4 := h.fst
  rw [show headT (askedM r).head (askedM r).body = true from head_ok h.hh h.hn (by show r.body.length ≤ 4096; omega), decide_eq_true (by rw [List.length_append]; omega)]
  rfl
theorem AskF.len {r : QT} (h : AskF r) : 0 < (printAskT r).length ∧ (printAskT r).length ≤ 900 := by
  unfold printAskT
  rw [h.may, if_pos rfl, ahead_Q]
  have h2 := h.hb
  have h3 := linesT_len h.hh h.hn (by omega : r.body.length ≤ 5000)
  have h4 := h.fst
  have h5 : 2 ≤ (firstQ r).length := by unfold firstQ; simp only [List.length_append, List.length_cons, List.length_nil]; omega
  simp only [List.length_append]
  omega
structure TellF (r : RT) : Prop where
  hs : statedT r.status = true
  h1 : 0 ≤ r.status
  h2 : r.status ≤ 1000
  hh : OkG r.head
  hn : r.head.length ≤ 3
  hb : r.body.length ≤ 488
theorem tellG_f (ns : List Int) : TellF (tellG ns) := by
  have rn := nextV_rng ns 0 12 (by decide)
  have hm : statL.getD (nextV ns 0 12).toNat 0 ∈ statL := by
    have : (nextV ns 0 12).toNat < statL.length := by show _ < 12; omega
    rw [List.getD_eq_getElem?_getD, List.getElem?_eq_getElem this]
    exact List.getElem_mem this
  have ss : statL.all (fun n => statedT n && (decide (0 ≤ n) && decide (n ≤ 1000))) = true := (by kernel_rfl)
  have ss := List.all_eq_true.1 ss _ hm
  simp only [Bool.and_eq_true, decide_eq_true_eq] at ss
  have h := headG_facts ns (nextA ns 0 12)
  refine ⟨ss.1, ss.2.1, ss.2.2, h.1, h.2, ?_⟩
  show (if nextV ns (a1R ns) 2 = 1 then pickT bodsR ns (nextA ns (a1R ns) 2) else []).length ≤ 488
  split
  · have : ∀ x ∈ bodsR, x.length ≤ 488 := by decide
    exact this _ (pick_in bodsR ns _ (by decide))
  · simp
theorem TellF.fit {r : RT} (h : TellF r) : FitH r.head r.body := by
  have h1 := h.hn
  have h2 := h.hb
  have h3 := linesT_len h.hh h.hn (by omega : r.body.length ≤ 5000)
  exact ⟨by omega, fun f hf => by have := h.hh.1 f hf; omega, by omega, by omega⟩
theorem TellF.fst {r : RT} (h : TellF r) : (firstR r).length ≤ 48 := by
  have h1 := h.h1
  have h2 := h.h2
  have h3 := reason_len r.status
  obtain ⟨n, hn⟩ := Int.eq_ofNat_of_zero_le h1
  have h4 : (Lib.itoa r.status).length ≤ 4 := by rw [hn, itoa_nat]; exact dec_len4 (by omega)
  unfold firstR verS
  simp only [List.length_append, List.length_cons, List.length_nil]
  omega
theorem TellF.may {r : RT} (h : TellF r) : mayTell r = true := by
  unfold mayTell
  rw [h.hs, mayM_eq, ahead_R]
  have h2 := h.hb
  have h3 := linesT_len h.hh h.hn (by omega : r.body.length ≤ 5000)
  have h4 := h.fst
  rw [show headT (toldM r).head (toldM r).body = true from head_ok h.hh h.hn (by show r.body.length ≤ 4096; omega), decide_eq_true (by rw [List.length_append]; omega)]
  rfl
theorem TellF.len {r : RT} (h : TellF r) : 0 < (printTell r).length ∧ (printTell r).length ≤ 900 := by
  unfold printTell
  rw [h.may, if_pos rfl, ahead_R]
  have h2 := h.hb
  have h3 := linesT_len h.hh h.hn (by omega : r.body.length ≤ 5000)
  have h4 := h.fst
  have h5 : 2 ≤ (firstR r).length := by unfold firstR; simp only [List.length_append, List.length_cons, List.length_nil]; omega
  simp only [List.length_append]
  omega
/-! texts, right and wrong -/
theorem within13_ok (a n : Int) (hn : 0 < n) (hm : n ≤ 9223372036854775807) : Pur Tryz.prog G 30 [.c (.int .i64 a), .c (.int .i64 n)] [.c (.int .i64 (withT a n))] := by
  refine Pur.of Tryz.func30 (by kernel_rfl) (by kernel_rfl) (by kernel_rfl) ?_
  have h1 := Int.tmod_lt_of_pos a hn
  have h2 := tmod_lo a n hn
  refine Wp.go (mx := true) (fun _ => mixed) [] 100 [] [n = (0 : Int) → False] (by kernel_rfl) (by kernel_rfl) (by kernel_rfl) ((show n = (0 : Int) → False from (by omega))) ?_
  refine Wp.cond' (by kernel_rfl) (decide (a.tmod n < (0 : Int))) (by kernel_rfl) (fun h0 => ?_) (fun h0 => ?_)
  · have g0 := of_decide_eq_true h0
    refine Wp.go (mx := true) (fun _ => mixed) [] 100 [] [IntKind.i64.min ≤ a.tmod n + n ∧ a.tmod n + n ≤ IntKind.i64.max] (by kernel_rfl) (by kernel_rfl) (by kernel_rfl) (inR64 (by omega) (by omega)) ?_
    refine Wp.ret' (by kernel_rfl) ?_
    exact FinQ.pure (rs' := [V1.c (Cell.int .i64 (a.tmod n + n))]) (by kernel_rfl) (by simp [withT, *]; done) (by kernel_rfl)
  · have g0 := of_decide_eq_false h0
    refine Wp.go (mx := true) (fun _ => mixed) [] 100 [] [] (by kernel_rfl) (by kernel_rfl) (by kernel_rfl) trivial ?_
    refine Wp.ret' (by kernel_rfl) ?_
    exact FinQ.pure (rs' := [V1.c (Cell.int .i64 (a.tmod n))]) (by kernel_rfl) (by simp [withT, *]; done) (by kernel_rfl)
def xorS (s : List UInt8) (at_ : Int) (b : UInt8) : List UInt8 := s.set (withT at_ s.length).toNat (s.getD (withT at_ s.length).toNat 0 ^^^ b)
theorem xor8 (x y : UInt8) : bitsI .xor .u8 (x.toNat : Int) (y.toNat : Int) = ((x ^^^ y).toNat : Int) := by
  have h1 : ∀ z : UInt8, BitVec.ofInt 8 (z.toNat : Int) = z.toBitVec := fun z => by
    apply BitVec.eq_of_toNat_eq
    rw [BitVec.toNat_ofInt]
    have : z.toNat < 256 := z.toNat_lt
    show (((z.toNat : Int) % ((2 : Int) ^ 8)).toNat) = z.toBitVec.toNat
    rw [Int.emod_eq_of_lt (by omega) (by omega)]
    simp
  show IntKind.u8.wrap (((BitVec.ofInt 8 (x.toNat : Int) ^^^ BitVec.ofInt 8 (y.toNat : Int)).toNat : Nat) : Int) = _
  rw [h1, h1]
  have : (x.toBitVec ^^^ y.toBitVec).toNat = (x ^^^ y).toNat := rfl
  rw [this]
  have h2 : (x ^^^ y).toNat < 256 := (x ^^^ y).toNat_lt
  exact wrap8 (by omega) (by omega)
def lineL : List (List UInt8) := [[99, 111, 110, 116, 101, 110, 116, 45, 108, 101, 110, 103, 116, 104, 58, 32, 48], [99, 111, 110, 116, 101, 110, 116, 45, 108, 101, 110, 103, 116, 104, 58, 32, 48, 48], [67, 111, 110, 116, 101, 110, 116, 45, 76, 101, 110, 103, 116, 104, 58, 32, 49], [99, 111, 110, 116, 101, 110, 116, 45, 108, 101, 110, 103, 116, 104, 58, 32, 53, 48, 48, 48], [99, 111, 110, 116, 101, 110, 116, 45, 108, 101, 110, 103, 116, 104, 58, 32, 45, 49], [99, 111, 110, 116, 101, 110, 116, 45, 108, 101, 110, 103, 116, 104, 58, 32, 49, 48, 48, 48, 48, 48, 48, 48, 48, 48], [88, 58, 32, 121], [120, 58, 121], [97, 32, 98, 58, 32, 99], [58, 32, 118], [120, 45, 97, 58, 32, 128], [120, 45, 97, 58, 32, 49, 13, 10, 88, 45, 65, 58, 32, 50]]
def endL : List (List UInt8) := [[], [120], [13, 10]]
def fstL13 : List (List UInt8) := [[71, 69, 84, 32, 47, 32, 72, 84, 84, 80, 47, 49, 46, 49], [71, 69, 84, 32, 32, 47, 32, 72, 84, 84, 80, 47, 49, 46, 49], [103, 101, 116, 32, 47, 32, 72, 84, 84, 80, 47, 49, 46, 49], [71, 69, 84, 32, 47, 32, 72, 84, 84, 80, 47, 49, 46, 48], [72, 84, 84, 80, 47, 49, 46, 49, 32, 50, 48, 48, 32, 79, 75], [72, 84, 84, 80, 47, 49, 46, 49, 32, 50, 48, 32, 79, 75], [72, 84, 84, 80, 47, 49, 46, 49, 32, 48, 57, 57, 32, 120], [72, 84, 84, 80, 47, 49, 46, 49, 32, 54, 48, 48, 32, 120], [72, 84, 84, 80, 47, 49, 46, 49, 32, 50, 48, 48, 32], [72, 84, 84, 80, 47, 49, 46, 49, 32, 50, 48, 48]]
def textsL (A T X Y Z raw A' T' : List UInt8) (i j : Nat) : List (List UInt8) := [raw, A, T, A', T', A ++ raw, T ++ raw, Z ++ [13, 10] ++ X ++ [13, 10, 13, 10] ++ Y, Z ++ [13, 10, 13, 10] ++ Y, A.take i, T.take j, Z ++ [13, 10] ++ X ++ [13, 10] ++ raw ++ [13, 10, 13, 10] ++ Y]
def textsG (ns : List Int) (raw : List UInt8) (at_ : Int) (b : UInt8) : List (List UInt8) := textsL (printAskT (askG ns)) (printTell (tellG ns)) (pickT lineL ns 0) (pickT endL ns (nextA ns 0 12)) (pickT fstL13 ns (nextA ns (nextA ns 0 12) 3)) raw (xorS (printAskT (askG ns)) at_ b) (xorS (printTell (tellG ns)) at_ b) (withT at_ (printAskT (askG ns)).length).toNat (withT at_ (printTell (tellG ns)).length).toNat
theorem xorS_len (s : List UInt8) (at_ : Int) (b : UInt8) : (xorS s at_ b).length = s.length := by unfold xorS; rw [List.length_set]
theorem xor_set (A : List UInt8) (at_ : Int) (b : UInt8) {e : TypeId} (h : (withT at_ A.length).toNat < A.length) : BlkEqv (.row e 1 A.length (rowSet (bytesF A) (0 + (withT at_ A.length).toNat) 0 1 [.int .u8 ((A.getD (withT at_ A.length).toNat 0 ^^^ b).toNat : Int)])) (.row e 1 A.length (bytesF (xorS A at_ b))) := by
  unfold xorS
  exact bytes_set _ _ rfl h
theorem Texts_ok (ns : List Int) (raw : List UInt8) (at_ : Int) (b : UInt8) (hl : ns.length ≤ 9223372036854775807) (hr : raw.length ≤ 400) : Pur Tryz.prog G 8 [.c (.sl 1 ns.length (intsF ns)), .c (.str raw), .c (.int .i64 at_), .c (.int .u8 (b.toNat : Int))] [.c (encL (textsG ns raw at_ b))] := by
  refine Pur.of Tryz.func8 (by kernel_rfl) (by kernel_rfl) (by kernel_rfl) ?_
  have fA := askG_f ns
  have fT := tellG_f ns
  have c1 := askG_ok (G := G) ns hl
  have c2 := tellG_ok (G := G) ns hl
  have c3 := printAsk13_ok (G := G) (askG ns) fA.fit (by have := fA.h1; omega) (by have := fA.h2; omega)
  have c4 := printTell13_ok (G := G) (tellG ns) fT.fit
  have lA := fA.len
  have lT := fT.len
  unfold textsG
  generalize printAskT (askG ns) = A at *
  generalize printTell (tellG ns) = T at *
  have rA := withT_rng at_ A.length (by omega)
  have rT := withT_rng at_ T.length (by omega)
  obtain ⟨i, hi⟩ := Int.eq_ofNat_of_zero_le rA.1
  obtain ⟨j, hj⟩ := Int.eq_ofNat_of_zero_le rT.1
  have c5 := within13_ok (G := G) at_ (A.length : Int) (by omega) (by omega)
  have c6 := within13_ok (G := G) at_ (T.length : Int) (by omega) (by omega)
  have y1 : ∀ e : TypeId, BlkEqv (.row e 1 A.length (rowSet (bytesF A) (0 + (withT at_ A.length).toNat) 0 1 [.int .u8 ((A.getD (withT at_ A.length).toNat 0 ^^^ b).toNat : Int)])) (.row e 1 A.length (bytesF (xorS A at_ b))) := fun e => xor_set A at_ b (by omega)
  have y2 : ∀ e : TypeId, BlkEqv (.row e 1 T.length (rowSet (bytesF T) (0 + (withT at_ T.length).toNat) 0 1 [.int .u8 ((T.getD (withT at_ T.length).toNat 0 ^^^ b).toNat : Int)])) (.row e 1 T.length (bytesF (xorS T at_ b))) := fun e => xor_set T at_ b (by omega)
  have la := xorS_len A at_ b
  have lt := xorS_len T at_ b
  rw [hi] at c5 rA y1 ⊢
  rw [hj] at c6 rT y2 ⊢
  rw [show ((i : Int)).toNat = i from by omega] at y1 ⊢
  rw [show ((j : Int)).toNat = j from by omega] at y2 ⊢
  generalize xorS A at_ b = A' at *
  generalize xorS T at_ b = T' at *
  clear hi hj
  have e1 : EqvD (.c (.sl 1 12 (fun i j => nthD (lineL.map Cell.str) (i * 1 + j)))) (.c (.sl 1 lineL.length (strsF lineL))) := strs_lit lineL rfl rfl
  have e2 : EqvD (.c (.sl 1 3 (fun i j => nthD (endL.map Cell.str) (i * 1 + j)))) (.c (.sl 1 endL.length (strsF endL))) := strs_lit endL rfl rfl
  have e3 : EqvD (.c (.sl 1 10 (fun i j => nthD (fstL13.map Cell.str) (i * 1 + j)))) (.c (.sl 1 fstL13.length (strsF fstL13))) := strs_lit fstL13 rfl rfl
  have l1 : (pickT lineL ns 0).length ≤ 30 := (by decide : ∀ x ∈ lineL, x.length ≤ 30) _ (pick_in lineL ns 0 (by decide))
  have l2 : (pickT endL ns (nextA ns 0 12)).length ≤ 2 := (by decide : ∀ x ∈ endL, x.length ≤ 2) _ (pick_in endL ns _ (by decide))
  have l3 : (pickT fstL13 ns (nextA ns (nextA ns 0 12) 3)).length ≤ 20 := (by decide : ∀ x ∈ fstL13, x.length ≤ 20) _ (pick_in fstL13 ns _ (by decide))
  have p1 : FnB Tryz.prog G 31 [tapeB ns 0] [.c (.ptr 0 0), .c (.sl 1 lineL.length (strsF lineL))] [.c (.str (pickT lineL ns 0))] [(0, tapeB ns (nextA ns 0 12))] := pick_ok lineL ns 0 hl (by decide)
  have p2 : FnB Tryz.prog G 31 [tapeB ns (nextA ns 0 12)] [.c (.ptr 0 0), .c (.sl 1 endL.length (strsF endL))] [.c (.str (pickT endL ns (nextA ns 0 12)))] [(0, tapeB ns (nextA ns (nextA ns 0 12) 3))] := pick_ok endL ns _ hl (by decide)
  have p3 : FnB Tryz.prog G 31 [tapeB ns (nextA ns (nextA ns 0 12) 3)] [.c (.ptr 0 0), .c (.sl 1 fstL13.length (strsF fstL13))] [.c (.str (pickT fstL13 ns (nextA ns (nextA ns 0 12) 3)))] [(0, tapeB ns (nextA ns (nextA ns (nextA ns 0 12) 3) 10))] := pick_ok fstL13 ns _ hl (by decide)
  generalize pickT lineL ns 0 = X at *
  generalize pickT endL ns (nextA ns 0 12) = Y at *
  generalize pickT fstL13 ns (nextA ns (nextA ns 0 12) 3) = Z at *
  have x1 : EqvD (.c (.int .u8 (bitsI .xor .u8 ((A.getD (0 + i) 0).toNat : Int) (b.toNat : Int)))) (.c (.int .u8 ((A.getD i 0 ^^^ b).toNat : Int))) := eqvD_of (by rw [xor8, Nat.zero_add])
  have x2 : EqvD (.c (.int .u8 (bitsI .xor .u8 ((T.getD (0 + j) 0).toNat : Int) (b.toNat : Int)))) (.c (.int .u8 ((T.getD j 0 ^^^ b).toNat : Int))) := eqvD_of (by rw [xor8, Nat.zero_add])
  have y1 := y1 5
  have y2 := y2 5
  have z1 : areBytes (bytesF A') 0 A.length := areBytes_F _ _ _
  have z2 : areBytes (bytesF T') 0 T.length := areBytes_F _ _ _
  have w1 : byteL (bytesF A') 0 A.length = A' := by rw [byteL_F _ la.symm]
  have w2 : byteL (bytesF T') 0 T.length = T' := by rw [byteL_F _ lt.symm]
  have f1 : EqvD (.c (.str (byteL (bytesF A') 0 A.length))) (.c (.str A')) := eqvD_of (by rw [w1])
  have f2 : EqvD (.c (.str (byteL (bytesF T') 0 T.length))) (.c (.str T')) := eqvD_of (by rw [w2])
  have e9 : EqvD (.c (.sl 1 12 (fun k m => nthD ((textsL A T X Y Z raw A' T' i j).map Cell.str) (k * 1 + m)))) (.c (encL (textsL A T X Y Z raw A' T' i j))) := strs_lit _ rfl rfl
  clear fA fT
  refine Wp.go (mx := true) (fun _ => mixed) [(4, {cs := [(4, pc c5)], fm := [(8, .c (.int .u8 ((A.getD i 0 ^^^ b).toNat : Int)))], bs := [(10, Blk.row 5 1 A.length (bytesF A'))]}), (5, {cs := [(4, pc c6)], fm := [(8, .c (.int .u8 ((T.getD j 0 ^^^ b).toNat : Int)))], bs := [(10, Blk.row 5 1 T.length (bytesF T'))]}), (6, {cs := [(2, cb [48] p1)], fm := [(1, .c (.sl 1 lineL.length (strsF lineL)))]}), (7, {cs := [(2, cb [48] p2)], fm := [(1, .c (.sl 1 endL.length (strsF endL)))]}), (8, {cs := [(2, cb [48] p3)], fm := [(1, .c (.sl 1 fstL13.length (strsF fstL13)))]}), (9, {cs := [(28, pc c5), (34, pc c6)], fm := [(4, .c (.str A')), (6, .c (.str T')), (46, .c (encL (textsL A T X Y Z raw A' T' i j)))]}), (2, {cs := [(1, pc c1), (2, pc c3), (4, pc c2), (5, pc c4)]})] 100 [] [A.length ≤ (140737488355328 : Nat), T.length ≤ (140737488355328 : Nat), (0 : Int) ≤ (↑i : Int) ∧ (↑i : Int) < (↑A.length : Int), (0 : Nat) + i < A.length, EqvI (V1.c (Cell.int .u8 (Int.ofNat ((BitVec.ofInt IntKind.u8.bits (↑(A.getD ((0 : Nat) + i) (0 : UInt8)).toNat : Int) ^^^ BitVec.ofInt IntKind.u8.bits (↑b.toNat : Int)).toNat % ((2 : Int) ^ IntKind.u8.bits).natAbs)))) (V1.c (Cell.int .u8 (↑(A.getD i (0 : UInt8) ^^^ b).toNat : Int))), EqvD (V1.c (Cell.int .u8 (Int.ofNat ((BitVec.ofInt IntKind.u8.bits (↑(A.getD ((0 : Nat) + i) (0 : UInt8)).toNat : Int) ^^^ BitVec.ofInt IntKind.u8.bits (↑b.toNat : Int)).toNat % ((2 : Int) ^ IntKind.u8.bits).natAbs)))) (V1.c (Cell.int .u8 (↑(A.getD i (0 : UInt8) ^^^ b).toNat : Int))), (0 : Int) ≤ (↑i : Int) ∧ (↑i : Int) < (↑A.length : Int), BlkEqv (Blk.row 5 (1 : Nat) A.length fun (i_1 j : Nat) => if i_1 = (0 : Nat) + i ∧ (0 : Nat) ≤ j ∧ j < (1 : Nat) then nthD (V1.c (Cell.int .u8 (↑(A.getD i (0 : UInt8) ^^^ b).toNat : Int))).cells (j - (0 : Nat)) else Cell.int .u8 (↑(A.getD i_1 (0 : UInt8)).toNat : Int)) (Blk.row 5 (1 : Nat) A.length (bytesF A')), (0 : Nat) + i < A.length, (0 : Int) ≤ (↑j : Int) ∧ (↑j : Int) < (↑T.length : Int), (0 : Nat) + j < T.length, EqvI (V1.c (Cell.int .u8 (Int.ofNat ((BitVec.ofInt IntKind.u8.bits (↑(T.getD ((0 : Nat) + j) (0 : UInt8)).toNat : Int) ^^^ BitVec.ofInt IntKind.u8.bits (↑b.toNat : Int)).toNat % ((2 : Int) ^ IntKind.u8.bits).natAbs)))) (V1.c (Cell.int .u8 (↑(T.getD j (0 : UInt8) ^^^ b).toNat : Int))), EqvD (V1.c (Cell.int .u8 (Int.ofNat ((BitVec.ofInt IntKind.u8.bits (↑(T.getD ((0 : Nat) + j) (0 : UInt8)).toNat : Int) ^^^ BitVec.ofInt IntKind.u8.bits (↑b.toNat : Int)).toNat % ((2 : Int) ^ IntKind.u8.bits).natAbs)))) (V1.c (Cell.int .u8 (↑(T.getD j (0 : UInt8) ^^^ b).toNat : Int))), (0 : Int) ≤ (↑j : Int) ∧ (↑j : Int) < (↑T.length : Int), BlkEqv (Blk.row 5 (1 : Nat) T.length fun (i j_1 : Nat) => if i = (0 : Nat) + j ∧ (0 : Nat) ≤ j_1 ∧ j_1 < (1 : Nat) then nthD (V1.c (Cell.int .u8 (↑(T.getD j (0 : UInt8) ^^^ b).toNat : Int))).cells (j_1 - (0 : Nat)) else Cell.int .u8 (↑(T.getD i (0 : UInt8)).toNat : Int)) (Blk.row 5 (1 : Nat) T.length (bytesF T')), (0 : Nat) + j < T.length, EqvI (V1.c (Cell.sl (1 : Nat) (12 : Nat) fun (i j : Nat) => nthD [Cell.str [(99 : UInt8), 111, 110, 116, 101, 110, 116, 45, 108, 101, 110, 103, 116, 104, 58, 32, 48], Cell.str [(99 : UInt8), 111, 110, 116, 101, 110, 116, 45, 108, 101, 110, 103, 116, 104, 58, 32, 48, 48], Cell.str [(67 : UInt8), 111, 110, 116, 101, 110, 116, 45, 76, 101, 110, 103, 116, 104, 58, 32, 49], Cell.str [(99 : UInt8), 111, 110, 116, 101, 110, 116, 45, 108, 101, 110, 103, 116, 104, 58, 32, 53, 48, 48, 48], Cell.str [(99 : UInt8), 111, 110, 116, 101, 110, 116, 45, 108, 101, 110, 103, 116, 104, 58, 32, 45, 49], Cell.str [(99 : UInt8), 111, 110, 116, 101, 110, 116, 45, 108, 101, 110, 103, 116, 104, 58, 32, 49, 48, 48, 48, 48, 48, 48, 48, 48, 48], Cell.str [(88 : UInt8), 58, 32, 121], Cell.str [(120 : UInt8), 58, 121], Cell.str [(97 : UInt8), 32, 98, 58, 32, 99], Cell.str [(58 : UInt8), 32, 118], Cell.str [(120 : UInt8), 45, 97, 58, 32, 128], Cell.str [(120 : UInt8), 45, 97, 58, 32, 49, 13, 10, 88, 45, 65, 58, 32, 50]] (i * (1 : Nat) + j))) (V1.c (Cell.sl (1 : Nat) lineL.length (strsF lineL))), EqvD (V1.c (Cell.sl (1 : Nat) (12 : Nat) fun (i j : Nat) => nthD [Cell.str [(99 : UInt8), 111, 110, 116, 101, 110, 116, 45, 108, 101, 110, 103, 116, 104, 58, 32, 48], Cell.str [(99 : UInt8), 111, 110, 116, 101, 110, 116, 45, 108, 101, 110, 103, 116, 104, 58, 32, 48, 48], Cell.str [(67 : UInt8), 111, 110, 116, 101, 110, 116, 45, 76, 101, 110, 103, 116, 104, 58, 32, 49], Cell.str [(99 : UInt8), 111, 110, 116, 101, 110, 116, 45, 108, 101, 110, 103, 116, 104, 58, 32, 53, 48, 48, 48], Cell.str [(99 : UInt8), 111, 110, 116, 101, 110, 116, 45, 108, 101, 110, 103, 116, 104, 58, 32, 45, 49], Cell.str [(99 : UInt8), 111, 110, 116, 101, 110, 116, 45, 108, 101, 110, 103, 116, 104, 58, 32, 49, 48, 48, 48, 48, 48, 48, 48, 48, 48], Cell.str [(88 : UInt8), 58, 32, 121], Cell.str [(120 : UInt8), 58, 121], Cell.str [(97 : UInt8), 32, 98, 58, 32, 99], Cell.str [(58 : UInt8), 32, 118], Cell.str [(120 : UInt8), 45, 97, 58, 32, 128], Cell.str [(120 : UInt8), 45, 97, 58, 32, 49, 13, 10, 88, 45, 65, 58, 32, 50]] (i * (1 : Nat) + j))) (V1.c (Cell.sl (1 : Nat) lineL.length (strsF lineL))), EqvI (V1.c (Cell.sl (1 : Nat) (3 : Nat) fun (i j : Nat) => nthD [Cell.str [], Cell.str [(120 : UInt8)], Cell.str [(13 : UInt8), 10]] (i * (1 : Nat) + j))) (V1.c (Cell.sl (1 : Nat) endL.length (strsF endL))), EqvD (V1.c (Cell.sl (1 : Nat) (3 : Nat) fun (i j : Nat) => nthD [Cell.str [], Cell.str [(120 : UInt8)], Cell.str [(13 : UInt8), 10]] (i * (1 : Nat) + j))) (V1.c (Cell.sl (1 : Nat) endL.length (strsF endL))), EqvI (V1.c (Cell.sl (1 : Nat) (10 : Nat) fun (i j : Nat) => nthD [Cell.str [(71 : UInt8), 69, 84, 32, 47, 32, 72, 84, 84, 80, 47, 49, 46, 49], Cell.str [(71 : UInt8), 69, 84, 32, 32, 47, 32, 72, 84, 84, 80, 47, 49, 46, 49], Cell.str [(103 : UInt8), 101, 116, 32, 47, 32, 72, 84, 84, 80, 47, 49, 46, 49], Cell.str [(71 : UInt8), 69, 84, 32, 47, 32, 72, 84, 84, 80, 47, 49, 46, 48], Cell.str [(72 : UInt8), 84, 84, 80, 47, 49, 46, 49, 32, 50, 48, 48, 32, 79, 75], Cell.str [(72 : UInt8), 84, 84, 80, 47, 49, 46, 49, 32, 50, 48, 32, 79, 75], Cell.str [(72 : UInt8), 84, 84, 80, 47, 49, 46, 49, 32, 48, 57, 57, 32, 120], Cell.str [(72 : UInt8), 84, 84, 80, 47, 49, 46, 49, 32, 54, 48, 48, 32, 120], Cell.str [(72 : UInt8), 84, 84, 80, 47, 49, 46, 49, 32, 50, 48, 48, 32], Cell.str [(72 : UInt8), 84, 84, 80, 47, 49, 46, 49, 32, 50, 48, 48]] (i * (1 : Nat) + j))) (V1.c (Cell.sl (1 : Nat) fstL13.length (strsF fstL13))), EqvD (V1.c (Cell.sl (1 : Nat) (10 : Nat) fun (i j : Nat) => nthD [Cell.str [(71 : UInt8), 69, 84, 32, 47, 32, 72, 84, 84, 80, 47, 49, 46, 49], Cell.str [(71 : UInt8), 69, 84, 32, 32, 47, 32, 72, 84, 84, 80, 47, 49, 46, 49], Cell.str [(103 : UInt8), 101, 116, 32, 47, 32, 72, 84, 84, 80, 47, 49, 46, 49], Cell.str [(71 : UInt8), 69, 84, 32, 47, 32, 72, 84, 84, 80, 47, 49, 46, 48], Cell.str [(72 : UInt8), 84, 84, 80, 47, 49, 46, 49, 32, 50, 48, 48, 32, 79, 75], Cell.str [(72 : UInt8), 84, 84, 80, 47, 49, 46, 49, 32, 50, 48, 32, 79, 75], Cell.str [(72 : UInt8), 84, 84, 80, 47, 49, 46, 49, 32, 48, 57, 57, 32, 120], Cell.str [(72 : UInt8), 84, 84, 80, 47, 49, 46, 49, 32, 54, 48, 48, 32, 120], Cell.str [(72 : UInt8), 84, 84, 80, 47, 49, 46, 49, 32, 50, 48, 48, 32], Cell.str [(72 : UInt8), 84, 84, 80, 47, 49, 46, 49, 32, 50, 48, 48]] (i * (1 : Nat) + j))) (V1.c (Cell.sl (1 : Nat) fstL13.length (strsF fstL13))), EqvI (V1.c (Cell.str (byteL (bytesF A') (0 : Nat) A.length))) (V1.c (Cell.str A')), EqvD (V1.c (Cell.str (byteL (bytesF A') (0 : Nat) A.length))) (V1.c (Cell.str A')), (0 : Nat) + A.length ≤ A.length, areBytes (bytesF A') (0 : Nat) A.length, EqvI (V1.c (Cell.str (byteL (bytesF T') (0 : Nat) T.length))) (V1.c (Cell.str T')), EqvD (V1.c (Cell.str (byteL (bytesF T') (0 : Nat) T.length))) (V1.c (Cell.str T')), (0 : Nat) + T.length ≤ T.length, areBytes (bytesF T') (0 : Nat) T.length, A.length + raw.length ≤ (9223372036854775807 : Nat), T.length + raw.length ≤ (9223372036854775807 : Nat), Z.length + (2 : Nat) ≤ (9223372036854775807 : Nat), (Z ++ [(13 : UInt8), 10]).length + X.length ≤ (9223372036854775807 : Nat), (Z ++ [(13 : UInt8), 10] ++ X).length + (4 : Nat) ≤ (9223372036854775807 : Nat), (Z ++ [(13 : UInt8), 10] ++ X ++ [(13 : UInt8), 10, 13, 10]).length + Y.length ≤ (9223372036854775807 : Nat), Z.length + (4 : Nat) ≤ (9223372036854775807 : Nat), (Z ++ [(13 : UInt8), 10, 13, 10]).length + Y.length ≤ (9223372036854775807 : Nat), (0 : Int) ≤ Int.ofNat (0) ∧ Int.ofNat (0) ≤ Int.ofNat i ∧ Int.ofNat i ≤ (↑A.length : Int), (0 : Int) ≤ Int.ofNat (0) ∧ Int.ofNat (0) ≤ Int.ofNat j ∧ Int.ofNat j ≤ (↑T.length : Int), Z.length + (2 : Nat) ≤ (9223372036854775807 : Nat), (Z ++ [(13 : UInt8), 10]).length + X.length ≤ (9223372036854775807 : Nat), (Z ++ [(13 : UInt8), 10] ++ X).length + (2 : Nat) ≤ (9223372036854775807 : Nat), (Z ++ [(13 : UInt8), 10] ++ X ++ [(13 : UInt8), 10]).length + raw.length ≤ (9223372036854775807 : Nat), (Z ++ [(13 : UInt8), 10] ++ X ++ [(13 : UInt8), 10] ++ raw).length + (4 : Nat) ≤ (9223372036854775807 : Nat), (Z ++ [(13 : UInt8), 10] ++ X ++ [(13 : UInt8), 10] ++ raw ++ [(13 : UInt8), 10, 13, 10]).length + Y.length ≤ (9223372036854775807 : Nat), EqvI (V1.c (Cell.sl (1 : Nat) (12 : Nat) fun (i_1 j_1 : Nat) => nthD [Cell.str raw, Cell.str A, Cell.str T, Cell.str A', Cell.str T', Cell.str (A ++ raw), Cell.str (T ++ raw), Cell.str (Z ++ [(13 : UInt8), 10] ++ X ++ [(13 : UInt8), 10, 13, 10] ++ Y), Cell.str (Z ++ [(13 : UInt8), 10, 13, 10] ++ Y), Cell.str (List.drop (0 : Nat) (List.take (Int.ofNat i).toNat A)), Cell.str (List.drop (0 : Nat) (List.take (Int.ofNat j).toNat T)), Cell.str (Z ++ [(13 : UInt8), 10] ++ X ++ [(13 : UInt8), 10] ++ raw ++ [(13 : UInt8), 10, 13, 10] ++ Y)] (i_1 * (1 : Nat) + j_1))) (V1.c (encL (textsL A T X Y Z raw A' T' i j))), EqvD (V1.c (Cell.sl (1 : Nat) (12 : Nat) fun (i_1 j_1 : Nat) => nthD [Cell.str raw, Cell.str A, Cell.str T, Cell.str A', Cell.str T', Cell.str (A ++ raw), Cell.str (T ++ raw), Cell.str (Z ++ [(13 : UInt8), 10] ++ X ++ [(13 : UInt8), 10, 13, 10] ++ Y), Cell.str (Z ++ [(13 : UInt8), 10, 13, 10] ++ Y), Cell.str (List.drop (0 : Nat) (List.take (Int.ofNat i).toNat A)), Cell.str (List.drop (0 : Nat) (List.take (Int.ofNat j).toNat T)), Cell.str (Z ++ [(13 : UInt8), 10] ++ X ++ [(13 : UInt8), 10] ++ raw ++ [(13 : UInt8), 10, 13, 10] ++ Y)] (i_1 * (1 : Nat) + j_1))) (V1.c (encL (textsL A T X Y Z raw A' T' i j)))] (by kernel_rfl) (by kernel_rfl) (by kernel_rfl) ⟨(by omega), (by omega), (by omega), (by omega), fun _ _ => trivial, (by assumption), (by omega), (by assumption), (by omega), (by omega), (by omega), fun _ _ => trivial, (by assumption), (by omega), (by assumption), (by omega), fun _ _ => trivial, (by assumption), fun _ _ => trivial, (by assumption), fun _ _ => trivial, (by assumption), fun _ _ => trivial, (by assumption), (by omega), (by assumption), fun _ _ => trivial, (by assumption), (by omega), (by assumption), (by omega), (by omega), (by omega), (by simp; omega), (by simp; omega), (by simp; omega), (by omega), (by simp; omega), ⟨(by decide), ⟨(by simp; done), (by simp; omega)⟩⟩, ⟨(by decide), ⟨(by simp; done), (by simp; omega)⟩⟩, (by omega), (by simp; omega), (by simp; omega), (by simp; omega), (by simp; omega), (by simp; omega), fun _ _ => trivial, (show EqvD (V1.c (Cell.sl (1 : Nat) (12 : Nat) fun (i_1 j_1 : Nat) => nthD [Cell.str raw, Cell.str A, Cell.str T, Cell.str A', Cell.str T', Cell.str (A ++ raw), Cell.str (T ++ raw), Cell.str (Z ++ [(13 : UInt8), 10] ++ X ++ [(13 : UInt8), 10, 13, 10] ++ Y), Cell.str (Z ++ [(13 : UInt8), 10, 13, 10] ++ Y), Cell.str (List.drop (0 : Nat) (List.take (Int.ofNat i).toNat A)), Cell.str (List.drop (0 : Nat) (List.take (Int.ofNat j).toNat T)), Cell.str (Z ++ [(13 : UInt8), 10] ++ X ++ [(13 : UInt8), 10] ++ raw ++ [(13 : UInt8), 10, 13, 10] ++ Y)] (i_1 * (1 : Nat) + j_1))) (V1.c (encL (textsL A T X Y Z raw A' T' i j))) from (by assumption))⟩ ?_
  refine Wp.ret' (by kernel_rfl) ?_
  exact FinQ.pure (rs' := [V1.c (Cell.sl (1 : Nat) (textsL A T X Y Z raw A' T' i j).length (strsF (textsL A T X Y Z raw A' T' i j)))]) (by kernel_rfl) rfl (by kernel_rfl)
end Go.Proofs.Tw
end

section
open Go Go.Sv Go.RowKit
namespace Go.Proofs.Tw
attribute [local irreducible] Wp FinQ resV Ent Pur Go.Sv.Fn Sat0
set_option maxRecDepth 100000
set_option maxHeartbeats 4000000
variable {G : Nat → Option (List Cell)}

/-! what the document fixes -/
theorem qget_ok (l : List FT) (n : List UInt8) (hl : l.length < 4611686018427387904) : Pur Tryz.prog G 66 [.c (encH l), .c (.str n)] [.c (.str ((fGet l n).getD [])), .c (.bool (fGet l n).isSome)] := by
  refine Pur.of Tryz.func66 (by kernel_rfl) (by kernel_rfl) (by kernel_rfl) ?_
  refine Wp.go (mx := true) (fun _ => mixed) [] 100 [] [] (by kernel_rfl) (by kernel_rfl) (by kernel_rfl) trivial ?_
  refine Wp.loopK (by kernel_rfl) (fun (k : Nat) => ⟨[(1, .v (.c (.str n))), (8, .v (.c (encH l))), (9, .v (.c (.int .i64 (l.length : Int)))), (10, .v (.c (.int .i64 (k : Int))))], [], 80⟩) (fun k => k ≤ l.length ∧ fGet l n = fGet (l.drop k) n) (fun k => l.length - k) 0 (Ent.of [] (by kernel_rfl) (by kernel_rfl) (by kernel_rfl) trivial) ⟨Nat.zero_le _, rfl⟩ ?_
  intro k L ⟨hk, hq⟩ again
  rcases Nat.lt_or_ge k l.length with hlt | hge
  · rw [dropM l .nil k hlt, fGet_cons] at hq
    cases hb : (l.getD k .nil).name == n with
    | true =>
      rw [hb, if_pos rfl] at hq
      rw [hq]
      clear again hq
      refine Wp.go (mx := true) (fun _ => mixed) [] 100 [true, true] [decide ((↑k : Int) < (↑l.length : Int)) = true, (0 : Int) ≤ (↑k : Int) ∧ (↑k : Int) < (↑l.length : Int), ((l.getD k FT.nil).name == n) = true] (by kernel_rfl) (by kernel_rfl) (by kernel_rfl) ⟨(by simp; omega), (by omega), (show ((l.getD k FT.nil).name == n) = true from (by assumption))⟩ ?_
      refine Wp.ret' (by kernel_rfl) ?_
      exact FinQ.pure (rs' := [V1.c (Cell.str (l.getD k FT.nil).value), V1.c (Cell.bool true)]) (by kernel_rfl) rfl (by kernel_rfl)
    | false =>
      rw [hb, if_neg (by decide)] at hq
      refine Wp.go (mx := true) (fun _ => mixed) [] 100 [true, false] [decide ((↑k : Int) < (↑l.length : Int)) = true, (0 : Int) ≤ (↑k : Int) ∧ (↑k : Int) < (↑l.length : Int), ((l.getD k FT.nil).name == n) = false, inR IntKind.i64 ((↑k : Int) + (1 : Int))] (by kernel_rfl) (by kernel_rfl) (by kernel_rfl) ⟨(by simp; omega), (by omega), (by assumption), inR64 (by omega) (by omega)⟩ ?_
      exact Wp.lpK (by kernel_rfl) (again _ (k + 1) ⟨(by assumption), (by assumption)⟩ (by omega) (Ent.of [] (by kernel_rfl) (by kernel_rfl) (by kernel_rfl) trivial))
  · rw [List.drop_of_length_le hge, fGet_nil] at hq
    rw [hq]
    clear hq again
    refine Wp.go (mx := true) (fun _ => mixed) [] 100 [false] [decide ((↑k : Int) < (↑l.length : Int)) = false] (by kernel_rfl) (by kernel_rfl) (by kernel_rfl) (show decide ((↑k : Int) < (↑l.length : Int)) = false from (by simp; omega)) ?_
    refine Wp.ret' (by kernel_rfl) ?_
    exact FinQ.pure (rs' := [V1.c (Cell.str []), V1.c (Cell.bool false)]) (by kernel_rfl) rfl (by kernel_rfl)
theorem hget_ok (l : List FT) (n : List UInt8) (hl : l.length < 4611686018427387904) : Pur Tryz.prog G 29 [.c (encH l), .c (.str n)] [.c (.str ((fGet l n).getD [])), .c (.bool (fGet l n).isSome)] := by
  refine Pur.of Tryz.func29 (by kernel_rfl) (by kernel_rfl) (by kernel_rfl) ?_
  have c := qget_ok (G := G) l n hl
  refine Wp.go (mx := true) (fun _ => mixed) [(1, {cs := [(2, pc c)]})] 100 [] [] (by kernel_rfl) (by kernel_rfl) (by kernel_rfl) trivial ?_
  refine Wp.ret' (by kernel_rfl) ?_
  exact FinQ.pure (rs' := [V1.c (Cell.str ((fGet l n).getD [])), V1.c (Cell.bool (fGet l n).isSome)]) (by kernel_rfl) rfl (by kernel_rfl)
def tellS13 : List UInt8 := [72, 84, 84, 80, 47, 49, 46, 49, 32, 50, 48, 48, 32, 79, 75, 13, 10, 99, 111, 110, 116, 101, 110, 116, 45, 108, 101, 110, 103, 116, 104, 58, 32, 49, 13, 10, 13, 10, 120]
def getQ13 : QT := ⟨[71, 69, 84], [47, 97], [], []⟩
def tellR13 : RT := ⟨200, [], [120]⟩
theorem one_den (f : FT) : EqvD (.c (.sl 2 1 (fun i j => nthD [.str f.name, .str f.value] (i * 2 + j)))) (.c (encH [f])) := by
  refine EqvD.sl rfl fun i hi j hj => ?_
  obtain rfl : i = 0 := by omega
  rw [Nat.zero_mul, Nat.zero_add]; rfl
theorem known13_ok (hp : HasPow G) (hL : HasLen G) : Pur Tryz.prog G 7 [] [.c (.bool true)] := by
  refine Pur.of Tryz.func7 (by kernel_rfl) (by kernel_rfl) (by kernel_rfl) ?_
  have c1 := parseQ_ok hL [71, 69, 84, 32, 47, 97, 32, 72, 84, 84, 80, 47, 49, 46, 49, 13, 10, 13, 10] (by decide)
  rw [show parseQ [71, 69, 84, 32, 47, 97, 32, 72, 84, 84, 80, 47, 49, 46, 49, 13, 10, 13, 10] = (getQ13, 0) from (by kernel_rfl)] at c1
  have c2 := parseQ_ok hL [103, 101, 116] (by decide)
  rw [show parseQ [103, 101, 116] = (QT.nil, 3) from (by kernel_rfl)] at c2
  have c3 := parseR_ok hL tellS13 (by decide)
  rw [show parseR tellS13 = (tellR13, 0) from (by kernel_rfl)] at c3
  have c4 := hget_ok (G := G) [⟨[97], [98]⟩] [97] (by decide)
  have e4 := one_den ⟨[97], [98]⟩
  have fQ : FitH getQ13.head getQ13.body := ⟨by decide, fun f hf => (by cases hf), by decide, by show (2 : Nat) ≤ _; omega⟩
  have fR : FitH tellR13.head tellR13.body := ⟨by decide, fun f hf => (by cases hf), by decide, by have h21 : (linesT tellR13.head tellR13.body).length = 21 := (by kernel_rfl); omega⟩
  have c5 := mayAsk_ok hp getQ13 (fQ.q (by decide) (by decide))
  rw [show mayAskT getQ13 = true from (by kernel_rfl)] at c5
  have c6 := printAsk_ok hp getQ13 (fQ.q (by decide) (by decide))
  rw [show printAskT getQ13 = [71, 69, 84, 32, 47, 97, 32, 72, 84, 84, 80, 47, 49, 46, 49, 13, 10, 13, 10] from (by kernel_rfl)] at c6
  have c7 := mayTell_any hp tellR13 (fun h0 h1 => fR.r h0 h1)
  rw [show mayTell tellR13 = true from (by kernel_rfl)] at c7
  have c8 := printTell_any hp tellR13 (fun h0 h1 => fR.r h0 h1)
  rw [show printTell tellR13 = tellS13 from (by kernel_rfl)] at c8
  clear fQ fR
  refine Wp.go (mx := true) (fun _ => mixed) [(4, {cs := [(2, pc c4)], fm := [(1, .c (encH [⟨[97], [98]⟩]))]}), (1, {cs := [(0, pc c1)]}), (2, {cs := [(0, pc c2)]}), (3, {cs := [(0, pc c3)]}), (5, {cs := [(39, pc c6), (44, pc c5), (48, pc c7), (52, pc c8)]})] 100 [] [EqvI (V1.c (Cell.sl (2 : Nat) (1 : Nat) fun (i j : Nat) => nthD [Cell.str [(97 : UInt8)], Cell.str [(98 : UInt8)]] (i * (2 : Nat) + j))) (V1.c (encH [{ name := [(97 : UInt8)], value := [(98 : UInt8)] }])), EqvD (V1.c (Cell.sl (2 : Nat) (1 : Nat) fun (i j : Nat) => nthD [Cell.str [(97 : UInt8)], Cell.str [(98 : UInt8)]] (i * (2 : Nat) + j))) (V1.c (encH [{ name := [(97 : UInt8)], value := [(98 : UInt8)] }]))] (by kernel_rfl) (by kernel_rfl) (by kernel_rfl) ⟨fun _ _ => trivial, (show EqvD (V1.c (Cell.sl (2 : Nat) (1 : Nat) fun (i j : Nat) => nthD [Cell.str [(97 : UInt8)], Cell.str [(98 : UInt8)]] (i * (2 : Nat) + j))) (V1.c (encH [{ name := [(97 : UInt8)], value := [(98 : UInt8)] }])) from (by assumption))⟩ ?_
  refine Wp.ret' (by kernel_rfl) ?_
  exact FinQ.pure (rs' := [V1.c (Cell.bool (bif bif bif bif bif bif bif bif bif bif bif bif (0 : Int) == (0 : Int) then [(71 : UInt8), 69, 84] == [(71 : UInt8), 69, 84] else false then [(47 : UInt8), 97] == [(47 : UInt8), 97] else false then (3 : Int) == (3 : Int) else false then (0 : Int) == (0 : Int) else false then (200 : Int) == (200 : Int) else false then [(120 : UInt8)] == [(120 : UInt8)] else false then (fGet [{ name := [(97 : UInt8)], value := [(98 : UInt8)] }] [(97 : UInt8)]).getD [] == [(98 : UInt8)] else false then (fGet [{ name := [(97 : UInt8)], value := [(98 : UInt8)] }] [(97 : UInt8)]).isSome else false then [(71 : UInt8), 69, 84, 32, 47, 97, 32, 72, 84, 84, 80, 47, 49, 46, 49, 13, 10, 13, 10] == [(71 : UInt8), 69, 84, 32, 47, 97, 32, 72, 84, 84, 80, 47, 49, 46, 49, 13, 10, 13, 10] else false then true else false then true else false then decide ((↑tellS13.length : Int) > (0 : Int)) else false))]) (by kernel_rfl) rfl (by kernel_rfl)
theorem texts_len (ns : List Int) (raw : List UInt8) (at_ : Int) (b : UInt8) (hr : raw.length ≤ 400) : ∀ x ∈ textsG ns raw at_ b, x.length ≤ 1400 := by
  have lA := (askG_f ns).len
  have lT := (tellG_f ns).len
  have l1 : (pickT lineL ns 0).length ≤ 30 := (by decide : ∀ x ∈ lineL, x.length ≤ 30) _ (pick_in lineL ns 0 (by decide))
  have l2 : (pickT endL ns (nextA ns 0 12)).length ≤ 2 := (by decide : ∀ x ∈ endL, x.length ≤ 2) _ (pick_in endL ns _ (by decide))
  have l3 : (pickT fstL13 ns (nextA ns (nextA ns 0 12) 3)).length ≤ 20 := (by decide : ∀ x ∈ fstL13, x.length ≤ 20) _ (pick_in fstL13 ns _ (by decide))
  have lx := xorS_len (printAskT (askG ns)) at_ b
  have ly := xorS_len (printTell (tellG ns)) at_ b
  intro x hx
  simp only [textsG, textsL, List.mem_cons, List.not_mem_nil, or_false] at hx
  rcases hx with rfl | rfl | rfl | rfl | rfl | rfl | rfl | rfl | rfl | rfl | rfl | rfl <;> (try simp only [List.length_append, List.length_cons, List.length_nil, List.length_take]) <;> omega
theorem texts_at {ns : List Int} {raw : List UInt8} {at_ : Int} {b : UInt8} (hr : raw.length ≤ 400) (k : Nat) : ((textsG ns raw at_ b).getD k []).length ≤ 1400 := by
  rw [List.getD_eq_getElem?_getD]
  cases h : (textsG ns raw at_ b)[k]? with
  | none => show 0 ≤ _; omega
  | some x => exact texts_len ns raw at_ b hr x (List.mem_of_getElem? h)
theorem splitH_25 {s : List UInt8} (h : splitH s = 0) : bigH s = false ∧ (hdC s).2.2 = true ∧ (linesH s).length ≤ 25 := by
  unfold splitH at h
  split at h
  · cases h
  · split at h
    · cases h
    · split at h
      · cases h
      · rename_i h1 h2 h3
        exact ⟨by simpa using h1, by simpa using h2, by omega⟩
theorem readH_ok {line : List UInt8 → Bool} {s : List UInt8} (h : (readH line s).2 = 0) : splitH s = 0 ∧ line (firstH s) = true ∧ fieldsO (fieldsL s) [] = true ∧ bodyE (fieldsA (fieldsL s) []) (hdC s).2.1 = 0 ∧ (readH line s).1 = (fieldsA (fieldsL s) []).filter notCl := by
  by_cases h1 : splitH s = 0
  · cases h2 : line (firstH s) with
    | false => rw [readH_line h1 h2] at h; cases h
    | true =>
      cases h3 : fieldsO (fieldsL s) [] with
      | false => rw [readH_flds h1 h2 h3] at h; cases h
      | true =>
        rw [readH_end h1 h2 h3] at h ⊢
        by_cases h4 : bodyE (fieldsA (fieldsL s) []) (hdC s).2.1 = 0
        · rw [if_pos h4]; exact ⟨h1, rfl, rfl, h4, rfl⟩
        · rw [if_neg h4] at h; exact (h4 h).elim
  · have : readH line s = ([], splitH s) := by unfold readH; rw [if_pos h1]
    rw [this] at h
    exact (h1 h).elim
theorem readH_nil {line : List UInt8 → Bool} {s : List UInt8} (h : (readH line s).2 ≠ 0) : (readH line s).1 = [] := by
  unfold readH at *
  split
  · rfl
  · split
    · rfl
    · split
      · rfl
      · split
        · rename_i h1 h2 h3 h4
          rw [if_neg h1, if_neg h2, if_neg h3, if_pos h4] at h
          exact (h rfl).elim
        · rfl
theorem readH_len (line : List UInt8 → Bool) (s : List UInt8) : (readH line s).1.length ≤ 24 := by
  by_cases h : (readH line s).2 = 0
  · obtain ⟨h1, _, _, _, h5⟩ := readH_ok h
    rw [h5]
    have h2 := (splitH_25 h1).2.2
    have h3 := fA_len (fieldsL s) []
    have h4 := List.length_filter_le notCl (fieldsA (fieldsL s) [])
    unfold fieldsL at *
    rw [List.length_drop, List.length_nil] at h3
    omega
  · rw [readH_nil h]; exact Nat.zero_le _
theorem parseQ_len (s : List UInt8) : (parseQ s).1.head.length ≤ 24 := by
  unfold parseQ
  split
  · exact readH_len _ _
  · exact Nat.zero_le _
theorem parseR_len (s : List UInt8) : (parseR s).1.head.length ≤ 24 := by
  unfold parseR
  split
  · exact readH_len _ _
  · exact Nat.zero_le _
theorem httpParse_ok (hp : HasPow G) (hL : HasLen G) (ns : List Int) (raw : List UInt8) (at_ : Int) (b : UInt8) (hl : ns.length ≤ 9223372036854775807) : Pur Tryz.prog G 3 [.c (.sl 1 ns.length (intsF ns)), .c (.str raw), .c (.int .i64 at_), .c (.int .u8 (b.toNat : Int))] [.c (.bool true)] := by
  refine Pur.of Tryz.func3 (by kernel_rfl) (by kernel_rfl) (by kernel_rfl) ?_
  have k0 := known13_ok hp hL
  by_cases hr : 400 < raw.length
  · have ht : decide ((raw.length : Int) > 400) = true := by simp; omega
    refine Wp.go (mx := true) (fun _ => mixed) [(1, {cs := [(0, pc k0)]})] 100 [false, true] [(!true) = false, decide ((↑raw.length : Int) > (400 : Int)) = true] (by kernel_rfl) (by kernel_rfl) (by kernel_rfl) ⟨rfl, (show decide ((↑raw.length : Int) > (400 : Int)) = true from (by assumption))⟩ ?_
    refine Wp.ret' (by kernel_rfl) ?_
    exact FinQ.pure (rs' := [V1.c (Cell.bool true)]) (by kernel_rfl) rfl (by kernel_rfl)
  have ht : decide ((raw.length : Int) > 400) = false := by simp; omega
  have c0 := Texts_ok (G := G) ns raw at_ b hl (by omega)
  have hx : ∀ k, ((textsG ns raw at_ b).getD k []).length ≤ 1400 := fun k => texts_at (by omega) k
  have hll : (textsG ns raw at_ b).length = 12 := rfl
  generalize textsG ns raw at_ b = X at *
  refine Wp.go (mx := true) (fun _ => mixed) [(1, {cs := [(0, pc k0)]}), (5, {cs := [(4, pc c0)]})] 100 [false, false] [(!true) = false, decide ((↑raw.length : Int) > (400 : Int)) = false] (by kernel_rfl) (by kernel_rfl) (by kernel_rfl) ⟨rfl, ht⟩ ?_
  refine Wp.loopK (by kernel_rfl) (fun (k : Nat) => ⟨[(9, TV.v (V1.c (encL X))), (10, TV.v (V1.c (Cell.int .i64 (k : Int))))], [], 240⟩) (fun k => k ≤ 12) (fun k => 12 - k) 0 (Ent.of [] (by kernel_rfl) (by kernel_rfl) (by kernel_rfl) trivial) (Nat.zero_le _) ?_
  intro k L hk again
  rcases Nat.lt_or_ge k 12 with hk4 | hk4
  · have hxk := hx k
    have d1 := parseQ_ok hL (X.getD k []) (by omega)
    have d2 := parse13Q_ok (G := G) (X.getD k []) (by omega)
    have d3 := parseR_ok hL (X.getD k []) (by omega)
    have d4 := parse13R_ok (G := G) (X.getD k []) (by omega)
    have q1 : (parseQ (X.getD k [])).1.head.length < 4611686018427387904 := Nat.lt_of_le_of_lt (parseQ_len _) (by decide)
    have q2 : (parseR (X.getD k [])).1.head.length < 4611686018427387904 := Nat.lt_of_le_of_lt (parseR_len _) (by decide)
    generalize parseQ (X.getD k []) = x at d1 d2 q1
    generalize parseR (X.getD k []) = y at d3 d4 q2
    have d5 := sameQ_ok (G := G) x.1 x.1 q1
    rw [sameQ_refl] at d5
    have d6 := sameT_ok (G := G) y.1 y.1 q2
    rw [sameT_refl] at d6
    have ht3 : (bif bif bif !true then true else x.2 != x.2 then true else !true then true else y.2 != y.2) = false := by simp
    refine Wp.go (mx := true) (fun _ => mixed) [(9, {cs := [(4, pc d1)]}), (10, {cs := [(4, pc d2)]}), (11, {cs := [(4, pc d3)]}), (12, {cs := [(4, pc d4)]}), (13, {cs := [(2, pc d5), (12, pc d6)]})] 100 [true, false] [decide ((↑k : Int) < (↑X.length : Int)) = true, (0 : Int) ≤ (↑k : Int) ∧ (↑k : Int) < (↑X.length : Int), (0 : Int) ≤ (↑k : Int) ∧ (↑k : Int) < (↑X.length : Int), (0 : Int) ≤ (↑k : Int) ∧ (↑k : Int) < (↑X.length : Int), (0 : Int) ≤ (↑k : Int) ∧ (↑k : Int) < (↑X.length : Int), (bif bif bif !true then true else x.2 != x.2 then true else !true then true else y.2 != y.2) = false, inR IntKind.i64 ((↑k : Int) + (1 : Int))] (by kernel_rfl) (by kernel_rfl) (by kernel_rfl) ⟨(by simp; omega), (by omega), (by omega), (by omega), (by omega), (by assumption), inR64 (by omega) (by omega)⟩ ?_
    exact Wp.lpK (by kernel_rfl) (again _ (k + 1) (by assumption) (by omega) (Ent.of [] (by kernel_rfl) (by kernel_rfl) (by kernel_rfl) trivial))
  · refine Wp.go (mx := true) (fun _ => mixed) [] 100 [false] [decide ((↑k : Int) < (↑X.length : Int)) = false] (by kernel_rfl) (by kernel_rfl) (by kernel_rfl) (show decide ((↑k : Int) < (↑X.length : Int)) = false from (by simp; omega)) ?_
    refine Wp.ret' (by kernel_rfl) ?_
    exact FinQ.pure (rs' := [V1.c (Cell.bool true)]) (by kernel_rfl) rfl (by kernel_rfl)
end Go.Proofs.Tw
end

section
open Go Go.Sv Go.RowKit
namespace Go.Proofs.Tw
attribute [local irreducible] Wp FinQ resV Ent Pur Go.Sv.Fn Sat0
set_option maxRecDepth 100000
set_option maxHeartbeats 4000000
variable {G : Nat → Option (List Cell)}

/-! may any request be, any response -/
theorem rows_new {α : Type} (enc : α → List Cell) (d : α) {sz : Nat} (hs : ∀ x, (enc x).length = sz) (l : List α) {cs : List Cell} (hc : cs = l.flatMap enc) {n : Nat} (hn : n = l.length) : EqvD (.c (.sl sz n (fun i j => nthD cs (i * sz + j)))) (.c (.sl sz l.length (fun i j => nthD (enc (l.getD i d)) j))) := by
  subst hc hn
  exact EqvD.sl rfl fun i hi j hj => flat_get enc d hs l i hi j hj
def m9 (n : Nat) : Int := if (9000 : Int) < (n : Int) then 9000 else (n : Int)
theorem m9_rng (n : Nat) : 0 ≤ m9 n ∧ m9 n ≤ 9000 ∧ (m9 n < 9000 → n < 9000) := by
  unfold m9
  split <;> omega
def SmH (l : List FT) (k : Nat) : Prop := ∀ j, j < k → (l.getD j .nil).name.length < 9000 ∧ (l.getD j .nil).value.length < 9000
theorem smH_succ {l : List FT} {k : Nat} (h : SmH l k) (h1 : (l.getD k .nil).name.length < 9000) (h2 : (l.getD k .nil).value.length < 9000) : SmH l (k + 1) := by
  intro j hj
  rcases Nat.lt_or_ge j k with hlt | hge
  · exact h j hlt
  · rw [show j = k from by omega]; exact ⟨h1, h2⟩
theorem flat_le {B : Nat} : ∀ (l : List FT), (∀ f ∈ l, f.name.length ≤ B ∧ f.value.length ≤ B) → (l.flatMap fieldL).length ≤ l.length * (2 * B + 4)
  | [], _ => by simp
  | x :: r, h => by
    have := flat_le r (fun f hf => h f (by simp [hf]))
    have hx := h x (by simp)
    rw [List.flatMap_cons, List.length_append, field_len, List.length_cons, Nat.succ_mul]
    omega
theorem clL_any (b : List UInt8) : (clL b).length ≤ b.length + 19 := by
  unfold clL
  split
  · simp
  · rw [itoa_nat]
    have := dec_len b.length
    simp only [List.length_append, List.length_cons, List.length_nil]
    omega
theorem fit_small {l : List FT} {b : List UInt8} (h : SmH l l.length) (hn : l.length < 9000) (hb : b.length < 9000) : FitH l b := by
  have hs : ∀ f ∈ l, f.name.length ≤ 9000 ∧ f.value.length ≤ 9000 := by
    intro f hf
    obtain ⟨i, hi, rfl⟩ := List.getElem_of_mem hf
    have := h i hi
    rw [List.getD_eq_getElem?_getD, List.getElem?_eq_getElem hi] at this
    simp only [Option.getD_some] at this
    omega
  refine ⟨by omega, fun f hf => by have := hs f hf; omega, by omega, ?_⟩
  have h1 := flat_le l hs
  have h2 := clL_any b
  unfold linesT
  simp only [List.length_append, List.length_cons, List.length_nil]
  have : l.length * (2 * 9000 + 4) ≤ 9000 * (2 * 9000 + 4) := Nat.mul_le_mul_right _ (by omega)
  omega
def may3Q (a c : QT) : List QT := [a, c, ⟨c.method, c.target, a.head, c.body⟩]
def may3R (b d : RT) : List RT := [b, d, ⟨d.status, b.head, d.body⟩]
theorem httpMay_ok (hp : HasPow G) (hL : HasLen G) (a : QT) (b : RT) (ns : List Int) (hl : ns.length ≤ 9223372036854775807) : Pur Tryz.prog G 4 [.agg (encQ a), .agg (encT b), .c (.sl 1 ns.length (intsF ns))] [.c (.bool true)] := by
  refine Pur.of Tryz.func4 (by kernel_rfl) (by kernel_rfl) (by kernel_rfl) ?_
  have k0 := known13_ok hp hL
  have m1 := m9_rng a.method.length
  have m2 := m9_rng a.target.length
  have m3 := m9_rng a.body.length
  have m4 := m9_rng b.body.length
  have hi1 : inR IntKind.i64 (m9 a.method.length + m9 a.target.length) := inR64 (by omega) (by omega)
  have hi2 : inR IntKind.i64 (m9 a.method.length + m9 a.target.length + m9 a.body.length) := inR64 (by omega) (by omega)
  have hi3 : inR IntKind.i64 (m9 a.method.length + m9 a.target.length + m9 a.body.length + m9 b.body.length) := inR64 (by omega) (by omega)
  refine Wp.go (mx := true) (fun _ => mixed) [(1, {cs := [(0, pc k0)]})] 100 [false] [(!true) = false, inR IntKind.i64 (m9 a.method.length + m9 a.target.length), inR IntKind.i64 (m9 a.method.length + m9 a.target.length + m9 a.body.length), inR IntKind.i64 (m9 a.method.length + m9 a.target.length + m9 a.body.length + m9 b.body.length)] (by kernel_rfl) (by kernel_rfl) (by kernel_rfl) ⟨rfl, hi1, hi2, hi3⟩ ?_
  have hz0 : 0 ≤ m9 a.method.length + m9 a.target.length + m9 a.body.length + m9 b.body.length ∧ m9 a.method.length + m9 a.target.length + m9 a.body.length + m9 b.body.length ≤ 60000 := by omega
  have hz1 : m9 a.method.length + m9 a.target.length + m9 a.body.length + m9 b.body.length < 9000 → a.method.length < 9000 ∧ a.target.length < 9000 ∧ a.body.length < 9000 ∧ b.body.length < 9000 ∧ ((0 : Nat) : Int) ≤ m9 a.method.length + m9 a.target.length + m9 a.body.length + m9 b.body.length ∧ SmH a.head 0 := fun h =>
    ⟨by omega, by omega, by omega, by omega, by omega, fun j hj => absurd hj (Nat.not_lt_zero j)⟩
  refine Wp.loopK (by kernel_rfl) (fun (x : Nat × Int) => ⟨[(2, TV.v (V1.c (Cell.sl (1 : Nat) ns.length (intsF ns)))), (3, TV.v (V1.c (Cell.ptr 0 (0 : Nat)))), (4, TV.v (V1.c (Cell.ptr 16 (0 : Nat)))), (7, TV.v (V1.c (Cell.int .i64 x.2))), (8, TV.v (V1.c (Cell.int .i64 (x.1 : Int))))], [(0, Blk.box 28 (encQ a)), (16, Blk.box 33 (encT b))], 416⟩) (fun x => x.1 ≤ a.head.length ∧ (0 ≤ x.2 ∧ x.2 ≤ 60000) ∧ (x.2 < 9000 → a.method.length < 9000 ∧ a.target.length < 9000 ∧ a.body.length < 9000 ∧ b.body.length < 9000 ∧ (x.1 : Int) ≤ x.2 ∧ SmH a.head x.1)) (fun x => a.head.length - x.1) (0, m9 a.method.length + m9 a.target.length + m9 a.body.length + m9 b.body.length) (Ent.of [] (by kernel_rfl) (by kernel_rfl) (by kernel_rfl) trivial) ⟨Nat.zero_le _, hz0, hz1⟩ ?_
  rintro ⟨i, n⟩ L ⟨hi, hr, hs⟩ again
  simp only at hi hr hs
  clear m1 m2 m3 m4 hi1 hi2 hi3
  cases ht : (bif decide ((i : Int) < (a.head.length : Int)) then decide (n < 9000) else false) with
  | true =>
    rw [Bool.cond_false_right, Bool.and_eq_true, decide_eq_true_eq, decide_eq_true_eq] at ht
    have hlt : i < a.head.length := by omega
    have hs := hs ht.2
    have m1 := m9_rng (a.head.getD i .nil).name.length
    have m2 := m9_rng (a.head.getD i .nil).value.length
    have ht2 : (bif decide ((i : Int) < (a.head.length : Int)) then decide (n < 9000) else false) = true := by rw [decide_eq_true ht.1, decide_eq_true ht.2]; rfl
    have hs2 : n + 1 + m9 (a.head.getD i .nil).name.length + m9 (a.head.getD i .nil).value.length < 9000 → a.method.length < 9000 ∧ a.target.length < 9000 ∧ a.body.length < 9000 ∧ b.body.length < 9000 ∧ ((i + 1 : Nat) : Int) ≤ n + 1 + m9 (a.head.getD i .nil).name.length + m9 (a.head.getD i .nil).value.length ∧ SmH a.head (i + 1) := fun h =>
      ⟨hs.1, hs.2.1, hs.2.2.1, hs.2.2.2.1, by have := hs.2.2.2.2.1; omega, smH_succ hs.2.2.2.2.2 (by omega) (by omega)⟩
    have hr2 : 0 ≤ n + 1 + m9 (a.head.getD i .nil).name.length + m9 (a.head.getD i .nil).value.length ∧ n + 1 + m9 (a.head.getD i .nil).name.length + m9 (a.head.getD i .nil).value.length ≤ 60000 := by omega
    have r4 : i < 9000 := by have := hs.2.2.2.2.1; omega
    have r1 : inR IntKind.i64 (n + 1) := inR64 (by omega) (by omega)
    have r2 : inR IntKind.i64 (n + 1 + m9 (a.head.getD i .nil).name.length) := inR64 (by omega) (by omega)
    have r3 : inR IntKind.i64 (n + 1 + m9 (a.head.getD i .nil).name.length + m9 (a.head.getD i .nil).value.length) := inR64 (by omega) (by omega)
    clear hs ht m1 m2
    refine Wp.go (mx := true) (fun _ => mixed) [] 100 [true] [(bif decide ((↑i : Int) < (↑a.head.length : Int)) then decide (n < (9000 : Int)) else false) = true, inR IntKind.i64 (n + (1 : Int)), (0 : Int) ≤ (↑i : Int) ∧ (↑i : Int) < (↑a.head.length : Int), inR IntKind.i64 (n + (1 : Int) + if (9000 : Int) < (↑(a.head.getD i FT.nil).name.length : Int) then (9000 : Int) else (↑(a.head.getD i FT.nil).name.length : Int)), (0 : Int) ≤ (↑i : Int) ∧ (↑i : Int) < (↑a.head.length : Int), inR IntKind.i64 ((n + (1 : Int) + if (9000 : Int) < (↑(a.head.getD i FT.nil).name.length : Int) then (9000 : Int) else (↑(a.head.getD i FT.nil).name.length : Int)) + if (9000 : Int) < (↑(a.head.getD i FT.nil).value.length : Int) then (9000 : Int) else (↑(a.head.getD i FT.nil).value.length : Int)), inR IntKind.i64 ((↑i : Int) + (1 : Int))] (by kernel_rfl) (by kernel_rfl) (by kernel_rfl) ⟨(by assumption), inR64 (by omega) (by omega), (by omega), inR64 (by omega) (by omega), (by omega), inR64 (by omega) (by omega), inR64 (by omega) (by omega)⟩ ?_
    exact Wp.lpK (by kernel_rfl) (again _ (i + 1, n + 1 + m9 (a.head.getD i .nil).name.length + m9 (a.head.getD i .nil).value.length) ⟨(by assumption), ⟨(by omega), (by assumption)⟩⟩ (by omega) (Ent.of [] (by kernel_rfl) (by kernel_rfl) (by kernel_rfl) trivial))
  | false =>
    have hN : n < 9000 → a.method.length < 9000 ∧ a.target.length < 9000 ∧ a.body.length < 9000 ∧ b.body.length < 9000 ∧ a.head.length < 9000 ∧ SmH a.head a.head.length := fun h => by
      have hs := hs h
      rw [decide_eq_true h, Bool.cond_false_right, Bool.and_true, decide_eq_false_iff_not] at ht
      have : i = a.head.length := by omega
      subst this
      exact ⟨hs.1, hs.2.1, hs.2.2.1, hs.2.2.2.1, by omega, hs.2.2.2.2.2⟩
    clear hs again
    have hz0 : 0 ≤ n ∧ n ≤ 60000 := hr
    have hz1 : n < 9000 → (a.method.length < 9000 ∧ a.target.length < 9000 ∧ a.body.length < 9000 ∧ b.body.length < 9000 ∧ a.head.length < 9000 ∧ SmH a.head a.head.length) ∧ ((0 : Nat) : Int) ≤ n ∧ SmH b.head 0 := fun h => ⟨hN h, by omega, fun j hj => absurd hj (Nat.not_lt_zero j)⟩
    clear hr hN
    refine Wp.go (mx := true) (fun _ => mixed) [] 100 [false] [(bif decide ((↑i : Int) < (↑a.head.length : Int)) then decide (n < (9000 : Int)) else false) = false] (by kernel_rfl) (by kernel_rfl) (by kernel_rfl) ht ?_
    refine Wp.loopK (by kernel_rfl) (fun (x : Nat × Int) => ⟨[(2, TV.v (V1.c (Cell.sl (1 : Nat) ns.length (intsF ns)))), (3, TV.v (V1.c (Cell.ptr 0 (0 : Nat)))), (4, TV.v (V1.c (Cell.ptr 16 (0 : Nat)))), (7, TV.v (V1.c (Cell.int .i64 x.2))), (9, TV.v (V1.c (Cell.int .i64 (x.1 : Int))))], [(0, Blk.box 28 (encQ a)), (16, Blk.box 33 (encT b))], 576⟩) (fun x => x.1 ≤ b.head.length ∧ (0 ≤ x.2 ∧ x.2 ≤ 60000) ∧ (x.2 < 9000 → (a.method.length < 9000 ∧ a.target.length < 9000 ∧ a.body.length < 9000 ∧ b.body.length < 9000 ∧ a.head.length < 9000 ∧ SmH a.head a.head.length) ∧ (x.1 : Int) ≤ x.2 ∧ SmH b.head x.1)) (fun x => b.head.length - x.1) (0, n) (Ent.of [] (by kernel_rfl) (by kernel_rfl) (by kernel_rfl) trivial) ⟨Nat.zero_le _, hz0, hz1⟩ ?_
    clear hz0 hz1 ht hi
    rintro ⟨i, n⟩ L2 ⟨hi, hr, hs⟩ again
    simp only at hi hr hs
    cases ht : (bif decide ((i : Int) < (b.head.length : Int)) then decide (n < 9000) else false) with
    | true =>
      rw [Bool.cond_false_right, Bool.and_eq_true, decide_eq_true_eq, decide_eq_true_eq] at ht
      have hlt : i < b.head.length := by omega
      have hs := hs ht.2
      have m1 := m9_rng (b.head.getD i .nil).name.length
      have m2 := m9_rng (b.head.getD i .nil).value.length
      have ht2 : (bif decide ((i : Int) < (b.head.length : Int)) then decide (n < 9000) else false) = true := by rw [decide_eq_true ht.1, decide_eq_true ht.2]; rfl
      have hs2 : n + 1 + m9 (b.head.getD i .nil).name.length + m9 (b.head.getD i .nil).value.length < 9000 → (a.method.length < 9000 ∧ a.target.length < 9000 ∧ a.body.length < 9000 ∧ b.body.length < 9000 ∧ a.head.length < 9000 ∧ SmH a.head a.head.length) ∧ ((i + 1 : Nat) : Int) ≤ n + 1 + m9 (b.head.getD i .nil).name.length + m9 (b.head.getD i .nil).value.length ∧ SmH b.head (i + 1) := fun h =>
        ⟨hs.1, by have := hs.2.1; omega, smH_succ hs.2.2 (by omega) (by omega)⟩
      have hr2 : 0 ≤ n + 1 + m9 (b.head.getD i .nil).name.length + m9 (b.head.getD i .nil).value.length ∧ n + 1 + m9 (b.head.getD i .nil).name.length + m9 (b.head.getD i .nil).value.length ≤ 60000 := by omega
      have r4 : i < 9000 := by have := hs.2.1; omega
      have r1 : inR IntKind.i64 (n + 1) := inR64 (by omega) (by omega)
      have r2 : inR IntKind.i64 (n + 1 + m9 (b.head.getD i .nil).name.length) := inR64 (by omega) (by omega)
      have r3 : inR IntKind.i64 (n + 1 + m9 (b.head.getD i .nil).name.length + m9 (b.head.getD i .nil).value.length) := inR64 (by omega) (by omega)
      clear hs ht m1 m2
      refine Wp.go (mx := true) (fun _ => mixed) [] 100 [true] [(bif decide ((↑i : Int) < (↑b.head.length : Int)) then decide (n < (9000 : Int)) else false) = true, inR IntKind.i64 (n + (1 : Int)), (0 : Int) ≤ (↑i : Int) ∧ (↑i : Int) < (↑b.head.length : Int), inR IntKind.i64 (n + (1 : Int) + if (9000 : Int) < (↑(b.head.getD i FT.nil).name.length : Int) then (9000 : Int) else (↑(b.head.getD i FT.nil).name.length : Int)), (0 : Int) ≤ (↑i : Int) ∧ (↑i : Int) < (↑b.head.length : Int), inR IntKind.i64 ((n + (1 : Int) + if (9000 : Int) < (↑(b.head.getD i FT.nil).name.length : Int) then (9000 : Int) else (↑(b.head.getD i FT.nil).name.length : Int)) + if (9000 : Int) < (↑(b.head.getD i FT.nil).value.length : Int) then (9000 : Int) else (↑(b.head.getD i FT.nil).value.length : Int)), inR IntKind.i64 ((↑i : Int) + (1 : Int))] (by kernel_rfl) (by kernel_rfl) (by kernel_rfl) ⟨(by assumption), inR64 (by omega) (by omega), (by omega), inR64 (by omega) (by omega), (by omega), inR64 (by omega) (by omega), inR64 (by omega) (by omega)⟩ ?_
      exact Wp.lpK (by kernel_rfl) (again _ (i + 1, n + 1 + m9 (b.head.getD i .nil).name.length + m9 (b.head.getD i .nil).value.length) ⟨(by assumption), ⟨(by omega), (by assumption)⟩⟩ (by omega) (Ent.of [] (by kernel_rfl) (by kernel_rfl) (by kernel_rfl) trivial))
    | false =>
      clear again
      by_cases h9 : n < 9000
      · have hs := hs h9
        rw [decide_eq_true h9, Bool.cond_false_right, Bool.and_true, decide_eq_false_iff_not] at ht
        obtain rfl : i = b.head.length := by omega
        obtain ⟨⟨s1, s2, s3, s4, s5, s6⟩, s7, s8⟩ := hs
        have fa := fit_small (b := a.body) s6 s5 s3
        have fb := fit_small (b := b.body) s8 (by omega) s4
        have fA := askG_f ns
        have fT := tellG_f ns
        have fae : FitH a.head (askG ns).body := fit_small s6 s5 (by have := fA.hb; omega)
        have fbe : FitH b.head (tellG ns).body := fit_small s8 (by omega) (by have := fT.hb; omega)
        have c1 := askG_ok (G := G) ns hl
        have c2 := tellG_ok (G := G) ns hl
        have ht1 : (bif decide (((b.head.length : Nat) : Int) < (b.head.length : Int)) then decide (n < 9000) else false) = false := by simp
        have ht2 : decide (n ≥ 9000) = false := by simp; omega
        have hA : ∀ x ∈ may3Q a (askG ns), FitH x.head x.body ∧ x.method.length < 1000000000 ∧ x.target.length < 1000000000 := by
          have q1 := fA.h1
          have q2 := fA.h2
          intro x hx
          simp only [may3Q, List.mem_cons, List.not_mem_nil, or_false] at hx
          rcases hx with rfl | rfl | rfl
          · exact ⟨fa, by omega, by omega⟩
          · exact ⟨fA.fit, by omega, by omega⟩
          · exact ⟨fae, by show (askG ns).method.length < _; omega, by show (askG ns).target.length < _; omega⟩
        have hB : ∀ x ∈ may3R b (tellG ns), FitH x.head x.body := by
          intro x hx
          simp only [may3R, List.mem_cons, List.not_mem_nil, or_false] at hx
          rcases hx with rfl | rfl | rfl
          · exact fb
          · exact fT.fit
          · exact fbe
        have c3 := mayAsk_ok hp (askG ns) (fA.fit.q (by have := fA.h1; omega) (by have := fA.h2; omega))
        rw [fA.may] at c3
        have c4 := mayTell_any hp (tellG ns) (fun h0 h1 => fT.fit.r h0 h1)
        rw [fT.may] at c4
        have e1 : EqvD (.c (.sl 4 3 (fun i j => nthD [.str a.method, .str a.target, encH a.head, .str a.body, .str (askG ns).method, .str (askG ns).target, encH (askG ns).head, .str (askG ns).body, .str (askG ns).method, .str (askG ns).target, encH a.head, .str (askG ns).body] (i * 4 + j)))) (.c (.sl 4 (may3Q a (askG ns)).length (fun i j => nthD (encQ ((may3Q a (askG ns)).getD i .nil)) j))) := rows_new (sz := 4) encQ .nil (fun _ => rfl) (may3Q a (askG ns)) rfl rfl
        have e2 : EqvD (.c (.sl 3 3 (fun i j => nthD [.int .i64 b.status, encH b.head, .str b.body, .int .i64 (tellG ns).status, encH (tellG ns).head, .str (tellG ns).body, .int .i64 (tellG ns).status, encH b.head, .str (tellG ns).body] (i * 3 + j)))) (.c (.sl 3 (may3R b (tellG ns)).length (fun i j => nthD (encT ((may3R b (tellG ns)).getD i nilR)) j))) := rows_new (sz := 3) encT nilR (fun _ => rfl) (may3R b (tellG ns)) rfl rfl
        have gA : ∀ k, k < 3 → (may3Q a (askG ns)).getD k .nil ∈ may3Q a (askG ns) := fun k hk => by
          rw [List.getD_eq_getElem?_getD, List.getElem?_eq_getElem (show k < (may3Q a (askG ns)).length from hk)]; exact List.getElem_mem _
        have gB : ∀ k, k < 3 → (may3R b (tellG ns)).getD k nilR ∈ may3R b (tellG ns) := fun k hk => by
          rw [List.getD_eq_getElem?_getD, List.getElem?_eq_getElem (show k < (may3R b (tellG ns)).length from hk)]; exact List.getElem_mem _
        have hlA : (may3Q a (askG ns)).length = 3 := rfl
        have hlB : (may3R b (tellG ns)).length = 3 := rfl
        clear s1 s2 s3 s4 s5 s6 s7 s8 fa fb fae fbe fA fT hr
        generalize may3Q a (askG ns) = LA at *
        generalize may3R b (tellG ns) = LB at *
        refine Wp.go (mx := true) (fun _ => mixed) [(17, {fm := [(3, .c (.sl 4 LA.length (fun i j => nthD (encQ (LA.getD i .nil)) j))), (7, .c (.sl 3 LB.length (fun i j => nthD (encT (LB.getD i nilR)) j)))]}), (14, {cs := [(1, pc c1), (3, pc c2)]}), (15, {cs := [(1, pc c1), (3, pc c2)]})] 100 [false, false] [(bif decide ((↑b.head.length : Int) < (↑b.head.length : Int)) then decide (n < (9000 : Int)) else false) = false, decide (n ≥ (9000 : Int)) = false, EqvI (V1.c (Cell.sl (4 : Nat) (3 : Nat) fun (i j : Nat) => nthD [Cell.str a.method, Cell.str a.target, encH a.head, Cell.str a.body, Cell.str (askG ns).method, Cell.str (askG ns).target, Cell.sl (2 : Nat) (askG ns).head.length fun (i j : Nat) => nthD (encF ((askG ns).head.getD i FT.nil)) j, Cell.str (askG ns).body, Cell.str (askG ns).method, Cell.str (askG ns).target, encH a.head, Cell.str (askG ns).body] (i * (4 : Nat) + j))) (V1.c (Cell.sl (4 : Nat) LA.length fun (i j : Nat) => nthD (encQ (LA.getD i QT.nil)) j)), EqvD (V1.c (Cell.sl (4 : Nat) (3 : Nat) fun (i j : Nat) => nthD [Cell.str a.method, Cell.str a.target, encH a.head, Cell.str a.body, Cell.str (askG ns).method, Cell.str (askG ns).target, Cell.sl (2 : Nat) (askG ns).head.length fun (i j : Nat) => nthD (encF ((askG ns).head.getD i FT.nil)) j, Cell.str (askG ns).body, Cell.str (askG ns).method, Cell.str (askG ns).target, encH a.head, Cell.str (askG ns).body] (i * (4 : Nat) + j))) (V1.c (Cell.sl (4 : Nat) LA.length fun (i j : Nat) => nthD (encQ (LA.getD i QT.nil)) j)), EqvI (V1.c (Cell.sl (3 : Nat) (3 : Nat) fun (i j : Nat) => nthD [Cell.int .i64 b.status, encH b.head, Cell.str b.body, Cell.int .i64 (tellG ns).status, Cell.sl (2 : Nat) (tellG ns).head.length fun (i j : Nat) => nthD (encF ((tellG ns).head.getD i FT.nil)) j, Cell.str (tellG ns).body, Cell.int .i64 (tellG ns).status, encH b.head, Cell.str (tellG ns).body] (i * (3 : Nat) + j))) (V1.c (Cell.sl (3 : Nat) LB.length fun (i j : Nat) => nthD (encT (LB.getD i nilR)) j)), EqvD (V1.c (Cell.sl (3 : Nat) (3 : Nat) fun (i j : Nat) => nthD [Cell.int .i64 b.status, encH b.head, Cell.str b.body, Cell.int .i64 (tellG ns).status, Cell.sl (2 : Nat) (tellG ns).head.length fun (i j : Nat) => nthD (encF ((tellG ns).head.getD i FT.nil)) j, Cell.str (tellG ns).body, Cell.int .i64 (tellG ns).status, encH b.head, Cell.str (tellG ns).body] (i * (3 : Nat) + j))) (V1.c (Cell.sl (3 : Nat) LB.length fun (i j : Nat) => nthD (encT (LB.getD i nilR)) j))] (by kernel_rfl) (by kernel_rfl) (by kernel_rfl) ⟨(by assumption), (by assumption), fun _ _ => trivial, (by assumption), fun _ _ => trivial, (show EqvD (V1.c (Cell.sl (3 : Nat) (3 : Nat) fun (i j : Nat) => nthD [Cell.int .i64 b.status, encH b.head, Cell.str b.body, Cell.int .i64 (tellG ns).status, Cell.sl (2 : Nat) (tellG ns).head.length fun (i j : Nat) => nthD (encF ((tellG ns).head.getD i FT.nil)) j, Cell.str (tellG ns).body, Cell.int .i64 (tellG ns).status, encH b.head, Cell.str (tellG ns).body] (i * (3 : Nat) + j))) (V1.c (Cell.sl (3 : Nat) LB.length fun (i j : Nat) => nthD (encT (LB.getD i nilR)) j)) from (by assumption))⟩ ?_
        refine Wp.loopK (by kernel_rfl) (fun (k : Nat) => ⟨[(10, TV.v (V1.c (Cell.ptr (816 : Nat) (0 : Nat)))), (11, TV.v (V1.c (Cell.ptr (832 : Nat) (0 : Nat)))), (14, TV.v (V1.c (Cell.sl (4 : Nat) LA.length fun (i j : Nat) => nthD (encQ (LA.getD i QT.nil)) j))), (15, TV.v (V1.c (Cell.sl (3 : Nat) LB.length fun (i j : Nat) => nthD (encT (LB.getD i nilR)) j))), (16, TV.v (V1.c (Cell.int .i64 (k : Int))))], [(816, Blk.box 28 (encQ (askG ns))), (832, Blk.box 33 (encT (tellG ns)))], 1312⟩) (fun k => k ≤ 3) (fun k => 3 - k) 0 (Ent.of [] (by kernel_rfl) (by kernel_rfl) (by kernel_rfl) trivial) (Nat.zero_le _) ?_
        intro k L hk again
        clear e1 e2
        rcases Nat.lt_or_ge k 3 with hk3 | hk3
        · obtain ⟨f1, f2, f3⟩ := hA _ (gA k hk3)
          have f4 := hB _ (gB k hk3)
          have d1 := mayAsk_ok hp (LA.getD k .nil) (f1.q f2 f3)
          have d2 := mayAsk13_ok (G := G) (LA.getD k .nil) f1 f2 f3
          have d3 := printAsk_ok hp (LA.getD k .nil) (f1.q f2 f3)
          have d4 := printAsk13_ok (G := G) (LA.getD k .nil) f1 f2 f3
          have d5 := mayTell_any hp (LB.getD k nilR) (fun h0 h1 => f4.r h0 h1)
          have d6 := mayTell13_ok (G := G) (LB.getD k nilR) f4
          have d7 := printTell_any hp (LB.getD k nilR) (fun h0 h1 => f4.r h0 h1)
          have d8 := printTell13_ok (G := G) (LB.getD k nilR) f4
          generalize mayAskT (LA.getD k .nil) = x1 at *
          generalize printAskT (LA.getD k .nil) = x2 at *
          generalize mayTell (LB.getD k nilR) = x3 at *
          generalize printTell (LB.getD k nilR) = x4 at *
          clear hA hB gA gB f1 f2 f3 f4
          have ht3 : (bif bif bif x1 != x1 then true else !(x2 == x2) then true else x3 != x3 then true else !(x4 == x4)) = false := by simp
          refine Wp.go (mx := true) (fun _ => mixed) [(21, {cs := [(4, pc d1), (9, pc d2), (16, pc d3), (21, pc d4), (29, pc d5), (34, pc d6), (42, pc d7), (47, pc d8)]})] 100 [true, false] [decide ((↑k : Int) < (3 : Int)) = true, (0 : Int) ≤ (↑k : Int) ∧ (↑k : Int) < (↑LA.length : Int), (0 : Int) ≤ (↑k : Int) ∧ (↑k : Int) < (↑LA.length : Int), (!x1 == x1) = false → (0 : Int) ≤ (↑k : Int) ∧ (↑k : Int) < (↑LA.length : Int), (!x1 == x1) = false → (0 : Int) ≤ (↑k : Int) ∧ (↑k : Int) < (↑LA.length : Int), (bif !x1 == x1 then true else !x2 == x2) = false → (0 : Int) ≤ (↑k : Int) ∧ (↑k : Int) < (↑LB.length : Int), (bif !x1 == x1 then true else !x2 == x2) = false → (0 : Int) ≤ (↑k : Int) ∧ (↑k : Int) < (↑LB.length : Int), (bif bif !x1 == x1 then true else !x2 == x2 then true else !x3 == x3) = false → (0 : Int) ≤ (↑k : Int) ∧ (↑k : Int) < (↑LB.length : Int), (bif bif !x1 == x1 then true else !x2 == x2 then true else !x3 == x3) = false → (0 : Int) ≤ (↑k : Int) ∧ (↑k : Int) < (↑LB.length : Int), (bif bif bif !x1 == x1 then true else !x2 == x2 then true else !x3 == x3 then true else !x4 == x4) = false, inR IntKind.i64 ((↑k : Int) + (1 : Int))] (by kernel_rfl) (by kernel_rfl) (by kernel_rfl) ⟨(by simp; omega), (by omega), (by omega), (by omega), (by omega), (by omega), (by omega), (by omega), (by omega), (by assumption), inR64 (by omega) (by omega)⟩ ?_
          exact Wp.lpK (by kernel_rfl) (again _ (k + 1) (by assumption) (by omega) (Ent.of [] (by kernel_rfl) (by kernel_rfl) (by kernel_rfl) trivial))
        · clear hA hB gA gB
          refine Wp.go (mx := true) (fun _ => mixed) [(23, {cs := [(1, pc c3), (4, pc c4)]})] 100 [false] [decide ((↑k : Int) < (3 : Int)) = false] (by kernel_rfl) (by kernel_rfl) (by kernel_rfl) (show decide ((↑k : Int) < (3 : Int)) = false from (by simp; omega)) ?_
          refine Wp.ret' (by kernel_rfl) ?_
          exact FinQ.pure (rs' := [V1.c (Cell.bool (bif true then true else false))]) (by kernel_rfl) rfl (by kernel_rfl)
      · have ht2 : decide (n ≥ 9000) = true := by simp; omega
        refine Wp.go (mx := true) (fun _ => mixed) [] 100 [false, true] [(bif decide ((↑i : Int) < (↑b.head.length : Int)) then decide (n < (9000 : Int)) else false) = false, decide (n ≥ (9000 : Int)) = true] (by kernel_rfl) (by kernel_rfl) (by kernel_rfl) ⟨(by assumption), (show decide (n ≥ (9000 : Int)) = true from (by assumption))⟩ ?_
        refine Wp.ret' (by kernel_rfl) ?_
        exact FinQ.pure (rs' := [V1.c (Cell.bool true)]) (by kernel_rfl) rfl (by kernel_rfl)
end Go.Proofs.Tw
end

section
/-
  Own layer 'SV' (30): what has been read reads so in a later world.
-/
namespace Go.Sv

theorem mapM_keep {α β : Type} {f g : α → Option β} : ∀ {l : List α} {ys : List β}, l.mapM f = some ys → (∀ x ∈ l, ∀ y, f x = some y → y ∈ ys → g x = some y) → l.mapM g = some ys
  | [], ys, h, _ => by simpa using h
  | x :: l, ys, h, hg => by
    rw [List.mapM_cons] at h ⊢
    cases hx : f x with
    | none => rw [hx] at h; cases h
    | some y =>
      rw [hx] at h
      cases hl : l.mapM f with
      | none => rw [hl] at h; cases h
      | some zs =>
        rw [hl] at h
        obtain rfl : y :: zs = ys := by simpa using h
        rw [hg x (by simp) y hx (by simp), mapM_keep hl (fun u hu v hv hm => hg u (by simp [hu]) v hv (by simp [hm]))]
        rfl
theorem cell_keep {W W' : World} (hk : ∀ b, b < W.heap.size → W'.heap[b]? = W.heap[b]?) {a : Addr} {v : Value} (h : W.cell? a = some v) : W'.cell? a = some v := by
  have hb : a.block < W.heap.size := by
    rcases Nat.lt_or_ge a.block W.heap.size with hlt | hge
    · exact hlt
    · simp [World.cell?, Array.getElem?_eq_none hge] at h
  simp only [World.cell?, hk _ hb] at h ⊢
  exact h
theorem cells_keep {W W' : World} (hk : ∀ b, b < W.heap.size → W'.heap[b]? = W.heap[b]?) {base : Nat} {a : Addr} {n : Nat} {l : List Value} (h : W.cells? base a n = some l) : W'.cells? base a n = some l := by
  unfold World.cells? at h ⊢
  split at h
  · rename_i hb
    rw [if_pos hb]
    exact mapM_keep h (fun x _ y hy _ => cell_keep hk hy)
  · cases h

/-- Types that lead to no others, and to no slices of nothing. -/
def stepT (P : Program) (S : TypeId → Bool) (t : TypeId) : Bool := match P.underlying t with
  | some (.slice e) => !(Nat.beq (P.cellsOf e) 0) && S e
  | some (.pointer e) => S e
  | some (.struct fs) => fs.toList.all fun f => S f.type
  | some (.array _ e) => S e
  | some (.map _ e) => S e
  | _ => true
def inL (l : List TypeId) (t : TypeId) : Bool := l.any fun u => Nat.beq u t
def closedT (P : Program) (l : List TypeId) : Bool := l.all (stepT P (inL l))
theorem closed_step {P : Program} {l : List TypeId} (h : closedT P l = true) {t : TypeId} (ht : inL l t = true) : stepT P (inL l) t = true := by
  obtain ⟨u, hu, e⟩ := List.any_eq_true.1 ht
  obtain rfl : u = t := Nat.eq_of_beq_eq_true e
  exact List.all_eq_true.1 h u hu
theorem trod_keep {H : Type} {enc : TypeId × Value → H} {P : Program} {W W' : World} {base : Nat} {sp sp' : Nat → Bool} {l : List TypeId} (hk : ∀ b, b < W.heap.size → W'.heap[b]? = W.heap[b]?)
    (hz : closedT P l = true) (hsp : ∀ b, sp b = true) : ∀ (fuel : Nat) (t : TypeId) (cs : List Value) (d : DataW H) (p : List MemPlace), inL l t = true → DataW.trod enc P W base sp true fuel t cs = some (d, p) →
      (∀ q ∈ p, sp' q.block = true) → DataW.trod enc P W' base sp' true fuel t cs = some (d, p) := by
  intro fuel
  induction fuel with
  | zero => intro t cs d p _ h; simp [DataW.trod] at h
  | succ fuel ih =>
    intro t cs d p hin h hs
    have hst := closed_step hz hin
    unfold stepT at hst
    unfold DataW.trod at h ⊢
    generalize hu : P.underlying t = u at h hst ⊢
    split at h
    case h_6 e a =>
      simp only at hst
      rw [Option.map_eq_some_iff] at h
      obtain ⟨x, hx, he⟩ := h
      rw [Option.bind_eq_some_iff] at hx
      obtain ⟨vl, hl, hx⟩ := hx
      simp only [Prod.mk.injEq] at he
      obtain ⟨rfl, rfl⟩ := he
      simp only [cells_keep hk hl, Option.bind_some]
      rw [ih e vl x.1 x.2 hst hx (fun q hq => hs q (by simp [hq]))]
      rfl
    case h_8 e a len cap =>
      simp only [Bool.and_eq_true, Bool.not_eq_true'] at hst
      have hz : P.cellsOf e ≠ 0 := fun h0 => by rw [h0] at hst; exact absurd hst.1 (by decide)
      simp only at h ⊢
      split at h
      · rename_i hc
        rw [if_pos hc]
        rw [Option.bind_eq_some_iff] at h
        obtain ⟨elems, hel, h⟩ := h
        rw [Option.map_eq_some_iff] at h
        obtain ⟨rest, hre, he⟩ := h
        simp only [Prod.mk.injEq] at he
        obtain ⟨rfl, rfl⟩ := he
        have elemAt : ∀ (i : Nat) (y : DataW H × List MemPlace), (W.cells? base (a.add (i * P.cellsOf e)) (P.cellsOf e)).bind (DataW.trod enc P W base sp true fuel e) = some y → y ∈ elems ++ rest →
            (W'.cells? base (a.add (i * P.cellsOf e)) (P.cellsOf e)).bind (DataW.trod enc P W' base sp' true fuel e) = some y := by
          intro i y hy hm
          rw [Option.bind_eq_some_iff] at hy ⊢
          obtain ⟨vl, hl, hy⟩ := hy
          exact ⟨vl, cells_keep hk hl, ih e vl y.1 y.2 hst.2 hy (fun q hq => hs q (List.mem_append_right _ (List.mem_flatMap.2 ⟨y, hm, hq⟩)))⟩
        rw [mapM_keep hel (fun x _ y hy hm => elemAt x y hy (List.mem_append_left _ hm))]
        simp only [Option.bind_some]
        have hrest : (if sp' a.block = true then (List.range (cap - len)).mapM fun j => (W'.cells? base (a.add ((len + j) * P.cellsOf e)) (P.cellsOf e)).bind (DataW.trod enc P W' base sp' true fuel e) else some []) = some rest := by
          by_cases h0 : elems.length + rest.length = 0
          · have hr : rest = [] := List.eq_nil_of_length_eq_zero (by omega)
            have hle : elems = [] := List.eq_nil_of_length_eq_zero (by omega)
            have none0 : ∀ {f : Nat → Option (DataW H × List MemPlace)} {n : Nat} {ys : List (DataW H × List MemPlace)}, (List.range n).mapM f = some ys → ys = [] → n = 0 := by
              intro f n ys h hy
              subst hy
              cases n with
              | zero => rfl
              | succ n =>
                rw [List.range_succ_eq_map, List.mapM_cons] at h
                exfalso
                revert h
                cases f 0 with
                | none => intro h; cases h
                | some y =>
                  intro h
                  simp only [Option.bind_eq_bind, Option.bind_some] at h
                  rw [Option.bind_eq_some_iff] at h
                  obtain ⟨_, _, h⟩ := h
                  simp at h
            have hlen := none0 hel hle
            rw [if_pos (hsp _)] at hre
            have hc0 := none0 hre hr
            rw [hc0, hr]
            simp
          · have hb : sp' a.block = true := by
              have hm : (MemPlace.cell a.block (a.off + 0)) ∈ MemPlace.row a ((elems.length + rest.length) * P.cellsOf e) := by
                unfold MemPlace.row
                refine List.mem_map.2 ⟨0, List.mem_range.2 ?_, rfl⟩
                exact Nat.mul_pos (by omega) (by omega)
              exact hs _ (List.mem_append_left _ hm)
            rw [if_pos hb]
            rw [if_pos (hsp _)] at hre
            exact mapM_keep hre (fun x _ y hy hm => elemAt (len + x) y hy (List.mem_append_right _ hm))
        rw [hrest]
        rfl
      · cases h
    case h_9 fs =>
      split at h
      · rename_i hc
        rw [if_pos hc]
        rw [Option.map_eq_some_iff] at h
        obtain ⟨xs, hx, he⟩ := h
        simp only [Prod.mk.injEq] at he
        obtain ⟨rfl, rfl⟩ := he
        rw [mapM_keep hx (fun f hf y hy hm => ih _ _ y.1 y.2 (List.all_eq_true.1 hst f hf) hy (fun q hq => hs q (List.mem_flatMap.2 ⟨y, hm, hq⟩)))]
        rfl
      · cases h
    case h_10 n e =>
      split at h
      · rename_i hc
        rw [if_pos hc]
        rw [Option.map_eq_some_iff] at h
        obtain ⟨xs, hx, he⟩ := h
        simp only [Prod.mk.injEq] at he
        obtain ⟨rfl, rfl⟩ := he
        rw [mapM_keep hx (fun f _ y hy hm => ih _ _ y.1 y.2 hst hy (fun q hq => hs q (List.mem_flatMap.2 ⟨y, hm, hq⟩)))]
        rfl
      · cases h
    case h_12 ms u v => exact h
    case h_14 k e b =>
      cases hb : W.heap[b]? with
      | none => rw [hb] at h; cases h
      | some o =>
        have hlt : b < W.heap.size := by
          rcases Nat.lt_or_ge b W.heap.size with hlt | hge
          · exact hlt
          · rw [Array.getElem?_eq_none hge] at hb; cases hb
        rw [hb] at h
        rw [hk b hlt, hb]
        cases o with
        | map es clock =>
          simp only at h ⊢
          split at h
          · rename_i hc
            rw [if_pos hc]
            rw [Option.bind_eq_some_iff] at h
            obtain ⟨entries, he, h⟩ := h
            have he' : entries.flatMap (fun x => x.2) ⊆ p := by
              split at h
              · simp only [Option.some.injEq, Prod.mk.injEq] at h
                rw [← h.2]
                exact fun x hx => List.mem_cons_of_mem _ hx
              · cases h
            rw [mapM_keep (g := fun x => (keyOf P k x.key).bind fun key => if x.val.formed P e then (DataW.trod enc P W' base sp' true fuel e x.val.cells.toList).map fun y => ((key, y.1), y.2) else none) he (fun x _ y hy hm => by
              rw [Option.bind_eq_some_iff] at hy ⊢
              obtain ⟨key, hkey, hy⟩ := hy
              refine ⟨key, hkey, ?_⟩
              split at hy
              · rename_i hf
                rw [if_pos hf]
                rw [Option.map_eq_some_iff] at hy ⊢
                obtain ⟨z, hz', rfl⟩ := hy
                exact ⟨z, ih e _ z.1 z.2 hst hz' (fun q hq => hs q (he' (List.mem_flatMap.2 ⟨_, hm, hq⟩))), rfl⟩
              · cases hy)]
            exact h
          · cases h
        | _ => cases h
    all_goals exact h
/-- All arguments read as before. -/
theorem trodAll_keep {H : Type} {enc : TypeId × Value → H} {P : Program} {W W' : World} {base : Nat} {sp sp' : Nat → Bool} {l : List TypeId} (hk : ∀ b, b < W.heap.size → W'.heap[b]? = W.heap[b]?)
    (hz : closedT P l = true) (hsp : ∀ b, sp b = true) : ∀ (ts : List TypeId) (vs : List Value) (ds : List (DataW H)) (p : List MemPlace), (∀ t ∈ ts, inL l t = true) → DataW.TrodAll enc P W base sp true ts vs ds p →
      (∀ q ∈ p, sp' q.block = true) → DataW.TrodAll enc P W' base sp' true ts vs ds p
  | [], [], [], p, _, h, _ => h
  | t :: ts, v :: vs, d :: ds, p, hl, ⟨p1, q1, ⟨fuel, h1⟩, h2, e⟩, hs =>
    ⟨p1, q1, ⟨fuel, trod_keep hk hz hsp fuel t _ d p1 (hl t (by simp)) h1 (fun q hq => hs q (by rw [e]; simp [hq]))⟩, trodAll_keep hk hz hsp ts vs ds q1 (fun t ht => hl t (by simp [ht])) h2 (fun q hq => hs q (by rw [e]; simp [hq])), e⟩
/-- A row of numbers among the arguments. -/
theorem ints_den {H : Type} {enc : TypeId × Value → H} {P : Program} {W : World} {base0 base : Nat} {sp : Nat → Bool} {held : Bool} {t e : TypeId} {k : IntKind} (ht : P.underlying t = some (.slice e)) (he : P.underlying e = some (.int k)) (hc : P.cellsOf e = 1)
    {v : Value} {d : DataW H} {p : List MemPlace} (hok : Value.okWide P W .any base0 t v) (h : DataW.Trod enc P W base sp held t v d p) :
    ∃ ns : List Int, ns.length ≤ maxLen ∧ DenV (Dw W) rho0 (.c (.sl 1 ns.length (fun i _ => .int k (ns.getD i 0)))) v := by
  obtain ⟨fuel, hf⟩ := h
  obtain ⟨a0, len0, cap0, rfl⟩ := Go.WideShapes.okWide_slice ht hok
  rcases Go.ChangeShapes.open_ints ht he hc hf with ⟨hcs, _⟩ | ⟨a, len, cap, zs, hcs, _, hl, hm, hzl, _, hcell, _⟩
  · have : Value.slice a0 len0 cap0 = .slice none 0 0 := by simpa [Value.cells] using hcs
    rw [this]
    exact ⟨[], Nat.zero_le _, none, 0, rfl, Nat.le_refl _, Nat.zero_le _, .inl ⟨rfl, rfl⟩⟩
  · have hv : Value.slice a0 len0 cap0 = .slice (some a) len cap := by simpa [Value.cells] using hcs
    rw [hv] at hok ⊢
    have hsp : a.spot = none := by
      simp only [Value.okWide, ht, Cell.okWide, Cell.ok] at hok
      exact hok.2.2.2.1
    obtain ⟨b, o, spot⟩ := a
    simp only at hsp
    subst hsp
    have hle : len ≤ zs.length := by rw [hzl]; split <;> omega
    have hn : (zs.take len).length = len := by rw [List.length_take]; omega
    refine ⟨zs.take len, by rw [hn]; omega, some ⟨b, o, none⟩, cap, by rw [hn], by rw [hn]; exact hl, hm, .inr ⟨b, o, rfl, fun i hi j hj => ?_⟩⟩
    obtain rfl : j = 0 := by omega
    rw [hn] at hi
    have := hcell i (by omega)
    rw [Go.WideShapes.add_plain] at this
    refine ⟨.int k (zs.getD i 0), by unfold Dw; rw [← this]; congr 2; omega, ?_⟩
    simp only [Den]
    congr 1
    simp [List.getD, List.getElem?_take, hi]
/-- A number among the arguments. -/
theorem int_den {P : Program} {W : World} {base0 : Nat} {t : TypeId} {k : IntKind} (ht : P.underlying t = some (.int k)) {v : Value} (hok : Value.okWide P W .any base0 t v) :
    ∃ z : Int, DenV (Dw W) rho0 (.c (.int k z)) v := by
  obtain ⟨n, rfl⟩ := Go.WideShapes.okWide_int ht hok
  exact ⟨n, rfl⟩
/-- A text among the arguments. -/
theorem str_den {P : Program} {W : World} {base0 : Nat} {t : TypeId} (ht : P.underlying t = some .string) {v : Value} (hok : Value.okWide P W .any base0 t v) :
    ∃ s : List UInt8, DenV (Dw W) rho0 (.c (.str s)) v := by
  obtain ⟨s, rfl⟩ := Go.WideShapes.okWide_string ht hok
  exact ⟨s.data.toList, by cases s; simp [DenV, Den]⟩
end Go.Sv
end

section
/-
  Own layer 'SV' (31): more readings of arguments: rows of structs, structs.
-/
namespace Go.Sv

theorem list_of {α : Type} {d : α} {Q : Nat → α → Prop} : ∀ n, (∀ i, i < n → ∃ x, Q i x) → ∃ l : List α, l.length = n ∧ ∀ i, i < n → Q i (l.getD i d)
  | 0, _ => ⟨[], rfl, fun i h => absurd h (Nat.not_lt_zero i)⟩
  | n + 1, h => by
    obtain ⟨l, hl, hq⟩ := list_of (d := d) n (fun i hi => h i (by omega))
    obtain ⟨x, hx⟩ := h n (by omega)
    refine ⟨l ++ [x], by simp [hl], fun i hi => ?_⟩
    rcases Nat.lt_or_ge i n with hlt | hge
    · have := hq i hlt
      rwa [List.getD_eq_getElem?_getD, List.getElem?_append_left (by omega), ← List.getD_eq_getElem?_getD]
    · obtain rfl : i = n := by omega
      rw [List.getD_eq_getElem?_getD, ← hl, List.getElem?_concat_length]
      rw [hl]; exact hx
theorem mapM_get {α β : Type} {g : α → Option β} : ∀ {l : List α} {ys : List β}, l.mapM g = some ys → ys.length = l.length ∧ ∀ (i : Nat) (x : α), l[i]? = some x → g x = ys[i]?
  | [], ys, h => by
    obtain rfl : [] = ys := by simpa using h
    exact ⟨rfl, fun i x hx => by simp at hx⟩
  | a :: l, ys, h => by
    rw [List.mapM_cons] at h
    cases hx : g a with
    | none => rw [hx] at h; cases h
    | some y =>
      rw [hx] at h
      cases hl : l.mapM g with
      | none => rw [hl] at h; cases h
      | some zs =>
        rw [hl] at h
        obtain rfl : y :: zs = ys := by simpa using h
        obtain ⟨h1, h2⟩ := mapM_get hl
        refine ⟨by simp [h1], fun i x hi => ?_⟩
        cases i with
        | zero => simp at hi; subst hi; simpa using hx
        | succ i => simp at hi ⊢; exact h2 i x hi
theorem cells_get {W : World} {base n b o : Nat} {vl : List Value} (h : W.cells? base ⟨b, o, none⟩ n = some vl) : vl.length = n ∧ ∀ j, j < n → W.cell? ⟨b, o + j, none⟩ = vl[j]? := by
  unfold World.cells? at h
  split at h
  · obtain ⟨h1, h2⟩ := mapM_get h
    rw [List.length_range] at h1
    refine ⟨h1, fun j hj => ?_⟩
    have := h2 j j (by simp [hj])
    rw [← this, Go.WideShapes.add_plain]
  · cases h
/-- A row of structs among the arguments. -/
theorem rows_den {H : Type} {enc : TypeId × Value → H} {P : Program} {W : World} {base0 base : Nat} {sp : Nat → Bool} {held : Bool} {t e : TypeId} {α : Type} {en : α → List Cell} {dv : α} {sz : Nat} (ht : P.underlying t = some (.slice e)) (hc : P.cellsOf e = sz)
    (hel : ∀ (fuel : Nat) (vl : List Value) (x : DataW H × List MemPlace), DataW.trod enc P W base sp held fuel e vl = some x → ∃ y : α, ∀ j, j < sz → ∃ u, vl[j]? = some u ∧ Den (Dw W) rho0 (nthD (en y) j) u)
    {v : Value} {d : DataW H} {p : List MemPlace} (hok : Value.okWide P W .any base0 t v) (h : DataW.Trod enc P W base sp held t v d p) :
    ∃ l : List α, l.length ≤ maxLen ∧ DenV (Dw W) rho0 (.c (.sl sz l.length (rowF en dv l))) v := by
  obtain ⟨fuel, hf⟩ := h
  obtain ⟨a0, len0, cap0, rfl⟩ := Go.WideShapes.okWide_slice ht hok
  rcases DataW.trod_slice ht hf with ⟨hcs, _⟩ | ⟨a, len, cap, elems, rest, n, _, hcs, _, _, hlc, hm, hlen, hel2, _⟩
  · have : Value.slice a0 len0 cap0 = .slice none 0 0 := by simpa [Value.cells] using hcs
    rw [this]
    exact ⟨[], Nat.zero_le _, none, 0, rfl, Nat.le_refl _, Nat.zero_le _, .inl ⟨rfl, rfl⟩⟩
  · have hv : Value.slice a0 len0 cap0 = .slice (some a) len cap := by simpa [Value.cells] using hcs
    rw [hv] at hok ⊢
    have hsp : a.spot = none := by
      simp only [Value.okWide, ht, Cell.okWide, Cell.ok] at hok
      exact hok.2.2.2.1
    obtain ⟨b, o, spot⟩ := a
    simp only at hsp
    subst hsp
    have key : ∀ i, i < len → ∃ y : α, ∀ j, j < sz → ∃ u, W.cell? ⟨b, o + i * sz + j, none⟩ = some u ∧ Den (Dw W) rho0 (nthD (en y) j) u := by
      intro i hi
      have h1 := hel2 i hi
      have h2 : elems[i]? = some elems[i] := by simp [show i < elems.length by omega]
      rw [h2, Option.bind_eq_some_iff] at h1
      obtain ⟨vl, hvl, hx⟩ := h1
      rw [hc, Go.WideShapes.add_plain] at hvl
      obtain ⟨hl1, hl2⟩ := cells_get hvl
      obtain ⟨y, hy⟩ := hel n vl _ hx
      refine ⟨y, fun j hj => ?_⟩
      obtain ⟨u, hu, hd⟩ := hy j hj
      exact ⟨u, by rw [hl2 j hj]; exact hu, hd⟩
    obtain ⟨l, hl, hq⟩ := list_of (d := dv) len key
    refine ⟨l, by omega, some ⟨b, o, none⟩, cap, by rw [hl], by omega, hm, .inr ⟨b, o, rfl, fun i hi j hj => ?_⟩⟩
    obtain ⟨u, hu, hd⟩ := hq i (by omega) j hj
    exact ⟨u, hu, hd⟩
/-- A byte among the arguments. -/
theorem byte_den {P : Program} {W : World} {base0 : Nat} {t : TypeId} (ht : P.underlying t = some (.int .u8)) {v : Value} (hok : Value.okWide P W .any base0 t v) :
    ∃ b : UInt8, DenV (Dw W) rho0 (.c (.int .u8 (b.toNat : Int))) v := by
  obtain ⟨n, rfl⟩ := Go.WideShapes.okWide_int ht hok
  simp only [Value.okWide, ht, Cell.okWide, Cell.ok] at hok
  have h2 : 0 ≤ n ∧ n ≤ 255 := hok.2
  have h3 : ((UInt8.ofNat n.toNat).toNat : Int) = n := by
    rw [UInt8.toNat_ofNat']
    omega
  exact ⟨UInt8.ofNat n.toNat, by show Value.int .u8 n = Value.int .u8 _; rw [h3]⟩
/-- A number among the arguments, and its range. -/
theorem int_rng {P : Program} {W : World} {base0 : Nat} {t : TypeId} (ht : P.underlying t = some (.int .i64)) {v : Value} (hok : Value.okWide P W .any base0 t v) :
    ∃ z : Int, (-9223372036854775808 ≤ z ∧ z ≤ 9223372036854775807) ∧ DenV (Dw W) rho0 (.c (.int .i64 z)) v := by
  obtain ⟨n, rfl⟩ := Go.WideShapes.okWide_int ht hok
  simp only [Value.okWide, ht, Cell.okWide, Cell.ok] at hok
  have h2 : -9223372036854775808 ≤ n ∧ n ≤ 9223372036854775807 := hok.2
  exact ⟨n, h2, rfl⟩
/-- A struct's cells. -/
theorem okWide_cells {P : Program} {W : World} {r : Reach} {base : Nat} {t : TypeId} {fs : Array Field} {ts : List TypeId} (ht : P.underlying t = some (.struct fs)) (hct : P.cellTypes P.depth t = some ts) (hsz : P.cellsOf t = ts.length) {v : Value} (hok : Value.okWide P W r base t v) :
    ∃ us : Array Value, v = .agg us ∧ us.size = ts.length ∧ ∀ (j : Nat) (u : Value), us[j]? = some u → ∃ tj, ts[j]? = some tj ∧ Cell.okWide P W r base tj u := by
  simp only [Value.okWide, ht] at hok
  obtain ⟨us, rfl, h2, ts', h3, _, h4⟩ := hok
  rw [hct] at h3
  obtain rfl := Option.some.inj h3
  refine ⟨us, rfl, by rw [h2, hsz], fun j u hj => ?_⟩
  obtain ⟨tj, h5, h6⟩ := h4 j u hj
  have hlt : j < us.size := by
    rcases Nat.lt_or_ge j us.size with h | h
    · exact h
    · rw [Array.getElem?_eq_none h] at hj; cases hj
  rw [Nat.mod_eq_of_lt (by omega)] at h5
  exact ⟨tj, h5, h6⟩
theorem okWide_str {P : Program} {W : World} {r : Reach} {base : Nat} {t : TypeId} {u : Value} (ht : P.underlying t = some .string) (h : Cell.okWide P W r base t u) : Value.okWide P W r base t u := by
  unfold Value.okWide; rw [ht]; exact h
theorem okWide_int' {P : Program} {W : World} {r : Reach} {base : Nat} {t : TypeId} {k : IntKind} {u : Value} (ht : P.underlying t = some (.int k)) (h : Cell.okWide P W r base t u) : Value.okWide P W r base t u := by
  unfold Value.okWide; rw [ht]; exact h
theorem okWide_bool' {P : Program} {W : World} {r : Reach} {base : Nat} {t : TypeId} {u : Value} (ht : P.underlying t = some .bool) (h : Cell.okWide P W r base t u) : Value.okWide P W r base t u := by
  unfold Value.okWide; rw [ht]; exact h
theorem okWide_sl {P : Program} {W : World} {r : Reach} {base : Nat} {t e : TypeId} {u : Value} (ht : P.underlying t = some (.slice e)) (h : Cell.okWide P W r base t u) : Value.okWide P W r base t u := by
  unfold Value.okWide; rw [ht]; exact h
theorem array1 {α : Type} {cs : Array α} (h : cs.size = 1) : ∃ c0, cs = #[c0] := by
  obtain ⟨l⟩ := cs
  match l, h with
  | [c0], _ => exact ⟨c0, rfl⟩
theorem array2 {α : Type} {cs : Array α} (h : cs.size = 2) : ∃ c0 c1, cs = #[c0, c1] := by
  obtain ⟨l⟩ := cs
  match l, h with
  | [c0, c1], _ => exact ⟨c0, c1, rfl⟩
theorem array3 {α : Type} {cs : Array α} (h : cs.size = 3) : ∃ c0 c1 c2, cs = #[c0, c1, c2] := by
  obtain ⟨l⟩ := cs
  match l, h with
  | [c0, c1, c2], _ => exact ⟨c0, c1, c2, rfl⟩
theorem array4 {α : Type} {cs : Array α} (h : cs.size = 4) : ∃ c0 c1 c2 c3, cs = #[c0, c1, c2, c3] := by
  obtain ⟨l⟩ := cs
  match l, h with
  | [c0, c1, c2, c3], _ => exact ⟨c0, c1, c2, c3, rfl⟩
/-- Two texts in a struct. -/
theorem texts2 {H : Type} {enc : TypeId × Value → H} {P : Program} {W : World} {base : Nat} {sp : Nat → Bool} {held : Bool} {e : TypeId} {f0 f1 : Field} {fuel : Nat} {vl : List Value} {x : DataW H × List MemPlace}
    (ht : P.underlying e = some (.struct #[f0, f1])) (h0 : P.underlying f0.type = some .string) (h1 : P.underlying f1.type = some .string) (o0 : f0.offset = 0) (o1 : f1.offset = 1) (c0 : P.cellsOf f0.type = 1) (c1 : P.cellsOf f1.type = 1)
    (h : DataW.trod enc P W base sp held fuel e vl = some x) : ∃ a b : List UInt8, vl[0]? = some (.string ⟨a.toArray⟩) ∧ vl[1]? = some (.string ⟨b.toArray⟩) := by
  obtain ⟨y0, y1, n, _, _, k0, k1⟩ := Go.ChangeShapes.trod_struct2 ht h
  rw [o0, c0] at k0
  rw [o1, c1] at k1
  obtain ⟨s0, e0, _⟩ := DataW.trod_string h0 k0
  obtain ⟨s1, e1, _⟩ := DataW.trod_string h1 k1
  have g0 : vl[0]? = some (.string s0) := by
    have := congrArg (fun l => l[0]?) e0
    simpa using this
  have g1 : vl[1]? = some (.string s1) := by
    have := congrArg (fun l => l[0]?) e1
    simpa using this
  exact ⟨s0.data.toList, s1.data.toList, by rw [g0], by rw [g1]⟩
/-- A variable of an integer type holds some number. -/
theorem int_shape {P : Program} {w : World} {g : Nat} {t : TypeId} {zero : Array Value} {k : IntKind} (h : w.ShapedOpen P) (hg : g < P.globals.size)
    (h0 : ((begin P (fun _ _ => 0) default).world.heap[g]?).bind Obj.row? = some (zero, t)) (hz : zero.size = 1)
    (hb : P.buildable t = true) (hc : P.cellTypes P.depth t = some [t]) (hu : P.underlying t = some (.int k)) : ∃ (m : Int) (cs : Array Value) (fz : Nat × Nat), w.heap[g]? = some (.cells cs t fz) ∧ cs.size = 1 ∧ cs[0]? = some (.int k m) := by
  obtain ⟨cs, hh, hs, hr⟩ := h.1 g zero t hg h0
  obtain ⟨ts, hts, _, hall⟩ := hr hb
  rw [hc] at hts
  cases hts
  have h1 : 0 < cs.size := by omega
  obtain ⟨u, hu', hok⟩ := hall 0 cs[0] (by simp [h1])
  have : u = t := by simpa using hu'.symm
  subst this
  have hcell : cs[0]? = some cs[0] := by simp [h1]
  unfold Cell.ok at hok
  rw [hu] at hok
  cases hv : cs[0] with
  | int k' n =>
    rw [hv] at hok
    have hk : k' = k := by first | exact hok.1 | exact hok.1.symm | (simp at hok; exact hok.1) | (simp at hok; exact hok.1.symm)
    subst hk
    exact ⟨n, cs, _, hh, by omega, by rw [hcell, hv]⟩
  | _ => rw [hv] at hok; simp at hok
/-- The listed tables, and one variable that holds some number. -/
theorem glob_plus {P : Program} {G : Nat → Option (List Cell)} {W : World} {laid : List (String × DataW Unit)} {g0 : Nat} {k : IntKind} {m : Int} {cs0 : Array Value} {t0 : TypeId} {fz0 : Nat × Nat} (h : laidMet P laid W)
    (hw : W.heap[g0]? = some (.cells cs0 t0 fz0)) (hs : cs0.size = 1) (hx : cs0[0]? = some (.int k m)) (h0 : G g0 = some [.int k m])
    (hG : ∀ g cs, g ≠ g0 → G g = some cs → ∃ n d t, (n, d) ∈ laid ∧ P.globalNamed n = some g ∧ (P.globals[g]?).map (·.type) = some t ∧ dc P 9 t d = some cs) : GlobOk G (Dw W) ∧ GlobW G W := by
  obtain ⟨k1, k2⟩ := glob_ok (G := fun g => if g = g0 then none else G g) (laid := laid) h (fun g cs hg => by
    split at hg
    · cases hg
    · rename_i hne; exact hG g cs hne hg)
  refine ⟨fun g cs hg j x hj => ?_, fun g cs hg hne => ?_⟩
  · by_cases e : g = g0
    · subst e
      rw [h0] at hg
      obtain rfl := Option.some.inj hg
      cases j with
      | zero =>
        simp at hj; subst hj
        exact ⟨.int k m, by simp only [Dw, World.cell?, hw, Option.isSome_none, Bool.false_eq_true, if_false]; exact hx, rfl⟩
      | succ j => simp at hj
    · exact k1 g cs (by show (if g = g0 then none else G g) = some cs; rw [if_neg e]; exact hg) j x hj
  · by_cases e : g = g0
    · subst e
      rw [h0] at hg
      obtain rfl := Option.some.inj hg
      exact ⟨cs0, t0, fz0, hw, by rw [hs]; rfl⟩
    · exact k2 g cs (by show (if g = g0 then none else G g) = some cs; rw [if_neg e]; exact hg) hne
end Go.Sv
end
