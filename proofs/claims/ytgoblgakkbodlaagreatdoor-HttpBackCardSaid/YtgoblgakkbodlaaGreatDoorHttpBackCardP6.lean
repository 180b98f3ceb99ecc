/- Own texts for this claim: Hp4, Hp5, Ck5, Ck6, Ck7, Hp6, Hp7, Hp8, Hp9, Hp10, Hp11, Hp12, Smal, Hp13, Hp14, Hp15, Jn, Hp17, Hp16, Hp18. -/
import Derived.Test.YtgoblgakkbodlaaGreatDoorHttpBackCardP5
set_option linter.all false

section
open Go Go.Sv Go.RowKit
namespace Go.Proofs.Tw
attribute [local irreducible] Wp FinQ resV Ent Pur Go.Sv.Fn Sat0
set_option maxRecDepth 100000
set_option maxHeartbeats 4000000
variable {G : Nat → Option (List Cell)}

theorem readH_no1 {line : List UInt8 → Bool} {s : List UInt8} (h : bigH s = true) : readH line s = ([], 4) := by
  unfold readH splitH; rw [h]; rfl
theorem readH_no2 {line : List UInt8 → Bool} {s : List UInt8} (h : bigH s = false) (hi : (hdC s).2.2 = false) : readH line s = ([], 3) := by
  unfold readH splitH; rw [h, hi]; rfl
theorem readH_no3 {line : List UInt8 → Bool} {s : List UInt8} (h : bigH s = false) (hi : (hdC s).2.2 = true) (hm : (linesH s).length > 25) : readH line s = ([], 4) := by
  unfold readH splitH; rw [h, hi, if_pos hm]; rfl
theorem splitH_yes {s : List UInt8} (h : bigH s = false) (hi : (hdC s).2.2 = true) (hm : ¬ (linesH s).length > 25) : splitH s = 0 := by
  unfold splitH; rw [h, hi, if_neg hm]; rfl
theorem readH_line {line : List UInt8 → Bool} {s : List UInt8} (h : splitH s = 0) (hf : line (firstH s) = false) : readH line s = ([], 3) := by
  unfold readH; rw [h, hf]; rfl
theorem readH_flds {line : List UInt8 → Bool} {s : List UInt8} (h : splitH s = 0) (hf : line (firstH s) = true) (hO : fieldsO (fieldsL s) [] = false) : readH line s = ([], 3) := by
  unfold readH; rw [h, hf, hO]; rfl
theorem readH_end {line : List UInt8 → Bool} {s : List UInt8} (h : splitH s = 0) (hf : line (firstH s) = true) (hO : fieldsO (fieldsL s) [] = true) : readH line s = if bodyE (fieldsA (fieldsL s) []) (hdC s).2.1 = 0 then ((fieldsA (fieldsL s) []).filter notCl, 0) else ([], bodyE (fieldsA (fieldsL s) []) (hdC s).2.1) := by
  unfold readH; rw [h, hf, hO]; rfl
theorem fA_len : ∀ (l : List (List UInt8)) (acc : List FT), (fieldsA l acc).length ≤ acc.length + l.length
  | [], acc => by simp [fieldsA]
  | p :: r, acc => by
    unfold fieldsA
    split
    · have := fA_len r (acc ++ [lineF p])
      simp at this ⊢
      omega
    · omega
/-- All that a field of a head is, is no longer than a bound of the lines. -/
theorem fA_sm {B : Nat} : ∀ (l : List (List UInt8)) (acc : List FT), (∀ p ∈ l, p.length ≤ B) → (∀ f ∈ acc, f.name.length ≤ B ∧ f.value.length ≤ B) → ∀ f ∈ fieldsA l acc, f.name.length ≤ B ∧ f.value.length ≤ B
  | [], acc, _, h => by simpa [fieldsA] using h
  | p :: r, acc, hl, h => by
    unfold fieldsA
    split
    · refine fA_sm r _ (fun q hq => hl q (by simp [hq])) (fun f hf => ?_)
      rcases List.mem_append.1 hf with hf | hf
      · exact h f hf
      · rw [List.mem_singleton.1 hf]
        have := cut_len p [58, 32]
        have hp := hl p (by simp)
        exact ⟨by show (foldT _).length ≤ _; unfold foldT; rw [List.length_map]; omega, by show (Lib.cut p [58, 32]).2.1.length ≤ _; omega⟩
    · exact h
theorem fGet_mem {l : List FT} {n v : List UInt8} (h : fGet l n = some v) : ∃ f ∈ l, f.name = n ∧ f.value = v := by
  unfold fGet at h
  cases hf : l.find? (fun f => f.name == n) with
  | none => rw [hf] at h; cases h
  | some f =>
    rw [hf] at h
    have h1 := List.find?_some hf
    exact ⟨f, List.mem_of_find?_eq_some hf, eq_of_beq h1, by simpa using h⟩
theorem fldsL_sm (s : List UInt8) : ∀ p ∈ fieldsL s, p.length ≤ s.length := by
  intro p hp
  have h1 := splitK_len [13, 10] _ (hdC s).1 p (List.mem_of_mem_drop hp)
  have h2 : (hdC s).1.length ≤ s.length := (cut_len s [13, 10, 13, 10]).1
  omega
theorem first_sm (s : List UInt8) : (firstH s).length ≤ s.length := by
  have h1 : (firstH s).length ≤ (hdC s).1.length := split_el (hdC s).1 [13, 10] 0
  have h2 : (hdC s).1.length ≤ s.length := (cut_len s [13, 10, 13, 10]).1
  omega
theorem cl_sm (s : List UInt8) : ((fGet (fieldsA (fieldsL s) []) clN).getD []).length ≤ s.length := by
  cases h : fGet (fieldsA (fieldsL s) []) clN with
  | none => simp
  | some v =>
    obtain ⟨f, hf, _, rfl⟩ := fGet_mem h
    exact (fA_sm (B := s.length) _ [] (fldsL_sm s) (fun f hf => by cases hf) f hf).2
theorem readsQ_no (hL : HasLen G) (s : List UInt8) (hl : s.length < 1000000000) (h : (readH askB s).2 ≠ 0) : ∃ (f b z : List UInt8) (hd : List FT) (l : List (List UInt8)) (d : Bool), FnB Tryz.prog G 32 [.box 28 [.str [], .str [], .nilsl, .str []]] [.c (.str s), .c (clo1 33 (.ptr 0 0))] [.c (.ptr 1 0), .c (.int .i64 (readH askB s).2)] [(1, rdB f (encH hd) b (encL l) z d)] := by
  have hb : (hdC s).2.1.length ≤ s.length := (cut_len s [13, 10, 13, 10]).2
  cases hbig : bigH s with
  | true =>
    rw [readH_no1 hbig]
    refine ⟨[], [], [], [], [], false, ?_⟩
    refine Fn.of' Tryz.func32 (by kernel_rfl) (by kernel_rfl) (by kernel_rfl) (by kernel_rfl) trivial ?_
    have c1 := rcut_big hL s hl hbig
    refine Wp.go (mx := true) (fun _ => mixed) [(2, {cs := [(2, cb [49] c1)]}), (3, {grd := [(3, false), (4, false), (5, false), (6, false), (7, false), (8, false), (9, false), (10, false), (11, false)]})] 100 [false, false, false] [((4 : Int) == (0 : Int)) = !true, ((4 : Int) == (0 : Int)) = !true, ((4 : Int) == (0 : Int)) = !true, ((4 : Int) == (0 : Int)) = !true, ((4 : Int) == (0 : Int)) = !true, ((4 : Int) == (0 : Int)) = !true, ((4 : Int) == (0 : Int)) = !true, ((4 : Int) == (0 : Int)) = !true, ((4 : Int) == (0 : Int)) = false, false = false, ((4 : Int) == (0 : Int)) = false, ((4 : Int) == (0 : Int)) = false] (by kernel_rfl) (by kernel_rfl) (by kernel_rfl) ⟨rfl, rfl, rfl, rfl, rfl, rfl, rfl, rfl, rfl, rfl, rfl, rfl⟩ ?_
    refine Wp.ret' (by kernel_rfl) ?_
    exact FinQ.blk [49] (by kernel_rfl) (by kernel_rfl) (by kernel_rfl) (by kernel_rfl) (by kernel_rfl) trivial
  | false =>
    cases hi : (hdC s).2.2 with
    | false =>
      rw [readH_no2 hbig hi]
      refine ⟨[], [], [], [], [], false, ?_⟩
      refine Fn.of' Tryz.func32 (by kernel_rfl) (by kernel_rfl) (by kernel_rfl) (by kernel_rfl) trivial ?_
      have c1 := rcut_form hL s hl hbig hi
      refine Wp.go (mx := true) (fun _ => mixed) [(2, {cs := [(2, cb [49] c1)]}), (3, {grd := [(3, false), (4, false), (5, false), (6, false), (7, false), (8, false), (9, false), (10, false), (11, false)]})] 100 [false, false, false] [((3 : Int) == (0 : Int)) = !true, ((3 : Int) == (0 : Int)) = !true, ((3 : Int) == (0 : Int)) = !true, ((3 : Int) == (0 : Int)) = !true, ((3 : Int) == (0 : Int)) = !true, ((3 : Int) == (0 : Int)) = !true, ((3 : Int) == (0 : Int)) = !true, ((3 : Int) == (0 : Int)) = !true, ((3 : Int) == (0 : Int)) = false, false = false, ((3 : Int) == (0 : Int)) = false, ((3 : Int) == (0 : Int)) = false] (by kernel_rfl) (by kernel_rfl) (by kernel_rfl) ⟨rfl, rfl, rfl, rfl, rfl, rfl, rfl, rfl, rfl, rfl, rfl, rfl⟩ ?_
      refine Wp.ret' (by kernel_rfl) ?_
      exact FinQ.blk [49] (by kernel_rfl) (by kernel_rfl) (by kernel_rfl) (by kernel_rfl) (by kernel_rfl) trivial
    | true =>
      by_cases hm : (linesH s).length > 25
      · rw [readH_no3 hbig hi hm]
        refine ⟨[], (hdC s).2.1, [], [], linesH s, false, ?_⟩
        refine Fn.of' Tryz.func32 (by kernel_rfl) (by kernel_rfl) (by kernel_rfl) (by kernel_rfl) trivial ?_
        have c1 := rcut_many hL s hl hbig hi hm
        refine Wp.go (mx := true) (fun _ => mixed) [(2, {cs := [(2, cb [49] c1)]}), (3, {grd := [(3, false), (4, false), (5, false), (6, false), (7, false), (8, false), (9, false), (10, false), (11, false)]})] 100 [false, false, false] [((4 : Int) == (0 : Int)) = !true, ((4 : Int) == (0 : Int)) = !true, ((4 : Int) == (0 : Int)) = !true, ((4 : Int) == (0 : Int)) = !true, ((4 : Int) == (0 : Int)) = !true, ((4 : Int) == (0 : Int)) = !true, ((4 : Int) == (0 : Int)) = !true, ((4 : Int) == (0 : Int)) = !true, ((4 : Int) == (0 : Int)) = false, false = false, ((4 : Int) == (0 : Int)) = false, ((4 : Int) == (0 : Int)) = false] (by kernel_rfl) (by kernel_rfl) (by kernel_rfl) ⟨rfl, rfl, rfl, rfl, rfl, rfl, rfl, rfl, rfl, rfl, rfl, rfl⟩ ?_
        refine Wp.ret' (by kernel_rfl) ?_
        exact FinQ.blk [49] (by kernel_rfl) (by kernel_rfl) (by kernel_rfl) (by kernel_rfl) (by kernel_rfl) trivial
      · have hsp := splitH_yes hbig hi hm
        have c1 := rcut_yes hL s hl hbig hi (by omega)
        have hfs := first_sm s
        have hfl := fldsL_sm s
        have hcl := cl_sm s
        have hfn : (fieldsL s).length < 1000000 := by unfold fieldsL; rw [List.length_drop]; omega
        have hfe : ∀ k, ((fieldsL s).getD k []).length < 1000000000 := fun k => by
          rw [List.getD_eq_getElem?_getD]
          cases hx : (fieldsL s)[k]? with
          | none => show 0 < _; omega
          | some x => have := hfl x (List.mem_of_getElem? hx); simp; omega
        have c2 := askL_ok hL (firstH s) [] [] (by omega)
        cases hf : askB (firstH s) with
        | false =>
          rw [readH_line hsp hf]
          rw [hf] at c2
          refine ⟨firstH s, (hdC s).2.1, [], [], fieldsL s, false, ?_⟩
          refine Fn.of' Tryz.func32 (by kernel_rfl) (by kernel_rfl) (by kernel_rfl) (by kernel_rfl) trivial ?_
          clear hf
          refine Wp.go (mx := true) (fun _ => mixed) [(3, {grd := [(3, true), (4, true), (5, true), (6, true), (7, true), (8, true), (9, true), (10, true)], cs := [(9, cb [0] c2)]}), (2, {cs := [(2, cb [49] c1)]})] 100 [true, false, false] [((0 : Int) == (0 : Int)) = true, ((0 : Int) == (0 : Int)) = true, ((0 : Int) == (0 : Int)) = true, ((0 : Int) == (0 : Int)) = true, ((0 : Int) == (0 : Int)) = true, ((0 : Int) == (0 : Int)) = true, ((0 : Int) == (0 : Int)) = true, ((0 : Int) == (0 : Int)) = true, (bif (0 : Int) == (0 : Int) then !false else false) = true, ((3 : Int) == (0 : Int)) = false, ((3 : Int) == (0 : Int)) = false] (by kernel_rfl) (by kernel_rfl) (by kernel_rfl) ⟨rfl, rfl, rfl, rfl, rfl, rfl, rfl, rfl, rfl, rfl, rfl⟩ ?_
          refine Wp.ent' (by kernel_rfl) (Ent.blkE (id := 49) (b := rdB (firstH s) .nilsl (hdC s).2.1 (encL (fieldsL s)) [] false) (b' := rdB (firstH s) (encH []) (hdC s).2.1 (encL (fieldsL s)) [] false) (by kernel_rfl) (rdz_eqv _ _ _) rfl) ?_
          refine Wp.ret' (by kernel_rfl) ?_
          exact FinQ.blk [49] (by kernel_rfl) (by kernel_rfl) (by kernel_rfl) (by kernel_rfl) (by kernel_rfl) trivial
        | true =>
          rw [hf] at c2
          have c3 := rfields_ok hL (firstH s) (hdC s).2.1 (fieldsL s) hfe hfn
          cases hO : fieldsO (fieldsL s) [] with
          | false =>
            rw [readH_flds hsp hf hO]
            rw [hO] at c3
            refine ⟨firstH s, (hdC s).2.1, (fGet (fieldsA (fieldsL s) []) clN).getD [], (fieldsA (fieldsL s) []).filter notCl, fieldsL s, (fGet (fieldsA (fieldsL s) []) clN).isSome, ?_⟩
            refine Fn.of' Tryz.func32 (by kernel_rfl) (by kernel_rfl) (by kernel_rfl) (by kernel_rfl) trivial ?_
            clear hf h
            refine Wp.go (mx := true) (fun _ => mixed) [(3, {grd := [(3, true), (4, true), (5, true), (6, true), (7, true), (8, true), (9, true), (10, true)], cs := [(9, cb [0] c2)]}), (2, {cs := [(2, cb [49] c1)]}), (6, {cs := [(1, cb [49] c3)]})] 100 [false, true, false] [((0 : Int) == (0 : Int)) = true, ((0 : Int) == (0 : Int)) = true, ((0 : Int) == (0 : Int)) = true, ((0 : Int) == (0 : Int)) = true, ((0 : Int) == (0 : Int)) = true, ((0 : Int) == (0 : Int)) = true, ((0 : Int) == (0 : Int)) = true, ((0 : Int) == (0 : Int)) = true, (bif (0 : Int) == (0 : Int) then !true else false) = false, ((0 : Int) == (0 : Int)) = true, ((if false = true then (0 : Int) else (3 : Int)) == (0 : Int)) = false] (by kernel_rfl) (by kernel_rfl) (by kernel_rfl) ⟨rfl, rfl, rfl, rfl, rfl, rfl, rfl, rfl, rfl, rfl, rfl⟩ ?_
            refine Wp.ret' (by kernel_rfl) ?_
            exact FinQ.blk [49] (by kernel_rfl) (by kernel_rfl) (by kernel_rfl) (by kernel_rfl) (by kernel_rfl) trivial
          | true =>
            rw [readH_end hsp hf hO] at h ⊢
            rw [hO] at c3
            have c4 := rsized_ok (G := G) (firstH s) (hdC s).2.1 ((fGet (fieldsA (fieldsL s) []) clN).getD []) (fGet (fieldsA (fieldsL s) []) clN).isSome ((fieldsA (fieldsL s) []).filter notCl) (fieldsL s) (by omega) (by omega)
            rw [show szE ((fGet (fieldsA (fieldsL s) []) clN).getD []) (fGet (fieldsA (fieldsL s) []) clN).isSome (hdC s).2.1 = bodyE (fieldsA (fieldsL s) []) (hdC s).2.1 from rfl] at c4
            by_cases he : bodyE (fieldsA (fieldsL s) []) (hdC s).2.1 = 0
            · rw [if_pos he] at h
              exact (h rfl).elim
            · rw [if_neg he]
              refine ⟨firstH s, (hdC s).2.1, (fGet (fieldsA (fieldsL s) []) clN).getD [], (fieldsA (fieldsL s) []).filter notCl, fieldsL s, (fGet (fieldsA (fieldsL s) []) clN).isSome, ?_⟩
              refine Fn.of' Tryz.func32 (by kernel_rfl) (by kernel_rfl) (by kernel_rfl) (by kernel_rfl) trivial ?_
              clear hf h
              refine Wp.go (mx := true) (fun _ => mixed) [(3, {grd := [(3, true), (4, true), (5, true), (6, true), (7, true), (8, true), (9, true), (10, true)], cs := [(9, cb [0] c2)]}), (2, {cs := [(2, cb [49] c1)]}), (6, {cs := [(1, cb [49] c3)]}), (8, {cs := [(1, cb [49] c4)]})] 100 [false, true, true] [((0 : Int) == (0 : Int)) = true, ((0 : Int) == (0 : Int)) = true, ((0 : Int) == (0 : Int)) = true, ((0 : Int) == (0 : Int)) = true, ((0 : Int) == (0 : Int)) = true, ((0 : Int) == (0 : Int)) = true, ((0 : Int) == (0 : Int)) = true, ((0 : Int) == (0 : Int)) = true, (bif (0 : Int) == (0 : Int) then !true else false) = false, ((0 : Int) == (0 : Int)) = true, ((if true = true then (0 : Int) else (3 : Int)) == (0 : Int)) = true] (by kernel_rfl) (by kernel_rfl) (by kernel_rfl) ⟨rfl, rfl, rfl, rfl, rfl, rfl, rfl, rfl, rfl, rfl, rfl⟩ ?_
              refine Wp.ret' (by kernel_rfl) ?_
              exact FinQ.blk [49] (by kernel_rfl) (by kernel_rfl) (by kernel_rfl) (by kernel_rfl) (by kernel_rfl) trivial
theorem readsQ_yes (hL : HasLen G) (s : List UInt8) (hl : s.length < 1000000000) (h : (readH askB s).2 = 0) : ∃ (f z : List UInt8) (l : List (List UInt8)) (d : Bool), FnB Tryz.prog G 32 [.box 28 [.str [], .str [], .nilsl, .str []]] [.c (.str s), .c (clo1 33 (.ptr 0 0))] [.c (.ptr 1 0), .c (.int .i64 0)] [(0, .box 28 [.str (askM (firstH s)), .str (askT (firstH s)), .nilsl, .str []]), (1, rdB f (encH (readH askB s).1) (hdC s).2.1 (encL l) z d)] := by
  have hb : (hdC s).2.1.length ≤ s.length := (cut_len s [13, 10, 13, 10]).2
  cases hbig : bigH s with
  | true => rw [readH_no1 hbig] at h; cases h
  | false =>
    cases hi : (hdC s).2.2 with
    | false => rw [readH_no2 hbig hi] at h; cases h
    | true =>
      by_cases hm : (linesH s).length > 25
      · rw [readH_no3 hbig hi hm] at h; cases h
      · have hsp := splitH_yes hbig hi hm
        have c1 := rcut_yes hL s hl hbig hi (by omega)
        have hfs := first_sm s
        have hfl := fldsL_sm s
        have hcl := cl_sm s
        have hfn : (fieldsL s).length < 1000000 := by unfold fieldsL; rw [List.length_drop]; omega
        have hfe : ∀ k, ((fieldsL s).getD k []).length < 1000000000 := fun k => by
          rw [List.getD_eq_getElem?_getD]
          cases hx : (fieldsL s)[k]? with
          | none => show 0 < _; omega
          | some x => have := hfl x (List.mem_of_getElem? hx); simp; omega
        have c2 := askL_ok hL (firstH s) [] [] (by omega)
        cases hf : askB (firstH s) with
        | false => rw [readH_line hsp hf] at h; cases h
        | true =>
          rw [hf] at c2
          have c3 := rfields_ok hL (firstH s) (hdC s).2.1 (fieldsL s) hfe hfn
          cases hO : fieldsO (fieldsL s) [] with
          | false => rw [readH_flds hsp hf hO] at h; cases h
          | true =>
            rw [readH_end hsp hf hO] at h ⊢
            rw [hO] at c3
            have c4 := rsized_ok (G := G) (firstH s) (hdC s).2.1 ((fGet (fieldsA (fieldsL s) []) clN).getD []) (fGet (fieldsA (fieldsL s) []) clN).isSome ((fieldsA (fieldsL s) []).filter notCl) (fieldsL s) (by omega) (by omega)
            rw [show szE ((fGet (fieldsA (fieldsL s) []) clN).getD []) (fGet (fieldsA (fieldsL s) []) clN).isSome (hdC s).2.1 = bodyE (fieldsA (fieldsL s) []) (hdC s).2.1 from rfl] at c4
            by_cases he : bodyE (fieldsA (fieldsL s) []) (hdC s).2.1 = 0
            · rw [if_pos he]
              rw [he] at c4
              refine ⟨firstH s, (fGet (fieldsA (fieldsL s) []) clN).getD [], fieldsL s, (fGet (fieldsA (fieldsL s) []) clN).isSome, ?_⟩
              refine Fn.of' Tryz.func32 (by kernel_rfl) (by kernel_rfl) (by kernel_rfl) (by kernel_rfl) trivial ?_
              clear hf h he
              refine Wp.go (mx := true) (fun _ => mixed) [(3, {grd := [(3, true), (4, true), (5, true), (6, true), (7, true), (8, true), (9, true), (10, true)], cs := [(9, cb [0] c2)]}), (2, {cs := [(2, cb [49] c1)]}), (6, {cs := [(1, cb [49] c3)]}), (8, {cs := [(1, cb [49] c4)]})] 100 [false, true, true] [((0 : Int) == (0 : Int)) = true, ((0 : Int) == (0 : Int)) = true, ((0 : Int) == (0 : Int)) = true, ((0 : Int) == (0 : Int)) = true, ((0 : Int) == (0 : Int)) = true, ((0 : Int) == (0 : Int)) = true, ((0 : Int) == (0 : Int)) = true, ((0 : Int) == (0 : Int)) = true, (bif (0 : Int) == (0 : Int) then !true else false) = false, ((0 : Int) == (0 : Int)) = true, ((if true = true then (0 : Int) else (3 : Int)) == (0 : Int)) = true] (by kernel_rfl) (by kernel_rfl) (by kernel_rfl) ⟨rfl, rfl, rfl, rfl, rfl, rfl, rfl, rfl, rfl, rfl, rfl⟩ ?_
              refine Wp.ret' (by kernel_rfl) ?_
              exact FinQ.blk [49] (by kernel_rfl) (by kernel_rfl) (by kernel_rfl) (by kernel_rfl) (by kernel_rfl) trivial
            · rw [if_neg he] at h
              exact (he h).elim
theorem readsR_no (hL : HasLen G) (s : List UInt8) (hl : s.length < 1000000000) (h : (readH tellB s).2 ≠ 0) : ∃ (f b z : List UInt8) (hd : List FT) (l : List (List UInt8)) (d : Bool), FnB Tryz.prog G 32 [.box 33 [.int .i64 0, .nilsl, .str []]] [.c (.str s), .c (clo1 41 (.ptr 0 0))] [.c (.ptr 1 0), .c (.int .i64 (readH tellB s).2)] [(1, rdB f (encH hd) b (encL l) z d)] := by
  have hb : (hdC s).2.1.length ≤ s.length := (cut_len s [13, 10, 13, 10]).2
  cases hbig : bigH s with
  | true =>
    rw [readH_no1 hbig]
    refine ⟨[], [], [], [], [], false, ?_⟩
    refine Fn.of' Tryz.func32 (by kernel_rfl) (by kernel_rfl) (by kernel_rfl) (by kernel_rfl) trivial ?_
    have c1 := rcut_big hL s hl hbig
    refine Wp.go (mx := true) (fun _ => mixed) [(2, {cs := [(2, cb [49] c1)]}), (3, {grd := [(3, false), (4, false), (5, false), (6, false), (7, false), (8, false), (9, false), (10, false), (11, false)]})] 100 [false, false, false] [((4 : Int) == (0 : Int)) = !true, ((4 : Int) == (0 : Int)) = !true, ((4 : Int) == (0 : Int)) = !true, ((4 : Int) == (0 : Int)) = !true, ((4 : Int) == (0 : Int)) = !true, ((4 : Int) == (0 : Int)) = !true, ((4 : Int) == (0 : Int)) = !true, ((4 : Int) == (0 : Int)) = !true, ((4 : Int) == (0 : Int)) = false, false = false, ((4 : Int) == (0 : Int)) = false, ((4 : Int) == (0 : Int)) = false] (by kernel_rfl) (by kernel_rfl) (by kernel_rfl) ⟨rfl, rfl, rfl, rfl, rfl, rfl, rfl, rfl, rfl, rfl, rfl, rfl⟩ ?_
    refine Wp.ret' (by kernel_rfl) ?_
    exact FinQ.blk [49] (by kernel_rfl) (by kernel_rfl) (by kernel_rfl) (by kernel_rfl) (by kernel_rfl) trivial
  | false =>
    cases hi : (hdC s).2.2 with
    | false =>
      rw [readH_no2 hbig hi]
      refine ⟨[], [], [], [], [], false, ?_⟩
      refine Fn.of' Tryz.func32 (by kernel_rfl) (by kernel_rfl) (by kernel_rfl) (by kernel_rfl) trivial ?_
      have c1 := rcut_form hL s hl hbig hi
      refine Wp.go (mx := true) (fun _ => mixed) [(2, {cs := [(2, cb [49] c1)]}), (3, {grd := [(3, false), (4, false), (5, false), (6, false), (7, false), (8, false), (9, false), (10, false), (11, false)]})] 100 [false, false, false] [((3 : Int) == (0 : Int)) = !true, ((3 : Int) == (0 : Int)) = !true, ((3 : Int) == (0 : Int)) = !true, ((3 : Int) == (0 : Int)) = !true, ((3 : Int) == (0 : Int)) = !true, ((3 : Int) == (0 : Int)) = !true, ((3 : Int) == (0 : Int)) = !true, ((3 : Int) == (0 : Int)) = !true, ((3 : Int) == (0 : Int)) = false, false = false, ((3 : Int) == (0 : Int)) = false, ((3 : Int) == (0 : Int)) = false] (by kernel_rfl) (by kernel_rfl) (by kernel_rfl) ⟨rfl, rfl, rfl, rfl, rfl, rfl, rfl, rfl, rfl, rfl, rfl, rfl⟩ ?_
      refine Wp.ret' (by kernel_rfl) ?_
      exact FinQ.blk [49] (by kernel_rfl) (by kernel_rfl) (by kernel_rfl) (by kernel_rfl) (by kernel_rfl) trivial
    | true =>
      by_cases hm : (linesH s).length > 25
      · rw [readH_no3 hbig hi hm]
        refine ⟨[], (hdC s).2.1, [], [], linesH s, false, ?_⟩
        refine Fn.of' Tryz.func32 (by kernel_rfl) (by kernel_rfl) (by kernel_rfl) (by kernel_rfl) trivial ?_
        have c1 := rcut_many hL s hl hbig hi hm
        refine Wp.go (mx := true) (fun _ => mixed) [(2, {cs := [(2, cb [49] c1)]}), (3, {grd := [(3, false), (4, false), (5, false), (6, false), (7, false), (8, false), (9, false), (10, false), (11, false)]})] 100 [false, false, false] [((4 : Int) == (0 : Int)) = !true, ((4 : Int) == (0 : Int)) = !true, ((4 : Int) == (0 : Int)) = !true, ((4 : Int) == (0 : Int)) = !true, ((4 : Int) == (0 : Int)) = !true, ((4 : Int) == (0 : Int)) = !true, ((4 : Int) == (0 : Int)) = !true, ((4 : Int) == (0 : Int)) = !true, ((4 : Int) == (0 : Int)) = false, false = false, ((4 : Int) == (0 : Int)) = false, ((4 : Int) == (0 : Int)) = false] (by kernel_rfl) (by kernel_rfl) (by kernel_rfl) ⟨rfl, rfl, rfl, rfl, rfl, rfl, rfl, rfl, rfl, rfl, rfl, rfl⟩ ?_
        refine Wp.ret' (by kernel_rfl) ?_
        exact FinQ.blk [49] (by kernel_rfl) (by kernel_rfl) (by kernel_rfl) (by kernel_rfl) (by kernel_rfl) trivial
      · have hsp := splitH_yes hbig hi hm
        have c1 := rcut_yes hL s hl hbig hi (by omega)
        have hfs := first_sm s
        have hfl := fldsL_sm s
        have hcl := cl_sm s
        have hfn : (fieldsL s).length < 1000000 := by unfold fieldsL; rw [List.length_drop]; omega
        have hfe : ∀ k, ((fieldsL s).getD k []).length < 1000000000 := fun k => by
          rw [List.getD_eq_getElem?_getD]
          cases hx : (fieldsL s)[k]? with
          | none => show 0 < _; omega
          | some x => have := hfl x (List.mem_of_getElem? hx); simp; omega
        have c2 := tellL_ok hL (firstH s) 0 (by omega)
        cases hf : tellB (firstH s) with
        | false =>
          rw [readH_line hsp hf]
          rw [hf] at c2
          refine ⟨firstH s, (hdC s).2.1, [], [], fieldsL s, false, ?_⟩
          refine Fn.of' Tryz.func32 (by kernel_rfl) (by kernel_rfl) (by kernel_rfl) (by kernel_rfl) trivial ?_
          clear hf
          refine Wp.go (mx := true) (fun _ => mixed) [(3, {grd := [(3, true), (4, true), (5, true), (6, true), (7, true), (8, true), (9, true), (10, true)], cs := [(9, cb [0] c2)]}), (2, {cs := [(2, cb [49] c1)]})] 100 [true, false, false] [((0 : Int) == (0 : Int)) = true, ((0 : Int) == (0 : Int)) = true, ((0 : Int) == (0 : Int)) = true, ((0 : Int) == (0 : Int)) = true, ((0 : Int) == (0 : Int)) = true, ((0 : Int) == (0 : Int)) = true, ((0 : Int) == (0 : Int)) = true, ((0 : Int) == (0 : Int)) = true, (bif (0 : Int) == (0 : Int) then !false else false) = true, ((3 : Int) == (0 : Int)) = false, ((3 : Int) == (0 : Int)) = false] (by kernel_rfl) (by kernel_rfl) (by kernel_rfl) ⟨rfl, rfl, rfl, rfl, rfl, rfl, rfl, rfl, rfl, rfl, rfl⟩ ?_
          refine Wp.ent' (by kernel_rfl) (Ent.blkE (id := 49) (b := rdB (firstH s) .nilsl (hdC s).2.1 (encL (fieldsL s)) [] false) (b' := rdB (firstH s) (encH []) (hdC s).2.1 (encL (fieldsL s)) [] false) (by kernel_rfl) (rdz_eqv _ _ _) rfl) ?_
          refine Wp.ret' (by kernel_rfl) ?_
          exact FinQ.blk [49] (by kernel_rfl) (by kernel_rfl) (by kernel_rfl) (by kernel_rfl) (by kernel_rfl) trivial
        | true =>
          rw [hf] at c2
          have c3 := rfields_ok hL (firstH s) (hdC s).2.1 (fieldsL s) hfe hfn
          cases hO : fieldsO (fieldsL s) [] with
          | false =>
            rw [readH_flds hsp hf hO]
            rw [hO] at c3
            refine ⟨firstH s, (hdC s).2.1, (fGet (fieldsA (fieldsL s) []) clN).getD [], (fieldsA (fieldsL s) []).filter notCl, fieldsL s, (fGet (fieldsA (fieldsL s) []) clN).isSome, ?_⟩
            refine Fn.of' Tryz.func32 (by kernel_rfl) (by kernel_rfl) (by kernel_rfl) (by kernel_rfl) trivial ?_
            clear hf h
            refine Wp.go (mx := true) (fun _ => mixed) [(3, {grd := [(3, true), (4, true), (5, true), (6, true), (7, true), (8, true), (9, true), (10, true)], cs := [(9, cb [0] c2)]}), (2, {cs := [(2, cb [49] c1)]}), (6, {cs := [(1, cb [49] c3)]})] 100 [false, true, false] [((0 : Int) == (0 : Int)) = true, ((0 : Int) == (0 : Int)) = true, ((0 : Int) == (0 : Int)) = true, ((0 : Int) == (0 : Int)) = true, ((0 : Int) == (0 : Int)) = true, ((0 : Int) == (0 : Int)) = true, ((0 : Int) == (0 : Int)) = true, ((0 : Int) == (0 : Int)) = true, (bif (0 : Int) == (0 : Int) then !true else false) = false, ((0 : Int) == (0 : Int)) = true, ((if false = true then (0 : Int) else (3 : Int)) == (0 : Int)) = false] (by kernel_rfl) (by kernel_rfl) (by kernel_rfl) ⟨rfl, rfl, rfl, rfl, rfl, rfl, rfl, rfl, rfl, rfl, rfl⟩ ?_
            refine Wp.ret' (by kernel_rfl) ?_
            exact FinQ.blk [49] (by kernel_rfl) (by kernel_rfl) (by kernel_rfl) (by kernel_rfl) (by kernel_rfl) trivial
          | true =>
            rw [readH_end hsp hf hO] at h ⊢
            rw [hO] at c3
            have c4 := rsized_ok (G := G) (firstH s) (hdC s).2.1 ((fGet (fieldsA (fieldsL s) []) clN).getD []) (fGet (fieldsA (fieldsL s) []) clN).isSome ((fieldsA (fieldsL s) []).filter notCl) (fieldsL s) (by omega) (by omega)
            rw [show szE ((fGet (fieldsA (fieldsL s) []) clN).getD []) (fGet (fieldsA (fieldsL s) []) clN).isSome (hdC s).2.1 = bodyE (fieldsA (fieldsL s) []) (hdC s).2.1 from rfl] at c4
            by_cases he : bodyE (fieldsA (fieldsL s) []) (hdC s).2.1 = 0
            · rw [if_pos he] at h
              exact (h rfl).elim
            · rw [if_neg he]
              refine ⟨firstH s, (hdC s).2.1, (fGet (fieldsA (fieldsL s) []) clN).getD [], (fieldsA (fieldsL s) []).filter notCl, fieldsL s, (fGet (fieldsA (fieldsL s) []) clN).isSome, ?_⟩
              refine Fn.of' Tryz.func32 (by kernel_rfl) (by kernel_rfl) (by kernel_rfl) (by kernel_rfl) trivial ?_
              clear hf h
              refine Wp.go (mx := true) (fun _ => mixed) [(3, {grd := [(3, true), (4, true), (5, true), (6, true), (7, true), (8, true), (9, true), (10, true)], cs := [(9, cb [0] c2)]}), (2, {cs := [(2, cb [49] c1)]}), (6, {cs := [(1, cb [49] c3)]}), (8, {cs := [(1, cb [49] c4)]})] 100 [false, true, true] [((0 : Int) == (0 : Int)) = true, ((0 : Int) == (0 : Int)) = true, ((0 : Int) == (0 : Int)) = true, ((0 : Int) == (0 : Int)) = true, ((0 : Int) == (0 : Int)) = true, ((0 : Int) == (0 : Int)) = true, ((0 : Int) == (0 : Int)) = true, ((0 : Int) == (0 : Int)) = true, (bif (0 : Int) == (0 : Int) then !true else false) = false, ((0 : Int) == (0 : Int)) = true, ((if true = true then (0 : Int) else (3 : Int)) == (0 : Int)) = true] (by kernel_rfl) (by kernel_rfl) (by kernel_rfl) ⟨rfl, rfl, rfl, rfl, rfl, rfl, rfl, rfl, rfl, rfl, rfl⟩ ?_
              refine Wp.ret' (by kernel_rfl) ?_
              exact FinQ.blk [49] (by kernel_rfl) (by kernel_rfl) (by kernel_rfl) (by kernel_rfl) (by kernel_rfl) trivial
theorem readsR_yes (hL : HasLen G) (s : List UInt8) (hl : s.length < 1000000000) (h : (readH tellB s).2 = 0) : ∃ (f z : List UInt8) (l : List (List UInt8)) (d : Bool), FnB Tryz.prog G 32 [.box 33 [.int .i64 0, .nilsl, .str []]] [.c (.str s), .c (clo1 41 (.ptr 0 0))] [.c (.ptr 1 0), .c (.int .i64 0)] [(0, .box 33 [.int .i64 (tellN (firstH s)), .nilsl, .str []]), (1, rdB f (encH (readH tellB s).1) (hdC s).2.1 (encL l) z d)] := by
  have hb : (hdC s).2.1.length ≤ s.length := (cut_len s [13, 10, 13, 10]).2
  cases hbig : bigH s with
  | true => rw [readH_no1 hbig] at h; cases h
  | false =>
    cases hi : (hdC s).2.2 with
    | false => rw [readH_no2 hbig hi] at h; cases h
    | true =>
      by_cases hm : (linesH s).length > 25
      · rw [readH_no3 hbig hi hm] at h; cases h
      · have hsp := splitH_yes hbig hi hm
        have c1 := rcut_yes hL s hl hbig hi (by omega)
        have hfs := first_sm s
        have hfl := fldsL_sm s
        have hcl := cl_sm s
        have hfn : (fieldsL s).length < 1000000 := by unfold fieldsL; rw [List.length_drop]; omega
        have hfe : ∀ k, ((fieldsL s).getD k []).length < 1000000000 := fun k => by
          rw [List.getD_eq_getElem?_getD]
          cases hx : (fieldsL s)[k]? with
          | none => show 0 < _; omega
          | some x => have := hfl x (List.mem_of_getElem? hx); simp; omega
        have c2 := tellL_ok hL (firstH s) 0 (by omega)
        cases hf : tellB (firstH s) with
        | false => rw [readH_line hsp hf] at h; cases h
        | true =>
          rw [hf] at c2
          have c3 := rfields_ok hL (firstH s) (hdC s).2.1 (fieldsL s) hfe hfn
          cases hO : fieldsO (fieldsL s) [] with
          | false => rw [readH_flds hsp hf hO] at h; cases h
          | true =>
            rw [readH_end hsp hf hO] at h ⊢
            rw [hO] at c3
            have c4 := rsized_ok (G := G) (firstH s) (hdC s).2.1 ((fGet (fieldsA (fieldsL s) []) clN).getD []) (fGet (fieldsA (fieldsL s) []) clN).isSome ((fieldsA (fieldsL s) []).filter notCl) (fieldsL s) (by omega) (by omega)
            rw [show szE ((fGet (fieldsA (fieldsL s) []) clN).getD []) (fGet (fieldsA (fieldsL s) []) clN).isSome (hdC s).2.1 = bodyE (fieldsA (fieldsL s) []) (hdC s).2.1 from rfl] at c4
            by_cases he : bodyE (fieldsA (fieldsL s) []) (hdC s).2.1 = 0
            · rw [if_pos he]
              rw [he] at c4
              refine ⟨firstH s, (fGet (fieldsA (fieldsL s) []) clN).getD [], fieldsL s, (fGet (fieldsA (fieldsL s) []) clN).isSome, ?_⟩
              refine Fn.of' Tryz.func32 (by kernel_rfl) (by kernel_rfl) (by kernel_rfl) (by kernel_rfl) trivial ?_
              clear hf h he
              refine Wp.go (mx := true) (fun _ => mixed) [(3, {grd := [(3, true), (4, true), (5, true), (6, true), (7, true), (8, true), (9, true), (10, true)], cs := [(9, cb [0] c2)]}), (2, {cs := [(2, cb [49] c1)]}), (6, {cs := [(1, cb [49] c3)]}), (8, {cs := [(1, cb [49] c4)]})] 100 [false, true, true] [((0 : Int) == (0 : Int)) = true, ((0 : Int) == (0 : Int)) = true, ((0 : Int) == (0 : Int)) = true, ((0 : Int) == (0 : Int)) = true, ((0 : Int) == (0 : Int)) = true, ((0 : Int) == (0 : Int)) = true, ((0 : Int) == (0 : Int)) = true, ((0 : Int) == (0 : Int)) = true, (bif (0 : Int) == (0 : Int) then !true else false) = false, ((0 : Int) == (0 : Int)) = true, ((if true = true then (0 : Int) else (3 : Int)) == (0 : Int)) = true] (by kernel_rfl) (by kernel_rfl) (by kernel_rfl) ⟨rfl, rfl, rfl, rfl, rfl, rfl, rfl, rfl, rfl, rfl, rfl⟩ ?_
              refine Wp.ret' (by kernel_rfl) ?_
              exact FinQ.blk [49] (by kernel_rfl) (by kernel_rfl) (by kernel_rfl) (by kernel_rfl) (by kernel_rfl) trivial
            · rw [if_neg he] at h
              exact (he h).elim
end Go.Proofs.Tw
end

section
open Go Go.Sv Go.RowKit
namespace Go.Proofs.Tw
attribute [local irreducible] Wp FinQ resV Ent Pur Go.Sv.Fn Sat0
set_option maxRecDepth 100000
set_option maxHeartbeats 4000000
variable {G : Nat → Option (List Cell)}

theorem parseQ_ok (hL : HasLen G) (s : List UInt8) (hl : s.length < 1000000000) : Pur Tryz.prog G 9 [.c (.str s)] [.agg (encQ (parseQ s).1), .c (.int .i64 (parseQ s).2)] := by
  have e0 : EqvD (.agg [.str [], .str [], .nilsl, .str []]) (.agg (encQ QT.nil)) := agg_eqv (.cons CEq.rfl' (.cons CEq.rfl' (.cons CEq.nil (.cons CEq.rfl' .nil))))
  cases hr : decide ((readH askB s).2 = 0) with
  | false =>
    have hr := of_decide_eq_false hr
    obtain ⟨f, b, z, hd, l, d, c⟩ := readsQ_no hL s hl hr
    have hp : parseQ s = (QT.nil, (readH askB s).2) := by unfold parseQ; rw [if_neg hr]
    rw [hp]
    have ht : ((readH askB s).2 != 0) = true := bne_iff_ne.2 hr
    generalize (readH askB s).2 = e at c ht
    clear hr hp
    refine Pur.of Tryz.func9 (by kernel_rfl) (by kernel_rfl) (by kernel_rfl) ?_
    refine Wp.go (mx := true) (fun _ => mixed) [(2, {cs := [(2, cb [32] c)], fm := [(1, .c (clo1 33 (.ptr 32 0)))]}), (4, {fm := [(0, .agg (encQ QT.nil))]})] 100 [true] [EqvI (V1.c (cloRaw (33 : Nat) [V1.c (Cell.ptr (32 : Nat) (0 : Nat))])) (V1.c (clo1 (33 : FuncId) (Cell.ptr (32 : Nat) (0 : Nat)))), EqvD (V1.c (cloRaw (33 : Nat) [V1.c (Cell.ptr (32 : Nat) (0 : Nat))])) (V1.c (clo1 (33 : FuncId) (Cell.ptr (32 : Nat) (0 : Nat)))), (e != (0 : Int)) = true, EqvI (V1.agg [Cell.str [], Cell.str [], Cell.nilsl, Cell.str []]) (V1.agg (encQ QT.nil)), EqvD (V1.agg [Cell.str [], Cell.str [], Cell.nilsl, Cell.str []]) (V1.agg (encQ QT.nil))] (by kernel_rfl) (by kernel_rfl) (by kernel_rfl) ⟨clo1_I _ _, clo1_D _ _, (by assumption), eqvI_flat _ _ (by kernel_rfl), (show EqvD (V1.agg [Cell.str [], Cell.str [], Cell.nilsl, Cell.str []]) (V1.agg (encQ QT.nil)) from (by assumption))⟩ ?_
    refine Wp.ret' (by kernel_rfl) ?_
    exact FinQ.pure (rs' := [V1.agg [Cell.str QT.nil.method, Cell.str QT.nil.target, Cell.sl (2 : Nat) QT.nil.head.length fun (i j : Nat) => nthD (encF (QT.nil.head.getD i FT.nil)) j, Cell.str QT.nil.body], V1.c (Cell.int .i64 e)]) (by kernel_rfl) rfl (by kernel_rfl)
  | true =>
    have hr := of_decide_eq_true hr
    obtain ⟨f, z, l, d, c⟩ := readsQ_yes hL s hl hr
    have hp : parseQ s = (⟨askM (firstH s), askT (firstH s), (readH askB s).1, (hdC s).2.1⟩, 0) := by unfold parseQ; rw [if_pos hr]
    rw [hp]
    have ht : ((0 : Int) != 0) = false := rfl
    generalize (readH askB s).1 = H at c
    clear hr hp
    refine Pur.of Tryz.func9 (by kernel_rfl) (by kernel_rfl) (by kernel_rfl) ?_
    refine Wp.go (mx := true) (fun _ => mixed) [(2, {cs := [(2, cb [32] c)], fm := [(1, .c (clo1 33 (.ptr 32 0)))]})] 100 [false] [EqvI (V1.c (cloRaw (33 : Nat) [V1.c (Cell.ptr (32 : Nat) (0 : Nat))])) (V1.c (clo1 (33 : FuncId) (Cell.ptr (32 : Nat) (0 : Nat)))), EqvD (V1.c (cloRaw (33 : Nat) [V1.c (Cell.ptr (32 : Nat) (0 : Nat))])) (V1.c (clo1 (33 : FuncId) (Cell.ptr (32 : Nat) (0 : Nat)))), ((0 : Int) != (0 : Int)) = false] (by kernel_rfl) (by kernel_rfl) (by kernel_rfl) ⟨clo1_I _ _, clo1_D _ _, rfl⟩ ?_
    refine Wp.ret' (by kernel_rfl) ?_
    exact FinQ.pure (rs' := [V1.agg [Cell.str (askM (firstH s)), Cell.str (askT (firstH s)), Cell.sl (2 : Nat) H.length fun (i j : Nat) => nthD (encF (H.getD i FT.nil)) j, Cell.str (hdC s).2.fst], V1.c (Cell.int .i64 (0 : Int))]) (by kernel_rfl) rfl (by kernel_rfl)
theorem parseR_ok (hL : HasLen G) (s : List UInt8) (hl : s.length < 1000000000) : Pur Tryz.prog G 11 [.c (.str s)] [.agg (encT (parseR s).1), .c (.int .i64 (parseR s).2)] := by
  have e0 : EqvD (.agg [.int .i64 0, .nilsl, .str []]) (.agg (encT nilR)) := agg_eqv (.cons CEq.rfl' (.cons CEq.nil (.cons CEq.rfl' .nil)))
  cases hr : decide ((readH tellB s).2 = 0) with
  | false =>
    have hr := of_decide_eq_false hr
    obtain ⟨f, b, z, hd, l, d, c⟩ := readsR_no hL s hl hr
    have hp : parseR s = (nilR, (readH tellB s).2) := by unfold parseR; rw [if_neg hr]
    rw [hp]
    have ht : ((readH tellB s).2 != 0) = true := bne_iff_ne.2 hr
    generalize (readH tellB s).2 = e at c ht
    clear hr hp
    refine Pur.of Tryz.func11 (by kernel_rfl) (by kernel_rfl) (by kernel_rfl) ?_
    refine Wp.go (mx := true) (fun _ => mixed) [(2, {cs := [(2, cb [32] c)], fm := [(1, .c (clo1 41 (.ptr 32 0)))]}), (4, {fm := [(0, .agg (encT nilR))]})] 100 [true] [EqvI (V1.c (cloRaw (41 : Nat) [V1.c (Cell.ptr (32 : Nat) (0 : Nat))])) (V1.c (clo1 (41 : FuncId) (Cell.ptr (32 : Nat) (0 : Nat)))), EqvD (V1.c (cloRaw (41 : Nat) [V1.c (Cell.ptr (32 : Nat) (0 : Nat))])) (V1.c (clo1 (41 : FuncId) (Cell.ptr (32 : Nat) (0 : Nat)))), (e != (0 : Int)) = true, EqvI (V1.agg [Cell.int .i64 (0 : Int), Cell.nilsl, Cell.str []]) (V1.agg (encT nilR)), EqvD (V1.agg [Cell.int .i64 (0 : Int), Cell.nilsl, Cell.str []]) (V1.agg (encT nilR))] (by kernel_rfl) (by kernel_rfl) (by kernel_rfl) ⟨clo1_I _ _, clo1_D _ _, (by assumption), eqvI_flat _ _ (by kernel_rfl), (show EqvD (V1.agg [Cell.int .i64 (0 : Int), Cell.nilsl, Cell.str []]) (V1.agg (encT nilR)) from (by assumption))⟩ ?_
    refine Wp.ret' (by kernel_rfl) ?_
    exact FinQ.pure (rs' := [V1.agg [Cell.int .i64 nilR.status, Cell.sl (2 : Nat) nilR.head.length fun (i j : Nat) => nthD (encF (nilR.head.getD i FT.nil)) j, Cell.str nilR.body], V1.c (Cell.int .i64 e)]) (by kernel_rfl) rfl (by kernel_rfl)
  | true =>
    have hr := of_decide_eq_true hr
    obtain ⟨f, z, l, d, c⟩ := readsR_yes hL s hl hr
    have hp : parseR s = (⟨tellN (firstH s), (readH tellB s).1, (hdC s).2.1⟩, 0) := by unfold parseR; rw [if_pos hr]
    rw [hp]
    have ht : ((0 : Int) != 0) = false := rfl
    generalize (readH tellB s).1 = H at c
    clear hr hp
    refine Pur.of Tryz.func11 (by kernel_rfl) (by kernel_rfl) (by kernel_rfl) ?_
    refine Wp.go (mx := true) (fun _ => mixed) [(2, {cs := [(2, cb [32] c)], fm := [(1, .c (clo1 41 (.ptr 32 0)))]})] 100 [false] [EqvI (V1.c (cloRaw (41 : Nat) [V1.c (Cell.ptr (32 : Nat) (0 : Nat))])) (V1.c (clo1 (41 : FuncId) (Cell.ptr (32 : Nat) (0 : Nat)))), EqvD (V1.c (cloRaw (41 : Nat) [V1.c (Cell.ptr (32 : Nat) (0 : Nat))])) (V1.c (clo1 (41 : FuncId) (Cell.ptr (32 : Nat) (0 : Nat)))), ((0 : Int) != (0 : Int)) = false] (by kernel_rfl) (by kernel_rfl) (by kernel_rfl) ⟨clo1_I _ _, clo1_D _ _, rfl⟩ ?_
    refine Wp.ret' (by kernel_rfl) ?_
    exact FinQ.pure (rs' := [V1.agg [Cell.int .i64 (tellN (firstH s)), Cell.sl (2 : Nat) H.length fun (i j : Nat) => nthD (encF (H.getD i FT.nil)) j, Cell.str (hdC s).2.fst], V1.c (Cell.int .i64 (0 : Int))]) (by kernel_rfl) rfl (by kernel_rfl)
end Go.Proofs.Tw
end

section
open Go Go.Sv
namespace Go.Proofs.Tw
attribute [local irreducible] Wp FinQ resV Ent Pur Go.Sv.Fn Sat0
set_option maxRecDepth 100000
set_option maxHeartbeats 4000000
variable {G : Nat → Option (List Cell)}

end Go.Proofs.Tw
end

section
open Go Go.Sv
namespace Go.Proofs.Tw
attribute [local irreducible] Wp FinQ resV Ent Pur Go.Sv.Fn Sat0
set_option maxRecDepth 100000
set_option maxHeartbeats 4000000
variable {G : Nat → Option (List Cell)}

end Go.Proofs.Tw
end

section
open Go Go.Sv
namespace Go.Proofs.Tw
attribute [local irreducible] Wp FinQ resV Ent Pur Go.Sv.Fn Sat0
set_option maxRecDepth 100000
set_option maxHeartbeats 4000000
variable {G : Nat → Option (List Cell)}

theorem idx_at (a t r : List UInt8) (c : UInt8) (h : c ∉ a) : Lib.index (a ++ (c :: r) ++ t) (c :: r) = a.length := by
  refine Lib.index_first (by simp only [List.length_append]; omega) ?_ (fun j hj => ?_)
  · unfold Lib.occAt
    rw [List.append_assoc, List.drop_left]
    exact List.isPrefixOf_iff_prefix.2 (List.prefix_append _ _)
  · unfold Lib.occAt
    have hx : (a ++ (c :: r) ++ t).drop j = a.getD j 0 :: (a ++ (c :: r) ++ t).drop (j + 1) := by
      rw [dropS _ j (by simp only [List.length_append]; omega)]
      congr 1
      rw [List.append_assoc, List.getD_eq_getElem?_getD, List.getD_eq_getElem?_getD, List.getElem?_append_left hj]
    rw [hx, List.isPrefixOf]
    have : (c == a.getD j 0) = false := by
      rw [beq_eq_false_iff_ne]
      rintro rfl
      exact h (by rw [List.getD_eq_getElem?_getD, List.getElem?_eq_getElem hj]; exact List.getElem_mem hj)
    rw [this]; rfl
theorem cut_at (a t r : List UInt8) (c : UInt8) (h : c ∉ a) : Lib.cut (a ++ (c :: r) ++ t) (c :: r) = (a, t, true) := by
  unfold Lib.cut
  rw [idx_at a t r c h, if_pos (by omega)]
  have e : ((a.length : Nat) : Int).toNat = a.length := by omega
  rw [e, List.append_assoc, List.take_left, ← List.append_assoc, show a.length + (c :: r).length = (a ++ (c :: r)).length from by simp, List.drop_left]
theorem cut_true {s p : List UInt8} (h : (Lib.cut s p).2.2 = true) : s = (Lib.cut s p).1 ++ p ++ (Lib.cut s p).2.1 := by
  unfold Lib.cut at h ⊢
  split
  · rename_i h0
    rw [if_pos h0] at h
    have ho : Lib.occAt s p (Lib.index s p).toNat = true := by
      rcases Lib.index_spec s p with ⟨h1, _⟩ | ⟨i, h1, _, h2, _⟩
      · rw [h1] at h0; exact absurd h0 (by decide)
      · rw [h1, show ((i : Nat) : Int).toNat = i from by omega]; exact h2
    generalize (Lib.index s p).toNat = i at ho
    have hp := List.isPrefixOf_iff_prefix.1 ho
    obtain ⟨t, ht⟩ := hp
    show s = s.take i ++ p ++ s.drop (i + p.length)
    have h2 : s.drop (i + p.length) = t := by rw [← List.drop_drop, ← ht, List.drop_left]
    rw [h2, List.append_assoc, ht, List.take_append_drop]
  · rename_i h0
    rw [if_neg h0] at h
    cases h
theorem suf_true {s p : List UInt8} (h : Lib.hasSuffix s p = true) : s = Lib.trimSuffix s p ++ p := by
  unfold Lib.trimSuffix
  rw [if_pos h]
  obtain ⟨t, rfl⟩ := List.isSuffixOf_iff_suffix.1 h
  simp
theorem suf_app (a p : List UInt8) : Lib.hasSuffix (a ++ p) p = true ∧ Lib.trimSuffix (a ++ p) p = a := by
  have h : Lib.hasSuffix (a ++ p) p = true := List.isSuffixOf_iff_suffix.2 (List.suffix_append _ _)
  refine ⟨h, ?_⟩
  unfold Lib.trimSuffix
  rw [if_pos h]; simp
end Go.Proofs.Tw
end

section
open Go Go.Sv Go.RowKit
namespace Go.Proofs.Tw
attribute [local irreducible] Wp FinQ resV Ent Pur Go.Sv.Fn Sat0
set_option maxRecDepth 100000
set_option maxHeartbeats 4000000
variable {G : Nat → Option (List Cell)}

theorem method13_ok (s : List UInt8) (hl : s.length < 4611686018427387904) : Pur Tryz.prog G 53 [.c (.str s)] [.c (.bool (methT s))] := by
  refine Pur.of Tryz.func53 (by kernel_rfl) (by kernel_rfl) (by kernel_rfl) ?_
  refine Wp.go (mx := true) (fun _ => mixed) [] 100 [] [] (by kernel_rfl) (by kernel_rfl) (by kernel_rfl) trivial ?_
  refine Wp.loopK (by kernel_rfl) (fun (k : Nat) => ⟨[(0, .v (.c (.str s))), (3, .v (.c (.int .i64 (k : Int))))], [], 32⟩) (fun k => k ≤ s.length ∧ s.all greatB = (s.drop k).all greatB) (fun k => s.length - k) 0 (Ent.of [] (by kernel_rfl) (by kernel_rfl) (by kernel_rfl) trivial) ⟨Nat.zero_le _, rfl⟩ ?_
  intro k L ⟨hk, hq⟩ again
  rcases Nat.lt_or_ge k s.length with hlt | hge
  · rw [dropS s k hlt, List.all_cons] at hq
    have hb : (bif decide (((s.getD k (0 : UInt8)).toNat : Int) < 65) then true else decide (((s.getD k (0 : UInt8)).toNat : Int) > 90)) = !greatB (s.getD k (0 : UInt8)) := by_fun (fun c => bif decide ((c.toNat : Int) < 65) then true else decide ((c.toNat : Int) > 90)) (fun c => !greatB c) (by kernel_rfl) (s.getD k (0 : UInt8))
    cases hg : greatB (s.getD k 0) with
    | false =>
      rw [hg] at hb hq
      have hb : (bif decide (((s.getD k (0 : UInt8)).toNat : Int) < 65) then true else decide (((s.getD k (0 : UInt8)).toNat : Int) > 90)) = true := hb
      have hm : methT s = false := by unfold methT; rw [hq]; rfl
      rw [hm]
      clear hm again hq hg
      refine Wp.go (mx := true) (fun _ => mixed) [] 100 [true, true] [decide ((↑k : Int) < (↑s.length : Int)) = true, (0 : Int) ≤ (↑k : Int) ∧ (↑k : Int) < (↑s.length : Int), decide ((↑(s.getD k (0 : UInt8)).toNat : Int) < (65 : Int)) = false → (0 : Int) ≤ (↑k : Int) ∧ (↑k : Int) < (↑s.length : Int), (bif decide ((↑(s.getD k (0 : UInt8)).toNat : Int) < (65 : Int)) then true else decide ((↑(s.getD k (0 : UInt8)).toNat : Int) > (90 : Int))) = true] (by kernel_rfl) (by kernel_rfl) (by kernel_rfl) ⟨(by simp; omega), (by omega), (by omega), (show (bif decide ((↑(s.getD k (0 : UInt8)).toNat : Int) < (65 : Int)) then true else decide ((↑(s.getD k (0 : UInt8)).toNat : Int) > (90 : Int))) = true from (by assumption))⟩ ?_
      refine Wp.ret' (by kernel_rfl) ?_
      exact FinQ.pure (rs' := [V1.c (Cell.bool false)]) (by kernel_rfl) rfl (by kernel_rfl)
    | true =>
      rw [hg, Bool.true_and] at hq
      rw [hg] at hb
      have hb : (bif decide (((s.getD k (0 : UInt8)).toNat : Int) < 65) then true else decide (((s.getD k (0 : UInt8)).toNat : Int) > 90)) = false := hb
      clear hg
      refine Wp.go (mx := true) (fun _ => mixed) [] 100 [true, false] [decide ((↑k : Int) < (↑s.length : Int)) = true, (0 : Int) ≤ (↑k : Int) ∧ (↑k : Int) < (↑s.length : Int), decide ((↑(s.getD k (0 : UInt8)).toNat : Int) < (65 : Int)) = false → (0 : Int) ≤ (↑k : Int) ∧ (↑k : Int) < (↑s.length : Int), (bif decide ((↑(s.getD k (0 : UInt8)).toNat : Int) < (65 : Int)) then true else decide ((↑(s.getD k (0 : UInt8)).toNat : Int) > (90 : Int))) = false, inR IntKind.i64 ((↑k : Int) + (1 : Int))] (by kernel_rfl) (by kernel_rfl) (by kernel_rfl) ⟨(by simp; omega), (by omega), (by omega), (by assumption), inR64 (by omega) (by omega)⟩ ?_
      exact Wp.lpK (by kernel_rfl) (again _ (k + 1) ⟨(by assumption), (by assumption)⟩ (by omega) (Ent.of [] (by kernel_rfl) (by kernel_rfl) (by kernel_rfl) trivial))
  · rw [List.drop_of_length_le hge, List.all_nil] at hq
    have hm : methT s = (bif decide ((s.length : Int) ≥ 1) then decide ((s.length : Int) ≤ 16) else false) := by
      unfold methT
      rw [hq, Bool.true_and, Bool.cond_false_right]
      congr 1
      · exact decide_eq_decide.2 (by omega)
      · exact decide_eq_decide.2 (by omega)
    rw [hm]
    clear hm hq again
    refine Wp.go (mx := true) (fun _ => mixed) [] 100 [false] [decide ((↑k : Int) < (↑s.length : Int)) = false] (by kernel_rfl) (by kernel_rfl) (by kernel_rfl) (show decide ((↑k : Int) < (↑s.length : Int)) = false from (by simp; omega)) ?_
    refine Wp.ret' (by kernel_rfl) ?_
    exact FinQ.pure (rs' := [V1.c (Cell.bool (bif decide ((↑s.length : Int) ≥ (1 : Int)) then decide ((↑s.length : Int) ≤ (16 : Int)) else false))]) (by kernel_rfl) rfl (by kernel_rfl)
theorem target13_ok (s : List UInt8) (hl : s.length < 4611686018427387904) : Pur Tryz.prog G 54 [.c (.str s)] [.c (.bool (targT s))] := by
  refine Pur.of Tryz.func54 (by kernel_rfl) (by kernel_rfl) (by kernel_rfl) ?_
  refine Wp.go (mx := true) (fun _ => mixed) [] 100 [] [] (by kernel_rfl) (by kernel_rfl) (by kernel_rfl) trivial ?_
  refine Wp.loopK (by kernel_rfl) (fun (k : Nat) => ⟨[(0, .v (.c (.str s))), (3, .v (.c (.int .i64 (k : Int))))], [], 32⟩) (fun k => k ≤ s.length ∧ s.all tgB = (s.drop k).all tgB) (fun k => s.length - k) 0 (Ent.of [] (by kernel_rfl) (by kernel_rfl) (by kernel_rfl) trivial) ⟨Nat.zero_le _, rfl⟩ ?_
  intro k L ⟨hk, hq⟩ again
  rcases Nat.lt_or_ge k s.length with hlt | hge
  · rw [dropS s k hlt, List.all_cons] at hq
    have hb : (bif decide (((s.getD k (0 : UInt8)).toNat : Int) < 33) then true else decide (((s.getD k (0 : UInt8)).toNat : Int) > 126)) = !tgB (s.getD k (0 : UInt8)) := by_fun (fun c => bif decide ((c.toNat : Int) < 33) then true else decide ((c.toNat : Int) > 126)) (fun c => !tgB c) (by kernel_rfl) (s.getD k (0 : UInt8))
    cases hg : tgB (s.getD k 0) with
    | false =>
      rw [hg] at hb hq
      have hb : (bif decide (((s.getD k (0 : UInt8)).toNat : Int) < 33) then true else decide (((s.getD k (0 : UInt8)).toNat : Int) > 126)) = true := hb
      have hm : targT s = false := by unfold targT; rw [hq]; rfl
      rw [hm]
      clear hm again hq hg
      refine Wp.go (mx := true) (fun _ => mixed) [] 100 [true, true] [decide ((↑k : Int) < (↑s.length : Int)) = true, (0 : Int) ≤ (↑k : Int) ∧ (↑k : Int) < (↑s.length : Int), decide ((↑(s.getD k (0 : UInt8)).toNat : Int) < (33 : Int)) = false → (0 : Int) ≤ (↑k : Int) ∧ (↑k : Int) < (↑s.length : Int), (bif decide ((↑(s.getD k (0 : UInt8)).toNat : Int) < (33 : Int)) then true else decide ((↑(s.getD k (0 : UInt8)).toNat : Int) > (126 : Int))) = true] (by kernel_rfl) (by kernel_rfl) (by kernel_rfl) ⟨(by simp; omega), (by omega), (by omega), (show (bif decide ((↑(s.getD k (0 : UInt8)).toNat : Int) < (33 : Int)) then true else decide ((↑(s.getD k (0 : UInt8)).toNat : Int) > (126 : Int))) = true from (by assumption))⟩ ?_
      refine Wp.ret' (by kernel_rfl) ?_
      exact FinQ.pure (rs' := [V1.c (Cell.bool false)]) (by kernel_rfl) rfl (by kernel_rfl)
    | true =>
      rw [hg, Bool.true_and] at hq
      rw [hg] at hb
      have hb : (bif decide (((s.getD k (0 : UInt8)).toNat : Int) < 33) then true else decide (((s.getD k (0 : UInt8)).toNat : Int) > 126)) = false := hb
      clear hg
      refine Wp.go (mx := true) (fun _ => mixed) [] 100 [true, false] [decide ((↑k : Int) < (↑s.length : Int)) = true, (0 : Int) ≤ (↑k : Int) ∧ (↑k : Int) < (↑s.length : Int), decide ((↑(s.getD k (0 : UInt8)).toNat : Int) < (33 : Int)) = false → (0 : Int) ≤ (↑k : Int) ∧ (↑k : Int) < (↑s.length : Int), (bif decide ((↑(s.getD k (0 : UInt8)).toNat : Int) < (33 : Int)) then true else decide ((↑(s.getD k (0 : UInt8)).toNat : Int) > (126 : Int))) = false, inR IntKind.i64 ((↑k : Int) + (1 : Int))] (by kernel_rfl) (by kernel_rfl) (by kernel_rfl) ⟨(by simp; omega), (by omega), (by omega), (by assumption), inR64 (by omega) (by omega)⟩ ?_
      exact Wp.lpK (by kernel_rfl) (again _ (k + 1) ⟨(by assumption), (by assumption)⟩ (by omega) (Ent.of [] (by kernel_rfl) (by kernel_rfl) (by kernel_rfl) trivial))
  · rw [List.drop_of_length_le hge, List.all_nil] at hq
    have hm : targT s = (bif decide ((s.length : Int) ≥ 1) then decide ((s.length : Int) ≤ 1024) else false) := by
      unfold targT
      rw [hq, Bool.true_and, Bool.cond_false_right]
      congr 1
      · exact decide_eq_decide.2 (by omega)
      · exact decide_eq_decide.2 (by omega)
    rw [hm]
    clear hm hq again
    refine Wp.go (mx := true) (fun _ => mixed) [] 100 [false] [decide ((↑k : Int) < (↑s.length : Int)) = false] (by kernel_rfl) (by kernel_rfl) (by kernel_rfl) (show decide ((↑k : Int) < (↑s.length : Int)) = false from (by simp; omega)) ?_
    refine Wp.ret' (by kernel_rfl) ?_
    exact FinQ.pure (rs' := [V1.c (Cell.bool (bif decide ((↑s.length : Int) ≥ (1 : Int)) then decide ((↑s.length : Int) ≤ (1024 : Int)) else false))]) (by kernel_rfl) rfl (by kernel_rfl)
end Go.Proofs.Tw
end

section
open Go Go.Sv Go.RowKit
namespace Go.Proofs.Tw
attribute [local irreducible] Wp FinQ resV Ent Pur Go.Sv.Fn Sat0
set_option maxRecDepth 100000
set_option maxHeartbeats 4000000
variable {G : Nat → Option (List Cell)}

def tok6 : List UInt8 := [33, 35, 36, 37, 38, 39, 42, 43, 45, 46, 94, 95, 124, 126]
theorem token6_ok (s : List UInt8) (hl : s.length < 4611686018427387904) : Pur Tryz.prog G 76 [.c (.str s)] [.c (.bool (tokenT s))] := by
  refine Pur.of Tryz.func76 (by kernel_rfl) (by kernel_rfl) (by kernel_rfl) ?_
  refine Wp.go (mx := true) (fun _ => mixed) [] 100 [] [] (by kernel_rfl) (by kernel_rfl) (by kernel_rfl) trivial ?_
  refine Wp.loopK (by kernel_rfl) (fun (k : Nat) => ⟨[(0, .v (.c (.str s))), (3, .v (.c (.int .i64 (k : Int))))], [], 32⟩) (fun k => k ≤ s.length ∧ s.all tokenB = (s.drop k).all tokenB) (fun k => s.length - k) 0 (Ent.of [] (by kernel_rfl) (by kernel_rfl) (by kernel_rfl) trivial) ⟨Nat.zero_le _, rfl⟩ ?_
  intro k L ⟨hk, hq⟩ again
  rcases Nat.lt_or_ge k s.length with hlt | hge
  · rw [dropS s k hlt, List.all_cons] at hq
    have c1 := letter6_ok (G := G) (s.getD k 0)
    have c2 := digit6_ok (G := G) (s.getD k 0)
    have c3 := in6_ok (G := G) (s.getD k 0) tok6 (by decide)
    have hb : (bif bif bif !letterB (s.getD k 0) then !digitB (s.getD k 0) else false then !(tok6.contains (s.getD k 0)) else false then (((s.getD k 0).toNat : Int) != 96) else false) = !tokenB (s.getD k (0 : UInt8)) := by_fun (fun c => bif bif bif !letterB c then !digitB c else false then !(tok6.contains c) else false then ((c.toNat : Int) != 96) else false) (fun c => !tokenB c) (by kernel_rfl) (s.getD k (0 : UInt8))
    cases hg : tokenB (s.getD k 0) with
    | false =>
      rw [hg] at hb hq
      have hb : (bif bif bif !letterB (s.getD k 0) then !digitB (s.getD k 0) else false then !(tok6.contains (s.getD k 0)) else false then (((s.getD k 0).toNat : Int) != 96) else false) = true := hb
      have hm : tokenT s = false := by unfold tokenT; rw [hq]; simp
      rw [hm]
      clear hm again hq hg
      refine Wp.go (mx := true) (fun _ => mixed) [(4, {cs := [(3, pc c1), (9, pc c2), (16, pc c3)]})] 100 [true, true] [decide ((↑k : Int) < (↑s.length : Int)) = true, (0 : Int) ≤ (↑k : Int) ∧ (↑k : Int) < (↑s.length : Int), (!letterB (s.getD k (0 : UInt8))) = true → (0 : Int) ≤ (↑k : Int) ∧ (↑k : Int) < (↑s.length : Int), (bif !letterB (s.getD k (0 : UInt8)) then !digitB (s.getD k (0 : UInt8)) else false) = true → (0 : Int) ≤ (↑k : Int) ∧ (↑k : Int) < (↑s.length : Int), (bif bif !letterB (s.getD k (0 : UInt8)) then !digitB (s.getD k (0 : UInt8)) else false then !tok6.contains (s.getD k (0 : UInt8)) else false) = true → (0 : Int) ≤ (↑k : Int) ∧ (↑k : Int) < (↑s.length : Int), (bif bif bif !letterB (s.getD k (0 : UInt8)) then !digitB (s.getD k (0 : UInt8)) else false then !tok6.contains (s.getD k (0 : UInt8)) else false then (↑(s.getD k (0 : UInt8)).toNat : Int) != (96 : Int) else false) = true] (by kernel_rfl) (by kernel_rfl) (by kernel_rfl) ⟨(by simp; omega), (by omega), (by omega), (by omega), (by omega), (show (bif bif bif !letterB (s.getD k (0 : UInt8)) then !digitB (s.getD k (0 : UInt8)) else false then !tok6.contains (s.getD k (0 : UInt8)) else false then (↑(s.getD k (0 : UInt8)).toNat : Int) != (96 : Int) else false) = true from (by assumption))⟩ ?_
      refine Wp.ret' (by kernel_rfl) ?_
      exact FinQ.pure (rs' := [V1.c (Cell.bool false)]) (by kernel_rfl) rfl (by kernel_rfl)
    | true =>
      rw [hg, Bool.true_and] at hq
      rw [hg] at hb
      have hb : (bif bif bif !letterB (s.getD k 0) then !digitB (s.getD k 0) else false then !(tok6.contains (s.getD k 0)) else false then (((s.getD k 0).toNat : Int) != 96) else false) = false := hb
      clear hg
      refine Wp.go (mx := true) (fun _ => mixed) [(4, {cs := [(3, pc c1), (9, pc c2), (16, pc c3)]})] 100 [true, false] [decide ((↑k : Int) < (↑s.length : Int)) = true, (0 : Int) ≤ (↑k : Int) ∧ (↑k : Int) < (↑s.length : Int), (!letterB (s.getD k (0 : UInt8))) = true → (0 : Int) ≤ (↑k : Int) ∧ (↑k : Int) < (↑s.length : Int), (bif !letterB (s.getD k (0 : UInt8)) then !digitB (s.getD k (0 : UInt8)) else false) = true → (0 : Int) ≤ (↑k : Int) ∧ (↑k : Int) < (↑s.length : Int), (bif bif !letterB (s.getD k (0 : UInt8)) then !digitB (s.getD k (0 : UInt8)) else false then !tok6.contains (s.getD k (0 : UInt8)) else false) = true → (0 : Int) ≤ (↑k : Int) ∧ (↑k : Int) < (↑s.length : Int), (bif bif bif !letterB (s.getD k (0 : UInt8)) then !digitB (s.getD k (0 : UInt8)) else false then !tok6.contains (s.getD k (0 : UInt8)) else false then (↑(s.getD k (0 : UInt8)).toNat : Int) != (96 : Int) else false) = false, inR IntKind.i64 ((↑k : Int) + (1 : Int))] (by kernel_rfl) (by kernel_rfl) (by kernel_rfl) ⟨(by simp; omega), (by omega), (by omega), (by omega), (by omega), (by assumption), inR64 (by omega) (by omega)⟩ ?_
      exact Wp.lpK (by kernel_rfl) (again _ (k + 1) ⟨(by assumption), (by assumption)⟩ (by omega) (Ent.of [] (by kernel_rfl) (by kernel_rfl) (by kernel_rfl) trivial))
  · rw [List.drop_of_length_le hge, List.all_nil] at hq
    have hm : tokenT s = decide ((s.length : Int) ≥ 1) := by
      unfold tokenT
      rw [hq, Bool.and_true]
      cases s with
      | nil => rfl
      | cons a r => simp; omega
    rw [hm]
    clear hm hq again
    refine Wp.go (mx := true) (fun _ => mixed) [] 100 [false] [decide ((↑k : Int) < (↑s.length : Int)) = false] (by kernel_rfl) (by kernel_rfl) (by kernel_rfl) (show decide ((↑k : Int) < (↑s.length : Int)) = false from (by simp; omega)) ?_
    refine Wp.ret' (by kernel_rfl) ?_
    exact FinQ.pure (rs' := [V1.c (Cell.bool (decide ((↑s.length : Int) ≥ (1 : Int))))]) (by kernel_rfl) rfl (by kernel_rfl)
theorem seen6_ok (s : List UInt8) (hl : s.length < 4611686018427387904) : Pur Tryz.prog G 77 [.c (.str s)] [.c (.bool (s.all seenB))] := by
  refine Pur.of Tryz.func77 (by kernel_rfl) (by kernel_rfl) (by kernel_rfl) ?_
  refine Wp.go (mx := true) (fun _ => mixed) [] 100 [] [] (by kernel_rfl) (by kernel_rfl) (by kernel_rfl) trivial ?_
  refine Wp.loopK (by kernel_rfl) (fun (k : Nat) => ⟨[(0, .v (.c (.str s))), (3, .v (.c (.int .i64 (k : Int))))], [], 32⟩) (fun k => k ≤ s.length ∧ s.all seenB = (s.drop k).all seenB) (fun k => s.length - k) 0 (Ent.of [] (by kernel_rfl) (by kernel_rfl) (by kernel_rfl) trivial) ⟨Nat.zero_le _, rfl⟩ ?_
  intro k L ⟨hk, hq⟩ again
  rcases Nat.lt_or_ge k s.length with hlt | hge
  · rw [dropS s k hlt, List.all_cons] at hq
    have hb : (bif decide (((s.getD k (0 : UInt8)).toNat : Int) < 32) then true else decide (((s.getD k (0 : UInt8)).toNat : Int) > 126)) = !seenB (s.getD k (0 : UInt8)) := by_fun (fun c => bif decide ((c.toNat : Int) < 32) then true else decide ((c.toNat : Int) > 126)) (fun c => !seenB c) (by kernel_rfl) (s.getD k (0 : UInt8))
    cases hg : seenB (s.getD k 0) with
    | false =>
      rw [hg] at hb hq
      have hb : (bif decide (((s.getD k (0 : UInt8)).toNat : Int) < 32) then true else decide (((s.getD k (0 : UInt8)).toNat : Int) > 126)) = true := hb
      rw [hq]
      clear again hq hg
      refine Wp.go (mx := true) (fun _ => mixed) [] 100 [true, true] [decide ((↑k : Int) < (↑s.length : Int)) = true, (0 : Int) ≤ (↑k : Int) ∧ (↑k : Int) < (↑s.length : Int), decide ((↑(s.getD k (0 : UInt8)).toNat : Int) < (32 : Int)) = false → (0 : Int) ≤ (↑k : Int) ∧ (↑k : Int) < (↑s.length : Int), (bif decide ((↑(s.getD k (0 : UInt8)).toNat : Int) < (32 : Int)) then true else decide ((↑(s.getD k (0 : UInt8)).toNat : Int) > (126 : Int))) = true] (by kernel_rfl) (by kernel_rfl) (by kernel_rfl) ⟨(by simp; omega), (by omega), (by omega), (show (bif decide ((↑(s.getD k (0 : UInt8)).toNat : Int) < (32 : Int)) then true else decide ((↑(s.getD k (0 : UInt8)).toNat : Int) > (126 : Int))) = true from (by assumption))⟩ ?_
      refine Wp.ret' (by kernel_rfl) ?_
      exact FinQ.pure (rs' := [V1.c (Cell.bool false)]) (by kernel_rfl) rfl (by kernel_rfl)
    | true =>
      rw [hg, Bool.true_and] at hq
      rw [hg] at hb
      have hb : (bif decide (((s.getD k (0 : UInt8)).toNat : Int) < 32) then true else decide (((s.getD k (0 : UInt8)).toNat : Int) > 126)) = false := hb
      clear hg
      refine Wp.go (mx := true) (fun _ => mixed) [] 100 [true, false] [decide ((↑k : Int) < (↑s.length : Int)) = true, (0 : Int) ≤ (↑k : Int) ∧ (↑k : Int) < (↑s.length : Int), decide ((↑(s.getD k (0 : UInt8)).toNat : Int) < (32 : Int)) = false → (0 : Int) ≤ (↑k : Int) ∧ (↑k : Int) < (↑s.length : Int), (bif decide ((↑(s.getD k (0 : UInt8)).toNat : Int) < (32 : Int)) then true else decide ((↑(s.getD k (0 : UInt8)).toNat : Int) > (126 : Int))) = false, inR IntKind.i64 ((↑k : Int) + (1 : Int))] (by kernel_rfl) (by kernel_rfl) (by kernel_rfl) ⟨(by simp; omega), (by omega), (by omega), (by assumption), inR64 (by omega) (by omega)⟩ ?_
      exact Wp.lpK (by kernel_rfl) (again _ (k + 1) ⟨(by assumption), (by assumption)⟩ (by omega) (Ent.of [] (by kernel_rfl) (by kernel_rfl) (by kernel_rfl) trivial))
  · rw [List.drop_of_length_le hge, List.all_nil] at hq
    rw [hq]
    clear hq again
    refine Wp.go (mx := true) (fun _ => mixed) [] 100 [false] [decide ((↑k : Int) < (↑s.length : Int)) = false] (by kernel_rfl) (by kernel_rfl) (by kernel_rfl) (show decide ((↑k : Int) < (↑s.length : Int)) = false from (by simp; omega)) ?_
    refine Wp.ret' (by kernel_rfl) ?_
    exact FinQ.pure (rs' := [V1.c (Cell.bool true)]) (by kernel_rfl) rfl (by kernel_rfl)
theorem great_p32 (c : UInt8) (h : greatB c = true) : IntKind.u8.wrap ((c.toNat : Int) + 32) = ((foldB c).toNat : Int) := by
  have : ∀ c : UInt8, (!(greatB c) || IntKind.u8.wrap ((c.toNat : Int) + 32) == ((foldB c).toNat : Int)) = true := byte_all _ (by kernel_rfl)
  have := this c
  rw [h] at this
  exact eq_of_beq this
theorem fold6_ok (s : List UInt8) (hl : s.length ≤ 140737488355328) : Pur Tryz.prog G 79 [.c (.str s)] [.c (.str (foldT s))] := by
  refine Pur.of Tryz.func79 (by kernel_rfl) (by kernel_rfl) (by kernel_rfl) ?_
  refine Wp.go (mx := true) (fun _ => mixed) [] 100 [] [s.length ≤ 140737488355328] (by kernel_rfl) (by kernel_rfl) (by kernel_rfl) hl ?_
  refine Wp.loopK (by kernel_rfl) (fun (k : Nat) => ⟨[(3, TV.v (V1.c (Cell.row (1 : Nat) (32 : Nat) (0 : Nat) s.length))), (4, TV.v (V1.c (Cell.int .i64 (k : Int))))], [(32, Blk.row 5 (1 : Nat) s.length (bytesF (foldN s k)))], 80⟩) (fun k => k ≤ s.length) (fun k => s.length - k) 0 (Ent.of [] (by kernel_rfl) (by kernel_rfl) (by kernel_rfl) trivial) (Nat.zero_le _) ?_
  intro k L hk again
  rcases Nat.lt_or_ge k s.length with hlt | hge
  · have e1 : EqvD (V1.c (Cell.int .u8 (((foldN s k).getD (0 + k) 0).toNat : Int))) (.c (.int .u8 ((s.getD k 0).toNat : Int))) := eqvD_of (by rw [Nat.zero_add, foldN_at s k hlt])
    have hb : (bif decide (((s.getD k (0 : UInt8)).toNat : Int) ≥ 65) then decide (((s.getD k (0 : UInt8)).toNat : Int) ≤ 90) else false) = greatB (s.getD k (0 : UInt8)) := by_fun (fun c => bif decide ((c.toNat : Int) ≥ 65) then decide ((c.toNat : Int) ≤ 90) else false) greatB (by kernel_rfl) (s.getD k (0 : UInt8))
    cases hg : greatB (s.getD k 0) with
    | true =>
      rw [hg] at hb
      have e2 : BlkEqv (.row 5 1 s.length (rowSet (bytesF (foldN s k)) (0 + k) 0 1 [.int .u8 (IntKind.u8.wrap (((s.getD k 0).toNat : Int) + 32))])) (.row 5 1 s.length (bytesF (foldN s (k + 1)))) := by
        rw [foldN_succ s k hlt]
        exact bytes_set _ _ (great_p32 _ hg) (by rw [foldN_len]; exact hlt)
      clear hg
      refine Wp.go (mx := true) (fun _ => mixed) [(5, {fm := [(3, .c (.int .u8 ((s.getD k 0).toNat : Int))), (9, .c (.int .u8 ((s.getD k 0).toNat : Int)))]}), (6, {fm := [(5, .c (.int .u8 ((s.getD k 0).toNat : Int)))], bs := [(8, Blk.row 5 1 s.length (bytesF (foldN s (k + 1))))]})] 100 [true, true] [decide ((↑k : Int) < (↑s.length : Int)) = true, (0 : Int) ≤ (↑k : Int) ∧ (↑k : Int) < (↑s.length : Int), (0 : Nat) + k < s.length, EqvD (V1.c (bytesF (foldN s k) ((0 : Nat) + k) (0 : Nat))) (V1.c (Cell.int .u8 (↑(s.getD k (0 : UInt8)).toNat : Int))), decide ((↑(s.getD k (0 : UInt8)).toNat : Int) ≥ (65 : Int)) = true → (0 : Int) ≤ (↑k : Int) ∧ (↑k : Int) < (↑s.length : Int), decide ((↑(s.getD k (0 : UInt8)).toNat : Int) ≥ (65 : Int)) = true → (0 : Nat) + k < s.length, decide ((↑(s.getD k (0 : UInt8)).toNat : Int) ≥ (65 : Int)) = true → EqvD (V1.c (bytesF (foldN s k) ((0 : Nat) + k) (0 : Nat))) (V1.c (Cell.int .u8 (↑(s.getD k (0 : UInt8)).toNat : Int))), (bif decide ((↑(s.getD k (0 : UInt8)).toNat : Int) ≥ (65 : Int)) then decide ((↑(s.getD k (0 : UInt8)).toNat : Int) ≤ (90 : Int)) else false) = true, (0 : Int) ≤ (↑k : Int) ∧ (↑k : Int) < (↑s.length : Int), (0 : Nat) + k < s.length, EqvD (V1.c (bytesF (foldN s k) ((0 : Nat) + k) (0 : Nat))) (V1.c (Cell.int .u8 (↑(s.getD k (0 : UInt8)).toNat : Int))), (0 : Int) ≤ (↑k : Int) ∧ (↑k : Int) < (↑s.length : Int), BlkEqv (Blk.row 5 (1 : Nat) s.length fun (i j : Nat) => if i = (0 : Nat) + k ∧ (0 : Nat) ≤ j ∧ j < (1 : Nat) then nthD (V1.c (Cell.int .u8 (IntKind.u8.wrap ((↑(s.getD k (0 : UInt8)).toNat : Int) + (32 : Int))))).cells (j - (0 : Nat)) else bytesF (foldN s k) i j) (Blk.row 5 (1 : Nat) s.length (bytesF (foldN s (k + (1 : Nat))))), (0 : Nat) + k < s.length, inR IntKind.i64 ((↑k : Int) + (1 : Int))] (by kernel_rfl) (by kernel_rfl) (by kernel_rfl) ⟨(by simp; omega), (by omega), (by omega), (by assumption), (by omega), (by omega), (by intro _; assumption), (by assumption), (by omega), (by omega), (by assumption), (by omega), (by assumption), (by omega), inR64 (by omega) (by omega)⟩ ?_
      exact Wp.lpK (by kernel_rfl) (again _ (k + 1) (by assumption) (by omega) (Ent.of [] (by kernel_rfl) (by kernel_rfl) (by kernel_rfl) trivial))
    | false =>
      rw [hg] at hb
      have e3 : foldN s k = foldN s (k + 1) := by
        rw [foldN_succ s k hlt, ← foldN_at s k hlt, foldB, foldN_at s k hlt, if_neg (by rw [hg]; decide), ← foldN_at s k hlt]
        rw [List.getD_eq_getElem?_getD, List.getElem?_eq_getElem (by rw [foldN_len]; exact hlt)]
        simp
      rw [e3] at e1 ⊢
      clear hg
      refine Wp.go (mx := true) (fun _ => mixed) [(5, {fm := [(3, .c (.int .u8 ((s.getD k 0).toNat : Int))), (9, .c (.int .u8 ((s.getD k 0).toNat : Int)))]})] 100 [true, false] [decide ((↑k : Int) < (↑s.length : Int)) = true, (0 : Int) ≤ (↑k : Int) ∧ (↑k : Int) < (↑s.length : Int), (0 : Nat) + k < s.length, EqvD (V1.c (bytesF (foldN s (k + (1 : Nat))) ((0 : Nat) + k) (0 : Nat))) (V1.c (Cell.int .u8 (↑(s.getD k (0 : UInt8)).toNat : Int))), decide ((↑(s.getD k (0 : UInt8)).toNat : Int) ≥ (65 : Int)) = true → (0 : Int) ≤ (↑k : Int) ∧ (↑k : Int) < (↑s.length : Int), decide ((↑(s.getD k (0 : UInt8)).toNat : Int) ≥ (65 : Int)) = true → (0 : Nat) + k < s.length, decide ((↑(s.getD k (0 : UInt8)).toNat : Int) ≥ (65 : Int)) = true → EqvD (V1.c (bytesF (foldN s (k + (1 : Nat))) ((0 : Nat) + k) (0 : Nat))) (V1.c (Cell.int .u8 (↑(s.getD k (0 : UInt8)).toNat : Int))), (bif decide ((↑(s.getD k (0 : UInt8)).toNat : Int) ≥ (65 : Int)) then decide ((↑(s.getD k (0 : UInt8)).toNat : Int) ≤ (90 : Int)) else false) = false, inR IntKind.i64 ((↑k : Int) + (1 : Int))] (by kernel_rfl) (by kernel_rfl) (by kernel_rfl) ⟨(by simp; omega), (by omega), (by omega), (by assumption), (by omega), (by omega), (by intro _; assumption), (by assumption), inR64 (by omega) (by omega)⟩ ?_
      exact Wp.lpK (by kernel_rfl) (again _ (k + 1) (by assumption) (by omega) (Ent.of [] (by kernel_rfl) (by kernel_rfl) (by kernel_rfl) trivial))
  · obtain rfl : k = s.length := by omega
    have ee : byteL (bytesF (foldN s s.length)) 0 s.length = foldT s := by rw [byteL_F _ (by rw [foldN_len]), foldN_end]
    have ea : areBytes (bytesF (foldN s s.length)) 0 s.length := areBytes_F _ _ _
    clear again
    refine Wp.go (mx := true) (fun _ => mixed) [] 100 [false] [decide ((↑s.length : Int) < (↑s.length : Int)) = false, (0 : Nat) + s.length ≤ s.length, areBytes (bytesF (foldN s s.length)) (0 : Nat) s.length] (by kernel_rfl) (by kernel_rfl) (by kernel_rfl) ⟨(by simp; done), (by omega), (show areBytes (bytesF (foldN s s.length)) (0 : Nat) s.length from (by assumption))⟩ ?_
    refine Wp.ret' (by kernel_rfl) ?_
    exact FinQ.pure (rs' := [V1.c (Cell.str (byteL (bytesF (foldN s s.length)) (0 : Nat) s.length))]) (by kernel_rfl) (by simp only [Int.ofNat_eq_natCast, Int.toNat_natCast, List.take_length, List.drop_zero, *]) (by kernel_rfl)
theorem lines_pos (s : List UInt8) : 1 ≤ (linesH s).length := List.length_pos_iff.2 (splitK_nil _ _ _)
end Go.Proofs.Tw
end

section
open Go Go.Sv Go.RowKit
namespace Go.Proofs.Tw
attribute [local irreducible] Wp FinQ resV Ent Pur Go.Sv.Fn Sat0
set_option maxRecDepth 100000
set_option maxHeartbeats 4000000
variable {G : Nat → Option (List Cell)}

theorem cut_none {s p : List UInt8} (h : (Lib.cut s p).2.2 = false) : (Lib.cut s p).1 = s ∧ (Lib.cut s p).2.1 = [] := by
  unfold Lib.cut at h ⊢
  split at h
  · cases h
  · rename_i hh
    rw [if_neg hh]
    exact ⟨rfl, rfl⟩
def httpV : List UInt8 := [72, 84, 84, 80, 47, 49, 46, 49]
def ask13 (s : List UInt8) : Bool := (Lib.cut s [32]).2.2 && ((Lib.cut (Lib.cut s [32]).2.1 [32]).2.2 && (((Lib.cut (Lib.cut s [32]).2.1 [32]).2.1 == httpV) && (methT (Lib.cut s [32]).1 && targT (Lib.cut (Lib.cut s [32]).2.1 [32]).1)))
theorem tg_32 {t : List UInt8} (h : t.all tgB = true) : (32 : UInt8) ∉ t := by
  intro hc
  rw [List.all_eq_true] at h
  have := h _ hc
  revert this
  decide
theorem ask13_to {s : List UInt8} (h : askB s = true) : ask13 s = true := by
  unfold askB linedT at h
  simp only [Bool.and_eq_true] at h
  obtain ⟨h1, h2, h3⟩ := h
  have e := suf_true h1
  have h32 : (32 : UInt8) ∉ askT s := tg_32 (by unfold targT at h3; simp only [Bool.and_eq_true] at h3; exact h3.1)
  have hc : Lib.cut (Lib.cut s [32]).2.1 [32] = (askT s, httpV, true) := by
    have := cut_at (askT s) httpV [] 32 h32
    rw [← this]
    congr 1
    rw [List.append_assoc]
    exact e
  have hi : (Lib.cut s [32]).2.2 = true := by
    cases hh : (Lib.cut s [32]).2.2 with
    | true => rfl
    | false =>
      rw [(cut_none hh).2] at e
      have := congrArg List.length e
      simp at this
  unfold ask13
  rw [hc, hi]
  unfold askM at h2
  rw [h2]
  simp only [Bool.true_and, Bool.and_eq_true]
  exact ⟨by simp, h3⟩
theorem dig_32 {t : List UInt8} (h : t.all digitB = true) : (32 : UInt8) ∉ t := by
  intro hc
  rw [List.all_eq_true] at h
  have := h _ hc
  revert this
  decide
theorem num_len3 {t : List UInt8} (h : numK 3 t = true) (hn : 100 ≤ nv t) : t.length = 3 := by
  unfold numK canonB at h
  simp only [Bool.and_eq_true, decide_eq_true_eq] at h
  obtain ⟨h1, h2, h3⟩ := h
  rcases Nat.lt_or_ge t.length 3 with hlt | hge
  · have := nv_lt 2 t (by omega) h2
    omega
  · omega
theorem dig_seen {t : List UInt8} (h : t.all digitB = true) : t.all seenB = true := by
  rw [List.all_eq_true] at h ⊢
  intro c hc
  have : ∀ c : UInt8, (!digitB c || seenB c) = true := byte_all _ (by kernel_rfl)
  have := this c
  rw [h c hc] at this
  simpa using this
theorem tell_parts {s : List UInt8} (h : tellB s = true) : s = verS ++ ((tellC s).1 ++ ([32] ++ (tellC s).2.1)) ∧ (tellC s).1.length = 3 ∧ numK 3 (tellC s).1 = true ∧ (tellC s).2.1.all seenB = true ∧ 100 ≤ nv (tellC s).1 ∧ nv (tellC s).1 ≤ 599 := by
  unfold tellB at h
  simp only [Bool.and_eq_true] at h
  obtain ⟨h1, h2, h3, h4, h5⟩ := h
  have hn : tellN s = ((nv (tellC s).1 : Nat) : Int) := by unfold tellN; rw [h3, if_pos rfl]
  rw [hn] at h4
  unfold statedT at h4
  rw [Bool.cond_false_right, Bool.and_eq_true, decide_eq_true_eq, decide_eq_true_eq] at h4
  have hl := num_len3 h3 (by omega)
  obtain ⟨t, ht⟩ := List.isPrefixOf_iff_prefix.1 h1
  have e1 : Lib.trimPrefix s verS = t := by
    unfold Lib.trimPrefix
    rw [if_pos h1, ← ht, List.drop_left]
  have e2 : Lib.trimPrefix s verS = (tellC s).1 ++ [32] ++ (tellC s).2.1 := cut_true (p := [32]) h2
  have e3 : t = (tellC s).1 ++ ([32] ++ (tellC s).2.1) := by
    rw [e1] at e2
    rw [← List.append_assoc]
    exact e2
  exact ⟨by rw [← e3, ht], hl, h3, h5, by omega, by omega⟩
end Go.Proofs.Tw
end

section
open Go Go.Sv Go.RowKit
namespace Go.Proofs.Tw
attribute [local irreducible] Wp FinQ resV Ent Pur Go.Sv.Fn Sat0
set_option maxRecDepth 100000
set_option maxHeartbeats 4000000
variable {G : Nat → Option (List Cell)}

theorem filter_none {l : List FT} (h : fGet l clN = none) : l.filter notCl = l := by
  rw [List.filter_eq_self]
  intro f hf
  unfold notCl
  cases hc : f.name == clN with
  | false => rfl
  | true =>
    have : (fGet l clN).isSome = true := by rw [← fGet_con, List.contains_iff_mem]; exact List.mem_map.2 ⟨f, hf, eq_of_beq hc⟩
    rw [h] at this
    cases this
end Go.Proofs.Tw
end

section
open Go Go.Sv Go.RowKit
namespace Go.Proofs.Tw
attribute [local irreducible] Wp FinQ resV Ent Pur Go.Sv.Fn Sat0
set_option maxRecDepth 100000
set_option maxHeartbeats 4000000
variable {G : Nat → Option (List Cell)}

def sameQ (a b : QT) : Bool := cond (cond (cond (a.method == b.method) (a.target == b.target) false) (sameF a.head b.head) false) (a.body == b.body) false
theorem sameQ_ok (a b : QT) (ha : a.head.length < 4611686018427387904) : Pur Tryz.prog G 13 [.agg (encQ a), .agg (encQ b)] [.c (.bool (sameQ a b))] := by
  refine Pur.of Tryz.func13 (by kernel_rfl) (by kernel_rfl) (by kernel_rfl) ?_
  have c := same_ok (G := G) a.head b.head ha
  unfold sameQ
  refine Wp.go (mx := true) (fun _ => mixed) [(1, {cs := [(17, pc c)]})] 100 [] [] (by kernel_rfl) (by kernel_rfl) (by kernel_rfl) trivial ?_
  refine Wp.ret' (by kernel_rfl) ?_
  exact FinQ.pure (rs' := [V1.c (Cell.bool (bif bif bif a.method == b.method then a.target == b.target else false then sameF a.head b.head else false then a.body == b.body else false))]) (by kernel_rfl) rfl (by kernel_rfl)
theorem sameQ_refl (a : QT) : sameQ a a = true := by unfold sameQ; rw [sameF_refl]; simp
end Go.Proofs.Tw
end

section
open Go Go.Sv Go.RowKit
namespace Go.Proofs.Tw
attribute [local irreducible] Wp FinQ resV Ent Pur Go.Sv.Fn Sat0
set_option maxRecDepth 100000
set_option maxHeartbeats 4000000
variable {G : Nat → Option (List Cell)}

def askedM (r : QT) : MT := ⟨r.method ++ [32] ++ r.target ++ [32] ++ httpV, r.head, r.body⟩
theorem asked_ok (r : QT) (h1 : r.method.length < 1000000000) (h2 : r.target.length < 1000000000) : Pur Tryz.prog G 51 [.agg (encQ r)] [.agg (encM (askedM r) ++ encQ r)] := by
  refine Pur.of Tryz.func51 (by kernel_rfl) (by kernel_rfl) (by kernel_rfl) ?_
  have q1 : r.method.length + 1 ≤ 9223372036854775807 := by omega
  have q2 : (r.method ++ [32]).length + r.target.length ≤ 9223372036854775807 := by simp; omega
  have q3 : (r.method ++ [32] ++ r.target).length + 1 ≤ 9223372036854775807 := by simp; omega
  have q4 : (r.method ++ [32] ++ r.target ++ [32]).length + 8 ≤ 9223372036854775807 := by simp; omega
  refine Wp.go (mx := true) (fun _ => mixed) [] 100 [] [r.method.length + (1 : Nat) ≤ (9223372036854775807 : Nat), (r.method ++ [(32 : UInt8)]).length + r.target.length ≤ (9223372036854775807 : Nat), (r.method ++ [(32 : UInt8)] ++ r.target).length + (1 : Nat) ≤ (9223372036854775807 : Nat), (r.method ++ [(32 : UInt8)] ++ r.target ++ [(32 : UInt8)]).length + (8 : Nat) ≤ (9223372036854775807 : Nat)] (by kernel_rfl) (by kernel_rfl) (by kernel_rfl) ⟨(by assumption), (by assumption), (by assumption), (show (r.method ++ [(32 : UInt8)] ++ r.target ++ [(32 : UInt8)]).length + (8 : Nat) ≤ (9223372036854775807 : Nat) from (by assumption))⟩ ?_
  refine Wp.ret' (by kernel_rfl) ?_
  exact FinQ.pure (rs' := [V1.agg [Cell.str (r.method ++ [(32 : UInt8)] ++ r.target ++ [(32 : UInt8)] ++ [(72 : UInt8), 84, 84, 80, 47, 49, 46, 49]), Cell.sl (2 : Nat) r.head.length fun (i j : Nat) => nthD (encF (r.head.getD i FT.nil)) j, Cell.str r.body, Cell.str r.method, Cell.str r.target, Cell.sl (2 : Nat) r.head.length fun (i j : Nat) => nthD (encF (r.head.getD i FT.nil)) j, Cell.str r.body]]) (by kernel_rfl) rfl (by kernel_rfl)
def mayAskT (r : QT) : Bool := bif linedT r.method r.target then mayM (askedM r) else false
structure FitQ (r : QT) : Prop where
  h1 : r.method.length < 1000000000
  h2 : r.target.length < 1000000000
  h3 : FitM (askedM r)
theorem mayAsk_ok (hp : HasPow G) (r : QT) (h : FitQ r) : Pur Tryz.prog G 17 [.agg (encQ r)] [.c (.bool (mayAskT r))] := by
  refine Pur.of Tryz.func17 (by kernel_rfl) (by kernel_rfl) (by kernel_rfl) ?_
  have c1 := lined_ok (G := G) r.method r.target (Nat.lt_trans h.h1 (by decide)) (Nat.lt_trans h.h2 (by decide))
  have c2 := asked_ok (G := G) r h.h1 h.h2
  have c3 := mayM_ok hp (askedM r) h.h3
  unfold mayAskT
  refine Wp.go (mx := true) (fun _ => mixed) [(1, {cs := [(4, pc c1), (7, pc c2), (9, pc c3)]})] 100 [] [] (by kernel_rfl) (by kernel_rfl) (by kernel_rfl) trivial ?_
  refine Wp.ret' (by kernel_rfl) ?_
  exact FinQ.pure (rs' := [V1.c (Cell.bool (bif linedT r.method r.target then mayM (askedM r) else false))]) (by kernel_rfl) rfl (by kernel_rfl)
def printAskT (r : QT) : List UInt8 := if mayAskT r then aheadT (askedM r) ++ r.body else []
theorem printAsk_ok (hp : HasPow G) (r : QT) (h : FitQ r) : Pur Tryz.prog G 19 [.agg (encQ r)] [.c (.str (printAskT r))] := by
  refine Pur.of Tryz.func19 (by kernel_rfl) (by kernel_rfl) (by kernel_rfl) ?_
  have c1 := mayAsk_ok hp r h
  have c2 := asked_ok (G := G) r h.h1 h.h2
  have c3 : Pur Tryz.prog G 58 [.agg (encM (askedM r))] [.c (.str (aheadT (askedM r) ++ r.body))] := printM_ok hp (askedM r) h.h3
  unfold printAskT
  generalize aheadT (askedM r) ++ r.body = S at c3 ⊢
  cases hm : mayAskT r with
  | true =>
    rw [if_pos rfl]
    rw [hm] at c1
    clear hm
    refine Wp.go (mx := true) (fun _ => mixed) [(1, {cs := [(1, pc c1)]}), (3, {cs := [(1, pc c2), (3, pc c3)]})] 100 [false] [(!true) = false] (by kernel_rfl) (by kernel_rfl) (by kernel_rfl) rfl ?_
    refine Wp.ret' (by kernel_rfl) ?_
    exact FinQ.pure (rs' := [V1.c (Cell.str S)]) (by kernel_rfl) rfl (by kernel_rfl)
  | false =>
    rw [if_neg (by decide)]
    rw [hm] at c1
    clear hm
    refine Wp.go (mx := true) (fun _ => mixed) [(1, {cs := [(1, pc c1)]})] 100 [true] [(!false) = true] (by kernel_rfl) (by kernel_rfl) (by kernel_rfl) rfl ?_
    refine Wp.ret' (by kernel_rfl) ?_
    exact FinQ.pure (rs' := [V1.c (Cell.str [])]) (by kernel_rfl) rfl (by kernel_rfl)
theorem mayTell_any (hp : HasPow G) (r : RT) (h : 0 ≤ r.status → r.status ≤ 1000 → FitM (toldM r)) : Pur Tryz.prog G 21 [.agg (encT r)] [.c (.bool (mayTell r))] := by
  cases hs : statedT r.status with
  | true =>
    have hs' := hs
    unfold statedT at hs'
    rw [Bool.cond_false_right, Bool.and_eq_true, decide_eq_true_eq, decide_eq_true_eq] at hs'
    exact mayTell_ok hp r (by omega) (by omega) (h (by omega) (by omega))
  | false =>
    refine Pur.of Tryz.func21 (by kernel_rfl) (by kernel_rfl) (by kernel_rfl) ?_
    have c := stated_ok (G := G) r.status
    rw [show mayTell r = false from by unfold mayTell; rw [hs]; rfl]
    rw [hs] at c
    clear hs
    refine Wp.go (mx := true) (fun _ => mixed) [(1, {grd := [(4, false), (5, false), (6, false), (7, false), (8, false)], cs := [(2, pc c)]})] 100 [] [false = !true, false = !true, false = !true, false = !true, false = false] (by kernel_rfl) (by kernel_rfl) (by kernel_rfl) ⟨rfl, rfl, rfl, rfl, rfl⟩ ?_
    refine Wp.ret' (by kernel_rfl) ?_
    exact FinQ.pure (rs' := [V1.c (Cell.bool false)]) (by kernel_rfl) rfl (by kernel_rfl)
theorem printTell_any (hp : HasPow G) (r : RT) (h : 0 ≤ r.status → r.status ≤ 1000 → FitM (toldM r)) : Pur Tryz.prog G 23 [.agg (encT r)] [.c (.str (printTell r))] := by
  cases hs : statedT r.status with
  | true =>
    have hs' := hs
    unfold statedT at hs'
    rw [Bool.cond_false_right, Bool.and_eq_true, decide_eq_true_eq, decide_eq_true_eq] at hs'
    exact printTell_ok hp r (by omega) (by omega) (h (by omega) (by omega))
  | false =>
    refine Pur.of Tryz.func23 (by kernel_rfl) (by kernel_rfl) (by kernel_rfl) ?_
    have c := mayTell_any hp r h
    have hm : mayTell r = false := by unfold mayTell; rw [hs]; rfl
    rw [show printTell r = [] from by unfold printTell; rw [hm]; rfl]
    rw [hm] at c
    clear hs hm
    refine Wp.go (mx := true) (fun _ => mixed) [(1, {cs := [(1, pc c)]})] 100 [true] [(!false) = true] (by kernel_rfl) (by kernel_rfl) (by kernel_rfl) rfl ?_
    refine Wp.ret' (by kernel_rfl) ?_
    exact FinQ.pure (rs' := [V1.c (Cell.str [])]) (by kernel_rfl) rfl (by kernel_rfl)
def okF (f : FT) : Bool := tokenT f.name && ((foldT f.name == f.name) && (!(f.name == clN) && f.value.all seenB))
def mostT (b : List UInt8) : Int := if b == [] then 24 else 23
def headT (l : List FT) (b : List UInt8) : Bool := l.all okF && (decide ((l.length : Int) ≤ mostT b) && (unlikeQ l && decide ((b.length : Int) ≤ 4096)))
theorem okF_b (t f c s : Bool) : (bif bif bif !t then true else !f then true else c then true else !s) = !(t && (f && (!c && s))) := by
  cases t <;> cases f <;> cases c <;> cases s <;> rfl
theorem head13_ok (l : List FT) (b : List UInt8) (hl : l.length < 1000000000) (hs : ∀ f ∈ l, f.name.length < 1000000000 ∧ f.value.length < 1000000000) : Pur Tryz.prog G 55 [.c (encH l), .c (.str b)] [.c (.bool (headT l b))] := by
  refine Pur.of Tryz.func55 (by kernel_rfl) (by kernel_rfl) (by kernel_rfl) ?_
  have c0 := unlike10_ok (G := G) l (by omega)
  cases hbe : b == [] with
  | true =>
    have ht : (!(b == [])) = false := by rw [hbe]; rfl
    have hm : mostT b = 24 := by unfold mostT; rw [if_pos hbe]
    refine Wp.go (mx := true) (fun _ => mixed) [] 100 [false] [(!b == []) = false] (by kernel_rfl) (by kernel_rfl) (by kernel_rfl) ht ?_
    refine Wp.loopK (by kernel_rfl) (fun (k : Nat) => ⟨[(0, .v (.c (encH l))), (1, .v (.c (.str b))), (5, .v (.c (.int .i64 24))), (6, .v (.c (.int .i64 (k : Int))))], [], 80⟩) (fun k => k ≤ l.length ∧ l.all okF = (l.drop k).all okF) (fun k => l.length - k) 0 (Ent.of [] (by kernel_rfl) (by kernel_rfl) (by kernel_rfl) trivial) ⟨Nat.zero_le _, rfl⟩ ?_
    intro k L ⟨hk, hq⟩ again
    rcases Nat.lt_or_ge k l.length with hlt | hge
    · rw [dropM l .nil k hlt, List.all_cons] at hq
      have hmem : l.getD k .nil ∈ l := by simp [List.getD, hlt]
      obtain ⟨s1, s2⟩ := hs _ hmem
      have c1 := token6_ok (G := G) (l.getD k .nil).name (by omega)
      have c2 := fold6_ok (G := G) (l.getD k .nil).name (by omega)
      have c3 := seen6_ok (G := G) (l.getD k .nil).value (by omega)
      have hb := okF_b (tokenT (l.getD k .nil).name) (foldT (l.getD k .nil).name == (l.getD k .nil).name) ((l.getD k .nil).name == clN) ((l.getD k .nil).value.all seenB)
      cases ho : okF (l.getD k .nil) with
      | true =>
        rw [ho, Bool.true_and] at hq
        unfold okF at ho
        rw [ho] at hb
        have hb : (bif bif bif !tokenT (l.getD k .nil).name then true else !(foldT (l.getD k .nil).name == (l.getD k .nil).name) then true else ((l.getD k .nil).name == clN) then true else !((l.getD k .nil).value.all seenB)) = false := hb
        clear ho
        refine Wp.go (mx := true) (fun _ => mixed) [(7, {cs := [(5, pc c1), (13, pc c2), (35, pc c3)]})] 100 [true, false] [decide ((↑k : Int) < (↑l.length : Int)) = true, (0 : Int) ≤ (↑k : Int) ∧ (↑k : Int) < (↑l.length : Int), (!tokenT (l.getD k FT.nil).name) = false → (0 : Int) ≤ (↑k : Int) ∧ (↑k : Int) < (↑l.length : Int), (!tokenT (l.getD k FT.nil).name) = false → (0 : Int) ≤ (↑k : Int) ∧ (↑k : Int) < (↑l.length : Int), (bif !tokenT (l.getD k FT.nil).name then true else !foldT (l.getD k FT.nil).name == (l.getD k FT.nil).name) = false → (0 : Int) ≤ (↑k : Int) ∧ (↑k : Int) < (↑l.length : Int), (bif bif !tokenT (l.getD k FT.nil).name then true else !foldT (l.getD k FT.nil).name == (l.getD k FT.nil).name then true else (l.getD k FT.nil).name == [(99 : UInt8), 111, 110, 116, 101, 110, 116, 45, 108, 101, 110, 103, 116, 104]) = false → (0 : Int) ≤ (↑k : Int) ∧ (↑k : Int) < (↑l.length : Int), (bif bif bif !tokenT (l.getD k FT.nil).name then true else !foldT (l.getD k FT.nil).name == (l.getD k FT.nil).name then true else (l.getD k FT.nil).name == [(99 : UInt8), 111, 110, 116, 101, 110, 116, 45, 108, 101, 110, 103, 116, 104] then true else !(l.getD k FT.nil).value.all seenB) = false, inR IntKind.i64 ((↑k : Int) + (1 : Int))] (by kernel_rfl) (by kernel_rfl) (by kernel_rfl) ⟨(by simp; omega), (by omega), (by omega), (by omega), (by omega), (by omega), (by assumption), inR64 (by omega) (by omega)⟩ ?_
        exact Wp.lpK (by kernel_rfl) (again _ (k + 1) ⟨(by assumption), (by assumption)⟩ (by omega) (Ent.of [] (by kernel_rfl) (by kernel_rfl) (by kernel_rfl) trivial))
      | false =>
        rw [ho, Bool.false_and] at hq
        unfold okF at ho
        rw [ho] at hb
        have hb : (bif bif bif !tokenT (l.getD k .nil).name then true else !(foldT (l.getD k .nil).name == (l.getD k .nil).name) then true else ((l.getD k .nil).name == clN) then true else !((l.getD k .nil).value.all seenB)) = true := hb
        rw [show headT l b = false from by unfold headT; rw [hq]; rfl]
        clear ho hq again
        refine Wp.go (mx := true) (fun _ => mixed) [(7, {cs := [(5, pc c1), (13, pc c2), (35, pc c3)]})] 100 [true, true] [decide ((↑k : Int) < (↑l.length : Int)) = true, (0 : Int) ≤ (↑k : Int) ∧ (↑k : Int) < (↑l.length : Int), (!tokenT (l.getD k FT.nil).name) = false → (0 : Int) ≤ (↑k : Int) ∧ (↑k : Int) < (↑l.length : Int), (!tokenT (l.getD k FT.nil).name) = false → (0 : Int) ≤ (↑k : Int) ∧ (↑k : Int) < (↑l.length : Int), (bif !tokenT (l.getD k FT.nil).name then true else !foldT (l.getD k FT.nil).name == (l.getD k FT.nil).name) = false → (0 : Int) ≤ (↑k : Int) ∧ (↑k : Int) < (↑l.length : Int), (bif bif !tokenT (l.getD k FT.nil).name then true else !foldT (l.getD k FT.nil).name == (l.getD k FT.nil).name then true else (l.getD k FT.nil).name == [(99 : UInt8), 111, 110, 116, 101, 110, 116, 45, 108, 101, 110, 103, 116, 104]) = false → (0 : Int) ≤ (↑k : Int) ∧ (↑k : Int) < (↑l.length : Int), (bif bif bif !tokenT (l.getD k FT.nil).name then true else !foldT (l.getD k FT.nil).name == (l.getD k FT.nil).name then true else (l.getD k FT.nil).name == [(99 : UInt8), 111, 110, 116, 101, 110, 116, 45, 108, 101, 110, 103, 116, 104] then true else !(l.getD k FT.nil).value.all seenB) = true] (by kernel_rfl) (by kernel_rfl) (by kernel_rfl) ⟨(by simp; omega), (by omega), (by omega), (by omega), (by omega), (by omega), (show (bif bif bif !tokenT (l.getD k FT.nil).name then true else !foldT (l.getD k FT.nil).name == (l.getD k FT.nil).name then true else (l.getD k FT.nil).name == [(99 : UInt8), 111, 110, 116, 101, 110, 116, 45, 108, 101, 110, 103, 116, 104] then true else !(l.getD k FT.nil).value.all seenB) = true from (by assumption))⟩ ?_
        refine Wp.ret' (by kernel_rfl) ?_
        exact FinQ.pure (rs' := [V1.c (Cell.bool false)]) (by kernel_rfl) rfl (by kernel_rfl)
    · rw [List.drop_of_length_le hge, List.all_nil] at hq
      rw [show headT l b = (bif bif decide ((l.length : Int) ≤ 24) then unlikeQ l else false then decide ((b.length : Int) ≤ 4096) else false) from by unfold headT; rw [hq, hm]; cases decide ((l.length : Int) ≤ 24) <;> cases unlikeQ l <;> rfl]
      clear hq again
      refine Wp.go (mx := true) (fun _ => mixed) [(9, {cs := [(6, pc c0)]})] 100 [false] [decide ((↑k : Int) < (↑l.length : Int)) = false] (by kernel_rfl) (by kernel_rfl) (by kernel_rfl) (show decide ((↑k : Int) < (↑l.length : Int)) = false from (by simp; omega)) ?_
      refine Wp.ret' (by kernel_rfl) ?_
      exact FinQ.pure (rs' := [V1.c (Cell.bool (bif bif decide ((↑l.length : Int) ≤ (24 : Int)) then unlikeQ l else false then decide ((↑b.length : Int) ≤ (4096 : Int)) else false))]) (by kernel_rfl) rfl (by kernel_rfl)
  | false =>
    have ht : (!(b == [])) = true := by rw [hbe]; rfl
    have hm : mostT b = 23 := by unfold mostT; rw [hbe]; rfl
    refine Wp.go (mx := true) (fun _ => mixed) [] 100 [true] [(!b == []) = true, inR IntKind.i64 ((24 : Int) - (1 : Int))] (by kernel_rfl) (by kernel_rfl) (by kernel_rfl) ⟨ht, inR64 (by decide) (by decide)⟩ ?_
    refine Wp.loopK (by kernel_rfl) (fun (k : Nat) => ⟨[(0, .v (.c (encH l))), (1, .v (.c (.str b))), (5, .v (.c (.int .i64 ((24 : Int) - 1)))), (6, .v (.c (.int .i64 (k : Int))))], [], 128⟩) (fun k => k ≤ l.length ∧ l.all okF = (l.drop k).all okF) (fun k => l.length - k) 0 (Ent.of [] (by kernel_rfl) (by kernel_rfl) (by kernel_rfl) trivial) ⟨Nat.zero_le _, rfl⟩ ?_
    intro k L ⟨hk, hq⟩ again
    rcases Nat.lt_or_ge k l.length with hlt | hge
    · rw [dropM l .nil k hlt, List.all_cons] at hq
      have hmem : l.getD k .nil ∈ l := by simp [List.getD, hlt]
      obtain ⟨s1, s2⟩ := hs _ hmem
      have c1 := token6_ok (G := G) (l.getD k .nil).name (by omega)
      have c2 := fold6_ok (G := G) (l.getD k .nil).name (by omega)
      have c3 := seen6_ok (G := G) (l.getD k .nil).value (by omega)
      have hb := okF_b (tokenT (l.getD k .nil).name) (foldT (l.getD k .nil).name == (l.getD k .nil).name) ((l.getD k .nil).name == clN) ((l.getD k .nil).value.all seenB)
      cases ho : okF (l.getD k .nil) with
      | true =>
        rw [ho, Bool.true_and] at hq
        unfold okF at ho
        rw [ho] at hb
        have hb : (bif bif bif !tokenT (l.getD k .nil).name then true else !(foldT (l.getD k .nil).name == (l.getD k .nil).name) then true else ((l.getD k .nil).name == clN) then true else !((l.getD k .nil).value.all seenB)) = false := hb
        clear ho
        refine Wp.go (mx := true) (fun _ => mixed) [(7, {cs := [(5, pc c1), (13, pc c2), (35, pc c3)]})] 100 [true, false] [decide ((↑k : Int) < (↑l.length : Int)) = true, (0 : Int) ≤ (↑k : Int) ∧ (↑k : Int) < (↑l.length : Int), (!tokenT (l.getD k FT.nil).name) = false → (0 : Int) ≤ (↑k : Int) ∧ (↑k : Int) < (↑l.length : Int), (!tokenT (l.getD k FT.nil).name) = false → (0 : Int) ≤ (↑k : Int) ∧ (↑k : Int) < (↑l.length : Int), (bif !tokenT (l.getD k FT.nil).name then true else !foldT (l.getD k FT.nil).name == (l.getD k FT.nil).name) = false → (0 : Int) ≤ (↑k : Int) ∧ (↑k : Int) < (↑l.length : Int), (bif bif !tokenT (l.getD k FT.nil).name then true else !foldT (l.getD k FT.nil).name == (l.getD k FT.nil).name then true else (l.getD k FT.nil).name == [(99 : UInt8), 111, 110, 116, 101, 110, 116, 45, 108, 101, 110, 103, 116, 104]) = false → (0 : Int) ≤ (↑k : Int) ∧ (↑k : Int) < (↑l.length : Int), (bif bif bif !tokenT (l.getD k FT.nil).name then true else !foldT (l.getD k FT.nil).name == (l.getD k FT.nil).name then true else (l.getD k FT.nil).name == [(99 : UInt8), 111, 110, 116, 101, 110, 116, 45, 108, 101, 110, 103, 116, 104] then true else !(l.getD k FT.nil).value.all seenB) = false, inR IntKind.i64 ((↑k : Int) + (1 : Int))] (by kernel_rfl) (by kernel_rfl) (by kernel_rfl) ⟨(by simp; omega), (by omega), (by omega), (by omega), (by omega), (by omega), (by assumption), inR64 (by omega) (by omega)⟩ ?_
        exact Wp.lpK (by kernel_rfl) (again _ (k + 1) ⟨(by assumption), (by assumption)⟩ (by omega) (Ent.of [] (by kernel_rfl) (by kernel_rfl) (by kernel_rfl) trivial))
      | false =>
        rw [ho, Bool.false_and] at hq
        unfold okF at ho
        rw [ho] at hb
        have hb : (bif bif bif !tokenT (l.getD k .nil).name then true else !(foldT (l.getD k .nil).name == (l.getD k .nil).name) then true else ((l.getD k .nil).name == clN) then true else !((l.getD k .nil).value.all seenB)) = true := hb
        rw [show headT l b = false from by unfold headT; rw [hq]; rfl]
        clear ho hq again
        refine Wp.go (mx := true) (fun _ => mixed) [(7, {cs := [(5, pc c1), (13, pc c2), (35, pc c3)]})] 100 [true, true] [decide ((↑k : Int) < (↑l.length : Int)) = true, (0 : Int) ≤ (↑k : Int) ∧ (↑k : Int) < (↑l.length : Int), (!tokenT (l.getD k FT.nil).name) = false → (0 : Int) ≤ (↑k : Int) ∧ (↑k : Int) < (↑l.length : Int), (!tokenT (l.getD k FT.nil).name) = false → (0 : Int) ≤ (↑k : Int) ∧ (↑k : Int) < (↑l.length : Int), (bif !tokenT (l.getD k FT.nil).name then true else !foldT (l.getD k FT.nil).name == (l.getD k FT.nil).name) = false → (0 : Int) ≤ (↑k : Int) ∧ (↑k : Int) < (↑l.length : Int), (bif bif !tokenT (l.getD k FT.nil).name then true else !foldT (l.getD k FT.nil).name == (l.getD k FT.nil).name then true else (l.getD k FT.nil).name == [(99 : UInt8), 111, 110, 116, 101, 110, 116, 45, 108, 101, 110, 103, 116, 104]) = false → (0 : Int) ≤ (↑k : Int) ∧ (↑k : Int) < (↑l.length : Int), (bif bif bif !tokenT (l.getD k FT.nil).name then true else !foldT (l.getD k FT.nil).name == (l.getD k FT.nil).name then true else (l.getD k FT.nil).name == [(99 : UInt8), 111, 110, 116, 101, 110, 116, 45, 108, 101, 110, 103, 116, 104] then true else !(l.getD k FT.nil).value.all seenB) = true] (by kernel_rfl) (by kernel_rfl) (by kernel_rfl) ⟨(by simp; omega), (by omega), (by omega), (by omega), (by omega), (by omega), (show (bif bif bif !tokenT (l.getD k FT.nil).name then true else !foldT (l.getD k FT.nil).name == (l.getD k FT.nil).name then true else (l.getD k FT.nil).name == [(99 : UInt8), 111, 110, 116, 101, 110, 116, 45, 108, 101, 110, 103, 116, 104] then true else !(l.getD k FT.nil).value.all seenB) = true from (by assumption))⟩ ?_
        refine Wp.ret' (by kernel_rfl) ?_
        exact FinQ.pure (rs' := [V1.c (Cell.bool false)]) (by kernel_rfl) rfl (by kernel_rfl)
    · rw [List.drop_of_length_le hge, List.all_nil] at hq
      rw [show headT l b = (bif bif decide ((l.length : Int) ≤ (24 : Int) - 1) then unlikeQ l else false then decide ((b.length : Int) ≤ 4096) else false) from by unfold headT; rw [hq, hm, show (24 : Int) - 1 = 23 from rfl]; cases decide ((l.length : Int) ≤ 23) <;> cases unlikeQ l <;> rfl]
      clear hq again
      refine Wp.go (mx := true) (fun _ => mixed) [(9, {cs := [(6, pc c0)]})] 100 [false] [decide ((↑k : Int) < (↑l.length : Int)) = false] (by kernel_rfl) (by kernel_rfl) (by kernel_rfl) (show decide ((↑k : Int) < (↑l.length : Int)) = false from (by simp; omega)) ?_
      refine Wp.ret' (by kernel_rfl) ?_
      exact FinQ.pure (rs' := [V1.c (Cell.bool (bif bif decide ((↑l.length : Int) ≤ (24 : Int) - (1 : Int)) then unlikeQ l else false then decide ((↑b.length : Int) ≤ (4096 : Int)) else false))]) (by kernel_rfl) rfl (by kernel_rfl)
def hdN (l : List FT) (k : Nat) : List UInt8 := (l.take k).flatMap fieldL
theorem hdN_succ (l : List FT) (k : Nat) (h : k < l.length) : hdN l (k + 1) = hdN l k ++ fieldL (l.getD k .nil) := by
  unfold hdN
  rw [List.take_succ_eq_append_getElem h, List.flatMap_append, List.getD_eq_getElem?_getD, List.getElem?_eq_getElem h]
  simp
theorem hdN_le (l : List FT) (k : Nat) : (hdN l k).length ≤ (l.flatMap fieldL).length := by
  unfold hdN
  conv => rhs; rw [← List.take_append_drop k l, List.flatMap_append, List.length_append]
  omega
def clL (b : List UInt8) : List UInt8 := if b == [] then [] else [99, 111, 110, 116, 101, 110, 116, 45, 108, 101, 110, 103, 116, 104, 58, 32] ++ Lib.itoa b.length ++ [13, 10]
def linesT (l : List FT) (b : List UInt8) : List UInt8 := l.flatMap fieldL ++ clL b ++ [13, 10]
theorem ahead_lines (m : MT) : aheadT m = m.first ++ [13, 10] ++ linesT m.head m.body := by
  unfold aheadT headN linesT lenL clL
  rw [List.take_length]
  simp
theorem lines13_ok (l : List FT) (b : List UInt8) (hn : l.length < 1000000000) (hb : b.length < 1000000000) (hl : (linesT l b).length ≤ 100000000000000) : Pur Tryz.prog G 57 [.c (encH l), .c (.str b)] [.c (.str (linesT l b))] := by
  refine Pur.of Tryz.func57 (by kernel_rfl) (by kernel_rfl) (by kernel_rfl) ?_
  have hL1 : (l.flatMap fieldL).length + (clL b).length + 2 ≤ 100000000000000 := by
    unfold linesT at hl
    simp only [List.length_append] at hl
    exact hl
  refine Wp.go (mx := true) (fun _ => mixed) [] 100 [] [] (by kernel_rfl) (by kernel_rfl) (by kernel_rfl) trivial ?_
  refine Wp.loopK (by kernel_rfl) (fun (x : Nat × List UInt8) => ⟨[(0, .v (.c (encH l))), (1, .v (.c (.str b))), (5, .v (.c (.str x.2))), (6, .v (.c (.int .i64 (x.1 : Int))))], [], 48⟩) (fun x => x.1 ≤ l.length ∧ x.2 = hdN l x.1) (fun x => l.length - x.1) (0, []) (Ent.of [] (by kernel_rfl) (by kernel_rfl) (by kernel_rfl) trivial) ⟨Nat.zero_le _, rfl⟩ ?_
  rintro ⟨k, s⟩ L ⟨hk, hq⟩ again
  simp only at hk hq
  rcases Nat.lt_or_ge k l.length with hlt | hge
  · have hsu := hdN_succ l k hlt
    have hle := hdN_le l (k + 1)
    rw [hsu, List.length_append, field_len, ← hq] at hle
    have hq2 : s ++ (l.getD k .nil).name ++ [58, 32] ++ (l.getD k .nil).value ++ [13, 10] = hdN l (k + 1) := by rw [hsu, ← hq]; unfold fieldL; simp
    have q1 : s.length + (l.getD k .nil).name.length ≤ 9223372036854775807 := by omega
    have q2 : (s ++ (l.getD k .nil).name).length + 2 ≤ 9223372036854775807 := by simp only [List.length_append]; omega
    have q3 : (s ++ (l.getD k .nil).name ++ [58, 32]).length + (l.getD k .nil).value.length ≤ 9223372036854775807 := by simp only [List.length_append, List.length_cons, List.length_nil]; omega
    have q4 : (s ++ (l.getD k .nil).name ++ [58, 32] ++ (l.getD k .nil).value).length + 2 ≤ 9223372036854775807 := by simp only [List.length_append, List.length_cons, List.length_nil]; omega
    clear hq hsu
    refine Wp.go (mx := true) (fun _ => mixed) [] 100 [true] [decide ((↑k : Int) < (↑l.length : Int)) = true, (0 : Int) ≤ (↑k : Int) ∧ (↑k : Int) < (↑l.length : Int), s.length + (l.getD k FT.nil).name.length ≤ (9223372036854775807 : Nat), (s ++ (l.getD k FT.nil).name).length + (2 : Nat) ≤ (9223372036854775807 : Nat), (0 : Int) ≤ (↑k : Int) ∧ (↑k : Int) < (↑l.length : Int), (s ++ (l.getD k FT.nil).name ++ [(58 : UInt8), 32]).length + (l.getD k FT.nil).value.length ≤ (9223372036854775807 : Nat), (s ++ (l.getD k FT.nil).name ++ [(58 : UInt8), 32] ++ (l.getD k FT.nil).value).length + (2 : Nat) ≤ (9223372036854775807 : Nat), inR IntKind.i64 ((↑k : Int) + (1 : Int))] (by kernel_rfl) (by kernel_rfl) (by kernel_rfl) ⟨(by simp; omega), (by omega), (by assumption), (by assumption), (by omega), (by assumption), (by assumption), inR64 (by omega) (by omega)⟩ ?_
    exact Wp.lpK (by kernel_rfl) (again _ (k + 1, s ++ (l.getD k .nil).name ++ [58, 32] ++ (l.getD k .nil).value ++ [13, 10]) ⟨(by assumption), (by assumption)⟩ (by omega) (Ent.of [] (by kernel_rfl) (by kernel_rfl) (by kernel_rfl) trivial))
  · have hs : s = l.flatMap fieldL := by rw [hq]; unfold hdN; rw [List.take_of_length_le hge]
    unfold linesT
    rw [← hs] at hL1 ⊢
    clear again hq
    cases hbe : b == [] with
    | true =>
      have ht : (!(b == [])) = false := by rw [hbe]; rfl
      rw [show clL b = [] from by unfold clL; rw [if_pos hbe], List.append_nil]
      have q1 : s.length + 2 ≤ 9223372036854775807 := by omega
      refine Wp.go (mx := true) (fun _ => mixed) [] 100 [false, false] [decide ((↑k : Int) < (↑l.length : Int)) = false, (!b == []) = false, s.length + (2 : Nat) ≤ (9223372036854775807 : Nat)] (by kernel_rfl) (by kernel_rfl) (by kernel_rfl) ⟨(by simp; omega), (by assumption), (show s.length + (2 : Nat) ≤ (9223372036854775807 : Nat) from (by assumption))⟩ ?_
      refine Wp.ret' (by kernel_rfl) ?_
      exact FinQ.pure (rs' := [V1.c (Cell.str (s ++ [(13 : UInt8), 10]))]) (by kernel_rfl) rfl (by kernel_rfl)
    | false =>
      have ht : (!(b == [])) = true := by rw [hbe]; rfl
      have hcl : clL b = [99, 111, 110, 116, 101, 110, 116, 45, 108, 101, 110, 103, 116, 104, 58, 32] ++ Lib.itoa b.length ++ [13, 10] := by unfold clL; rw [if_neg (by rw [hbe]; decide)]
      rw [hcl] at hL1 ⊢
      simp only [List.length_append, List.length_cons, List.length_nil] at hL1
      have c := digits_ok (G := G) (b.length : Int) (by omega) (by omega)
      have q1 : s.length + 16 ≤ 9223372036854775807 := by omega
      have q2 : (s ++ [99, 111, 110, 116, 101, 110, 116, 45, 108, 101, 110, 103, 116, 104, 58, 32]).length + (Lib.itoa (b.length : Int)).length ≤ 9223372036854775807 := by simp only [List.length_append, List.length_cons, List.length_nil]; omega
      have q3 : (s ++ [99, 111, 110, 116, 101, 110, 116, 45, 108, 101, 110, 103, 116, 104, 58, 32] ++ Lib.itoa (b.length : Int)).length + 2 ≤ 9223372036854775807 := by simp only [List.length_append, List.length_cons, List.length_nil]; omega
      have q4 : (s ++ [99, 111, 110, 116, 101, 110, 116, 45, 108, 101, 110, 103, 116, 104, 58, 32] ++ Lib.itoa (b.length : Int) ++ [13, 10]).length + 2 ≤ 9223372036854775807 := by simp only [List.length_append, List.length_cons, List.length_nil]; omega
      rw [show s ++ ([99, 111, 110, 116, 101, 110, 116, 45, 108, 101, 110, 103, 116, 104, 58, 32] ++ Lib.itoa (b.length : Int) ++ [13, 10]) ++ [13, 10] = s ++ [99, 111, 110, 116, 101, 110, 116, 45, 108, 101, 110, 103, 116, 104, 58, 32] ++ Lib.itoa (b.length : Int) ++ [13, 10] ++ [13, 10] from by simp only [List.append_assoc]]
      refine Wp.go (mx := true) (fun _ => mixed) [(7, {cs := [(4, pc c)]})] 100 [false, true] [decide ((↑k : Int) < (↑l.length : Int)) = false, (!b == []) = true, s.length + (16 : Nat) ≤ (9223372036854775807 : Nat), (s ++ [(99 : UInt8), 111, 110, 116, 101, 110, 116, 45, 108, 101, 110, 103, 116, 104, 58, 32]).length + (Lib.itoa (↑b.length : Int)).length ≤ (9223372036854775807 : Nat), (s ++ [(99 : UInt8), 111, 110, 116, 101, 110, 116, 45, 108, 101, 110, 103, 116, 104, 58, 32] ++ Lib.itoa (↑b.length : Int)).length + (2 : Nat) ≤ (9223372036854775807 : Nat), (s ++ [(99 : UInt8), 111, 110, 116, 101, 110, 116, 45, 108, 101, 110, 103, 116, 104, 58, 32] ++ Lib.itoa (↑b.length : Int) ++ [(13 : UInt8), 10]).length + (2 : Nat) ≤ (9223372036854775807 : Nat)] (by kernel_rfl) (by kernel_rfl) (by kernel_rfl) ⟨(by simp; omega), (by assumption), (by assumption), (by assumption), (by assumption), (show (s ++ [(99 : UInt8), 111, 110, 116, 101, 110, 116, 45, 108, 101, 110, 103, 116, 104, 58, 32] ++ Lib.itoa (↑b.length : Int) ++ [(13 : UInt8), 10]).length + (2 : Nat) ≤ (9223372036854775807 : Nat) from (by assumption))⟩ ?_
      refine Wp.ret' (by kernel_rfl) ?_
      exact FinQ.pure (rs' := [V1.c (Cell.str (s ++ [(99 : UInt8), 111, 110, 116, 101, 110, 116, 45, 108, 101, 110, 103, 116, 104, 58, 32] ++ Lib.itoa (↑b.length : Int) ++ [(13 : UInt8), 10] ++ [(13 : UInt8), 10]))]) (by kernel_rfl) rfl (by kernel_rfl)
end Go.Proofs.Tw
end

section
open Go Go.Sv Go.RowKit
namespace Go.Proofs.Tw
attribute [local irreducible] Wp FinQ resV Ent Pur Go.Sv.Fn Sat0
set_option maxRecDepth 100000
set_option maxHeartbeats 4000000
variable {G : Nat → Option (List Cell)}

theorem fieldsOk_iff : ∀ (l : List FT) (seen : List (List UInt8)), fieldsOk seen l = true ↔ ∀ i, i < l.length → fOk (seen ++ (l.take i).map (·.name)) (l.getD i .nil) = true
  | [], seen => by simp [fieldsOk]
  | x :: r, seen => by
    rw [fieldsOk, Bool.and_eq_true, fieldsOk_iff r]
    constructor
    · rintro ⟨h0, h⟩ i hi
      cases i with
      | zero => simpa using h0
      | succ i =>
        have := h i (by simpa using hi)
        simpa using this
    · intro h
      refine ⟨by simpa using h 0 (by simp), fun i hi => ?_⟩
      have := h (i + 1) (by simpa using hi)
      simpa using this
theorem fOk_iff (names : List (List UInt8)) (f : FT) : fOk ([clN] ++ names) f = true ↔ okF f = true ∧ names.contains f.name = false := by
  unfold fOk okF
  rw [List.contains_append]
  have : ([clN] : List (List UInt8)).contains f.name = (f.name == clN) := by rw [Bool.eq_iff_iff]; simp
  rw [this]
  cases tokenT f.name <;> cases (foldT f.name == f.name) <;> cases (f.name == clN) <;> cases f.value.all seenB <;> cases names.contains f.name <;> simp
theorem fieldsOk_eq (l : List FT) : fieldsOk [clN] l = (l.all okF && unlikeQ l) := by
  rw [Bool.eq_iff_iff, fieldsOk_iff, Bool.and_eq_true]
  have hall : l.all okF = true ↔ ∀ i, i < l.length → okF (l.getD i .nil) = true := by
    rw [List.all_eq_true]
    constructor
    · intro h i hi
      exact h _ (by simp [List.getD, hi])
    · intro h x hx
      obtain ⟨i, hi, rfl⟩ := List.getElem_of_mem hx
      have := h i hi
      simpa [List.getD, hi] using this
  have hunl : unlikeQ l = true ↔ ∀ i, i < l.length → okQ l i = true := by
    unfold unlikeQ
    rw [List.all_eq_true]
    exact ⟨fun h i hi => h i (List.mem_range.2 hi), fun h i hi => h i (List.mem_range.1 hi)⟩
  rw [hall, hunl]
  have hq : ∀ i, okQ l i = (!((l.getD i .nil).name == []) && !((l.take i).map (·.name)).contains (l.getD i .nil).name) := fun i => by
    unfold okQ; rw [← fGet_isIn, ← fGet_con]
  constructor
  · intro h
    refine ⟨fun i hi => ((fOk_iff _ _).1 (h i hi)).1, fun i hi => ?_⟩
    obtain ⟨h1, h2⟩ := (fOk_iff _ _).1 (h i hi)
    rw [hq, h2]
    have : tokenT (l.getD i .nil).name = true := by unfold okF at h1; rw [Bool.and_eq_true] at h1; exact h1.1
    unfold tokenT at this
    rw [Bool.and_eq_true] at this
    rw [this.1]; rfl
  · rintro ⟨h1, h2⟩ i hi
    refine (fOk_iff _ _).2 ⟨h1 i hi, ?_⟩
    have := h2 i hi
    rw [hq, Bool.and_eq_true] at this
    simpa using this.2
theorem mayM_eq (m : MT) : mayM m = (headT m.head m.body && decide (((aheadT m).length : Int) ≤ 2048)) := by
  unfold mayM fieldedT headT
  rw [show fieldsOk [[99, 111, 110, 116, 101, 110, 116, 45, 108, 101, 110, 103, 116, 104]] m.head = fieldsOk [clN] m.head from rfl, fieldsOk_eq, show roomT m = mostT m.body from rfl]
  cases m.head.all okF <;> cases unlikeQ m.head <;> cases decide ((m.head.length : Int) ≤ mostT m.body) <;> cases decide ((m.body.length : Int) ≤ 4096) <;> cases decide (((aheadT m).length : Int) ≤ 2048) <;> rfl
def firstQ (r : QT) : List UInt8 := r.method ++ [32] ++ r.target ++ [32, 72, 84, 84, 80, 47, 49, 46, 49] ++ [13, 10]
def firstR (r : RT) : List UInt8 := verS ++ Lib.itoa r.status ++ [32] ++ reasonT r.status ++ [13, 10]
theorem ahead_Q (r : QT) : aheadT (askedM r) = firstQ r ++ linesT r.head r.body := by
  rw [ahead_lines]
  unfold askedM firstQ httpV
  simp
theorem ahead_R (r : RT) : aheadT (toldM r) = firstR r ++ linesT r.head r.body := by
  rw [ahead_lines]
  unfold toldM firstR verS
  simp
theorem first13_ok (r : QT) (h1 : r.method.length < 1000000000) (h2 : r.target.length < 1000000000) : Pur Tryz.prog G 56 [.agg (encQ r)] [.c (.str (firstQ r))] := by
  refine Pur.of Tryz.func56 (by kernel_rfl) (by kernel_rfl) (by kernel_rfl) ?_
  have q1 : r.method.length + 1 ≤ 9223372036854775807 := by omega
  have q2 : (r.method ++ [32]).length + r.target.length ≤ 9223372036854775807 := by simp; omega
  have q3 : (r.method ++ [32] ++ r.target).length + 9 ≤ 9223372036854775807 := by simp; omega
  have q4 : (r.method ++ [32] ++ r.target ++ [32, 72, 84, 84, 80, 47, 49, 46, 49]).length + 2 ≤ 9223372036854775807 := by simp; omega
  unfold firstQ
  refine Wp.go (mx := true) (fun _ => mixed) [] 100 [] [r.method.length + (1 : Nat) ≤ (9223372036854775807 : Nat), (r.method ++ [(32 : UInt8)]).length + r.target.length ≤ (9223372036854775807 : Nat), (r.method ++ [(32 : UInt8)] ++ r.target).length + (9 : Nat) ≤ (9223372036854775807 : Nat), (r.method ++ [(32 : UInt8)] ++ r.target ++ [(32 : UInt8), 72, 84, 84, 80, 47, 49, 46, 49]).length + (2 : Nat) ≤ (9223372036854775807 : Nat)] (by kernel_rfl) (by kernel_rfl) (by kernel_rfl) ⟨(by assumption), (by assumption), (by assumption), (show (r.method ++ [(32 : UInt8)] ++ r.target ++ [(32 : UInt8), 72, 84, 84, 80, 47, 49, 46, 49]).length + (2 : Nat) ≤ (9223372036854775807 : Nat) from (by assumption))⟩ ?_
  refine Wp.ret' (by kernel_rfl) ?_
  exact FinQ.pure (rs' := [V1.c (Cell.str (r.method ++ [(32 : UInt8)] ++ r.target ++ [(32 : UInt8), 72, 84, 84, 80, 47, 49, 46, 49] ++ [(13 : UInt8), 10]))]) (by kernel_rfl) rfl (by kernel_rfl)
theorem reason13_ok (n : Int) : Pur Tryz.prog G 94 [.c (.int .i64 n)] [.c (.str (reasonT n))] := by
  refine Pur.of Tryz.func94 (by kernel_rfl) (by kernel_rfl) (by kernel_rfl) ?_
  refine Wp.go (mx := true) (fun _ => mixed) [] 100 [] [] (by kernel_rfl) (by kernel_rfl) (by kernel_rfl) trivial ?_
  refine Wp.cond' (by kernel_rfl) (n == (200 : Int)) (by kernel_rfl) (fun h0 => ?_) (fun h0 => ?_)
  · have g0 := eq_of_beq h0
    refine Wp.go (mx := true) (fun _ => mixed) [] 100 [] [] (by kernel_rfl) (by kernel_rfl) (by kernel_rfl) trivial ?_
    refine Wp.ret' (by kernel_rfl) ?_
    exact FinQ.pure (rs' := [V1.c (Cell.str [(79 : UInt8), 75])]) (by kernel_rfl) (by simp [reasonT, *]; done) (by kernel_rfl)
  · have g0 := ne_of_beq_false h0
    refine Wp.go (mx := true) (fun _ => mixed) [] 100 [] [] (by kernel_rfl) (by kernel_rfl) (by kernel_rfl) trivial ?_
    refine Wp.cond' (by kernel_rfl) (n == (302 : Int)) (by kernel_rfl) (fun h1 => ?_) (fun h1 => ?_)
    · have g1 := eq_of_beq h1
      refine Wp.go (mx := true) (fun _ => mixed) [] 100 [] [] (by kernel_rfl) (by kernel_rfl) (by kernel_rfl) trivial ?_
      refine Wp.ret' (by kernel_rfl) ?_
      exact FinQ.pure (rs' := [V1.c (Cell.str [(70 : UInt8), 111, 117, 110, 100])]) (by kernel_rfl) (by simp [reasonT, *]; done) (by kernel_rfl)
    · have g1 := ne_of_beq_false h1
      refine Wp.go (mx := true) (fun _ => mixed) [] 100 [] [] (by kernel_rfl) (by kernel_rfl) (by kernel_rfl) trivial ?_
      refine Wp.cond' (by kernel_rfl) (n == (400 : Int)) (by kernel_rfl) (fun h2 => ?_) (fun h2 => ?_)
      · have g2 := eq_of_beq h2
        refine Wp.go (mx := true) (fun _ => mixed) [] 100 [] [] (by kernel_rfl) (by kernel_rfl) (by kernel_rfl) trivial ?_
        refine Wp.ret' (by kernel_rfl) ?_
        exact FinQ.pure (rs' := [V1.c (Cell.str [(66 : UInt8), 97, 100, 32, 82, 101, 113, 117, 101, 115, 116])]) (by kernel_rfl) (by simp [reasonT, *]; done) (by kernel_rfl)
      · have g2 := ne_of_beq_false h2
        refine Wp.go (mx := true) (fun _ => mixed) [] 100 [] [] (by kernel_rfl) (by kernel_rfl) (by kernel_rfl) trivial ?_
        refine Wp.cond' (by kernel_rfl) (n == (401 : Int)) (by kernel_rfl) (fun h3 => ?_) (fun h3 => ?_)
        · have g3 := eq_of_beq h3
          refine Wp.go (mx := true) (fun _ => mixed) [] 100 [] [] (by kernel_rfl) (by kernel_rfl) (by kernel_rfl) trivial ?_
          refine Wp.ret' (by kernel_rfl) ?_
          exact FinQ.pure (rs' := [V1.c (Cell.str [(85 : UInt8), 110, 97, 117, 116, 104, 111, 114, 105, 122, 101, 100])]) (by kernel_rfl) (by simp [reasonT, *]; done) (by kernel_rfl)
        · have g3 := ne_of_beq_false h3
          refine Wp.go (mx := true) (fun _ => mixed) [] 100 [] [] (by kernel_rfl) (by kernel_rfl) (by kernel_rfl) trivial ?_
          refine Wp.cond' (by kernel_rfl) (n == (403 : Int)) (by kernel_rfl) (fun h4 => ?_) (fun h4 => ?_)
          · have g4 := eq_of_beq h4
            refine Wp.go (mx := true) (fun _ => mixed) [] 100 [] [] (by kernel_rfl) (by kernel_rfl) (by kernel_rfl) trivial ?_
            refine Wp.ret' (by kernel_rfl) ?_
            exact FinQ.pure (rs' := [V1.c (Cell.str [(70 : UInt8), 111, 114, 98, 105, 100, 100, 101, 110])]) (by kernel_rfl) (by simp [reasonT, *]; done) (by kernel_rfl)
          · have g4 := ne_of_beq_false h4
            refine Wp.go (mx := true) (fun _ => mixed) [] 100 [] [] (by kernel_rfl) (by kernel_rfl) (by kernel_rfl) trivial ?_
            refine Wp.cond' (by kernel_rfl) (n == (404 : Int)) (by kernel_rfl) (fun h5 => ?_) (fun h5 => ?_)
            · have g5 := eq_of_beq h5
              refine Wp.go (mx := true) (fun _ => mixed) [] 100 [] [] (by kernel_rfl) (by kernel_rfl) (by kernel_rfl) trivial ?_
              refine Wp.ret' (by kernel_rfl) ?_
              exact FinQ.pure (rs' := [V1.c (Cell.str [(78 : UInt8), 111, 116, 32, 70, 111, 117, 110, 100])]) (by kernel_rfl) (by simp [reasonT, *]; done) (by kernel_rfl)
            · have g5 := ne_of_beq_false h5
              refine Wp.go (mx := true) (fun _ => mixed) [] 100 [] [] (by kernel_rfl) (by kernel_rfl) (by kernel_rfl) trivial ?_
              refine Wp.cond' (by kernel_rfl) (n == (405 : Int)) (by kernel_rfl) (fun h6 => ?_) (fun h6 => ?_)
              · have g6 := eq_of_beq h6
                refine Wp.go (mx := true) (fun _ => mixed) [] 100 [] [] (by kernel_rfl) (by kernel_rfl) (by kernel_rfl) trivial ?_
                refine Wp.ret' (by kernel_rfl) ?_
                exact FinQ.pure (rs' := [V1.c (Cell.str [(77 : UInt8), 101, 116, 104, 111, 100, 32, 78, 111, 116, 32, 65, 108, 108, 111, 119, 101, 100])]) (by kernel_rfl) (by simp [reasonT, *]; done) (by kernel_rfl)
              · have g6 := ne_of_beq_false h6
                refine Wp.go (mx := true) (fun _ => mixed) [] 100 [] [] (by kernel_rfl) (by kernel_rfl) (by kernel_rfl) trivial ?_
                refine Wp.cond' (by kernel_rfl) (n == (413 : Int)) (by kernel_rfl) (fun h7 => ?_) (fun h7 => ?_)
                · have g7 := eq_of_beq h7
                  refine Wp.go (mx := true) (fun _ => mixed) [] 100 [] [] (by kernel_rfl) (by kernel_rfl) (by kernel_rfl) trivial ?_
                  refine Wp.ret' (by kernel_rfl) ?_
                  exact FinQ.pure (rs' := [V1.c (Cell.str [(67 : UInt8), 111, 110, 116, 101, 110, 116, 32, 84, 111, 111, 32, 76, 97, 114, 103, 101])]) (by kernel_rfl) (by simp [reasonT, *]; done) (by kernel_rfl)
                · have g7 := ne_of_beq_false h7
                  refine Wp.go (mx := true) (fun _ => mixed) [] 100 [] [] (by kernel_rfl) (by kernel_rfl) (by kernel_rfl) trivial ?_
                  refine Wp.cond' (by kernel_rfl) (n == (503 : Int)) (by kernel_rfl) (fun h8 => ?_) (fun h8 => ?_)
                  · have g8 := eq_of_beq h8
                    refine Wp.go (mx := true) (fun _ => mixed) [] 100 [] [] (by kernel_rfl) (by kernel_rfl) (by kernel_rfl) trivial ?_
                    refine Wp.ret' (by kernel_rfl) ?_
                    exact FinQ.pure (rs' := [V1.c (Cell.str [(83 : UInt8), 101, 114, 118, 105, 99, 101, 32, 85, 110, 97, 118, 97, 105, 108, 97, 98, 108, 101])]) (by kernel_rfl) (by simp [reasonT, *]; done) (by kernel_rfl)
                  · have g8 := ne_of_beq_false h8
                    refine Wp.go (mx := true) (fun _ => mixed) [] 100 [] [] (by kernel_rfl) (by kernel_rfl) (by kernel_rfl) trivial ?_
                    refine Wp.ret' (by kernel_rfl) ?_
                    exact FinQ.pure (rs' := [V1.c (Cell.str [(79 : UInt8), 116, 104, 101, 114])]) (by kernel_rfl) (by simp [reasonT, *]; done) (by kernel_rfl)
theorem status13_ok (r : RT) (h0 : 0 ≤ r.status) (h1 : r.status ≤ 1000) : Pur Tryz.prog G 60 [.agg (encT r)] [.c (.str (firstR r))] := by
  refine Pur.of Tryz.func60 (by kernel_rfl) (by kernel_rfl) (by kernel_rfl) ?_
  have c1 := digits_ok (G := G) r.status (by omega) (by omega)
  have c2 := reason13_ok (G := G) r.status
  have h3 := itoa_len r.status h0 h1
  have h4 := reason_len r.status
  unfold firstR
  have q1 : 9 + (Lib.itoa r.status).length ≤ 9223372036854775807 := by omega
  have q2 : (verS ++ Lib.itoa r.status).length + 1 ≤ 9223372036854775807 := by simp [verS]; omega
  have q3 : (verS ++ Lib.itoa r.status ++ [32]).length + (reasonT r.status).length ≤ 9223372036854775807 := by simp [verS]; omega
  have q4 : (verS ++ Lib.itoa r.status ++ [32] ++ reasonT r.status).length + 2 ≤ 9223372036854775807 := by simp [verS]; omega
  refine Wp.go (mx := true) (fun _ => mixed) [(1, {cs := [(2, pc c1), (7, pc c2)]})] 100 [] [(9 : Nat) + (Lib.itoa r.status).length ≤ (9223372036854775807 : Nat), ([(72 : UInt8), 84, 84, 80, 47, 49, 46, 49, 32] ++ Lib.itoa r.status).length + (1 : Nat) ≤ (9223372036854775807 : Nat), ([(72 : UInt8), 84, 84, 80, 47, 49, 46, 49, 32] ++ Lib.itoa r.status ++ [(32 : UInt8)]).length + (reasonT r.status).length ≤ (9223372036854775807 : Nat), ([(72 : UInt8), 84, 84, 80, 47, 49, 46, 49, 32] ++ Lib.itoa r.status ++ [(32 : UInt8)] ++ reasonT r.status).length + (2 : Nat) ≤ (9223372036854775807 : Nat)] (by kernel_rfl) (by kernel_rfl) (by kernel_rfl) ⟨(by assumption), (by assumption), (by assumption), (show ([(72 : UInt8), 84, 84, 80, 47, 49, 46, 49, 32] ++ Lib.itoa r.status ++ [(32 : UInt8)] ++ reasonT r.status).length + (2 : Nat) ≤ (9223372036854775807 : Nat) from (by assumption))⟩ ?_
  refine Wp.ret' (by kernel_rfl) ?_
  exact FinQ.pure (rs' := [V1.c (Cell.str ([(72 : UInt8), 84, 84, 80, 47, 49, 46, 49, 32] ++ Lib.itoa r.status ++ [(32 : UInt8)] ++ reasonT r.status ++ [(13 : UInt8), 10]))]) (by kernel_rfl) rfl (by kernel_rfl)
structure FitH (l : List FT) (b : List UInt8) : Prop where
  hn : l.length < 1000000000
  hs : ∀ f ∈ l, f.name.length < 1000000000 ∧ f.value.length < 1000000000
  hb : b.length < 1000000000
  hl : (linesT l b).length ≤ 90000000000000
theorem FitH.q {r : QT} (h : FitH r.head r.body) (h1 : r.method.length < 1000000000) (h2 : r.target.length < 1000000000) : FitQ r := by
  refine ⟨h1, h2, Nat.lt_trans h.hn (by decide), fun f hf => ?_, ?_, ?_⟩
  · have := h.hs f hf; omega
  · have := h.hb; show r.body.length ≤ _; omega
  · rw [ahead_Q]
    unfold firstQ
    have := h.hl
    simp only [List.length_append, List.length_cons, List.length_nil]
    omega
theorem FitH.r {r : RT} (h : FitH r.head r.body) (h0 : 0 ≤ r.status) (h1 : r.status ≤ 1000) : FitM (toldM r) := by
  refine ⟨Nat.lt_trans h.hn (by decide), fun f hf => ?_, ?_, ?_⟩
  · have := h.hs f hf; omega
  · have := h.hb; show r.body.length ≤ _; omega
  · rw [ahead_R]
    unfold firstR verS
    have := h.hl
    have h3 := itoa_len r.status h0 h1
    have h4 := reason_len r.status
    simp only [List.length_append, List.length_cons, List.length_nil]
    omega
theorem mayAsk_b (r : QT) : (bif bif bif methT r.method then targT r.target else false then headT r.head r.body else false then decide (((firstQ r ++ linesT r.head r.body).length : Int) ≤ 2048) else false) = mayAskT r := by
  unfold mayAskT linedT
  rw [mayM_eq, ahead_Q]
  show _ = bif methT r.method && targT r.target then headT r.head r.body && _ else false
  cases methT r.method <;> cases targT r.target <;> cases headT r.head r.body <;> rfl
theorem mayAsk13_ok (r : QT) (h : FitH r.head r.body) (h1 : r.method.length < 1000000000) (h2 : r.target.length < 1000000000) : Pur Tryz.prog G 18 [.agg (encQ r)] [.c (.bool (mayAskT r))] := by
  refine Pur.of Tryz.func18 (by kernel_rfl) (by kernel_rfl) (by kernel_rfl) ?_
  have c1 := method13_ok (G := G) r.method (by omega)
  have c2 := target13_ok (G := G) r.target (by omega)
  have c3 := head13_ok (G := G) r.head r.body h.hn h.hs
  have c4 := first13_ok (G := G) r h1 h2
  have hl := h.hl
  have c5 := lines13_ok (G := G) r.head r.body h.hn h.hb (by omega)
  rw [← mayAsk_b]
  have hf : (firstQ r).length ≤ 3000000000 := by unfold firstQ; simp only [List.length_append, List.length_cons, List.length_nil]; omega
  generalize firstQ r = S at *
  generalize linesT r.head r.body = T at *
  have q : S.length + T.length ≤ 9223372036854775807 := by omega
  refine Wp.go (mx := true) (fun _ => mixed) [(1, {cs := [(2, pc c1), (6, pc c2), (13, pc c3), (17, pc c4), (22, pc c5)]})] 100 [] [(bif bif methT r.method then targT r.target else false then headT r.head r.body else false) = true → S.length + T.length ≤ (9223372036854775807 : Nat)] (by kernel_rfl) (by kernel_rfl) (by kernel_rfl) (show (bif bif methT r.method then targT r.target else false then headT r.head r.body else false) = true → S.length + T.length ≤ (9223372036854775807 : Nat) from (by omega)) ?_
  refine Wp.ret' (by kernel_rfl) ?_
  exact FinQ.pure (rs' := [V1.c (Cell.bool (bif bif bif methT r.method then targT r.target else false then headT r.head r.body else false then decide ((↑(S ++ T).length : Int) ≤ (2048 : Int)) else false))]) (by kernel_rfl) rfl (by kernel_rfl)
theorem printAsk13_ok (r : QT) (h : FitH r.head r.body) (h1 : r.method.length < 1000000000) (h2 : r.target.length < 1000000000) : Pur Tryz.prog G 20 [.agg (encQ r)] [.c (.str (printAskT r))] := by
  refine Pur.of Tryz.func20 (by kernel_rfl) (by kernel_rfl) (by kernel_rfl) ?_
  have c1 := mayAsk13_ok (G := G) r h h1 h2
  have c4 := first13_ok (G := G) r h1 h2
  have hl := h.hl
  have hb := h.hb
  have c5 := lines13_ok (G := G) r.head r.body h.hn h.hb (by omega)
  unfold printAskT
  rw [ahead_Q]
  have hf : (firstQ r).length ≤ 3000000000 := by unfold firstQ; simp only [List.length_append, List.length_cons, List.length_nil]; omega
  generalize firstQ r = S at *
  generalize linesT r.head r.body = T at *
  have q : S.length + T.length ≤ 9223372036854775807 := by omega
  have q2 : (S ++ T).length + r.body.length ≤ 9223372036854775807 := by rw [List.length_append]; omega
  cases hm : mayAskT r with
  | true =>
    rw [if_pos rfl]
    rw [hm] at c1
    clear hm h
    refine Wp.go (mx := true) (fun _ => mixed) [(1, {cs := [(1, pc c1)]}), (3, {cs := [(1, pc c4), (6, pc c5)]})] 100 [false] [(!true) = false, S.length + T.length ≤ (9223372036854775807 : Nat), (S ++ T).length + r.body.length ≤ (9223372036854775807 : Nat)] (by kernel_rfl) (by kernel_rfl) (by kernel_rfl) ⟨rfl, (by assumption), (show (S ++ T).length + r.body.length ≤ (9223372036854775807 : Nat) from (by assumption))⟩ ?_
    refine Wp.ret' (by kernel_rfl) ?_
    exact FinQ.pure (rs' := [V1.c (Cell.str (S ++ T ++ r.body))]) (by kernel_rfl) rfl (by kernel_rfl)
  | false =>
    rw [if_neg (by decide)]
    rw [hm] at c1
    clear hm h
    refine Wp.go (mx := true) (fun _ => mixed) [(1, {cs := [(1, pc c1)]})] 100 [true] [(!false) = true] (by kernel_rfl) (by kernel_rfl) (by kernel_rfl) rfl ?_
    refine Wp.ret' (by kernel_rfl) ?_
    exact FinQ.pure (rs' := [V1.c (Cell.str [])]) (by kernel_rfl) rfl (by kernel_rfl)
theorem mayTell_b (r : RT) : (bif bif bif decide (r.status ≥ 100) then decide (r.status ≤ 599) else false then headT r.head r.body else false then decide (((firstR r ++ linesT r.head r.body).length : Int) ≤ 2048) else false) = mayTell r := by
  unfold mayTell statedT
  rw [mayM_eq, ahead_R]
  show _ = bif bif decide (r.status ≥ 100) then decide (r.status ≤ 599) else false then headT r.head r.body && _ else false
  cases decide (r.status ≥ 100) <;> cases decide (r.status ≤ 599) <;> cases headT r.head r.body <;> rfl
theorem mayTell13_ok (r : RT) (h : FitH r.head r.body) : Pur Tryz.prog G 22 [.agg (encT r)] [.c (.bool (mayTell r))] := by
  refine Pur.of Tryz.func22 (by kernel_rfl) (by kernel_rfl) (by kernel_rfl) ?_
  have c3 := head13_ok (G := G) r.head r.body h.hn h.hs
  have hl := h.hl
  have c5 := lines13_ok (G := G) r.head r.body h.hn h.hb (by omega)
  cases hs : (bif decide (r.status ≥ 100) then decide (r.status ≤ 599) else false) with
  | true =>
    have hs' := hs
    rw [Bool.cond_false_right, Bool.and_eq_true, decide_eq_true_eq, decide_eq_true_eq] at hs'
    have c4 := status13_ok (G := G) r (by omega) (by omega)
    rw [← mayTell_b]
    have hf : (firstR r).length ≤ 3000000000 := by
      unfold firstR
      have h3 := itoa_len r.status (by omega) (by omega)
      have h4 := reason_len r.status
      simp only [List.length_append, List.length_cons, List.length_nil, verS]; omega
    generalize firstR r = S at *
    generalize linesT r.head r.body = T at *
    have q : S.length + T.length ≤ 9223372036854775807 := by omega
    clear hs
    refine Wp.go (mx := true) (fun _ => mixed) [(1, {cs := [(13, pc c3), (17, pc c4), (22, pc c5)]})] 100 [] [(bif bif decide (r.status ≥ (100 : Int)) then decide (r.status ≤ (599 : Int)) else false then headT r.head r.body else false) = true → S.length + T.length ≤ (9223372036854775807 : Nat)] (by kernel_rfl) (by kernel_rfl) (by kernel_rfl) (show (bif bif decide (r.status ≥ (100 : Int)) then decide (r.status ≤ (599 : Int)) else false then headT r.head r.body else false) = true → S.length + T.length ≤ (9223372036854775807 : Nat) from (by omega)) ?_
    refine Wp.ret' (by kernel_rfl) ?_
    exact FinQ.pure (rs' := [V1.c (Cell.bool (bif bif bif decide (r.status ≥ (100 : Int)) then decide (r.status ≤ (599 : Int)) else false then headT r.head r.body else false then decide ((↑(S ++ T).length : Int) ≤ (2048 : Int)) else false))]) (by kernel_rfl) rfl (by kernel_rfl)
  | false =>
    rw [show mayTell r = false from by unfold mayTell statedT; rw [hs]; rfl]
    refine Wp.go (mx := true) (fun _ => mixed) [(1, {grd := [(16, false), (17, false), (18, false), (19, false), (20, false), (21, false), (22, false), (23, false), (24, false), (25, false), (26, false)], cs := [(13, pc c3)]})] 100 [] [(bif bif decide (r.status ≥ (100 : Int)) then decide (r.status ≤ (599 : Int)) else false then headT r.head r.body else false) = !true, (bif bif decide (r.status ≥ (100 : Int)) then decide (r.status ≤ (599 : Int)) else false then headT r.head r.body else false) = !true, (bif bif decide (r.status ≥ (100 : Int)) then decide (r.status ≤ (599 : Int)) else false then headT r.head r.body else false) = !true, (bif bif decide (r.status ≥ (100 : Int)) then decide (r.status ≤ (599 : Int)) else false then headT r.head r.body else false) = !true, (bif bif decide (r.status ≥ (100 : Int)) then decide (r.status ≤ (599 : Int)) else false then headT r.head r.body else false) = !true, (bif bif decide (r.status ≥ (100 : Int)) then decide (r.status ≤ (599 : Int)) else false then headT r.head r.body else false) = !true, (bif bif decide (r.status ≥ (100 : Int)) then decide (r.status ≤ (599 : Int)) else false then headT r.head r.body else false) = !true, (bif bif decide (r.status ≥ (100 : Int)) then decide (r.status ≤ (599 : Int)) else false then headT r.head r.body else false) = !true, (bif bif decide (r.status ≥ (100 : Int)) then decide (r.status ≤ (599 : Int)) else false then headT r.head r.body else false) = !true, (bif bif decide (r.status ≥ (100 : Int)) then decide (r.status ≤ (599 : Int)) else false then headT r.head r.body else false) = !true, (bif bif decide (r.status ≥ (100 : Int)) then decide (r.status ≤ (599 : Int)) else false then headT r.head r.body else false) = false] (by kernel_rfl) (by kernel_rfl) (by kernel_rfl) ⟨(by simp_all <;> omega), (by simp_all <;> omega), (by simp_all <;> omega), (by simp_all <;> omega), (by simp_all <;> omega), (by simp_all <;> omega), (by simp_all <;> omega), (by simp_all <;> omega), (by simp_all <;> omega), (by simp_all <;> omega), (show (bif bif decide (r.status ≥ (100 : Int)) then decide (r.status ≤ (599 : Int)) else false then headT r.head r.body else false) = false from (by simp_all <;> omega))⟩ ?_
    refine Wp.ret' (by kernel_rfl) ?_
    exact FinQ.pure (rs' := [V1.c (Cell.bool false)]) (by kernel_rfl) rfl (by kernel_rfl)
theorem printTell13_ok (r : RT) (h : FitH r.head r.body) : Pur Tryz.prog G 24 [.agg (encT r)] [.c (.str (printTell r))] := by
  refine Pur.of Tryz.func24 (by kernel_rfl) (by kernel_rfl) (by kernel_rfl) ?_
  have c1 := mayTell13_ok (G := G) r h
  have hl := h.hl
  have hb := h.hb
  have c5 := lines13_ok (G := G) r.head r.body h.hn h.hb (by omega)
  unfold printTell
  rw [ahead_R]
  cases hm : mayTell r with
  | true =>
    have hs : statedT r.status = true := by
      cases hs : statedT r.status with
      | true => rfl
      | false => unfold mayTell at hm; rw [hs] at hm; cases hm
    unfold statedT at hs
    rw [Bool.cond_false_right, Bool.and_eq_true, decide_eq_true_eq, decide_eq_true_eq] at hs
    have c4 := status13_ok (G := G) r (by omega) (by omega)
    have hf : (firstR r).length ≤ 3000000000 := by
      unfold firstR
      have h3 := itoa_len r.status (by omega) (by omega)
      have h4 := reason_len r.status
      simp only [List.length_append, List.length_cons, List.length_nil, verS]; omega
    generalize firstR r = S at *
    generalize linesT r.head r.body = T at *
    have q : S.length + T.length ≤ 9223372036854775807 := by omega
    have q2 : (S ++ T).length + r.body.length ≤ 9223372036854775807 := by rw [List.length_append]; omega
    rw [if_pos rfl]
    rw [hm] at c1
    clear hm h
    refine Wp.go (mx := true) (fun _ => mixed) [(1, {cs := [(1, pc c1)]}), (3, {cs := [(1, pc c4), (6, pc c5)]})] 100 [false] [(!true) = false, S.length + T.length ≤ (9223372036854775807 : Nat), (S ++ T).length + r.body.length ≤ (9223372036854775807 : Nat)] (by kernel_rfl) (by kernel_rfl) (by kernel_rfl) ⟨rfl, (by assumption), (show (S ++ T).length + r.body.length ≤ (9223372036854775807 : Nat) from (by assumption))⟩ ?_
    refine Wp.ret' (by kernel_rfl) ?_
    exact FinQ.pure (rs' := [V1.c (Cell.str (S ++ T ++ r.body))]) (by kernel_rfl) rfl (by kernel_rfl)
  | false =>
    rw [if_neg (by decide)]
    rw [hm] at c1
    clear hm h
    refine Wp.go (mx := true) (fun _ => mixed) [(1, {cs := [(1, pc c1)]})] 100 [true] [(!false) = true] (by kernel_rfl) (by kernel_rfl) (by kernel_rfl) rfl ?_
    refine Wp.ret' (by kernel_rfl) ?_
    exact FinQ.pure (rs' := [V1.c (Cell.str [])]) (by kernel_rfl) rfl (by kernel_rfl)
end Go.Proofs.Tw
end

section
open Go Go.Sv
namespace Go.Proofs.Tw
set_option maxRecDepth 100000
set_option maxHeartbeats 4000000

theorem pick_in (ss : List (List UInt8)) (ns : List Int) (a : Nat) (h : 0 < ss.length) : pickT ss ns a ∈ ss := by
  have h1 := nextV_rng ns a ss.length (by omega)
  unfold pickT
  rw [List.getD_eq_getElem?_getD, List.getElem?_eq_getElem (by omega)]
  exact List.getElem_mem _
theorem joinTail_le (c : UInt8) (B : Nat) : ∀ xs : List (List UInt8), (∀ x ∈ xs, x.length ≤ B) → (Lib.joinTail [c] xs).length ≤ xs.length * (B + 1)
  | [], _ => Nat.zero_le _
  | x :: r, h => by
    have ih := joinTail_le c B r (fun y hy => h y (List.mem_cons_of_mem _ hy))
    have hx := h x List.mem_cons_self
    unfold Lib.joinTail at ih ⊢
    rw [List.map_cons, List.flatten_cons, List.length_append, List.length_append, List.length_cons, List.length_cons, Nat.succ_mul]
    simp only [List.length_nil]
    omega
theorem join_le (c : UInt8) (B : Nat) (xs : List (List UInt8)) (h : ∀ x ∈ xs, x.length ≤ B) : (Lib.join xs [c]).length ≤ xs.length * (B + 1) := by
  cases xs with
  | nil => exact Nat.zero_le _
  | cons x r =>
    have ih := joinTail_le c B r (fun y hy => h y (List.mem_cons_of_mem _ hy))
    have hx := h x List.mem_cons_self
    rw [Lib.join_cons, List.length_append, List.length_cons, Nat.succ_mul]
    omega
structure Flat (v : JV) : Prop where
  h1 : v.names.length ≤ 3
  h2 : v.kids.length ≤ 3
  h3 : v.kind = 6 → v.kids.length ≤ v.names.length
  h4 : ∀ x ∈ v.names, x.length ≤ 2
  h5 : v.s.length ≤ 20
  h6 : -4611686018427387904 ≤ v.n
  h7 : v.n ≤ 4611686018427387904
  h8 : (Lib.itoa v.n).length ≤ 100
theorem fields_small (ns : List Int) : ∀ (k a : Nat) (l : List FT), (∀ f ∈ l, f.name.length ≤ 20 ∧ f.value.length ≤ 20) → (fldsN ns k a l).length ≤ l.length + k ∧ ∀ f ∈ fldsN ns k a l, f.name.length ≤ 20 ∧ f.value.length ≤ 20
  | 0, a, l, h => ⟨Nat.le_refl _, h⟩
  | k + 1, a, l, h => by
    unfold fldsN
    split
    · split
      · have := fields_small ns k (nextA ns (nextA ns a 9) 8) l h
        exact ⟨by omega, this.2⟩
      · have h1 : ∀ x ∈ names10, x.length ≤ 20 := by decide
        have h2 : ∀ x ∈ vals10, x.length ≤ 20 := by decide
        have := fields_small ns k (nextA ns (nextA ns a 9) 8) (l ++ [⟨pickT names10 ns a, pickT vals10 ns (nextA ns a 9)⟩]) (by
          intro f hf
          rcases List.mem_append.1 hf with hf | hf
          · exact h f hf
          · rcases List.mem_singleton.1 hf with rfl
            exact ⟨h1 _ (pick_in names10 ns a (by decide)), h2 _ (pick_in vals10 ns _ (by decide))⟩)
        rw [List.length_append] at this
        exact ⟨by have := this.1; simp only [List.length_cons, List.length_nil] at this; omega, this.2⟩
    · exact ⟨by omega, h⟩
theorem pctT_le (form : Bool) (s : List UInt8) : (pctT form s).length ≤ 3 * s.length := by
  have h := pctN_len form s s.length (Nat.le_refl _)
  rw [pctN_end] at h
  exact h.2
theorem query_small (l : List FT) (n : Nat) (hn : l.length ≤ n) (h : ∀ f ∈ l, f.name.length ≤ 20 ∧ f.value.length ≤ 20) : (printQ l).length ≤ n * 122 := by
  unfold printQ
  have := join_le 38 121 (l.map fieldQ) (by
    intro x hx
    obtain ⟨f, hf, rfl⟩ := List.mem_map.1 hx
    have := h f hf
    have a := pctT_le true f.name
    have b := pctT_le true f.value
    unfold fieldQ
    simp only [List.length_append, List.length_cons, List.length_nil]
    omega)
  rw [List.length_map] at this
  have := Nat.mul_le_mul_right 122 hn
  omega
end Go.Proofs.Tw
end

section
open Go Go.Sv Go.RowKit
namespace Go.Proofs.Tw
attribute [local irreducible] Wp FinQ resV Ent Pur Go.Sv.Fn Sat0
set_option maxRecDepth 100000
set_option maxHeartbeats 4000000
variable {G : Nat → Option (List Cell)}

def nmsH : List (List UInt8) := [[99, 111, 111, 107, 105, 101], [99, 111, 110, 116, 101, 110, 116, 45, 116, 121, 112, 101], [97, 117, 116, 104, 111, 114, 105, 122, 97, 116, 105, 111, 110], [120, 45, 97], [115, 101, 116, 45, 99, 111, 111, 107, 105, 101], [108, 111, 99, 97, 116, 105, 111, 110]]
def valsH : List (List UInt8) := [[], [97], [115, 105, 100, 61, 126, 65, 103, 65, 65, 65, 65, 69, 126], [97, 112, 112, 108, 105, 99, 97, 116, 105, 111, 110, 47, 120, 45, 119, 119, 119, 45, 102, 111, 114, 109, 45, 117, 114, 108, 101, 110, 99, 111, 100, 101, 100], [66, 101, 97, 114, 101, 114, 32, 126, 65, 103, 65, 65, 65, 65, 69, 126], [97, 58, 32, 98], [32, 32]]
def fldH (ns : List Int) (a : Nat) : FT := ⟨pickT nmsH ns a, pickT valsH ns (nextA ns a 6)⟩
def hdG (ns : List Int) : Nat → Nat → List FT → List FT × Nat
  | 0, a, l => (l, a)
  | k + 1, a, l => hdG ns k (nextA ns (nextA ns a 6) 7) (if (fGet l (fldH ns a).name).isSome then l else l ++ [fldH ns a])
def headG (ns : List Int) (a : Nat) : List FT × Nat := hdG ns (nextV ns a 4).toNat (nextA ns a 4) []
theorem headG_ok (ns : List Int) (a : Nat) (hl : ns.length ≤ 9223372036854775807) : FnB Tryz.prog G 47 [tapeB ns a] [.c (.ptr 0 0)] [.c (encH (headG ns a).1)] [(0, tapeB ns (headG ns a).2)] := by
  refine Fn.of' Tryz.func47 (by kernel_rfl) (by kernel_rfl) (by kernel_rfl) (by kernel_rfl) trivial ?_
  have rn := nextV_rng ns a 4 (by decide)
  have c1 := next_ok (G := G) ns a 4 hl (by omega)
  obtain ⟨m, hm⟩ := Int.eq_ofNat_of_zero_le rn.1
  have hm4 : m < 4 := by omega
  unfold headG
  rw [hm] at c1 ⊢
  rw [show ((m : Int)).toNat = m from by omega]
  generalize hR : hdG ns m (nextA ns a 4) [] = R
  refine Wp.go (mx := true) (fun _ => mixed) [(2, {cs := [(1, cb [0] c1)]})] 100 [] [] (by kernel_rfl) (by kernel_rfl) (by kernel_rfl) trivial ?_
  refine Wp.loopK (by kernel_rfl) (fun (x : Nat × Nat × Nat × List FT) => ⟨[(0, .v (.c (.ptr 0 0))), (3, .v (.c (.row 2 81 0 x.2.2.1))), (4, .v (.c (.int .i64 (x.1 : Int))))], [(0, tapeB ns x.2.1), (81, .row 40 2 x.2.2.1 (rowF encF .nil x.2.2.2))], 97⟩) (fun x => x.1 ≤ 3 ∧ x.2.2.1 = x.2.2.2.length ∧ x.2.2.1 + x.1 ≤ 3 ∧ hdG ns x.1 x.2.1 x.2.2.2 = R) (fun x => x.1) (m, nextA ns a 4, 0, []) (Ent.trans (Ent.empT (t := 3) (sz := 2) (e := 40) (f := (rowF encF .nil [])) (by decide) (by kernel_rfl) rfl) (Ent.of [] (by kernel_rfl) (by kernel_rfl) (by kernel_rfl) trivial)) ⟨by omega, rfl, (by show 0 + m ≤ 3; omega), hR⟩ ?_
  rintro ⟨i, b, n, l⟩ L ⟨hi, hn, hs, hq⟩ again
  simp only at hi hn hs hq
  rcases i with _ | j
  · have hr : R = (l, b) := hq.symm
    rw [hr]
    subst hn
    clear again hq hr hR
    refine Wp.ent' (by kernel_rfl) (Ent.pubT (e := 40) (sz := 2) (id := 81) (t := 3) (off := 0) (m := l.length) (n := l.length) (f := (rowF encF .nil l)) (m' := l.length) (f' := (fun i j => nthD (encF (l.getD i .nil)) j)) (by kernel_rfl) (by kernel_rfl) (by omega) rfl (fun i _ j _ => by rw [Nat.zero_add]; rfl) rfl) ?_
    refine Wp.go (mx := true) (fun _ => mixed) [] 100 [false] [decide ((↑(0 : Nat) : Int) > (0 : Int)) = false] (by kernel_rfl) (by kernel_rfl) (by kernel_rfl) rfl ?_
    refine Wp.ret' (by kernel_rfl) ?_
    exact FinQ.blk [] (by kernel_rfl) (by kernel_rfl) (by kernel_rfl) (by kernel_rfl) (by kernel_rfl) trivial
  · have e1 : EqvD (.c (.sl 1 6 (fun i j => nthD [Cell.str [99, 111, 111, 107, 105, 101], Cell.str [99, 111, 110, 116, 101, 110, 116, 45, 116, 121, 112, 101], Cell.str [97, 117, 116, 104, 111, 114, 105, 122, 97, 116, 105, 111, 110], Cell.str [120, 45, 97], Cell.str [115, 101, 116, 45, 99, 111, 111, 107, 105, 101], Cell.str [108, 111, 99, 97, 116, 105, 111, 110]] (i * 1 + j)))) (.c (.sl 1 nmsH.length (strsF nmsH))) := strs_lit nmsH rfl rfl
    have e2 : EqvD (.c (.sl 1 7 (fun i j => nthD [Cell.str [], Cell.str [97], Cell.str [115, 105, 100, 61, 126, 65, 103, 65, 65, 65, 65, 69, 126], Cell.str [97, 112, 112, 108, 105, 99, 97, 116, 105, 111, 110, 47, 120, 45, 119, 119, 119, 45, 102, 111, 114, 109, 45, 117, 114, 108, 101, 110, 99, 111, 100, 101, 100], Cell.str [66, 101, 97, 114, 101, 114, 32, 126, 65, 103, 65, 65, 65, 65, 69, 126], Cell.str [97, 58, 32, 98], Cell.str [32, 32]] (i * 1 + j)))) (.c (.sl 1 valsH.length (strsF valsH))) := strs_lit valsH rfl rfl
    have p1 := pick_ok (G := G) nmsH ns b hl (by decide)
    have p2 := pick_ok (G := G) valsH ns (nextA ns b 6) hl (by decide)
    have hc := has10_n (G := G) l n (fldH ns b).name hn (by omega)
    have e7 : EqvD (V1.c (Cell.int .i64 (((j + 1 : Nat) : Int) - 1))) (.c (.int .i64 (j : Int))) := eqvD_of (by rw [show ((j + 1 : Nat) : Int) - 1 = (j : Int) from by omega])
    cases hg : (fGet l (fldH ns b).name).isSome with
    | true =>
      rw [hg] at hc
      have hq : hdG ns j (nextA ns (nextA ns b 6) 7) l = R := by rw [← hq, hdG, hg, if_pos rfl]
      clear hg hR
      refine Wp.go (mx := true) (fun _ => mixed) [(5, {cs := [(2, cb [0] p1), (5, cb [0] p2)], fm := [(1, .c (.sl 1 nmsH.length (strsF nmsH))), (4, .c (.sl 1 valsH.length (strsF valsH)))]}), (4, {fm := [(1, .c (.int .i64 (j : Int)))]}), (6, {cs := [(3, lc [81] [Blk.row 40 (2 : Nat) n fun (i j : Nat) => nthD [Cell.str (l.getD i FT.nil).name, Cell.str (l.getD i FT.nil).value] j] [V1.c (Cell.row (2 : Nat) (0 : Nat) (0 : Nat) n), V1.c (Cell.str (nmsH.getD (nextV ns b (↑nmsH.length : Int)).toNat []))] hc (by kernel_rfl) (by kernel_rfl) (by kernel_rfl) (show (0 : Nat) + n ≤ n from (by omega)))]})] 100 [true, false] [decide ((↑(j + (1 : Nat)) : Int) > (0 : Int)) = true, EqvI (V1.c (Cell.sl (1 : Nat) (6 : Nat) fun (i j : Nat) => nthD [Cell.str [(99 : UInt8), 111, 111, 107, 105, 101], Cell.str [(99 : UInt8), 111, 110, 116, 101, 110, 116, 45, 116, 121, 112, 101], Cell.str [(97 : UInt8), 117, 116, 104, 111, 114, 105, 122, 97, 116, 105, 111, 110], Cell.str [(120 : UInt8), 45, 97], Cell.str [(115 : UInt8), 101, 116, 45, 99, 111, 111, 107, 105, 101], Cell.str [(108 : UInt8), 111, 99, 97, 116, 105, 111, 110]] (i * (1 : Nat) + j))) (V1.c (Cell.sl (1 : Nat) nmsH.length (strsF nmsH))), EqvD (V1.c (Cell.sl (1 : Nat) (6 : Nat) fun (i j : Nat) => nthD [Cell.str [(99 : UInt8), 111, 111, 107, 105, 101], Cell.str [(99 : UInt8), 111, 110, 116, 101, 110, 116, 45, 116, 121, 112, 101], Cell.str [(97 : UInt8), 117, 116, 104, 111, 114, 105, 122, 97, 116, 105, 111, 110], Cell.str [(120 : UInt8), 45, 97], Cell.str [(115 : UInt8), 101, 116, 45, 99, 111, 111, 107, 105, 101], Cell.str [(108 : UInt8), 111, 99, 97, 116, 105, 111, 110]] (i * (1 : Nat) + j))) (V1.c (Cell.sl (1 : Nat) nmsH.length (strsF nmsH))), EqvI (V1.c (Cell.sl (1 : Nat) (7 : Nat) fun (i j : Nat) => nthD [Cell.str [], Cell.str [(97 : UInt8)], Cell.str [(115 : UInt8), 105, 100, 61, 126, 65, 103, 65, 65, 65, 65, 69, 126], Cell.str [(97 : UInt8), 112, 112, 108, 105, 99, 97, 116, 105, 111, 110, 47, 120, 45, 119, 119, 119, 45, 102, 111, 114, 109, 45, 117, 114, 108, 101, 110, 99, 111, 100, 101, 100], Cell.str [(66 : UInt8), 101, 97, 114, 101, 114, 32, 126, 65, 103, 65, 65, 65, 65, 69, 126], Cell.str [(97 : UInt8), 58, 32, 98], Cell.str [(32 : UInt8), 32]] (i * (1 : Nat) + j))) (V1.c (Cell.sl (1 : Nat) valsH.length (strsF valsH))), EqvD (V1.c (Cell.sl (1 : Nat) (7 : Nat) fun (i j : Nat) => nthD [Cell.str [], Cell.str [(97 : UInt8)], Cell.str [(115 : UInt8), 105, 100, 61, 126, 65, 103, 65, 65, 65, 65, 69, 126], Cell.str [(97 : UInt8), 112, 112, 108, 105, 99, 97, 116, 105, 111, 110, 47, 120, 45, 119, 119, 119, 45, 102, 111, 114, 109, 45, 117, 114, 108, 101, 110, 99, 111, 100, 101, 100], Cell.str [(66 : UInt8), 101, 97, 114, 101, 114, 32, 126, 65, 103, 65, 65, 65, 65, 69, 126], Cell.str [(97 : UInt8), 58, 32, 98], Cell.str [(32 : UInt8), 32]] (i * (1 : Nat) + j))) (V1.c (Cell.sl (1 : Nat) valsH.length (strsF valsH))), (!true) = false, EqvI (V1.c (Cell.int .i64 ((↑(j + (1 : Nat)) : Int) - (1 : Int)))) (V1.c (Cell.int .i64 (↑j : Int))), EqvD (V1.c (Cell.int .i64 ((↑(j + (1 : Nat)) : Int) - (1 : Int)))) (V1.c (Cell.int .i64 (↑j : Int))), inR IntKind.i64 ((↑(j + (1 : Nat)) : Int) - (1 : Int))] (by kernel_rfl) (by kernel_rfl) (by kernel_rfl) ⟨(by simp; done), fun _ _ => trivial, (by assumption), fun _ _ => trivial, (by assumption), rfl, fun _ _ => trivial, (by assumption), inR64 (by omega) (by omega)⟩ ?_
      exact Wp.lpK (by kernel_rfl) (again _ (j, nextA ns (nextA ns b 6) 7, n, l) ⟨(by omega), ⟨(by assumption), ⟨(by simp; omega), (by assumption)⟩⟩⟩ (by omega) (Ent.of [] (by kernel_rfl) (by kernel_rfl) (by kernel_rfl) trivial))
    | false =>
      rw [hg] at hc
      have hq : hdG ns j (nextA ns (nextA ns b 6) 7) (l ++ [fldH ns b]) = R := by rw [← hq, hdG, hg, if_neg (by decide)]
      have e3 : BlkEqv (.row 40 2 (n + 1) (catF n (rowF encF .nil l) (fun i j => nthD (encF (fldH ns b)) ((0 + i) * 2 + j)))) (.row 40 2 (n + 1) (rowF encF .nil (l ++ [fldH ns b]))) := enc_app l _ hn
      have q2 : n + 1 = (l ++ [fldH ns b]).length := by simp [hn]
      clear hg hR
      refine Wp.go (mx := true) (fun _ => mixed) [(5, {cs := [(2, cb [0] p1), (5, cb [0] p2)], fm := [(1, .c (.sl 1 nmsH.length (strsF nmsH))), (4, .c (.sl 1 valsH.length (strsF valsH)))]}), (7, {bs := [(3, Blk.row 40 2 (n + 1) (rowF encF .nil (l ++ [fldH ns b])))]}), (4, {fm := [(1, .c (.int .i64 (j : Int)))]}), (6, {cs := [(3, lc [81] [Blk.row 40 (2 : Nat) n fun (i j : Nat) => nthD [Cell.str (l.getD i FT.nil).name, Cell.str (l.getD i FT.nil).value] j] [V1.c (Cell.row (2 : Nat) (0 : Nat) (0 : Nat) n), V1.c (Cell.str (nmsH.getD (nextV ns b (↑nmsH.length : Int)).toNat []))] hc (by kernel_rfl) (by kernel_rfl) (by kernel_rfl) (show (0 : Nat) + n ≤ n from (by omega)))]})] 100 [true, true] [decide ((↑(j + (1 : Nat)) : Int) > (0 : Int)) = true, EqvI (V1.c (Cell.sl (1 : Nat) (6 : Nat) fun (i j : Nat) => nthD [Cell.str [(99 : UInt8), 111, 111, 107, 105, 101], Cell.str [(99 : UInt8), 111, 110, 116, 101, 110, 116, 45, 116, 121, 112, 101], Cell.str [(97 : UInt8), 117, 116, 104, 111, 114, 105, 122, 97, 116, 105, 111, 110], Cell.str [(120 : UInt8), 45, 97], Cell.str [(115 : UInt8), 101, 116, 45, 99, 111, 111, 107, 105, 101], Cell.str [(108 : UInt8), 111, 99, 97, 116, 105, 111, 110]] (i * (1 : Nat) + j))) (V1.c (Cell.sl (1 : Nat) nmsH.length (strsF nmsH))), EqvD (V1.c (Cell.sl (1 : Nat) (6 : Nat) fun (i j : Nat) => nthD [Cell.str [(99 : UInt8), 111, 111, 107, 105, 101], Cell.str [(99 : UInt8), 111, 110, 116, 101, 110, 116, 45, 116, 121, 112, 101], Cell.str [(97 : UInt8), 117, 116, 104, 111, 114, 105, 122, 97, 116, 105, 111, 110], Cell.str [(120 : UInt8), 45, 97], Cell.str [(115 : UInt8), 101, 116, 45, 99, 111, 111, 107, 105, 101], Cell.str [(108 : UInt8), 111, 99, 97, 116, 105, 111, 110]] (i * (1 : Nat) + j))) (V1.c (Cell.sl (1 : Nat) nmsH.length (strsF nmsH))), EqvI (V1.c (Cell.sl (1 : Nat) (7 : Nat) fun (i j : Nat) => nthD [Cell.str [], Cell.str [(97 : UInt8)], Cell.str [(115 : UInt8), 105, 100, 61, 126, 65, 103, 65, 65, 65, 65, 69, 126], Cell.str [(97 : UInt8), 112, 112, 108, 105, 99, 97, 116, 105, 111, 110, 47, 120, 45, 119, 119, 119, 45, 102, 111, 114, 109, 45, 117, 114, 108, 101, 110, 99, 111, 100, 101, 100], Cell.str [(66 : UInt8), 101, 97, 114, 101, 114, 32, 126, 65, 103, 65, 65, 65, 65, 69, 126], Cell.str [(97 : UInt8), 58, 32, 98], Cell.str [(32 : UInt8), 32]] (i * (1 : Nat) + j))) (V1.c (Cell.sl (1 : Nat) valsH.length (strsF valsH))), EqvD (V1.c (Cell.sl (1 : Nat) (7 : Nat) fun (i j : Nat) => nthD [Cell.str [], Cell.str [(97 : UInt8)], Cell.str [(115 : UInt8), 105, 100, 61, 126, 65, 103, 65, 65, 65, 65, 69, 126], Cell.str [(97 : UInt8), 112, 112, 108, 105, 99, 97, 116, 105, 111, 110, 47, 120, 45, 119, 119, 119, 45, 102, 111, 114, 109, 45, 117, 114, 108, 101, 110, 99, 111, 100, 101, 100], Cell.str [(66 : UInt8), 101, 97, 114, 101, 114, 32, 126, 65, 103, 65, 65, 65, 65, 69, 126], Cell.str [(97 : UInt8), 58, 32, 98], Cell.str [(32 : UInt8), 32]] (i * (1 : Nat) + j))) (V1.c (Cell.sl (1 : Nat) valsH.length (strsF valsH))), (!false) = true, (n + (1 : Nat)) * (32 : Nat) ≤ (140737488355328 : Nat), BlkEqv (Blk.row 40 (2 : Nat) (n + (1 : Nat)) (catF n (fun (i j : Nat) => nthD [Cell.str (l.getD i FT.nil).name, Cell.str (l.getD i FT.nil).value] j) fun (i j : Nat) => nthD [Cell.str (nmsH.getD (nextV ns b (↑nmsH.length : Int)).toNat []), Cell.str (valsH.getD (nextV ns (nextA ns b (6 : Int)) (↑valsH.length : Int)).toNat [])] (((0 : Nat) + i) * (2 : Nat) + j))) (Blk.row 40 (2 : Nat) (n + (1 : Nat)) (rowF encF FT.nil (l ++ [fldH ns b]))), n ≤ n, (0 : Nat) + (1 : Nat) ≤ (1 : Nat), EqvI (V1.c (Cell.int .i64 ((↑(j + (1 : Nat)) : Int) - (1 : Int)))) (V1.c (Cell.int .i64 (↑j : Int))), EqvD (V1.c (Cell.int .i64 ((↑(j + (1 : Nat)) : Int) - (1 : Int)))) (V1.c (Cell.int .i64 (↑j : Int))), inR IntKind.i64 ((↑(j + (1 : Nat)) : Int) - (1 : Int))] (by kernel_rfl) (by kernel_rfl) (by kernel_rfl) ⟨(by simp; done), fun _ _ => trivial, (by assumption), fun _ _ => trivial, (by assumption), rfl, (by omega), (by assumption), (by omega), (by omega), fun _ _ => trivial, (by assumption), inR64 (by omega) (by omega)⟩ ?_
      exact Wp.lpK (by kernel_rfl) (again _ (j, nextA ns (nextA ns b 6) 7, n + 1, l ++ [fldH ns b]) ⟨(by omega), ⟨(by assumption), ⟨(by simp; omega), (by assumption)⟩⟩⟩ (by omega) (Ent.of [(81, 401)] (by kernel_rfl) (by kernel_rfl) (by kernel_rfl) trivial))
/-- Fields that may be a head's, short, of unlike names. -/
def OkG (l : List FT) : Prop := (∀ f ∈ l, okF f = true ∧ f.name.length ≤ 40 ∧ f.value.length ≤ 40) ∧ l.Pairwise (fun x y => x.name ≠ y.name)
theorem fldH_ok (ns : List Int) (a : Nat) : okF (fldH ns a) = true ∧ (fldH ns a).name.length ≤ 40 ∧ (fldH ns a).value.length ≤ 40 := by
  have h1 := pick_in nmsH ns a (by decide)
  have h2 := pick_in valsH ns (nextA ns a 6) (by decide)
  have all : ∀ x ∈ nmsH, ∀ y ∈ valsH, (okF ⟨x, y⟩ && (decide (x.length ≤ 40) && decide (y.length ≤ 40))) = true := by
    have : (nmsH.all fun x => valsH.all fun y => okF ⟨x, y⟩ && (decide (x.length ≤ 40) && decide (y.length ≤ 40))) = true := (by kernel_rfl)
    intro x hx y hy
    exact List.all_eq_true.1 (List.all_eq_true.1 this x hx) y hy
  have := all _ h1 _ h2
  simp only [Bool.and_eq_true, decide_eq_true_eq] at this
  exact this
theorem fGet_no {l : List FT} {n : List UInt8} (h : (fGet l n).isSome = false) : ∀ f ∈ l, f.name ≠ n := by
  intro f hf he
  rw [← fGet_con] at h
  have : (l.map (·.name)).contains n = true := by rw [List.contains_iff_mem]; exact List.mem_map.2 ⟨f, hf, he⟩
  rw [h] at this
  cases this
theorem hdG_ok (ns : List Int) : ∀ (k a : Nat) (l : List FT), OkG l → OkG (hdG ns k a l).1 ∧ (hdG ns k a l).1.length ≤ l.length + k
  | 0, a, l, h => ⟨h, Nat.le_refl _⟩
  | k + 1, a, l, h => by
    unfold hdG
    split
    · obtain ⟨h1, h2⟩ := hdG_ok ns k (nextA ns (nextA ns a 6) 7) l h
      exact ⟨h1, by omega⟩
    · rename_i hg
      have hn := fGet_no (by simpa using hg : (fGet l (fldH ns a).name).isSome = false)
      have hok : OkG (l ++ [fldH ns a]) := by
        refine ⟨fun f hf => ?_, ?_⟩
        · rcases List.mem_append.1 hf with hf | hf
          · exact h.1 f hf
          · rw [List.mem_singleton.1 hf]; exact fldH_ok ns a
        · rw [List.pairwise_append]
          refine ⟨h.2, List.pairwise_singleton _ _, fun x hx y hy => ?_⟩
          rw [List.mem_singleton.1 hy]
          exact hn x hx
      obtain ⟨h1, h2⟩ := hdG_ok ns k (nextA ns (nextA ns a 6) 7) _ hok
      rw [List.length_append] at h2
      exact ⟨h1, by simp at h2; omega⟩
theorem headG_facts (ns : List Int) (a : Nat) : OkG (headG ns a).1 ∧ (headG ns a).1.length ≤ 3 := by
  have h := hdG_ok ns (nextV ns a 4).toNat (nextA ns a 4) [] ⟨fun f hf => (by cases hf), List.Pairwise.nil⟩
  have rn := nextV_rng ns a 4 (by decide)
  exact ⟨h.1, by have := h.2; unfold headG; simp only [List.length_nil] at this; omega⟩
def metsQ : List (List UInt8) := [[71, 69, 84], [80, 79, 83, 84], [65], [65, 66, 67, 68, 69, 70, 71, 72, 73, 74, 75, 76, 77, 78, 79, 80]]
def tgtsQ : List (List UInt8) := [[47], [47, 115, 116, 97, 114, 116, 63, 105, 115, 115, 61, 97, 115], [47, 112, 97, 114], [42], [97, 126, 98]]
def bodsQ (ns : List Int) : List (List UInt8) := [[97, 61, 98], [120], [0, 255], printQ (fldsT ns 4)]
def a2Q (ns : List Int) : Nat := nextA ns (nextA ns 0 4) 5
def a3Q (ns : List Int) : Nat := (headG ns (a2Q ns)).2
def askG (ns : List Int) : QT := ⟨pickT metsQ ns 0, pickT tgtsQ ns (nextA ns 0 4), (headG ns (a2Q ns)).1, if nextV ns (a3Q ns) 2 = 1 then pickT (bodsQ ns) ns (nextA ns (a3Q ns) 2) else []⟩
theorem askG_ok (ns : List Int) (hl : ns.length ≤ 9223372036854775807) : Pur Tryz.prog G 15 [.c (.sl 1 ns.length (intsF ns))] [.agg (encQ (askG ns))] := by
  refine Pur.of Tryz.func15 (by kernel_rfl) (by kernel_rfl) (by kernel_rfl) ?_
  have e1 : EqvD (.c (.sl 1 4 (fun i j => nthD [Cell.str [71, 69, 84], Cell.str [80, 79, 83, 84], Cell.str [65], Cell.str [65, 66, 67, 68, 69, 70, 71, 72, 73, 74, 75, 76, 77, 78, 79, 80]] (i * 1 + j)))) (.c (.sl 1 metsQ.length (strsF metsQ))) := strs_lit metsQ rfl rfl
  have e2 : EqvD (.c (.sl 1 5 (fun i j => nthD [Cell.str [47], Cell.str [47, 115, 116, 97, 114, 116, 63, 105, 115, 115, 61, 97, 115], Cell.str [47, 112, 97, 114], Cell.str [42], Cell.str [97, 126, 98]] (i * 1 + j)))) (.c (.sl 1 tgtsQ.length (strsF tgtsQ))) := strs_lit tgtsQ rfl rfl
  have e3 : EqvD (.c (.sl 1 4 (fun i j => nthD ((bodsQ ns).map Cell.str) (i * 1 + j)))) (.c (.sl 1 (bodsQ ns).length (strsF (bodsQ ns)))) := strs_lit (bodsQ ns) rfl rfl
  have p1 := pick_ok (G := G) metsQ ns 0 hl (by decide)
  have p2 := pick_ok (G := G) tgtsQ ns (nextA ns 0 4) hl (by decide)
  have c3 := headG_ok (G := G) ns (a2Q ns) hl
  have c4 := next_ok (G := G) ns (a3Q ns) 2 hl (by omega)
  have p5 := pick_ok (G := G) (bodsQ ns) ns (nextA ns (a3Q ns) 2) hl (by show (4 : Nat) < _; decide)
  have c6 := flds_i (G := G) ns 4 hl (by decide) (by decide)
  have fs := fields_small ns 4 0 [] (by intro f hf; cases hf)
  have hfl : (fldsT ns 4).length ≤ 4 := by have := fs.1; unfold fldsT; simp only [List.length_nil] at this; omega
  have hpl := query_small (fldsT ns 4) 4 hfl fs.2
  have c7 := print10_ok (G := G) (fldsT ns 4) (by omega) (by omega)
  unfold askG
  by_cases hb : nextV ns (a3Q ns) 2 = 1
  · rw [if_pos hb]
    have ht : (nextV ns (a3Q ns) 2 == 1) = true := by rw [hb]; rfl
    clear hb fs
    refine Wp.go (mx := true) (fun _ => mixed) [(2, {cs := [(2, cb [48] p1), (5, cb [48] p2), (7, cb [48] c3)], fm := [(1, .c (.sl 1 metsQ.length (strsF metsQ))), (4, .c (.sl 1 tgtsQ.length (strsF tgtsQ)))]}), (4, {cs := [(2, pc c6), (3, pc c7), (5, cb [48] p5)], fm := [(4, .c (.sl 1 (bodsQ ns).length (strsF (bodsQ ns))))]}), (3, {cs := [(1, cb [48] c4)]})] 100 [true] [EqvI (V1.c (Cell.sl (1 : Nat) (4 : Nat) fun (i j : Nat) => nthD [Cell.str [(71 : UInt8), 69, 84], Cell.str [(80 : UInt8), 79, 83, 84], Cell.str [(65 : UInt8)], Cell.str [(65 : UInt8), 66, 67, 68, 69, 70, 71, 72, 73, 74, 75, 76, 77, 78, 79, 80]] (i * (1 : Nat) + j))) (V1.c (Cell.sl (1 : Nat) metsQ.length (strsF metsQ))), EqvD (V1.c (Cell.sl (1 : Nat) (4 : Nat) fun (i j : Nat) => nthD [Cell.str [(71 : UInt8), 69, 84], Cell.str [(80 : UInt8), 79, 83, 84], Cell.str [(65 : UInt8)], Cell.str [(65 : UInt8), 66, 67, 68, 69, 70, 71, 72, 73, 74, 75, 76, 77, 78, 79, 80]] (i * (1 : Nat) + j))) (V1.c (Cell.sl (1 : Nat) metsQ.length (strsF metsQ))), EqvI (V1.c (Cell.sl (1 : Nat) (5 : Nat) fun (i j : Nat) => nthD [Cell.str [(47 : UInt8)], Cell.str [(47 : UInt8), 115, 116, 97, 114, 116, 63, 105, 115, 115, 61, 97, 115], Cell.str [(47 : UInt8), 112, 97, 114], Cell.str [(42 : UInt8)], Cell.str [(97 : UInt8), 126, 98]] (i * (1 : Nat) + j))) (V1.c (Cell.sl (1 : Nat) tgtsQ.length (strsF tgtsQ))), EqvD (V1.c (Cell.sl (1 : Nat) (5 : Nat) fun (i j : Nat) => nthD [Cell.str [(47 : UInt8)], Cell.str [(47 : UInt8), 115, 116, 97, 114, 116, 63, 105, 115, 115, 61, 97, 115], Cell.str [(47 : UInt8), 112, 97, 114], Cell.str [(42 : UInt8)], Cell.str [(97 : UInt8), 126, 98]] (i * (1 : Nat) + j))) (V1.c (Cell.sl (1 : Nat) tgtsQ.length (strsF tgtsQ))), (nextV ns (a3Q ns) (2 : Int) == (1 : Int)) = true, EqvI (V1.c (Cell.sl (1 : Nat) (4 : Nat) fun (i j : Nat) => nthD [Cell.str [(97 : UInt8), 61, 98], Cell.str [(120 : UInt8)], Cell.str [(0 : UInt8), 255], Cell.str (printQ (fldsT ns (4 : Nat)))] (i * (1 : Nat) + j))) (V1.c (Cell.sl (1 : Nat) (bodsQ ns).length (strsF (bodsQ ns)))), EqvD (V1.c (Cell.sl (1 : Nat) (4 : Nat) fun (i j : Nat) => nthD [Cell.str [(97 : UInt8), 61, 98], Cell.str [(120 : UInt8)], Cell.str [(0 : UInt8), 255], Cell.str (printQ (fldsT ns (4 : Nat)))] (i * (1 : Nat) + j))) (V1.c (Cell.sl (1 : Nat) (bodsQ ns).length (strsF (bodsQ ns))))] (by kernel_rfl) (by kernel_rfl) (by kernel_rfl) ⟨fun _ _ => trivial, (by assumption), fun _ _ => trivial, (by assumption), (by assumption), fun _ _ => trivial, (show EqvD (V1.c (Cell.sl (1 : Nat) (4 : Nat) fun (i j : Nat) => nthD [Cell.str [(97 : UInt8), 61, 98], Cell.str [(120 : UInt8)], Cell.str [(0 : UInt8), 255], Cell.str (printQ (fldsT ns (4 : Nat)))] (i * (1 : Nat) + j))) (V1.c (Cell.sl (1 : Nat) (bodsQ ns).length (strsF (bodsQ ns)))) from (by assumption))⟩ ?_
    refine Wp.ret' (by kernel_rfl) ?_
    exact FinQ.pure (rs' := [V1.agg [Cell.str (metsQ.getD (nextV ns (0 : Nat) (↑metsQ.length : Int)).toNat []), Cell.str (tgtsQ.getD (nextV ns (nextA ns (0 : Nat) (4 : Int)) (↑tgtsQ.length : Int)).toNat []), Cell.sl (2 : Nat) (headG ns (a2Q ns)).1.length fun (i j : Nat) => nthD [Cell.str ((headG ns (a2Q ns)).1.getD i FT.nil).name, Cell.str ((headG ns (a2Q ns)).1.getD i FT.nil).value] j, Cell.str ((bodsQ ns).getD (nextV ns (nextA ns (a3Q ns) (2 : Int)) (↑(bodsQ ns).length : Int)).toNat [])]]) (by kernel_rfl) rfl (by kernel_rfl)
  · rw [if_neg hb]
    have ht : (nextV ns (a3Q ns) 2 == 1) = false := by rw [beq_eq_false_iff_ne]; exact hb
    clear hb fs
    refine Wp.go (mx := true) (fun _ => mixed) [(2, {cs := [(2, cb [48] p1), (5, cb [48] p2), (7, cb [48] c3)], fm := [(1, .c (.sl 1 metsQ.length (strsF metsQ))), (4, .c (.sl 1 tgtsQ.length (strsF tgtsQ)))]}), (3, {cs := [(1, cb [48] c4)]})] 100 [false] [EqvI (V1.c (Cell.sl (1 : Nat) (4 : Nat) fun (i j : Nat) => nthD [Cell.str [(71 : UInt8), 69, 84], Cell.str [(80 : UInt8), 79, 83, 84], Cell.str [(65 : UInt8)], Cell.str [(65 : UInt8), 66, 67, 68, 69, 70, 71, 72, 73, 74, 75, 76, 77, 78, 79, 80]] (i * (1 : Nat) + j))) (V1.c (Cell.sl (1 : Nat) metsQ.length (strsF metsQ))), EqvD (V1.c (Cell.sl (1 : Nat) (4 : Nat) fun (i j : Nat) => nthD [Cell.str [(71 : UInt8), 69, 84], Cell.str [(80 : UInt8), 79, 83, 84], Cell.str [(65 : UInt8)], Cell.str [(65 : UInt8), 66, 67, 68, 69, 70, 71, 72, 73, 74, 75, 76, 77, 78, 79, 80]] (i * (1 : Nat) + j))) (V1.c (Cell.sl (1 : Nat) metsQ.length (strsF metsQ))), EqvI (V1.c (Cell.sl (1 : Nat) (5 : Nat) fun (i j : Nat) => nthD [Cell.str [(47 : UInt8)], Cell.str [(47 : UInt8), 115, 116, 97, 114, 116, 63, 105, 115, 115, 61, 97, 115], Cell.str [(47 : UInt8), 112, 97, 114], Cell.str [(42 : UInt8)], Cell.str [(97 : UInt8), 126, 98]] (i * (1 : Nat) + j))) (V1.c (Cell.sl (1 : Nat) tgtsQ.length (strsF tgtsQ))), EqvD (V1.c (Cell.sl (1 : Nat) (5 : Nat) fun (i j : Nat) => nthD [Cell.str [(47 : UInt8)], Cell.str [(47 : UInt8), 115, 116, 97, 114, 116, 63, 105, 115, 115, 61, 97, 115], Cell.str [(47 : UInt8), 112, 97, 114], Cell.str [(42 : UInt8)], Cell.str [(97 : UInt8), 126, 98]] (i * (1 : Nat) + j))) (V1.c (Cell.sl (1 : Nat) tgtsQ.length (strsF tgtsQ))), (nextV ns (a3Q ns) (2 : Int) == (1 : Int)) = false] (by kernel_rfl) (by kernel_rfl) (by kernel_rfl) ⟨fun _ _ => trivial, (by assumption), fun _ _ => trivial, (by assumption), (show (nextV ns (a3Q ns) (2 : Int) == (1 : Int)) = false from (by assumption))⟩ ?_
    refine Wp.ret' (by kernel_rfl) ?_
    exact FinQ.pure (rs' := [V1.agg [Cell.str (metsQ.getD (nextV ns (0 : Nat) (↑metsQ.length : Int)).toNat []), Cell.str (tgtsQ.getD (nextV ns (nextA ns (0 : Nat) (4 : Int)) (↑tgtsQ.length : Int)).toNat []), Cell.sl (2 : Nat) (headG ns (a2Q ns)).1.length fun (i j : Nat) => nthD [Cell.str ((headG ns (a2Q ns)).1.getD i FT.nil).name, Cell.str ((headG ns (a2Q ns)).1.getD i FT.nil).value] j, Cell.str []]]) (by kernel_rfl) rfl (by kernel_rfl)
def statL : List Int := [200, 302, 400, 401, 403, 404, 405, 413, 503, 100, 599, 201]
def bodsR : List (List UInt8) := [[123, 125], [120], [13, 10, 13, 10], [123, 34, 112, 97, 103, 101, 34, 58, 34, 108, 111, 103, 105, 110, 34, 125]]
def a1R (ns : List Int) : Nat := (headG ns (nextA ns 0 12)).2
def tellG (ns : List Int) : RT := ⟨statL.getD (nextV ns 0 12).toNat 0, (headG ns (nextA ns 0 12)).1, if nextV ns (a1R ns) 2 = 1 then pickT bodsR ns (nextA ns (a1R ns) 2) else []⟩
theorem stat_den : EqvD (.c (.sl 1 12 (fun i j => nthD [.int .i64 200, .int .i64 302, .int .i64 400, .int .i64 401, .int .i64 403, .int .i64 404, .int .i64 405, .int .i64 413, .int .i64 503, .int .i64 100, .int .i64 599, .int .i64 201] (i * 1 + j)))) (.c (.sl 1 statL.length (intsF statL))) := by
  refine EqvD.sl rfl fun i hi j hj => ?_
  obtain rfl : j = 0 := by omega
  have : i < 12 := hi
  match i, this with
  | 0, _ => rfl
  | 1, _ => rfl
  | 2, _ => rfl
  | 3, _ => rfl
  | 4, _ => rfl
  | 5, _ => rfl
  | 6, _ => rfl
  | 7, _ => rfl
  | 8, _ => rfl
  | 9, _ => rfl
  | 10, _ => rfl
  | 11, _ => rfl
theorem tellG_ok (ns : List Int) (hl : ns.length ≤ 9223372036854775807) : Pur Tryz.prog G 16 [.c (.sl 1 ns.length (intsF ns))] [.agg (encT (tellG ns))] := by
  refine Pur.of Tryz.func16 (by kernel_rfl) (by kernel_rfl) (by kernel_rfl) ?_
  have e1 := stat_den
  have e3 : EqvD (.c (.sl 1 4 (fun i j => nthD (bodsR.map Cell.str) (i * 1 + j)))) (.c (.sl 1 bodsR.length (strsF bodsR))) := strs_lit bodsR rfl rfl
  have c1 := next_ok (G := G) ns 0 12 hl (by omega)
  have rn := nextV_rng ns 0 12 (by decide)
  have c3 := headG_ok (G := G) ns (nextA ns 0 12) hl
  have c4 := next_ok (G := G) ns (a1R ns) 2 hl (by omega)
  have p5 := pick_ok (G := G) bodsR ns (nextA ns (a1R ns) 2) hl (by decide)
  have ri : (0 : Int) ≤ nextV ns 0 12 ∧ nextV ns 0 12 < ((statL.length : Nat) : Int) := by exact ⟨rn.1, rn.2⟩
  unfold tellG
  by_cases hb : nextV ns (a1R ns) 2 = 1
  · rw [if_pos hb]
    have ht : (nextV ns (a1R ns) 2 == 1) = true := by rw [hb]; rfl
    clear hb
    refine Wp.go (mx := true) (fun _ => mixed) [(2, {cs := [(2, cb [48] c1), (6, cb [48] c3)], fm := [(0, .c (.sl 1 statL.length (intsF statL)))]}), (4, {cs := [(2, cb [48] p5)], fm := [(1, .c (.sl 1 bodsR.length (strsF bodsR)))]}), (3, {cs := [(1, cb [48] c4)]})] 100 [true] [EqvI (V1.c (Cell.sl (1 : Nat) (12 : Nat) fun (i j : Nat) => nthD [Cell.int .i64 (200 : Int), Cell.int .i64 (302 : Int), Cell.int .i64 (400 : Int), Cell.int .i64 (401 : Int), Cell.int .i64 (403 : Int), Cell.int .i64 (404 : Int), Cell.int .i64 (405 : Int), Cell.int .i64 (413 : Int), Cell.int .i64 (503 : Int), Cell.int .i64 (100 : Int), Cell.int .i64 (599 : Int), Cell.int .i64 (201 : Int)] (i * (1 : Nat) + j))) (V1.c (Cell.sl (1 : Nat) statL.length (intsF statL))), EqvD (V1.c (Cell.sl (1 : Nat) (12 : Nat) fun (i j : Nat) => nthD [Cell.int .i64 (200 : Int), Cell.int .i64 (302 : Int), Cell.int .i64 (400 : Int), Cell.int .i64 (401 : Int), Cell.int .i64 (403 : Int), Cell.int .i64 (404 : Int), Cell.int .i64 (405 : Int), Cell.int .i64 (413 : Int), Cell.int .i64 (503 : Int), Cell.int .i64 (100 : Int), Cell.int .i64 (599 : Int), Cell.int .i64 (201 : Int)] (i * (1 : Nat) + j))) (V1.c (Cell.sl (1 : Nat) statL.length (intsF statL))), (0 : Int) ≤ nextV ns (0 : Nat) (12 : Int) ∧ nextV ns (0 : Nat) (12 : Int) < (↑statL.length : Int), (nextV ns (a1R ns) (2 : Int) == (1 : Int)) = true, EqvI (V1.c (Cell.sl (1 : Nat) (4 : Nat) fun (i j : Nat) => nthD [Cell.str [(123 : UInt8), 125], Cell.str [(120 : UInt8)], Cell.str [(13 : UInt8), 10, 13, 10], Cell.str [(123 : UInt8), 34, 112, 97, 103, 101, 34, 58, 34, 108, 111, 103, 105, 110, 34, 125]] (i * (1 : Nat) + j))) (V1.c (Cell.sl (1 : Nat) bodsR.length (strsF bodsR))), EqvD (V1.c (Cell.sl (1 : Nat) (4 : Nat) fun (i j : Nat) => nthD [Cell.str [(123 : UInt8), 125], Cell.str [(120 : UInt8)], Cell.str [(13 : UInt8), 10, 13, 10], Cell.str [(123 : UInt8), 34, 112, 97, 103, 101, 34, 58, 34, 108, 111, 103, 105, 110, 34, 125]] (i * (1 : Nat) + j))) (V1.c (Cell.sl (1 : Nat) bodsR.length (strsF bodsR)))] (by kernel_rfl) (by kernel_rfl) (by kernel_rfl) ⟨fun _ _ => trivial, (by assumption), (by omega), (by assumption), fun _ _ => trivial, (show EqvD (V1.c (Cell.sl (1 : Nat) (4 : Nat) fun (i j : Nat) => nthD [Cell.str [(123 : UInt8), 125], Cell.str [(120 : UInt8)], Cell.str [(13 : UInt8), 10, 13, 10], Cell.str [(123 : UInt8), 34, 112, 97, 103, 101, 34, 58, 34, 108, 111, 103, 105, 110, 34, 125]] (i * (1 : Nat) + j))) (V1.c (Cell.sl (1 : Nat) bodsR.length (strsF bodsR))) from (by assumption))⟩ ?_
    refine Wp.ret' (by kernel_rfl) ?_
    exact FinQ.pure (rs' := [V1.agg [Cell.int .i64 (statL.getD (nextV ns (0 : Nat) (12 : Int)).toNat (0 : Int)), Cell.sl (2 : Nat) (headG ns (nextA ns (0 : Nat) (12 : Int))).1.length fun (i j : Nat) => nthD [Cell.str ((headG ns (nextA ns (0 : Nat) (12 : Int))).1.getD i FT.nil).name, Cell.str ((headG ns (nextA ns (0 : Nat) (12 : Int))).1.getD i FT.nil).value] j, Cell.str (bodsR.getD (nextV ns (nextA ns (a1R ns) (2 : Int)) (↑bodsR.length : Int)).toNat [])]]) (by kernel_rfl) rfl (by kernel_rfl)
  · rw [if_neg hb]
    have ht : (nextV ns (a1R ns) 2 == 1) = false := by rw [beq_eq_false_iff_ne]; exact hb
    clear hb
    refine Wp.go (mx := true) (fun _ => mixed) [(2, {cs := [(2, cb [48] c1), (6, cb [48] c3)], fm := [(0, .c (.sl 1 statL.length (intsF statL)))]}), (3, {cs := [(1, cb [48] c4)]})] 100 [false] [EqvI (V1.c (Cell.sl (1 : Nat) (12 : Nat) fun (i j : Nat) => nthD [Cell.int .i64 (200 : Int), Cell.int .i64 (302 : Int), Cell.int .i64 (400 : Int), Cell.int .i64 (401 : Int), Cell.int .i64 (403 : Int), Cell.int .i64 (404 : Int), Cell.int .i64 (405 : Int), Cell.int .i64 (413 : Int), Cell.int .i64 (503 : Int), Cell.int .i64 (100 : Int), Cell.int .i64 (599 : Int), Cell.int .i64 (201 : Int)] (i * (1 : Nat) + j))) (V1.c (Cell.sl (1 : Nat) statL.length (intsF statL))), EqvD (V1.c (Cell.sl (1 : Nat) (12 : Nat) fun (i j : Nat) => nthD [Cell.int .i64 (200 : Int), Cell.int .i64 (302 : Int), Cell.int .i64 (400 : Int), Cell.int .i64 (401 : Int), Cell.int .i64 (403 : Int), Cell.int .i64 (404 : Int), Cell.int .i64 (405 : Int), Cell.int .i64 (413 : Int), Cell.int .i64 (503 : Int), Cell.int .i64 (100 : Int), Cell.int .i64 (599 : Int), Cell.int .i64 (201 : Int)] (i * (1 : Nat) + j))) (V1.c (Cell.sl (1 : Nat) statL.length (intsF statL))), (0 : Int) ≤ nextV ns (0 : Nat) (12 : Int) ∧ nextV ns (0 : Nat) (12 : Int) < (↑statL.length : Int), (nextV ns (a1R ns) (2 : Int) == (1 : Int)) = false] (by kernel_rfl) (by kernel_rfl) (by kernel_rfl) ⟨fun _ _ => trivial, (by assumption), (by omega), (show (nextV ns (a1R ns) (2 : Int) == (1 : Int)) = false from (by assumption))⟩ ?_
    refine Wp.ret' (by kernel_rfl) ?_
    exact FinQ.pure (rs' := [V1.agg [Cell.int .i64 (statL.getD (nextV ns (0 : Nat) (12 : Int)).toNat (0 : Int)), Cell.sl (2 : Nat) (headG ns (nextA ns (0 : Nat) (12 : Int))).1.length fun (i j : Nat) => nthD [Cell.str ((headG ns (nextA ns (0 : Nat) (12 : Int))).1.getD i FT.nil).name, Cell.str ((headG ns (nextA ns (0 : Nat) (12 : Int))).1.getD i FT.nil).value] j, Cell.str []]]) (by kernel_rfl) rfl (by kernel_rfl)
end Go.Proofs.Tw
end

section
open Go Go.Sv Go.RowKit
namespace Go.Proofs.Tw
attribute [local irreducible] Wp FinQ resV Ent Pur Go.Sv.Fn Sat0
set_option maxRecDepth 100000
set_option maxHeartbeats 4000000
variable {G : Nat → Option (List Cell)}

theorem getD_mem {l : List FT} {i : Nat} (h : i < l.length) : l.getD i .nil ∈ l := by simp [List.getD, h]
theorem unlike_ok {l : List FT} (h : OkG l) : unlikeQ l = true := by
  unfold unlikeQ
  rw [List.all_eq_true]
  intro i hi
  have hi := List.mem_range.1 hi
  unfold okQ
  have h1 := (h.1 _ (getD_mem hi)).1
  have ht : tokenT (l.getD i .nil).name = true := by unfold okF at h1; rw [Bool.and_eq_true] at h1; exact h1.1
  unfold tokenT at ht
  rw [Bool.and_eq_true] at ht
  rw [ht.1, Bool.true_and, ← fGet_isIn, ← fGet_con]
  cases hc : ((l.take i).map (·.name)).contains (l.getD i .nil).name with
  | false => rfl
  | true =>
    rw [List.contains_iff_mem] at hc
    obtain ⟨f, hf, he⟩ := List.mem_map.1 hc
    obtain ⟨j, hj, rfl⟩ := List.getElem_of_mem hf
    rw [List.length_take] at hj
    have := List.pairwise_iff_getElem.1 h.2 j i (by omega) hi (by omega)
    rw [List.getElem_take] at he
    refine (this ?_).elim
    rw [he]
    simp [List.getD, hi]
theorem flat_len {l : List FT} (h : OkG l) : (l.flatMap fieldL).length ≤ l.length * 84 := by
  induction l with
  | nil => simp
  | cons x r ih =>
    have := ih ⟨fun f hf => h.1 f (by simp [hf]), (List.pairwise_cons.1 h.2).2⟩
    have hx := h.1 x (by simp)
    rw [List.flatMap_cons, List.length_append, field_len, List.length_cons]
    omega
theorem itoa_nat (n : Nat) : Lib.itoa (n : Int) = Lib.decDigits n := by
  unfold Lib.itoa
  rw [if_neg (by omega)]
  simp
theorem dec_len4 {n : Nat} (h : n ≤ 5000) : (Lib.decDigits n).length ≤ 4 := dec_len_le 3 n (by omega)
theorem clL_len (b : List UInt8) (h : b.length ≤ 5000) : (clL b).length ≤ 22 := by
  unfold clL
  split
  · simp
  · rw [itoa_nat]
    have := dec_len4 h
    simp only [List.length_append, List.length_cons, List.length_nil]
    omega
theorem linesT_len {l : List FT} {b : List UInt8} (h : OkG l) (hl : l.length ≤ 3) (hb : b.length ≤ 5000) : (linesT l b).length ≤ 276 := by
  unfold linesT
  have h1 := flat_len h
  have h2 := clL_len b hb
  simp only [List.length_append, List.length_cons, List.length_nil]
  omega
theorem head_ok {l : List FT} {b : List UInt8} (h : OkG l) (hl : l.length ≤ 3) (hb : b.length ≤ 4096) : headT l b = true := by
  unfold headT
  rw [unlike_ok h, List.all_eq_true.2 (fun f hf => (h.1 f hf).1)]
  have : (l.length : Int) ≤ mostT b := by unfold mostT; split <;> omega
  rw [decide_eq_true this, decide_eq_true (by omega)]
  rfl
theorem bodQ_len (ns : List Int) : ∀ x ∈ bodsQ ns, x.length ≤ 488 := by
  have fs := fields_small ns 4 0 [] (by intro f hf; cases hf)
  have hfl : (fldsT ns 4).length ≤ 4 := by have := fs.1; unfold fldsT; simp only [List.length_nil] at this; omega
  have hpl := query_small (fldsT ns 4) 4 hfl fs.2
  intro x hx
  simp only [bodsQ, List.mem_cons, List.not_mem_nil, or_false] at hx
  rcases hx with rfl | rfl | rfl | rfl
  · decide
  · decide
  · decide
  · omega
structure AskF (r : QT) : Prop where
  hm : methT r.method = true
  ht : targT r.target = true
  h1 : r.method.length ≤ 16
  h2 : r.target.length ≤ 20
  hh : OkG r.head
  hn : r.head.length ≤ 3
  hb : r.body.length ≤ 488
theorem askG_f (ns : List Int) : AskF (askG ns) := by
  have m := pick_in metsQ ns 0 (by decide)
  have t := pick_in tgtsQ ns (nextA ns 0 4) (by decide)
  have mm : metsQ.all (fun x => methT x && decide (x.length ≤ 16)) = true := (by kernel_rfl)
  have tt : tgtsQ.all (fun x => targT x && decide (x.length ≤ 20)) = true := (by kernel_rfl)
  have mm := List.all_eq_true.1 mm _ m
  have tt := List.all_eq_true.1 tt _ t
  rw [Bool.and_eq_true, decide_eq_true_eq] at mm tt
  have h := headG_facts ns (a2Q ns)
  refine ⟨mm.1, tt.1, mm.2, tt.2, h.1, h.2, ?_⟩
  unfold askG
  show (if nextV ns (a3Q ns) 2 = 1 then pickT (bodsQ ns) ns (nextA ns (a3Q ns) 2) else []).length ≤ 488
  split
  · exact bodQ_len ns _ (pick_in (bodsQ ns) ns _ (by show 0 < 4; decide))
  · simp
theorem AskF.fit {r : QT} (h : AskF r) : FitH r.head r.body := by
  have h1 := h.hn
  have h2 := h.hb
  have h3 := linesT_len h.hh h.hn (by omega : r.body.length ≤ 5000)
  exact ⟨by omega, fun f hf => by have := h.hh.1 f hf; omega, by omega, by omega⟩
theorem AskF.fst {r : QT} (h : AskF r) : (firstQ r).length ≤ 48 := by
  have h1 := h.h1
  have h2 := h.h2
  unfold firstQ
  simp only [List.length_append, List.length_cons, List.length_nil]
  omega
theorem AskF.may {r : QT} (h : AskF r) : mayAskT r = true := by
  unfold mayAskT linedT
  rw [h.hm, h.ht, mayM_eq, ahead_Q]
  have h2 := h.hb
  have h3 := linesT_len h.hh h.hn (by omega : r.body.length ≤ 5000)
  have h4 := h.fst
  rw [show headT (askedM r).head (askedM r).body = true from head_ok h.hh h.hn (by show r.body.length ≤ 4096; omega), decide_eq_true (by rw [List.length_append]; omega)]
  rfl
theorem AskF.len {r : QT} (h : AskF r) : 0 < (printAskT r).length ∧ (printAskT r).length ≤ 900 := by
  unfold printAskT
  rw [h.may, if_pos rfl, ahead_Q]
  have h2 := h.hb
  have h3 := linesT_len h.hh h.hn (by omega : r.body.length ≤ 5000)
  have h4 := h.fst
  have h5 : 2 ≤ (firstQ r).length := by unfold firstQ; simp only [List.length_append, List.length_cons, List.length_nil]; omega
  simp only [List.length_append]
  omega
structure TellF (r : RT) : Prop where
  hs : statedT r.status = true
  h1 : 0 ≤ r.status
  h2 : r.status ≤ 1000
  hh : OkG r.head
  hn : r.head.length ≤ 3
  hb : r.body.length ≤ 488
theorem tellG_f (ns : List Int) : TellF (tellG ns) := by
  have rn := nextV_rng ns 0 12 (by decide)
  have hm : statL.getD (nextV ns 0 12).toNat 0 ∈ statL := by
    have : (nextV ns 0 12).toNat < statL.length := by show _ < 12; omega
    rw [List.getD_eq_getElem?_getD, List.getElem?_eq_getElem this]
    exact List.getElem_mem this
  have ss : statL.all (fun n => statedT n && (decide (0 ≤ n) && decide (n ≤ 1000))) = true := (by kernel_rfl)
  have ss := List.all_eq_true.1 ss _ hm
  simp only [Bool.and_eq_true, decide_eq_true_eq] at ss
  have h := headG_facts ns (nextA ns 0 12)
  refine ⟨ss.1, ss.2.1, ss.2.2, h.1, h.2, ?_⟩
  show (if nextV ns (a1R ns) 2 = 1 then pickT bodsR ns (nextA ns (a1R ns) 2) else []).length ≤ 488
  split
  · have : ∀ x ∈ bodsR, x.length ≤ 488 := by decide
    exact this _ (pick_in bodsR ns _ (by decide))
  · simp
theorem TellF.fit {r : RT} (h : TellF r) : FitH r.head r.body := by
  have h1 := h.hn
  have h2 := h.hb
  have h3 := linesT_len h.hh h.hn (by omega : r.body.length ≤ 5000)
  exact ⟨by omega, fun f hf => by have := h.hh.1 f hf; omega, by omega, by omega⟩
theorem TellF.fst {r : RT} (h : TellF r) : (firstR r).length ≤ 48 := by
  have h1 := h.h1
  have h2 := h.h2
  have h3 := reason_len r.status
  obtain ⟨n, hn⟩ := Int.eq_ofNat_of_zero_le h1
  have h4 : (Lib.itoa r.status).length ≤ 4 := by rw [hn, itoa_nat]; exact dec_len4 (by omega)
  unfold firstR verS
  simp only [List.length_append, List.length_cons, List.length_nil]
  omega
theorem TellF.may {r : RT} (h : TellF r) : mayTell r = true := by
  unfold mayTell
  rw [h.hs, mayM_eq, ahead_R]
  have h2 := h.hb
  have h3 := linesT_len h.hh h.hn (by omega : r.body.length ≤ 5000)
  have h4 := h.fst
  rw [show headT (toldM r).head (toldM r).body = true from head_ok h.hh h.hn (by show r.body.length ≤ 4096; omega), decide_eq_true (by rw [List.length_append]; omega)]
  rfl
theorem TellF.len {r : RT} (h : TellF r) : 0 < (printTell r).length ∧ (printTell r).length ≤ 900 := by
  unfold printTell
  rw [h.may, if_pos rfl, ahead_R]
  have h2 := h.hb
  have h3 := linesT_len h.hh h.hn (by omega : r.body.length ≤ 5000)
  have h4 := h.fst
  have h5 : 2 ≤ (firstR r).length := by unfold firstR; simp only [List.length_append, List.length_cons, List.length_nil]; omega
  simp only [List.length_append]
  omega
theorem within13_ok (a n : Int) (hn : 0 < n) (hm : n ≤ 9223372036854775807) : Pur Tryz.prog G 30 [.c (.int .i64 a), .c (.int .i64 n)] [.c (.int .i64 (withT a n))] := by
  refine Pur.of Tryz.func30 (by kernel_rfl) (by kernel_rfl) (by kernel_rfl) ?_
  have h1 := Int.tmod_lt_of_pos a hn
  have h2 := tmod_lo a n hn
  refine Wp.go (mx := true) (fun _ => mixed) [] 100 [] [n = (0 : Int) → False] (by kernel_rfl) (by kernel_rfl) (by kernel_rfl) ((show n = (0 : Int) → False from (by omega))) ?_
  refine Wp.cond' (by kernel_rfl) (decide (a.tmod n < (0 : Int))) (by kernel_rfl) (fun h0 => ?_) (fun h0 => ?_)
  · have g0 := of_decide_eq_true h0
    refine Wp.go (mx := true) (fun _ => mixed) [] 100 [] [IntKind.i64.min ≤ a.tmod n + n ∧ a.tmod n + n ≤ IntKind.i64.max] (by kernel_rfl) (by kernel_rfl) (by kernel_rfl) (inR64 (by omega) (by omega)) ?_
    refine Wp.ret' (by kernel_rfl) ?_
    exact FinQ.pure (rs' := [V1.c (Cell.int .i64 (a.tmod n + n))]) (by kernel_rfl) (by simp [withT, *]; done) (by kernel_rfl)
  · have g0 := of_decide_eq_false h0
    refine Wp.go (mx := true) (fun _ => mixed) [] 100 [] [] (by kernel_rfl) (by kernel_rfl) (by kernel_rfl) trivial ?_
    refine Wp.ret' (by kernel_rfl) ?_
    exact FinQ.pure (rs' := [V1.c (Cell.int .i64 (a.tmod n))]) (by kernel_rfl) (by simp [withT, *]; done) (by kernel_rfl)
def xorS (s : List UInt8) (at_ : Int) (b : UInt8) : List UInt8 := s.set (withT at_ s.length).toNat (s.getD (withT at_ s.length).toNat 0 ^^^ b)
theorem xor8 (x y : UInt8) : bitsI .xor .u8 (x.toNat : Int) (y.toNat : Int) = ((x ^^^ y).toNat : Int) := by
  have h1 : ∀ z : UInt8, BitVec.ofInt 8 (z.toNat : Int) = z.toBitVec := fun z => by
    apply BitVec.eq_of_toNat_eq
    rw [BitVec.toNat_ofInt]
    have : z.toNat < 256 := z.toNat_lt
    show (((z.toNat : Int) % ((2 : Int) ^ 8)).toNat) = z.toBitVec.toNat
    rw [Int.emod_eq_of_lt (by omega) (by omega)]
    simp
  show IntKind.u8.wrap (((BitVec.ofInt 8 (x.toNat : Int) ^^^ BitVec.ofInt 8 (y.toNat : Int)).toNat : Nat) : Int) = _
  rw [h1, h1]
  have : (x.toBitVec ^^^ y.toBitVec).toNat = (x ^^^ y).toNat := rfl
  rw [this]
  have h2 : (x ^^^ y).toNat < 256 := (x ^^^ y).toNat_lt
  exact wrap8 (by omega) (by omega)
def lineL : List (List UInt8) := [[99, 111, 110, 116, 101, 110, 116, 45, 108, 101, 110, 103, 116, 104, 58, 32, 48], [99, 111, 110, 116, 101, 110, 116, 45, 108, 101, 110, 103, 116, 104, 58, 32, 48, 48], [67, 111, 110, 116, 101, 110, 116, 45, 76, 101, 110, 103, 116, 104, 58, 32, 49], [99, 111, 110, 116, 101, 110, 116, 45, 108, 101, 110, 103, 116, 104, 58, 32, 53, 48, 48, 48], [99, 111, 110, 116, 101, 110, 116, 45, 108, 101, 110, 103, 116, 104, 58, 32, 45, 49], [99, 111, 110, 116, 101, 110, 116, 45, 108, 101, 110, 103, 116, 104, 58, 32, 49, 48, 48, 48, 48, 48, 48, 48, 48, 48], [88, 58, 32, 121], [120, 58, 121], [97, 32, 98, 58, 32, 99], [58, 32, 118], [120, 45, 97, 58, 32, 128], [120, 45, 97, 58, 32, 49, 13, 10, 88, 45, 65, 58, 32, 50]]
def endL : List (List UInt8) := [[], [120], [13, 10]]
def fstL13 : List (List UInt8) := [[71, 69, 84, 32, 47, 32, 72, 84, 84, 80, 47, 49, 46, 49], [71, 69, 84, 32, 32, 47, 32, 72, 84, 84, 80, 47, 49, 46, 49], [103, 101, 116, 32, 47, 32, 72, 84, 84, 80, 47, 49, 46, 49], [71, 69, 84, 32, 47, 32, 72, 84, 84, 80, 47, 49, 46, 48], [72, 84, 84, 80, 47, 49, 46, 49, 32, 50, 48, 48, 32, 79, 75], [72, 84, 84, 80, 47, 49, 46, 49, 32, 50, 48, 32, 79, 75], [72, 84, 84, 80, 47, 49, 46, 49, 32, 48, 57, 57, 32, 120], [72, 84, 84, 80, 47, 49, 46, 49, 32, 54, 48, 48, 32, 120], [72, 84, 84, 80, 47, 49, 46, 49, 32, 50, 48, 48, 32], [72, 84, 84, 80, 47, 49, 46, 49, 32, 50, 48, 48]]
def textsL (A T X Y Z raw A' T' : List UInt8) (i j : Nat) : List (List UInt8) := [raw, A, T, A', T', A ++ raw, T ++ raw, Z ++ [13, 10] ++ X ++ [13, 10, 13, 10] ++ Y, Z ++ [13, 10, 13, 10] ++ Y, A.take i, T.take j, Z ++ [13, 10] ++ X ++ [13, 10] ++ raw ++ [13, 10, 13, 10] ++ Y]
def textsG (ns : List Int) (raw : List UInt8) (at_ : Int) (b : UInt8) : List (List UInt8) := textsL (printAskT (askG ns)) (printTell (tellG ns)) (pickT lineL ns 0) (pickT endL ns (nextA ns 0 12)) (pickT fstL13 ns (nextA ns (nextA ns 0 12) 3)) raw (xorS (printAskT (askG ns)) at_ b) (xorS (printTell (tellG ns)) at_ b) (withT at_ (printAskT (askG ns)).length).toNat (withT at_ (printTell (tellG ns)).length).toNat
theorem xorS_len (s : List UInt8) (at_ : Int) (b : UInt8) : (xorS s at_ b).length = s.length := by unfold xorS; rw [List.length_set]
theorem xor_set (A : List UInt8) (at_ : Int) (b : UInt8) {e : TypeId} (h : (withT at_ A.length).toNat < A.length) : BlkEqv (.row e 1 A.length (rowSet (bytesF A) (0 + (withT at_ A.length).toNat) 0 1 [.int .u8 ((A.getD (withT at_ A.length).toNat 0 ^^^ b).toNat : Int)])) (.row e 1 A.length (bytesF (xorS A at_ b))) := by
  unfold xorS
  exact bytes_set _ _ rfl h
theorem Texts_ok (ns : List Int) (raw : List UInt8) (at_ : Int) (b : UInt8) (hl : ns.length ≤ 9223372036854775807) (hr : raw.length ≤ 400) : Pur Tryz.prog G 8 [.c (.sl 1 ns.length (intsF ns)), .c (.str raw), .c (.int .i64 at_), .c (.int .u8 (b.toNat : Int))] [.c (encL (textsG ns raw at_ b))] := by
  refine Pur.of Tryz.func8 (by kernel_rfl) (by kernel_rfl) (by kernel_rfl) ?_
  have fA := askG_f ns
  have fT := tellG_f ns
  have c1 := askG_ok (G := G) ns hl
  have c2 := tellG_ok (G := G) ns hl
  have c3 := printAsk13_ok (G := G) (askG ns) fA.fit (by have := fA.h1; omega) (by have := fA.h2; omega)
  have c4 := printTell13_ok (G := G) (tellG ns) fT.fit
  have lA := fA.len
  have lT := fT.len
  unfold textsG
  generalize printAskT (askG ns) = A at *
  generalize printTell (tellG ns) = T at *
  have rA := withT_rng at_ A.length (by omega)
  have rT := withT_rng at_ T.length (by omega)
  obtain ⟨i, hi⟩ := Int.eq_ofNat_of_zero_le rA.1
  obtain ⟨j, hj⟩ := Int.eq_ofNat_of_zero_le rT.1
  have c5 := within13_ok (G := G) at_ (A.length : Int) (by omega) (by omega)
  have c6 := within13_ok (G := G) at_ (T.length : Int) (by omega) (by omega)
  have y1 : ∀ e : TypeId, BlkEqv (.row e 1 A.length (rowSet (bytesF A) (0 + (withT at_ A.length).toNat) 0 1 [.int .u8 ((A.getD (withT at_ A.length).toNat 0 ^^^ b).toNat : Int)])) (.row e 1 A.length (bytesF (xorS A at_ b))) := fun e => xor_set A at_ b (by omega)
  have y2 : ∀ e : TypeId, BlkEqv (.row e 1 T.length (rowSet (bytesF T) (0 + (withT at_ T.length).toNat) 0 1 [.int .u8 ((T.getD (withT at_ T.length).toNat 0 ^^^ b).toNat : Int)])) (.row e 1 T.length (bytesF (xorS T at_ b))) := fun e => xor_set T at_ b (by omega)
  have la := xorS_len A at_ b
  have lt := xorS_len T at_ b
  rw [hi] at c5 rA y1 ⊢
  rw [hj] at c6 rT y2 ⊢
  rw [show ((i : Int)).toNat = i from by omega] at y1 ⊢
  rw [show ((j : Int)).toNat = j from by omega] at y2 ⊢
  generalize xorS A at_ b = A' at *
  generalize xorS T at_ b = T' at *
  clear hi hj
  have e1 : EqvD (.c (.sl 1 12 (fun i j => nthD (lineL.map Cell.str) (i * 1 + j)))) (.c (.sl 1 lineL.length (strsF lineL))) := strs_lit lineL rfl rfl
  have e2 : EqvD (.c (.sl 1 3 (fun i j => nthD (endL.map Cell.str) (i * 1 + j)))) (.c (.sl 1 endL.length (strsF endL))) := strs_lit endL rfl rfl
  have e3 : EqvD (.c (.sl 1 10 (fun i j => nthD (fstL13.map Cell.str) (i * 1 + j)))) (.c (.sl 1 fstL13.length (strsF fstL13))) := strs_lit fstL13 rfl rfl
  have l1 : (pickT lineL ns 0).length ≤ 30 := (by decide : ∀ x ∈ lineL, x.length ≤ 30) _ (pick_in lineL ns 0 (by decide))
  have l2 : (pickT endL ns (nextA ns 0 12)).length ≤ 2 := (by decide : ∀ x ∈ endL, x.length ≤ 2) _ (pick_in endL ns _ (by decide))
  have l3 : (pickT fstL13 ns (nextA ns (nextA ns 0 12) 3)).length ≤ 20 := (by decide : ∀ x ∈ fstL13, x.length ≤ 20) _ (pick_in fstL13 ns _ (by decide))
  have p1 : FnB Tryz.prog G 31 [tapeB ns 0] [.c (.ptr 0 0), .c (.sl 1 lineL.length (strsF lineL))] [.c (.str (pickT lineL ns 0))] [(0, tapeB ns (nextA ns 0 12))] := pick_ok lineL ns 0 hl (by decide)
  have p2 : FnB Tryz.prog G 31 [tapeB ns (nextA ns 0 12)] [.c (.ptr 0 0), .c (.sl 1 endL.length (strsF endL))] [.c (.str (pickT endL ns (nextA ns 0 12)))] [(0, tapeB ns (nextA ns (nextA ns 0 12) 3))] := pick_ok endL ns _ hl (by decide)
  have p3 : FnB Tryz.prog G 31 [tapeB ns (nextA ns (nextA ns 0 12) 3)] [.c (.ptr 0 0), .c (.sl 1 fstL13.length (strsF fstL13))] [.c (.str (pickT fstL13 ns (nextA ns (nextA ns 0 12) 3)))] [(0, tapeB ns (nextA ns (nextA ns (nextA ns 0 12) 3) 10))] := pick_ok fstL13 ns _ hl (by decide)
  generalize pickT lineL ns 0 = X at *
  generalize pickT endL ns (nextA ns 0 12) = Y at *
  generalize pickT fstL13 ns (nextA ns (nextA ns 0 12) 3) = Z at *
  have x1 : EqvD (.c (.int .u8 (bitsI .xor .u8 ((A.getD (0 + i) 0).toNat : Int) (b.toNat : Int)))) (.c (.int .u8 ((A.getD i 0 ^^^ b).toNat : Int))) := eqvD_of (by rw [xor8, Nat.zero_add])
  have x2 : EqvD (.c (.int .u8 (bitsI .xor .u8 ((T.getD (0 + j) 0).toNat : Int) (b.toNat : Int)))) (.c (.int .u8 ((T.getD j 0 ^^^ b).toNat : Int))) := eqvD_of (by rw [xor8, Nat.zero_add])
  have y1 := y1 5
  have y2 := y2 5
  have z1 : areBytes (bytesF A') 0 A.length := areBytes_F _ _ _
  have z2 : areBytes (bytesF T') 0 T.length := areBytes_F _ _ _
  have w1 : byteL (bytesF A') 0 A.length = A' := by rw [byteL_F _ la.symm]
  have w2 : byteL (bytesF T') 0 T.length = T' := by rw [byteL_F _ lt.symm]
  have f1 : EqvD (.c (.str (byteL (bytesF A') 0 A.length))) (.c (.str A')) := eqvD_of (by rw [w1])
  have f2 : EqvD (.c (.str (byteL (bytesF T') 0 T.length))) (.c (.str T')) := eqvD_of (by rw [w2])
  have e9 : EqvD (.c (.sl 1 12 (fun k m => nthD ((textsL A T X Y Z raw A' T' i j).map Cell.str) (k * 1 + m)))) (.c (encL (textsL A T X Y Z raw A' T' i j))) := strs_lit _ rfl rfl
  clear fA fT
  refine Wp.go (mx := true) (fun _ => mixed) [(4, {cs := [(4, pc c5)], fm := [(8, .c (.int .u8 ((A.getD i 0 ^^^ b).toNat : Int)))], bs := [(10, Blk.row 5 1 A.length (bytesF A'))]}), (5, {cs := [(4, pc c6)], fm := [(8, .c (.int .u8 ((T.getD j 0 ^^^ b).toNat : Int)))], bs := [(10, Blk.row 5 1 T.length (bytesF T'))]}), (6, {cs := [(2, cb [48] p1)], fm := [(1, .c (.sl 1 lineL.length (strsF lineL)))]}), (7, {cs := [(2, cb [48] p2)], fm := [(1, .c (.sl 1 endL.length (strsF endL)))]}), (8, {cs := [(2, cb [48] p3)], fm := [(1, .c (.sl 1 fstL13.length (strsF fstL13)))]}), (9, {cs := [(28, pc c5), (34, pc c6)], fm := [(4, .c (.str A')), (6, .c (.str T')), (46, .c (encL (textsL A T X Y Z raw A' T' i j)))]}), (2, {cs := [(1, pc c1), (2, pc c3), (4, pc c2), (5, pc c4)]})] 100 [] [A.length ≤ (140737488355328 : Nat), T.length ≤ (140737488355328 : Nat), (0 : Int) ≤ (↑i : Int) ∧ (↑i : Int) < (↑A.length : Int), (0 : Nat) + i < A.length, EqvI (V1.c (Cell.int .u8 (Int.ofNat ((BitVec.ofInt IntKind.u8.bits (↑(A.getD ((0 : Nat) + i) (0 : UInt8)).toNat : Int) ^^^ BitVec.ofInt IntKind.u8.bits (↑b.toNat : Int)).toNat % ((2 : Int) ^ IntKind.u8.bits).natAbs)))) (V1.c (Cell.int .u8 (↑(A.getD i (0 : UInt8) ^^^ b).toNat : Int))), EqvD (V1.c (Cell.int .u8 (Int.ofNat ((BitVec.ofInt IntKind.u8.bits (↑(A.getD ((0 : Nat) + i) (0 : UInt8)).toNat : Int) ^^^ BitVec.ofInt IntKind.u8.bits (↑b.toNat : Int)).toNat % ((2 : Int) ^ IntKind.u8.bits).natAbs)))) (V1.c (Cell.int .u8 (↑(A.getD i (0 : UInt8) ^^^ b).toNat : Int))), (0 : Int) ≤ (↑i : Int) ∧ (↑i : Int) < (↑A.length : Int), BlkEqv (Blk.row 5 (1 : Nat) A.length fun (i_1 j : Nat) => if i_1 = (0 : Nat) + i ∧ (0 : Nat) ≤ j ∧ j < (1 : Nat) then nthD (V1.c (Cell.int .u8 (↑(A.getD i (0 : UInt8) ^^^ b).toNat : Int))).cells (j - (0 : Nat)) else Cell.int .u8 (↑(A.getD i_1 (0 : UInt8)).toNat : Int)) (Blk.row 5 (1 : Nat) A.length (bytesF A')), (0 : Nat) + i < A.length, (0 : Int) ≤ (↑j : Int) ∧ (↑j : Int) < (↑T.length : Int), (0 : Nat) + j < T.length, EqvI (V1.c (Cell.int .u8 (Int.ofNat ((BitVec.ofInt IntKind.u8.bits (↑(T.getD ((0 : Nat) + j) (0 : UInt8)).toNat : Int) ^^^ BitVec.ofInt IntKind.u8.bits (↑b.toNat : Int)).toNat % ((2 : Int) ^ IntKind.u8.bits).natAbs)))) (V1.c (Cell.int .u8 (↑(T.getD j (0 : UInt8) ^^^ b).toNat : Int))), EqvD (V1.c (Cell.int .u8 (Int.ofNat ((BitVec.ofInt IntKind.u8.bits (↑(T.getD ((0 : Nat) + j) (0 : UInt8)).toNat : Int) ^^^ BitVec.ofInt IntKind.u8.bits (↑b.toNat : Int)).toNat % ((2 : Int) ^ IntKind.u8.bits).natAbs)))) (V1.c (Cell.int .u8 (↑(T.getD j (0 : UInt8) ^^^ b).toNat : Int))), (0 : Int) ≤ (↑j : Int) ∧ (↑j : Int) < (↑T.length : Int), BlkEqv (Blk.row 5 (1 : Nat) T.length fun (i j_1 : Nat) => if i = (0 : Nat) + j ∧ (0 : Nat) ≤ j_1 ∧ j_1 < (1 : Nat) then nthD (V1.c (Cell.int .u8 (↑(T.getD j (0 : UInt8) ^^^ b).toNat : Int))).cells (j_1 - (0 : Nat)) else Cell.int .u8 (↑(T.getD i (0 : UInt8)).toNat : Int)) (Blk.row 5 (1 : Nat) T.length (bytesF T')), (0 : Nat) + j < T.length, EqvI (V1.c (Cell.sl (1 : Nat) (12 : Nat) fun (i j : Nat) => nthD [Cell.str [(99 : UInt8), 111, 110, 116, 101, 110, 116, 45, 108, 101, 110, 103, 116, 104, 58, 32, 48], Cell.str [(99 : UInt8), 111, 110, 116, 101, 110, 116, 45, 108, 101, 110, 103, 116, 104, 58, 32, 48, 48], Cell.str [(67 : UInt8), 111, 110, 116, 101, 110, 116, 45, 76, 101, 110, 103, 116, 104, 58, 32, 49], Cell.str [(99 : UInt8), 111, 110, 116, 101, 110, 116, 45, 108, 101, 110, 103, 116, 104, 58, 32, 53, 48, 48, 48], Cell.str [(99 : UInt8), 111, 110, 116, 101, 110, 116, 45, 108, 101, 110, 103, 116, 104, 58, 32, 45, 49], Cell.str [(99 : UInt8), 111, 110, 116, 101, 110, 116, 45, 108, 101, 110, 103, 116, 104, 58, 32, 49, 48, 48, 48, 48, 48, 48, 48, 48, 48], Cell.str [(88 : UInt8), 58, 32, 121], Cell.str [(120 : UInt8), 58, 121], Cell.str [(97 : UInt8), 32, 98, 58, 32, 99], Cell.str [(58 : UInt8), 32, 118], Cell.str [(120 : UInt8), 45, 97, 58, 32, 128], Cell.str [(120 : UInt8), 45, 97, 58, 32, 49, 13, 10, 88, 45, 65, 58, 32, 50]] (i * (1 : Nat) + j))) (V1.c (Cell.sl (1 : Nat) lineL.length (strsF lineL))), EqvD (V1.c (Cell.sl (1 : Nat) (12 : Nat) fun (i j : Nat) => nthD [Cell.str [(99 : UInt8), 111, 110, 116, 101, 110, 116, 45, 108, 101, 110, 103, 116, 104, 58, 32, 48], Cell.str [(99 : UInt8), 111, 110, 116, 101, 110, 116, 45, 108, 101, 110, 103, 116, 104, 58, 32, 48, 48], Cell.str [(67 : UInt8), 111, 110, 116, 101, 110, 116, 45, 76, 101, 110, 103, 116, 104, 58, 32, 49], Cell.str [(99 : UInt8), 111, 110, 116, 101, 110, 116, 45, 108, 101, 110, 103, 116, 104, 58, 32, 53, 48, 48, 48], Cell.str [(99 : UInt8), 111, 110, 116, 101, 110, 116, 45, 108, 101, 110, 103, 116, 104, 58, 32, 45, 49], Cell.str [(99 : UInt8), 111, 110, 116, 101, 110, 116, 45, 108, 101, 110, 103, 116, 104, 58, 32, 49, 48, 48, 48, 48, 48, 48, 48, 48, 48], Cell.str [(88 : UInt8), 58, 32, 121], Cell.str [(120 : UInt8), 58, 121], Cell.str [(97 : UInt8), 32, 98, 58, 32, 99], Cell.str [(58 : UInt8), 32, 118], Cell.str [(120 : UInt8), 45, 97, 58, 32, 128], Cell.str [(120 : UInt8), 45, 97, 58, 32, 49, 13, 10, 88, 45, 65, 58, 32, 50]] (i * (1 : Nat) + j))) (V1.c (Cell.sl (1 : Nat) lineL.length (strsF lineL))), EqvI (V1.c (Cell.sl (1 : Nat) (3 : Nat) fun (i j : Nat) => nthD [Cell.str [], Cell.str [(120 : UInt8)], Cell.str [(13 : UInt8), 10]] (i * (1 : Nat) + j))) (V1.c (Cell.sl (1 : Nat) endL.length (strsF endL))), EqvD (V1.c (Cell.sl (1 : Nat) (3 : Nat) fun (i j : Nat) => nthD [Cell.str [], Cell.str [(120 : UInt8)], Cell.str [(13 : UInt8), 10]] (i * (1 : Nat) + j))) (V1.c (Cell.sl (1 : Nat) endL.length (strsF endL))), EqvI (V1.c (Cell.sl (1 : Nat) (10 : Nat) fun (i j : Nat) => nthD [Cell.str [(71 : UInt8), 69, 84, 32, 47, 32, 72, 84, 84, 80, 47, 49, 46, 49], Cell.str [(71 : UInt8), 69, 84, 32, 32, 47, 32, 72, 84, 84, 80, 47, 49, 46, 49], Cell.str [(103 : UInt8), 101, 116, 32, 47, 32, 72, 84, 84, 80, 47, 49, 46, 49], Cell.str [(71 : UInt8), 69, 84, 32, 47, 32, 72, 84, 84, 80, 47, 49, 46, 48], Cell.str [(72 : UInt8), 84, 84, 80, 47, 49, 46, 49, 32, 50, 48, 48, 32, 79, 75], Cell.str [(72 : UInt8), 84, 84, 80, 47, 49, 46, 49, 32, 50, 48, 32, 79, 75], Cell.str [(72 : UInt8), 84, 84, 80, 47, 49, 46, 49, 32, 48, 57, 57, 32, 120], Cell.str [(72 : UInt8), 84, 84, 80, 47, 49, 46, 49, 32, 54, 48, 48, 32, 120], Cell.str [(72 : UInt8), 84, 84, 80, 47, 49, 46, 49, 32, 50, 48, 48, 32], Cell.str [(72 : UInt8), 84, 84, 80, 47, 49, 46, 49, 32, 50, 48, 48]] (i * (1 : Nat) + j))) (V1.c (Cell.sl (1 : Nat) fstL13.length (strsF fstL13))), EqvD (V1.c (Cell.sl (1 : Nat) (10 : Nat) fun (i j : Nat) => nthD [Cell.str [(71 : UInt8), 69, 84, 32, 47, 32, 72, 84, 84, 80, 47, 49, 46, 49], Cell.str [(71 : UInt8), 69, 84, 32, 32, 47, 32, 72, 84, 84, 80, 47, 49, 46, 49], Cell.str [(103 : UInt8), 101, 116, 32, 47, 32, 72, 84, 84, 80, 47, 49, 46, 49], Cell.str [(71 : UInt8), 69, 84, 32, 47, 32, 72, 84, 84, 80, 47, 49, 46, 48], Cell.str [(72 : UInt8), 84, 84, 80, 47, 49, 46, 49, 32, 50, 48, 48, 32, 79, 75], Cell.str [(72 : UInt8), 84, 84, 80, 47, 49, 46, 49, 32, 50, 48, 32, 79, 75], Cell.str [(72 : UInt8), 84, 84, 80, 47, 49, 46, 49, 32, 48, 57, 57, 32, 120], Cell.str [(72 : UInt8), 84, 84, 80, 47, 49, 46, 49, 32, 54, 48, 48, 32, 120], Cell.str [(72 : UInt8), 84, 84, 80, 47, 49, 46, 49, 32, 50, 48, 48, 32], Cell.str [(72 : UInt8), 84, 84, 80, 47, 49, 46, 49, 32, 50, 48, 48]] (i * (1 : Nat) + j))) (V1.c (Cell.sl (1 : Nat) fstL13.length (strsF fstL13))), EqvI (V1.c (Cell.str (byteL (bytesF A') (0 : Nat) A.length))) (V1.c (Cell.str A')), EqvD (V1.c (Cell.str (byteL (bytesF A') (0 : Nat) A.length))) (V1.c (Cell.str A')), (0 : Nat) + A.length ≤ A.length, areBytes (bytesF A') (0 : Nat) A.length, EqvI (V1.c (Cell.str (byteL (bytesF T') (0 : Nat) T.length))) (V1.c (Cell.str T')), EqvD (V1.c (Cell.str (byteL (bytesF T') (0 : Nat) T.length))) (V1.c (Cell.str T')), (0 : Nat) + T.length ≤ T.length, areBytes (bytesF T') (0 : Nat) T.length, A.length + raw.length ≤ (9223372036854775807 : Nat), T.length + raw.length ≤ (9223372036854775807 : Nat), Z.length + (2 : Nat) ≤ (9223372036854775807 : Nat), (Z ++ [(13 : UInt8), 10]).length + X.length ≤ (9223372036854775807 : Nat), (Z ++ [(13 : UInt8), 10] ++ X).length + (4 : Nat) ≤ (9223372036854775807 : Nat), (Z ++ [(13 : UInt8), 10] ++ X ++ [(13 : UInt8), 10, 13, 10]).length + Y.length ≤ (9223372036854775807 : Nat), Z.length + (4 : Nat) ≤ (9223372036854775807 : Nat), (Z ++ [(13 : UInt8), 10, 13, 10]).length + Y.length ≤ (9223372036854775807 : Nat), (0 : Int) ≤ Int.ofNat (0) ∧ Int.ofNat (0) ≤ Int.ofNat i ∧ Int.ofNat i ≤ (↑A.length : Int), (0 : Int) ≤ Int.ofNat (0) ∧ Int.ofNat (0) ≤ Int.ofNat j ∧ Int.ofNat j ≤ (↑T.length : Int), Z.length + (2 : Nat) ≤ (9223372036854775807 : Nat), (Z ++ [(13 : UInt8), 10]).length + X.length ≤ (9223372036854775807 : Nat), (Z ++ [(13 : UInt8), 10] ++ X).length + (2 : Nat) ≤ (9223372036854775807 : Nat), (Z ++ [(13 : UInt8), 10] ++ X ++ [(13 : UInt8), 10]).length + raw.length ≤ (9223372036854775807 : Nat), (Z ++ [(13 : UInt8), 10] ++ X ++ [(13 : UInt8), 10] ++ raw).length + (4 : Nat) ≤ (9223372036854775807 : Nat), (Z ++ [(13 : UInt8), 10] ++ X ++ [(13 : UInt8), 10] ++ raw ++ [(13 : UInt8), 10, 13, 10]).length + Y.length ≤ (9223372036854775807 : Nat), EqvI (V1.c (Cell.sl (1 : Nat) (12 : Nat) fun (i_1 j_1 : Nat) => nthD [Cell.str raw, Cell.str A, Cell.str T, Cell.str A', Cell.str T', Cell.str (A ++ raw), Cell.str (T ++ raw), Cell.str (Z ++ [(13 : UInt8), 10] ++ X ++ [(13 : UInt8), 10, 13, 10] ++ Y), Cell.str (Z ++ [(13 : UInt8), 10, 13, 10] ++ Y), Cell.str (List.drop (0 : Nat) (List.take (Int.ofNat i).toNat A)), Cell.str (List.drop (0 : Nat) (List.take (Int.ofNat j).toNat T)), Cell.str (Z ++ [(13 : UInt8), 10] ++ X ++ [(13 : UInt8), 10] ++ raw ++ [(13 : UInt8), 10, 13, 10] ++ Y)] (i_1 * (1 : Nat) + j_1))) (V1.c (encL (textsL A T X Y Z raw A' T' i j))), EqvD (V1.c (Cell.sl (1 : Nat) (12 : Nat) fun (i_1 j_1 : Nat) => nthD [Cell.str raw, Cell.str A, Cell.str T, Cell.str A', Cell.str T', Cell.str (A ++ raw), Cell.str (T ++ raw), Cell.str (Z ++ [(13 : UInt8), 10] ++ X ++ [(13 : UInt8), 10, 13, 10] ++ Y), Cell.str (Z ++ [(13 : UInt8), 10, 13, 10] ++ Y), Cell.str (List.drop (0 : Nat) (List.take (Int.ofNat i).toNat A)), Cell.str (List.drop (0 : Nat) (List.take (Int.ofNat j).toNat T)), Cell.str (Z ++ [(13 : UInt8), 10] ++ X ++ [(13 : UInt8), 10] ++ raw ++ [(13 : UInt8), 10, 13, 10] ++ Y)] (i_1 * (1 : Nat) + j_1))) (V1.c (encL (textsL A T X Y Z raw A' T' i j)))] (by kernel_rfl) (by kernel_rfl) (by kernel_rfl) ⟨(by omega), (by omega), (by omega), (by omega), fun _ _ => trivial, (by assumption), (by omega), (by assumption), (by omega), (by omega), (by omega), fun _ _ => trivial, (by assumption), (by omega), (by assumption), (by omega), fun _ _ => trivial, (by assumption), fun _ _ => trivial, (by assumption), fun _ _ => trivial, (by assumption), fun _ _ => trivial, (by assumption), (by omega), (by assumption), fun _ _ => trivial, (by assumption), (by omega), (by assumption), (by omega), (by omega), (by omega), (by simp; omega), (by simp; omega), (by simp; omega), (by omega), (by simp; omega), ⟨(by decide), ⟨(by simp; done), (by simp; omega)⟩⟩, ⟨(by decide), ⟨(by simp; done), (by simp; omega)⟩⟩, (by omega), (by simp; omega), (by simp; omega), (by simp; omega), (by simp; omega), (by simp; omega), fun _ _ => trivial, (show EqvD (V1.c (Cell.sl (1 : Nat) (12 : Nat) fun (i_1 j_1 : Nat) => nthD [Cell.str raw, Cell.str A, Cell.str T, Cell.str A', Cell.str T', Cell.str (A ++ raw), Cell.str (T ++ raw), Cell.str (Z ++ [(13 : UInt8), 10] ++ X ++ [(13 : UInt8), 10, 13, 10] ++ Y), Cell.str (Z ++ [(13 : UInt8), 10, 13, 10] ++ Y), Cell.str (List.drop (0 : Nat) (List.take (Int.ofNat i).toNat A)), Cell.str (List.drop (0 : Nat) (List.take (Int.ofNat j).toNat T)), Cell.str (Z ++ [(13 : UInt8), 10] ++ X ++ [(13 : UInt8), 10] ++ raw ++ [(13 : UInt8), 10, 13, 10] ++ Y)] (i_1 * (1 : Nat) + j_1))) (V1.c (encL (textsL A T X Y Z raw A' T' i j))) from (by assumption))⟩ ?_
  refine Wp.ret' (by kernel_rfl) ?_
  exact FinQ.pure (rs' := [V1.c (Cell.sl (1 : Nat) (textsL A T X Y Z raw A' T' i j).length (strsF (textsL A T X Y Z raw A' T' i j)))]) (by kernel_rfl) rfl (by kernel_rfl)
end Go.Proofs.Tw
end

section
open Go Go.Sv Go.RowKit
namespace Go.Proofs.Tw
attribute [local irreducible] Wp FinQ resV Ent Pur Go.Sv.Fn Sat0
set_option maxRecDepth 100000
set_option maxHeartbeats 4000000
variable {G : Nat → Option (List Cell)}

theorem qget_ok (l : List FT) (n : List UInt8) (hl : l.length < 4611686018427387904) : Pur Tryz.prog G 66 [.c (encH l), .c (.str n)] [.c (.str ((fGet l n).getD [])), .c (.bool (fGet l n).isSome)] := by
  refine Pur.of Tryz.func66 (by kernel_rfl) (by kernel_rfl) (by kernel_rfl) ?_
  refine Wp.go (mx := true) (fun _ => mixed) [] 100 [] [] (by kernel_rfl) (by kernel_rfl) (by kernel_rfl) trivial ?_
  refine Wp.loopK (by kernel_rfl) (fun (k : Nat) => ⟨[(1, .v (.c (.str n))), (8, .v (.c (encH l))), (9, .v (.c (.int .i64 (l.length : Int)))), (10, .v (.c (.int .i64 (k : Int))))], [], 80⟩) (fun k => k ≤ l.length ∧ fGet l n = fGet (l.drop k) n) (fun k => l.length - k) 0 (Ent.of [] (by kernel_rfl) (by kernel_rfl) (by kernel_rfl) trivial) ⟨Nat.zero_le _, rfl⟩ ?_
  intro k L ⟨hk, hq⟩ again
  rcases Nat.lt_or_ge k l.length with hlt | hge
  · rw [dropM l .nil k hlt, fGet_cons] at hq
    cases hb : (l.getD k .nil).name == n with
    | true =>
      rw [hb, if_pos rfl] at hq
      rw [hq]
      clear again hq
      refine Wp.go (mx := true) (fun _ => mixed) [] 100 [true, true] [decide ((↑k : Int) < (↑l.length : Int)) = true, (0 : Int) ≤ (↑k : Int) ∧ (↑k : Int) < (↑l.length : Int), ((l.getD k FT.nil).name == n) = true] (by kernel_rfl) (by kernel_rfl) (by kernel_rfl) ⟨(by simp; omega), (by omega), (show ((l.getD k FT.nil).name == n) = true from (by assumption))⟩ ?_
      refine Wp.ret' (by kernel_rfl) ?_
      exact FinQ.pure (rs' := [V1.c (Cell.str (l.getD k FT.nil).value), V1.c (Cell.bool true)]) (by kernel_rfl) rfl (by kernel_rfl)
    | false =>
      rw [hb, if_neg (by decide)] at hq
      refine Wp.go (mx := true) (fun _ => mixed) [] 100 [true, false] [decide ((↑k : Int) < (↑l.length : Int)) = true, (0 : Int) ≤ (↑k : Int) ∧ (↑k : Int) < (↑l.length : Int), ((l.getD k FT.nil).name == n) = false, inR IntKind.i64 ((↑k : Int) + (1 : Int))] (by kernel_rfl) (by kernel_rfl) (by kernel_rfl) ⟨(by simp; omega), (by omega), (by assumption), inR64 (by omega) (by omega)⟩ ?_
      exact Wp.lpK (by kernel_rfl) (again _ (k + 1) ⟨(by assumption), (by assumption)⟩ (by omega) (Ent.of [] (by kernel_rfl) (by kernel_rfl) (by kernel_rfl) trivial))
  · rw [List.drop_of_length_le hge, fGet_nil] at hq
    rw [hq]
    clear hq again
    refine Wp.go (mx := true) (fun _ => mixed) [] 100 [false] [decide ((↑k : Int) < (↑l.length : Int)) = false] (by kernel_rfl) (by kernel_rfl) (by kernel_rfl) (show decide ((↑k : Int) < (↑l.length : Int)) = false from (by simp; omega)) ?_
    refine Wp.ret' (by kernel_rfl) ?_
    exact FinQ.pure (rs' := [V1.c (Cell.str []), V1.c (Cell.bool false)]) (by kernel_rfl) rfl (by kernel_rfl)
theorem hget_ok (l : List FT) (n : List UInt8) (hl : l.length < 4611686018427387904) : Pur Tryz.prog G 29 [.c (encH l), .c (.str n)] [.c (.str ((fGet l n).getD [])), .c (.bool (fGet l n).isSome)] := by
  refine Pur.of Tryz.func29 (by kernel_rfl) (by kernel_rfl) (by kernel_rfl) ?_
  have c := qget_ok (G := G) l n hl
  refine Wp.go (mx := true) (fun _ => mixed) [(1, {cs := [(2, pc c)]})] 100 [] [] (by kernel_rfl) (by kernel_rfl) (by kernel_rfl) trivial ?_
  refine Wp.ret' (by kernel_rfl) ?_
  exact FinQ.pure (rs' := [V1.c (Cell.str ((fGet l n).getD [])), V1.c (Cell.bool (fGet l n).isSome)]) (by kernel_rfl) rfl (by kernel_rfl)
def tellS13 : List UInt8 := [72, 84, 84, 80, 47, 49, 46, 49, 32, 50, 48, 48, 32, 79, 75, 13, 10, 99, 111, 110, 116, 101, 110, 116, 45, 108, 101, 110, 103, 116, 104, 58, 32, 49, 13, 10, 13, 10, 120]
def getQ13 : QT := ⟨[71, 69, 84], [47, 97], [], []⟩
def tellR13 : RT := ⟨200, [], [120]⟩
theorem one_den (f : FT) : EqvD (.c (.sl 2 1 (fun i j => nthD [.str f.name, .str f.value] (i * 2 + j)))) (.c (encH [f])) := by
  refine EqvD.sl rfl fun i hi j hj => ?_
  obtain rfl : i = 0 := by omega
  rw [Nat.zero_mul, Nat.zero_add]; rfl
theorem known13_ok (hp : HasPow G) (hL : HasLen G) : Pur Tryz.prog G 7 [] [.c (.bool true)] := by
  refine Pur.of Tryz.func7 (by kernel_rfl) (by kernel_rfl) (by kernel_rfl) ?_
  have c1 := parseQ_ok hL [71, 69, 84, 32, 47, 97, 32, 72, 84, 84, 80, 47, 49, 46, 49, 13, 10, 13, 10] (by decide)
  rw [show parseQ [71, 69, 84, 32, 47, 97, 32, 72, 84, 84, 80, 47, 49, 46, 49, 13, 10, 13, 10] = (getQ13, 0) from (by kernel_rfl)] at c1
  have c2 := parseQ_ok hL [103, 101, 116] (by decide)
  rw [show parseQ [103, 101, 116] = (QT.nil, 3) from (by kernel_rfl)] at c2
  have c3 := parseR_ok hL tellS13 (by decide)
  rw [show parseR tellS13 = (tellR13, 0) from (by kernel_rfl)] at c3
  have c4 := hget_ok (G := G) [⟨[97], [98]⟩] [97] (by decide)
  have e4 := one_den ⟨[97], [98]⟩
  have fQ : FitH getQ13.head getQ13.body := ⟨by decide, fun f hf => (by cases hf), by decide, by show (2 : Nat) ≤ _; omega⟩
  have fR : FitH tellR13.head tellR13.body := ⟨by decide, fun f hf => (by cases hf), by decide, by have h21 : (linesT tellR13.head tellR13.body).length = 21 := (by kernel_rfl); omega⟩
  have c5 := mayAsk_ok hp getQ13 (fQ.q (by decide) (by decide))
  rw [show mayAskT getQ13 = true from (by kernel_rfl)] at c5
  have c6 := printAsk_ok hp getQ13 (fQ.q (by decide) (by decide))
  rw [show printAskT getQ13 = [71, 69, 84, 32, 47, 97, 32, 72, 84, 84, 80, 47, 49, 46, 49, 13, 10, 13, 10] from (by kernel_rfl)] at c6
  have c7 := mayTell_any hp tellR13 (fun h0 h1 => fR.r h0 h1)
  rw [show mayTell tellR13 = true from (by kernel_rfl)] at c7
  have c8 := printTell_any hp tellR13 (fun h0 h1 => fR.r h0 h1)
  rw [show printTell tellR13 = tellS13 from (by kernel_rfl)] at c8
  clear fQ fR
  refine Wp.go (mx := true) (fun _ => mixed) [(4, {cs := [(2, pc c4)], fm := [(1, .c (encH [⟨[97], [98]⟩]))]}), (1, {cs := [(0, pc c1)]}), (2, {cs := [(0, pc c2)]}), (3, {cs := [(0, pc c3)]}), (5, {cs := [(39, pc c6), (44, pc c5), (48, pc c7), (52, pc c8)]})] 100 [] [EqvI (V1.c (Cell.sl (2 : Nat) (1 : Nat) fun (i j : Nat) => nthD [Cell.str [(97 : UInt8)], Cell.str [(98 : UInt8)]] (i * (2 : Nat) + j))) (V1.c (encH [{ name := [(97 : UInt8)], value := [(98 : UInt8)] }])), EqvD (V1.c (Cell.sl (2 : Nat) (1 : Nat) fun (i j : Nat) => nthD [Cell.str [(97 : UInt8)], Cell.str [(98 : UInt8)]] (i * (2 : Nat) + j))) (V1.c (encH [{ name := [(97 : UInt8)], value := [(98 : UInt8)] }]))] (by kernel_rfl) (by kernel_rfl) (by kernel_rfl) ⟨fun _ _ => trivial, (show EqvD (V1.c (Cell.sl (2 : Nat) (1 : Nat) fun (i j : Nat) => nthD [Cell.str [(97 : UInt8)], Cell.str [(98 : UInt8)]] (i * (2 : Nat) + j))) (V1.c (encH [{ name := [(97 : UInt8)], value := [(98 : UInt8)] }])) from (by assumption))⟩ ?_
  refine Wp.ret' (by kernel_rfl) ?_
  exact FinQ.pure (rs' := [V1.c (Cell.bool (bif bif bif bif bif bif bif bif bif bif bif bif (0 : Int) == (0 : Int) then [(71 : UInt8), 69, 84] == [(71 : UInt8), 69, 84] else false then [(47 : UInt8), 97] == [(47 : UInt8), 97] else false then (3 : Int) == (3 : Int) else false then (0 : Int) == (0 : Int) else false then (200 : Int) == (200 : Int) else false then [(120 : UInt8)] == [(120 : UInt8)] else false then (fGet [{ name := [(97 : UInt8)], value := [(98 : UInt8)] }] [(97 : UInt8)]).getD [] == [(98 : UInt8)] else false then (fGet [{ name := [(97 : UInt8)], value := [(98 : UInt8)] }] [(97 : UInt8)]).isSome else false then [(71 : UInt8), 69, 84, 32, 47, 97, 32, 72, 84, 84, 80, 47, 49, 46, 49, 13, 10, 13, 10] == [(71 : UInt8), 69, 84, 32, 47, 97, 32, 72, 84, 84, 80, 47, 49, 46, 49, 13, 10, 13, 10] else false then true else false then true else false then decide ((↑tellS13.length : Int) > (0 : Int)) else false))]) (by kernel_rfl) rfl (by kernel_rfl)
theorem texts_len (ns : List Int) (raw : List UInt8) (at_ : Int) (b : UInt8) (hr : raw.length ≤ 400) : ∀ x ∈ textsG ns raw at_ b, x.length ≤ 1400 := by
  have lA := (askG_f ns).len
  have lT := (tellG_f ns).len
  have l1 : (pickT lineL ns 0).length ≤ 30 := (by decide : ∀ x ∈ lineL, x.length ≤ 30) _ (pick_in lineL ns 0 (by decide))
  have l2 : (pickT endL ns (nextA ns 0 12)).length ≤ 2 := (by decide : ∀ x ∈ endL, x.length ≤ 2) _ (pick_in endL ns _ (by decide))
  have l3 : (pickT fstL13 ns (nextA ns (nextA ns 0 12) 3)).length ≤ 20 := (by decide : ∀ x ∈ fstL13, x.length ≤ 20) _ (pick_in fstL13 ns _ (by decide))
  have lx := xorS_len (printAskT (askG ns)) at_ b
  have ly := xorS_len (printTell (tellG ns)) at_ b
  intro x hx
  simp only [textsG, textsL, List.mem_cons, List.not_mem_nil, or_false] at hx
  rcases hx with rfl | rfl | rfl | rfl | rfl | rfl | rfl | rfl | rfl | rfl | rfl | rfl <;> (try simp only [List.length_append, List.length_cons, List.length_nil, List.length_take]) <;> omega
theorem texts_at {ns : List Int} {raw : List UInt8} {at_ : Int} {b : UInt8} (hr : raw.length ≤ 400) (k : Nat) : ((textsG ns raw at_ b).getD k []).length ≤ 1400 := by
  rw [List.getD_eq_getElem?_getD]
  cases h : (textsG ns raw at_ b)[k]? with
  | none => show 0 ≤ _; omega
  | some x => exact texts_len ns raw at_ b hr x (List.mem_of_getElem? h)
theorem splitH_25 {s : List UInt8} (h : splitH s = 0) : bigH s = false ∧ (hdC s).2.2 = true ∧ (linesH s).length ≤ 25 := by
  unfold splitH at h
  split at h
  · cases h
  · split at h
    · cases h
    · split at h
      · cases h
      · rename_i h1 h2 h3
        exact ⟨by simpa using h1, by simpa using h2, by omega⟩
theorem readH_ok {line : List UInt8 → Bool} {s : List UInt8} (h : (readH line s).2 = 0) : splitH s = 0 ∧ line (firstH s) = true ∧ fieldsO (fieldsL s) [] = true ∧ bodyE (fieldsA (fieldsL s) []) (hdC s).2.1 = 0 ∧ (readH line s).1 = (fieldsA (fieldsL s) []).filter notCl := by
  by_cases h1 : splitH s = 0
  · cases h2 : line (firstH s) with
    | false => rw [readH_line h1 h2] at h; cases h
    | true =>
      cases h3 : fieldsO (fieldsL s) [] with
      | false => rw [readH_flds h1 h2 h3] at h; cases h
      | true =>
        rw [readH_end h1 h2 h3] at h ⊢
        by_cases h4 : bodyE (fieldsA (fieldsL s) []) (hdC s).2.1 = 0
        · rw [if_pos h4]; exact ⟨h1, rfl, rfl, h4, rfl⟩
        · rw [if_neg h4] at h; exact (h4 h).elim
  · have : readH line s = ([], splitH s) := by unfold readH; rw [if_pos h1]
    rw [this] at h
    exact (h1 h).elim
theorem readH_nil {line : List UInt8 → Bool} {s : List UInt8} (h : (readH line s).2 ≠ 0) : (readH line s).1 = [] := by
  unfold readH at *
  split
  · rfl
  · split
    · rfl
    · split
      · rfl
      · split
        · rename_i h1 h2 h3 h4
          rw [if_neg h1, if_neg h2, if_neg h3, if_pos h4] at h
          exact (h rfl).elim
        · rfl
theorem readH_len (line : List UInt8 → Bool) (s : List UInt8) : (readH line s).1.length ≤ 24 := by
  by_cases h : (readH line s).2 = 0
  · obtain ⟨h1, _, _, _, h5⟩ := readH_ok h
    rw [h5]
    have h2 := (splitH_25 h1).2.2
    have h3 := fA_len (fieldsL s) []
    have h4 := List.length_filter_le notCl (fieldsA (fieldsL s) [])
    unfold fieldsL at *
    rw [List.length_drop, List.length_nil] at h3
    omega
  · rw [readH_nil h]; exact Nat.zero_le _
theorem parseQ_len (s : List UInt8) : (parseQ s).1.head.length ≤ 24 := by
  unfold parseQ
  split
  · exact readH_len _ _
  · exact Nat.zero_le _
theorem parseR_len (s : List UInt8) : (parseR s).1.head.length ≤ 24 := by
  unfold parseR
  split
  · exact readH_len _ _
  · exact Nat.zero_le _
end Go.Proofs.Tw
end

section
open Go Go.Sv
namespace Go.Proofs.Tw
set_option maxRecDepth 100000
set_option maxHeartbeats 4000000

theorem idx_no (a r : List UInt8) (c : UInt8) (h : c ∉ a) : Lib.index a (c :: r) = -1 := by
  refine Lib.index_none fun j hj => ?_
  cases hq : Lib.occAt a (c :: r) j with
  | false => rfl
  | true =>
    have := Lib.occAt_head rfl hq
    exact (h (List.mem_of_getElem? this)).elim
theorem join_two (x : List UInt8) (r : List (List UInt8)) (sep : List UInt8) (h : r ≠ []) : Lib.join (x :: r) sep = x ++ sep ++ Lib.join r sep := by
  cases r with
  | nil => exact (h rfl).elim
  | cons y r => rw [Lib.join_cons, Lib.join_cons]; simp [Lib.joinTail]
theorem split_join (c : UInt8) (r : List UInt8) : ∀ l : List (List UInt8), l ≠ [] → (∀ x ∈ l, c ∉ x) → Lib.split (Lib.join l (c :: r)) (c :: r) = l
  | [], h, _ => (h rfl).elim
  | [x], _, hx => by rw [Lib.join_one, split_miss (idx_no x r c (hx x (by simp)))]
  | x :: y :: l, _, hx => by
    rw [join_two x (y :: l) (c :: r) (by simp), split_hit (by simp) (idx_at x (Lib.join (y :: l) (c :: r)) r c (hx x (by simp)))]
    have ih := split_join c r (y :: l) (by simp) (fun z hz => hx z (by simp [hz]))
    rw [List.append_assoc, List.take_left, ← List.append_assoc, show x.length + (c :: r).length = (x ++ (c :: r)).length from by simp, List.drop_left, ih]
theorem splitK_ne (sep : List UInt8) (k : Nat) (s : List UInt8) : Lib.splitK sep 0 k s ≠ [] := by
  cases k with
  | zero => simp [Lib.splitK]
  | succ k => unfold Lib.splitK; split <;> simp
theorem join_splitK (sep : List UInt8) : ∀ (k : Nat) (s : List UInt8), Lib.join (Lib.splitK sep 0 k s) sep = s
  | 0, s => by rw [Lib.splitK, Lib.join_one]
  | k + 1, s => by
    unfold Lib.splitK
    split
    · rw [Lib.join_one]
    · rename_i h
      rw [join_two _ _ _ (splitK_ne sep k _), join_splitK sep k]
      have hne : Lib.index s sep ≠ -1 := fun e => h (by rw [e]; rfl)
      rcases Lib.index_spec s sep with ⟨h1, _⟩ | ⟨i, h1, _, h2, _⟩
      · exact (hne h1).elim
      · rw [h1, show ((i : Nat) : Int).toNat = i from by omega, Nat.add_zero]
        obtain ⟨t, ht⟩ := List.isPrefixOf_iff_prefix.1 h2
        have h3 : s.drop (i + sep.length) = t := by rw [← List.drop_drop, ← ht, List.drop_left]
        rw [h3, List.append_assoc, ht, List.take_append_drop]
end Go.Proofs.Tw
end

section
open Go Go.Sv Go.RowKit
namespace Go.Proofs.Tw
set_option maxRecDepth 100000
set_option maxHeartbeats 4000000

/-- Lines: none is empty, none has a carriage return. -/
def OkLn (x : List UInt8) : Prop := x ≠ [] ∧ (13 : UInt8) ∉ x
theorem join_13 : ∀ (l : List (List UInt8)), l ≠ [] → (∀ x ∈ l, OkLn x) → ∀ j : Nat, (Lib.join l [13, 10])[j]? = some 13 → ∃ c, (Lib.join l [13, 10])[j + 2]? = some c ∧ c ≠ 13
  | [], h, _, _, _ => (h rfl).elim
  | [x], _, hx, j, hj => by
    rw [Lib.join_one] at hj
    exact ((hx x (by simp)).2 (List.mem_of_getElem? hj)).elim
  | x :: y :: l, _, hx, j, hj => by
    rw [join_two x (y :: l) [13, 10] (by simp)] at hj ⊢
    have h0 := hx x (by simp)
    have hy := hx y (by simp)
    have ih := join_13 (y :: l) (by simp) (fun z hz => hx z (by simp [hz]))
    rcases Nat.lt_or_ge j x.length with h1 | h1
    · rw [List.append_assoc, List.getElem?_append_left h1] at hj
      exact (h0.2 (List.mem_of_getElem? hj)).elim
    · rcases Nat.lt_or_ge j (x.length + 2) with h2 | h2
      · rcases Nat.lt_or_ge j (x.length + 1) with h3 | h3
        · obtain rfl : j = x.length := by omega
          rw [List.getElem?_append_right (by simp), show x.length + 2 - (x ++ ([13, 10] : List UInt8)).length = 0 from by simp]
          have : ∃ c r, Lib.join (y :: l) [13, 10] = c :: r ∧ c ∈ y := by
            rw [Lib.join_cons]
            cases y with
            | nil => exact (hy.1 rfl).elim
            | cons c r => exact ⟨c, r ++ Lib.joinTail [13, 10] l, rfl, by simp⟩
          obtain ⟨c, r, e, hc⟩ := this
          exact ⟨c, by rw [e]; rfl, fun e13 => hy.2 (e13 ▸ hc)⟩
        · obtain rfl : j = x.length + 1 := by omega
          rw [List.getElem?_append_left (by simp), List.getElem?_append_right (by omega)] at hj
          simp at hj
      · rw [List.getElem?_append_right (by simp; omega)] at hj ⊢
        simp only [List.length_append, List.length_cons, List.length_nil] at hj ⊢
        obtain ⟨c, hc, hn⟩ := ih _ hj
        exact ⟨c, by rw [← hc]; congr 1; omega, hn⟩
theorem cut_head (l : List (List UInt8)) (b : List UInt8) (hl : l ≠ []) (hx : ∀ x ∈ l, OkLn x) : Lib.cut (Lib.join l [13, 10] ++ [13, 10, 13, 10] ++ b) [13, 10, 13, 10] = (Lib.join l [13, 10], b, true) := by
  have h := join_13 l hl hx
  generalize Lib.join l [13, 10] = H at *
  have hi : Lib.index (H ++ [13, 10, 13, 10] ++ b) [13, 10, 13, 10] = H.length := by
    refine Lib.index_first (by simp) ?_ fun j hj => ?_
    · unfold Lib.occAt
      rw [List.append_assoc, List.drop_left]
      exact List.isPrefixOf_iff_prefix.2 ⟨b, rfl⟩
    · cases hq : Lib.occAt (H ++ [13, 10, 13, 10] ++ b) [13, 10, 13, 10] j with
      | false => rfl
      | true =>
        have h13 := Lib.occAt_head rfl hq
        rw [List.append_assoc, List.getElem?_append_left hj] at h13
        obtain ⟨c, hc, hn⟩ := h j h13
        have hc' : (H ++ [13, 10, 13, 10] ++ b)[j + 2]? = some c := by
          have : j + 2 < H.length := by
            rcases Nat.lt_or_ge (j + 2) H.length with h | h
            · exact h
            · rw [List.getElem?_eq_none h] at hc; cases hc
          rw [List.append_assoc, List.getElem?_append_left this]; exact hc
        unfold Lib.occAt at hq
        obtain ⟨t, ht⟩ := List.isPrefixOf_iff_prefix.1 hq
        have h2 : ((H ++ [13, 10, 13, 10] ++ b).drop j)[2]? = some 13 := by rw [← ht]; rfl
        rw [List.getElem?_drop, hc'] at h2
        exact (hn (Option.some.inj h2)).elim
  unfold Lib.cut
  rw [hi, if_pos (by omega)]
  simp only [Int.toNat_natCast]
  refine Prod.ext ?_ (Prod.ext ?_ rfl)
  · show (H ++ [13, 10, 13, 10] ++ b).take H.length = H
    rw [List.append_assoc, List.take_left]
  · show (H ++ [13, 10, 13, 10] ++ b).drop (H.length + 4) = b
    rw [show H.length + 4 = (H ++ [13, 10, 13, 10]).length from by simp, List.drop_left]
def lnF (f : FT) : List UInt8 := f.name ++ [58, 32] ++ f.value
def lnsT (l : List FT) (b : List UInt8) : List (List UInt8) := l.map lnF ++ if b = [] then [] else [clN ++ [58, 32] ++ Lib.decDigits b.length]
theorem tail_lines : ∀ (l : List (List UInt8)), [13, 10] ++ l.flatMap (fun p => p ++ [13, 10]) = Lib.joinTail [13, 10] l ++ [13, 10]
  | [] => rfl
  | x :: r => by
    have := tail_lines r
    unfold Lib.joinTail at *
    rw [List.map_cons, List.flatten_cons, List.flatMap_cons, List.append_assoc _ _ [13, 10], ← this]
    simp
theorem lines_join (F : List UInt8) (l : List FT) (b : List UInt8) : F ++ [13, 10] ++ linesT l b = Lib.join (F :: lnsT l b) [13, 10] ++ [13, 10, 13, 10] := by
  rw [Lib.join_cons]
  have h : l.flatMap fieldL ++ clL b = (lnsT l b).flatMap (fun p => p ++ [13, 10]) := by
    unfold lnsT clL
    rw [List.flatMap_append, List.flatMap_map]
    congr 1
    cases b with
    | nil => rfl
    | cons c r =>
      rw [if_neg (by simp), if_neg (by simp), itoa_nat]
      simp [clN]
  unfold linesT
  rw [h, List.append_assoc F, ← List.append_assoc [13, 10] _ (_ : List UInt8), tail_lines]
  simp
theorem okF_parts {f : FT} (h : okF f = true) : tokenT f.name = true ∧ foldT f.name = f.name ∧ f.name ≠ clN ∧ f.value.all seenB = true := by
  unfold okF at h
  simp only [Bool.and_eq_true, Bool.not_eq_true', beq_eq_false_iff_ne] at h
  exact ⟨h.1, eq_of_beq h.2.1, h.2.2.1, h.2.2.2⟩
theorem tok_no {s : List UInt8} (h : tokenT s = true) : (13 : UInt8) ∉ s ∧ (58 : UInt8) ∉ s ∧ s ≠ [] := by
  unfold tokenT at h
  rw [Bool.and_eq_true, List.all_eq_true] at h
  refine ⟨fun hc => ?_, fun hc => ?_, fun he => ?_⟩
  · have := h.2 _ hc; revert this; decide
  · have := h.2 _ hc; revert this; decide
  · rw [he] at h; exact absurd h.1 (by decide)
theorem seen_no {s : List UInt8} (h : s.all seenB = true) : (13 : UInt8) ∉ s := by
  rw [List.all_eq_true] at h
  intro hc
  have := h _ hc
  revert this
  decide
theorem dec_13 (n : Nat) : (13 : UInt8) ∉ Lib.decDigits n := by
  have h := dec_all n
  rw [List.all_eq_true] at h
  intro hc
  have := h _ hc
  revert this
  decide
theorem lnF_ok {f : FT} (h : okF f = true) : OkLn (lnF f) := by
  obtain ⟨h1, h2, h3, h4⟩ := okF_parts h
  obtain ⟨a, b, c⟩ := tok_no h1
  refine ⟨by unfold lnF; simp, ?_⟩
  unfold lnF
  simp only [List.mem_append, List.mem_cons, List.not_mem_nil, or_false, not_or]
  exact ⟨⟨a, by decide, by decide⟩, seen_no h4⟩
theorem lns_ok {l : List FT} {b : List UInt8} (h : ∀ f ∈ l, okF f = true) : ∀ x ∈ lnsT l b, OkLn x := by
  intro x hx
  unfold lnsT at hx
  rcases List.mem_append.1 hx with hx | hx
  · obtain ⟨f, hf, rfl⟩ := List.mem_map.1 hx
    exact lnF_ok (h f hf)
  · split at hx
    · cases hx
    · rw [List.mem_singleton.1 hx]
      refine ⟨by simp [clN], ?_⟩
      simp only [List.mem_append, List.mem_cons, List.not_mem_nil, or_false, not_or]
      exact ⟨⟨by decide, by decide, by decide⟩, dec_13 _⟩
theorem cut_ln {n v : List UInt8} (h : (58 : UInt8) ∉ n) : Lib.cut (n ++ [58, 32] ++ v) [58, 32] = (n, v, true) := cut_at n v [32] 58 h
theorem okA_ln {acc : List FT} {f : FT} (h : okF f = true) (hn : ∀ g ∈ acc, g.name ≠ f.name) : okA acc (lnF f) = true ∧ lineF (lnF f) = f := by
  obtain ⟨h1, h2, h3, h4⟩ := okF_parts h
  obtain ⟨_, h58, _⟩ := tok_no h1
  have hc : Lib.cut (lnF f) [58, 32] = (f.name, f.value, true) := cut_ln h58
  have hl : lineF (lnF f) = f := by unfold lineF; rw [hc]; show FT.mk (foldT f.name) f.value = f; rw [h2]
  refine ⟨?_, hl⟩
  unfold okA okL
  rw [hl, hc, h1, h4]
  cases hg : (fGet acc f.name).isSome with
  | false => rfl
  | true =>
    rw [← fGet_con, List.contains_iff_mem] at hg
    obtain ⟨g, hg1, hg2⟩ := List.mem_map.1 hg
    exact (hn g hg1 hg2).elim
theorem fA_lns : ∀ (l acc : List FT) (r : List (List UInt8)), (∀ f ∈ l, okF f = true) → (acc ++ l).Pairwise (fun x y => x.name ≠ y.name) → fieldsA (l.map lnF ++ r) acc = fieldsA r (acc ++ l) ∧ fieldsO (l.map lnF ++ r) acc = fieldsO r (acc ++ l)
  | [], acc, r, _, _ => by simp
  | f :: l, acc, r, h, hp => by
    have hn : ∀ g ∈ acc, g.name ≠ f.name := fun g hg => by
      rw [List.pairwise_append] at hp
      exact hp.2.2 g hg f (by simp)
    obtain ⟨h1, h2⟩ := okA_ln (h f (by simp)) hn
    have ih := fA_lns l (acc ++ [f]) r (fun g hg => h g (by simp [hg])) (by simpa using hp)
    rw [List.map_cons, List.cons_append, fieldsA, fieldsO, h1, if_pos rfl, if_pos rfl, h2, ih.1, ih.2]
    simp
theorem okA_cl {acc : List FT} {d : List UInt8} (hd : d.all seenB = true) (hn : fGet acc clN = none) : okA acc (clN ++ [58, 32] ++ d) = true ∧ lineF (clN ++ [58, 32] ++ d) = ⟨clN, d⟩ := by
  have hc : Lib.cut (clN ++ [58, 32] ++ d) [58, 32] = (clN, d, true) := cut_ln (by decide)
  have hl : lineF (clN ++ [58, 32] ++ d) = ⟨clN, d⟩ := by unfold lineF; rw [hc]; rfl
  refine ⟨?_, hl⟩
  unfold okA okL
  rw [hl, hc, hd, show (FT.mk clN d).name = clN from rfl, hn]
  rfl
theorem unlike_pw {l : List FT} (h : unlikeQ l = true) : l.Pairwise (fun x y => x.name ≠ y.name) := by
  unfold unlikeQ at h
  rw [List.all_eq_true] at h
  rw [List.pairwise_iff_getElem]
  intro i j hi hj hij he
  have := h j (List.mem_range.2 hj)
  unfold okQ at this
  rw [Bool.and_eq_true, ← fGet_isIn, ← fGet_con] at this
  have hm : ((l.take j).map (·.name)).contains (l.getD j .nil).name = true := by
    rw [List.contains_iff_mem]
    refine List.mem_map.2 ⟨l[i], ?_, ?_⟩
    · rw [List.mem_take_iff_getElem]
      exact ⟨i, by omega, rfl⟩
    · rw [he]; simp [List.getD, hj]
  rw [hm] at this
  simp at this
theorem numK_dec (n : Nat) (h : n ≤ 5000) : numK 9 (Lib.decDigits n) = true := by
  unfold numK
  have := dec_len4 h
  rw [canon_dec, decide_eq_true (by omega)]
  rfl
/-- What of a text comes that has a first line, fields, a body. -/
theorem read_text {line : List UInt8 → Bool} {F : List UInt8} {l : List FT} {b : List UInt8} (hF : OkLn F) (hl : line F = true) (hh : headT l b = true) (hs : (F ++ [13, 10] ++ linesT l b).length ≤ 2048) :
    readH line (F ++ [13, 10] ++ linesT l b ++ b) = (l, 0) ∧ firstH (F ++ [13, 10] ++ linesT l b ++ b) = F ∧ (hdC (F ++ [13, 10] ++ linesT l b ++ b)).2.1 = b := by
  unfold headT at hh
  simp only [Bool.and_eq_true, decide_eq_true_eq, List.all_eq_true] at hh
  obtain ⟨hok, hmost, hunl, hb⟩ := hh
  have hlo : ∀ x ∈ F :: lnsT l b, OkLn x := by
    intro x hx
    rcases List.mem_cons.1 hx with rfl | hx
    · exact hF
    · exact lns_ok hok x hx
  have hcut : hdC (F ++ [13, 10] ++ linesT l b ++ b) = (Lib.join (F :: lnsT l b) [13, 10], b, true) := by
    unfold hdC
    rw [lines_join]
    exact cut_head _ b (by simp) hlo
  have hlen : (Lib.join (F :: lnsT l b) [13, 10]).length + 4 ≤ 2048 := by
    rw [lines_join, List.length_append] at hs
    exact hs
  have hlin : linesH (F ++ [13, 10] ++ linesT l b ++ b) = F :: lnsT l b := by
    unfold linesH
    rw [hcut]
    exact split_join 13 [10] _ (by simp) (fun x hx => (hlo x hx).2)
  generalize F ++ [13, 10] ++ linesT l b ++ b = S at *
  have hbig : bigH S = false := by unfold bigH; rw [hcut]; show decide (((Lib.join (F :: lnsT l b) [13, 10]).length : Int) + 4 > 2048) = false; simp; omega
  have hll : (lnsT l b).length ≤ 24 := by
    unfold lnsT
    unfold mostT at hmost
    rw [List.length_append, List.length_map]
    by_cases hbe : b = []
    · subst hbe; rw [if_pos rfl]; simp at hmost ⊢; omega
    · have : (b == []) = false := by simpa using hbe
      rw [this, if_neg (by decide)] at hmost
      rw [if_neg hbe]; simp; omega
  have hsp : splitH S = 0 := splitH_yes hbig (by rw [hcut]) (by rw [hlin, List.length_cons]; omega)
  have hf : firstH S = F := by unfold firstH; rw [hlin]; rfl
  have hfl : fieldsL S = lnsT l b := by unfold fieldsL; rw [hlin]; rfl
  have hpw := unlike_pw hunl
  obtain ⟨fA, fO⟩ := fA_lns l [] (if b = [] then [] else [clN ++ [58, 32] ++ Lib.decDigits b.length]) hok (by simpa using hpw)
  rw [List.nil_append] at fA fO
  have hncl : ∀ g ∈ l, g.name ≠ clN := fun g hg => (okF_parts (hok g hg)).2.2.1
  have hno : fGet l clN = none := by
    cases hg : (fGet l clN).isSome with
    | false => simpa using hg
    | true =>
      rw [← fGet_con, List.contains_iff_mem] at hg
      obtain ⟨g, hg1, hg2⟩ := List.mem_map.1 hg
      exact (hncl g hg1 hg2).elim
  have hfil : l.filter notCl = l := filter_none hno
  have hds : (Lib.decDigits b.length).all seenB = true := dig_seen (dec_all _)
  obtain ⟨k1, k2⟩ := okA_cl hds hno
  have hO : fieldsO (fieldsL S) [] = true := by
    rw [hfl]
    unfold lnsT
    rw [fO]
    by_cases hbe : b = []
    · rw [if_pos hbe]; rfl
    · rw [if_neg hbe, fieldsO, k1, if_pos rfl]; rfl
  refine ⟨?_, hf, by rw [hcut]⟩
  rw [readH_end hsp (by rw [hf]; exact hl) hO, hfl, hcut]
  unfold lnsT
  rw [fA]
  by_cases hbe : b = []
  · rw [if_pos hbe, fieldsA]
    have : bodyE l b = 0 := by unfold bodyE; rw [hno, hbe]; rfl
    rw [if_pos this, hfil]
  · rw [if_neg hbe, fieldsA, k1, if_pos rfl, fieldsA, k2]
    have : bodyE (l ++ [⟨clN, Lib.decDigits b.length⟩]) b = 0 := by
      unfold bodyE
      rw [snoc_cl l _ (by simp) hno]
      show szE (Lib.decDigits b.length) true b = 0
      unfold szE
      rw [if_pos rfl, numK_dec _ (by omega), if_neg (by decide), nv_dec, if_neg (by omega), if_pos rfl]
    rw [if_pos this, filt_cl l _ (by simp), hfil]
theorem great_no {s : List UInt8} (h : s.all greatB = true) : (13 : UInt8) ∉ s ∧ (32 : UInt8) ∉ s := by
  rw [List.all_eq_true] at h
  exact ⟨fun hc => by have := h _ hc; revert this; decide, fun hc => by have := h _ hc; revert this; decide⟩
theorem tg_13 {t : List UInt8} (h : t.all tgB = true) : (13 : UInt8) ∉ t := by
  intro hc
  rw [List.all_eq_true] at h
  have := h _ hc
  revert this
  decide
/-- A request that is printed is parsed. -/
theorem parse_print_Q {r : QT} (h : mayAskT r = true) : parseQ (printAskT r) = (r, 0) := by
  unfold printAskT
  rw [if_pos h]
  unfold mayAskT at h
  rw [mayM_eq, Bool.cond_false_right, Bool.and_eq_true, Bool.and_eq_true, decide_eq_true_eq] at h
  obtain ⟨hl, hh, hs⟩ := h
  have hlin := hl
  unfold linedT methT targT at hl
  simp only [Bool.and_eq_true, decide_eq_true_eq] at hl
  obtain ⟨⟨g1, g2, g3⟩, t1, t2, t3⟩ := hl
  rw [ahead_lines] at hs ⊢
  have hb := (askedM r).head
  have hF : OkLn (askedM r).first := by
    refine ⟨by show r.method ++ [32] ++ r.target ++ [32] ++ httpV ≠ []; simp, ?_⟩
    show (13 : UInt8) ∉ r.method ++ [32] ++ r.target ++ [32] ++ httpV
    simp only [List.mem_append, List.mem_cons, List.not_mem_nil, or_false, not_or]
    exact ⟨⟨⟨⟨(great_no g1).1, by decide⟩, tg_13 t1⟩, by decide⟩, by decide⟩
  have hc : Lib.cut (askedM r).first [32] = (r.method, r.target ++ [32, 72, 84, 84, 80, 47, 49, 46, 49], true) := by
    have := cut_at r.method (r.target ++ [32, 72, 84, 84, 80, 47, 49, 46, 49]) [] 32 (great_no g1).2
    rw [← this]
    congr 1
    show r.method ++ [32] ++ r.target ++ [32] ++ httpV = _
    unfold httpV
    simp
  obtain ⟨s1, s2⟩ := suf_app r.target [32, 72, 84, 84, 80, 47, 49, 46, 49]
  have m1 : askM (askedM r).first = r.method := by unfold askM; rw [hc]
  have m2 : askT (askedM r).first = r.target := by unfold askT; rw [hc]; exact s2
  have m3 : askB (askedM r).first = true := by unfold askB; rw [m1, m2, hc]; show (Lib.hasSuffix (r.target ++ [32, 72, 84, 84, 80, 47, 49, 46, 49]) [32, 72, 84, 84, 80, 47, 49, 46, 49] && _) = true; rw [s1, hlin]; rfl
  obtain ⟨q1, q2, q3⟩ := read_text hF m3 hh (by omega)
  unfold parseQ
  rw [show r.body = (askedM r).body from rfl, q1, if_pos rfl, q2, q3, m1, m2]
  rfl
theorem reason_no (n : Int) : (13 : UInt8) ∉ reasonT n ∧ (reasonT n).all seenB = true := by
  unfold reasonT
  repeat' split
  all_goals exact ⟨by decide, by decide⟩
/-- A response that is printed is parsed. -/
theorem parse_print_R {r : RT} (h : mayTell r = true) : parseR (printTell r) = (r, 0) := by
  unfold printTell
  rw [if_pos h]
  unfold mayTell at h
  rw [mayM_eq, Bool.cond_false_right, Bool.and_eq_true, Bool.and_eq_true, decide_eq_true_eq] at h
  obtain ⟨hl, hh, hs⟩ := h
  have hst := hl
  unfold statedT at hl
  rw [Bool.cond_false_right, Bool.and_eq_true, decide_eq_true_eq, decide_eq_true_eq] at hl
  obtain ⟨n, hn⟩ := Int.eq_ofNat_of_zero_le (show 0 ≤ r.status by omega)
  have hit : Lib.itoa r.status = Lib.decDigits n := by rw [hn, itoa_nat]
  rw [ahead_lines] at hs ⊢
  obtain ⟨r1, r2⟩ := reason_no r.status
  have hd := dec_all n
  have hF : OkLn (toldM r).first := by
    refine ⟨by show [72, 84, 84, 80, 47, 49, 46, 49, 32] ++ Lib.itoa r.status ++ [32] ++ reasonT r.status ≠ []; simp, ?_⟩
    show (13 : UInt8) ∉ [72, 84, 84, 80, 47, 49, 46, 49, 32] ++ Lib.itoa r.status ++ [32] ++ reasonT r.status
    rw [hit]
    simp only [List.mem_append, List.mem_cons, List.not_mem_nil, or_false, not_or]
    exact ⟨⟨⟨by decide, dec_13 n⟩, by decide⟩, r1⟩
  have hp : Lib.hasPrefix (toldM r).first verS = true := List.isPrefixOf_iff_prefix.2 ⟨Lib.itoa r.status ++ [32] ++ reasonT r.status, by show verS ++ _ = [72, 84, 84, 80, 47, 49, 46, 49, 32] ++ Lib.itoa r.status ++ [32] ++ reasonT r.status; unfold verS; simp⟩
  have ht : Lib.trimPrefix (toldM r).first verS = Lib.decDigits n ++ [32] ++ reasonT r.status := by
    unfold Lib.trimPrefix
    rw [if_pos hp, ← hit]
    show ([72, 84, 84, 80, 47, 49, 46, 49, 32] ++ Lib.itoa r.status ++ [32] ++ reasonT r.status).drop verS.length = _
    rw [show [72, 84, 84, 80, 47, 49, 46, 49, 32] ++ Lib.itoa r.status ++ [32] ++ reasonT r.status = verS ++ (Lib.itoa r.status ++ [32] ++ reasonT r.status) from by unfold verS; simp, List.drop_left]
  have hc : tellC (toldM r).first = (Lib.decDigits n, reasonT r.status, true) := by
    unfold tellC
    rw [ht]
    exact cut_at (Lib.decDigits n) (reasonT r.status) [] 32 (dig_32 hd)
  have hk : numK 3 (Lib.decDigits n) = true := by
    unfold numK
    have := dec_len_le 2 n (by omega)
    rw [canon_dec, decide_eq_true (by omega)]
    rfl
  have hN : tellN (toldM r).first = r.status := by unfold tellN; rw [hc, if_pos hk, nv_dec, hn]
  have m3 : tellB (toldM r).first = true := by
    unfold tellB
    rw [hp, hN, hc, hk, hst, r2]
    rfl
  obtain ⟨q1, q2, q3⟩ := read_text hF m3 hh (by omega)
  unfold parseR
  rw [show r.body = (toldM r).body from rfl, q1, if_pos rfl, q2, q3, hN]
  rfl
end Go.Proofs.Tw
end

section
open Go Go.Sv Go.RowKit
namespace Go.Proofs.Tw
attribute [local irreducible] Wp FinQ resV Ent Pur Go.Sv.Fn Sat0
set_option maxRecDepth 100000
set_option maxHeartbeats 4000000
variable {G : Nat → Option (List Cell)}

theorem flat_le {B : Nat} : ∀ (l : List FT), (∀ f ∈ l, f.name.length ≤ B ∧ f.value.length ≤ B) → (l.flatMap fieldL).length ≤ l.length * (2 * B + 4)
  | [], _ => by simp
  | x :: r, h => by
    have := flat_le r (fun f hf => h f (by simp [hf]))
    have hx := h x (by simp)
    rw [List.flatMap_cons, List.length_append, field_len, List.length_cons, Nat.succ_mul]
    omega
theorem clL_any (b : List UInt8) : (clL b).length ≤ b.length + 19 := by
  unfold clL
  split
  · simp
  · rw [itoa_nat]
    have := dec_len b.length
    simp only [List.length_append, List.length_cons, List.length_nil]
    omega
end Go.Proofs.Tw
end

section
open Go Go.Sv Go.RowKit
namespace Go.Proofs.Tw
set_option maxRecDepth 100000
set_option maxHeartbeats 4000000

theorem fold_tok {s : List UInt8} (h : tokenT s = true) : tokenT (foldT s) = true ∧ foldT (foldT s) = foldT s := by
  have b1 : ∀ c : UInt8, (!tokenB c || tokenB (foldB c)) = true := byte_all _ (by kernel_rfl)
  have b2 : ∀ c : UInt8, (foldB (foldB c) == foldB c) = true := byte_all _ (by kernel_rfl)
  unfold tokenT at h ⊢
  rw [Bool.and_eq_true, List.all_eq_true] at h
  refine ⟨?_, ?_⟩
  · rw [Bool.and_eq_true, List.all_eq_true]
    refine ⟨?_, fun c hc => ?_⟩
    · cases s with
      | nil => exact absurd h.1 (by decide)
      | cons a r => rfl
    · unfold foldT at hc
      obtain ⟨d, hd, rfl⟩ := List.mem_map.1 hc
      have := b1 d
      rw [h.2 d hd] at this
      simpa using this
  · unfold foldT
    rw [List.map_map]
    exact List.map_congr_left fun c _ => eq_of_beq (b2 c)
/-- What is known of fields that were taken. -/
def OkA (l : List FT) : Prop := (∀ f ∈ l, tokenT f.name = true ∧ foldT f.name = f.name ∧ f.value.all seenB = true) ∧ l.Pairwise (fun x y => x.name ≠ y.name)
def sumL (l : List FT) : Nat := (l.map fun f => f.name.length + f.value.length + 4).sum
def sumP (l : List (List UInt8)) : Nat := (l.map fun p => p.length + 2).sum
theorem sumL_app (a b : List FT) : sumL (a ++ b) = sumL a + sumL b := by unfold sumL; rw [List.map_append, List.sum_append]
theorem fA_facts : ∀ (l : List (List UInt8)) (acc : List FT), OkA acc → fieldsO l acc = true → OkA (fieldsA l acc) ∧ (fieldsA l acc).length = acc.length + l.length ∧ sumL (fieldsA l acc) = sumL acc + sumP l
  | [], acc, h, _ => by simp [fieldsA, h, sumP]
  | p :: r, acc, h, ho => by
    rw [fieldsO] at ho
    rw [fieldsA]
    cases hk : okA acc p with
    | false => rw [hk] at ho; cases ho
    | true =>
      rw [hk, if_pos rfl] at ho
      rw [if_pos rfl]
      unfold okA okL at hk
      simp only [Bool.and_eq_true, Bool.not_eq_true'] at hk
      obtain ⟨⟨k1, k2, k3⟩, k4⟩ := hk
      obtain ⟨t1, t2⟩ := fold_tok k2
      have hnew : OkA (acc ++ [lineF p]) := by
        refine ⟨fun f hf => ?_, ?_⟩
        · rcases List.mem_append.1 hf with hf | hf
          · exact h.1 f hf
          · rw [List.mem_singleton.1 hf]; exact ⟨t1, t2, k3⟩
        · rw [List.pairwise_append]
          refine ⟨h.2, List.pairwise_singleton _ _, fun x hx y hy => ?_⟩
          rw [List.mem_singleton.1 hy]
          exact fGet_no k4 x hx
      obtain ⟨i1, i2, i3⟩ := fA_facts r _ hnew ho
      refine ⟨i1, by rw [i2]; simp; omega, ?_⟩
      have e := congrArg List.length (cut_true (p := [58, 32]) k1)
      have hl : sumL [lineF p] = p.length + 2 := by
        unfold sumL lineF foldT
        simp only [List.length_append, List.length_cons, List.length_nil] at e
        simp only [List.map_cons, List.map_nil, List.sum_cons, List.sum_nil, List.length_map]
        omega
      rw [i3, sumL_app, hl]
      unfold sumP
      rw [List.map_cons, List.sum_cons]
      omega
theorem filt_sum (l : List FT) : sumL (l.filter notCl) ≤ sumL l := by
  induction l with
  | nil => exact Nat.le_refl _
  | cons x r ih =>
    rw [List.filter_cons]
    unfold sumL at *
    split
    · rw [List.map_cons, List.sum_cons, List.map_cons, List.sum_cons]; omega
    · rw [List.map_cons, List.sum_cons]; omega
theorem flat_sum (l : List FT) : (l.flatMap fieldL).length = sumL l := by
  induction l with
  | nil => rfl
  | cons x r ih =>
    rw [List.flatMap_cons, List.length_append, ih, field_len]
    unfold sumL
    rw [List.map_cons, List.sum_cons]
theorem tail_sum : ∀ l : List (List UInt8), (Lib.joinTail [13, 10] l).length = sumP l
  | [] => rfl
  | x :: r => by
    have := tail_sum r
    unfold Lib.joinTail sumP at *
    rw [List.map_cons, List.flatten_cons, List.length_append, this, List.map_cons, List.sum_cons]
    simp
    try omega
theorem head_sum {s : List UInt8} : (firstH s).length + sumP (fieldsL s) = (hdC s).1.length := by
  have h1 : Lib.join (linesH s) [13, 10] = (hdC s).1 := join_splitK _ _ _
  have hp := lines_pos s
  unfold firstH fieldsL
  generalize linesH s = L at *
  cases L with
  | nil => simp at hp
  | cons x r =>
    rw [← h1, Lib.join_cons, List.length_append, tail_sum]
    rfl
theorem unlike_of {l : List FT} (h : OkA l) : unlikeQ l = true := by
  unfold unlikeQ
  rw [List.all_eq_true]
  intro i hi
  have hi := List.mem_range.1 hi
  unfold okQ
  have ht := (h.1 _ (getD_mem hi)).1
  unfold tokenT at ht
  rw [Bool.and_eq_true] at ht
  rw [ht.1, Bool.true_and, ← fGet_isIn, ← fGet_con]
  cases hc : ((l.take i).map (·.name)).contains (l.getD i .nil).name with
  | false => rfl
  | true =>
    rw [List.contains_iff_mem] at hc
    obtain ⟨f, hf, he⟩ := List.mem_map.1 hc
    obtain ⟨j, hj, rfl⟩ := List.getElem_of_mem hf
    rw [List.length_take] at hj
    have := List.pairwise_iff_getElem.1 h.2 j i (by omega) hi (by omega)
    rw [List.getElem_take] at he
    refine (this ?_).elim
    rw [he]
    simp [List.getD, hi]
/-- What is taken of a text is a head that may be; how long it is written. -/
theorem read_may {line : List UInt8 → Bool} {s : List UInt8} (h : (readH line s).2 = 0) : headT (readH line s).1 (hdC s).2.1 = true ∧ (linesT (readH line s).1 (hdC s).2.1).length + (firstH s).length ≤ (hdC s).1.length + 24 ∧ (hdC s).2.1.length ≤ 4096 := by
  obtain ⟨h1, h2, h3, h4, h5⟩ := readH_ok h
  rw [h5]
  obtain ⟨a1, a2, a3⟩ := fA_facts (fieldsL s) [] ⟨fun f hf => (by cases hf), List.Pairwise.nil⟩ h3
  have h25 := (splitH_25 h1).2.2
  have hfl : (fieldsL s).length ≤ 24 := by unfold fieldsL; rw [List.length_drop]; omega
  have hsum := head_sum (s := s)
  generalize fieldsA (fieldsL s) [] = A at *
  rw [List.length_nil, Nat.zero_add] at a2
  rw [show sumL [] = 0 from rfl, Nat.zero_add] at a3
  have hfs := filt_sum A
  have hsub : (A.filter notCl).Sublist A := List.filter_sublist
  have hB : OkA (A.filter notCl) := ⟨fun f hf => a1.1 f (hsub.subset hf), a1.2.sublist hsub⟩
  have hall : (A.filter notCl).all okF = true := by
    rw [List.all_eq_true]
    intro f hf
    obtain ⟨b1, b2, b3⟩ := hB.1 f hf
    have b4 : (f.name == clN) = false := by
      have := (List.mem_filter.1 hf).2
      unfold notCl at this
      simpa using this
    unfold okF
    rw [b1, b2, b3, b4]
    simp
  generalize hr : (hdC s).2.1 = b at *
  have hbl : b.length ≤ 4096 ∧ (b ≠ [] → (fGet A clN).isSome = true) := by
    unfold bodyE szE at h4
    split at h4
    · rename_i hd
      split at h4
      · cases h4
      · split at h4
        · cases h4
        · split at h4
          · rename_i q1 q2 q3
            exact ⟨by omega, fun _ => hd⟩
          · cases h4
    · split at h4
      · rename_i q; rw [q]; exact ⟨by simp, fun hne => (hne rfl).elim⟩
      · cases h4
  have hmost : ((A.filter notCl).length : Int) ≤ mostT b := by
    have hle := List.length_filter_le notCl A
    unfold mostT
    by_cases hbe : b = []
    · rw [hbe]; show _ ≤ (24 : Int); omega
    · have hb : (b == []) = false := by simpa using hbe
      rw [hb, if_neg (by decide)]
      have hs := hbl.2 hbe
      rw [← fGet_con, List.contains_iff_mem] at hs
      obtain ⟨f, hf, he⟩ := List.mem_map.1 hs
      have : (A.filter notCl).length < A.length := List.length_filter_lt_length_iff_exists.2 ⟨f, hf, by unfold notCl; simp [he]⟩
      omega
  refine ⟨?_, ?_, hbl.1⟩
  · unfold headT
    rw [hall, unlike_of hB, decide_eq_true hmost, decide_eq_true (by omega)]
    rfl
  · unfold linesT
    have hcl := clL_len b (by omega)
    simp only [List.length_append, List.length_cons, List.length_nil]
    rw [flat_sum]
    omega
theorem hdC_le (s : List UInt8) : (hdC s).1.length ≤ s.length ∧ (hdC s).2.1.length ≤ s.length := cut_len s [13, 10, 13, 10]
theorem parse_may_Q {s : List UInt8} (h : (parseQ s).2 = 0) (hl : s.length ≤ 1900) : mayAskT (parseQ s).1 = true := by
  have h0 : (readH askB s).2 = 0 := by
    unfold parseQ at h
    split at h
    · rename_i q; exact q
    · exact h
  obtain ⟨m1, m2, m3⟩ := read_may h0
  obtain ⟨r1, r2, r3, r4, r5⟩ := readH_ok h0
  have hle := hdC_le s
  have hp : (parseQ s).1 = ⟨askM (firstH s), askT (firstH s), (readH askB s).1, (hdC s).2.1⟩ := by unfold parseQ; rw [if_pos h0]
  rw [hp]
  have hf := r2
  unfold askB at r2
  rw [Bool.and_eq_true] at r2
  have hfl : (firstQ ⟨askM (firstH s), askT (firstH s), (readH askB s).1, (hdC s).2.1⟩).length = (firstH s).length + 2 := by
    have h13 := ask13_to hf
    unfold ask13 at h13
    rw [Bool.and_eq_true] at h13
    have e1 := congrArg List.length (cut_true (p := [32]) h13.1)
    have e2 := congrArg List.length (suf_true r2.1)
    unfold firstQ askM askT
    simp only [List.length_append, List.length_cons, List.length_nil] at e1 e2 ⊢
    omega
  unfold mayAskT
  rw [r2.2, mayM_eq, ahead_Q]
  show (headT (readH askB s).1 (hdC s).2.1 && _) = true
  rw [m1, decide_eq_true (by rw [List.length_append, hfl]; show (((firstH s).length + 2 + (linesT (readH askB s).1 (hdC s).2.1).length : Nat) : Int) ≤ 2048; omega)]
  rfl
theorem firstR_len (r : RT) (h0 : 0 ≤ r.status) (h1 : r.status ≤ 1000) : (firstR r).length ≤ 48 := by
  have h3 := reason_len r.status
  obtain ⟨n, hn⟩ := Int.eq_ofNat_of_zero_le h0
  have h4 : (Lib.itoa r.status).length ≤ 4 := by rw [hn, itoa_nat]; exact dec_len4 (by omega)
  unfold firstR verS
  simp only [List.length_append, List.length_cons, List.length_nil]
  omega
theorem parse_may_R {s : List UInt8} (h : (parseR s).2 = 0) (hl : s.length ≤ 1900) : mayTell (parseR s).1 = true := by
  have h0 : (readH tellB s).2 = 0 := by
    unfold parseR at h
    split at h
    · rename_i q; exact q
    · exact h
  obtain ⟨m1, m2, m3⟩ := read_may h0
  obtain ⟨r1, r2, r3, r4, r5⟩ := readH_ok h0
  have hle := hdC_le s
  have hp : (parseR s).1 = ⟨tellN (firstH s), (readH tellB s).1, (hdC s).2.1⟩ := by unfold parseR; rw [if_pos h0]
  rw [hp]
  obtain ⟨_, _, p3, _, p5, p6⟩ := tell_parts r2
  have hN : tellN (firstH s) = ((nv (tellC (firstH s)).1 : Nat) : Int) := by unfold tellN; rw [p3, if_pos rfl]
  have hfl := firstR_len ⟨tellN (firstH s), (readH tellB s).1, (hdC s).2.1⟩ (by show 0 ≤ tellN (firstH s); omega) (by show tellN (firstH s) ≤ 1000; omega)
  unfold mayTell
  rw [show statedT (RT.mk (tellN (firstH s)) (readH tellB s).1 (hdC s).2.1).status = true from by
    unfold statedT
    show (bif decide (tellN (firstH s) ≥ 100) then decide (tellN (firstH s) ≤ 599) else false) = true
    rw [decide_eq_true (by omega), decide_eq_true (by omega)]; rfl, mayM_eq, ahead_R]
  show (headT (readH tellB s).1 (hdC s).2.1 && _) = true
  rw [m1, decide_eq_true (by rw [List.length_append]; show (((firstR ⟨tellN (firstH s), (readH tellB s).1, (hdC s).2.1⟩).length + (linesT (readH tellB s).1 (hdC s).2.1).length : Nat) : Int) ≤ 2048; omega)]
  rfl
/-- All that is parsed fits. -/
theorem readH_sm (line : List UInt8 → Bool) (s : List UInt8) : ∀ f ∈ (readH line s).1, f.name.length ≤ s.length ∧ f.value.length ≤ s.length := by
  by_cases h : (readH line s).2 = 0
  · obtain ⟨_, _, _, _, h5⟩ := readH_ok h
    rw [h5]
    intro f hf
    exact fA_sm (B := s.length) _ [] (fldsL_sm s) (fun f hf => by cases hf) f (List.mem_filter.1 hf).1
  · rw [readH_nil h]; intro f hf; cases hf
theorem fit_len {l : List FT} {b : List UInt8} {B : Nat} (hB : B ≤ 9000) (hs : ∀ f ∈ l, f.name.length ≤ B ∧ f.value.length ≤ B) (hn : l.length ≤ 24) (hb : b.length ≤ 9000) : FitH l b := by
  refine ⟨by omega, fun f hf => by have := hs f hf; omega, by omega, ?_⟩
  have h1 := flat_le (B := 9000) l (fun f hf => by have := hs f hf; omega)
  have h2 := clL_any b
  unfold linesT
  simp only [List.length_append, List.length_cons, List.length_nil]
  have : l.length * (2 * 9000 + 4) ≤ 24 * (2 * 9000 + 4) := Nat.mul_le_mul_right _ hn
  omega
theorem parseQ_fit {s : List UInt8} (hl : s.length ≤ 9000) : FitH (parseQ s).1.head (parseQ s).1.body ∧ (parseQ s).1.method.length < 1000000000 ∧ (parseQ s).1.target.length < 1000000000 := by
  unfold parseQ
  split
  · have h1 := hdC_le s
    have h2 := first_sm s
    have h3 := cut_len (firstH s) [32]
    refine ⟨fit_len (B := s.length) hl (readH_sm _ _) (readH_len _ _) (by show (hdC s).2.1.length ≤ _; omega), by show (askM (firstH s)).length < _; unfold askM; omega, ?_⟩
    show (askT (firstH s)).length < _
    unfold askT Lib.trimSuffix
    split
    · rw [List.length_take]; omega
    · omega
  · exact ⟨fit_len (B := 0) (by decide) (fun f hf => (by cases hf)) (show (0 : Nat) ≤ 24 by decide) (show (0 : Nat) ≤ 9000 by decide), (show (0 : Nat) < 1000000000 by decide), (show (0 : Nat) < 1000000000 by decide)⟩
theorem parseR_fit {s : List UInt8} (hl : s.length ≤ 9000) : FitH (parseR s).1.head (parseR s).1.body := by
  unfold parseR
  split
  · have h1 := hdC_le s
    exact fit_len (B := s.length) hl (readH_sm _ _) (readH_len _ _) (by show (hdC s).2.1.length ≤ _; omega)
  · exact fit_len (B := 0) (by decide) (fun f hf => (by cases hf)) (show (0 : Nat) ≤ 24 by decide) (show (0 : Nat) ≤ 9000 by decide)
end Go.Proofs.Tw
end
