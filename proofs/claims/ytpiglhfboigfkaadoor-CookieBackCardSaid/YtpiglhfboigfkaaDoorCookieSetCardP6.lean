/- Own texts for this claim: Ck9, Ck10, Ck11, Ck12, SvKeep, SvRead. -/
import Derived.Test.YtpiglhfboigfkaaDoorCookieSetCardP5
import Derived.Test.YtpiglhfboigfkaaDoorCookieSetCardP3
import Derived.ChangeSlices
set_option linter.all false

section
open Go Go.Sv
namespace Go.Proofs.Tw
attribute [local irreducible] Wp FinQ resV Ent Pur Go.Sv.Fn Sat0
set_option maxRecDepth 100000
set_option maxHeartbeats 4000000
variable {G : Nat → Option (List Cell)}

/-! how long all is -/
def sumF (l : List FT) : Nat := (l.map fun f => f.name.length + f.value.length).sum
theorem join_le2 (sep : List UInt8) (l : List FT) (h : sep.length = 2) : (Lib.join (l.map pairC) sep).length ≤ sumF l + 3 * l.length := by
  have tail : ∀ r : List FT, (Lib.joinTail sep (r.map pairC)).length ≤ sumF r + 3 * r.length := by
    intro r
    induction r with
    | nil => simp [Lib.joinTail]
    | cons x r ih =>
      simp only [Lib.joinTail, List.map_cons, List.flatten_cons, List.length_append, sumF, List.sum_cons, List.length_cons, pairC, List.length_nil] at ih ⊢
      omega
  cases l with
  | nil => simp [Lib.join_nil]
  | cons x r =>
    rw [List.map_cons, Lib.join_cons, List.length_append]
    have := tail r
    simp only [sumF, List.map_cons, List.sum_cons, List.length_cons, pairC, List.length_append, List.length_nil] at this ⊢
    omega
theorem printC_len (l : List FT) : (printC l).length ≤ sumF l + 3 * l.length := join_le2 _ l rfl
theorem sum_el : ∀ (l : List FT) (i : Nat), (l.getD i .nil).name.length + (l.getD i .nil).value.length ≤ sumF l
  | [], i => by simp [FT.nil, List.getD]
  | x :: r, 0 => by simp [sumF, List.getD]
  | x :: r, i + 1 => by
    have := sum_el r i
    simp only [List.getD_cons_succ, sumF, List.map_cons, List.sum_cons] at this ⊢
    omega
theorem sum_take (l : List FT) (k : Nat) (h : k < l.length) : sumF (l.take (k + 1)) = sumF (l.take k) + ((l.getD k .nil).name.length + (l.getD k .nil).value.length) := by
  unfold sumF
  rw [List.take_succ_eq_append_getElem h, List.map_append, List.sum_append]
  simp [List.getD, h]
/-- Fields that may be cookies, short, of unlike names. -/
def OkL (l : List FT) : Prop := (∀ f ∈ l, mayC f = true ∧ f.name.length + f.value.length ≤ 20) ∧ l.Pairwise (fun x y => x.name ≠ y.name)
theorem pickC_in (ss : List (List UInt8)) (ns : List Int) (a : Nat) (h : 0 < ss.length) : pickT ss ns a ∈ ss := by
  have hr := nextV_rng ns a ss.length (by omega)
  unfold pickT
  have hlt : (nextV ns a ss.length).toNat < ss.length := by omega
  rw [List.getD_eq_getElem?_getD, List.getElem?_eq_getElem hlt]
  exact List.getElem_mem hlt
theorem fldC_ok (ns : List Int) (a : Nat) : mayC (fldC ns a) = true ∧ (fldC ns a).name.length + (fldC ns a).value.length ≤ 20 := by
  have h1 := pickC_in nmsC ns a (by decide)
  have h2 := pickC_in valsC ns (nextA ns a 6) (by decide)
  have all : ∀ x ∈ nmsC, ∀ y ∈ valsC, (mayC ⟨x, y⟩ && decide (x.length + y.length ≤ 20)) = true := by
    have : (nmsC.all fun x => valsC.all fun y => mayC ⟨x, y⟩ && decide (x.length + y.length ≤ 20)) = true := (by kernel_rfl)
    intro x hx y hy
    exact List.all_eq_true.1 (List.all_eq_true.1 this x hx) y hy
  have := all _ h1 _ h2
  simp only [Bool.and_eq_true, decide_eq_true_eq] at this
  exact this
theorem fGet_none {l : List FT} {n : List UInt8} (h : (fGet l n).isSome = false) : ∀ f ∈ l, f.name ≠ n := by
  have hq : (fGet l (FT.mk n []).name).isSome = l.any (ckP ⟨n, []⟩) := fGet_any l ⟨n, []⟩
  rw [show (FT.mk n []).name = n from rfl, h] at hq
  intro f hf he
  have := List.any_eq_false.1 hq.symm f hf
  exact this (by unfold ckP; simp [he])
theorem cksN_ok (ns : List Int) : ∀ (k a : Nat) (l : List FT), OkL l → OkL (cksN ns k a l) ∧ (cksN ns k a l).length ≤ l.length + k
  | 0, a, l, h => ⟨h, Nat.le_refl _⟩
  | k + 1, a, l, h => by
    unfold cksN
    split
    · split
      · obtain ⟨h1, h2⟩ := cksN_ok ns k (nextA ns (nextA ns a 6) 4) l h
        exact ⟨h1, by omega⟩
      · rename_i hg
        have hg : (fGet l (pickT nmsC ns a)).isSome = false := by simpa using hg
        have hn := fGet_none hg
        have hok : OkL (l ++ [fldC ns a]) := by
          refine ⟨fun f hf => ?_, ?_⟩
          · rcases List.mem_append.1 hf with hf | hf
            · exact h.1 f hf
            · rw [List.mem_singleton.1 hf]; exact fldC_ok ns a
          · rw [List.pairwise_append]
            refine ⟨h.2, List.pairwise_singleton _ _, fun x hx y hy => ?_⟩
            rw [List.mem_singleton.1 hy]
            exact hn x hx
        obtain ⟨h1, h2⟩ := cksN_ok ns k (nextA ns (nextA ns a 6) 4) _ hok
        rw [List.length_append] at h2
        exact ⟨h1, by simp at h2; omega⟩
    · exact ⟨h, by omega⟩
theorem cks_facts (ns : List Int) (m : Nat) : OkL (cksT ns m) ∧ (cksT ns m).length ≤ m := by
  have := cksN_ok ns m 0 [] ⟨fun f hf => (by cases hf), List.Pairwise.nil⟩
  simpa [cksT] using this
theorem ok_sum : ∀ {l : List FT}, OkL l → sumF l ≤ 20 * l.length
  | [], _ => by simp [sumF]
  | x :: r, h => by
    have h1 := (h.1 x (by simp)).2
    have h2 := ok_sum (l := r) ⟨fun f hf => h.1 f (by simp [hf]), (List.pairwise_cons.1 h.2).2⟩
    simp only [sumF, List.map_cons, List.sum_cons, List.length_cons] at h2 ⊢
    omega
theorem sm_of {l : List FT} (h : sumF l < 1000000000) : SmF l := fun i => by
  have := sum_el l i
  exact ⟨by omega, by omega⟩
theorem parseN_len : ∀ (l : List (List UInt8)) (acc : List FT), (parseN l acc).1.length ≤ acc.length + l.length
  | [], acc => by simp [parseN]
  | p :: r, acc => by
    unfold parseN
    split
    · split
      · simp
      · have := parseN_len r (acc ++ [oneF p])
        simp at this ⊢
        omega
    · simp
theorem parseC_len (s : List UInt8) : (parseC s).1.length ≤ 24 := by
  unfold parseC
  split
  · simp
  · split
    · simp
    · have := parseN_len (Lib.split s [59, 32]) []
      simp at this
      omega

def bitsC : List (List UInt8) := [[115, 105, 100, 61, 126, 65, 103, 65, 65, 65, 65, 69, 126], [59, 32], [59], [97, 61, 98], [32], [61], [99, 61], [61, 100], [97, 61, 98, 61, 99], [120]]
theorem bitsC_len (ns : List Int) (a : Nat) : (pickT bitsC ns a).length ≤ 20 := by
  have h := pickC_in bitsC ns a (by decide)
  have : bitsC.all (fun x => decide (x.length ≤ 20)) = true := (by kernel_rfl)
  exact of_decide_eq_true (List.all_eq_true.1 this _ h)
def m4 (n : Nat) : Int := if (4000 : Int) < (n : Int) then 4000 else (n : Int)
theorem m4_rng (n : Nat) : 0 ≤ m4 n ∧ m4 n ≤ 4000 ∧ (m4 n ≤ 2000 → m4 n = n) := by
  unfold m4
  split <;> omega
def lotsC (ns : List Int) (raw s : List UInt8) (l : List FT) : List (List UInt8) := [raw, s, printC (cksT ns 6) ++ raw, printC l]
theorem lots_len {ns : List Int} {raw s : List UInt8} {l : List FT} (h1 : raw.length ≤ 1000) (h2 : s.length ≤ 1000) (h3 : (printC (cksT ns 6)).length ≤ 10000) (h4 : (printC l).length ≤ 10000) (k : Nat) : ((lotsC ns raw s l).getD k []).length < 1000000000 := by
  have : ∀ x ∈ lotsC ns raw s l, x.length < 1000000000 := by
    intro x hx
    simp only [lotsC, List.mem_cons, List.not_mem_nil, or_false] at hx
    rcases hx with rfl | rfl | rfl | rfl
    · omega
    · omega
    · rw [List.length_append]; omega
    · omega
  rw [List.getD_eq_getElem?_getD]
  cases h : (lotsC ns raw s l)[k]? with
  | none => show 0 < _; omega
  | some x => exact this x (List.mem_of_getElem? h)
theorem cookieParse_ok {m : Int} (ns : List Int) (raw : List UInt8) (l : List FT) (hl : ns.length ≤ 9223372036854775807) : Pur Tryd.prog (Gm m) 3 [.c (.sl 1 ns.length (intsF ns)), .c (.str raw), .c (encH l)] [.c (.bool true)] := by
  refine Pur.of Tryd.func3 (by kernel_rfl) (by kernel_rfl) (by kernel_rfl) ?_
  have k0 := known14_ok (m := m)
  by_cases hr : 300 < raw.length
  · have ht : (bif decide ((raw.length : Int) > 300) then true else decide ((l.length : Int) > 30)) = true := by rw [decide_eq_true (by omega)]; rfl
    refine Wp.go (mx := true) (fun _ => mixed) [(1, {cs := [(0, pc k0)]})] 100 [false, true] [(!true) = false, (bif decide ((↑raw.length : Int) > (300 : Int)) then true else decide ((↑l.length : Int) > (30 : Int))) = true] (by kernel_rfl) (by kernel_rfl) (by kernel_rfl) ⟨rfl, (show (bif decide ((↑raw.length : Int) > (300 : Int)) then true else decide ((↑l.length : Int) > (30 : Int))) = true from (by assumption))⟩ ?_
    refine Wp.ret' (by kernel_rfl) ?_
    exact FinQ.pure (rs' := [V1.c (Cell.bool true)]) (by kernel_rfl) rfl (by kernel_rfl)
  by_cases hn : 30 < l.length
  · have ht : (bif decide ((raw.length : Int) > 300) then true else decide ((l.length : Int) > 30)) = true := by rw [decide_eq_false (by omega), decide_eq_true (by omega)]; rfl
    refine Wp.go (mx := true) (fun _ => mixed) [(1, {cs := [(0, pc k0)]})] 100 [false, true] [(!true) = false, (bif decide ((↑raw.length : Int) > (300 : Int)) then true else decide ((↑l.length : Int) > (30 : Int))) = true] (by kernel_rfl) (by kernel_rfl) (by kernel_rfl) ⟨rfl, (show (bif decide ((↑raw.length : Int) > (300 : Int)) then true else decide ((↑l.length : Int) > (30 : Int))) = true from (by assumption))⟩ ?_
    refine Wp.ret' (by kernel_rfl) ?_
    exact FinQ.pure (rs' := [V1.c (Cell.bool true)]) (by kernel_rfl) rfl (by kernel_rfl)
  have ht : (bif decide ((raw.length : Int) > 300) then true else decide ((l.length : Int) > 30)) = false := by rw [decide_eq_false (by omega), decide_eq_false (by omega)]; rfl
  refine Wp.go (mx := true) (fun _ => mixed) [(1, {cs := [(0, pc k0)]})] 100 [false, false] [(!true) = false, (bif decide ((↑raw.length : Int) > (300 : Int)) then true else decide ((↑l.length : Int) > (30 : Int))) = false] (by kernel_rfl) (by kernel_rfl) (by kernel_rfl) ⟨rfl, (show (bif decide ((↑raw.length : Int) > (300 : Int)) then true else decide ((↑l.length : Int) > (30 : Int))) = false from (by assumption))⟩ ?_
  refine Wp.loopK (by kernel_rfl) (fun (x : Nat × Int) => ⟨[(0, TV.v (V1.c (Cell.sl (1 : Nat) ns.length (intsF ns)))), (1, TV.v (V1.c (Cell.str raw))), (2, TV.v (V1.c (encH l))), (7, TV.v (V1.c (Cell.int .i64 x.2))), (8, TV.v (V1.c (Cell.int .i64 (x.1 : Int))))], [], 208⟩) (fun x => x.1 ≤ l.length ∧ 0 ≤ x.2 ∧ x.2 ≤ 2000 ∧ ((sumF (l.take x.1) : Nat) : Int) ≤ x.2) (fun x => l.length - x.1) (0, 0) (Ent.of [] (by kernel_rfl) (by kernel_rfl) (by kernel_rfl) trivial) ⟨Nat.zero_le _, Int.le_refl _, by decide, by simp [sumF]⟩ ?_
  rintro ⟨i, z⟩ L ⟨hi, hz0, hz1, hzs⟩ again
  simp only at hi hz0 hz1 hzs
  rcases Nat.lt_or_ge i l.length with hlt | hge
  · have q := sum_take l i hlt
    have m1 := m4_rng (l.getD i .nil).name.length
    have m2 := m4_rng (l.getD i .nil).value.length
    by_cases hg : z + m4 (l.getD i .nil).name.length + m4 (l.getD i .nil).value.length > 2000
    · have ht2 : decide (z + m4 (l.getD i .nil).name.length + m4 (l.getD i .nil).value.length > 2000) = true := decide_eq_true hg
      unfold m4 at m1 m2 hg ht2
      refine Wp.go (mx := true) (fun _ => mixed) [] 100 [true, true] [decide ((↑i : Int) < (↑l.length : Int)) = true, (0 : Int) ≤ (↑i : Int) ∧ (↑i : Int) < (↑l.length : Int), inR IntKind.i64 (z + if (4000 : Int) < (↑(l.getD i FT.nil).name.length : Int) then (4000 : Int) else (↑(l.getD i FT.nil).name.length : Int)), (0 : Int) ≤ (↑i : Int) ∧ (↑i : Int) < (↑l.length : Int), inR IntKind.i64 ((z + if (4000 : Int) < (↑(l.getD i FT.nil).name.length : Int) then (4000 : Int) else (↑(l.getD i FT.nil).name.length : Int)) + if (4000 : Int) < (↑(l.getD i FT.nil).value.length : Int) then (4000 : Int) else (↑(l.getD i FT.nil).value.length : Int)), decide (((z + if (4000 : Int) < (↑(l.getD i FT.nil).name.length : Int) then (4000 : Int) else (↑(l.getD i FT.nil).name.length : Int)) + if (4000 : Int) < (↑(l.getD i FT.nil).value.length : Int) then (4000 : Int) else (↑(l.getD i FT.nil).value.length : Int)) > (2000 : Int)) = true] (by kernel_rfl) (by kernel_rfl) (by kernel_rfl) ⟨(by simp; omega), (by omega), inR64 (by omega) (by omega), (by omega), inR64 (by omega) (by omega), (show decide (((z + if (4000 : Int) < (↑(l.getD i FT.nil).name.length : Int) then (4000 : Int) else (↑(l.getD i FT.nil).name.length : Int)) + if (4000 : Int) < (↑(l.getD i FT.nil).value.length : Int) then (4000 : Int) else (↑(l.getD i FT.nil).value.length : Int)) > (2000 : Int)) = true from (by assumption))⟩ ?_
      refine Wp.ret' (by kernel_rfl) ?_
      exact FinQ.pure (rs' := [V1.c (Cell.bool true)]) (by kernel_rfl) rfl (by kernel_rfl)
    · have ht2 : decide (z + m4 (l.getD i .nil).name.length + m4 (l.getD i .nil).value.length > 2000) = false := decide_eq_false hg
      have hs : ((sumF (l.take (i + 1)) : Nat) : Int) ≤ z + m4 (l.getD i .nil).name.length + m4 (l.getD i .nil).value.length := by omega
      have hs0 : 0 ≤ z + m4 (l.getD i .nil).name.length + m4 (l.getD i .nil).value.length := by omega
      have hs1 : z + m4 (l.getD i .nil).name.length + m4 (l.getD i .nil).value.length ≤ 2000 := by omega
      unfold m4 at m1 m2 hg ht2
      refine Wp.go (mx := true) (fun _ => mixed) [] 100 [true, false] [decide ((↑i : Int) < (↑l.length : Int)) = true, (0 : Int) ≤ (↑i : Int) ∧ (↑i : Int) < (↑l.length : Int), inR IntKind.i64 (z + if (4000 : Int) < (↑(l.getD i FT.nil).name.length : Int) then (4000 : Int) else (↑(l.getD i FT.nil).name.length : Int)), (0 : Int) ≤ (↑i : Int) ∧ (↑i : Int) < (↑l.length : Int), inR IntKind.i64 ((z + if (4000 : Int) < (↑(l.getD i FT.nil).name.length : Int) then (4000 : Int) else (↑(l.getD i FT.nil).name.length : Int)) + if (4000 : Int) < (↑(l.getD i FT.nil).value.length : Int) then (4000 : Int) else (↑(l.getD i FT.nil).value.length : Int)), decide (((z + if (4000 : Int) < (↑(l.getD i FT.nil).name.length : Int) then (4000 : Int) else (↑(l.getD i FT.nil).name.length : Int)) + if (4000 : Int) < (↑(l.getD i FT.nil).value.length : Int) then (4000 : Int) else (↑(l.getD i FT.nil).value.length : Int)) > (2000 : Int)) = false, inR IntKind.i64 ((↑i : Int) + (1 : Int))] (by kernel_rfl) (by kernel_rfl) (by kernel_rfl) ⟨(by simp; omega), (by omega), inR64 (by omega) (by omega), (by omega), inR64 (by omega) (by omega), (by assumption), inR64 (by omega) (by omega)⟩ ?_
      exact Wp.lpK (by kernel_rfl) (again _ (i + 1, z + m4 (l.getD i .nil).name.length + m4 (l.getD i .nil).value.length) ⟨(by assumption), ⟨(by assumption), ⟨(by assumption), (by assumption)⟩⟩⟩ (by omega) (Ent.of [] (by kernel_rfl) (by kernel_rfl) (by kernel_rfl) trivial))
  rw [List.take_of_length_le hge] at hzs
  have hS : sumF l ≤ 2000 := by omega
  clear again hzs hz0 hz1
  refine Wp.go (mx := true) (fun _ => mixed) [] 100 [false] [decide ((↑i : Int) < (↑l.length : Int)) = false] (by kernel_rfl) (by kernel_rfl) (by kernel_rfl) (show decide ((↑i : Int) < (↑l.length : Int)) = false from (by simp; omega)) ?_
  refine Wp.loopK (by kernel_rfl) (fun (x : Nat × Nat × List UInt8) => ⟨[(0, TV.v (V1.c (Cell.sl (1 : Nat) ns.length (intsF ns)))), (1, TV.v (V1.c (Cell.str raw))), (2, TV.v (V1.c (encH l))), (9, TV.v (V1.c (Cell.ptr (304 : Nat) (0 : Nat)))), (10, TV.v (V1.c (Cell.str x.2.2))), (11, TV.v (V1.c (Cell.int .i64 (x.1 : Int))))], [(304, tapeB ns x.2.1)], 368⟩) (fun x => x.1 ≤ 12 ∧ x.2.2.length ≤ 20 * x.1) (fun x => 12 - x.1) (0, 0, []) (Ent.of [] (by kernel_rfl) (by kernel_rfl) (by kernel_rfl) trivial) ⟨by decide, by decide⟩ ?_
  rintro ⟨j, a, s⟩ L2 ⟨hj, hsl⟩ again
  simp only at hj hsl
  have mo := more1_ok (G := Gm m) ns a
  obtain ⟨ok6, len6⟩ := cks_facts ns 6
  have sum6 := ok_sum ok6
  have pl6 := printC_len (cksT ns 6)
  have pll := printC_len l
  have c1 := cks_ok (G := Gm m) ns 6 hl (by decide)
  have c2 := print14_ok (G := Gm m) (cksT ns 6) (sm_of (by omega)) (by omega) (by omega)
  have c3 := print14_ok (G := Gm m) l (sm_of (by omega)) (by omega) (by omega)
  have c4 := print_ok (m := m) (cksT ns 6) (sm_of (by omega)) (by omega) (by omega)
  by_cases hj12 : j < 12
  · by_cases ha : a < ns.length
    · rw [decide_eq_true ha] at mo
      have p := pick_ok (G := Gm m) bitsC ns a hl (by decide)
      have hb := bitsC_len ns a
      have e2 : EqvD (.c (.sl 1 10 (fun i j => nthD [Cell.str [115, 105, 100, 61, 126, 65, 103, 65, 65, 65, 65, 69, 126], Cell.str [59, 32], Cell.str [59], Cell.str [97, 61, 98], Cell.str [32], Cell.str [61], Cell.str [99, 61], Cell.str [61, 100], Cell.str [97, 61, 98, 61, 99], Cell.str [120]] (i * 1 + j)))) (.c (.sl 1 bitsC.length (strsF bitsC))) := strs_lit bitsC rfl rfl
      have hs2 : (s ++ pickT bitsC ns a).length ≤ 20 * (j + 1) := by rw [List.length_append]; omega
      clear ok6 sum6 pl6 pll c1 c2 c3 c4
      have hb2 : (bitsC.getD (nextV ns a (bitsC.length : Int)).toNat []).length ≤ 20 := hb
      refine Wp.go (mx := true) (fun _ => mixed) [(17, {cs := [(3, cb [304] p)], fm := [(2, .c (.sl 1 bitsC.length (strsF bitsC)))]}), (15, {grd := [(3, true), (4, true)], cs := [(4, cb [304] mo)]})] 100 [true] [decide ((↑j : Int) < (12 : Int)) = true, decide ((↑j : Int) < (12 : Int)) = true, (bif decide ((↑j : Int) < (12 : Int)) then true else false) = true, EqvI (V1.c (Cell.sl (1 : Nat) (10 : Nat) fun (i j : Nat) => nthD [Cell.str [(115 : UInt8), 105, 100, 61, 126, 65, 103, 65, 65, 65, 65, 69, 126], Cell.str [(59 : UInt8), 32], Cell.str [(59 : UInt8)], Cell.str [(97 : UInt8), 61, 98], Cell.str [(32 : UInt8)], Cell.str [(61 : UInt8)], Cell.str [(99 : UInt8), 61], Cell.str [(61 : UInt8), 100], Cell.str [(97 : UInt8), 61, 98, 61, 99], Cell.str [(120 : UInt8)]] (i * (1 : Nat) + j))) (V1.c (Cell.sl (1 : Nat) bitsC.length (strsF bitsC))), EqvD (V1.c (Cell.sl (1 : Nat) (10 : Nat) fun (i j : Nat) => nthD [Cell.str [(115 : UInt8), 105, 100, 61, 126, 65, 103, 65, 65, 65, 65, 69, 126], Cell.str [(59 : UInt8), 32], Cell.str [(59 : UInt8)], Cell.str [(97 : UInt8), 61, 98], Cell.str [(32 : UInt8)], Cell.str [(61 : UInt8)], Cell.str [(99 : UInt8), 61], Cell.str [(61 : UInt8), 100], Cell.str [(97 : UInt8), 61, 98, 61, 99], Cell.str [(120 : UInt8)]] (i * (1 : Nat) + j))) (V1.c (Cell.sl (1 : Nat) bitsC.length (strsF bitsC))), s.length + (bitsC.getD (nextV ns a (↑bitsC.length : Int)).toNat []).length ≤ (9223372036854775807 : Nat), inR IntKind.i64 ((↑j : Int) + (1 : Int))] (by kernel_rfl) (by kernel_rfl) (by kernel_rfl) ⟨(by simp; omega), (by simp; omega), (by simp; omega), fun _ _ => trivial, (by assumption), (by omega), inR64 (by omega) (by omega)⟩ ?_
      exact Wp.lpK (by kernel_rfl) (again _ (j + 1, nextA ns a 10, s ++ pickT bitsC ns a) ⟨(by assumption), (by assumption)⟩ (by omega) (Ent.of [] (by kernel_rfl) (by kernel_rfl) (by kernel_rfl) trivial))
    · rw [decide_eq_false ha] at mo
      clear again
      have e4 : EqvD (.c (.sl 1 4 (fun i j => nthD ((lotsC ns raw s l).map Cell.str) (i * 1 + j)))) (.c (.sl 1 (lotsC ns raw s l).length (strsF (lotsC ns raw s l)))) := strs_lit _ rfl rfl
      refine Wp.go (mx := true) (fun _ => mixed) [(18, {cs := [(3, pc c1), (4, pc c2), (8, pc c3)], fm := [(9, .c (.sl 1 (lotsC ns raw s l).length (strsF (lotsC ns raw s l))))]}), (15, {grd := [(3, true), (4, true)], cs := [(4, cb [304] mo)]})] 100 [false] [decide ((↑j : Int) < (12 : Int)) = true, decide ((↑j : Int) < (12 : Int)) = true, (bif decide ((↑j : Int) < (12 : Int)) then false else false) = false, (printC (cksT ns (6 : Nat))).length + raw.length ≤ (9223372036854775807 : Nat), EqvI (V1.c (Cell.sl (1 : Nat) (4 : Nat) fun (i j : Nat) => nthD [Cell.str raw, Cell.str s, Cell.str (printC (cksT ns (6 : Nat)) ++ raw), Cell.str (printC l)] (i * (1 : Nat) + j))) (V1.c (Cell.sl (1 : Nat) (lotsC ns raw s l).length (strsF (lotsC ns raw s l)))), EqvD (V1.c (Cell.sl (1 : Nat) (4 : Nat) fun (i j : Nat) => nthD [Cell.str raw, Cell.str s, Cell.str (printC (cksT ns (6 : Nat)) ++ raw), Cell.str (printC l)] (i * (1 : Nat) + j))) (V1.c (Cell.sl (1 : Nat) (lotsC ns raw s l).length (strsF (lotsC ns raw s l))))] (by kernel_rfl) (by kernel_rfl) (by kernel_rfl) ⟨(by simp; omega), (by simp; omega), (by simp; done), (by omega), fun _ _ => trivial, (show EqvD (V1.c (Cell.sl (1 : Nat) (4 : Nat) fun (i j : Nat) => nthD [Cell.str raw, Cell.str s, Cell.str (printC (cksT ns (6 : Nat)) ++ raw), Cell.str (printC l)] (i * (1 : Nat) + j))) (V1.c (Cell.sl (1 : Nat) (lotsC ns raw s l).length (strsF (lotsC ns raw s l)))) from (by assumption))⟩ ?_
      refine Wp.loopK (by kernel_rfl) (fun (k : Nat) => ⟨[(0, TV.v (V1.c (Cell.sl (1 : Nat) ns.length (intsF ns)))), (12, TV.v (V1.c (Cell.sl (1 : Nat) (lotsC ns raw s l).length (strsF (lotsC ns raw s l))))), (13, TV.v (V1.c (Cell.int .i64 (k : Int))))], [], 656⟩) (fun k => k ≤ 4) (fun k => 4 - k) 0 (Ent.of [] (by kernel_rfl) (by kernel_rfl) (by kernel_rfl) trivial) (Nat.zero_le _) ?_
      intro k L3 hk again
      rcases Nat.lt_or_ge k 4 with hk4 | hk4
      · have hx : ((lotsC ns raw s l).getD k []).length < 1000000000 := lots_len (by omega) (by omega) (by omega) (by omega) k
        have hll : (lotsC ns raw s l).length = 4 := rfl
        have d1 := parse_ok (m := m) ((lotsC ns raw s l).getD k []) hx
        have d2 := parse14_ok (G := Gm m) ((lotsC ns raw s l).getD k []) hx
        have hpl := parseC_len ((lotsC ns raw s l).getD k [])
        generalize parseC ((lotsC ns raw s l).getD k []) = x at d1 d2 hpl
        have d3 := same_ok (G := Gm m) x.1 x.1 (by omega)
        rw [sameF_refl] at d3
        have ht3 : (bif !true then true else x.2 != x.2) = false := by simp
        refine Wp.go (mx := true) (fun _ => mixed) [(22, {cs := [(4, pc d1)]}), (23, {cs := [(4, pc d2)]}), (24, {cs := [(2, pc d3)]})] 100 [true, false] [decide ((↑k : Int) < (4 : Int)) = true, (0 : Int) ≤ (↑k : Int) ∧ (↑k : Int) < (↑(lotsC ns raw s l).length : Int), (0 : Int) ≤ (↑k : Int) ∧ (↑k : Int) < (↑(lotsC ns raw s l).length : Int), (bif !true then true else x.2 != x.2) = false, inR IntKind.i64 ((↑k : Int) + (1 : Int))] (by kernel_rfl) (by kernel_rfl) (by kernel_rfl) ⟨(by simp; omega), (by omega), (by omega), (by assumption), inR64 (by omega) (by omega)⟩ ?_
        exact Wp.lpK (by kernel_rfl) (again _ (k + 1) (by assumption) (by omega) (Ent.of [] (by kernel_rfl) (by kernel_rfl) (by kernel_rfl) trivial))
      · have c2b := print14_ok (G := Gm m) (cksT ns 6) (sm_of (by omega)) (by omega) (by omega)
        refine Wp.go (mx := true) (fun _ => mixed) [(26, {cs := [(1, pc c1), (2, pc c4), (4, pc c1), (5, pc c2b)]})] 100 [false] [decide ((↑k : Int) < (4 : Int)) = false] (by kernel_rfl) (by kernel_rfl) (by kernel_rfl) (show decide ((↑k : Int) < (4 : Int)) = false from (by simp; omega)) ?_
        refine Wp.ret' (by kernel_rfl) ?_
        exact FinQ.pure (rs' := [V1.c (Cell.bool (printC (cksT ns (6 : Nat)) == printC (cksT ns (6 : Nat))))]) (by kernel_rfl) (by simp; done) (by kernel_rfl)
  · clear again
    have e4 : EqvD (.c (.sl 1 4 (fun i j => nthD ((lotsC ns raw s l).map Cell.str) (i * 1 + j)))) (.c (.sl 1 (lotsC ns raw s l).length (strsF (lotsC ns raw s l)))) := strs_lit _ rfl rfl
    refine Wp.go (mx := true) (fun _ => mixed) [(18, {cs := [(3, pc c1), (4, pc c2), (8, pc c3)], fm := [(9, .c (.sl 1 (lotsC ns raw s l).length (strsF (lotsC ns raw s l))))]}), (15, {grd := [(3, false), (4, false), (5, false)], cs := [(4, cb [304] mo)]})] 100 [false] [decide ((↑j : Int) < (12 : Int)) = !true, decide ((↑j : Int) < (12 : Int)) = !true, decide ((↑j : Int) < (12 : Int)) = false, false = false, (printC (cksT ns (6 : Nat))).length + raw.length ≤ (9223372036854775807 : Nat), EqvI (V1.c (Cell.sl (1 : Nat) (4 : Nat) fun (i j : Nat) => nthD [Cell.str raw, Cell.str s, Cell.str (printC (cksT ns (6 : Nat)) ++ raw), Cell.str (printC l)] (i * (1 : Nat) + j))) (V1.c (Cell.sl (1 : Nat) (lotsC ns raw s l).length (strsF (lotsC ns raw s l)))), EqvD (V1.c (Cell.sl (1 : Nat) (4 : Nat) fun (i j : Nat) => nthD [Cell.str raw, Cell.str s, Cell.str (printC (cksT ns (6 : Nat)) ++ raw), Cell.str (printC l)] (i * (1 : Nat) + j))) (V1.c (Cell.sl (1 : Nat) (lotsC ns raw s l).length (strsF (lotsC ns raw s l))))] (by kernel_rfl) (by kernel_rfl) (by kernel_rfl) ⟨(by simp; omega), (by simp; omega), (by simp; omega), rfl, (by omega), fun _ _ => trivial, (show EqvD (V1.c (Cell.sl (1 : Nat) (4 : Nat) fun (i j : Nat) => nthD [Cell.str raw, Cell.str s, Cell.str (printC (cksT ns (6 : Nat)) ++ raw), Cell.str (printC l)] (i * (1 : Nat) + j))) (V1.c (Cell.sl (1 : Nat) (lotsC ns raw s l).length (strsF (lotsC ns raw s l)))) from (by assumption))⟩ ?_
    refine Wp.loopK (by kernel_rfl) (fun (k : Nat) => ⟨[(0, TV.v (V1.c (Cell.sl (1 : Nat) ns.length (intsF ns)))), (12, TV.v (V1.c (Cell.sl (1 : Nat) (lotsC ns raw s l).length (strsF (lotsC ns raw s l))))), (13, TV.v (V1.c (Cell.int .i64 (k : Int))))], [], 656⟩) (fun k => k ≤ 4) (fun k => 4 - k) 0 (Ent.of [] (by kernel_rfl) (by kernel_rfl) (by kernel_rfl) trivial) (Nat.zero_le _) ?_
    intro k L3 hk again
    rcases Nat.lt_or_ge k 4 with hk4 | hk4
    · have hx : ((lotsC ns raw s l).getD k []).length < 1000000000 := lots_len (by omega) (by omega) (by omega) (by omega) k
      have hll : (lotsC ns raw s l).length = 4 := rfl
      have d1 := parse_ok (m := m) ((lotsC ns raw s l).getD k []) hx
      have d2 := parse14_ok (G := Gm m) ((lotsC ns raw s l).getD k []) hx
      have hpl := parseC_len ((lotsC ns raw s l).getD k [])
      generalize parseC ((lotsC ns raw s l).getD k []) = x at d1 d2 hpl
      have d3 := same_ok (G := Gm m) x.1 x.1 (by omega)
      rw [sameF_refl] at d3
      have ht3 : (bif !true then true else x.2 != x.2) = false := by simp
      refine Wp.go (mx := true) (fun _ => mixed) [(22, {cs := [(4, pc d1)]}), (23, {cs := [(4, pc d2)]}), (24, {cs := [(2, pc d3)]})] 100 [true, false] [decide ((↑k : Int) < (4 : Int)) = true, (0 : Int) ≤ (↑k : Int) ∧ (↑k : Int) < (↑(lotsC ns raw s l).length : Int), (0 : Int) ≤ (↑k : Int) ∧ (↑k : Int) < (↑(lotsC ns raw s l).length : Int), (bif !true then true else x.2 != x.2) = false, inR IntKind.i64 ((↑k : Int) + (1 : Int))] (by kernel_rfl) (by kernel_rfl) (by kernel_rfl) ⟨(by simp; omega), (by omega), (by omega), (by assumption), inR64 (by omega) (by omega)⟩ ?_
      exact Wp.lpK (by kernel_rfl) (again _ (k + 1) (by assumption) (by omega) (Ent.of [] (by kernel_rfl) (by kernel_rfl) (by kernel_rfl) trivial))
    · have c2b := print14_ok (G := Gm m) (cksT ns 6) (sm_of (by omega)) (by omega) (by omega)
      refine Wp.go (mx := true) (fun _ => mixed) [(26, {cs := [(1, pc c1), (2, pc c4), (4, pc c1), (5, pc c2b)]})] 100 [false] [decide ((↑k : Int) < (4 : Int)) = false] (by kernel_rfl) (by kernel_rfl) (by kernel_rfl) (show decide ((↑k : Int) < (4 : Int)) = false from (by simp; omega)) ?_
      refine Wp.ret' (by kernel_rfl) ?_
      exact FinQ.pure (rs' := [V1.c (Cell.bool (printC (cksT ns (6 : Nat)) == printC (cksT ns (6 : Nat))))]) (by kernel_rfl) (by simp; done) (by kernel_rfl)
end Go.Proofs.Tw
end

section
open Go Go.Sv
namespace Go.Proofs.Tw
attribute [local irreducible] Wp FinQ resV Ent Pur Go.Sv.Fn Sat0
set_option maxRecDepth 100000
set_option maxHeartbeats 4000000
variable {G : Nat → Option (List Cell)}

/-! printed and parsed -/
theorem idx_no (a r : List UInt8) (c : UInt8) (h : c ∉ a) : Lib.index a (c :: r) = -1 := by
  refine Lib.index_none fun j hj => ?_
  cases hq : Lib.occAt a (c :: r) j with
  | false => rfl
  | true =>
    have := Lib.occAt_head rfl hq
    exact (h (List.mem_of_getElem? this)).elim
theorem join_two (x : List UInt8) (r : List (List UInt8)) (sep : List UInt8) (h : r ≠ []) : Lib.join (x :: r) sep = x ++ sep ++ Lib.join r sep := by
  cases r with
  | nil => exact (h rfl).elim
  | cons y r => rw [Lib.join_cons, Lib.join_cons]; simp [Lib.joinTail]
theorem split_join (c : UInt8) (r : List UInt8) : ∀ l : List (List UInt8), l ≠ [] → (∀ x ∈ l, c ∉ x) → Lib.split (Lib.join l (c :: r)) (c :: r) = l
  | [], h, _ => (h rfl).elim
  | [x], _, hx => by rw [Lib.join_one, split_miss (idx_no x r c (hx x (by simp)))]
  | x :: y :: l, _, hx => by
    rw [join_two x (y :: l) (c :: r) (by simp), split_hit (by simp) (idx_at x (Lib.join (y :: l) (c :: r)) r c (hx x (by simp)))]
    have ih := split_join c r (y :: l) (by simp) (fun z hz => hx z (by simp [hz]))
    rw [List.append_assoc, List.take_left, ← List.append_assoc, show x.length + (c :: r).length = (x ++ (c :: r)).length from by simp, List.drop_left, ih]
theorem splitK_ne (sep : List UInt8) (k : Nat) (s : List UInt8) : Lib.splitK sep 0 k s ≠ [] := by
  cases k with
  | zero => simp [Lib.splitK]
  | succ k => unfold Lib.splitK; split <;> simp
theorem join_splitK (sep : List UInt8) : ∀ (k : Nat) (s : List UInt8), Lib.join (Lib.splitK sep 0 k s) sep = s
  | 0, s => by rw [Lib.splitK, Lib.join_one]
  | k + 1, s => by
    unfold Lib.splitK
    split
    · rw [Lib.join_one]
    · rename_i h
      rw [join_two _ _ _ (splitK_ne sep k _), join_splitK sep k]
      have hne : Lib.index s sep ≠ -1 := fun e => h (by rw [e]; rfl)
      rcases Lib.index_spec s sep with ⟨h1, _⟩ | ⟨i, h1, _, h2, _⟩
      · exact (hne h1).elim
      · rw [h1, show ((i : Nat) : Int).toNat = i from by omega, Nat.add_zero]
        obtain ⟨t, ht⟩ := List.isPrefixOf_iff_prefix.1 h2
        have h3 : s.drop (i + sep.length) = t := by rw [← List.drop_drop, ← ht, List.drop_left]
        rw [h3, List.append_assoc, ht, List.take_append_drop]
theorem parseN_all : ∀ (l acc : List FT), (∀ f ∈ l, mayC f = true) → (acc ++ l).Pairwise (fun x y => x.name ≠ y.name) → parseN (l.map pairC) acc = (acc ++ l, 0)
  | [], acc, _, _ => by simp [parseN]
  | f :: l, acc, h, hp => by
    have hf := h f (by simp)
    rw [List.map_cons, parseN, pair_one hf, if_pos hf]
    have hany : acc.any (ckP f) = false := by
      rw [List.any_eq_false]
      intro x hx hc
      rw [List.pairwise_append] at hp
      exact hp.2.2 x hx f (by simp) (by unfold ckP at hc; simpa using hc)
    rw [hany, if_neg (by decide), parseN_all l (acc ++ [f]) (fun g hg => h g (by simp [hg])) (by simpa using hp)]
    simp
theorem parse_print {l : List FT} (h : OkL l) (hn : l.length ≤ 24) : parseC (printC l) = (l, 0) := by
  cases l with
  | nil => rfl
  | cons x r =>
    have hx : ∀ y ∈ (x :: r).map pairC, (59 : UInt8) ∉ y := by
      intro y hy
      obtain ⟨f, hf, rfl⟩ := List.mem_map.1 hy
      exact pair_59 (h.1 f hf).1
    have hs : Lib.split (printC (x :: r)) [59, 32] = (x :: r).map pairC := split_join 59 [32] _ (by simp) hx
    have hne : printC (x :: r) ≠ [] := by
      intro e
      rw [e] at hs
      have h1 := congrArg List.length hs
      have h2 : Lib.split [] [59, 32] = [[]] := rfl
      rw [h2] at hs
      simp [pairC] at hs
    unfold parseC
    rw [if_neg hne, hs, if_neg (by rw [List.length_map]; omega), parseN_all _ [] (fun f hf => (h.1 f hf).1) (by simpa using h.2)]
    rfl
theorem parseN_back : ∀ (l : List (List UInt8)) (acc y : List FT), parseN l acc = (y, 0) → ∃ t, y = acc ++ t ∧ t.map pairC = l ∧ ∀ f ∈ t, mayC f = true
  | [], acc, y, h => by
    simp only [parseN, Prod.mk.injEq, and_true] at h
    exact ⟨[], by simp [h], rfl, fun f hf => by cases hf⟩
  | p :: r, acc, y, h => by
    unfold parseN at h
    split at h
    · rename_i hm
      split at h
      · simp at h
      · obtain ⟨t, h1, h2, h3⟩ := parseN_back r _ y h
        refine ⟨oneF p :: t, by rw [h1]; simp, by rw [List.map_cons, h2, one_pair hm], fun f hf => ?_⟩
        rcases List.mem_cons.1 hf with rfl | hf
        · exact hm
        · exact h3 f hf
    · simp at h
theorem print_parse {s : List UInt8} {y : List FT} (h : parseC s = (y, 0)) : printC y = s ∧ ∀ f ∈ y, mayC f = true := by
  unfold parseC at h
  split at h
  · rename_i h0
    simp only [Prod.mk.injEq, and_true] at h
    subst h h0
    exact ⟨rfl, fun f hf => by cases hf⟩
  · split at h
    · simp at h
    · obtain ⟨t, h1, h2, h3⟩ := parseN_back _ _ _ h
      rw [List.nil_append] at h1
      subst h1
      refine ⟨?_, h3⟩
      unfold printC
      rw [h2]
      exact join_splitK _ _ s
theorem may_sum : ∀ {l : List FT}, (∀ f ∈ l, mayC f = true) → sumF l ≤ 256 * l.length
  | [], _ => by simp [sumF]
  | x :: r, h => by
    have h1 := may_parts (h x (by simp))
    have h2 := may_sum (l := r) (fun f hf => h f (by simp [hf]))
    simp only [sumF, List.map_cons, List.sum_cons, List.length_cons] at h2 ⊢
    omega
/-- So many cookies. -/
def cA (i : Nat) : UInt8 := UInt8.ofNat (97 + i / 5)
def cB (i : Nat) : UInt8 := UInt8.ofNat (97 + i % 5)
def sN : Nat → List UInt8
  | 0 => []
  | i + 1 => (if 0 < i then sN i ++ [59, 32] else sN i) ++ [cA i, cB i] ++ [61, 49]
theorem sN_len : ∀ i, (sN i).length ≤ 6 * i
  | 0 => Nat.le_refl _
  | i + 1 => by
    have := sN_len i
    unfold sN
    split <;> simp only [List.length_append, List.length_cons, List.length_nil] <;> omega
theorem sN_few : ∀ k, k = 22 ∨ k = 23 → (parseC (sN k)).2 = 0 ∧ (parseC (sN k ++ [59, 32, 63])).2 = 3 := by
  rintro k (rfl | rfl)
  · exact ⟨(by kernel_rfl), (by kernel_rfl)⟩
  · exact ⟨(by kernel_rfl), (by kernel_rfl)⟩
theorem sN_just : (parseC (sN 24)).2 = 0 ∧ (parseC (sN 24 ++ [59, 32, 63])).2 = 7 := ⟨(by kernel_rfl), (by kernel_rfl)⟩
theorem sN_many : ∀ k, k = 25 ∨ k = 26 → (parseC (sN k)).2 = 7 ∧ (parseC (sN k ++ [59, 32, 63])).2 = 7 := by
  rintro k (rfl | rfl)
  · exact ⟨(by kernel_rfl), (by kernel_rfl)⟩
  · exact ⟨(by kernel_rfl), (by kernel_rfl)⟩
def within14 (a n : Int) : Int := if decide (a.tmod n < 0) then a.tmod n + n else a.tmod n
theorem within14_rng (a n : Int) (hn : 0 < n) : 0 ≤ within14 a n ∧ within14 a n < n := by
  have h1 := Int.tmod_lt_of_pos a hn
  have h2 := Int.lt_tmod_of_pos a hn
  unfold within14
  split
  · rename_i h; have h := of_decide_eq_true h; omega
  · rename_i h; have : ¬ a.tmod n < 0 := fun hc => h (decide_eq_true hc)
    omega
theorem within14_ok (a n : Int) (hn : 0 < n) (hn2 : n < 1000000) : Pur Tryd.prog G 15 [.c (.int .i64 a), .c (.int .i64 n)] [.c (.int .i64 (within14 a n))] := by
  have h1 := Int.lt_tmod_of_pos a hn
  have h2 := Int.tmod_lt_of_pos a hn
  refine Pur.of Tryd.func15 (by kernel_rfl) (by kernel_rfl) (by kernel_rfl) ?_
  refine Wp.go (mx := true) (fun _ => mixed) [] 100 [] [n ≠ 0] (by kernel_rfl) (by kernel_rfl) (by kernel_rfl) (by show n ≠ 0; omega) ?_
  refine Wp.cond' (by kernel_rfl) (decide (a.tmod n < 0)) (by kernel_rfl) (fun h => ?_) (fun h => ?_)
  · refine Wp.go (mx := true) (fun _ => mixed) [] 100 [] [inR .i64 (a.tmod n + n)] (by kernel_rfl) (by kernel_rfl) (by kernel_rfl) (inR64 (by omega) (by omega)) ?_
    refine Wp.ret' (by kernel_rfl) ?_
    exact FinQ.pure (rs' := [.c (.int .i64 (a.tmod n + n))]) (by kernel_rfl) (by unfold within14; rw [if_pos h]) (by kernel_rfl)
  · refine Wp.go (mx := true) (fun _ => mixed) [] 100 [] [] (by kernel_rfl) (by kernel_rfl) (by kernel_rfl) trivial ?_
    refine Wp.ret' (by kernel_rfl) ?_
    exact FinQ.pure (rs' := [.c (.int .i64 (a.tmod n))]) (by kernel_rfl) (by unfold within14; rw [if_neg (by simp [h])]) (by kernel_rfl)
theorem quo5 (i : Nat) (h : i < 100) : IntKind.i64.wrap ((i : Int).tdiv 5) = ((i / 5 : Nat) : Int) := by
  have : (i : Int).tdiv 5 = ((i / 5 : Nat) : Int) := by
    rw [Int.tdiv_eq_ediv_of_nonneg (by omega)]; omega
  rw [this]
  exact wrap64 (by omega) (by omega)
theorem rem5 (i : Nat) : (i : Int).tmod 5 = ((i % 5 : Nat) : Int) := by
  rw [Int.tmod_eq_emod_of_nonneg (by omega)]; omega
theorem cA_u8 (i : Nat) (h : i < 100) : IntKind.u8.wrap (97 + ((i / 5 : Nat) : Int)) = ((cA i).toNat : Int) := by
  rw [wrap8 (by omega) (by omega)]
  unfold cA
  have : (UInt8.ofNat (97 + i / 5)).toNat = 97 + i / 5 := by simp; omega
  omega
theorem cB_u8 (i : Nat) : IntKind.u8.wrap (97 + ((i % 5 : Nat) : Int)) = ((cB i).toNat : Int) := by
  rw [wrap8 (by omega) (by omega)]
  unfold cB
  have : (UInt8.ofNat (97 + i % 5)).toNat = 97 + i % 5 := by simp; omega
  omega
end Go.Proofs.Tw
end

section
open Go Go.Sv
namespace Go.Proofs.Tw
attribute [local irreducible] Wp FinQ resV Ent Pur Go.Sv.Fn Sat0
set_option maxRecDepth 100000
set_option maxHeartbeats 4000000
variable {G : Nat → Option (List Cell)}

theorem cookieBack_ok {m : Int} (ns : List Int) (raw : List UInt8) (n : Int) (hl : ns.length ≤ 9223372036854775807) : Pur Tryd.prog (Gm m) 4 [.c (.sl 1 ns.length (intsF ns)), .c (.str raw), .c (.int .i64 n)] [.c (.bool true)] := by
  refine Pur.of Tryd.func4 (by kernel_rfl) (by kernel_rfl) (by kernel_rfl) ?_
  have k0 := known14_ok (m := m)
  by_cases hr : 300 < raw.length
  · have ht : decide ((raw.length : Int) > 300) = true := by simp; omega
    refine Wp.go (mx := true) (fun _ => mixed) [(1, {cs := [(0, pc k0)]})] 100 [false, true] [(!true) = false, decide ((↑raw.length : Int) > (300 : Int)) = true] (by kernel_rfl) (by kernel_rfl) (by kernel_rfl) ⟨rfl, (show decide ((↑raw.length : Int) > (300 : Int)) = true from (by assumption))⟩ ?_
    refine Wp.ret' (by kernel_rfl) ?_
    exact FinQ.pure (rs' := [V1.c (Cell.bool true)]) (by kernel_rfl) rfl (by kernel_rfl)
  have hrl : raw.length ≤ 300 := by omega
  obtain ⟨ok6, len6⟩ := cks_facts ns 6
  have sum6 := ok_sum ok6
  have pl6 := printC_len (cksT ns 6)
  have pp := parse_print ok6 (by omega)
  have c1 := cks_ok (G := Gm m) ns 6 hl (by decide)
  have c2 := print_ok (m := m) (cksT ns 6) (sm_of (by omega)) (by omega) (by omega)
  have c3 := parse_ok (m := m) (printC (cksT ns 6)) (by omega)
  rw [pp] at c3
  have c4 := same_ok (G := Gm m) (cksT ns 6) (cksT ns 6) (by omega)
  rw [sameF_refl] at c4
  have c5 := parse_ok (m := m) raw (by omega)
  have hpl := parseC_len raw
  have hpp : (parseC raw).2 = 0 → printC (parseC raw).1 = raw ∧ ∀ f ∈ (parseC raw).1, mayC f = true := fun h => print_parse (by rw [← h])
  have c6 := within14_ok (G := Gm m) n 5 (by decide) (by decide)
  have hw := within14_rng n 5 (by decide)
  generalize cksT ns 6 = L at c1 c2 c3 c4 pp
  generalize parseC raw = q at c5 hpl hpp
  obtain ⟨w, hwn⟩ := Int.eq_ofNat_of_zero_le hw.1
  rw [hwn] at c6 hw
  have hw5 : w < 5 := by omega
  clear hw hwn pp ok6
  have e7 : EqvD (.c (.int .i64 (22 + ((w : Nat) : Int)))) (.c (.int .i64 ((22 + w : Nat) : Int))) := eqvD_of (by rw [show (22 : Int) + ((w : Nat) : Int) = ((22 + w : Nat) : Int) from by omega])
  refine Wp.go (mx := true) (fun _ => mixed) [(8, {cs := [(1, pc c6)], fm := [(2, .c (.int .i64 ((22 + w : Nat) : Int)))]}), (1, {cs := [(0, pc k0)]}), (5, {cs := [(1, pc c1)]}), (6, {cs := [(1, pc c2), (2, pc c3)]}), (7, {cs := [(1, pc c5)]})] 100 [false, false] [(!true) = false, decide ((↑raw.length : Int) > (300 : Int)) = false, EqvI (V1.c (Cell.int .i64 ((22 : Int) + (↑w : Int)))) (V1.c (Cell.int .i64 (↑((22 : Nat) + w) : Int))), EqvD (V1.c (Cell.int .i64 ((22 : Int) + (↑w : Int)))) (V1.c (Cell.int .i64 (↑((22 : Nat) + w) : Int))), inR IntKind.i64 ((22 : Int) + (↑w : Int))] (by kernel_rfl) (by kernel_rfl) (by kernel_rfl) ⟨rfl, (by simp; omega), fun _ _ => trivial, (by assumption), inR64 (by omega) (by omega)⟩ ?_
  refine Wp.loopK (by kernel_rfl) (fun (k : Nat) => ⟨[(1, TV.v (V1.c (Cell.str raw))), (7, TV.v (V1.c (Cell.sl (2 : Nat) L.length fun (i j : Nat) => nthD (encF (L.getD i FT.nil)) j))), (8, TV.v (V1.c (Cell.sl (2 : Nat) L.length fun (i j : Nat) => nthD (encF (L.getD i FT.nil)) j))), (9, TV.v (V1.c (Cell.int .i64 (0 : Int)))), (10, TV.v (V1.c (Cell.sl (2 : Nat) q.1.length fun (i j : Nat) => nthD (encF (q.1.getD i FT.nil)) j))), (11, TV.v (V1.c (Cell.int .i64 q.2))), (12, TV.v (V1.c (Cell.int .i64 (↑((22 : Nat) + w) : Int)))), (13, TV.v (V1.c (Cell.str (sN k)))), (14, TV.v (V1.c (Cell.int .i64 (k : Int))))], [], 480⟩) (fun k => k ≤ 22 + w) (fun k => 22 + w - k) 0 (Ent.of [] (by kernel_rfl) (by kernel_rfl) (by kernel_rfl) trivial) (Nat.zero_le _) ?_
  intro i L2 hi again
  have hsl := sN_len i
  rcases Nat.lt_or_ge i (22 + w) with hlt | hge
  · have f1 : EqvD (.c (.int .i64 (IntKind.i64.wrap ((i : Int).tdiv 5)))) (.c (.int .i64 ((i / 5 : Nat) : Int))) := eqvD_of (by rw [quo5 i (by omega)])
    have f2 : EqvD (.c (.int .u8 (IntKind.u8.wrap (97 + ((i / 5 : Nat) : Int))))) (.c (.int .u8 ((cA i).toNat : Int))) := eqvD_of (by rw [cA_u8 i (by omega)])
    have f3 : EqvD (.c (.int .i64 ((i : Int).tmod 5))) (.c (.int .i64 ((i % 5 : Nat) : Int))) := eqvD_of (by rw [rem5 i])
    have f4 : EqvD (.c (.int .u8 (IntKind.u8.wrap (97 + ((i % 5 : Nat) : Int))))) (.c (.int .u8 ((cB i).toNat : Int))) := eqvD_of (by rw [cB_u8 i])
    have f5 : EqvD (.c (.str (byteL (rowB [cA i, cB i]) 0 2))) (.c (.str [cA i, cB i])) := eqvD_of (by rw [byteL_B (n := 2) [cA i, cB i] rfl])
    have ab : areBytes (rowB [cA i, cB i]) 0 2 := areBytes_B _ (by simp)
    rcases Nat.eq_zero_or_pos i with h0 | h0
    · subst h0
      have hN : sN (0 + 1) = sN 0 ++ [cA 0, cB 0] ++ [61, 49] := rfl
      refine Wp.go (mx := true) (fun _ => mixed) [(15, {fm := [(2, .c (.int .i64 ((0 / 5 : Nat) : Int))), (4, .c (.int .u8 ((cA 0).toNat : Int))), (6, .c (.int .i64 ((0 % 5 : Nat) : Int))), (8, .c (.int .u8 ((cB 0).toNat : Int))), (10, .c (.str [cA 0, cB 0]))]})] 100 [true, false] [decide ((↑(0 : Nat) : Int) < (↑((22 : Nat) + w) : Int)) = true, decide ((↑(0 : Nat) : Int) > (0 : Int)) = false, EqvI (V1.c (Cell.int .i64 (IntKind.i64.wrap ((↑(0 : Nat) : Int).tdiv (5 : Int))))) (V1.c (Cell.int .i64 (↑(0 / 5 : Nat) : Int))), EqvD (V1.c (Cell.int .i64 (IntKind.i64.wrap ((↑(0 : Nat) : Int).tdiv (5 : Int))))) (V1.c (Cell.int .i64 (↑(0 / 5 : Nat) : Int))), (5 : Int) ≠ (0 : Int), inR IntKind.i64 ((97 : Int) + (↑(0 / 5 : Nat) : Int)), EqvI (V1.c (Cell.int .u8 (IntKind.u8.wrap ((97 : Int) + (↑(0 / 5 : Nat) : Int))))) (V1.c (Cell.int .u8 (↑(cA (0 : Nat)).toNat : Int))), EqvD (V1.c (Cell.int .u8 (IntKind.u8.wrap ((97 : Int) + (↑(0 / 5 : Nat) : Int))))) (V1.c (Cell.int .u8 (↑(cA (0 : Nat)).toNat : Int))), EqvI (V1.c (Cell.int .i64 ((↑(0 : Nat) : Int).tmod (5 : Int)))) (V1.c (Cell.int .i64 (↑((0 : Nat) % (5 : Nat)) : Int))), EqvD (V1.c (Cell.int .i64 ((↑(0 : Nat) : Int).tmod (5 : Int)))) (V1.c (Cell.int .i64 (↑((0 : Nat) % (5 : Nat)) : Int))), (5 : Int) ≠ (0 : Int), inR IntKind.i64 ((97 : Int) + (↑((0 : Nat) % (5 : Nat)) : Int)), EqvI (V1.c (Cell.int .u8 (IntKind.u8.wrap ((97 : Int) + (↑((0 : Nat) % (5 : Nat)) : Int))))) (V1.c (Cell.int .u8 (↑(cB (0 : Nat)).toNat : Int))), EqvD (V1.c (Cell.int .u8 (IntKind.u8.wrap ((97 : Int) + (↑((0 : Nat) % (5 : Nat)) : Int))))) (V1.c (Cell.int .u8 (↑(cB (0 : Nat)).toNat : Int))), EqvI (V1.c (Cell.str [(97 : UInt8), 97])) (V1.c (Cell.str [cA (0 : Nat), cB (0 : Nat)])), EqvD (V1.c (Cell.str [(97 : UInt8), 97])) (V1.c (Cell.str [cA (0 : Nat), cB (0 : Nat)])), (0 : Nat) + (2 : Nat) ≤ (2 : Nat), areBytes (fun (i j : Nat) => nthD [Cell.int .u8 (↑(cA (0 : Nat)).toNat : Int), Cell.int .u8 (↑(cB (0 : Nat)).toNat : Int)] (i * (1 : Nat) + j)) (0 : Nat) (2 : Nat), (sN (0 : Nat)).length + [cA (0 : Nat), cB (0 : Nat)].length ≤ (9223372036854775807 : Nat), (4 : Nat) ≤ (9223372036854775807 : Nat), inR IntKind.i64 ((↑(0 : Nat) : Int) + (1 : Int))] (by kernel_rfl) (by kernel_rfl) (by kernel_rfl) ⟨(by simp; omega), rfl, fun _ _ => trivial, (by assumption), (by omega), inR64 (by omega) (by omega), fun _ _ => trivial, (by assumption), fun _ _ => trivial, (by assumption), (by omega), inR64 (by omega) (by omega), fun _ _ => trivial, (by assumption), fun _ _ => trivial, (by assumption), (by omega), (by assumption), (by decide), (by omega), inR64 (by omega) (by omega)⟩ ?_
      exact Wp.lpK (by kernel_rfl) (again _ (0 + 1) (by assumption) (by omega) (Ent.of [] (by kernel_rfl) (by kernel_rfl) (by kernel_rfl) trivial))
    · have hN : sN (i + 1) = sN i ++ [59, 32] ++ [cA i, cB i] ++ [61, 49] := by rw [sN, if_pos h0]
      have e9 : EqvD (.c (.str (sN i ++ [59, 32] ++ [cA i, cB i] ++ [61, 49]))) (.c (.str (sN (i + 1)))) := eqvD_of (by rw [hN])
      refine Wp.go (mx := true) (fun _ => mixed) [(15, {fm := [(2, .c (.int .i64 ((i / 5 : Nat) : Int))), (4, .c (.int .u8 ((cA i).toNat : Int))), (6, .c (.int .i64 ((i % 5 : Nat) : Int))), (8, .c (.int .u8 ((cB i).toNat : Int))), (10, .c (.str [cA i, cB i])), (12, .c (.str (sN (i + 1))))]})] 100 [true, true] [decide ((↑i : Int) < (↑((22 : Nat) + w) : Int)) = true, decide ((↑i : Int) > (0 : Int)) = true, (sN i).length + (2 : Nat) ≤ (9223372036854775807 : Nat), EqvI (V1.c (Cell.int .i64 (IntKind.i64.wrap ((↑i : Int).tdiv (5 : Int))))) (V1.c (Cell.int .i64 (↑(i / (5 : Nat)) : Int))), EqvD (V1.c (Cell.int .i64 (IntKind.i64.wrap ((↑i : Int).tdiv (5 : Int))))) (V1.c (Cell.int .i64 (↑(i / (5 : Nat)) : Int))), (5 : Int) ≠ (0 : Int), inR IntKind.i64 ((97 : Int) + (↑(i / (5 : Nat)) : Int)), EqvI (V1.c (Cell.int .u8 (IntKind.u8.wrap ((97 : Int) + (↑(i / (5 : Nat)) : Int))))) (V1.c (Cell.int .u8 (↑(cA i).toNat : Int))), EqvD (V1.c (Cell.int .u8 (IntKind.u8.wrap ((97 : Int) + (↑(i / (5 : Nat)) : Int))))) (V1.c (Cell.int .u8 (↑(cA i).toNat : Int))), EqvI (V1.c (Cell.int .i64 ((↑i : Int).tmod (5 : Int)))) (V1.c (Cell.int .i64 (↑(i % (5 : Nat)) : Int))), EqvD (V1.c (Cell.int .i64 ((↑i : Int).tmod (5 : Int)))) (V1.c (Cell.int .i64 (↑(i % (5 : Nat)) : Int))), (5 : Int) ≠ (0 : Int), inR IntKind.i64 ((97 : Int) + (↑(i % (5 : Nat)) : Int)), EqvI (V1.c (Cell.int .u8 (IntKind.u8.wrap ((97 : Int) + (↑(i % (5 : Nat)) : Int))))) (V1.c (Cell.int .u8 (↑(cB i).toNat : Int))), EqvD (V1.c (Cell.int .u8 (IntKind.u8.wrap ((97 : Int) + (↑(i % (5 : Nat)) : Int))))) (V1.c (Cell.int .u8 (↑(cB i).toNat : Int))), EqvI (V1.c (Cell.str [{ toBitVec := BitVec.ofNat (8 : Nat) (cA i).toNat }, { toBitVec := BitVec.ofNat (8 : Nat) (cB i).toNat }])) (V1.c (Cell.str [cA i, cB i])), EqvD (V1.c (Cell.str [{ toBitVec := BitVec.ofNat (8 : Nat) (cA i).toNat }, { toBitVec := BitVec.ofNat (8 : Nat) (cB i).toNat }])) (V1.c (Cell.str [cA i, cB i])), (0 : Nat) + (2 : Nat) ≤ (2 : Nat), areBytes (fun (i_1 j : Nat) => nthD [Cell.int .u8 (↑(cA i).toNat : Int), Cell.int .u8 (↑(cB i).toNat : Int)] (i_1 * (1 : Nat) + j)) (0 : Nat) (2 : Nat), (sN i ++ [(59 : UInt8), 32]).length + [cA i, cB i].length ≤ (9223372036854775807 : Nat), EqvI (V1.c (Cell.str (sN i ++ [(59 : UInt8), 32] ++ [cA i, cB i] ++ [(61 : UInt8), 49]))) (V1.c (Cell.str (sN (i + (1 : Nat))))), EqvD (V1.c (Cell.str (sN i ++ [(59 : UInt8), 32] ++ [cA i, cB i] ++ [(61 : UInt8), 49]))) (V1.c (Cell.str (sN (i + (1 : Nat))))), (sN i ++ [(59 : UInt8), 32] ++ [cA i, cB i]).length + (2 : Nat) ≤ (9223372036854775807 : Nat), inR IntKind.i64 ((↑i : Int) + (1 : Int))] (by kernel_rfl) (by kernel_rfl) (by kernel_rfl) ⟨(by simp; omega), (by simp; omega), (by omega), fun _ _ => trivial, (by assumption), (by omega), inR64 (by omega) (by omega), fun _ _ => trivial, (by assumption), fun _ _ => trivial, (by assumption), (by omega), inR64 (by omega) (by omega), fun _ _ => trivial, (by assumption), fun _ _ => trivial, (by assumption), (by omega), (by assumption), (by simp; omega), fun _ _ => trivial, (by assumption), (by simp; omega), inR64 (by omega) (by omega)⟩ ?_
      exact Wp.lpK (by kernel_rfl) (again _ (i + 1) (by assumption) (by omega) (Ent.of [] (by kernel_rfl) (by kernel_rfl) (by kernel_rfl) trivial))
  obtain rfl : i = 22 + w := by omega
  clear again
  have c7 := parse_ok (m := m) (sN (22 + w)) (by omega)
  have c8 := parse_ok (m := m) (sN (22 + w) ++ [59, 32, 63]) (by rw [List.length_append]; simp; omega)
  have g1 := sN_few (22 + w)
  have g2 := sN_many (22 + w)
  have g3 := sN_just
  have fin : ∀ (x y : List FT × Int), x = parseC (sN (22 + w)) → y = parseC (sN (22 + w) ++ [59, 32, 63]) → (22 + w < 24 → x.2 = 0 ∧ y.2 = 3) ∧ (22 + w = 24 → x.2 = 0 ∧ y.2 = 7) ∧ (24 < 22 + w → x.2 = 7 ∧ y.2 = 7) := by
    rintro x y rfl rfl
    refine ⟨fun h => g1 (by omega), fun h => ?_, fun h => g2 (by omega)⟩
    rw [h]; exact g3
  have fin := fin _ _ rfl rfl
  clear g1 g2 g3
  generalize parseC (sN (22 + w)) = x at c7 fin
  generalize parseC (sN (22 + w) ++ [59, 32, 63]) = y at c8 fin
  obtain ⟨x1, x2⟩ := x
  obtain ⟨y1, y2⟩ := y
  obtain ⟨q1, q2⟩ := q
  simp only at fin hpl hpp c5 c7 c8
  have hpr : q2 = 0 → Pur Tryd.prog (Gm m) 14 [.c (encH q1)] [.c (.str raw)] := fun h => by
    obtain ⟨h1, h2⟩ := hpp h
    have hs := may_sum h2
    have := print_ok (m := m) q1 (sm_of (by omega)) (by omega) (by rw [h1]; omega)
    rwa [h1] at this
  by_cases hq : q2 = 0
  · subst hq
    have c9 := hpr rfl
    rcases Nat.lt_trichotomy (22 + w) 24 with hk | hk | hk
    · obtain ⟨rfl, rfl⟩ := fin.1 hk
      have hd : decide (((22 + w : Nat) : Int) ≤ 24) = true := by simp; omega
      refine Wp.go (mx := true) (fun _ => mixed) [(16, {cs := [(1, pc c7)]}), (17, {cs := [(2, pc c8)]}), (21, {cs := [(5, pc c4), (12, pc c9)]})] 100 [false, false] [decide ((↑((22 : Nat) + w) : Int) < (↑((22 : Nat) + w) : Int)) = false, (sN ((22 : Nat) + w)).length + (3 : Nat) ≤ (9223372036854775807 : Nat), inR IntKind.i64 ((↑((22 : Nat) + w) : Int) + (1 : Int)), decide ((↑((22 : Nat) + w) : Int) + (1 : Int) > (24 : Int)) = false] (by kernel_rfl) (by kernel_rfl) (by kernel_rfl) ⟨(by simp; done), (by omega), inR64 (by omega) (by omega), (show decide ((↑((22 : Nat) + w) : Int) + (1 : Int) > (24 : Int)) = false from (by simp; omega))⟩ ?_
      refine Wp.ret' (by kernel_rfl) ?_
      exact FinQ.pure (rs' := [V1.c (Cell.bool (bif bif bif bif bif (0 : Int) == (0 : Int) then true else false then bif (0 : Int) != (0 : Int) then true else raw == raw else false then ((0 : Int) == (0 : Int)) == decide ((↑((22 : Nat) + w) : Int) ≤ (24 : Int)) else false then bif (0 : Int) == (0 : Int) then true else (0 : Int) == (7 : Int) else false then (3 : Int) == (3 : Int) else false))]) (by kernel_rfl) (by simp_all; done) (by kernel_rfl)
    · obtain ⟨rfl, rfl⟩ := fin.2.1 hk
      have hd : decide (((22 + w : Nat) : Int) ≤ 24) = true := by simp; omega
      refine Wp.go (mx := true) (fun _ => mixed) [(16, {cs := [(1, pc c7)]}), (17, {cs := [(2, pc c8)]}), (21, {cs := [(5, pc c4), (12, pc c9)]})] 100 [false, true] [decide ((↑((22 : Nat) + w) : Int) < (↑((22 : Nat) + w) : Int)) = false, (sN ((22 : Nat) + w)).length + (3 : Nat) ≤ (9223372036854775807 : Nat), inR IntKind.i64 ((↑((22 : Nat) + w) : Int) + (1 : Int)), decide ((↑((22 : Nat) + w) : Int) + (1 : Int) > (24 : Int)) = true] (by kernel_rfl) (by kernel_rfl) (by kernel_rfl) ⟨(by simp; done), (by omega), inR64 (by omega) (by omega), (show decide ((↑((22 : Nat) + w) : Int) + (1 : Int) > (24 : Int)) = true from (by simp; omega))⟩ ?_
      refine Wp.ret' (by kernel_rfl) ?_
      exact FinQ.pure (rs' := [V1.c (Cell.bool (bif bif bif bif bif (0 : Int) == (0 : Int) then true else false then bif (0 : Int) != (0 : Int) then true else raw == raw else false then ((0 : Int) == (0 : Int)) == decide ((↑((22 : Nat) + w) : Int) ≤ (24 : Int)) else false then bif (0 : Int) == (0 : Int) then true else (0 : Int) == (7 : Int) else false then (7 : Int) == (7 : Int) else false))]) (by kernel_rfl) (by simp [*]; done) (by kernel_rfl)
    · obtain ⟨rfl, rfl⟩ := fin.2.2 hk
      have hd : decide (((22 + w : Nat) : Int) ≤ 24) = false := by simp; omega
      refine Wp.go (mx := true) (fun _ => mixed) [(16, {cs := [(1, pc c7)]}), (17, {cs := [(2, pc c8)]}), (21, {cs := [(5, pc c4), (12, pc c9)]})] 100 [false, true] [decide ((↑((22 : Nat) + w) : Int) < (↑((22 : Nat) + w) : Int)) = false, (sN ((22 : Nat) + w)).length + (3 : Nat) ≤ (9223372036854775807 : Nat), inR IntKind.i64 ((↑((22 : Nat) + w) : Int) + (1 : Int)), decide ((↑((22 : Nat) + w) : Int) + (1 : Int) > (24 : Int)) = true] (by kernel_rfl) (by kernel_rfl) (by kernel_rfl) ⟨(by simp; done), (by omega), inR64 (by omega) (by omega), (show decide ((↑((22 : Nat) + w) : Int) + (1 : Int) > (24 : Int)) = true from (by simp; omega))⟩ ?_
      refine Wp.ret' (by kernel_rfl) ?_
      exact FinQ.pure (rs' := [V1.c (Cell.bool (bif bif bif bif bif (0 : Int) == (0 : Int) then true else false then bif (0 : Int) != (0 : Int) then true else raw == raw else false then ((7 : Int) == (0 : Int)) == decide ((↑((22 : Nat) + w) : Int) ≤ (24 : Int)) else false then bif (7 : Int) == (0 : Int) then true else (7 : Int) == (7 : Int) else false then (7 : Int) == (7 : Int) else false))]) (by kernel_rfl) (by simp_all; done) (by kernel_rfl)
  · have hq0 : (q2 != 0) = true := by simpa using hq
    rcases Nat.lt_trichotomy (22 + w) 24 with hk | hk | hk
    · obtain ⟨rfl, rfl⟩ := fin.1 hk
      have hd : decide (((22 + w : Nat) : Int) ≤ 24) = true := by simp; omega
      refine Wp.go (mx := true) (fun _ => mixed) [(21, {cs := [(5, pc c4)], grd := [(8, true), (9, true), (10, true), (11, false), (12, false), (13, false), (14, false), (15, true)]}), (16, {cs := [(1, pc c7)]}), (17, {cs := [(2, pc c8)]})] 100 [false, false] [decide ((↑((22 : Nat) + w) : Int) < (↑((22 : Nat) + w) : Int)) = false, (sN ((22 : Nat) + w)).length + (3 : Nat) ≤ (9223372036854775807 : Nat), inR IntKind.i64 ((↑((22 : Nat) + w) : Int) + (1 : Int)), decide ((↑((22 : Nat) + w) : Int) + (1 : Int) > (24 : Int)) = false, (bif (0 : Int) == (0 : Int) then true else false) = true, (bif (0 : Int) == (0 : Int) then true else false) = true, (bif (0 : Int) == (0 : Int) then true else false) = true, (q2 != (0 : Int)) = !false, (q2 != (0 : Int)) = !false, (q2 != (0 : Int)) = !false, (q2 != (0 : Int)) = !false, (bif (0 : Int) == (0 : Int) then true else false) = true, (q2 != (0 : Int)) = true] (by kernel_rfl) (by kernel_rfl) (by kernel_rfl) ⟨(by simp; done), (by omega), inR64 (by omega) (by omega), (by simp; omega), rfl, rfl, rfl, (by assumption), (by assumption), (by assumption), (by assumption), rfl, (show (q2 != (0 : Int)) = true from (by assumption))⟩ ?_
      refine Wp.ret' (by kernel_rfl) ?_
      exact FinQ.pure (rs' := [V1.c (Cell.bool (bif bif bif bif bif (0 : Int) == (0 : Int) then true else false then true else false then ((0 : Int) == (0 : Int)) == decide ((↑((22 : Nat) + w) : Int) ≤ (24 : Int)) else false then bif (0 : Int) == (0 : Int) then true else (0 : Int) == (7 : Int) else false then (3 : Int) == (3 : Int) else false))]) (by kernel_rfl) (by simp_all; done) (by kernel_rfl)
    · obtain ⟨rfl, rfl⟩ := fin.2.1 hk
      have hd : decide (((22 + w : Nat) : Int) ≤ 24) = true := by simp; omega
      refine Wp.go (mx := true) (fun _ => mixed) [(21, {cs := [(5, pc c4)], grd := [(8, true), (9, true), (10, true), (11, false), (12, false), (13, false), (14, false), (15, true)]}), (16, {cs := [(1, pc c7)]}), (17, {cs := [(2, pc c8)]})] 100 [false, true] [decide ((↑((22 : Nat) + w) : Int) < (↑((22 : Nat) + w) : Int)) = false, (sN ((22 : Nat) + w)).length + (3 : Nat) ≤ (9223372036854775807 : Nat), inR IntKind.i64 ((↑((22 : Nat) + w) : Int) + (1 : Int)), decide ((↑((22 : Nat) + w) : Int) + (1 : Int) > (24 : Int)) = true, (bif (0 : Int) == (0 : Int) then true else false) = true, (bif (0 : Int) == (0 : Int) then true else false) = true, (bif (0 : Int) == (0 : Int) then true else false) = true, (q2 != (0 : Int)) = !false, (q2 != (0 : Int)) = !false, (q2 != (0 : Int)) = !false, (q2 != (0 : Int)) = !false, (bif (0 : Int) == (0 : Int) then true else false) = true, (q2 != (0 : Int)) = true] (by kernel_rfl) (by kernel_rfl) (by kernel_rfl) ⟨(by simp; done), (by omega), inR64 (by omega) (by omega), (by simp; omega), rfl, rfl, rfl, (by assumption), (by assumption), (by assumption), (by assumption), rfl, (show (q2 != (0 : Int)) = true from (by assumption))⟩ ?_
      refine Wp.ret' (by kernel_rfl) ?_
      exact FinQ.pure (rs' := [V1.c (Cell.bool (bif bif bif bif bif (0 : Int) == (0 : Int) then true else false then true else false then ((0 : Int) == (0 : Int)) == decide ((↑((22 : Nat) + w) : Int) ≤ (24 : Int)) else false then bif (0 : Int) == (0 : Int) then true else (0 : Int) == (7 : Int) else false then (7 : Int) == (7 : Int) else false))]) (by kernel_rfl) (by simp [*]; done) (by kernel_rfl)
    · obtain ⟨rfl, rfl⟩ := fin.2.2 hk
      have hd : decide (((22 + w : Nat) : Int) ≤ 24) = false := by simp; omega
      refine Wp.go (mx := true) (fun _ => mixed) [(21, {cs := [(5, pc c4)], grd := [(8, true), (9, true), (10, true), (11, false), (12, false), (13, false), (14, false), (15, true)]}), (16, {cs := [(1, pc c7)]}), (17, {cs := [(2, pc c8)]})] 100 [false, true] [decide ((↑((22 : Nat) + w) : Int) < (↑((22 : Nat) + w) : Int)) = false, (sN ((22 : Nat) + w)).length + (3 : Nat) ≤ (9223372036854775807 : Nat), inR IntKind.i64 ((↑((22 : Nat) + w) : Int) + (1 : Int)), decide ((↑((22 : Nat) + w) : Int) + (1 : Int) > (24 : Int)) = true, (bif (0 : Int) == (0 : Int) then true else false) = true, (bif (0 : Int) == (0 : Int) then true else false) = true, (bif (0 : Int) == (0 : Int) then true else false) = true, (q2 != (0 : Int)) = !false, (q2 != (0 : Int)) = !false, (q2 != (0 : Int)) = !false, (q2 != (0 : Int)) = !false, (bif (0 : Int) == (0 : Int) then true else false) = true, (q2 != (0 : Int)) = true] (by kernel_rfl) (by kernel_rfl) (by kernel_rfl) ⟨(by simp; done), (by omega), inR64 (by omega) (by omega), (by simp; omega), rfl, rfl, rfl, (by assumption), (by assumption), (by assumption), (by assumption), rfl, (show (q2 != (0 : Int)) = true from (by assumption))⟩ ?_
      refine Wp.ret' (by kernel_rfl) ?_
      exact FinQ.pure (rs' := [V1.c (Cell.bool (bif bif bif bif bif (0 : Int) == (0 : Int) then true else false then true else false then ((7 : Int) == (0 : Int)) == decide ((↑((22 : Nat) + w) : Int) ≤ (24 : Int)) else false then bif (7 : Int) == (0 : Int) then true else (7 : Int) == (7 : Int) else false then (7 : Int) == (7 : Int) else false))]) (by kernel_rfl) (by simp_all; done) (by kernel_rfl)
end Go.Proofs.Tw
end

section
open Go Go.Sv
namespace Go.Proofs.Tw
attribute [local irreducible] Wp FinQ resV Ent Pur Go.Sv.Fn Sat0
set_option maxRecDepth 100000
set_option maxHeartbeats 4000000
variable {G : Nat → Option (List Cell)}

theorem cksR_ok (ns : List Int) (m : Nat) (hl : ns.length ≤ 9223372036854775807) (hm : m < 1000) : FnB Tryd.prog G 10 [] [.c (.sl 1 ns.length (intsF ns)), .c (.int .i64 (m : Int))] [.c (.row 2 0 0 (cksT ns m).length)] [(0, .row 26 2 (cksT ns m).length (fldF (cksT ns m)))] := by
  refine Fn.of' Tryd.func10 (by kernel_rfl) (by kernel_rfl) (by kernel_rfl) (by kernel_rfl) trivial ?_
  refine Wp.go (mx := true) (fun _ => mixed) [] 100 [] [] (by kernel_rfl) (by kernel_rfl) (by kernel_rfl) trivial ?_
  refine Wp.loopK (by kernel_rfl) (fun (x : Nat × Nat × Nat × List FT) => ⟨[(1, .v (.c (.int .i64 (m : Int)))), (5, .v (.c (.ptr 48 0))), (6, .v (.c (.row 2 112 0 x.2.2.1))), (7, .v (.c (.int .i64 (x.1 : Int))))], [(48, tapeB ns x.2.1), (112, .row 26 2 x.2.2.1 (fldF x.2.2.2))], 128⟩)
    (fun x => x.1 ≤ m ∧ x.2.2.1 = x.2.2.2.length ∧ x.2.2.1 ≤ x.1 ∧ cksT ns m = cksN ns (m - x.1) x.2.1 x.2.2.2) (fun x => m - x.1) (0, 0, 0, []) (Ent.trans (Ent.empT (t := 6) (sz := 2) (e := 26) (f := fldF []) (by decide) (by kernel_rfl) rfl) (Ent.of [] (by kernel_rfl) (by kernel_rfl) (by kernel_rfl) trivial)) ⟨Nat.zero_le _, rfl, Nat.le_refl _, rfl⟩ ?_
  rintro ⟨i, a, n, l⟩ L ⟨hi, hn, hll, hq⟩ again
  simp only at hi hn hll hq
  have hz : m - i = 0 → cksT ns m = l := fun h => by rw [hq, h]; rfl
  have hs : i < m → cksT ns m = (if a < ns.length then cksN ns (m - i - 1) (nextA ns (nextA ns a 6) 4) (if (fGet l (pickT nmsC ns a)).isSome then l else l ++ [fldC ns a]) else l) := fun h => by
    rw [hq, show m - i = (m - i - 1) + 1 from by omega]; rfl
  have mo := more1_ok (G := G) ns a
  rcases Nat.lt_or_ge i m with him | him
  · have hs := hs him
    have hm1 : m - (i + 1) = m - i - 1 := by omega
    by_cases ha : a < ns.length
    · rw [if_pos ha] at hs
      rw [decide_eq_true ha] at mo
      have e1 : EqvD (.c (.sl 1 6 (fun i j => nthD [Cell.str [115, 105, 100], Cell.str [97], Cell.str [98], Cell.str [126], Cell.str [120, 45, 49], Cell.str [57]] (i * 1 + j)))) (.c (.sl 1 nmsC.length (strsF nmsC))) := strs_lit nmsC rfl rfl
      have e2 : EqvD (.c (.sl 1 4 (fun i j => nthD [Cell.str [126, 65, 103, 65, 65, 65, 65, 69, 126], Cell.str [120], Cell.str [48], Cell.str [97, 46, 98]] (i * 1 + j)))) (.c (.sl 1 valsC.length (strsF valsC))) := strs_lit valsC rfl rfl
      have p1 := pick_ok (G := G) nmsC ns a hl (by decide)
      have p2 := pick_ok (G := G) valsC ns (nextA ns a 6) hl (by decide)
      have hc := has10_n (G := G) l n (pickT nmsC ns a) hn (by omega)
      cases hg : (fGet l (pickT nmsC ns a)).isSome with
      | true =>
        rw [hg, if_pos rfl, ← hm1] at hs
        rw [hg] at hc
        clear hz hq hg
        refine Wp.go (mx := true) (fun _ => mixed) [(6, {cs := [(2, cb [48] p1), (5, cb [48] p2)], fm := [(1, .c (.sl 1 nmsC.length (strsF nmsC))), (4, .c (.sl 1 valsC.length (strsF valsC)))]}), (4, {grd := [(4, true), (5, true)], cs := [(5, cb [48] mo)]}), (7, {cs := [(3, lc [112] [Blk.row 26 (2 : Nat) n (fldF l)] [V1.c (Cell.row (2 : Nat) (0 : Nat) (0 : Nat) n), V1.c (Cell.str (nmsC.getD (nextV ns a (↑nmsC.length : Int)).toNat []))] hc (by kernel_rfl) (by kernel_rfl) (by kernel_rfl) (show (0 : Nat) + n ≤ n from (by omega)))]})] 100 [true, false] [decide ((↑i : Int) < (↑m : Int)) = true, decide ((↑i : Int) < (↑m : Int)) = true, (bif decide ((↑i : Int) < (↑m : Int)) then true else false) = true, EqvI (V1.c (Cell.sl (1 : Nat) (6 : Nat) fun (i j : Nat) => nthD [Cell.str [(115 : UInt8), 105, 100], Cell.str [(97 : UInt8)], Cell.str [(98 : UInt8)], Cell.str [(126 : UInt8)], Cell.str [(120 : UInt8), 45, 49], Cell.str [(57 : UInt8)]] (i * (1 : Nat) + j))) (V1.c (Cell.sl (1 : Nat) nmsC.length (strsF nmsC))), EqvD (V1.c (Cell.sl (1 : Nat) (6 : Nat) fun (i j : Nat) => nthD [Cell.str [(115 : UInt8), 105, 100], Cell.str [(97 : UInt8)], Cell.str [(98 : UInt8)], Cell.str [(126 : UInt8)], Cell.str [(120 : UInt8), 45, 49], Cell.str [(57 : UInt8)]] (i * (1 : Nat) + j))) (V1.c (Cell.sl (1 : Nat) nmsC.length (strsF nmsC))), EqvI (V1.c (Cell.sl (1 : Nat) (4 : Nat) fun (i j : Nat) => nthD [Cell.str [(126 : UInt8), 65, 103, 65, 65, 65, 65, 69, 126], Cell.str [(120 : UInt8)], Cell.str [(48 : UInt8)], Cell.str [(97 : UInt8), 46, 98]] (i * (1 : Nat) + j))) (V1.c (Cell.sl (1 : Nat) valsC.length (strsF valsC))), EqvD (V1.c (Cell.sl (1 : Nat) (4 : Nat) fun (i j : Nat) => nthD [Cell.str [(126 : UInt8), 65, 103, 65, 65, 65, 65, 69, 126], Cell.str [(120 : UInt8)], Cell.str [(48 : UInt8)], Cell.str [(97 : UInt8), 46, 98]] (i * (1 : Nat) + j))) (V1.c (Cell.sl (1 : Nat) valsC.length (strsF valsC))), (!true) = false, inR IntKind.i64 ((↑i : Int) + (1 : Int))] (by kernel_rfl) (by kernel_rfl) (by kernel_rfl) ⟨(by simp; omega), (by simp; omega), (by simp; omega), fun _ _ => trivial, (by assumption), fun _ _ => trivial, (by assumption), rfl, inR64 (by omega) (by omega)⟩ ?_
        exact Wp.lpK (by kernel_rfl) (again _ (i + 1, nextA ns (nextA ns a 6) 4, n, l) ⟨(by assumption), ⟨(by assumption), ⟨(by simp; omega), (by assumption)⟩⟩⟩ (by omega) (Ent.of [] (by kernel_rfl) (by kernel_rfl) (by kernel_rfl) trivial))
      | false =>
        rw [hg, if_neg (by decide), ← hm1] at hs
        rw [hg] at hc
        have e3 : BlkEqv (.row 26 2 (n + 1) (catF n (fldF l) (fun i j => nthD (encF (fldC ns a)) ((0 + i) * 2 + j)))) (.row 26 2 (n + 1) (fldF (l ++ [fldC ns a]))) := enc_app l _ hn
        have q2 : n + 1 = (l ++ [fldC ns a]).length := by simp [hn]
        clear hz hq hg
        refine Wp.go (mx := true) (fun _ => mixed) [(6, {cs := [(2, cb [48] p1), (5, cb [48] p2)], fm := [(1, .c (.sl 1 nmsC.length (strsF nmsC))), (4, .c (.sl 1 valsC.length (strsF valsC)))]}), (8, {bs := [(3, Blk.row 26 2 (n + 1) (fldF (l ++ [fldC ns a])))]}), (4, {grd := [(4, true), (5, true)], cs := [(5, cb [48] mo)]}), (7, {cs := [(3, lc [112] [Blk.row 26 (2 : Nat) n (fldF l)] [V1.c (Cell.row (2 : Nat) (0 : Nat) (0 : Nat) n), V1.c (Cell.str (nmsC.getD (nextV ns a (↑nmsC.length : Int)).toNat []))] hc (by kernel_rfl) (by kernel_rfl) (by kernel_rfl) (show (0 : Nat) + n ≤ n from (by omega)))]})] 100 [true, true] [decide ((↑i : Int) < (↑m : Int)) = true, decide ((↑i : Int) < (↑m : Int)) = true, (bif decide ((↑i : Int) < (↑m : Int)) then true else false) = true, EqvI (V1.c (Cell.sl (1 : Nat) (6 : Nat) fun (i j : Nat) => nthD [Cell.str [(115 : UInt8), 105, 100], Cell.str [(97 : UInt8)], Cell.str [(98 : UInt8)], Cell.str [(126 : UInt8)], Cell.str [(120 : UInt8), 45, 49], Cell.str [(57 : UInt8)]] (i * (1 : Nat) + j))) (V1.c (Cell.sl (1 : Nat) nmsC.length (strsF nmsC))), EqvD (V1.c (Cell.sl (1 : Nat) (6 : Nat) fun (i j : Nat) => nthD [Cell.str [(115 : UInt8), 105, 100], Cell.str [(97 : UInt8)], Cell.str [(98 : UInt8)], Cell.str [(126 : UInt8)], Cell.str [(120 : UInt8), 45, 49], Cell.str [(57 : UInt8)]] (i * (1 : Nat) + j))) (V1.c (Cell.sl (1 : Nat) nmsC.length (strsF nmsC))), EqvI (V1.c (Cell.sl (1 : Nat) (4 : Nat) fun (i j : Nat) => nthD [Cell.str [(126 : UInt8), 65, 103, 65, 65, 65, 65, 69, 126], Cell.str [(120 : UInt8)], Cell.str [(48 : UInt8)], Cell.str [(97 : UInt8), 46, 98]] (i * (1 : Nat) + j))) (V1.c (Cell.sl (1 : Nat) valsC.length (strsF valsC))), EqvD (V1.c (Cell.sl (1 : Nat) (4 : Nat) fun (i j : Nat) => nthD [Cell.str [(126 : UInt8), 65, 103, 65, 65, 65, 65, 69, 126], Cell.str [(120 : UInt8)], Cell.str [(48 : UInt8)], Cell.str [(97 : UInt8), 46, 98]] (i * (1 : Nat) + j))) (V1.c (Cell.sl (1 : Nat) valsC.length (strsF valsC))), (!false) = true, (n + (1 : Nat)) * (32 : Nat) ≤ (140737488355328 : Nat), BlkEqv (Blk.row 26 (2 : Nat) (n + (1 : Nat)) (catF n (fldF l) fun (i j : Nat) => nthD [Cell.str (nmsC.getD (nextV ns a (↑nmsC.length : Int)).toNat []), Cell.str (valsC.getD (nextV ns (nextA ns a (6 : Int)) (↑valsC.length : Int)).toNat [])] (((0 : Nat) + i) * (2 : Nat) + j))) (Blk.row 26 (2 : Nat) (n + (1 : Nat)) (fldF (l ++ [fldC ns a]))), n ≤ n, (0 : Nat) + (1 : Nat) ≤ (1 : Nat), inR IntKind.i64 ((↑i : Int) + (1 : Int))] (by kernel_rfl) (by kernel_rfl) (by kernel_rfl) ⟨(by simp; omega), (by simp; omega), (by simp; omega), fun _ _ => trivial, (by assumption), fun _ _ => trivial, (by assumption), rfl, (by omega), (by assumption), (by omega), (by omega), inR64 (by omega) (by omega)⟩ ?_
        exact Wp.lpK (by kernel_rfl) (again _ (i + 1, nextA ns (nextA ns a 6) 4, n + 1, l ++ [fldC ns a]) ⟨(by assumption), ⟨(by assumption), ⟨(by simp; omega), (by assumption)⟩⟩⟩ (by omega) (Ent.of [(112, 512)] (by kernel_rfl) (by kernel_rfl) (by kernel_rfl) trivial))
    · rw [if_neg ha] at hs
      rw [decide_eq_false ha] at mo
      rw [hs]
      subst hn
      clear hz hq
      refine Wp.go (mx := true) (fun _ => mixed) [(4, {grd := [(4, true), (5, true)], cs := [(5, cb [48] mo)]})] 100 [false] [decide ((↑i : Int) < (↑m : Int)) = true, decide ((↑i : Int) < (↑m : Int)) = true, (bif decide ((↑i : Int) < (↑m : Int)) then false else false) = false] (by kernel_rfl) (by kernel_rfl) (by kernel_rfl) ⟨(by simp; omega), (by simp; omega), (show (bif decide ((↑i : Int) < (↑m : Int)) then false else false) = false from (by simp; done))⟩ ?_
      refine Wp.ret' (by kernel_rfl) ?_
      exact FinQ.blk [112] (by kernel_rfl) (by kernel_rfl) (by kernel_rfl) (by kernel_rfl) (by kernel_rfl) trivial
  · have hs := hz (by omega)
    rw [hs]
    subst hn
    clear hz hq
    refine Wp.go (mx := true) (fun _ => mixed) [(4, {grd := [(4, false), (5, false), (6, false)], cs := [(5, cb [48] mo)]})] 100 [false] [decide ((↑i : Int) < (↑m : Int)) = !true, decide ((↑i : Int) < (↑m : Int)) = !true, decide ((↑i : Int) < (↑m : Int)) = false, false = false] (by kernel_rfl) (by kernel_rfl) (by kernel_rfl) ⟨(by simp; omega), (by simp; omega), (by simp; omega), rfl⟩ ?_
    refine Wp.ret' (by kernel_rfl) ?_
    exact FinQ.blk [112] (by kernel_rfl) (by kernel_rfl) (by kernel_rfl) (by kernel_rfl) (by kernel_rfl) trivial

theorem enc_apps {α : Type} {enc : α → List Cell} {d : α} {sz e k m : Nat} (h : ∀ x, (enc x).length = sz) (l r : List α) {cs : List Cell} (hc : cs = r.flatMap enc) (hk : k = l.length) (hm : m = r.length) :
    BlkEqv (.row e sz (k + m) (catF k (rowF enc d l) (fun i j => nthD cs ((0 + i) * sz + j)))) (.row e sz (k + m) (rowF enc d (l ++ r))) := by
  subst hc hk hm
  refine BlkEqv.row_ext rfl fun i hi j hj => ?_
  unfold catF rowF
  split
  · rename_i hh; simp only [List.getD, List.getElem?_append, hh, if_true]
  · rename_i hh
    simp only [List.getD, List.getElem?_append, hh, if_false]
    have := enc_nth (d := d) h r (i - l.length) j (by omega) hj
    rw [Nat.zero_add, this]
    rfl
def sidX : FT := ⟨[115, 105, 100], [126, 120, 126]⟩
def ageA (age w : Int) (i : Nat) : Int := if i % 3 = 0 then age else if i % 3 = 1 then w else 1099511627776
theorem ageA_den (age w : Int) (i : Nat) : EqvD (.c (nthD [.int .i64 age, .int .i64 w, .int .i64 1099511627776] (((i : Int).tmod 3).toNat * 1 + 0))) (.c (.int .i64 (ageA age w i))) := eqvD_of (by
  have h1 : ((i : Int).tmod 3).toNat = i % 3 := by rw [Int.tmod_eq_emod_of_nonneg (by omega)]; omega
  rw [h1]
  unfold ageA
  have h2 : i % 3 < 3 := Nat.mod_lt _ (by decide)
  generalize i % 3 = r at h2
  match r, h2 with
  | 0, _ => rfl
  | 1, _ => rfl
  | 2, _ => rfl)
def lotsS (S raw : List UInt8) (f : FT) : List (List UInt8) := [S, S ++ raw, raw, f.name ++ [61] ++ f.value ++ ageC ++ raw ++ behC, [115, 105, 100, 61, 120, 59, 32, 77, 97, 120, 45, 65, 103, 101, 61, 48, 48, 59, 32, 80, 97, 116, 104, 61, 47, 59, 32, 83, 101, 99, 117, 114, 101, 59, 32, 72, 116, 116, 112, 79, 110, 108, 121, 59, 32, 83, 97, 109, 101, 83, 105, 116, 101, 61, 76, 97, 120]]
theorem lotsS_len {S raw : List UInt8} {f : FT} (h1 : raw.length ≤ 1000) (h2 : S.length ≤ 1000) (h3 : f.name.length ≤ 1000) (h4 : f.value.length ≤ 1000) (k : Nat) : ((lotsS S raw f).getD k []).length < 1000000000 := by
  have hla : ageC.length = 10 := (by kernel_rfl)
  have hlb : behC.length = 40 := (by kernel_rfl)
  have : ∀ x ∈ lotsS S raw f, x.length < 1000000000 := by
    intro x hx
    simp only [lotsS, List.mem_cons, List.not_mem_nil, or_false] at hx
    rcases hx with rfl | rfl | rfl | rfl | rfl
    · omega
    · rw [List.length_append]; omega
    · omega
    · simp only [List.length_append, List.length_cons, List.length_nil]; omega
    · decide
  rw [List.getD_eq_getElem?_getD]
  cases h : (lotsS S raw f)[k]? with
  | none => show 0 < _; omega
  | some x => exact this x (List.mem_of_getElem? h)
theorem setT_ne (f : FT) (n : Nat) : setT f n ≠ [] := by
  unfold setT behC; simp
theorem rd_nil : ¬ RdC [] := fun ⟨f, m, _, _, h⟩ => setT_ne f m h.symm
theorem setC_bad {f : FT} {a : Int} (h : badC f a = true) : setC f a = [] := by unfold setC; rw [if_pos h]
theorem badC_no {f : FT} {a : Int} (h : badC f a = false) : mayC f = true ∧ 0 ≤ a ∧ a ≤ 1099511627776 := by
  unfold badC at h
  cases hm : mayC f with
  | false => rw [hm] at h; cases h
  | true =>
    rw [hm] at h
    simp at h
    exact ⟨rfl, h.1, h.2⟩
theorem setC_le (f : FT) (a : Int) (h1 : f.name.length ≤ 300) (h2 : f.value.length ≤ 300) : (setC f a).length ≤ 1000 := by
  cases hb : badC f a with
  | true => rw [setC_bad hb]; show 0 ≤ _; omega
  | false =>
    obtain ⟨q1, q2, q3⟩ := badC_no hb
    obtain ⟨n, rfl⟩ := Int.eq_ofNat_of_zero_le q2
    rw [set_set q1 (by omega)]
    have := dec_len_le 13 n (by omega)
    have hla : ageC.length = 10 := (by kernel_rfl)
    have hlb : behC.length = 40 := (by kernel_rfl)
    unfold setT pairC
    simp only [List.length_append, List.length_cons, List.length_nil]
    omega
theorem cookieSet_ok {m : Int} (ns : List Int) (raw : List UInt8) (f : FT) (age : Int) (hl : ns.length ≤ 9223372036854775807) : Pur Tryd.prog (Gm m) 5 [.c (.sl 1 ns.length (intsF ns)), .c (.str raw), .agg (encF f), .c (.int .i64 age)] [.c (.bool true)] := by
  refine Pur.of Tryd.func5 (by kernel_rfl) (by kernel_rfl) (by kernel_rfl) ?_
  have k0 := known14_ok (m := m)
  by_cases hr : 300 < raw.length ∨ 300 < f.name.length ∨ 300 < f.value.length
  · have ht : (bif bif decide ((raw.length : Int) > 300) then true else decide ((f.name.length : Int) > 300) then true else decide ((f.value.length : Int) > 300)) = true := by
      simp; omega
    refine Wp.go (mx := true) (fun _ => mixed) [(1, {cs := [(0, pc k0)]})] 100 [false, true] [(!true) = false, (bif bif decide ((↑raw.length : Int) > (300 : Int)) then true else decide ((↑f.name.length : Int) > (300 : Int)) then true else decide ((↑f.value.length : Int) > (300 : Int))) = true] (by kernel_rfl) (by kernel_rfl) (by kernel_rfl) ⟨rfl, (show (bif bif decide ((↑raw.length : Int) > (300 : Int)) then true else decide ((↑f.name.length : Int) > (300 : Int)) then true else decide ((↑f.value.length : Int) > (300 : Int))) = true from (by assumption))⟩ ?_
    refine Wp.ret' (by kernel_rfl) ?_
    exact FinQ.pure (rs' := [V1.c (Cell.bool true)]) (by kernel_rfl) rfl (by kernel_rfl)
  have ht : (bif bif decide ((raw.length : Int) > 300) then true else decide ((f.name.length : Int) > 300) then true else decide ((f.value.length : Int) > 300)) = false := by
    simp; omega
  obtain ⟨ok3, len3⟩ := cks_facts ns 3
  have c1 := cksR_ok (G := Gm m) ns 3 hl (by decide)
  have hel : ∀ x ∈ cksT ns 3 ++ [f, sidX], x.name.length ≤ 300 ∧ x.value.length ≤ 300 := by
    intro x hx
    rcases List.mem_append.1 hx with hx | hx
    · have := (ok3.1 x hx).2; exact ⟨by omega, by omega⟩
    · simp only [List.mem_cons, List.not_mem_nil, or_false] at hx
      rcases hx with rfl | rfl
      · exact ⟨by omega, by omega⟩
      · exact ⟨by decide, by decide⟩
  clear ok3
  generalize cksT ns 3 = L at c1 len3 hel
  have e1 : BlkEqv (.row 26 2 (L.length + 2) (catF L.length (rowF encF .nil L) (fun i j => nthD ([f, sidX].flatMap encF) ((0 + i) * 2 + j)))) (.row 26 2 (L.length + 2) (rowF encF .nil (L ++ [f, sidX]))) := enc_apps (sz := 2) (enc := encF) (m := 2) (fun _ => rfl) L [f, sidX] rfl rfl rfl
  refine Wp.go (mx := true) (fun _ => mixed) [(5, {cs := [(1, cb [] c1)], bs := [(5, Blk.row 26 2 (L.length + 2) (rowF encF .nil (L ++ [f, sidX])))]}), (1, {cs := [(0, pc k0)]})] 100 [false, false] [(!true) = false, (bif bif decide ((↑raw.length : Int) > (300 : Int)) then true else decide ((↑f.name.length : Int) > (300 : Int)) then true else decide ((↑f.value.length : Int) > (300 : Int))) = false, (L.length + (2 : Nat)) * (32 : Nat) ≤ (140737488355328 : Nat), BlkEqv (Blk.row 26 (2 : Nat) (L.length + (2 : Nat)) (catF L.length (fldF L) fun (i j : Nat) => nthD [Cell.str f.name, Cell.str f.value, Cell.str [(115 : UInt8), 105, 100], Cell.str [(126 : UInt8), 120, 126]] (((0 : Nat) + i) * (2 : Nat) + j))) (Blk.row 26 (2 : Nat) (L.length + (2 : Nat)) (rowF encF FT.nil (L ++ [f, sidX]))), L.length ≤ L.length, (0 : Nat) + (2 : Nat) ≤ (2 : Nat)] (by kernel_rfl) (by kernel_rfl) (by kernel_rfl) ⟨rfl, (by assumption), (by omega), (by assumption), (by omega), (show (0 : Nat) + (2 : Nat) ≤ (2 : Nat) from (by omega))⟩ ?_
  have hM : L.length + 2 = (L ++ [f, sidX]).length := by simp
  have hM5 : (L ++ [f, sidX]).length ≤ 5 := by simp; omega
  generalize L ++ [f, sidX] = M at hel hM hM5
  refine Wp.loopK (by kernel_rfl) (fun (k : Nat) => ⟨[(1, TV.v (V1.c (Cell.str raw))), (3, TV.v (V1.c (Cell.int .i64 age))), (9, TV.v (V1.c (Cell.row (2 : Nat) (384 : Nat) (0 : Nat) (L.length + (2 : Nat))))), (10, TV.v (V1.c (Cell.int .i64 (k : Int))))], [(384, Blk.row 26 (2 : Nat) (L.length + (2 : Nat)) (rowF encF FT.nil M))], 432⟩) (fun k => k ≤ L.length + 2) (fun k => L.length + 2 - k) 0 (Ent.of [] (by kernel_rfl) (by kernel_rfl) (by kernel_rfl) trivial) (Nat.zero_le _) ?_
  intro i L0 hi again0
  rcases Nat.lt_or_ge i (L.length + 2) with hlt | hge
  · have hmx := hel (M.getD i .nil) (by rw [List.getD_eq_getElem?_getD, List.getElem?_eq_getElem (by omega)]; exact List.getElem_mem _)
    have c6 := within14_ok (G := Gm m) age 2000 (by decide) (by decide)
    have e9 := ageA_den age (within14 age 2000) i
    have f0 : EqvD (.agg (encF (M.getD (0 + i) .nil))) (.agg (encF (M.getD i .nil))) := eqvD_of (by rw [Nat.zero_add])
    have f1 : EqvD (.c (.str (M.getD (0 + i) .nil).name)) (.c (.str (M.getD i .nil).name)) := eqvD_of (by rw [Nat.zero_add])
    have f2 : EqvD (.c (.str (M.getD (0 + i) .nil).value)) (.c (.str (M.getD i .nil).value)) := eqvD_of (by rw [Nat.zero_add])
    generalize within14 age 2000 = w at c6 e9
    generalize ageA age w i = a at e9
    generalize M.getD i .nil = x at hmx f0 f1 f2
    have c7 := set14_ok (G := Gm m) x a (by omega) (by omega)
    have c8 := setm_ok (m := m) x a (by omega) (by omega)
    have hS := setC_le x a hmx.1 hmx.2
    have hbad := fun h => setC_bad (f := x) (a := a) h
    have hgood := fun h1 (h2 : 0 ≤ a) (h3 : a ≤ 1099511627776) => (by
      obtain ⟨n, rfl⟩ := Int.eq_ofNat_of_zero_le h2
      exact ⟨n, by omega, set_set (f := x) h1 (by omega)⟩ : ∃ n : Nat, n ≤ 1099511627776 ∧ setC x a = setT x n)
    generalize setC x a = S at c7 c8 hS hbad hgood
    have e21 : EqvD (.c (.sl 1 5 (fun i j => nthD ((lotsS S raw x).map Cell.str) (i * 1 + j)))) (.c (.sl 1 (lotsS S raw x).length (strsF (lotsS S raw x)))) := strs_lit _ rfl rfl
    have hm3 : 0 ≤ (i : Int).tmod 3 ∧ (i : Int).tmod 3 < ((3 : Nat) : Int) := by rw [Int.tmod_eq_emod_of_nonneg (by omega)]; omega
    have hm4 : 0 + ((i : Int).tmod 3).toNat < 3 := by omega
    refine Wp.go (mx := true) (fun _ => mixed) [(9, {cs := [(2, pc c6)], fm := [(7, .c (.int .i64 a))]}), (10, {cs := [(5, pc c7)], fm := [(3, .agg (encF x))]}), (11, {fm := [(9, .c (.str x.name)), (15, .c (.str x.value)), (21, .c (.sl 1 (lotsS S raw x).length (strsF (lotsS S raw x))))]})] 100 [true] [decide ((↑i : Int) < (↑(L.length + (2 : Nat)) : Int)) = true, (3 : Int) ≠ (0 : Int), (0 : Int) ≤ (↑i : Int).tmod (3 : Int) ∧ (↑i : Int).tmod (3 : Int) < (↑(3 : Nat) : Int), (0 : Nat) + ((↑i : Int).tmod (3 : Int)).toNat < (3 : Nat), EqvD (V1.c (nthD [Cell.int .i64 age, Cell.int .i64 w, Cell.int .i64 (1099511627776 : Int)] (((0 : Nat) + ((↑i : Int).tmod (3 : Int)).toNat) * (1 : Nat) + (0 : Nat)))) (V1.c (Cell.int .i64 a)), (0 : Int) ≤ (↑i : Int) ∧ (↑i : Int) < (↑(L.length + (2 : Nat)) : Int), (0 : Nat) + i < L.length + (2 : Nat), EqvD (V1.agg [Cell.str (M.getD ((0 : Nat) + i) FT.nil).name, Cell.str (M.getD ((0 : Nat) + i) FT.nil).value]) (V1.agg (encF x)), S.length + raw.length ≤ (9223372036854775807 : Nat), (0 : Int) ≤ (↑i : Int) ∧ (↑i : Int) < (↑(L.length + (2 : Nat)) : Int), (0 : Nat) + i < L.length + (2 : Nat), EqvD (V1.c (Cell.str (M.getD ((0 : Nat) + i) FT.nil).name)) (V1.c (Cell.str x.name)), x.name.length + (1 : Nat) ≤ (9223372036854775807 : Nat), (0 : Int) ≤ (↑i : Int) ∧ (↑i : Int) < (↑(L.length + (2 : Nat)) : Int), (0 : Nat) + i < L.length + (2 : Nat), EqvD (V1.c (Cell.str (M.getD ((0 : Nat) + i) FT.nil).value)) (V1.c (Cell.str x.value)), (x.name ++ [(61 : UInt8)]).length + x.value.length ≤ (9223372036854775807 : Nat), (x.name ++ [(61 : UInt8)] ++ x.value).length + (10 : Nat) ≤ (9223372036854775807 : Nat), (x.name ++ [(61 : UInt8)] ++ x.value ++ [(59 : UInt8), 32, 77, 97, 120, 45, 65, 103, 101, 61]).length + raw.length ≤ (9223372036854775807 : Nat), (x.name ++ [(61 : UInt8)] ++ x.value ++ [(59 : UInt8), 32, 77, 97, 120, 45, 65, 103, 101, 61] ++ raw).length + (40 : Nat) ≤ (9223372036854775807 : Nat), EqvI (V1.c (Cell.sl (1 : Nat) (5 : Nat) fun (i j : Nat) => nthD [Cell.str S, Cell.str (S ++ raw), Cell.str raw, Cell.str (x.name ++ [(61 : UInt8)] ++ x.value ++ [(59 : UInt8), 32, 77, 97, 120, 45, 65, 103, 101, 61] ++ raw ++ [(59 : UInt8), 32, 80, 97, 116, 104, 61, 47, 59, 32, 83, 101, 99, 117, 114, 101, 59, 32, 72, 116, 116, 112, 79, 110, 108, 121, 59, 32, 83, 97, 109, 101, 83, 105, 116, 101, 61, 76, 97, 120]), Cell.str [(115 : UInt8), 105, 100, 61, 120, 59, 32, 77, 97, 120, 45, 65, 103, 101, 61, 48, 48, 59, 32, 80, 97, 116, 104, 61, 47, 59, 32, 83, 101, 99, 117, 114, 101, 59, 32, 72, 116, 116, 112, 79, 110, 108, 121, 59, 32, 83, 97, 109, 101, 83, 105, 116, 101, 61, 76, 97, 120]] (i * (1 : Nat) + j))) (V1.c (Cell.sl (1 : Nat) (lotsS S raw x).length (strsF (lotsS S raw x)))), EqvD (V1.c (Cell.sl (1 : Nat) (5 : Nat) fun (i j : Nat) => nthD [Cell.str S, Cell.str (S ++ raw), Cell.str raw, Cell.str (x.name ++ [(61 : UInt8)] ++ x.value ++ [(59 : UInt8), 32, 77, 97, 120, 45, 65, 103, 101, 61] ++ raw ++ [(59 : UInt8), 32, 80, 97, 116, 104, 61, 47, 59, 32, 83, 101, 99, 117, 114, 101, 59, 32, 72, 116, 116, 112, 79, 110, 108, 121, 59, 32, 83, 97, 109, 101, 83, 105, 116, 101, 61, 76, 97, 120]), Cell.str [(115 : UInt8), 105, 100, 61, 120, 59, 32, 77, 97, 120, 45, 65, 103, 101, 61, 48, 48, 59, 32, 80, 97, 116, 104, 61, 47, 59, 32, 83, 101, 99, 117, 114, 101, 59, 32, 72, 116, 116, 112, 79, 110, 108, 121, 59, 32, 83, 97, 109, 101, 83, 105, 116, 101, 61, 76, 97, 120]] (i * (1 : Nat) + j))) (V1.c (Cell.sl (1 : Nat) (lotsS S raw x).length (strsF (lotsS S raw x))))] (by kernel_rfl) (by kernel_rfl) (by kernel_rfl) ⟨(by simp; omega), (by omega), (by omega), (by assumption), (by simpa only [Nat.zero_add] using e9), (by omega), (by omega), (by assumption), (by omega), (by omega), (by omega), (by assumption), (by omega), (by omega), (by omega), (by assumption), (by simp; omega), (by simp; omega), (by simp; omega), (by simp; omega), fun _ _ => trivial, (show EqvD (V1.c (Cell.sl (1 : Nat) (5 : Nat) fun (i j : Nat) => nthD [Cell.str S, Cell.str (S ++ raw), Cell.str raw, Cell.str (x.name ++ [(61 : UInt8)] ++ x.value ++ [(59 : UInt8), 32, 77, 97, 120, 45, 65, 103, 101, 61] ++ raw ++ [(59 : UInt8), 32, 80, 97, 116, 104, 61, 47, 59, 32, 83, 101, 99, 117, 114, 101, 59, 32, 72, 116, 116, 112, 79, 110, 108, 121, 59, 32, 83, 97, 109, 101, 83, 105, 116, 101, 61, 76, 97, 120]), Cell.str [(115 : UInt8), 105, 100, 61, 120, 59, 32, 77, 97, 120, 45, 65, 103, 101, 61, 48, 48, 59, 32, 80, 97, 116, 104, 61, 47, 59, 32, 83, 101, 99, 117, 114, 101, 59, 32, 72, 116, 116, 112, 79, 110, 108, 121, 59, 32, 83, 97, 109, 101, 83, 105, 116, 101, 61, 76, 97, 120]] (i * (1 : Nat) + j))) (V1.c (Cell.sl (1 : Nat) (lotsS S raw x).length (strsF (lotsS S raw x)))) from (by assumption))⟩ ?_
    refine Wp.loopK (by kernel_rfl) (fun (k : Nat) => ⟨[(1, TV.v (V1.c (Cell.str raw))), (3, TV.v (V1.c (Cell.int .i64 age))), (9, TV.v (V1.c (Cell.row (2 : Nat) (384 : Nat) (0 : Nat) (L.length + (2 : Nat))))), (10, TV.v (V1.c (Cell.int .i64 (↑i : Int)))), (11, TV.v (V1.c (Cell.int .i64 a))), (12, TV.v (V1.c (Cell.str S))), (13, TV.v (V1.c (Cell.sl (1 : Nat) (lotsS S raw x).length (strsF (lotsS S raw x))))), (14, TV.v (V1.c (Cell.int .i64 (k : Int))))], [(384, Blk.row 26 (2 : Nat) (L.length + (2 : Nat)) (rowF encF FT.nil M))], 1136⟩) (fun k => k ≤ 5) (fun k => 5 - k) 0 (Ent.of [] (by kernel_rfl) (by kernel_rfl) (by kernel_rfl) trivial) (Nat.zero_le _) ?_
    intro k L3 hk again
    have hll : (lotsS S raw x).length = 5 := rfl
    rcases Nat.lt_or_ge k 5 with hk5 | hk5
    · have hx := lotsS_len (S := S) (raw := raw) (f := x) (by omega) (by omega) (by omega) (by omega) k
      by_cases hrd : RdC ((lotsS S raw x).getD k [])
      · obtain ⟨f', n', q1, q2, q3⟩ := hrd
        have d1 := read_yes (m := m) f' n' q1 q2
        have d2 := read14_yes (G := Gm m) f' n' q1 q2
        rw [← q3] at d1 d2
        have ht5 : (bif !((f'.name == f'.name) && ((f'.value == f'.value) && true)) then true else !(true == true)) = false := by simp
        clear q3 hbad hgood
        refine Wp.go (mx := true) (fun _ => mixed) [(15, {cs := [(4, pc d1)]}), (16, {cs := [(4, pc d2)]})] 100 [true, false] [decide ((↑k : Int) < (↑(lotsS S raw x).length : Int)) = true, (0 : Int) ≤ (↑k : Int) ∧ (↑k : Int) < (↑(lotsS S raw x).length : Int), (0 : Int) ≤ (↑k : Int) ∧ (↑k : Int) < (↑(lotsS S raw x).length : Int), (bif !(f'.name == f'.name && (f'.value == f'.value && true)) then true else !true == true) = false, inR IntKind.i64 ((↑k : Int) + (1 : Int))] (by kernel_rfl) (by kernel_rfl) (by kernel_rfl) ⟨(by simp; omega), (by omega), (by omega), (by assumption), inR64 (by omega) (by omega)⟩ ?_
        exact Wp.lpK (by kernel_rfl) (again _ (k + 1) (by assumption) (by omega) (Ent.of [] (by kernel_rfl) (by kernel_rfl) (by kernel_rfl) trivial))
      · have d1 := read_no (m := m) _ hx hrd
        have d2 := read14_no (G := Gm m) _ hx hrd
        clear hbad hgood
        refine Wp.go (mx := true) (fun _ => mixed) [(15, {cs := [(4, pc d1)]}), (16, {cs := [(4, pc d2)]})] 100 [true, false] [decide ((↑k : Int) < (↑(lotsS S raw x).length : Int)) = true, (0 : Int) ≤ (↑k : Int) ∧ (↑k : Int) < (↑(lotsS S raw x).length : Int), (0 : Int) ≤ (↑k : Int) ∧ (↑k : Int) < (↑(lotsS S raw x).length : Int), (bif !(FT.nil.name == FT.nil.name && (FT.nil.value == FT.nil.value && true)) then true else !false == false) = false, inR IntKind.i64 ((↑k : Int) + (1 : Int))] (by kernel_rfl) (by kernel_rfl) (by kernel_rfl) ⟨(by simp; omega), (by omega), (by omega), rfl, inR64 (by omega) (by omega)⟩ ?_
        exact Wp.lpK (by kernel_rfl) (again _ (k + 1) (by assumption) (by omega) (Ent.of [] (by kernel_rfl) (by kernel_rfl) (by kernel_rfl) trivial))
    · clear again
      have again := again0
      have c9 := mayC14_ok (G := Gm m) x (by omega) (by omega)
      cases hb : badC x a with
      | true =>
        have hS0 := hbad hb
        subst hS0
        have d1 := read_no (m := m) [] (by decide) rd_nil
        have hz : (bif bif mayC x then decide (a ≥ 0) else false then decide (a ≤ 1099511627776) else false) = false := by
          unfold badC at hb
          cases hm : mayC x with
          | false => rfl
          | true =>
            rw [hm] at hb
            simp at hb ⊢
            omega
        clear hbad hgood hb
        refine Wp.go (mx := true) (fun _ => mixed) [(19, {cs := [(5, pc c8), (6, pc d1)], fm := [(3, .agg (encF x))]}), (20, {cs := [(5, pc c8), (14, pc c9)], fm := [(3, .agg (encF x)), (13, .agg (encF x)), (32, .agg (encF x))]})] 100 [false, false] [decide ((↑k : Int) < (↑(lotsS [] raw x).length : Int)) = false, (0 : Int) ≤ (↑i : Int) ∧ (↑i : Int) < (↑(L.length + (2 : Nat)) : Int), (0 : Nat) + i < L.length + (2 : Nat), EqvD (V1.agg [Cell.str (M.getD ((0 : Nat) + i) FT.nil).name, Cell.str (M.getD ((0 : Nat) + i) FT.nil).value]) (V1.agg (encF x)), (0 : Int) ≤ (↑i : Int) ∧ (↑i : Int) < (↑(L.length + (2 : Nat)) : Int), (0 : Nat) + i < L.length + (2 : Nat), EqvD (V1.agg [Cell.str (M.getD ((0 : Nat) + i) FT.nil).name, Cell.str (M.getD ((0 : Nat) + i) FT.nil).value]) (V1.agg (encF x)), (!([] : List UInt8) == []) = false → (0 : Int) ≤ (↑i : Int) ∧ (↑i : Int) < (↑(L.length + (2 : Nat)) : Int), (!([] : List UInt8) == []) = false → (0 : Nat) + i < L.length + (2 : Nat), (!([] : List UInt8) == []) = false → EqvD (V1.agg [Cell.str (M.getD ((0 : Nat) + i) FT.nil).name, Cell.str (M.getD ((0 : Nat) + i) FT.nil).value]) (V1.agg (encF x)), false = true ∧ (bif !([] : List UInt8) == [] then true else !false == bif bif mayC x then decide (a ≥ (0 : Int)) else false then decide (a ≤ (1099511627776 : Int)) else false) = false → (0 : Int) ≤ (↑i : Int) ∧ (↑i : Int) < (↑(L.length + (2 : Nat)) : Int), false = true ∧ (bif !([] : List UInt8) == [] then true else !false == bif bif mayC x then decide (a ≥ (0 : Int)) else false then decide (a ≤ (1099511627776 : Int)) else false) = false → (0 : Nat) + i < L.length + (2 : Nat), false = true ∧ (bif !([] : List UInt8) == [] then true else !false == bif bif mayC x then decide (a ≥ (0 : Int)) else false then decide (a ≤ (1099511627776 : Int)) else false) = false → EqvD (V1.agg [Cell.str (M.getD ((0 : Nat) + i) FT.nil).name, Cell.str (M.getD ((0 : Nat) + i) FT.nil).value]) (V1.agg (encF x)), (bif bif !([] : List UInt8) == [] then true else !false == bif bif mayC x then decide (a ≥ (0 : Int)) else false then decide (a ≤ (1099511627776 : Int)) else false then true else bif false then !(FT.nil.name == x.name && (FT.nil.value == x.value && true)) else false) = false, inR IntKind.i64 ((↑i : Int) + (1 : Int))] (by kernel_rfl) (by kernel_rfl) (by kernel_rfl) ⟨(by simp; omega), (by omega), (by omega), (by assumption), (by omega), (by omega), (by assumption), (by omega), (by omega), (by intro _; assumption), (by omega), (by omega), (by intro _; assumption), (by simp_all <;> omega), inR64 (by omega) (by omega)⟩ ?_
        exact Wp.lpK (by kernel_rfl) (again _ (i + 1) (by assumption) (by omega) (Ent.of [] (by kernel_rfl) (by kernel_rfl) (by kernel_rfl) trivial))
      | false =>
        obtain ⟨b1, b2, b3⟩ := badC_no hb
        obtain ⟨n', g1, rfl⟩ := hgood b1 b2 b3
        have d1 := read_yes (m := m) x n' b1 g1
        rw [b1] at c9
        have h01 : decide (a ≥ 0) = true := by simp; omega
        have h02 : decide (a ≤ 1099511627776) = true := by simp; omega
        clear hbad hgood hb
        refine Wp.go (mx := true) (fun _ => mixed) [(19, {cs := [(5, pc c8), (6, pc d1)], fm := [(3, .agg (encF x))]}), (20, {cs := [(5, pc c8), (14, pc c9)], fm := [(3, .agg (encF x)), (13, .agg (encF x)), (32, .agg (encF x))]})] 100 [false, false] [decide ((↑k : Int) < (↑(lotsS (setT x n') raw x).length : Int)) = false, (0 : Int) ≤ (↑i : Int) ∧ (↑i : Int) < (↑(L.length + (2 : Nat)) : Int), (0 : Nat) + i < L.length + (2 : Nat), EqvD (V1.agg [Cell.str (M.getD ((0 : Nat) + i) FT.nil).name, Cell.str (M.getD ((0 : Nat) + i) FT.nil).value]) (V1.agg (encF x)), (0 : Int) ≤ (↑i : Int) ∧ (↑i : Int) < (↑(L.length + (2 : Nat)) : Int), (0 : Nat) + i < L.length + (2 : Nat), EqvD (V1.agg [Cell.str (M.getD ((0 : Nat) + i) FT.nil).name, Cell.str (M.getD ((0 : Nat) + i) FT.nil).value]) (V1.agg (encF x)), (!setT x n' == setT x n') = false → (0 : Int) ≤ (↑i : Int) ∧ (↑i : Int) < (↑(L.length + (2 : Nat)) : Int), (!setT x n' == setT x n') = false → (0 : Nat) + i < L.length + (2 : Nat), (!setT x n' == setT x n') = false → EqvD (V1.agg [Cell.str (M.getD ((0 : Nat) + i) FT.nil).name, Cell.str (M.getD ((0 : Nat) + i) FT.nil).value]) (V1.agg (encF x)), true = true ∧ (bif !setT x n' == setT x n' then true else !true == bif bif true then decide (a ≥ (0 : Int)) else false then decide (a ≤ (1099511627776 : Int)) else false) = false → (0 : Int) ≤ (↑i : Int) ∧ (↑i : Int) < (↑(L.length + (2 : Nat)) : Int), true = true ∧ (bif !setT x n' == setT x n' then true else !true == bif bif true then decide (a ≥ (0 : Int)) else false then decide (a ≤ (1099511627776 : Int)) else false) = false → (0 : Nat) + i < L.length + (2 : Nat), true = true ∧ (bif !setT x n' == setT x n' then true else !true == bif bif true then decide (a ≥ (0 : Int)) else false then decide (a ≤ (1099511627776 : Int)) else false) = false → EqvD (V1.agg [Cell.str (M.getD ((0 : Nat) + i) FT.nil).name, Cell.str (M.getD ((0 : Nat) + i) FT.nil).value]) (V1.agg (encF x)), (bif bif !setT x n' == setT x n' then true else !true == bif bif true then decide (a ≥ (0 : Int)) else false then decide (a ≤ (1099511627776 : Int)) else false then true else bif true then !(x.name == x.name && (x.value == x.value && true)) else false) = false, inR IntKind.i64 ((↑i : Int) + (1 : Int))] (by kernel_rfl) (by kernel_rfl) (by kernel_rfl) ⟨(by simp; omega), (by omega), (by omega), (by assumption), (by omega), (by omega), (by assumption), (by omega), (by omega), (by intro _; assumption), (by omega), (by omega), (by intro _; assumption), (by simp; omega), inR64 (by omega) (by omega)⟩ ?_
        exact Wp.lpK (by kernel_rfl) (again _ (i + 1) (by assumption) (by omega) (Ent.of [] (by kernel_rfl) (by kernel_rfl) (by kernel_rfl) trivial))
  · refine Wp.go (mx := true) (fun _ => mixed) [] 100 [false] [decide ((↑i : Int) < (↑(L.length + (2 : Nat)) : Int)) = false] (by kernel_rfl) (by kernel_rfl) (by kernel_rfl) (show decide ((↑i : Int) < (↑(L.length + (2 : Nat)) : Int)) = false from (by simp; omega)) ?_
    refine Wp.ret' (by kernel_rfl) ?_
    exact FinQ.pure (rs' := [V1.c (Cell.bool true)]) (by kernel_rfl) rfl (by kernel_rfl)
end Go.Proofs.Tw
end

section
/-
  Own layer 'SV' (30): what has been read reads so in a later world.
-/
namespace Go.Sv

theorem mapM_keep {α β : Type} {f g : α → Option β} : ∀ {l : List α} {ys : List β}, l.mapM f = some ys → (∀ x ∈ l, ∀ y, f x = some y → y ∈ ys → g x = some y) → l.mapM g = some ys
  | [], ys, h, _ => by simpa using h
  | x :: l, ys, h, hg => by
    rw [List.mapM_cons] at h ⊢
    cases hx : f x with
    | none => rw [hx] at h; cases h
    | some y =>
      rw [hx] at h
      cases hl : l.mapM f with
      | none => rw [hl] at h; cases h
      | some zs =>
        rw [hl] at h
        obtain rfl : y :: zs = ys := by simpa using h
        rw [hg x (by simp) y hx (by simp), mapM_keep hl (fun u hu v hv hm => hg u (by simp [hu]) v hv (by simp [hm]))]
        rfl
theorem cell_keep {W W' : World} (hk : ∀ b, b < W.heap.size → W'.heap[b]? = W.heap[b]?) {a : Addr} {v : Value} (h : W.cell? a = some v) : W'.cell? a = some v := by
  have hb : a.block < W.heap.size := by
    rcases Nat.lt_or_ge a.block W.heap.size with hlt | hge
    · exact hlt
    · simp [World.cell?, Array.getElem?_eq_none hge] at h
  simp only [World.cell?, hk _ hb] at h ⊢
  exact h
theorem cells_keep {W W' : World} (hk : ∀ b, b < W.heap.size → W'.heap[b]? = W.heap[b]?) {base : Nat} {a : Addr} {n : Nat} {l : List Value} (h : W.cells? base a n = some l) : W'.cells? base a n = some l := by
  unfold World.cells? at h ⊢
  split at h
  · rename_i hb
    rw [if_pos hb]
    exact mapM_keep h (fun x _ y hy _ => cell_keep hk hy)
  · cases h

/-- Types that lead to no others, and to no slices of nothing. -/
def stepT (P : Program) (S : TypeId → Bool) (t : TypeId) : Bool := match P.underlying t with
  | some (.slice e) => !(Nat.beq (P.cellsOf e) 0) && S e
  | some (.pointer e) => S e
  | some (.struct fs) => fs.toList.all fun f => S f.type
  | some (.array _ e) => S e
  | some (.map _ e) => S e
  | _ => true
def inL (l : List TypeId) (t : TypeId) : Bool := l.any fun u => Nat.beq u t
def closedT (P : Program) (l : List TypeId) : Bool := l.all (stepT P (inL l))
theorem closed_step {P : Program} {l : List TypeId} (h : closedT P l = true) {t : TypeId} (ht : inL l t = true) : stepT P (inL l) t = true := by
  obtain ⟨u, hu, e⟩ := List.any_eq_true.1 ht
  obtain rfl : u = t := Nat.eq_of_beq_eq_true e
  exact List.all_eq_true.1 h u hu
theorem trod_keep {H : Type} {enc : TypeId × Value → H} {P : Program} {W W' : World} {base : Nat} {sp sp' : Nat → Bool} {l : List TypeId} (hk : ∀ b, b < W.heap.size → W'.heap[b]? = W.heap[b]?)
    (hz : closedT P l = true) (hsp : ∀ b, sp b = true) : ∀ (fuel : Nat) (t : TypeId) (cs : List Value) (d : DataW H) (p : List MemPlace), inL l t = true → DataW.trod enc P W base sp true fuel t cs = some (d, p) →
      (∀ q ∈ p, sp' q.block = true) → DataW.trod enc P W' base sp' true fuel t cs = some (d, p) := by
  intro fuel
  induction fuel with
  | zero => intro t cs d p _ h; simp [DataW.trod] at h
  | succ fuel ih =>
    intro t cs d p hin h hs
    have hst := closed_step hz hin
    unfold stepT at hst
    unfold DataW.trod at h ⊢
    generalize hu : P.underlying t = u at h hst ⊢
    split at h
    case h_6 e a =>
      simp only at hst
      rw [Option.map_eq_some_iff] at h
      obtain ⟨x, hx, he⟩ := h
      rw [Option.bind_eq_some_iff] at hx
      obtain ⟨vl, hl, hx⟩ := hx
      simp only [Prod.mk.injEq] at he
      obtain ⟨rfl, rfl⟩ := he
      simp only [cells_keep hk hl, Option.bind_some]
      rw [ih e vl x.1 x.2 hst hx (fun q hq => hs q (by simp [hq]))]
      rfl
    case h_8 e a len cap =>
      simp only [Bool.and_eq_true, Bool.not_eq_true'] at hst
      have hz : P.cellsOf e ≠ 0 := fun h0 => by rw [h0] at hst; exact absurd hst.1 (by decide)
      simp only at h ⊢
      split at h
      · rename_i hc
        rw [if_pos hc]
        rw [Option.bind_eq_some_iff] at h
        obtain ⟨elems, hel, h⟩ := h
        rw [Option.map_eq_some_iff] at h
        obtain ⟨rest, hre, he⟩ := h
        simp only [Prod.mk.injEq] at he
        obtain ⟨rfl, rfl⟩ := he
        have elemAt : ∀ (i : Nat) (y : DataW H × List MemPlace), (W.cells? base (a.add (i * P.cellsOf e)) (P.cellsOf e)).bind (DataW.trod enc P W base sp true fuel e) = some y → y ∈ elems ++ rest →
            (W'.cells? base (a.add (i * P.cellsOf e)) (P.cellsOf e)).bind (DataW.trod enc P W' base sp' true fuel e) = some y := by
          intro i y hy hm
          rw [Option.bind_eq_some_iff] at hy ⊢
          obtain ⟨vl, hl, hy⟩ := hy
          exact ⟨vl, cells_keep hk hl, ih e vl y.1 y.2 hst.2 hy (fun q hq => hs q (List.mem_append_right _ (List.mem_flatMap.2 ⟨y, hm, hq⟩)))⟩
        rw [mapM_keep hel (fun x _ y hy hm => elemAt x y hy (List.mem_append_left _ hm))]
        simp only [Option.bind_some]
        have hrest : (if sp' a.block = true then (List.range (cap - len)).mapM fun j => (W'.cells? base (a.add ((len + j) * P.cellsOf e)) (P.cellsOf e)).bind (DataW.trod enc P W' base sp' true fuel e) else some []) = some rest := by
          by_cases h0 : elems.length + rest.length = 0
          · have hr : rest = [] := List.eq_nil_of_length_eq_zero (by omega)
            have hle : elems = [] := List.eq_nil_of_length_eq_zero (by omega)
            have none0 : ∀ {f : Nat → Option (DataW H × List MemPlace)} {n : Nat} {ys : List (DataW H × List MemPlace)}, (List.range n).mapM f = some ys → ys = [] → n = 0 := by
              intro f n ys h hy
              subst hy
              cases n with
              | zero => rfl
              | succ n =>
                rw [List.range_succ_eq_map, List.mapM_cons] at h
                exfalso
                revert h
                cases f 0 with
                | none => intro h; cases h
                | some y =>
                  intro h
                  simp only [Option.bind_eq_bind, Option.bind_some] at h
                  rw [Option.bind_eq_some_iff] at h
                  obtain ⟨_, _, h⟩ := h
                  simp at h
            have hlen := none0 hel hle
            rw [if_pos (hsp _)] at hre
            have hc0 := none0 hre hr
            rw [hc0, hr]
            simp
          · have hb : sp' a.block = true := by
              have hm : (MemPlace.cell a.block (a.off + 0)) ∈ MemPlace.row a ((elems.length + rest.length) * P.cellsOf e) := by
                unfold MemPlace.row
                refine List.mem_map.2 ⟨0, List.mem_range.2 ?_, rfl⟩
                exact Nat.mul_pos (by omega) (by omega)
              exact hs _ (List.mem_append_left _ hm)
            rw [if_pos hb]
            rw [if_pos (hsp _)] at hre
            exact mapM_keep hre (fun x _ y hy hm => elemAt (len + x) y hy (List.mem_append_right _ hm))
        rw [hrest]
        rfl
      · cases h
    case h_9 fs =>
      split at h
      · rename_i hc
        rw [if_pos hc]
        rw [Option.map_eq_some_iff] at h
        obtain ⟨xs, hx, he⟩ := h
        simp only [Prod.mk.injEq] at he
        obtain ⟨rfl, rfl⟩ := he
        rw [mapM_keep hx (fun f hf y hy hm => ih _ _ y.1 y.2 (List.all_eq_true.1 hst f hf) hy (fun q hq => hs q (List.mem_flatMap.2 ⟨y, hm, hq⟩)))]
        rfl
      · cases h
    case h_10 n e =>
      split at h
      · rename_i hc
        rw [if_pos hc]
        rw [Option.map_eq_some_iff] at h
        obtain ⟨xs, hx, he⟩ := h
        simp only [Prod.mk.injEq] at he
        obtain ⟨rfl, rfl⟩ := he
        rw [mapM_keep hx (fun f _ y hy hm => ih _ _ y.1 y.2 hst hy (fun q hq => hs q (List.mem_flatMap.2 ⟨y, hm, hq⟩)))]
        rfl
      · cases h
    case h_12 ms u v => exact h
    case h_14 k e b =>
      cases hb : W.heap[b]? with
      | none => rw [hb] at h; cases h
      | some o =>
        have hlt : b < W.heap.size := by
          rcases Nat.lt_or_ge b W.heap.size with hlt | hge
          · exact hlt
          · rw [Array.getElem?_eq_none hge] at hb; cases hb
        rw [hb] at h
        rw [hk b hlt, hb]
        cases o with
        | map es clock =>
          simp only at h ⊢
          split at h
          · rename_i hc
            rw [if_pos hc]
            rw [Option.bind_eq_some_iff] at h
            obtain ⟨entries, he, h⟩ := h
            have he' : entries.flatMap (fun x => x.2) ⊆ p := by
              split at h
              · simp only [Option.some.injEq, Prod.mk.injEq] at h
                rw [← h.2]
                exact fun x hx => List.mem_cons_of_mem _ hx
              · cases h
            rw [mapM_keep (g := fun x => (keyOf P k x.key).bind fun key => if x.val.formed P e then (DataW.trod enc P W' base sp' true fuel e x.val.cells.toList).map fun y => ((key, y.1), y.2) else none) he (fun x _ y hy hm => by
              rw [Option.bind_eq_some_iff] at hy ⊢
              obtain ⟨key, hkey, hy⟩ := hy
              refine ⟨key, hkey, ?_⟩
              split at hy
              · rename_i hf
                rw [if_pos hf]
                rw [Option.map_eq_some_iff] at hy ⊢
                obtain ⟨z, hz', rfl⟩ := hy
                exact ⟨z, ih e _ z.1 z.2 hst hz' (fun q hq => hs q (he' (List.mem_flatMap.2 ⟨_, hm, hq⟩))), rfl⟩
              · cases hy)]
            exact h
          · cases h
        | _ => cases h
    all_goals exact h
/-- All arguments read as before. -/
theorem trodAll_keep {H : Type} {enc : TypeId × Value → H} {P : Program} {W W' : World} {base : Nat} {sp sp' : Nat → Bool} {l : List TypeId} (hk : ∀ b, b < W.heap.size → W'.heap[b]? = W.heap[b]?)
    (hz : closedT P l = true) (hsp : ∀ b, sp b = true) : ∀ (ts : List TypeId) (vs : List Value) (ds : List (DataW H)) (p : List MemPlace), (∀ t ∈ ts, inL l t = true) → DataW.TrodAll enc P W base sp true ts vs ds p →
      (∀ q ∈ p, sp' q.block = true) → DataW.TrodAll enc P W' base sp' true ts vs ds p
  | [], [], [], p, _, h, _ => h
  | t :: ts, v :: vs, d :: ds, p, hl, ⟨p1, q1, ⟨fuel, h1⟩, h2, e⟩, hs =>
    ⟨p1, q1, ⟨fuel, trod_keep hk hz hsp fuel t _ d p1 (hl t (by simp)) h1 (fun q hq => hs q (by rw [e]; simp [hq]))⟩, trodAll_keep hk hz hsp ts vs ds q1 (fun t ht => hl t (by simp [ht])) h2 (fun q hq => hs q (by rw [e]; simp [hq])), e⟩
/-- A row of numbers among the arguments. -/
theorem ints_den {H : Type} {enc : TypeId × Value → H} {P : Program} {W : World} {base0 base : Nat} {sp : Nat → Bool} {held : Bool} {t e : TypeId} {k : IntKind} (ht : P.underlying t = some (.slice e)) (he : P.underlying e = some (.int k)) (hc : P.cellsOf e = 1)
    {v : Value} {d : DataW H} {p : List MemPlace} (hok : Value.okWide P W .any base0 t v) (h : DataW.Trod enc P W base sp held t v d p) :
    ∃ ns : List Int, ns.length ≤ maxLen ∧ DenV (Dw W) rho0 (.c (.sl 1 ns.length (fun i _ => .int k (ns.getD i 0)))) v := by
  obtain ⟨fuel, hf⟩ := h
  obtain ⟨a0, len0, cap0, rfl⟩ := Go.WideShapes.okWide_slice ht hok
  rcases Go.ChangeShapes.open_ints ht he hc hf with ⟨hcs, _⟩ | ⟨a, len, cap, zs, hcs, _, hl, hm, hzl, _, hcell, _⟩
  · have : Value.slice a0 len0 cap0 = .slice none 0 0 := by simpa [Value.cells] using hcs
    rw [this]
    exact ⟨[], Nat.zero_le _, none, 0, rfl, Nat.le_refl _, Nat.zero_le _, .inl ⟨rfl, rfl⟩⟩
  · have hv : Value.slice a0 len0 cap0 = .slice (some a) len cap := by simpa [Value.cells] using hcs
    rw [hv] at hok ⊢
    have hsp : a.spot = none := by
      simp only [Value.okWide, ht, Cell.okWide, Cell.ok] at hok
      exact hok.2.2.2.1
    obtain ⟨b, o, spot⟩ := a
    simp only at hsp
    subst hsp
    have hle : len ≤ zs.length := by rw [hzl]; split <;> omega
    have hn : (zs.take len).length = len := by rw [List.length_take]; omega
    refine ⟨zs.take len, by rw [hn]; omega, some ⟨b, o, none⟩, cap, by rw [hn], by rw [hn]; exact hl, hm, .inr ⟨b, o, rfl, fun i hi j hj => ?_⟩⟩
    obtain rfl : j = 0 := by omega
    rw [hn] at hi
    have := hcell i (by omega)
    rw [Go.WideShapes.add_plain] at this
    refine ⟨.int k (zs.getD i 0), by unfold Dw; rw [← this]; congr 2; omega, ?_⟩
    simp only [Den]
    congr 1
    simp [List.getD, List.getElem?_take, hi]
/-- A number among the arguments. -/
theorem int_den {P : Program} {W : World} {base0 : Nat} {t : TypeId} {k : IntKind} (ht : P.underlying t = some (.int k)) {v : Value} (hok : Value.okWide P W .any base0 t v) :
    ∃ z : Int, DenV (Dw W) rho0 (.c (.int k z)) v := by
  obtain ⟨n, rfl⟩ := Go.WideShapes.okWide_int ht hok
  exact ⟨n, rfl⟩
/-- A text among the arguments. -/
theorem str_den {P : Program} {W : World} {base0 : Nat} {t : TypeId} (ht : P.underlying t = some .string) {v : Value} (hok : Value.okWide P W .any base0 t v) :
    ∃ s : List UInt8, DenV (Dw W) rho0 (.c (.str s)) v := by
  obtain ⟨s, rfl⟩ := Go.WideShapes.okWide_string ht hok
  exact ⟨s.data.toList, by cases s; simp [DenV, Den]⟩
end Go.Sv
end

section
/-
  Own layer 'SV' (31): more readings of arguments: rows of structs, structs.
-/
namespace Go.Sv

theorem list_of {α : Type} {d : α} {Q : Nat → α → Prop} : ∀ n, (∀ i, i < n → ∃ x, Q i x) → ∃ l : List α, l.length = n ∧ ∀ i, i < n → Q i (l.getD i d)
  | 0, _ => ⟨[], rfl, fun i h => absurd h (Nat.not_lt_zero i)⟩
  | n + 1, h => by
    obtain ⟨l, hl, hq⟩ := list_of (d := d) n (fun i hi => h i (by omega))
    obtain ⟨x, hx⟩ := h n (by omega)
    refine ⟨l ++ [x], by simp [hl], fun i hi => ?_⟩
    rcases Nat.lt_or_ge i n with hlt | hge
    · have := hq i hlt
      rwa [List.getD_eq_getElem?_getD, List.getElem?_append_left (by omega), ← List.getD_eq_getElem?_getD]
    · obtain rfl : i = n := by omega
      rw [List.getD_eq_getElem?_getD, ← hl, List.getElem?_concat_length]
      rw [hl]; exact hx
theorem mapM_get {α β : Type} {g : α → Option β} : ∀ {l : List α} {ys : List β}, l.mapM g = some ys → ys.length = l.length ∧ ∀ (i : Nat) (x : α), l[i]? = some x → g x = ys[i]?
  | [], ys, h => by
    obtain rfl : [] = ys := by simpa using h
    exact ⟨rfl, fun i x hx => by simp at hx⟩
  | a :: l, ys, h => by
    rw [List.mapM_cons] at h
    cases hx : g a with
    | none => rw [hx] at h; cases h
    | some y =>
      rw [hx] at h
      cases hl : l.mapM g with
      | none => rw [hl] at h; cases h
      | some zs =>
        rw [hl] at h
        obtain rfl : y :: zs = ys := by simpa using h
        obtain ⟨h1, h2⟩ := mapM_get hl
        refine ⟨by simp [h1], fun i x hi => ?_⟩
        cases i with
        | zero => simp at hi; subst hi; simpa using hx
        | succ i => simp at hi ⊢; exact h2 i x hi
theorem cells_get {W : World} {base n b o : Nat} {vl : List Value} (h : W.cells? base ⟨b, o, none⟩ n = some vl) : vl.length = n ∧ ∀ j, j < n → W.cell? ⟨b, o + j, none⟩ = vl[j]? := by
  unfold World.cells? at h
  split at h
  · obtain ⟨h1, h2⟩ := mapM_get h
    rw [List.length_range] at h1
    refine ⟨h1, fun j hj => ?_⟩
    have := h2 j j (by simp [hj])
    rw [← this, Go.WideShapes.add_plain]
  · cases h
/-- A row of structs among the arguments. -/
theorem rows_den {H : Type} {enc : TypeId × Value → H} {P : Program} {W : World} {base0 base : Nat} {sp : Nat → Bool} {held : Bool} {t e : TypeId} {α : Type} {en : α → List Cell} {dv : α} {sz : Nat} (ht : P.underlying t = some (.slice e)) (hc : P.cellsOf e = sz)
    (hel : ∀ (fuel : Nat) (vl : List Value) (x : DataW H × List MemPlace), DataW.trod enc P W base sp held fuel e vl = some x → ∃ y : α, ∀ j, j < sz → ∃ u, vl[j]? = some u ∧ Den (Dw W) rho0 (nthD (en y) j) u)
    {v : Value} {d : DataW H} {p : List MemPlace} (hok : Value.okWide P W .any base0 t v) (h : DataW.Trod enc P W base sp held t v d p) :
    ∃ l : List α, l.length ≤ maxLen ∧ DenV (Dw W) rho0 (.c (.sl sz l.length (rowF en dv l))) v := by
  obtain ⟨fuel, hf⟩ := h
  obtain ⟨a0, len0, cap0, rfl⟩ := Go.WideShapes.okWide_slice ht hok
  rcases DataW.trod_slice ht hf with ⟨hcs, _⟩ | ⟨a, len, cap, elems, rest, n, _, hcs, _, _, hlc, hm, hlen, hel2, _⟩
  · have : Value.slice a0 len0 cap0 = .slice none 0 0 := by simpa [Value.cells] using hcs
    rw [this]
    exact ⟨[], Nat.zero_le _, none, 0, rfl, Nat.le_refl _, Nat.zero_le _, .inl ⟨rfl, rfl⟩⟩
  · have hv : Value.slice a0 len0 cap0 = .slice (some a) len cap := by simpa [Value.cells] using hcs
    rw [hv] at hok ⊢
    have hsp : a.spot = none := by
      simp only [Value.okWide, ht, Cell.okWide, Cell.ok] at hok
      exact hok.2.2.2.1
    obtain ⟨b, o, spot⟩ := a
    simp only at hsp
    subst hsp
    have key : ∀ i, i < len → ∃ y : α, ∀ j, j < sz → ∃ u, W.cell? ⟨b, o + i * sz + j, none⟩ = some u ∧ Den (Dw W) rho0 (nthD (en y) j) u := by
      intro i hi
      have h1 := hel2 i hi
      have h2 : elems[i]? = some elems[i] := by simp [show i < elems.length by omega]
      rw [h2, Option.bind_eq_some_iff] at h1
      obtain ⟨vl, hvl, hx⟩ := h1
      rw [hc, Go.WideShapes.add_plain] at hvl
      obtain ⟨hl1, hl2⟩ := cells_get hvl
      obtain ⟨y, hy⟩ := hel n vl _ hx
      refine ⟨y, fun j hj => ?_⟩
      obtain ⟨u, hu, hd⟩ := hy j hj
      exact ⟨u, by rw [hl2 j hj]; exact hu, hd⟩
    obtain ⟨l, hl, hq⟩ := list_of (d := dv) len key
    refine ⟨l, by omega, some ⟨b, o, none⟩, cap, by rw [hl], by omega, hm, .inr ⟨b, o, rfl, fun i hi j hj => ?_⟩⟩
    obtain ⟨u, hu, hd⟩ := hq i (by omega) j hj
    exact ⟨u, hu, hd⟩
/-- Two texts in a struct. -/
theorem texts2 {H : Type} {enc : TypeId × Value → H} {P : Program} {W : World} {base : Nat} {sp : Nat → Bool} {held : Bool} {e : TypeId} {f0 f1 : Field} {fuel : Nat} {vl : List Value} {x : DataW H × List MemPlace}
    (ht : P.underlying e = some (.struct #[f0, f1])) (h0 : P.underlying f0.type = some .string) (h1 : P.underlying f1.type = some .string) (o0 : f0.offset = 0) (o1 : f1.offset = 1) (c0 : P.cellsOf f0.type = 1) (c1 : P.cellsOf f1.type = 1)
    (h : DataW.trod enc P W base sp held fuel e vl = some x) : ∃ a b : List UInt8, vl[0]? = some (.string ⟨a.toArray⟩) ∧ vl[1]? = some (.string ⟨b.toArray⟩) := by
  obtain ⟨y0, y1, n, _, _, k0, k1⟩ := Go.ChangeShapes.trod_struct2 ht h
  rw [o0, c0] at k0
  rw [o1, c1] at k1
  obtain ⟨s0, e0, _⟩ := DataW.trod_string h0 k0
  obtain ⟨s1, e1, _⟩ := DataW.trod_string h1 k1
  have g0 : vl[0]? = some (.string s0) := by
    have := congrArg (fun l => l[0]?) e0
    simpa using this
  have g1 : vl[1]? = some (.string s1) := by
    have := congrArg (fun l => l[0]?) e1
    simpa using this
  exact ⟨s0.data.toList, s1.data.toList, by rw [g0], by rw [g1]⟩
/-- A variable of an integer type holds some number. -/
theorem int_shape {P : Program} {w : World} {g : Nat} {t : TypeId} {zero : Array Value} {k : IntKind} (h : w.ShapedOpen P) (hg : g < P.globals.size)
    (h0 : ((begin P (fun _ _ => 0) default).world.heap[g]?).bind Obj.row? = some (zero, t)) (hz : zero.size = 1)
    (hb : P.buildable t = true) (hc : P.cellTypes P.depth t = some [t]) (hu : P.underlying t = some (.int k)) : ∃ (m : Int) (cs : Array Value) (fz : Nat × Nat), w.heap[g]? = some (.cells cs t fz) ∧ cs.size = 1 ∧ cs[0]? = some (.int k m) := by
  obtain ⟨cs, hh, hs, hr⟩ := h.1 g zero t hg h0
  obtain ⟨ts, hts, _, hall⟩ := hr hb
  rw [hc] at hts
  cases hts
  have h1 : 0 < cs.size := by omega
  obtain ⟨u, hu', hok⟩ := hall 0 cs[0] (by simp [h1])
  have : u = t := by simpa using hu'.symm
  subst this
  have hcell : cs[0]? = some cs[0] := by simp [h1]
  unfold Cell.ok at hok
  rw [hu] at hok
  cases hv : cs[0] with
  | int k' n =>
    rw [hv] at hok
    have hk : k' = k := by first | exact hok.1 | exact hok.1.symm | (simp at hok; exact hok.1) | (simp at hok; exact hok.1.symm)
    subst hk
    exact ⟨n, cs, _, hh, by omega, by rw [hcell, hv]⟩
  | _ => rw [hv] at hok; simp at hok
/-- The listed tables, and one variable that holds some number. -/
theorem glob_plus {P : Program} {G : Nat → Option (List Cell)} {W : World} {laid : List (String × DataW Unit)} {g0 : Nat} {k : IntKind} {m : Int} {cs0 : Array Value} {t0 : TypeId} {fz0 : Nat × Nat} (h : laidMet P laid W)
    (hw : W.heap[g0]? = some (.cells cs0 t0 fz0)) (hs : cs0.size = 1) (hx : cs0[0]? = some (.int k m)) (h0 : G g0 = some [.int k m])
    (hG : ∀ g cs, g ≠ g0 → G g = some cs → ∃ n d t, (n, d) ∈ laid ∧ P.globalNamed n = some g ∧ (P.globals[g]?).map (·.type) = some t ∧ dc P 9 t d = some cs) : GlobOk G (Dw W) ∧ GlobW G W := by
  obtain ⟨k1, k2⟩ := glob_ok (G := fun g => if g = g0 then none else G g) (laid := laid) h (fun g cs hg => by
    split at hg
    · cases hg
    · rename_i hne; exact hG g cs hne hg)
  refine ⟨fun g cs hg j x hj => ?_, fun g cs hg hne => ?_⟩
  · by_cases e : g = g0
    · subst e
      rw [h0] at hg
      obtain rfl := Option.some.inj hg
      cases j with
      | zero =>
        simp at hj; subst hj
        exact ⟨.int k m, by simp only [Dw, World.cell?, hw, Option.isSome_none, Bool.false_eq_true, if_false]; exact hx, rfl⟩
      | succ j => simp at hj
    · exact k1 g cs (by show (if g = g0 then none else G g) = some cs; rw [if_neg e]; exact hg) j x hj
  · by_cases e : g = g0
    · subst e
      rw [h0] at hg
      obtain rfl := Option.some.inj hg
      exact ⟨cs0, t0, fz0, hw, by rw [hs]; rfl⟩
    · exact k2 g cs (by show (if g = g0 then none else G g) = some cs; rw [if_neg e]; exact hg) hne
end Go.Sv
end
