/- Own texts for this claim: Hp19, SvKeep, SvRead. -/
import Derived.Test.YtgoblgakkbodlaaGreatDoorHttpBackCardP6
import Derived.Test.YtgoblgakkbodlaaGreatDoorHttpBackCardP3
import Derived.ChangeSlices
set_option linter.all false

section
open Go Go.Sv Go.RowKit
namespace Go.Proofs.Tw
attribute [local irreducible] Wp FinQ resV Ent Pur Go.Sv.Fn Sat0
set_option maxRecDepth 100000
set_option maxHeartbeats 4000000
variable {G : Nat → Option (List Cell)}

/-- What a text says, once more by its print. -/
theorem back_Q {s : List UInt8} (hl : s.length ≤ 1900) : ((parseQ s).2 = 0 → parseQ (printAskT (parseQ s).1) = ((parseQ s).1, 0) ∧ mayAskT (parseQ s).1 = true) := fun h =>
  ⟨parse_print_Q (parse_may_Q h hl), parse_may_Q h hl⟩
theorem back_R {s : List UInt8} (hl : s.length ≤ 1900) : ((parseR s).2 = 0 → parseR (printTell (parseR s).1) = ((parseR s).1, 0) ∧ mayTell (parseR s).1 = true) := fun h =>
  ⟨parse_print_R (parse_may_R h hl), parse_may_R h hl⟩
theorem printQ_len (r : QT) (hb : r.body.length ≤ 9000) : (printAskT r).length ≤ 20000 := by
  unfold printAskT
  split
  · rename_i h
    unfold mayAskT at h
    rw [mayM_eq, Bool.cond_false_right, Bool.and_eq_true, Bool.and_eq_true, decide_eq_true_eq] at h
    rw [List.length_append]
    omega
  · simp
theorem printR_len (r : RT) (hb : r.body.length ≤ 9000) : (printTell r).length ≤ 20000 := by
  unfold printTell
  split
  · rename_i h
    unfold mayTell at h
    rw [mayM_eq, Bool.cond_false_right, Bool.and_eq_true, Bool.and_eq_true, decide_eq_true_eq] at h
    rw [List.length_append]
    omega
  · simp
theorem parseQ_body {s : List UInt8} : (parseQ s).1.body.length ≤ s.length := by
  unfold parseQ
  split
  · exact (hdC_le s).2
  · exact Nat.zero_le _
theorem parseR_body {s : List UInt8} : (parseR s).1.body.length ≤ s.length := by
  unfold parseR
  split
  · exact (hdC_le s).2
  · exact Nat.zero_le _
theorem httpBack_ok (hp : HasPow G) (hL : HasLen G) (ns : List Int) (raw : List UInt8) (at_ : Int) (b : UInt8) (hl : ns.length ≤ 9223372036854775807) : Pur Tryz.prog G 5 [.c (.sl 1 ns.length (intsF ns)), .c (.str raw), .c (.int .i64 at_), .c (.int .u8 (b.toNat : Int))] [.c (.bool true)] := by
  refine Pur.of Tryz.func5 (by kernel_rfl) (by kernel_rfl) (by kernel_rfl) ?_
  have k0 := known13_ok hp hL
  by_cases hr : 400 < raw.length
  · have ht : decide ((raw.length : Int) > 400) = true := by simp; omega
    refine Wp.go (mx := true) (fun _ => mixed) [(1, {cs := [(0, pc k0)]})] 100 [false, true] [(!true) = false, decide ((↑raw.length : Int) > (400 : Int)) = true] (by kernel_rfl) (by kernel_rfl) (by kernel_rfl) ⟨rfl, (show decide ((↑raw.length : Int) > (400 : Int)) = true from (by assumption))⟩ ?_
    refine Wp.ret' (by kernel_rfl) ?_
    exact FinQ.pure (rs' := [V1.c (Cell.bool true)]) (by kernel_rfl) rfl (by kernel_rfl)
  have ht : decide ((raw.length : Int) > 400) = false := by simp; omega
  have fA := askG_f ns
  have fT := tellG_f ns
  have c1 := askG_ok (G := G) ns hl
  have c2 := tellG_ok (G := G) ns hl
  have c3 := printAsk_ok hp (askG ns) (fA.fit.q (by have := fA.h1; omega) (by have := fA.h2; omega))
  have c4 := printTell_any hp (tellG ns) (fun h0 h1 => fT.fit.r h0 h1)
  have c5 := parseQ_ok hL (printAskT (askG ns)) (by have := fA.len; omega)
  rw [parse_print_Q fA.may] at c5
  have c6 := parseR_ok hL (printTell (tellG ns)) (by have := fT.len; omega)
  rw [parse_print_R fT.may] at c6
  have c7 := sameQ_ok (G := G) (askG ns) (askG ns) (by have := fA.hn; omega)
  rw [sameQ_refl] at c7
  have c8 := sameT_ok (G := G) (tellG ns) (tellG ns) (by have := fT.hn; omega)
  rw [sameT_refl] at c8
  have c0 := Texts_ok (G := G) ns raw at_ b hl (by omega)
  have hx : ∀ k, ((textsG ns raw at_ b).getD k []).length ≤ 1400 := fun k => texts_at (by omega) k
  have hll : (textsG ns raw at_ b).length = 12 := rfl
  generalize textsG ns raw at_ b = X at *
  generalize printAskT (askG ns) = PA at *
  generalize printTell (tellG ns) = PT at *
  generalize askG ns = A at *
  generalize tellG ns = T at *
  have ht2 : (bif bif bif (0 : Int) != 0 then true else !true then true else (0 : Int) != 0 then true else !true) = false := rfl
  clear fA fT
  refine Wp.go (mx := true) (fun _ => mixed) [(1, {cs := [(0, pc k0)]}), (5, {cs := [(1, pc c1), (3, pc c2)]}), (6, {cs := [(1, pc c3), (2, pc c5)]}), (7, {cs := [(1, pc c4), (2, pc c6)]}), (8, {cs := [(5, pc c7), (15, pc c8)]}), (10, {cs := [(4, pc c0)]})] 100 [false, false, false] [(!true) = false, decide ((↑raw.length : Int) > (400 : Int)) = false, (bif bif bif (0 : Int) != (0 : Int) then true else !true then true else (0 : Int) != (0 : Int) then true else !true) = false] (by kernel_rfl) (by kernel_rfl) (by kernel_rfl) ⟨rfl, (by assumption), rfl⟩ ?_
  refine Wp.loopK (by kernel_rfl) (fun (k : Nat) => ⟨[(15, TV.v (V1.c (encL X))), (16, TV.v (V1.c (Cell.int .i64 (k : Int))))], [], 912⟩) (fun k => k ≤ 12) (fun k => 12 - k) 0 (Ent.of [] (by kernel_rfl) (by kernel_rfl) (by kernel_rfl) trivial) (Nat.zero_le _) ?_
  intro k L hk again
  rcases Nat.lt_or_ge k 12 with hk4 | hk4
  · have hxk := hx k
    have fq := parseQ_fit (s := X.getD k []) (by omega)
    have fr := parseR_fit (s := X.getD k []) (by omega)
    have bq := parseQ_body (s := X.getD k [])
    have br := parseR_body (s := X.getD k [])
    have d1 := parseQ_ok hL (X.getD k []) (by omega)
    have d2 := parseR_ok hL (X.getD k []) (by omega)
    have d3 := printAsk_ok hp (parseQ (X.getD k [])).1 (fq.1.q fq.2.1 fq.2.2)
    have d4 := printTell_any hp (parseR (X.getD k [])).1 (fun h0 h1 => fr.r h0 h1)
    have p1 := printQ_len (parseQ (X.getD k [])).1 (by omega)
    have p2 := printR_len (parseR (X.getD k [])).1 (by omega)
    have d5 := parseQ_ok hL (printAskT (parseQ (X.getD k [])).1) (by omega)
    have d6 := parseR_ok hL (printTell (parseR (X.getD k [])).1) (by omega)
    have n1 := parseQ_len (printAskT (parseQ (X.getD k [])).1)
    have n2 := parseR_len (printTell (parseR (X.getD k [])).1)
    have d7 := sameQ_ok (G := G) (parseQ (printAskT (parseQ (X.getD k [])).1)).1 (parseQ (X.getD k [])).1 (by omega)
    have d8 := sameT_ok (G := G) (parseR (printTell (parseR (X.getD k [])).1)).1 (parseR (X.getD k [])).1 (by omega)
    have d9 := mayAsk_ok hp (parseQ (X.getD k [])).1 (fq.1.q fq.2.1 fq.2.2)
    have d10 := mayTell_any hp (parseR (X.getD k [])).1 (fun h0 h1 => fr.r h0 h1)
    have f1 : (bif (parseQ (X.getD k [])).2 == 0 then bif bif (parseQ (printAskT (parseQ (X.getD k [])).1)).2 != 0 then true else !sameQ (parseQ (printAskT (parseQ (X.getD k [])).1)).1 (parseQ (X.getD k [])).1 then true else !mayAskT (parseQ (X.getD k [])).1 else false) = false := by
      by_cases h0 : (parseQ (X.getD k [])).2 = 0
      · obtain ⟨g1, g2⟩ := back_Q (by omega) h0
        rw [g1, g2, sameQ_refl, h0]
        rfl
      · rw [show ((parseQ (X.getD k [])).2 == 0) = false from beq_eq_false_iff_ne.2 h0]
        rfl
    have f2 : (bif (parseR (X.getD k [])).2 == 0 then bif bif (parseR (printTell (parseR (X.getD k [])).1)).2 != 0 then true else !sameT (parseR (printTell (parseR (X.getD k [])).1)).1 (parseR (X.getD k [])).1 then true else !mayTell (parseR (X.getD k [])).1 else false) = false := by
      by_cases h0 : (parseR (X.getD k [])).2 = 0
      · obtain ⟨g1, g2⟩ := back_R (by omega) h0
        rw [g1, g2, sameT_refl, h0]
        rfl
      · rw [show ((parseR (X.getD k [])).2 == 0) = false from beq_eq_false_iff_ne.2 h0]
        rfl
    clear fq fr bq br p1 p2 n1 n2
    generalize sameQ (parseQ (printAskT (parseQ (X.getD k [])).1)).1 (parseQ (X.getD k [])).1 = e1 at *
    generalize sameT (parseR (printTell (parseR (X.getD k [])).1)).1 (parseR (X.getD k [])).1 = e2 at *
    generalize mayAskT (parseQ (X.getD k [])).1 = e3 at *
    generalize mayTell (parseR (X.getD k [])).1 = e4 at *
    generalize parseQ (printAskT (parseQ (X.getD k [])).1) = x2 at *
    generalize parseR (printTell (parseR (X.getD k [])).1) = y2 at *
    generalize printAskT (parseQ (X.getD k [])).1 = x3 at *
    generalize printTell (parseR (X.getD k [])).1 = y3 at *
    generalize parseQ (X.getD k []) = x1 at *
    generalize parseR (X.getD k []) = y1 at *
    have ht3 : (bif bif x1.2 == 0 then bif bif x2.2 != 0 then true else !e1 then true else !e3 else false then true else bif y1.2 == 0 then bif bif y2.2 != 0 then true else !e2 then true else !e4 else false) = false := by rw [f1, f2]; rfl
    clear f1 f2
    refine Wp.go (mx := true) (fun _ => mixed) [(14, {cs := [(4, pc d1)]}), (15, {cs := [(4, pc d2)]}), (16, {cs := [(1, pc d3), (2, pc d5)]}), (17, {cs := [(1, pc d4), (2, pc d6)]}), (18, {cs := [(8, pc d7), (13, pc d9), (26, pc d8), (31, pc d10)]})] 100 [true, false] [decide ((↑k : Int) < (↑X.length : Int)) = true, (0 : Int) ≤ (↑k : Int) ∧ (↑k : Int) < (↑X.length : Int), (0 : Int) ≤ (↑k : Int) ∧ (↑k : Int) < (↑X.length : Int), (bif bif x1.2 == (0 : Int) then bif bif x2.2 != (0 : Int) then true else !e1 then true else !e3 else false then true else bif y1.2 == (0 : Int) then bif bif y2.2 != (0 : Int) then true else !e2 then true else !e4 else false) = false, inR IntKind.i64 ((↑k : Int) + (1 : Int))] (by kernel_rfl) (by kernel_rfl) (by kernel_rfl) ⟨(by simp; omega), (by omega), (by omega), (by assumption), inR64 (by omega) (by omega)⟩ ?_
    exact Wp.lpK (by kernel_rfl) (again _ (k + 1) (by assumption) (by omega) (Ent.of [] (by kernel_rfl) (by kernel_rfl) (by kernel_rfl) trivial))
  · refine Wp.go (mx := true) (fun _ => mixed) [] 100 [false] [decide ((↑k : Int) < (↑X.length : Int)) = false] (by kernel_rfl) (by kernel_rfl) (by kernel_rfl) (show decide ((↑k : Int) < (↑X.length : Int)) = false from (by simp; omega)) ?_
    refine Wp.ret' (by kernel_rfl) ?_
    exact FinQ.pure (rs' := [V1.c (Cell.bool true)]) (by kernel_rfl) rfl (by kernel_rfl)
end Go.Proofs.Tw
end

section
/-
  Own layer 'SV' (30): what has been read reads so in a later world.
-/
namespace Go.Sv

theorem mapM_keep {α β : Type} {f g : α → Option β} : ∀ {l : List α} {ys : List β}, l.mapM f = some ys → (∀ x ∈ l, ∀ y, f x = some y → y ∈ ys → g x = some y) → l.mapM g = some ys
  | [], ys, h, _ => by simpa using h
  | x :: l, ys, h, hg => by
    rw [List.mapM_cons] at h ⊢
    cases hx : f x with
    | none => rw [hx] at h; cases h
    | some y =>
      rw [hx] at h
      cases hl : l.mapM f with
      | none => rw [hl] at h; cases h
      | some zs =>
        rw [hl] at h
        obtain rfl : y :: zs = ys := by simpa using h
        rw [hg x (by simp) y hx (by simp), mapM_keep hl (fun u hu v hv hm => hg u (by simp [hu]) v hv (by simp [hm]))]
        rfl
theorem cell_keep {W W' : World} (hk : ∀ b, b < W.heap.size → W'.heap[b]? = W.heap[b]?) {a : Addr} {v : Value} (h : W.cell? a = some v) : W'.cell? a = some v := by
  have hb : a.block < W.heap.size := by
    rcases Nat.lt_or_ge a.block W.heap.size with hlt | hge
    · exact hlt
    · simp [World.cell?, Array.getElem?_eq_none hge] at h
  simp only [World.cell?, hk _ hb] at h ⊢
  exact h
theorem cells_keep {W W' : World} (hk : ∀ b, b < W.heap.size → W'.heap[b]? = W.heap[b]?) {base : Nat} {a : Addr} {n : Nat} {l : List Value} (h : W.cells? base a n = some l) : W'.cells? base a n = some l := by
  unfold World.cells? at h ⊢
  split at h
  · rename_i hb
    rw [if_pos hb]
    exact mapM_keep h (fun x _ y hy _ => cell_keep hk hy)
  · cases h

/-- Types that lead to no others, and to no slices of nothing. -/
def stepT (P : Program) (S : TypeId → Bool) (t : TypeId) : Bool := match P.underlying t with
  | some (.slice e) => !(Nat.beq (P.cellsOf e) 0) && S e
  | some (.pointer e) => S e
  | some (.struct fs) => fs.toList.all fun f => S f.type
  | some (.array _ e) => S e
  | some (.map _ e) => S e
  | _ => true
def inL (l : List TypeId) (t : TypeId) : Bool := l.any fun u => Nat.beq u t
def closedT (P : Program) (l : List TypeId) : Bool := l.all (stepT P (inL l))
theorem closed_step {P : Program} {l : List TypeId} (h : closedT P l = true) {t : TypeId} (ht : inL l t = true) : stepT P (inL l) t = true := by
  obtain ⟨u, hu, e⟩ := List.any_eq_true.1 ht
  obtain rfl : u = t := Nat.eq_of_beq_eq_true e
  exact List.all_eq_true.1 h u hu
theorem trod_keep {H : Type} {enc : TypeId × Value → H} {P : Program} {W W' : World} {base : Nat} {sp sp' : Nat → Bool} {l : List TypeId} (hk : ∀ b, b < W.heap.size → W'.heap[b]? = W.heap[b]?)
    (hz : closedT P l = true) (hsp : ∀ b, sp b = true) : ∀ (fuel : Nat) (t : TypeId) (cs : List Value) (d : DataW H) (p : List MemPlace), inL l t = true → DataW.trod enc P W base sp true fuel t cs = some (d, p) →
      (∀ q ∈ p, sp' q.block = true) → DataW.trod enc P W' base sp' true fuel t cs = some (d, p) := by
  intro fuel
  induction fuel with
  | zero => intro t cs d p _ h; simp [DataW.trod] at h
  | succ fuel ih =>
    intro t cs d p hin h hs
    have hst := closed_step hz hin
    unfold stepT at hst
    unfold DataW.trod at h ⊢
    generalize hu : P.underlying t = u at h hst ⊢
    split at h
    case h_6 e a =>
      simp only at hst
      rw [Option.map_eq_some_iff] at h
      obtain ⟨x, hx, he⟩ := h
      rw [Option.bind_eq_some_iff] at hx
      obtain ⟨vl, hl, hx⟩ := hx
      simp only [Prod.mk.injEq] at he
      obtain ⟨rfl, rfl⟩ := he
      simp only [cells_keep hk hl, Option.bind_some]
      rw [ih e vl x.1 x.2 hst hx (fun q hq => hs q (by simp [hq]))]
      rfl
    case h_8 e a len cap =>
      simp only [Bool.and_eq_true, Bool.not_eq_true'] at hst
      have hz : P.cellsOf e ≠ 0 := fun h0 => by rw [h0] at hst; exact absurd hst.1 (by decide)
      simp only at h ⊢
      split at h
      · rename_i hc
        rw [if_pos hc]
        rw [Option.bind_eq_some_iff] at h
        obtain ⟨elems, hel, h⟩ := h
        rw [Option.map_eq_some_iff] at h
        obtain ⟨rest, hre, he⟩ := h
        simp only [Prod.mk.injEq] at he
        obtain ⟨rfl, rfl⟩ := he
        have elemAt : ∀ (i : Nat) (y : DataW H × List MemPlace), (W.cells? base (a.add (i * P.cellsOf e)) (P.cellsOf e)).bind (DataW.trod enc P W base sp true fuel e) = some y → y ∈ elems ++ rest →
            (W'.cells? base (a.add (i * P.cellsOf e)) (P.cellsOf e)).bind (DataW.trod enc P W' base sp' true fuel e) = some y := by
          intro i y hy hm
          rw [Option.bind_eq_some_iff] at hy ⊢
          obtain ⟨vl, hl, hy⟩ := hy
          exact ⟨vl, cells_keep hk hl, ih e vl y.1 y.2 hst.2 hy (fun q hq => hs q (List.mem_append_right _ (List.mem_flatMap.2 ⟨y, hm, hq⟩)))⟩
        rw [mapM_keep hel (fun x _ y hy hm => elemAt x y hy (List.mem_append_left _ hm))]
        simp only [Option.bind_some]
        have hrest : (if sp' a.block = true then (List.range (cap - len)).mapM fun j => (W'.cells? base (a.add ((len + j) * P.cellsOf e)) (P.cellsOf e)).bind (DataW.trod enc P W' base sp' true fuel e) else some []) = some rest := by
          by_cases h0 : elems.length + rest.length = 0
          · have hr : rest = [] := List.eq_nil_of_length_eq_zero (by omega)
            have hle : elems = [] := List.eq_nil_of_length_eq_zero (by omega)
            have none0 : ∀ {f : Nat → Option (DataW H × List MemPlace)} {n : Nat} {ys : List (DataW H × List MemPlace)}, (List.range n).mapM f = some ys → ys = [] → n = 0 := by
              intro f n ys h hy
              subst hy
              cases n with
              | zero => rfl
              | succ n =>
                rw [List.range_succ_eq_map, List.mapM_cons] at h
                exfalso
                revert h
                cases f 0 with
                | none => intro h; cases h
                | some y =>
                  intro h
                  simp only [Option.bind_eq_bind, Option.bind_some] at h
                  rw [Option.bind_eq_some_iff] at h
                  obtain ⟨_, _, h⟩ := h
                  simp at h
            have hlen := none0 hel hle
            rw [if_pos (hsp _)] at hre
            have hc0 := none0 hre hr
            rw [hc0, hr]
            simp
          · have hb : sp' a.block = true := by
              have hm : (MemPlace.cell a.block (a.off + 0)) ∈ MemPlace.row a ((elems.length + rest.length) * P.cellsOf e) := by
                unfold MemPlace.row
                refine List.mem_map.2 ⟨0, List.mem_range.2 ?_, rfl⟩
                exact Nat.mul_pos (by omega) (by omega)
              exact hs _ (List.mem_append_left _ hm)
            rw [if_pos hb]
            rw [if_pos (hsp _)] at hre
            exact mapM_keep hre (fun x _ y hy hm => elemAt (len + x) y hy (List.mem_append_right _ hm))
        rw [hrest]
        rfl
      · cases h
    case h_9 fs =>
      split at h
      · rename_i hc
        rw [if_pos hc]
        rw [Option.map_eq_some_iff] at h
        obtain ⟨xs, hx, he⟩ := h
        simp only [Prod.mk.injEq] at he
        obtain ⟨rfl, rfl⟩ := he
        rw [mapM_keep hx (fun f hf y hy hm => ih _ _ y.1 y.2 (List.all_eq_true.1 hst f hf) hy (fun q hq => hs q (List.mem_flatMap.2 ⟨y, hm, hq⟩)))]
        rfl
      · cases h
    case h_10 n e =>
      split at h
      · rename_i hc
        rw [if_pos hc]
        rw [Option.map_eq_some_iff] at h
        obtain ⟨xs, hx, he⟩ := h
        simp only [Prod.mk.injEq] at he
        obtain ⟨rfl, rfl⟩ := he
        rw [mapM_keep hx (fun f _ y hy hm => ih _ _ y.1 y.2 hst hy (fun q hq => hs q (List.mem_flatMap.2 ⟨y, hm, hq⟩)))]
        rfl
      · cases h
    case h_12 ms u v => exact h
    case h_14 k e b =>
      cases hb : W.heap[b]? with
      | none => rw [hb] at h; cases h
      | some o =>
        have hlt : b < W.heap.size := by
          rcases Nat.lt_or_ge b W.heap.size with hlt | hge
          · exact hlt
          · rw [Array.getElem?_eq_none hge] at hb; cases hb
        rw [hb] at h
        rw [hk b hlt, hb]
        cases o with
        | map es clock =>
          simp only at h ⊢
          split at h
          · rename_i hc
            rw [if_pos hc]
            rw [Option.bind_eq_some_iff] at h
            obtain ⟨entries, he, h⟩ := h
            have he' : entries.flatMap (fun x => x.2) ⊆ p := by
              split at h
              · simp only [Option.some.injEq, Prod.mk.injEq] at h
                rw [← h.2]
                exact fun x hx => List.mem_cons_of_mem _ hx
              · cases h
            rw [mapM_keep (g := fun x => (keyOf P k x.key).bind fun key => if x.val.formed P e then (DataW.trod enc P W' base sp' true fuel e x.val.cells.toList).map fun y => ((key, y.1), y.2) else none) he (fun x _ y hy hm => by
              rw [Option.bind_eq_some_iff] at hy ⊢
              obtain ⟨key, hkey, hy⟩ := hy
              refine ⟨key, hkey, ?_⟩
              split at hy
              · rename_i hf
                rw [if_pos hf]
                rw [Option.map_eq_some_iff] at hy ⊢
                obtain ⟨z, hz', rfl⟩ := hy
                exact ⟨z, ih e _ z.1 z.2 hst hz' (fun q hq => hs q (he' (List.mem_flatMap.2 ⟨_, hm, hq⟩))), rfl⟩
              · cases hy)]
            exact h
          · cases h
        | _ => cases h
    all_goals exact h
/-- All arguments read as before. -/
theorem trodAll_keep {H : Type} {enc : TypeId × Value → H} {P : Program} {W W' : World} {base : Nat} {sp sp' : Nat → Bool} {l : List TypeId} (hk : ∀ b, b < W.heap.size → W'.heap[b]? = W.heap[b]?)
    (hz : closedT P l = true) (hsp : ∀ b, sp b = true) : ∀ (ts : List TypeId) (vs : List Value) (ds : List (DataW H)) (p : List MemPlace), (∀ t ∈ ts, inL l t = true) → DataW.TrodAll enc P W base sp true ts vs ds p →
      (∀ q ∈ p, sp' q.block = true) → DataW.TrodAll enc P W' base sp' true ts vs ds p
  | [], [], [], p, _, h, _ => h
  | t :: ts, v :: vs, d :: ds, p, hl, ⟨p1, q1, ⟨fuel, h1⟩, h2, e⟩, hs =>
    ⟨p1, q1, ⟨fuel, trod_keep hk hz hsp fuel t _ d p1 (hl t (by simp)) h1 (fun q hq => hs q (by rw [e]; simp [hq]))⟩, trodAll_keep hk hz hsp ts vs ds q1 (fun t ht => hl t (by simp [ht])) h2 (fun q hq => hs q (by rw [e]; simp [hq])), e⟩
/-- A row of numbers among the arguments. -/
theorem ints_den {H : Type} {enc : TypeId × Value → H} {P : Program} {W : World} {base0 base : Nat} {sp : Nat → Bool} {held : Bool} {t e : TypeId} {k : IntKind} (ht : P.underlying t = some (.slice e)) (he : P.underlying e = some (.int k)) (hc : P.cellsOf e = 1)
    {v : Value} {d : DataW H} {p : List MemPlace} (hok : Value.okWide P W .any base0 t v) (h : DataW.Trod enc P W base sp held t v d p) :
    ∃ ns : List Int, ns.length ≤ maxLen ∧ DenV (Dw W) rho0 (.c (.sl 1 ns.length (fun i _ => .int k (ns.getD i 0)))) v := by
  obtain ⟨fuel, hf⟩ := h
  obtain ⟨a0, len0, cap0, rfl⟩ := Go.WideShapes.okWide_slice ht hok
  rcases Go.ChangeShapes.open_ints ht he hc hf with ⟨hcs, _⟩ | ⟨a, len, cap, zs, hcs, _, hl, hm, hzl, _, hcell, _⟩
  · have : Value.slice a0 len0 cap0 = .slice none 0 0 := by simpa [Value.cells] using hcs
    rw [this]
    exact ⟨[], Nat.zero_le _, none, 0, rfl, Nat.le_refl _, Nat.zero_le _, .inl ⟨rfl, rfl⟩⟩
  · have hv : Value.slice a0 len0 cap0 = .slice (some a) len cap := by simpa [Value.cells] using hcs
    rw [hv] at hok ⊢
    have hsp : a.spot = none := by
      simp only [Value.okWide, ht, Cell.okWide, Cell.ok] at hok
      exact hok.2.2.2.1
    obtain ⟨b, o, spot⟩ := a
    simp only at hsp
    subst hsp
    have hle : len ≤ zs.length := by rw [hzl]; split <;> omega
    have hn : (zs.take len).length = len := by rw [List.length_take]; omega
    refine ⟨zs.take len, by rw [hn]; omega, some ⟨b, o, none⟩, cap, by rw [hn], by rw [hn]; exact hl, hm, .inr ⟨b, o, rfl, fun i hi j hj => ?_⟩⟩
    obtain rfl : j = 0 := by omega
    rw [hn] at hi
    have := hcell i (by omega)
    rw [Go.WideShapes.add_plain] at this
    refine ⟨.int k (zs.getD i 0), by unfold Dw; rw [← this]; congr 2; omega, ?_⟩
    simp only [Den]
    congr 1
    simp [List.getD, List.getElem?_take, hi]
/-- A number among the arguments. -/
theorem int_den {P : Program} {W : World} {base0 : Nat} {t : TypeId} {k : IntKind} (ht : P.underlying t = some (.int k)) {v : Value} (hok : Value.okWide P W .any base0 t v) :
    ∃ z : Int, DenV (Dw W) rho0 (.c (.int k z)) v := by
  obtain ⟨n, rfl⟩ := Go.WideShapes.okWide_int ht hok
  exact ⟨n, rfl⟩
/-- A text among the arguments. -/
theorem str_den {P : Program} {W : World} {base0 : Nat} {t : TypeId} (ht : P.underlying t = some .string) {v : Value} (hok : Value.okWide P W .any base0 t v) :
    ∃ s : List UInt8, DenV (Dw W) rho0 (.c (.str s)) v := by
  obtain ⟨s, rfl⟩ := Go.WideShapes.okWide_string ht hok
  exact ⟨s.data.toList, by cases s; simp [DenV, Den]⟩
end Go.Sv
end

section
/-
  Own layer 'SV' (31): more readings of arguments: rows of structs, structs.
-/
namespace Go.Sv

/-- A byte among the arguments. -/
theorem byte_den {P : Program} {W : World} {base0 : Nat} {t : TypeId} (ht : P.underlying t = some (.int .u8)) {v : Value} (hok : Value.okWide P W .any base0 t v) :
    ∃ b : UInt8, DenV (Dw W) rho0 (.c (.int .u8 (b.toNat : Int))) v := by
  obtain ⟨n, rfl⟩ := Go.WideShapes.okWide_int ht hok
  simp only [Value.okWide, ht, Cell.okWide, Cell.ok] at hok
  have h2 : 0 ≤ n ∧ n ≤ 255 := hok.2
  have h3 : ((UInt8.ofNat n.toNat).toNat : Int) = n := by
    rw [UInt8.toNat_ofNat']
    omega
  exact ⟨UInt8.ofNat n.toNat, by show Value.int .u8 n = Value.int .u8 _; rw [h3]⟩
/-- A variable of an integer type holds some number. -/
theorem int_shape {P : Program} {w : World} {g : Nat} {t : TypeId} {zero : Array Value} {k : IntKind} (h : w.ShapedOpen P) (hg : g < P.globals.size)
    (h0 : ((begin P (fun _ _ => 0) default).world.heap[g]?).bind Obj.row? = some (zero, t)) (hz : zero.size = 1)
    (hb : P.buildable t = true) (hc : P.cellTypes P.depth t = some [t]) (hu : P.underlying t = some (.int k)) : ∃ (m : Int) (cs : Array Value) (fz : Nat × Nat), w.heap[g]? = some (.cells cs t fz) ∧ cs.size = 1 ∧ cs[0]? = some (.int k m) := by
  obtain ⟨cs, hh, hs, hr⟩ := h.1 g zero t hg h0
  obtain ⟨ts, hts, _, hall⟩ := hr hb
  rw [hc] at hts
  cases hts
  have h1 : 0 < cs.size := by omega
  obtain ⟨u, hu', hok⟩ := hall 0 cs[0] (by simp [h1])
  have : u = t := by simpa using hu'.symm
  subst this
  have hcell : cs[0]? = some cs[0] := by simp [h1]
  unfold Cell.ok at hok
  rw [hu] at hok
  cases hv : cs[0] with
  | int k' n =>
    rw [hv] at hok
    have hk : k' = k := by first | exact hok.1 | exact hok.1.symm | (simp at hok; exact hok.1) | (simp at hok; exact hok.1.symm)
    subst hk
    exact ⟨n, cs, _, hh, by omega, by rw [hcell, hv]⟩
  | _ => rw [hv] at hok; simp at hok
/-- The listed tables, and one variable that holds some number. -/
theorem glob_plus {P : Program} {G : Nat → Option (List Cell)} {W : World} {laid : List (String × DataW Unit)} {g0 : Nat} {k : IntKind} {m : Int} {cs0 : Array Value} {t0 : TypeId} {fz0 : Nat × Nat} (h : laidMet P laid W)
    (hw : W.heap[g0]? = some (.cells cs0 t0 fz0)) (hs : cs0.size = 1) (hx : cs0[0]? = some (.int k m)) (h0 : G g0 = some [.int k m])
    (hG : ∀ g cs, g ≠ g0 → G g = some cs → ∃ n d t, (n, d) ∈ laid ∧ P.globalNamed n = some g ∧ (P.globals[g]?).map (·.type) = some t ∧ dc P 9 t d = some cs) : GlobOk G (Dw W) ∧ GlobW G W := by
  obtain ⟨k1, k2⟩ := glob_ok (G := fun g => if g = g0 then none else G g) (laid := laid) h (fun g cs hg => by
    split at hg
    · cases hg
    · rename_i hne; exact hG g cs hne hg)
  refine ⟨fun g cs hg j x hj => ?_, fun g cs hg hne => ?_⟩
  · by_cases e : g = g0
    · subst e
      rw [h0] at hg
      obtain rfl := Option.some.inj hg
      cases j with
      | zero =>
        simp at hj; subst hj
        exact ⟨.int k m, by simp only [Dw, World.cell?, hw, Option.isSome_none, Bool.false_eq_true, if_false]; exact hx, rfl⟩
      | succ j => simp at hj
    · exact k1 g cs (by show (if g = g0 then none else G g) = some cs; rw [if_neg e]; exact hg) j x hj
  · by_cases e : g = g0
    · subst e
      rw [h0] at hg
      obtain rfl := Option.some.inj hg
      exact ⟨cs0, t0, fz0, hw, by rw [hs]; rfl⟩
    · exact k2 g cs (by show (if g = g0 then none else G g) = some cs; rw [if_neg e]; exact hg) hne
end Go.Sv
end
