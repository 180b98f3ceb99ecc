/- Own texts for this claim: SvKeep, SvRead. -/
import Derived.Test.YtmacpjddafcjcaaGreatDoorPushCheckCardP3
import Derived.ChangeSlices
set_option linter.all false

section
/-
  Own layer 'SV' (30): what has been read reads so in a later world.
-/
namespace Go.Sv

theorem mapM_keep {α β : Type} {f g : α → Option β} : ∀ {l : List α} {ys : List β}, l.mapM f = some ys → (∀ x ∈ l, ∀ y, f x = some y → y ∈ ys → g x = some y) → l.mapM g = some ys
  | [], ys, h, _ => by simpa using h
  | x :: l, ys, h, hg => by
    rw [List.mapM_cons] at h ⊢
    cases hx : f x with
    | none => rw [hx] at h; cases h
    | some y =>
      rw [hx] at h
      cases hl : l.mapM f with
      | none => rw [hl] at h; cases h
      | some zs =>
        rw [hl] at h
        obtain rfl : y :: zs = ys := by simpa using h
        rw [hg x (by simp) y hx (by simp), mapM_keep hl (fun u hu v hv hm => hg u (by simp [hu]) v hv (by simp [hm]))]
        rfl
theorem cell_keep {W W' : World} (hk : ∀ b, b < W.heap.size → W'.heap[b]? = W.heap[b]?) {a : Addr} {v : Value} (h : W.cell? a = some v) : W'.cell? a = some v := by
  have hb : a.block < W.heap.size := by
    rcases Nat.lt_or_ge a.block W.heap.size with hlt | hge
    · exact hlt
    · simp [World.cell?, Array.getElem?_eq_none hge] at h
  simp only [World.cell?, hk _ hb] at h ⊢
  exact h
theorem cells_keep {W W' : World} (hk : ∀ b, b < W.heap.size → W'.heap[b]? = W.heap[b]?) {base : Nat} {a : Addr} {n : Nat} {l : List Value} (h : W.cells? base a n = some l) : W'.cells? base a n = some l := by
  unfold World.cells? at h ⊢
  split at h
  · rename_i hb
    rw [if_pos hb]
    exact mapM_keep h (fun x _ y hy _ => cell_keep hk hy)
  · cases h

/-- Types that lead to no others, and to no slices of nothing. -/
def stepT (P : Program) (S : TypeId → Bool) (t : TypeId) : Bool := match P.underlying t with
  | some (.slice e) => !(Nat.beq (P.cellsOf e) 0) && S e
  | some (.pointer e) => S e
  | some (.struct fs) => fs.toList.all fun f => S f.type
  | some (.array _ e) => S e
  | some (.map _ e) => S e
  | _ => true
def inL (l : List TypeId) (t : TypeId) : Bool := l.any fun u => Nat.beq u t
def closedT (P : Program) (l : List TypeId) : Bool := l.all (stepT P (inL l))
theorem closed_step {P : Program} {l : List TypeId} (h : closedT P l = true) {t : TypeId} (ht : inL l t = true) : stepT P (inL l) t = true := by
  obtain ⟨u, hu, e⟩ := List.any_eq_true.1 ht
  obtain rfl : u = t := Nat.eq_of_beq_eq_true e
  exact List.all_eq_true.1 h u hu
theorem trod_keep {H : Type} {enc : TypeId × Value → H} {P : Program} {W W' : World} {base : Nat} {sp sp' : Nat → Bool} {l : List TypeId} (hk : ∀ b, b < W.heap.size → W'.heap[b]? = W.heap[b]?)
    (hz : closedT P l = true) (hsp : ∀ b, sp b = true) : ∀ (fuel : Nat) (t : TypeId) (cs : List Value) (d : DataW H) (p : List MemPlace), inL l t = true → DataW.trod enc P W base sp true fuel t cs = some (d, p) →
      (∀ q ∈ p, sp' q.block = true) → DataW.trod enc P W' base sp' true fuel t cs = some (d, p) := by
  intro fuel
  induction fuel with
  | zero => intro t cs d p _ h; simp [DataW.trod] at h
  | succ fuel ih =>
    intro t cs d p hin h hs
    have hst := closed_step hz hin
    unfold stepT at hst
    unfold DataW.trod at h ⊢
    generalize hu : P.underlying t = u at h hst ⊢
    split at h
    case h_6 e a =>
      simp only at hst
      rw [Option.map_eq_some_iff] at h
      obtain ⟨x, hx, he⟩ := h
      rw [Option.bind_eq_some_iff] at hx
      obtain ⟨vl, hl, hx⟩ := hx
      simp only [Prod.mk.injEq] at he
      obtain ⟨rfl, rfl⟩ := he
      simp only [cells_keep hk hl, Option.bind_some]
      rw [ih e vl x.1 x.2 hst hx (fun q hq => hs q (by simp [hq]))]
      rfl
    case h_8 e a len cap =>
      simp only [Bool.and_eq_true, Bool.not_eq_true'] at hst
      have hz : P.cellsOf e ≠ 0 := fun h0 => by rw [h0] at hst; exact absurd hst.1 (by decide)
      simp only at h ⊢
      split at h
      · rename_i hc
        rw [if_pos hc]
        rw [Option.bind_eq_some_iff] at h
        obtain ⟨elems, hel, h⟩ := h
        rw [Option.map_eq_some_iff] at h
        obtain ⟨rest, hre, he⟩ := h
        simp only [Prod.mk.injEq] at he
        obtain ⟨rfl, rfl⟩ := he
        have elemAt : ∀ (i : Nat) (y : DataW H × List MemPlace), (W.cells? base (a.add (i * P.cellsOf e)) (P.cellsOf e)).bind (DataW.trod enc P W base sp true fuel e) = some y → y ∈ elems ++ rest →
            (W'.cells? base (a.add (i * P.cellsOf e)) (P.cellsOf e)).bind (DataW.trod enc P W' base sp' true fuel e) = some y := by
          intro i y hy hm
          rw [Option.bind_eq_some_iff] at hy ⊢
          obtain ⟨vl, hl, hy⟩ := hy
          exact ⟨vl, cells_keep hk hl, ih e vl y.1 y.2 hst.2 hy (fun q hq => hs q (List.mem_append_right _ (List.mem_flatMap.2 ⟨y, hm, hq⟩)))⟩
        rw [mapM_keep hel (fun x _ y hy hm => elemAt x y hy (List.mem_append_left _ hm))]
        simp only [Option.bind_some]
        have hrest : (if sp' a.block = true then (List.range (cap - len)).mapM fun j => (W'.cells? base (a.add ((len + j) * P.cellsOf e)) (P.cellsOf e)).bind (DataW.trod enc P W' base sp' true fuel e) else some []) = some rest := by
          by_cases h0 : elems.length + rest.length = 0
          · have hr : rest = [] := List.eq_nil_of_length_eq_zero (by omega)
            have hle : elems = [] := List.eq_nil_of_length_eq_zero (by omega)
            have none0 : ∀ {f : Nat → Option (DataW H × List MemPlace)} {n : Nat} {ys : List (DataW H × List MemPlace)}, (List.range n).mapM f = some ys → ys = [] → n = 0 := by
              intro f n ys h hy
              subst hy
              cases n with
              | zero => rfl
              | succ n =>
                rw [List.range_succ_eq_map, List.mapM_cons] at h
                exfalso
                revert h
                cases f 0 with
                | none => intro h; cases h
                | some y =>
                  intro h
                  simp only [Option.bind_eq_bind, Option.bind_some] at h
                  rw [Option.bind_eq_some_iff] at h
                  obtain ⟨_, _, h⟩ := h
                  simp at h
            have hlen := none0 hel hle
            rw [if_pos (hsp _)] at hre
            have hc0 := none0 hre hr
            rw [hc0, hr]
            simp
          · have hb : sp' a.block = true := by
              have hm : (MemPlace.cell a.block (a.off + 0)) ∈ MemPlace.row a ((elems.length + rest.length) * P.cellsOf e) := by
                unfold MemPlace.row
                refine List.mem_map.2 ⟨0, List.mem_range.2 ?_, rfl⟩
                exact Nat.mul_pos (by omega) (by omega)
              exact hs _ (List.mem_append_left _ hm)
            rw [if_pos hb]
            rw [if_pos (hsp _)] at hre
            exact mapM_keep hre (fun x _ y hy hm => elemAt (len + x) y hy (List.mem_append_right _ hm))
        rw [hrest]
        rfl
      · cases h
    case h_9 fs =>
      split at h
      · rename_i hc
        rw [if_pos hc]
        rw [Option.map_eq_some_iff] at h
        obtain ⟨xs, hx, he⟩ := h
        simp only [Prod.mk.injEq] at he
        obtain ⟨rfl, rfl⟩ := he
        rw [mapM_keep hx (fun f hf y hy hm => ih _ _ y.1 y.2 (List.all_eq_true.1 hst f hf) hy (fun q hq => hs q (List.mem_flatMap.2 ⟨y, hm, hq⟩)))]
        rfl
      · cases h
    case h_10 n e =>
      split at h
      · rename_i hc
        rw [if_pos hc]
        rw [Option.map_eq_some_iff] at h
        obtain ⟨xs, hx, he⟩ := h
        simp only [Prod.mk.injEq] at he
        obtain ⟨rfl, rfl⟩ := he
        rw [mapM_keep hx (fun f _ y hy hm => ih _ _ y.1 y.2 hst hy (fun q hq => hs q (List.mem_flatMap.2 ⟨y, hm, hq⟩)))]
        rfl
      · cases h
    case h_12 ms u v => exact h
    case h_14 k e b =>
      cases hb : W.heap[b]? with
      | none => rw [hb] at h; cases h
      | some o =>
        have hlt : b < W.heap.size := by
          rcases Nat.lt_or_ge b W.heap.size with hlt | hge
          · exact hlt
          · rw [Array.getElem?_eq_none hge] at hb; cases hb
        rw [hb] at h
        rw [hk b hlt, hb]
        cases o with
        | map es clock =>
          simp only at h ⊢
          split at h
          · rename_i hc
            rw [if_pos hc]
            rw [Option.bind_eq_some_iff] at h
            obtain ⟨entries, he, h⟩ := h
            have he' : entries.flatMap (fun x => x.2) ⊆ p := by
              split at h
              · simp only [Option.some.injEq, Prod.mk.injEq] at h
                rw [← h.2]
                exact fun x hx => List.mem_cons_of_mem _ hx
              · cases h
            rw [mapM_keep (g := fun x => (keyOf P k x.key).bind fun key => if x.val.formed P e then (DataW.trod enc P W' base sp' true fuel e x.val.cells.toList).map fun y => ((key, y.1), y.2) else none) he (fun x _ y hy hm => by
              rw [Option.bind_eq_some_iff] at hy ⊢
              obtain ⟨key, hkey, hy⟩ := hy
              refine ⟨key, hkey, ?_⟩
              split at hy
              · rename_i hf
                rw [if_pos hf]
                rw [Option.map_eq_some_iff] at hy ⊢
                obtain ⟨z, hz', rfl⟩ := hy
                exact ⟨z, ih e _ z.1 z.2 hst hz' (fun q hq => hs q (he' (List.mem_flatMap.2 ⟨_, hm, hq⟩))), rfl⟩
              · cases hy)]
            exact h
          · cases h
        | _ => cases h
    all_goals exact h
/-- All arguments read as before. -/
theorem trodAll_keep {H : Type} {enc : TypeId × Value → H} {P : Program} {W W' : World} {base : Nat} {sp sp' : Nat → Bool} {l : List TypeId} (hk : ∀ b, b < W.heap.size → W'.heap[b]? = W.heap[b]?)
    (hz : closedT P l = true) (hsp : ∀ b, sp b = true) : ∀ (ts : List TypeId) (vs : List Value) (ds : List (DataW H)) (p : List MemPlace), (∀ t ∈ ts, inL l t = true) → DataW.TrodAll enc P W base sp true ts vs ds p →
      (∀ q ∈ p, sp' q.block = true) → DataW.TrodAll enc P W' base sp' true ts vs ds p
  | [], [], [], p, _, h, _ => h
  | t :: ts, v :: vs, d :: ds, p, hl, ⟨p1, q1, ⟨fuel, h1⟩, h2, e⟩, hs =>
    ⟨p1, q1, ⟨fuel, trod_keep hk hz hsp fuel t _ d p1 (hl t (by simp)) h1 (fun q hq => hs q (by rw [e]; simp [hq]))⟩, trodAll_keep hk hz hsp ts vs ds q1 (fun t ht => hl t (by simp [ht])) h2 (fun q hq => hs q (by rw [e]; simp [hq])), e⟩
/-- A row of numbers among the arguments. -/
theorem ints_den {H : Type} {enc : TypeId × Value → H} {P : Program} {W : World} {base0 base : Nat} {sp : Nat → Bool} {held : Bool} {t e : TypeId} {k : IntKind} (ht : P.underlying t = some (.slice e)) (he : P.underlying e = some (.int k)) (hc : P.cellsOf e = 1)
    {v : Value} {d : DataW H} {p : List MemPlace} (hok : Value.okWide P W .any base0 t v) (h : DataW.Trod enc P W base sp held t v d p) :
    ∃ ns : List Int, ns.length ≤ maxLen ∧ DenV (Dw W) rho0 (.c (.sl 1 ns.length (fun i _ => .int k (ns.getD i 0)))) v := by
  obtain ⟨fuel, hf⟩ := h
  obtain ⟨a0, len0, cap0, rfl⟩ := Go.WideShapes.okWide_slice ht hok
  rcases Go.ChangeShapes.open_ints ht he hc hf with ⟨hcs, _⟩ | ⟨a, len, cap, zs, hcs, _, hl, hm, hzl, _, hcell, _⟩
  · have : Value.slice a0 len0 cap0 = .slice none 0 0 := by simpa [Value.cells] using hcs
    rw [this]
    exact ⟨[], Nat.zero_le _, none, 0, rfl, Nat.le_refl _, Nat.zero_le _, .inl ⟨rfl, rfl⟩⟩
  · have hv : Value.slice a0 len0 cap0 = .slice (some a) len cap := by simpa [Value.cells] using hcs
    rw [hv] at hok ⊢
    have hsp : a.spot = none := by
      simp only [Value.okWide, ht, Cell.okWide, Cell.ok] at hok
      exact hok.2.2.2.1
    obtain ⟨b, o, spot⟩ := a
    simp only at hsp
    subst hsp
    have hle : len ≤ zs.length := by rw [hzl]; split <;> omega
    have hn : (zs.take len).length = len := by rw [List.length_take]; omega
    refine ⟨zs.take len, by rw [hn]; omega, some ⟨b, o, none⟩, cap, by rw [hn], by rw [hn]; exact hl, hm, .inr ⟨b, o, rfl, fun i hi j hj => ?_⟩⟩
    obtain rfl : j = 0 := by omega
    rw [hn] at hi
    have := hcell i (by omega)
    rw [Go.WideShapes.add_plain] at this
    refine ⟨.int k (zs.getD i 0), by unfold Dw; rw [← this]; congr 2; omega, ?_⟩
    simp only [Den]
    congr 1
    simp [List.getD, List.getElem?_take, hi]
/-- A number among the arguments. -/
theorem int_den {P : Program} {W : World} {base0 : Nat} {t : TypeId} {k : IntKind} (ht : P.underlying t = some (.int k)) {v : Value} (hok : Value.okWide P W .any base0 t v) :
    ∃ z : Int, DenV (Dw W) rho0 (.c (.int k z)) v := by
  obtain ⟨n, rfl⟩ := Go.WideShapes.okWide_int ht hok
  exact ⟨n, rfl⟩
/-- A text among the arguments. -/
theorem str_den {P : Program} {W : World} {base0 : Nat} {t : TypeId} (ht : P.underlying t = some .string) {v : Value} (hok : Value.okWide P W .any base0 t v) :
    ∃ s : List UInt8, DenV (Dw W) rho0 (.c (.str s)) v := by
  obtain ⟨s, rfl⟩ := Go.WideShapes.okWide_string ht hok
  exact ⟨s.data.toList, by cases s; simp [DenV, Den]⟩
end Go.Sv
end

section
/-
  Own layer 'SV' (31): more readings of arguments: rows of structs, structs.
-/
namespace Go.Sv

/-- A struct's cells. -/
theorem okWide_cells {P : Program} {W : World} {r : Reach} {base : Nat} {t : TypeId} {fs : Array Field} {ts : List TypeId} (ht : P.underlying t = some (.struct fs)) (hct : P.cellTypes P.depth t = some ts) (hsz : P.cellsOf t = ts.length) {v : Value} (hok : Value.okWide P W r base t v) :
    ∃ us : Array Value, v = .agg us ∧ us.size = ts.length ∧ ∀ (j : Nat) (u : Value), us[j]? = some u → ∃ tj, ts[j]? = some tj ∧ Cell.okWide P W r base tj u := by
  simp only [Value.okWide, ht] at hok
  obtain ⟨us, rfl, h2, ts', h3, _, h4⟩ := hok
  rw [hct] at h3
  obtain rfl := Option.some.inj h3
  refine ⟨us, rfl, by rw [h2, hsz], fun j u hj => ?_⟩
  obtain ⟨tj, h5, h6⟩ := h4 j u hj
  have hlt : j < us.size := by
    rcases Nat.lt_or_ge j us.size with h | h
    · exact h
    · rw [Array.getElem?_eq_none h] at hj; cases hj
  rw [Nat.mod_eq_of_lt (by omega)] at h5
  exact ⟨tj, h5, h6⟩
theorem okWide_str {P : Program} {W : World} {r : Reach} {base : Nat} {t : TypeId} {u : Value} (ht : P.underlying t = some .string) (h : Cell.okWide P W r base t u) : Value.okWide P W r base t u := by
  unfold Value.okWide; rw [ht]; exact h
theorem array7 {α : Type} {cs : Array α} (h : cs.size = 7) : ∃ c0 c1 c2 c3 c4 c5 c6, cs = #[c0, c1, c2, c3, c4, c5, c6] := by
  obtain ⟨l⟩ := cs
  match l, h with
  | [c0, c1, c2, c3, c4, c5, c6], _ => exact ⟨c0, c1, c2, c3, c4, c5, c6, rfl⟩
/-- A variable of an integer type holds some number. -/
theorem int_shape {P : Program} {w : World} {g : Nat} {t : TypeId} {zero : Array Value} {k : IntKind} (h : w.ShapedOpen P) (hg : g < P.globals.size)
    (h0 : ((begin P (fun _ _ => 0) default).world.heap[g]?).bind Obj.row? = some (zero, t)) (hz : zero.size = 1)
    (hb : P.buildable t = true) (hc : P.cellTypes P.depth t = some [t]) (hu : P.underlying t = some (.int k)) : ∃ (m : Int) (cs : Array Value) (fz : Nat × Nat), w.heap[g]? = some (.cells cs t fz) ∧ cs.size = 1 ∧ cs[0]? = some (.int k m) := by
  obtain ⟨cs, hh, hs, hr⟩ := h.1 g zero t hg h0
  obtain ⟨ts, hts, _, hall⟩ := hr hb
  rw [hc] at hts
  cases hts
  have h1 : 0 < cs.size := by omega
  obtain ⟨u, hu', hok⟩ := hall 0 cs[0] (by simp [h1])
  have : u = t := by simpa using hu'.symm
  subst this
  have hcell : cs[0]? = some cs[0] := by simp [h1]
  unfold Cell.ok at hok
  rw [hu] at hok
  cases hv : cs[0] with
  | int k' n =>
    rw [hv] at hok
    have hk : k' = k := by first | exact hok.1 | exact hok.1.symm | (simp at hok; exact hok.1) | (simp at hok; exact hok.1.symm)
    subst hk
    exact ⟨n, cs, _, hh, by omega, by rw [hcell, hv]⟩
  | _ => rw [hv] at hok; simp at hok
/-- The listed tables, and one variable that holds some number. -/
theorem glob_plus {P : Program} {G : Nat → Option (List Cell)} {W : World} {laid : List (String × DataW Unit)} {g0 : Nat} {k : IntKind} {m : Int} {cs0 : Array Value} {t0 : TypeId} {fz0 : Nat × Nat} (h : laidMet P laid W)
    (hw : W.heap[g0]? = some (.cells cs0 t0 fz0)) (hs : cs0.size = 1) (hx : cs0[0]? = some (.int k m)) (h0 : G g0 = some [.int k m])
    (hG : ∀ g cs, g ≠ g0 → G g = some cs → ∃ n d t, (n, d) ∈ laid ∧ P.globalNamed n = some g ∧ (P.globals[g]?).map (·.type) = some t ∧ dc P 9 t d = some cs) : GlobOk G (Dw W) ∧ GlobW G W := by
  obtain ⟨k1, k2⟩ := glob_ok (G := fun g => if g = g0 then none else G g) (laid := laid) h (fun g cs hg => by
    split at hg
    · cases hg
    · rename_i hne; exact hG g cs hne hg)
  refine ⟨fun g cs hg j x hj => ?_, fun g cs hg hne => ?_⟩
  · by_cases e : g = g0
    · subst e
      rw [h0] at hg
      obtain rfl := Option.some.inj hg
      cases j with
      | zero =>
        simp at hj; subst hj
        exact ⟨.int k m, by simp only [Dw, World.cell?, hw, Option.isSome_none, Bool.false_eq_true, if_false]; exact hx, rfl⟩
      | succ j => simp at hj
    · exact k1 g cs (by show (if g = g0 then none else G g) = some cs; rw [if_neg e]; exact hg) j x hj
  · by_cases e : g = g0
    · subst e
      rw [h0] at hg
      obtain rfl := Option.some.inj hg
      exact ⟨cs0, t0, fz0, hw, by rw [hs]; rfl⟩
    · exact k2 g cs (by show (if g = g0 then none else G g) = some cs; rw [if_neg e]; exact hg) hne
end Go.Sv
end
