/-
  Own layer 'SV': from a row's readings to a contract's premises, and from a contract to what a row asks.
-/
import Derived.Test.YtmacpjddafcjcaaDoorSvBytes
import Derived.ChangeSame
import Derived.RowKit3
import Derived.Lib.LaidTab
import GoSem.ClaimJoined
import Derived.OpenShut
import Derived.ChangeArms
set_option linter.all false
namespace Go.Sv
open M

/-- All that a world holds, as data that stands for ever. -/
def Dw (w : World) : Dat := fun b o => w.cell? ⟨b, o, none⟩
theorem Dw.agree (w : World) : Agree (Dw w) w := fun _ _ _ h => h

/-! data as cells -/
def dcFs {H : Type} (P : Program) (rec : TypeId → DataW H → Option (List Cell)) : Nat → List Field → List (DataW H) → Option (List Cell)
  | _, [], [] => some []
  | pos, f :: fs, d :: ds => match Nat.beq f.offset pos, rec f.type d with
    | true, some l => match Nat.beq (len l) (P.cellsOf f.type), dcFs P rec (pos + len l) fs ds with
      | true, some r => some (l ++ r)
      | _, _ => none
    | _, _ => none
  | _, _, _ => none
def dcAr {H : Type} (sz : Nat) (rec : DataW H → Option (List Cell)) : List (DataW H) → Option (List Cell)
  | [] => some []
  | d :: ds => match rec d, dcAr sz rec ds with
    | some l, some r => match Nat.beq (len l) sz with
      | true => some (l ++ r)
      | false => none
    | _, _ => none
def dc {H : Type} (P : Program) : Nat → TypeId → DataW H → Option (List Cell)
  | 0, _, _ => none
  | n + 1, t, d => match P.underlying t, d with
    | some .bool, .lit (.bool b) => some [.bool b]
    | some (.int _), .lit (.int k z) => some [.int k z]
    | some .string, .lit (.string s) => some [.str s]
    | some (.slice _), .nil => some [.nilsl]
    | some (.struct fs), .agg parts => match dcFs P (dc P n) 0 fs.toList parts with
      | some l => match Nat.beq (len l) (P.cellsOf t) with
        | true => some l
        | false => none
      | none => none
    | some (.array m e), .agg parts => match dcAr (P.cellsOf e) (dc P n e) parts with
      | some l => match Nat.beq (len l) (P.cellsOf t) with
        | true => some l
        | false => none
      | none => none
    | _, _ => none

def RelAt (D : Dat) (cs : List Value) (pos : Nat) (l : List Cell) : Prop := ∀ (j : Nat) (x : Cell), l[j]? = some x → ∃ u, cs[pos + j]? = some u ∧ Den D rho0 x u
theorem RelAt.one {D : Dat} {v : Value} {x : Cell} (h : Den D rho0 x v) : RelAt D [v] 0 [x] := by
  intro j y hj
  cases j with
  | zero => simp at hj; subst hj; exact ⟨v, by simp, h⟩
  | succ j => simp at hj
theorem RelAt.app {D : Dat} {cs : List Value} {pos : Nat} {l r : List Cell} (h : RelAt D cs pos l) (k : RelAt D cs (pos + l.length) r) : RelAt D cs pos (l ++ r) := by
  intro j x hj
  rw [List.getElem?_append] at hj
  split at hj
  · exact h j x hj
  · obtain ⟨u, hu, hd⟩ := k _ x hj
    exact ⟨u, by rw [← hu]; congr 1; omega, hd⟩
theorem RelAt.part {D : Dat} {cs : List Value} {pos sz : Nat} {l : List Cell} (hl : l.length = sz) (h : RelAt D ((cs.drop pos).take sz) 0 l) : RelAt D cs pos l := by
  intro j x hj
  obtain ⟨u, hu, hd⟩ := h j x hj
  have hjl : j < sz := by
    rw [← hl]
    rcases Nat.lt_or_ge j l.length with h | h
    · exact h
    · simp [List.getElem?_eq_none h] at hj
  refine ⟨u, ?_, hd⟩
  rw [Nat.zero_add, List.getElem?_take, if_pos hjl, List.getElem?_drop] at hu
  exact hu

theorem dc_den {H : Type} {enc : TypeId × Value → H} {P : Program} {w : World} {base : Nat} {sp : Nat → Bool} {held : Bool} {D : Dat} :
    ∀ (n fuel : Nat) (t : TypeId) (cs : List Value) (d : DataW H) (p : List MemPlace) (l : List Cell), DataW.trod enc P w base sp held fuel t cs = some (d, p) → dc P n t d = some l → cs.length = l.length ∧ RelAt D cs 0 l := by
  intro n
  induction n with
  | zero => intro fuel t cs d p l _ h; simp [dc] at h
  | succ n ih =>
    intro fuel t cs d p l ht hd
    simp only [dc] at hd
    split at hd
    · rename_i b hu
      simp only [Option.some.injEq] at hd
      subst hd
      obtain ⟨b', rfl, e⟩ := DataW.trod_bool hu ht
      simp only [Prod.mk.injEq, DataW.lit.injEq, Lit.bool.injEq] at e
      obtain ⟨rfl, _⟩ := e
      exact ⟨rfl, RelAt.one rfl⟩
    · rename_i k k' z hu
      simp only [Option.some.injEq] at hd
      subst hd
      obtain ⟨z', rfl, e, _⟩ := DataW.trod_int hu ht
      simp only [Prod.mk.injEq, DataW.lit.injEq, Lit.int.injEq] at e
      obtain ⟨⟨rfl, rfl⟩, _⟩ := e
      exact ⟨rfl, RelAt.one rfl⟩
    · rename_i s hu
      simp only [Option.some.injEq] at hd
      subst hd
      obtain ⟨s', rfl, e, _⟩ := DataW.trod_string hu ht
      simp only [Prod.mk.injEq, DataW.lit.injEq, Lit.string.injEq] at e
      obtain ⟨rfl, _⟩ := e
      exact ⟨rfl, RelAt.one (by simp [Den])⟩
    · rename_i el hu
      simp only [Option.some.injEq] at hd
      subst hd
      rcases DataW.trod_slice hu ht with ⟨rfl, _⟩ | ⟨_, _, _, _, _, _, _, _, e, _⟩
      · exact ⟨rfl, RelAt.one rfl⟩
      · simp at e
    · rename_i fs parts hu
      obtain ⟨xs, m, rfl, e, hlen, hxl, hx⟩ := DataW.trod_struct hu ht
      simp only [Prod.mk.injEq, DataW.agg.injEq] at e
      obtain ⟨rfl, _⟩ := e
      have gen : ∀ (fl : List Field) (ys : List (DataW H × List MemPlace)) (pos : Nat) (r : List Cell), (∀ (i : Nat) (f : Field), fl[i]? = some f → DataW.trod enc P w base sp held m f.type ((cs.drop f.offset).take (P.cellsOf f.type)) = ys[i]?) →
          dcFs P (dc P n) pos fl (ys.map (·.1)) = some r → RelAt D cs pos r := by
        intro fl
        induction fl with
        | nil =>
          intro ys pos r hy hr
          cases ys with
          | nil => simp only [List.map_nil, dcFs, Option.some.injEq] at hr; subst hr; intro j x hj; simp at hj
          | cons y ys => simp [dcFs] at hr
        | cons f fl ihf =>
          intro ys pos r hy hr
          cases ys with
          | nil => simp [dcFs] at hr
          | cons y ys =>
            simp only [List.map_cons, dcFs] at hr
            split at hr
            · rename_i l1 e1 e2
              split at hr
              · rename_i r1 e3 e4
                simp only [Option.some.injEq] at hr
                subst hr
                have e1 := (beq_eq _ _).1 e1
                have e3 := (beq_eq _ _).1 e3
                rw [len_eq] at e3 e4
                have h0 := hy 0 f (by simp)
                simp only [List.getElem?_cons_zero] at h0
                obtain ⟨q1, q2⟩ := ih m f.type _ y.1 y.2 l1 h0 e2
                subst e1
                exact (RelAt.part e3 q2).app (ihf ys _ r1 (fun i g hg => by have := hy (i + 1) g (by simpa using hg); simpa using this) e4)
              · cases hr
            · cases hr
      split at hd
      · rename_i l1 e1
        split at hd
        · rename_i e2
          simp only [Option.some.injEq] at hd
          subst hd
          have e2 := (beq_eq _ _).1 e2
          rw [len_eq] at e2
          exact ⟨by rw [hlen, e2], gen fs.toList xs 0 l1 (fun i f hf => hx i f (by simpa using hf)) e1⟩
        · cases hd
      · cases hd
    · rename_i m0 e0 parts hu
      obtain ⟨xs, m, rfl, e, hlen, hxl, hx⟩ := DataW.trod_array hu ht
      simp only [Prod.mk.injEq, DataW.agg.injEq] at e
      obtain ⟨rfl, _⟩ := e
      have gen : ∀ (ys : List (DataW H × List MemPlace)) (k : Nat) (r : List Cell), (∀ i, i < ys.length → DataW.trod enc P w base sp held m e0 ((cs.drop ((k + i) * P.cellsOf e0)).take (P.cellsOf e0)) = ys[i]?) →
          dcAr (P.cellsOf e0) (dc P n e0) (ys.map (·.1)) = some r → RelAt D cs (k * P.cellsOf e0) r := by
        intro ys
        induction ys with
        | nil => intro k r _ hr; simp only [List.map_nil, dcAr, Option.some.injEq] at hr; subst hr; intro j x hj; simp at hj
        | cons y ys ihy =>
          intro k r hy hr
          simp only [List.map_cons, dcAr] at hr
          split at hr
          · rename_i l1 r1 e1 e2
            split at hr
            · rename_i e3
              simp only [Option.some.injEq] at hr
              subst hr
              have e3 := (beq_eq _ _).1 e3
              rw [len_eq] at e3
              have h0 := hy 0 (by simp)
              simp only [List.getElem?_cons_zero, Nat.add_zero] at h0
              obtain ⟨q1, q2⟩ := ih m e0 _ y.1 y.2 l1 h0 e1
              refine (RelAt.part e3 q2).app ?_
              have := ihy (k + 1) r1 (fun i hi => by have := hy (i + 1) (by simpa using hi); rw [show k + 1 + i = k + (i + 1) from by omega]; simpa using this) e2
              rw [Nat.add_mul, Nat.one_mul] at this
              rw [e3]; exact this
            · cases hr
          · cases hr
      split at hd
      · rename_i l1 e1
        split at hd
        · rename_i e2
          simp only [Option.some.injEq] at hd
          subst hd
          have e2 := (beq_eq _ _).1 e2
          rw [len_eq] at e2
          refine ⟨by rw [hlen, e2], ?_⟩
          have := gen xs 0 l1 (fun i hi => by rw [Nat.zero_add]; exact hx i (by omega)) e1
          rw [Nat.zero_mul] at this
          exact this
        · cases hd
      · cases hd
    · cases hd

/-! listed tables -/
theorem laid_get {P : Program} {w : World} : ∀ {laid : List (String × DataW Unit)} {ps : List MemPlace}, DataW.LaidVars P w laid ps → ∀ n d, (n, d) ∈ laid →
    ∃ g t cs fuel p, P.globalNamed n = some g ∧ (P.globals[g]?).map (·.type) = some t ∧ w.var? P n = some cs ∧ DataW.trod (fun _ => ()) P w 0 (fun _ => true) false fuel t cs.toList = some (d, p)
  | [], _, _, n, d, h => by simp at h
  | (n0, d0) :: r, ps, ⟨g, t, cs, fuel, p, q, h1, h2, h3, h4, h5, _⟩, n, d, h => by
    rcases List.mem_cons.1 h with h | h
    · simp only [Prod.mk.injEq] at h
      obtain ⟨rfl, rfl⟩ := h
      exact ⟨g, t, cs, fuel, p, h1, h2, h3, h4⟩
    · exact laid_get h5 n d h

theorem glob_ok {P : Program} {G : Nat → Option (List Cell)} {W : World} {laid : List (String × DataW Unit)} (h : laidMet P laid W)
    (hG : ∀ g cs, G g = some cs → ∃ n d t, (n, d) ∈ laid ∧ P.globalNamed n = some g ∧ (P.globals[g]?).map (·.type) = some t ∧ dc P 9 t d = some cs) : GlobOk G (Dw W) ∧ GlobW G W := by
  obtain ⟨ps, hl, _⟩ := h
  have key : ∀ g cs, G g = some cs → ∃ arr e fz, W.heap[g]? = some (.cells arr e fz) ∧ arr.size = cs.length ∧ ∀ (j : Nat) (x : Cell), cs[j]? = some x → ∃ u, arr[j]? = some u ∧ Den (Dw W) rho0 x u := by
    intro g cs hg
    obtain ⟨n, d, t, hm, h1, h2, h3⟩ := hG g cs hg
    obtain ⟨g', t', arr, fuel, p, q1, q2, q3, q4⟩ := laid_get hl n d hm
    rw [h1] at q1
    obtain rfl := Option.some.inj q1
    rw [h2] at q2
    obtain rfl := Option.some.inj q2
    obtain ⟨r1, r2⟩ := dc_den (D := Dw W) 9 fuel t arr.toList d p cs q4 h3
    have q3' := q3
    simp only [World.var?, h1, Option.bind_some] at q3
    split at q3
    · rename_i c e fz hc
      simp only [Option.some.injEq] at q3
      subst q3
      refine ⟨c, e, fz, hc, by simpa using r1, fun j x hj => ?_⟩
      obtain ⟨u, hu, hd⟩ := r2 j x hj
      exact ⟨u, by simpa using hu, hd⟩
    · cases q3
  refine ⟨fun g cs hg j x hj => ?_, fun g cs hg _ => ?_⟩
  · obtain ⟨arr, e, fz, h1, _, h3⟩ := key g cs hg
    obtain ⟨u, hu, hd⟩ := h3 j x hj
    exact ⟨u, by simp only [Dw, World.cell?, h1, Option.isSome_none, Bool.false_eq_true, if_false]; exact hu, hd⟩
  · obtain ⟨arr, e, fz, h1, h2, _⟩ := key g cs hg
    exact ⟨arr, e, fz, h1, h2⟩

/-! what a law's call leaves -/
structure Kept (W W' : World) : Prop where
  heap : ∀ b, b < W.heap.size → W'.heap[b]? = W.heap[b]?
  os : W'.os = W.os
  output : W'.output = W.output
  size : W.heap.size ≤ W'.heap.size
theorem Kept.but {W W' : World} (h : Kept W W') (may : MemPlace → Prop) : W.keptBut W' may := by
  refine ⟨h.os, h.output, fun i hi => ?_⟩
  rw [h.heap i hi]
  cases hh : W.heap[i]? with
  | none => trivial
  | some o => cases o <;> first | exact ⟨rfl, rfl, rfl, fun _ _ => rfl⟩ | exact .inr ⟨rfl, rfl⟩ | rfl
theorem Kept.frozen {W W' : World} (h : Kept W W') {a : Addr} (ha : a.block < W.heap.size) : W'.frozen? a = W.frozen? a := by
  simp only [World.frozen?, h.heap _ ha]

theorem law_run {P : Program} {G : Nat → Option (List Cell)} {f : FuncId} {args rs : List V1} (h : Pur P G f args rs) {W : World} {ρ : Rho} {vs : Array Value} (hd : DenL (Dw W) ρ args vs) (h1 : GlobOk G (Dw W)) (h2 : GlobW G W) :
    Calls P f vs W fun e W' => ∃ v D' ρ', e = .returned v ∧ ResDen D' ρ' rs v ∧ Kept W W' := by
  refine (h (Dw W) ρ W vs hd h1 h2 (Dw.agree W) (by intro i b hb; simp at hb) (by intro i j bi bj hi; simp at hi)).mono fun e W' => ?_
  rintro ⟨rs', hout, D', ρ', v, rfl, ⟨rfl, rfl⟩, hr, _, ha⟩
  exact ⟨v, D', ρ', rfl, hr, ⟨fun b hb => ha.frame b hb (fun i hi => absurd hi (Nat.not_lt_zero i)), ha.os, ha.output, ha.grow⟩⟩

section
open Go.ChangeShapes
variable {H : Type} {enc : TypeId × Value → H} {P : Program}
theorem post_of_kept {f : Func} {s : ChangeSpec} {apart fresh handsOn again : Bool} {W W' : World} {args : Array Value} {v : Value} {ds gs : List (DataW H)} {before pa pv : List MemPlace}
    (hW : DataW.Whole enc P f.params.toList s.vars apart W args.toList ds gs before)
    (hres : ∀ (b : Nat) (sp : Nat → Bool) (hd : Bool), DataW.TrodAll enc P W' b sp hd f.resultTypes.toList (v.resultList f.resultTypes.size) (s.fn H (ds ++ gs)).results [])
    (hargs : ∀ sp : Nat → Bool, (∀ p ∈ before, sp p.block = true) → DataW.TrodAll enc P W' 0 sp true f.params.toList args.toList (s.fn H (ds ++ gs)).args pa)
    (hvars : ∀ sp : Nat → Bool, (∀ p ∈ before, sp p.block = true) → DataW.TrodVars enc P W' sp s.vars (s.fn H (ds ++ gs)).vars pv)
    (hps : before = pa ++ pv) (hk : Kept W W')
    (hok : ∀ (j : Nat) (t : TypeId) (r : Value), f.resultTypes[j]? = some t → (v.resultList f.resultTypes.size)[j]? = some r → Value.okWide P W' .any 0 t r) :
    s.post enc P f apart fresh handsOn again W args v W' := by
  have hold : ∀ p ∈ before, (fun b => decide (b < W.heap.size)) p.block = true := fun p hp => by simpa using hW.lt p hp
  have hlt : ∀ p ∈ before, p.block < W.heap.size := fun p hp => hW.lt p hp
  refine ⟨ds, gs, before, [], pa, pv, hW, hres _ _ _, hargs _ hold, hvars _ hold, World.keptBut_mono (fun p hp => ⟨hp, ?_⟩) (hk.but (· ∈ before)), fun _ => ?_⟩
  · rw [hps, List.mem_append] at hp
    exact Or.inr hp
  · obtain ⟨_, _, _, _, _, hz, hn⟩ := hW
    refine ⟨hok, _, _, ([] ++ pa) ++ pv, ⟨[] ++ pa, pv, trodAll_append (hargs _ (fun _ _ => rfl)) (hres _ _ _), hvars _ (fun _ _ => rfl), rfl, ?_, ?_⟩, ?_⟩
    · intro b off hp
      have hb : MemPlace.cell b off ∈ before := by rw [hps]; simpa using hp
      rw [hk.frozen (a := ⟨b, off, none⟩) (hlt _ hb)]
      exact hz b off hb
    · intro ha
      have := hn ha
      rw [hps] at this
      simpa using this
    · intro p hp _
      rw [hps]
      simpa using hp
end
end Go.Sv
