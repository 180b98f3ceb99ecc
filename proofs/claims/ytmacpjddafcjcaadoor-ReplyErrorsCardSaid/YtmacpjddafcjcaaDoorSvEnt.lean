/-
  Own layer 'SV': a state in another form: a row is published; a nil slice becomes a row of nothing.
-/
import Derived.Test.YtmacpjddafcjcaaDoorSvAdv
set_option linter.all false
namespace Go.Sv
open M

section
variable {Γ : Ctx} {S W : Nat → Prop} {D : Dat} {ρ : Rho} {st st' : St} {a : Act} {w : World} {kn : Nat}

theorem Ent.trans {s1 s2 s3 : St} (h : Ent kn s1 s2) (k : Ent kn s2 s3) : Ent kn s1 s3 := fun Γ a w hk hs => k Γ a w hk (h Γ a w hk hs)
theorem Ent.rfl' {s : St} : Ent kn s s := fun _ _ _ _ hs => hs

theorem sl_eqv {D : Dat} {ρ : Rho} {sz m m' : Nat} {f f' : Nat → Nat → Cell} (hm : m = m') (hf : ∀ i, i < m → ∀ j, j < sz → f i j = f' i j) {u : Value} (h : Den D ρ (.sl sz m f) u) : Den D ρ (.sl sz m' f') u := by
  subst hm
  simp only [Den] at h ⊢
  obtain ⟨ad, cap, e, h1, h2, h3⟩ := h
  refine ⟨ad, cap, e, h1, h2, h3.imp id ?_⟩
  rintro ⟨b, o, e2, h3⟩
  exact ⟨b, o, e2, fun i hi j hj => let ⟨u, hu, hd⟩ := h3 i hi j hj; ⟨u, hu, (hf i hi j hj) ▸ hd⟩⟩

theorem EqvD.sl {sz m m' : Nat} {f f' : Nat → Nat → Cell} (hm : m = m') (hf : ∀ i, i < m → ∀ j, j < sz → f i j = f' i j) : EqvD (.c (.sl sz m f)) (.c (.sl sz m' f')) :=
  fun D ρ u h => sl_eqv (ρ := ρ) hm hf h
theorem EqvI.sl {sz m m' : Nat} {f f' : Nat → Nat → Cell} : EqvI (.c (.sl sz m f)) (.c (.sl sz m' f')) := fun _ _ => trivial

/-- A cell of a box in another form. -/
theorem Sat.turnC (h : Sat Γ S W D ρ st a w) {id o : Nat} {e : TypeId} {cs : List Cell} (hb : look st.hp id = some (.box e cs)) {x : Cell} (hx : ∀ y u, cs[o]? = some y → Den D ρ y u → Den D ρ x u) (hin : x.inS S) :
    Sat Γ S W D ρ (st.set (.bk id) (.bk (.box e (setNth cs o x)))) a w := by
  have hl : ∀ k, look (st.set (.bk id) (.bk (.box e (setNth cs o x)))).hp k = if id = k then some (.box e (setNth cs o x)) else look st.hp k := fun k => look_put _ _ _ _
  have key : ∀ i c, look (st.set (.bk id) (.bk (.box e (setNth cs o x)))).hp i = some c → Live ρ i c → ∃ c0, look st.hp i = some c0 ∧ Live ρ i c0 := by
    intro i c hc lc
    rw [hl] at hc
    by_cases e' : id = i
    · exact ⟨.box e cs, by rw [← e']; exact hb, lc⟩
    · rw [if_neg e'] at hc; exact ⟨c, hc, lc⟩
  refine { h with tm := h.tm, hp := ?_, inj := ?_, sep := ?_, own := ?_, idT := h.idT, idH := ?_ }
  · intro k c hc
    rw [hl] at hc
    by_cases e' : id = k
    · subst e'
      rw [if_pos rfl] at hc
      simp only [Option.some.injEq] at hc
      subst hc
      obtain ⟨h0, vs, fz, q1, q2, q3, q4⟩ := h.hp id _ hb
      refine ⟨h0, vs, fz, q1, by rw [setNth_eq, List.length_set]; exact q2, q3, fun j y hj => ?_⟩
      rw [setNth_eq, List.getElem?_set] at hj
      by_cases ho : o = j
      · subst ho
        rw [if_pos rfl] at hj
        split at hj
        · simp only [Option.some.injEq] at hj
          subst hj
          rename_i hlt
          obtain ⟨u, hu, hd⟩ := q4 o _ (by simp [hlt] : cs[o]? = some cs[o])
          exact ⟨u, hu, hx _ _ (by simp [hlt]) hd⟩
        · cases hj
      · rw [if_neg ho] at hj
        exact q4 j y hj
    · rw [if_neg e'] at hc; exact h.hp k c hc
  · intro i j bi bj hi hj li lj hij
    obtain ⟨ci, hi, li⟩ := key i bi hi li
    obtain ⟨cj, hj, lj⟩ := key j bj hj lj
    exact h.inj i j ci cj hi hj li lj hij
  · intro i c hc lc
    obtain ⟨c0, hc0, l0⟩ := key i c hc lc
    exact h.sep i c0 hc0 l0
  · intro i c hc lc
    obtain ⟨c0, hc0, l0⟩ := key i c hc lc
    exact h.own i c0 hc0 l0
  · intro i c hc
    rw [hl] at hc
    by_cases e' : id = i
    · subst e'
      rw [if_pos rfl] at hc
      simp only [Option.some.injEq] at hc
      subst hc
      obtain ⟨i1, i2⟩ := h.idH id _ hb
      refine ⟨i1, fun j y hj => ?_⟩
      rw [setNth_eq, List.getElem?_set] at hj
      split at hj
      · split at hj
        · simp only [Option.some.injEq] at hj; subst hj; exact hin
        · cases hj
      · exact i2 j y hj
    · rw [if_neg e'] at hc; exact h.idH i c hc

theorem Ent.pubT {id t off m m' sz n : Nat} {e : TypeId} {f f' : Nat → Nat → Cell} (h1 : look st.hp id = some (.row e sz n f)) (h2 : look st.tm t = some (.v (.c (.row sz id off m)))) (hle : off + m ≤ n)
    (hm : m = m') (hf : ∀ i, i < m → ∀ j, j < sz → f (off + i) j = f' i j) (hfl : ∀ i, i < n → ∀ j, j < sz → (f i j).flat = true)
    (he : (st.set (.bk id) .gone).set (.tm t) (.tv (.v (.c (.sl sz m' f')))) = st') : Ent kn st st' := by
  subst he
  intro Γ a w hk ⟨D, ρ, h⟩
  obtain ⟨u, hu, hd⟩ := h.tm t _ h2
  obtain ⟨D', hle', h3, hp⟩ := h.publish h1 hfl
  exact ⟨D', ρ, h3.turn (fun u' hu' => by
    rw [hu] at hu'
    simp only [Option.some.injEq] at hu'
    subst hu'
    exact Den.flat (ρ := rho0) rfl (sl_eqv hm hf (hp u off m hle hd))) trivial ⟨u, hu⟩⟩

theorem Ent.pubC {id b o off m m' sz n : Nat} {e e' : TypeId} {cs : List Cell} {f f' : Nat → Nat → Cell} (h1 : look st.hp id = some (.row e sz n f)) (h2 : look st.hp b = some (.box e' cs)) (h3 : cs[o]? = some (.row sz id off m)) (hle : off + m ≤ n)
    (hm : m = m') (hf : ∀ i, i < m → ∀ j, j < sz → f (off + i) j = f' i j) (hfl : ∀ i, i < n → ∀ j, j < sz → (f i j).flat = true)
    (he : (st.set (.bk id) .gone).set (.bk b) (.bk (.box e' (setNth cs o (.sl sz m' f')))) = st') : Ent kn st st' := by
  subst he
  intro Γ a w hk ⟨D, ρ, h⟩
  obtain ⟨D', hle', hs, hp⟩ := h.publish h1 hfl
  have hne : id ≠ b := by rintro rfl; rw [h1] at h2; cases h2
  have hb : look (st.set (.bk id) .gone).hp b = some (.box e' cs) := by
    show look (del st.hp id) b = _
    rw [look_del, if_neg hne]; exact h2
  refine ⟨D', ρ, hs.turnC hb (fun y u hy hd => ?_) trivial⟩
  rw [h3] at hy
  simp only [Option.some.injEq] at hy
  subst hy
  have hd0 : Den D ρ (.row sz id off m) u := by simp only [Den] at hd ⊢; exact hd
  exact Den.flat (ρ := rho0) rfl (sl_eqv hm hf (hp u off m hle hd0))

/-- A nil slice is a row of nothing. -/
theorem Ent.empT {t sz : Nat} {e : TypeId} {f : Nat → Nat → Cell} (hsz : 0 < sz) (h2 : look st.tm t = some (.v (.c .nilsl)))
    (he : (({ st with nx := st.nx + 16 } : St).set (.bk st.nx) (.bk (.row e sz 0 f))).set (.tm t) (.tv (.v (.c (.row sz st.nx 0 0)))) = st') : Ent kn st st' := by
  subst he
  intro Γ a w hk ⟨D, ρ, h⟩
  obtain ⟨u, hu, hd⟩ := h.tm t _ h2
  have hd : u = .slice none 0 0 := hd
  have hfr : Fresh (fun id => id < st.nx) st.nx := fun id h1 h2 h3 => by omega
  have hrn : rhoSet ρ st.nx (0, 0) st.nx = (0, 0) := by simp [rhoSet]
  have hal := h.alias (nid := st.nx) (p := (0, 0)) (b := .row e sz 0 f) hfr (.inl ⟨by rw [hrn], rfl, hsz⟩) (fun i hi => by omega) (fun hh => (hh rfl).elim)
  have hal := hal.turn (t := t) (v' := .v (.c (.row sz st.nx 0 0))) (fun u' hu' => by
    rw [hu] at hu'
    simp only [Option.some.injEq] at hu'
    subst hu' hd
    exact .inr ⟨by rw [hrn], rfl, rfl, none, .inl rfl, rfl⟩) (.inr ⟨Nat.le_refl _, by omega⟩) ⟨u, hu⟩
  have hal := hal.mono (S' := fun i => i < st.nx + 16) (W' := fun _ => False) (fun i hi => by show i < st.nx + 16; rcases hi with hi | hi <;> omega) (fun _ h => h)
  refine ⟨D, rhoSet ρ st.nx (0, 0), Sat.congr (fun k => ?_) (fun k => ?_) hal⟩
  · rfl
  · rfl

theorem Ent.empC {b o sz : Nat} {e e' : TypeId} {cs : List Cell} {f : Nat → Nat → Cell} (hsz : 0 < sz) (hlt : b < st.nx) (h2 : look st.hp b = some (.box e' cs)) (h3 : cs[o]? = some .nilsl)
    (he : (({ st with nx := st.nx + 16 } : St).set (.bk st.nx) (.bk (.row e sz 0 f))).set (.bk b) (.bk (.box e' (setNth cs o (.row sz st.nx 0 0)))) = st') : Ent kn st st' := by
  subst he
  intro Γ a w hk ⟨D, ρ, h⟩
  have hfr : Fresh (fun id => id < st.nx) st.nx := fun id h1 h2 h3 => by omega
  have hrn : rhoSet ρ st.nx (0, 0) st.nx = (0, 0) := by simp [rhoSet]
  have hal := h.alias (nid := st.nx) (p := (0, 0)) (b := .row e sz 0 f) hfr (.inl ⟨by rw [hrn], rfl, hsz⟩) (fun i hi => by omega) (fun hh => (hh rfl).elim)
  have hb : look (st.set (.bk st.nx) (.bk (.row e sz 0 f))).hp b = some (.box e' cs) := by
    show look (put st.hp st.nx _) b = _
    rw [look_put, if_neg (by omega)]; exact h2
  have hal := hal.turnC (o := o) (x := .row sz st.nx 0 0) hb (fun y u hy hd => by
    rw [h3] at hy
    simp only [Option.some.injEq] at hy
    subst hy
    have hd : u = .slice none 0 0 := hd
    subst hd
    exact .inr ⟨by rw [hrn], rfl, rfl, none, .inl rfl, rfl⟩) (.inr ⟨Nat.le_refl _, by omega⟩)
  have hal := hal.mono (S' := fun i => i < st.nx + 16) (W' := fun _ => False) (fun i hi => by show i < st.nx + 16; rcases hi with hi | hi <;> omega) (fun _ h => h)
  refine ⟨D, rhoSet ρ st.nx (0, 0), Sat.congr (fun k => ?_) (fun k => ?_) hal⟩
  · rfl
  · rfl
end
end Go.Sv
