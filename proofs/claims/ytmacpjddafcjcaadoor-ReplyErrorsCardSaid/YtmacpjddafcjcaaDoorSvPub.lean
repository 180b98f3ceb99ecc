/-
  Own layer 'SV': a row of the call's own becomes published data.
-/
import Derived.Test.YtmacpjddafcjcaaDoorSvApp
set_option linter.all false
namespace Go.Sv
open M

section
variable {Γ : Ctx} {S W : Nat → Prop} {D : Dat} {ρ : Rho} {st : St} {a : Act} {w : World} {E : Env} {i d nid : Nat} {g : OG} {eff : Eff}

/-- A row is published: what is a slice of it is a tree. -/
theorem Sat.publish (h : Sat Γ S W D ρ st a w) {id : Nat} {e : TypeId} {sz n : Nat} {f : Nat → Nat → Cell} (hb : look st.hp id = some (.row e sz n f)) (hfl : ∀ i, i < n → ∀ j, j < sz → (f i j).flat = true) :
    ∃ D', DatLe D D' ∧ Sat Γ S W D' ρ (st.set (.bk id) .gone) a w ∧ ∀ u off m, off + m ≤ n → Den D ρ (.row sz id off m) u → Den D' rho0 (.sl sz m (fun i j => f (off + i) j)) u := by
  have empty : ∀ D' u off m, (ρ id).2 = 0 → Den D ρ (.row sz id off m) u → Den D' rho0 (.sl sz m (fun i j => f (off + i) j)) u := by
    intro D' u off m h0 hd
    simp only [Den] at hd ⊢
    rcases hd with ⟨o, rfl, h1, _⟩ | ⟨_, _, rfl, ad, hsp, rfl⟩
    · have : m = 0 := by omega
      subst this
      exact ⟨_, _, rfl, by omega, by omega, .inr ⟨_, _, rfl, fun i hi => by omega⟩⟩
    · refine ⟨ad, 0, rfl, Nat.le_refl _, by omega, ?_⟩
      rcases hsp with rfl | ⟨b, o, rfl⟩
      · exact .inl ⟨rfl, rfl⟩
      · exact .inr ⟨b, o, rfl, fun i hi => by omega⟩
  by_cases h0 : (ρ id).2 = 0
  · exact ⟨D, DatLe.refl D, h.del id, fun u off m _ hd => empty D u off m h0 hd⟩
  · rcases h.hp id _ hb with hbk | ⟨vs, fz, q1, q2, q3, q4, q5, q6, q7, q8⟩
    · exact (h0 hbk.1).elim
    have hlv : Live ρ id (.row e sz n f) := h0
    have hsep := h.sep id _ hb hlv
    refine ⟨fun b o => if b = (ρ id).1 then vs[o]? else D b o, ?_, ?_, ?_⟩
    · intro b o v hv
      have : b ≠ (ρ id).1 := by rintro rfl; rw [hsep] at hv; cases hv
      simp only [this, if_false]; exact hv
    · have hle : DatLe D (fun b o => if b = (ρ id).1 then vs[o]? else D b o) := by
        intro b o v hv
        have : b ≠ (ρ id).1 := by rintro rfl; rw [hsep] at hv; cases hv
        simp only [this, if_false]; exact hv
      have key : ∀ i c, look (st.set (.bk id) .gone).hp i = some c → id ≠ i ∧ look st.hp i = some c := by
        intro i c hc
        have e : look (st.set (.bk id) .gone).hp i = if id = i then none else look st.hp i := look_del _ _ _
        rw [e] at hc
        split at hc
        · cases hc
        · exact ⟨by assumption, hc⟩
      exact { h with
        tm := fun t v hv => let ⟨u, hu, hd⟩ := h.tm t v hv; ⟨u, hu, hd.mono hle⟩
        hp := fun i b hb => (h.hp i b (key i b hb).2).mono hle
        inj := fun i j bi bj hi hj => h.inj i j bi bj (key i bi hi).2 (key j bj hj).2
        agree := by
          intro b o v hv
          have hv2 : (if b = (ρ id).1 then vs[o]? else D b o) = some v := hv
          by_cases hbb : b = (ρ id).1
          · rw [if_pos hbb] at hv2
            rw [hbb]
            simp only [World.cell?, q1, Option.isSome_none, Bool.false_eq_true, if_false]
            exact hv2
          · rw [if_neg hbb] at hv2
            exact h.agree b o v hv2
        sep := by
          intro j bj hj lj o
          obtain ⟨hne, hj⟩ := key j bj hj
          have this : (ρ j).1 ≠ (ρ id).1 := fun hh => hne (h.inj id j _ bj hb hj hlv lj hh.symm)
          show (if (ρ j).1 = (ρ id).1 then vs[o]? else D (ρ j).1 o) = none
          rw [if_neg this]
          exact h.sep j bj hj lj o
        le := h.le.trans hle
        glob := fun g cs hg j x hx => let ⟨u, hu, hd⟩ := h.glob g cs hg j x hx; ⟨u, hle _ _ _ hu, Den.mono hle _ _ _ hd⟩
        own := fun i b hb => h.own i b (key i b hb).2
        newD := by
          intro b o v hv
          have hv : (if b = (ρ id).1 then vs[o]? else D b o) = some v := hv
          by_cases hbb : b = (ρ id).1
          · subst hbb
            rcases h.own id _ hb hlv with h1 | h1
            · exact .inr (.inl h1)
            · exact .inr (.inr h1)
          · rw [if_neg hbb] at hv
            exact h.newD b o v hv
        idT := h.idT
        idH := fun i b hb => h.idH i b (key i b hb).2 }
    · intro u off m hle hd
      simp only [Den] at hd ⊢
      rcases hd with ⟨o, rfl, h1, h2⟩ | ⟨hh, _⟩
      · refine ⟨_, _, rfl, by omega, by omega, .inr ⟨_, _, rfl, fun i hi j hj => ?_⟩⟩
        have ho : o = off * sz := h2.resolve_right (by omega)
        subst ho
        obtain ⟨u, hu, hdn⟩ := q8 (off + i) (by omega) j hj
        refine ⟨u, ?_, Den.flat (hfl _ (by omega) _ hj) (Den.mono (fun b o v hv => ?_) _ _ _ hdn)⟩
        · simp only [if_true]
          rw [← hu, Nat.add_mul]
        · have : b ≠ (ρ id).1 := by rintro rfl; rw [hsep] at hv; cases hv
          simp only [this, if_false]; exact hv
      · exact (h0 hh).elim
end

/-! a slice that is built, and published at once -/
def rowFl (f : Nat → Nat → Cell) (sz : Nat) : Nat → Bool
  | 0 => true
  | n + 1 => bAnd (rowFl f sz n) (flats (upL (f n) 0 sz))
theorem rowFl_ev {f : Nat → Nat → Cell} {sz : Nat} : ∀ {n : Nat}, rowFl f sz n = true → ∀ i, i < n → ∀ j, j < sz → (f i j).flat = true
  | 0, _, i, hi, _, _ => by omega
  | n + 1, h, i, hi, j, hj => by
    obtain ⟨h1, h2⟩ := bAnd_eq h
    by_cases e : i = n
    · subst e
      exact flats_get h2 (j := j) (x := f i j) (by rw [upL_get, if_pos hj, Nat.zero_add])
    · exact rowFl_ev h1 i (by omega) j hj
def buildPubM (E : Env) (i nid : Nat) (g : OG) (d : Nat) (t : TypeId) (n : Nat) (ps : List (Nat × Operand)) : M Eff :=
  match look E.as i with
  | none => buildSlM E i nid g d t n ps
  | some v' => bind (buildSlM E i nid g d t n ps) fun e => match e.wr with
    | (_, .bk (.row _ sz m f)) :: _ => bind (guard (rowFl f sz m)) fun _ => ret ⟨[(.tm d, .tv (.v v'))], EqvI (.c (.sl sz m f)) v' :: EqvD (.c (.sl sz m f)) v' :: e.vc⟩
    | _ => fail

section
variable {Γ : Ctx} {S W : Nat → Prop} {D : Dat} {ρ : Rho} {st : St} {a : Act} {w : World} {E : Env} {i d nid : Nat} {g : OG} {eff : Eff}

/-- A slot's value in another form. -/
theorem Sat.turn (h : Sat Γ S W D ρ st a w) {t : Nat} {v' : TV} (hv : ∀ u, a.tmps[t]? = some u → DenT D ρ W a.tmps v' u) (hin : v'.inS S) (hex : ∃ u, a.tmps[t]? = some u) : Sat Γ S W D ρ (st.set (.tm t) (.tv v')) a w := by
  have hl : ∀ k, look (st.set (.tm t) (.tv v')).tm k = if t = k then some v' else look st.tm k := fun k => look_put _ _ _ _
  refine { h with tm := ?_, hp := h.hp, inj := h.inj, sep := h.sep, own := h.own, idT := ?_, idH := h.idH }
  · intro k v hk
    rw [hl] at hk
    by_cases e : t = k
    · subst e
      rw [if_pos rfl] at hk
      simp only [Option.some.injEq] at hk
      subst hk
      obtain ⟨u, hu⟩ := hex
      exact ⟨u, hu, hv u hu⟩
    · rw [if_neg e] at hk; exact h.tm k v hk
  · intro k v hk
    rw [hl] at hk
    split at hk
    · simp only [Option.some.injEq] at hk; subst hk; exact hin
    · exact h.idT k v hk

theorem buildPub_ok (hP : E.P = Γ.P) (hG : E.G = Γ.G) (h : Sat Γ S W D ρ st a w) (hfr : Fresh S nid) (hd : d < Γ.N) (hnd : ¬ W d) {t : TypeId} {n : Nat} {ps : Array (Nat × Operand)} {g : OG}
    (hf : (buildPubM E i nid g d t n ps.toList).Ev st.get eff) (hvc : ∀ p ∈ eff.vc, p) : g = none ∧ EffOk Γ S W st a w (some d) nid eff (Instr.buildSlice t n (ps.map fun (i, x) => (i, a.eval x))) := by
  have gn : ∀ {e : Eff}, (buildSlM E i nid g d t n ps.toList).Ev st.get e → g = none := by
    intro e hm
    simp only [buildSlM, ev_bind] at hm
    obtain ⟨_, h1, _⟩ := hm
    cases g with
    | none => rfl
    | some gd => simp [pure1, ev_fail] at h1
  unfold buildPubM at hf
  split at hf
  · exact ⟨gn hf, buildSl_ok hP hG h hfr hd hnd hf⟩
  · rename_i v' hv'
    simp only [ev_bind] at hf
    obtain ⟨e, he, hf⟩ := hf
    refine ⟨gn he, ?_⟩
    obtain ⟨u, w', hrun, D2, ρ2, h2⟩ := buildSl_ok hP hG h hfr hd hnd he
    have hwr : ∃ el sz m f, e.wr = [(.bk nid, .bk (.row el sz m f)), (.tm d, .tv (.v (.c (.row sz nid 0 m))))] := by
      simp only [buildSlM, ev_bind, ev_opt, ev_guard, ev_ret] at he
      obtain ⟨_, hg1, el, hel, sz, hsz, z, hz, _, hb, l, hl, rfl⟩ := he
      exact ⟨_, _, _, _, rfl⟩
    obtain ⟨el, sz, m, f, hwr⟩ := hwr
    rw [hwr] at hf h2
    simp only [ev_bind, ev_guard, ev_ret] at hf
    obtain ⟨_, hfl, rfl⟩ := hf
    have hfl := rowFl_ev hfl
    have e1 : EqvI (.c (.sl sz m f)) v' := hvc _ (by simp)
    have e2 : EqvD (.c (.sl sz m f)) v' := hvc _ (by simp)
    have hb : look (st.sets [(.bk nid, .bk (.row el sz m f)), (.tm d, .tv (.v (.c (.row sz nid 0 m))))]).hp nid = some (.row el sz m f) := by
      show look (put st.hp nid _) nid = _
      rw [look_put, if_pos rfl]
    have hda : ∃ u, (a.put (some d) u).tmps[d]? = some u := ⟨u, by rw [put_get _ _ _ _ (by rw [h.size]; exact hd), if_pos rfl]⟩
    obtain ⟨uu, hdu, hden⟩ := h2.tm d (.v (.c (.row sz nid 0 m))) (by
      show look (put _ d _) d = _
      rw [look_put, if_pos rfl])
    obtain ⟨D3, hle, h3, hpub⟩ := h2.publish hb hfl
    have hden' := hpub uu 0 m (by omega) hden
    simp only [Nat.zero_add] at hden'
    have h4 := h3.turn (t := d) (v' := .v v') (fun u2 hu2 => by
      rw [hdu] at hu2
      simp only [Option.some.injEq] at hu2
      subst hu2
      exact e2 D3 ρ2 _ (show DenV D3 ρ2 (.c (.sl sz m f)) uu from Den.flat rfl hden')) (e1 _ trivial) ⟨uu, hdu⟩
    refine ⟨u, w', hrun, D3, ρ2, Sat.congr (fun k => ?_) (fun k => ?_) h4⟩
    · show look (put st.tm d _) k = look (put (put st.tm d _) d _) k
      simp only [look_put]
      split <;> rfl
    · show look st.hp k = look (del (put st.hp nid _) nid) k
      rw [look_del, look_put]
      split
      · rename_i hk
        subst hk
        cases hh : look st.hp nid with
        | none => rfl
        | some b => exact (hfr nid (Nat.le_refl _) (by omega) (h.idH nid b hh).1).elim
      · rfl
end
end Go.Sv
