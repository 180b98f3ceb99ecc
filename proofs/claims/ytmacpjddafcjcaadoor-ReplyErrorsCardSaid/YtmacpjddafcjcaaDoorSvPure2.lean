/-
  Own layer 'SV' (6): addresses, indices, arithmetic, and the rest of the operations that leave memory alone.
-/
import Derived.Test.YtmacpjddafcjcaaDoorSvPure
set_option linter.all false
namespace Go.Sv
open M

section
variable {Γ : Ctx} {S W : Nat → Prop} {D : Dat} {ρ : Rho} {st : St} {a : Act} {w : World} {E : Env} {i d : Nat} {g : OG} {eff : Eff}

theorem cell_ev {v : V1} {c : Cell} {L : Key → Option KV} (h : (cellM v).Ev L c) : v = .c c := by
  cases v with
  | c x => simp only [cellM, ev_ret] at h; rw [h]
  | agg l => simp [cellM, ev_fail] at h
theorem int_ev {v : V1} {n : IntKind × Int} {L : Key → Option KV} (h : (intM v).Ev L n) : v = .c (.int n.1 n.2) := by
  unfold intM at h
  split at h
  · simp only [ev_ret] at h; subst h; rfl
  · simp [ev_fail] at h
theorem bool_ev {v : V1} {b : Bool} {L : Key → Option KV} (h : (boolM v).Ev L b) : v = .c (.bool b) := by
  unfold boolM at h
  split at h
  · simp only [ev_ret] at h; subst h; rfl
  · simp [ev_fail] at h

theorem field_run {P : Program} {t f : Nat} {fd : Field} (h : tField P t f = some fd) : ∃ fs, P.underlying t = some (.struct fs) ∧ fs[f]? = some fd := by
  unfold tField at h
  split at h
  · rename_i fs hu
    exact ⟨fs, hu, by rw [nth_eq] at h; simpa using h⟩
  · cases h

theorem faddr_ok (hP : E.P = Γ.P) (hG : E.G = Γ.G) (h : Sat Γ S W D ρ st a w) (hg : GdOk W g a) (hd : d < Γ.N) (hnd : ¬ W d) {t : TypeId} {x : Operand} {f : Nat}
    (hf : (faddrM E i g d t x f).Ev st.get eff) (hvc : ∀ p ∈ eff.vc, p) : PureOk Γ S W D ρ st a w g d eff (Instr.fieldAt t (a.eval x) f) := by
  simp only [faddrM, ev_bind, ev_opt, ev_guard] at hf
  obtain ⟨v, hv, c, hc, fd, hfd, sz, hsz, _, hpos, hf⟩ := hf
  have hc := cell_ev hc
  subst hc
  rw [hP] at hfd hsz
  obtain ⟨fs, hu, hfs⟩ := field_run hfd
  have hpos : sz ≠ 0 := by
    intro e; subst e; exact absurd hpos (by decide)
  have hS := opd_inS hG h hv
  have run : ∀ b o, a.eval x = .pointer (some ⟨b, o, none⟩) → (Instr.fieldAt t (a.eval x) f).run Γ.P w = .ok (.pointer (some ⟨b, o + fd.offset, none⟩)) w := by
    intro b o e
    simp [Instr.fieldAt, e, Instr.sureAddr, under_run hu, hfs, fieldPlace, tSize_run hsz, hpos, addr_add]
  cases c with
  | ptr id off =>
    refine fin_ok h hg hd hnd hf hvc hS (fun he _ => ?_)
    exact ⟨_, run _ _ (opd_den hG h hg he hv), rfl⟩
  | dp m k =>
    simp only [ev_bind, ev_guard] at hf
    obtain ⟨_, hle, hf⟩ := hf
    have hle := Nat.le_of_ble_eq_true hle
    refine fin_ok h hg hd hnd hf hvc trivial (fun he _ => ?_)
    obtain ⟨b, o, e, hcl⟩ := opd_den hG h hg he hv
    refine ⟨_, run _ _ e, b, o + fd.offset, rfl, fun j hj => ?_⟩
    obtain ⟨u, hu, hdd⟩ := hcl (fd.offset + j) (by omega)
    exact ⟨u, by rw [← hu, Nat.add_assoc], hdd⟩
  | rp s id e o =>
    refine fin_ok h hg hd hnd hf hvc hS (fun he _ => ?_)
    refine ⟨_, run _ _ (opd_den hG h hg he hv), ?_⟩
    simp only [DenV, Den, Nat.add_assoc]
  | _ => simp [ev_fail] at hf

theorem iaddr_ok (hP : E.P = Γ.P) (hG : E.G = Γ.G) (h : Sat Γ S W D ρ st a w) (hg : GdOk W g a) (hd : d < Γ.N) (hnd : ¬ W d) {t : TypeId} {x y : Operand}
    (hf : (iaddrM E i g d t x y).Ev st.get eff) (hvc : ∀ p ∈ eff.vc, p) : PureOk Γ S W D ρ st a w g d eff (Instr.indexAt t (a.eval x) (a.eval y)) := by
  simp only [iaddrM, ev_bind] at hf
  obtain ⟨v, hv, c, hc, vy, hvy, n, hn, hf⟩ := hf
  have hc := cell_ev hc
  subst hc
  have hn := int_ev hn
  subst hn
  rw [hP] at hf
  have hS := opd_inS hG h hv
  have hy : Exec g a → a.eval y = .int n.1 n.2 := fun he => opd_den hG h hg he hvy
  split at hf
  · rename_i el hu
    simp only [ev_bind, ev_opt] at hf
    obtain ⟨sz, hsz, hf⟩ := hf
    have run : ∀ b o len cp, Exec g a → a.eval x = .slice (some ⟨b, o, none⟩) len cp → 0 ≤ n.2 ∧ n.2 < (len : Int) →
        (Instr.indexAt t (a.eval x) (a.eval y)).run Γ.P w = .ok (.pointer (some ⟨b, o + n.2.toNat * sz, none⟩)) w := by
      intro b o len cp he e hb
      simp [Instr.indexAt, e, hy he, asIntOf, under_run hu, hb, tSize_run hsz, addr_add]
    cases c with
    | sl s m f =>
      simp only [ev_bind, ev_guard] at hf
      obtain ⟨_, hs, hf⟩ := hf
      have hs := (beq_eq _ _).1 hs
      subst hs
      refine fin_ok h hg hd hnd hf hvc trivial (fun he hvcs => ?_)
      have hb : 0 ≤ n.2 ∧ n.2 < (m : Int) := under_exec (hvcs _ (by simp)) hg he
      obtain ⟨ad, cp, e, h1, h2, h3⟩ := opd_den hG h hg he hv
      rcases h3 with ⟨rfl, rfl⟩ | ⟨b, o, rfl, h3⟩
      · omega
      · refine ⟨_, run b o m cp he e hb, b, o + n.2.toNat * s, rfl, fun j hj => ?_⟩
        obtain ⟨u, hu, hdd⟩ := h3 n.2.toNat (by omega) j hj
        exact ⟨u, hu, hdd⟩
    | row s id off m =>
      simp only [ev_bind, ev_guard] at hf
      obtain ⟨_, hs, hf⟩ := hf
      have hs := (beq_eq _ _).1 hs
      subst hs
      refine fin_ok h hg hd hnd hf hvc hS (fun he hvcs => ?_)
      have hb : 0 ≤ n.2 ∧ n.2 < (m : Int) := under_exec (hvcs _ (by simp)) hg he
      obtain ⟨o, e, h1, h2⟩ := (opd_den hG h hg he hv : Den D ρ (.row s id off m) (a.eval x)).resolve_right (fun hh => by have := hh.2.2.1; omega)
      have ho : o = off * s := by
        rcases h2 with h2 | h2
        · exact h2
        · omega
      refine ⟨_, run _ o m _ he e hb, ?_⟩
      simp only [DenV, Den, ho, Nat.add_mul, Nat.add_zero]
    | _ => simp [ev_fail] at hf
  · rename_i m el hu
    simp only [ev_bind, ev_opt] at hf
    obtain ⟨sz, hsz, hf⟩ := hf
    have run : ∀ b o, Exec g a → a.eval x = .pointer (some ⟨b, o, none⟩) → 0 ≤ n.2 ∧ n.2 < (m : Int) →
        (Instr.indexAt t (a.eval x) (a.eval y)).run Γ.P w = .ok (.pointer (some ⟨b, o + n.2.toNat * sz, none⟩)) w := by
      intro b o he e hb
      simp [Instr.indexAt, e, hy he, asIntOf, under_run hu, hb, tSize_run hsz, addr_add, Instr.sureAddr]
    cases c with
    | ptr id off =>
      refine fin_ok h hg hd hnd hf hvc hS (fun he hvcs => ?_)
      have hb : 0 ≤ n.2 ∧ n.2 < (m : Int) := under_exec (hvcs _ (by simp)) hg he
      exact ⟨_, run _ _ he (opd_den hG h hg he hv) hb, rfl⟩
    | dp k f =>
      simp only [ev_bind, ev_guard] at hf
      obtain ⟨_, hs, hf⟩ := hf
      have hle := Nat.le_of_ble_eq_true hs
      refine fin_ok h hg hd hnd hf hvc trivial (fun he hvcs => ?_)
      have hb : 0 ≤ n.2 ∧ n.2 < (m : Int) := under_exec (hvcs _ (by simp)) hg he
      obtain ⟨b, o, e, hcl⟩ := opd_den hG h hg he hv
      refine ⟨_, run b o he e hb, b, _, rfl, fun j hj => ?_⟩
      have hlt : n.2.toNat < m := by omega
      have : n.2.toNat * sz + j < m * sz := by
        have h1 : (n.2.toNat + 1) * sz ≤ m * sz := Nat.mul_le_mul_right _ hlt
        rw [Nat.add_mul] at h1
        omega
      obtain ⟨u, hu, hdd⟩ := hcl (n.2.toNat * sz + j) (by omega)
      exact ⟨u, by rw [← hu, Nat.add_assoc], hdd⟩
    | _ => simp [ev_fail] at hf
  · simp [ev_fail] at hf

theorem part_den {P : Program} {t : TypeId} {sz : Nat} {ag : Bool} (hsz : tSize P t = some sz) (hag : tAgg P t = some ag) {l : List Cell} {us : Array Value} {o : Nat} (ho : o + sz ≤ l.length) (hpos : 0 < sz) {D : Dat} {ρ : Rho} {w : World}
    (hlen : us.size = l.length) (hc : ∀ (j : Nat) (x : Cell), l[j]? = some x → ∃ u, us[j]? = some u ∧ Den D ρ x u) {v : V1} {L : Key → Option KV} (hv : (mkV ag (upL (nthD l) o sz)).Ev L v) :
    ∃ u, (part t us o).run P w = .ok u w ∧ DenV D ρ v u := by
  have hnth : ∀ j, j < sz → ∃ x, l[o + j]? = some x ∧ nthD l (o + j) = x := by
    intro j hj
    have : o + j < l.length := by omega
    refine ⟨l[o + j], by simp [this], ?_⟩
    simp [nthD, nth_eq, this]
  rcases mkV_ev hv with ⟨rfl, rfl⟩ | ⟨rfl, x, hx, rfl⟩
  · refine ⟨.agg (us.extract o (o + sz)), by simp [part, tAgg_run hag, tSize_run hsz], _, rfl, ?_, fun j x hj => ?_⟩
    · simp only [Array.size_extract, upL_len]; omega
    · rw [upL_get] at hj
      split at hj
      · rename_i hlt
        simp only [Option.some.injEq] at hj
        obtain ⟨y, h1, h2⟩ := hnth j hlt
        rw [h2] at hj
        subst hj
        obtain ⟨u, hu, hdd⟩ := hc _ _ h1
        refine ⟨u, ?_, hdd⟩
        rw [Array.getElem?_extract]
        have : j < min (o + sz) us.size - o := by omega
        simp [this, hu]
      · cases hj
  · have h1 : sz = 1 := by
      have := congrArg List.length hx
      simpa [upL_len] using this
    obtain ⟨y, h2, h3⟩ := hnth 0 (by omega)
    have : nthD l o = x := by
      subst h1
      simpa [upL] using hx
    simp only [Nat.add_zero] at h2 h3
    rw [h3] at this
    subst this
    obtain ⟨u, hu, hdd⟩ := hc _ _ h2
    exact ⟨u, by simp [part, tAgg_run hag, hu], hdd⟩

theorem part_inS {ag : Bool} {l : List Cell} {o sz : Nat} (ho : o + sz ≤ l.length) (hl : ∀ (j : Nat) (x : Cell), l[j]? = some x → x.inS S) {v : V1} {L : Key → Option KV} (hv : (mkV ag (upL (nthD l) o sz)).Ev L v) : v.inS S := by
  have hnth : ∀ j, j < sz → (nthD l (o + j)).inS S := by
    intro j hj
    have hlt : o + j < l.length := by omega
    have : nthD l (o + j) = l[o + j] := by simp [nthD, nth_eq, hlt]
    rw [this]
    exact hl (o + j) _ (by simp [hlt])
  rcases mkV_ev hv with ⟨rfl, rfl⟩ | ⟨rfl, x, hx, rfl⟩
  · intro j x hj
    rw [upL_get] at hj
    split at hj
    · rename_i hlt; simp only [Option.some.injEq] at hj; subst hj; exact hnth j hlt
    · cases hj
  · have h1 : sz = 1 := by
      have := congrArg List.length hx
      simpa [upL_len] using this
    subst h1
    have : nthD l o = x := by simpa [upL] using hx
    rw [← this]
    exact hnth 0 (by omega)

theorem field_ok (hP : E.P = Γ.P) (hG : E.G = Γ.G) (h : Sat Γ S W D ρ st a w) (hg : GdOk W g a) (hd : d < Γ.N) (hnd : ¬ W d) {t : TypeId} {x : Operand} {f : Nat}
    (hf : (fieldM E i g d t x f).Ev st.get eff) (hvc : ∀ p ∈ eff.vc, p) : PureOk Γ S W D ρ st a w g d eff (Instr.field t (a.eval x) f) := by
  simp only [fieldM, ev_bind, ev_opt] at hf
  obtain ⟨v, hv, fd, hfd, sz, hsz, ag, hag, hf⟩ := hf
  rw [hP] at hfd hsz hag
  obtain ⟨fs, hu, hfs⟩ := field_run hfd
  have hS := opd_inS hG h hv
  cases v with
  | c x => simp [ev_fail] at hf
  | agg l =>
    simp only [ev_bind, ev_guard] at hf
    obtain ⟨_, hb, v, hmk, hf⟩ := hf
    obtain ⟨hb1, hb2⟩ := bAnd_eq hb
    have hb1 := Nat.le_of_ble_eq_true hb1
    have hb2 : 0 < sz := Nat.le_of_ble_eq_true hb2
    rw [len_eq] at hb1
    refine fin_ok h hg hd hnd hf hvc (part_inS hb1 hS hmk) (fun he _ => ?_)
    obtain ⟨us, e, hlen, hcl⟩ := opd_den hG h hg he hv
    obtain ⟨u, hu2, hdd⟩ := part_den (w := w) hsz hag hb1 hb2 hlen hcl hmk
    exact ⟨u, by simp [Instr.field, e, under_run hu, hfs, asAgg, hu2], hdd⟩

theorem index_ok (hP : E.P = Γ.P) (hG : E.G = Γ.G) (h : Sat Γ S W D ρ st a w) (hg : GdOk W g a) (hd : d < Γ.N) (hnd : ¬ W d) {t : TypeId} {x y : Operand}
    (hf : (indexM E i g d t x y).Ev st.get eff) (hvc : ∀ p ∈ eff.vc, p) : PureOk Γ S W D ρ st a w g d eff (Instr.index t (a.eval x) (a.eval y)) := by
  simp only [indexM, ev_bind] at hf
  obtain ⟨v, hv, vy, hvy, n, hn, hf⟩ := hf
  have hn := int_ev hn
  subst hn
  rw [hP] at hf
  have hS := opd_inS hG h hv
  have hy : Exec g a → a.eval y = .int n.1 n.2 := fun he => opd_den hG h hg he hvy
  split at hf
  · rename_i hu
    split at hf
    · rename_i s
      refine fin_ok h hg hd hnd hf hvc trivial (fun he hvcs => ?_)
      have hb : 0 ≤ n.2 ∧ n.2 < (s.length : Int) := under_exec (hvcs _ (by simp)) hg he
      have e : a.eval x = .string ⟨s.toArray⟩ := opd_den hG h hg he hv
      have hlt : n.2.toNat < s.length := by omega
      refine ⟨_, ?_, rfl⟩
      have hget : (⟨s.toArray⟩ : ByteArray)[n.2.toNat]? = some (s.getD n.2.toNat 0) := by
        have : n.2.toNat < (⟨s.toArray⟩ : ByteArray).size := by simpa [ByteArray.size] using hlt
        rw [getElem?_pos (⟨s.toArray⟩ : ByteArray) n.2.toNat this]
        simp only [Option.some.injEq]
        show s.toArray[n.2.toNat] = _
        simp [List.getD, List.getElem?_eq_getElem hlt]
      simp [Instr.index, e, hy he, asIntOf, under_run hu, hb.1, hget]
    · simp [ev_fail] at hf
  · rename_i m el hu
    split at hf
    · rename_i l
      simp only [ev_bind, ev_opt, ev_guard] at hf
      obtain ⟨sz, hsz, ag, hag, _, hb, v, hmk, hf⟩ := hf
      obtain ⟨hb1, hb2⟩ := bAnd_eq hb
      have hb1 := Nat.le_of_ble_eq_true hb1
      have hb2 : 0 < sz := Nat.le_of_ble_eq_true hb2
      rw [len_eq] at hb1
      have hv1 := fin_vc hf hvc _ (List.mem_singleton.2 rfl)
      have bound : 0 ≤ n.2 ∧ n.2 < (m : Int) → n.2.toNat * sz + sz ≤ l.length := by
        intro hb
        have hlt : n.2.toNat < m := by omega
        have h1 : (n.2.toNat + 1) * sz ≤ m * sz := Nat.mul_le_mul_right _ hlt
        rw [Nat.add_mul] at h1
        omega
      by_cases hx : Exec g a
      · have hbb : 0 ≤ n.2 ∧ n.2 < (m : Int) := under_exec hv1 hg hx
        refine fin_ok h hg hd hnd hf hvc (part_inS (bound hbb) hS hmk) (fun he hvcs => ?_)
        obtain ⟨us, e, hlen, hcl⟩ := opd_den hG h hg he hv
        obtain ⟨u, hu2, hdd⟩ := part_den (w := w) hsz hag (bound hbb) hb2 hlen hcl hmk
        exact ⟨u, by simp [Instr.index, e, hy he, asIntOf, under_run hu, hbb, tSize_run hsz, hu2], hdd⟩
      · refine fin_ok h hg hd hnd hf hvc ?_ (fun he _ => (hx he).elim)
        have hall : ∀ j, (nthD l j).inS S := by
          intro j
          unfold nthD
          rw [nth_eq]
          cases hj : l[j]? with
          | none => trivial
          | some x => exact hS j x hj
        rcases mkV_ev hmk with ⟨rfl, rfl⟩ | ⟨rfl, x, hx, rfl⟩
        · intro j x hj
          rw [upL_get] at hj
          split at hj
          · simp only [Option.some.injEq] at hj; subst hj; exact hall _
          · cases hj
        · have hq : (upL (nthD l) (n.2.toNat * sz) sz)[0]? = some x := by rw [hx]; rfl
          rw [upL_get, if_pos hb2] at hq
          simp only [Option.some.injEq] at hq
          rw [← hq]; exact hall _
    · simp [ev_fail] at hf
  · simp [ev_fail] at hf
end
end Go.Sv
