/-
  Own layer 'SV' (7): arithmetic, comparisons, conversions, pick, len, slices, aggregates, interface values, closures.
-/
import Derived.Test.YtmacpjddafcjcaaDoorSvPure2
import Derived.Laws.Strings
import Derived.Laws.Concat
import Derived.Laws.StructEq
set_option linter.all false
namespace Go.Sv
open M

theorem wrap_in {k : IntKind} {n : Int} (h : inR k n) : k.wrap n = n := by
  unfold inR IntKind.min IntKind.max at h
  unfold IntKind.wrap
  cases k <;> simp [IntKind.signed, IntKind.bits] at h ⊢ <;> (try split) <;> omega

section
variable {Γ : Ctx} {S W : Nat → Prop} {D : Dat} {ρ : Rho} {st : St} {a : Act} {w : World} {E : Env} {i d : Nat} {g : OG} {eff : Eff}

theorem arith_ok (h : Sat Γ S W D ρ st a w) (hg : GdOk W g a) (hd : d < Γ.N) (hnd : ¬ W d) {k : IntKind} {r : Int} {sem : Sem Value} {L : Key → Option KV}
    (hf : (arithM E i g d k r).Ev L eff) (hvc : ∀ p ∈ eff.vc, p) (run : Exec g a → sem.run Γ.P w = .ok (.int k (k.wrap r)) w) : PureOk Γ S W D ρ st a w g d eff sem := by
  unfold arithM at hf
  split at hf
  · refine fin_ok h hg hd hnd hf hvc trivial (fun he hv => ⟨_, run he, ?_⟩)
    have : inR .i64 r := under_exec (hv _ (by simp)) hg he
    rw [wrap_in this]; rfl
  · exact fin_ok h hg hd hnd hf hvc trivial (fun he hv => ⟨_, run he, rfl⟩)

theorem binI_ok (h : Sat Γ S W D ρ st a w) (hg : GdOk W g a) (hd : d < Γ.N) (hnd : ¬ W d) {op : BinOp} {k : IntKind} {x y : Int} {sem : Sem Value} {L : Key → Option KV}
    (hf : (binI E i g d op k x y).Ev L eff) (hvc : ∀ p ∈ eff.vc, p)
    (run : Exec g a → sem.run Γ.P w = ((match op with
      | .add | .sub | .mul => Op.intArith op k x y
      | .quo | .rem => Op.intDiv op k x y
      | .and | .or | .xor | .andNot => Op.intBits op k x y
      | _ => Op.intCmp op x y) : Sem Value).run Γ.P w) : PureOk Γ S W D ρ st a w g d eff sem := by
  cases op <;> simp only [binI] at hf
  case add => exact arith_ok h hg hd hnd hf hvc (fun he => by rw [run he]; rfl)
  case sub => exact arith_ok h hg hd hnd hf hvc (fun he => by rw [run he]; rfl)
  case mul => exact arith_ok h hg hd hnd hf hvc (fun he => by rw [run he]; rfl)
  case quo =>
    refine fin_ok h hg hd hnd hf hvc trivial (fun he hv => ?_)
    have hy : y ≠ 0 := under_exec (hv _ (by simp)) hg he
    exact ⟨_, by rw [run he]; simp only [Op.intDiv, hy, if_false, Sem.run_pure], rfl⟩
  case rem =>
    refine fin_ok h hg hd hnd hf hvc trivial (fun he hv => ?_)
    have hy : y ≠ 0 := under_exec (hv _ (by simp)) hg he
    exact ⟨_, by rw [run he]; simp only [Op.intDiv, hy, if_false, Sem.run_pure], rfl⟩
  case shl => simp [ev_fail] at hf
  case shr => simp [ev_fail] at hf
  all_goals exact fin_ok h hg hd hnd hf hvc trivial (fun he hv => ⟨_, by rw [run he]; rfl, rfl⟩)

theorem toList_mk (s : List UInt8) : (⟨s.toArray⟩ : ByteArray).toList = s := by
  rw [ByteArray.toList_eq]
theorem append_mk (s t : List UInt8) : (⟨s.toArray⟩ : ByteArray) ++ ⟨t.toArray⟩ = ⟨(s ++ t).toArray⟩ := by
  exact ByteArray.mk_append_mk s t
theorem size_mk (s : List UInt8) : (⟨s.toArray⟩ : ByteArray).size = s.length := by simp [ByteArray.size]

theorem binS_ok (h : Sat Γ S W D ρ st a w) (hg : GdOk W g a) (hd : d < Γ.N) (hnd : ¬ W d) {op : BinOp} {x y : List UInt8} {sem : Sem Value} {L : Key → Option KV}
    (hf : (binS E i g d op x y).Ev L eff) (hvc : ∀ p ∈ eff.vc, p)
    (run : Exec g a → sem.run Γ.P w = (Op.stringOp op ⟨x.toArray⟩ ⟨y.toArray⟩).run Γ.P w) : PureOk Γ S W D ρ st a w g d eff sem := by
  cases op <;> simp only [binS] at hf
  case add =>
    refine fin_ok h hg hd hnd hf hvc trivial (fun he hv => ?_)
    have hy : x.length + y.length ≤ 9223372036854775807 := under_exec (hv _ (by simp)) hg he
    refine ⟨.string ⟨(x ++ y).toArray⟩, ?_, rfl⟩
    rw [run he]
    simp only [Op.stringOp, size_mk]
    have hm : IntKind.i64.max = 9223372036854775807 := rfl
    rw [if_neg (by rw [hm]; omega), append_mk]
    rfl
  case eql => exact fin_ok h hg hd hnd hf hvc trivial (fun he hv => ⟨_, by rw [run he]; simp only [Op.stringOp, toList_mk, Sem.run_pure], rfl⟩)
  case neq => exact fin_ok h hg hd hnd hf hvc trivial (fun he hv => ⟨_, by rw [run he]; simp only [Op.stringOp, toList_mk, Sem.run_pure], rfl⟩)
  case lss => exact fin_ok h hg hd hnd hf hvc trivial (fun he hv => ⟨_, by rw [run he]; simp only [Op.stringOp, toList_mk, Sem.run_pure], rfl⟩)
  case leq => exact fin_ok h hg hd hnd hf hvc trivial (fun he hv => ⟨_, by rw [run he]; simp only [Op.stringOp, toList_mk, Sem.run_pure], rfl⟩)
  case gtr => exact fin_ok h hg hd hnd hf hvc trivial (fun he hv => ⟨_, by rw [run he]; simp only [Op.stringOp, toList_mk, Sem.run_pure], rfl⟩)
  case geq => exact fin_ok h hg hd hnd hf hvc trivial (fun he hv => ⟨_, by rw [run he]; simp only [Op.stringOp, toList_mk, Sem.run_pure], rfl⟩)
  all_goals simp [ev_fail] at hf


theorem eqGuard_run {op : BinOp} {t : TypeId} {x y : Operand} {u v : Value} (h : match u, v with | .nilIface, .nilIface => False | .agg _, .agg _ => False | _, _ => True) (P : Program) (w : World) :
    (eqGuard op t x y u v).run P w = .ok () w := by
  unfold eqGuard
  cases op <;> simp <;> (split <;> simp_all)

theorem tIs_run {P : Program} {q : TypeDesc → Bool} {t : TypeId} (h : tIs P q t = true) : ∃ dd, P.underlying t = some dd ∧ q dd = true := by
  unfold tIs at h
  cases hu : P.underlying t with
  | none => simp [hu] at h
  | some dd => simp only [hu] at h; exact ⟨dd, rfl, h⟩

theorem mkVo_ev {ag : Bool} {l : List Cell} {v : V1} (h : mkVo ag l = some v) (L : Key → Option KV) : (mkV ag l).Ev L v := by
  unfold mkVo at h
  unfold mkV
  cases ag with
  | true => simp only [Option.some.injEq] at h; simp only [ev_ret]; exact h
  | false =>
    simp only at h ⊢
    split at h
    · simp only [Option.some.injEq] at h; simp only [ev_ret]; exact h
    · cases h

theorem partV_den {P : Program} {t : TypeId} {l : List Cell} {o : Nat} {v : V1} (h : partV P t l o = some v) {us : Array Value} {D : Dat} {ρ : Rho} {w : World} (hlen : us.size = l.length) (hc : ∀ (j : Nat) (x : Cell), l[j]? = some x → ∃ u, us[j]? = some u ∧ Den D ρ x u) :
    ∃ u, (part t us o).run P w = .ok u w ∧ DenV D ρ v u := by
  unfold partV at h
  split at h
  · rename_i sz ag hsz hag
    split at h
    · rename_i hb
      obtain ⟨h1, h2⟩ := bAnd_eq hb
      have h1 := Nat.le_of_ble_eq_true h1
      have h2 : 0 < sz := Nat.le_of_ble_eq_true h2
      rw [len_eq] at h1
      exact part_den hsz hag h1 h2 hlen hc (mkVo_ev h (fun _ => none))
    · cases h
  · cases h

theorem eqV_run {P : Program} {D : Dat} {ρ : Rho} {w : World} : ∀ (n : Nat) (t : TypeId) (a b : V1) (r : Bool) (u v : Value), eqV P n t a b = some r → DenV D ρ a u → DenV D ρ b v → ∀ d, n ≤ d → (Op.equalIn d t u v).run P w = .ok r w := by
  intro n
  induction n with
  | zero => intro t a b r u v h; simp [eqV] at h
  | succ n ih =>
    intro t a b r u v h ha hb d hd
    obtain ⟨d, rfl⟩ : ∃ d', d = d' + 1 := ⟨d - 1, by omega⟩
    simp only [eqV] at h
    split at h
    · rename_i hu
      split at h
      · simp only [Option.some.injEq] at h
        have ha : u = .bool _ := ha
        have hb : v = .bool _ := hb
        subst ha hb h
        simp [Op.equalIn, under_run hu]
      · cases h
    · rename_i k0 hu
      split at h
      · split at h
        · rename_i hk
          have hk := kEq_eq hk
          subst hk
          simp only [Option.some.injEq] at h
          have ha : u = .int _ _ := ha
          have hb : v = .int _ _ := hb
          subst ha hb h
          simp [Op.equalIn, under_run hu]
        · cases h
      · cases h
    · rename_i hu
      split at h
      · simp only [Option.some.injEq] at h
        have ha : u = .string _ := ha
        have hb : v = .string _ := hb
        subst ha hb h
        simp only [Op.equalIn, Sem.run_bind, under_run hu, Result.andThen_ok, Sem.run_pure]
        rw [beq_toListBytes, toList_mk, toList_mk]
      · cases h
    · rename_i fs hu
      split at h
      · rename_i l rr
        split at h
        · cases h
        · rename_i hst
          obtain ⟨us, e1, hl1, hc1⟩ := ha
          obtain ⟨vs, e2, hl2, hc2⟩ := hb
          subst e1 e2
          have hfo : P.fieldsOf t = fs := by simp [Program.fieldsOf, hu]
          rw [run_equalIn_struct w d t us vs (by rw [hfo]; exact hu) hst, hfo]
          have : ∀ (fl : List Field) (r : Bool), eqFs P (eqV P n) l rr fl = some r → (Op.eqFields d us vs fl).run P w = .ok r w := by
            intro fl
            induction fl with
            | nil => intro r h; simp only [eqFs, Option.some.injEq] at h; subst h; rfl
            | cons f fl ihf =>
              intro r h
              simp only [eqFs] at h
              split at h
              · rename_i hname
                split at h
                · rename_i x y hx hy
                  split at h
                  · rename_i p q hp hq
                    simp only [Option.some.injEq] at h
                    subst h
                    obtain ⟨u1, r1, d1⟩ := partV_den (w := w) hx hl1 hc1
                    obtain ⟨u2, r2, d2⟩ := partV_den (w := w) hy hl2 hc2
                    have hne : f.name ≠ "_" := by simpa using hname
                    simp only [Op.eqFields, if_pos hne, Sem.run_bind, r1, r2, Result.andThen_ok, ih _ _ _ _ _ _ hp d1 d2 d (by omega)]
                    cases p with
                    | true => simp [ihf _ hq]
                    | false => simp
                  · cases h
                · cases h
              · cases h
          exact this fs.toList r h
      · cases h
    · cases h

theorem isNN_den {D : Dat} {ρ : Rho} {b : Cell} {v : Value} (h : isNN b = true) (hv : Den D ρ b v) : ∃ ad, v = .pointer (some ad) := by
  cases b <;> (try simp only [isNN, Bool.false_eq_true] at h) <;> simp only [Den] at hv
  · exact ⟨_, hv⟩
  · obtain ⟨b, o, rfl, _⟩ := hv; exact ⟨_, rfl⟩
  · exact ⟨_, hv⟩
theorem eqC_run {P : Program} {D : Dat} {ρ : Rho} {w : World} {t : TypeId} {a b : Cell} {r : Bool} {u v : Value} (h : eqC P t a b = some r) (hu : Den D ρ a u) (hv : Den D ρ b v) : (Op.equal t u v).run P w = .ok r w := by
  show (Op.equalIn (9999 + 1) t u v).run P w = _
  generalize 9999 = n
  unfold eqC at h
  split at h
  · rename_i el ht
    split at h
    · rename_i id o id' o'
      split at h
      · rename_i sz hsz
        split at h
        · rename_i hh
          obtain ⟨h1, h2⟩ := bAnd_eq hh
          have h1 := (beq_eq _ _).1 h1
          have h2 : 0 < sz := Nat.le_of_ble_eq_true h2
          subst h1
          simp only [Option.some.injEq] at h
          subst h
          simp only [Den] at hu hv
          subst hu hv
          have hne : sz ≠ 0 := by omega
          simp [Op.equalIn, under_run ht, tSize_run hsz, hne, sameAddr]
          by_cases e : o = o'
          · subst e; simp
          · rw [show Nat.beq o o' = false from by cases hb : Nat.beq o o' with | true => exact absurd ((beq_eq _ _).1 hb) e | false => rfl]; simp [e]
        · cases h
      · cases h
    · simp only [Option.some.injEq] at h
      subst h
      simp only [Den] at hu hv
      subst hu hv
      simp [Op.equalIn, under_run ht]
    · split at h
      · rename_i hb
        simp only [Option.some.injEq] at h
        subst h
        have hu : u = .pointer none := hu
        obtain ⟨ad, rfl⟩ := isNN_den hb hv
        subst hu
        simp [Op.equalIn, under_run ht]
      · cases h
    · split at h
      · rename_i hb
        simp only [Option.some.injEq] at h
        subst h
        have hv : v = .pointer none := hv
        obtain ⟨ad, rfl⟩ := isNN_den hb hu
        subst hv
        simp [Op.equalIn, under_run ht]
      · cases h
    · cases h
  · rename_i ht
    split at h
    · simp only [Option.some.injEq] at h; subst h; simp only [Den] at hu hv; subst hu hv; simp [Op.equalIn, under_run ht]
    · simp only [Option.some.injEq] at h; subst h; simp only [Den] at hu hv; obtain ⟨x, rfl, _⟩ := hv; subst hu; simp [Op.equalIn, under_run ht]
    · simp only [Option.some.injEq] at h; subst h; simp only [Den] at hu hv; obtain ⟨x, rfl, _⟩ := hu; subst hv; simp [Op.equalIn, under_run ht]
    · cases h
  · rename_i ht
    split at h
    · simp only [Option.some.injEq] at h; subst h; simp only [Den] at hu hv; subst hu hv; simp [Op.equalIn, under_run ht]
    · cases h
  · rename_i ht
    split at h
    · simp only [Option.some.injEq] at h; subst h; simp only [Den] at hu hv; subst hu hv; simp [Op.equalIn, under_run ht]
    · simp only [Option.some.injEq] at h; subst h; simp only [Den] at hu hv; subst hu hv; simp [Op.equalIn, under_run ht]
    · simp only [Option.some.injEq] at h; subst h; simp only [Den] at hu hv; subst hu hv; simp [Op.equalIn, under_run ht]
    · cases h
  · rename_i ht
    split at h
    · simp only [Option.some.injEq] at h; subst h; simp only [Den] at hu hv; subst hu hv; simp [Op.equalIn, under_run ht]
    · simp only [Option.some.injEq] at h; subst h; simp only [Den] at hu hv; obtain ⟨x, rfl, _⟩ := hv; subst hu; simp [Op.equalIn, under_run ht]
    · simp only [Option.some.injEq] at h; subst h; simp only [Den] at hu hv; obtain ⟨x, rfl, _⟩ := hu; subst hv; simp [Op.equalIn, under_run ht]
    · cases h
  · cases h

def noNum : Value → Prop
  | .int _ _ | .float _ _ | .complex _ _ _ | .string _ | .agg _ => False
  | _ => True
theorem noNum_ptr {D : Dat} {ρ : Rho} {b : Cell} {v : Value} (h : isNN b = true) (hv : Den D ρ b v) : noNum v ∧ v ≠ .nilIface := by
  obtain ⟨ad, rfl⟩ := isNN_den h hv
  exact ⟨trivial, by intro h; cases h⟩
theorem eqC_shape {P : Program} {D : Dat} {ρ : Rho} {t : TypeId} {a b : Cell} {r : Bool} {u v : Value} (h : eqC P t a b = some r) (hu : Den D ρ a u) (hv : Den D ρ b v) :
    noNum u ∧ noNum v ∧ (u = .nilIface → v = .nilIface → a = .nilif ∧ b = .nilif) := by
  unfold eqC at h
  split at h
  · split at h
    · simp only [Den] at hu hv
      subst hu hv
      exact ⟨trivial, trivial, fun h => by cases h⟩
    · simp only [Den] at hu hv
      subst hu hv
      exact ⟨trivial, trivial, fun h => by cases h⟩
    · split at h
      · rename_i hb
        have hu : u = .pointer none := hu
        subst hu
        exact ⟨trivial, (noNum_ptr hb hv).1, fun h => by cases h⟩
      · cases h
    · split at h
      · rename_i hb
        have hv : v = .pointer none := hv
        subst hv
        exact ⟨(noNum_ptr hb hu).1, trivial, fun _ h => by cases h⟩
      · cases h
    · cases h
  · split at h
    · simp only [Den] at hu hv; subst hu hv; exact ⟨trivial, trivial, fun _ _ => ⟨rfl, rfl⟩⟩
    · simp only [Den] at hu hv; obtain ⟨x, rfl, _⟩ := hv; subst hu; exact ⟨trivial, trivial, fun _ h => by cases h⟩
    · simp only [Den] at hu hv; obtain ⟨x, rfl, _⟩ := hu; subst hv; exact ⟨trivial, trivial, fun h => by cases h⟩
    · cases h
  · split at h
    · simp only [Den] at hu hv; subst hu hv; exact ⟨trivial, trivial, fun h => by cases h⟩
    · cases h
  · split at h
    · simp only [Den] at hu hv; subst hu hv; exact ⟨trivial, trivial, fun h => by cases h⟩
    · simp only [Den] at hu hv; subst hu hv; exact ⟨trivial, trivial, fun h => by cases h⟩
    · simp only [Den] at hu hv; subst hu hv; exact ⟨trivial, trivial, fun h => by cases h⟩
    · cases h
  · split at h
    · simp only [Den] at hu hv; subst hu hv; exact ⟨trivial, trivial, fun h => by cases h⟩
    · simp only [Den] at hu hv; obtain ⟨x, rfl, _⟩ := hv; subst hu; exact ⟨trivial, trivial, fun h => by cases h⟩
    · simp only [Den] at hu hv; obtain ⟨x, rfl, _⟩ := hu; subst hv; exact ⟨trivial, trivial, fun h => by cases h⟩
    · cases h
  · cases h

theorem eqC_guard {P : Program} {D : Dat} {ρ : Rho} {w : World} {op : BinOp} {t : TypeId} {a b : Cell} {r : Bool} {x y : Operand} {u v : Value} (h : eqC P t a b = some r) (hok : nilOk a b x y = true) (hu : Den D ρ a u) (hv : Den D ρ b v) :
    (eqGuard op t x y u v).run P w = .ok () w := by
  obtain ⟨h1, h2, h3⟩ := eqC_shape h hu hv
  by_cases hn : u = .nilIface ∧ v = .nilIface
  · obtain ⟨rfl, rfl⟩ := hn
    obtain ⟨rfl, rfl⟩ := h3 rfl rfl
    have : isConst x = true ∨ isConst y = true := by
      simp only [nilOk] at hok
      split at hok
      · exact Or.inl (by assumption)
      · exact Or.inr hok
    clear hok h h3
    unfold eqGuard
    rcases this with h | h
    · cases x <;> first | (simp [isConst] at h; done) | (cases op <;> simp)
    · cases y <;> first | (simp [isConst] at h; done) | (cases x <;> cases op <;> simp)
  · refine eqGuard_run ?_ _ _
    split
    · exact hn ⟨rfl, rfl⟩
    · exact h1
    · trivial
theorem eqC_bin {P : Program} {D : Dat} {ρ : Rho} {t : TypeId} {a b : Cell} {r : Bool} {u v : Value} (h : eqC P t a b = some r) (hu : Den D ρ a u) (hv : Den D ρ b v) :
    binOp .eql t u v = (do pure (.bool (← Op.equal t u v))) ∧ binOp .neq t u v = (do pure (.bool (!(← Op.equal t u v)))) := by
  obtain ⟨h1, h2, _⟩ := eqC_shape h hu hv
  cases u <;> first | exact h1.elim | exact ⟨rfl, rfl⟩

theorem bin_ok (hP : E.P = Γ.P) (hG : E.G = Γ.G) (h : Sat Γ S W D ρ st a w) (hg : GdOk W g a) (hd : d < Γ.N) (hnd : ¬ W d) {op : BinOp} {t : TypeId} {x y : Operand}
    (hf : (binM E i g d op t x y).Ev st.get eff) (hvc : ∀ p ∈ eff.vc, p) :
    PureOk Γ S W D ρ st a w g d eff (do eqGuard op t x y (a.eval x) (a.eval y); binOp op t (a.eval x) (a.eval y)) := by
  simp only [binM, ev_bind] at hf
  obtain ⟨u, hu, v, hv, hf⟩ := hf
  have hx := fun he => opd_den hG h hg he hu
  have hy := fun he => opd_den hG h hg he hv
  split at hf
  · rename_i k m k' n
    have hx : Exec g a → a.eval x = .int k m := hx
    have hy : Exec g a → a.eval y = .int k' n := hy
    have hgd : Exec g a → (eqGuard op t x y (a.eval x) (a.eval y)).run Γ.P w = .ok () w := fun he => eqGuard_run (by rw [hx he, hy he]; trivial) _ _
    split at hf
    · refine fin_ok h hg hd hnd hf hvc trivial (fun he hvs => ?_)
      have hn : 0 ≤ n := under_exec (hvs _ (by simp)) hg he
      refine ⟨_, ?_, rfl⟩
      simp only [Sem.run_bind, hgd he, Result.andThen_ok]
      rw [hx he, hy he]
      simp only [binOp, Op.shift, if_neg (show ¬ n < 0 by omega)]
      rfl
    · refine fin_ok h hg hd hnd hf hvc trivial (fun he hvs => ?_)
      have hn : 0 ≤ n := under_exec (hvs _ (by simp)) hg he
      refine ⟨_, ?_, rfl⟩
      simp only [Sem.run_bind, hgd he, Result.andThen_ok]
      rw [hx he, hy he]
      simp only [binOp, Op.shift, if_neg (show ¬ n < 0 by omega)]
      rfl
    · rename_i h1 h2
      simp only [ev_bind, ev_guard] at hf
      obtain ⟨_, hk, hf⟩ := hf
      have hk := kEq_eq hk
      subst hk
      refine binI_ok h hg hd hnd hf hvc (fun he => ?_)
      simp only [Sem.run_bind, hgd he, Result.andThen_ok]
      rw [hx he, hy he]
      cases op <;> first | (exact absurd rfl h1) | (exact absurd rfl h2) | (simp [binOp])
  · rename_i s s'
    have hx : Exec g a → a.eval x = .string ⟨s.toArray⟩ := hx
    have hy : Exec g a → a.eval y = .string ⟨s'.toArray⟩ := hy
    have hgd : Exec g a → (eqGuard op t x y (a.eval x) (a.eval y)).run Γ.P w = .ok () w := fun he => eqGuard_run (by rw [hx he, hy he]; trivial) _ _
    refine binS_ok h hg hd hnd hf hvc (fun he => ?_)
    simp only [Sem.run_bind, hgd he, Result.andThen_ok]
    rw [hx he, hy he]
    cases op <;> simp [binOp]
  · rename_i p q
    simp only [ev_bind, ev_guard] at hf
    obtain ⟨_, ht, hf⟩ := hf
    rw [hP] at ht
    obtain ⟨dd, hdd, hq⟩ := tIs_run ht
    have hdd : Γ.P.underlying t = some .bool := by cases dd <;> simp [isBoolD] at hq; exact hdd
    have hx : Exec g a → a.eval x = .bool p := hx
    have hy : Exec g a → a.eval y = .bool q := hy
    have hgd : Exec g a → (eqGuard op t x y (a.eval x) (a.eval y)).run Γ.P w = .ok () w := fun he => eqGuard_run (by rw [hx he, hy he]; trivial) _ _
    have heq : (Op.equal t (.bool p) (.bool q)).run Γ.P w = .ok (p == q) w := by
      show (Op.equalIn (9999 + 1) t (.bool p) (.bool q)).run Γ.P w = _
      generalize 9999 = n
      simp [Op.equalIn, under_run hdd]
    split at hf
    · refine fin_ok h hg hd hnd hf hvc trivial (fun he hvs => ⟨_, ?_, rfl⟩)
      simp only [Sem.run_bind, hgd he, Result.andThen_ok]
      rw [hx he, hy he]
      simp only [binOp, Sem.run_bind, heq, Result.andThen_ok, Sem.run_pure]
    · refine fin_ok h hg hd hnd hf hvc trivial (fun he hvs => ⟨_, ?_, rfl⟩)
      simp only [Sem.run_bind, hgd he, Result.andThen_ok]
      rw [hx he, hy he]
      simp only [binOp, Sem.run_bind, heq, Result.andThen_ok, Sem.run_pure]
    · simp [ev_fail] at hf
  · rename_i l r
    simp only [ev_bind, ev_guard, ev_opt] at hf
    obtain ⟨_, hgt, b, hb, hf⟩ := hf
    rw [hP] at hgt hb
    have hgt : Go.Program.eqGuardType Γ.P Γ.P.depth t = false := by
      cases hh : Go.Program.eqGuardType Γ.P Γ.P.depth t with
      | true => rw [hh] at hgt; cases hgt
      | false => rfl
    have hgd : Exec g a → (eqGuard op t x y (a.eval x) (a.eval y)).run Γ.P w = .ok () w := by
      intro he
      obtain ⟨us, e1, _⟩ := hx he
      obtain ⟨vs, e2, _⟩ := hy he
      rw [e1, e2]
      cases op <;> simp [eqGuard, program, Sem.run, hgt]
    have heq : Exec g a → (Op.equal t (a.eval x) (a.eval y)).run Γ.P w = .ok b w := fun he => eqV_run 8 t _ _ b _ _ hb (hx he) (hy he) Op.maxDepth (by unfold Op.maxDepth; omega)
    split at hf
    · refine fin_ok h hg hd hnd hf hvc trivial (fun he hvs => ⟨_, ?_, rfl⟩)
      obtain ⟨us, e1, _⟩ := hx he
      obtain ⟨vs, e2, _⟩ := hy he
      have := heq he
      simp only [Sem.run_bind, hgd he, Result.andThen_ok]
      rw [e1, e2] at this ⊢
      simp only [binOp, Sem.run_bind, this, Result.andThen_ok, Sem.run_pure]
    · refine fin_ok h hg hd hnd hf hvc trivial (fun he hvs => ⟨_, ?_, rfl⟩)
      obtain ⟨us, e1, _⟩ := hx he
      obtain ⟨vs, e2, _⟩ := hy he
      have := heq he
      simp only [Sem.run_bind, hgd he, Result.andThen_ok]
      rw [e1, e2] at this ⊢
      simp only [binOp, Sem.run_bind, this, Result.andThen_ok, Sem.run_pure]
    · simp [ev_fail] at hf
  · rename_i a' b' _ _ _
    simp only [ev_bind, ev_guard, ev_opt] at hf
    obtain ⟨_, hok, r, hr, hf⟩ := hf
    rw [hP] at hr
    have hgd : Exec g a → (eqGuard op t x y (a.eval x) (a.eval y)).run Γ.P w = .ok () w := by
      intro he
      exact eqC_guard hr hok (hx he) (hy he)
    have heq : Exec g a → (Op.equal t (a.eval x) (a.eval y)).run Γ.P w = .ok r w := fun he => eqC_run hr (hx he) (hy he)
    split at hf
    · refine fin_ok h hg hd hnd hf hvc trivial (fun he hvs => ⟨_, ?_, rfl⟩)
      simp only [Sem.run_bind, hgd he, Result.andThen_ok, (eqC_bin hr (hx he) (hy he)).1, heq he, Sem.run_pure]
    · refine fin_ok h hg hd hnd hf hvc trivial (fun he hvs => ⟨_, ?_, rfl⟩)
      simp only [Sem.run_bind, hgd he, Result.andThen_ok, (eqC_bin hr (hx he) (hy he)).2, heq he, Sem.run_pure]
    · simp [ev_fail] at hf
  · simp [ev_fail] at hf

theorem un_ok (hP : E.P = Γ.P) (hG : E.G = Γ.G) (h : Sat Γ S W D ρ st a w) (hg : GdOk W g a) (hd : d < Γ.N) (hnd : ¬ W d) {op : UnOp} {x : Operand}
    (hf : (unM E i g d op x).Ev st.get eff) (hvc : ∀ p ∈ eff.vc, p) : PureOk Γ S W D ρ st a w g d eff (Op.unary op (a.eval x)) := by
  simp only [unM, ev_bind] at hf
  obtain ⟨u, hu, hf⟩ := hf
  have hx := fun he => opd_den hG h hg he hu
  split at hf
  · rename_i b
    have hx : Exec g a → a.eval x = .bool b := hx
    exact fin_ok h hg hd hnd hf hvc trivial (fun he hvs => ⟨_, by rw [hx he]; rfl, rfl⟩)
  · rename_i k n
    have hx : Exec g a → a.eval x = .int k n := hx
    exact arith_ok h hg hd hnd hf hvc (fun he => by rw [hx he]; rfl)
  · rename_i k n
    have hx : Exec g a → a.eval x = .int k n := hx
    exact fin_ok h hg hd hnd hf hvc trivial (fun he hvs => ⟨_, by rw [hx he]; rfl, rfl⟩)
  · simp [ev_fail] at hf

theorem conv_ok (hP : E.P = Γ.P) (hG : E.G = Γ.G) (h : Sat Γ S W D ρ st a w) (hg : GdOk W g a) (hd : d < Γ.N) (hnd : ¬ W d) {s t : TypeId} {x : Operand}
    (hf : (convM E i g d s t x).Ev st.get eff) (hvc : ∀ p ∈ eff.vc, p) : PureOk Γ S W D ρ st a w g d eff (convert s t (a.eval x)) := by
  simp only [convM, ev_bind] at hf
  obtain ⟨u, hu, hf⟩ := hf
  rw [hP] at hf
  have hx := fun he => opd_den hG h hg he hu
  split at hf
  · rename_i ds k k' n e1 e2
    have hx : Exec g a → a.eval x = .int k' n := hx
    exact fin_ok h hg hd hnd hf hvc trivial (fun he hvs => ⟨_, by rw [hx he]; simp [convert, under_run e1, under_run e2, Conv.intToInt], rfl⟩)
  · rename_i ds b e1 e2
    have hx : Exec g a → a.eval x = .string ⟨b.toArray⟩ := hx
    refine fin_ok h hg hd hnd hf hvc trivial (fun he hvs => ⟨.string ⟨b.toArray⟩, ?_, rfl⟩)
    rw [hx he]
    simp only [convert, Sem.run_bind, under_run e1, under_run e2, Result.andThen_ok]
    cases ds <;> rfl
  · simp [ev_fail] at hf

theorem len_ok (hP : E.P = Γ.P) (hG : E.G = Γ.G) (h : Sat Γ S W D ρ st a w) (hg : GdOk W g a) (hd : d < Γ.N) (hnd : ¬ W d) {t ty : TypeId} {x : Operand}
    (hf : (lenM E i g d t x).Ev st.get eff) (hvc : ∀ p ∈ eff.vc, p) : PureOk Γ S W D ρ st a w g d eff (Builtin.len_ #[t] ty #[a.eval x]) := by
  simp only [lenM, ev_bind] at hf
  obtain ⟨u, hu, hf⟩ := hf
  rw [hP] at hf
  have hx := fun he => opd_den hG h hg he hu
  split at hf
  · rename_i s e1
    have hx : Exec g a → a.eval x = .string ⟨s.toArray⟩ := hx
    exact fin_ok h hg hd hnd hf hvc trivial (fun he hvs => ⟨.int .i64 s.length, by rw [hx he]; simp only [Builtin.len_]; simp [under_run e1, goInt, size_mk], rfl⟩)
  · rename_i el sz n f e1
    refine fin_ok h hg hd hnd hf hvc trivial (fun he hvs => ⟨.int .i64 n, ?_, rfl⟩)
    obtain ⟨ad, cp, e, _⟩ := hx he
    rw [e]; simp [Builtin.len_, under_run e1, goInt]
  · rename_i el e1
    refine fin_ok h hg hd hnd hf hvc trivial (fun he hvs => ⟨.int .i64 0, ?_, rfl⟩)
    have e : a.eval x = .slice none 0 0 := hx he
    rw [e]; simp [Builtin.len_, under_run e1, goInt]
  · rename_i el sz id off n e1
    refine fin_ok h hg hd hnd hf hvc trivial (fun he hvs => ⟨.int .i64 n, ?_, rfl⟩)
    rcases (hx he : Den D ρ (.row sz id off n) (a.eval x)) with ⟨o, e, _⟩ | ⟨_, _, hn, ad, _, e⟩
    · rw [e]; simp [Builtin.len_, under_run e1, goInt]
    · rw [e]; simp [Builtin.len_, under_run e1, goInt, hn]
  · simp [ev_fail] at hf

theorem extract_ok (hG : E.G = Γ.G) (h : Sat Γ S W D ρ st a w) (hg : GdOk W g a) (hd : d < Γ.N) (hnd : ¬ W d) {x : Operand} {k : Nat}
    (hf : (extractM E i g d x k).Ev st.get eff) (hvc : ∀ p ∈ eff.vc, p) : PureOk Γ S W D ρ st a w g d eff (Instr.extract (a.eval x) k) := by
  unfold extractM at hf
  split at hf
  · rename_i t
    simp only [ev_bind, ev_rd] at hf
    obtain ⟨kv, hk, hf⟩ := hf
    obtain ⟨tv, rfl, hl⟩ := get_tm hk
    obtain ⟨u, hu, hdn⟩ := h.tm t tv hl
    have hin := h.idT t tv hl
    cases tv with
    | v y => simp [ev_fail] at hf
    | cnd _ _ _ => simp [ev_fail] at hf
    | junk => simp [ev_fail] at hf
    | tup l =>
      simp only [ev_bind, ev_opt] at hf
      obtain ⟨v, hv, hf⟩ := hf
      rw [nth_eq] at hv
      obtain ⟨vs, e, h1, h2⟩ := hdn
      subst e
      obtain ⟨y, hy, hdy⟩ := h2 k v hv
      exact fin_ok h hg hd hnd hf hvc (hin k v hv) (fun he hvs => ⟨y, by rw [tmps_getD hu]; simp [Instr.extract, hy], hdy⟩)
  · simp [ev_fail] at hf

theorem pick_ok (hG : E.G = Γ.G) (h : Sat Γ S W D ρ st a w) (hg : GdOk W g a) (hd : d < Γ.N) (hnd : ¬ W d) {c x y : Operand}
    (hf : (pickM E i g d c x y).Ev st.get eff) (hvc : ∀ p ∈ eff.vc, p) :
    PureOk Γ S W D ρ st a w g d eff (do pure (if ← asBool (a.eval c) then a.eval x else a.eval y)) := by
  unfold pickM at hf
  split at hf
  · rename_i t
    simp only [ev_bind] at hf
    obtain ⟨vc, hvc0, b, hb, g1, hg1, g2, hg2, p, hp, q, hq, bp, hbp, bq, hbq, hf⟩ := hf
    have hb := bool_ev hb
    have hbp := bool_ev hbp
    have hbq := bool_ev hbq
    subst hb hbp hbq
    refine fin_ok h hg hd hnd hf hvc trivial (fun he hvs => ⟨.bool (cond b bp bq), ?_, rfl⟩)
    have hc : a.eval (.tmp t) = .bool b := opd_den hG h hg he hvc0
    have ht : a.tmps[t]? = some (.bool b) := by
      simp only [Act.eval, Array.getD_eq_getD_getElem?] at hc
      cases hh : a.tmps[t]? with
      | none => simp [hh, undef] at hc
      | some z => simp [hh] at hc; rw [hc]
    -- an operand under 'slot t holds ww', where it does
    have opd : ∀ (ww : Bool) (z : Operand) (bz : Bool) (g' : Gd), (gdM 9 t ww).Ev st.get g' → (opdM E (some g') z).Ev st.get (.c (.bool bz)) → b = ww → a.eval z = .bool bz := by
      intro ww z bz g' hg' hz hbw
      subst hbw
      cases z with
      | tmp t2 =>
        have hz' := hz
        simp only [opdM, ev_bind, ev_rd] at hz
        obtain ⟨kv, hk, hz⟩ := hz
        obtain ⟨tv, rfl, hl⟩ := get_tm hk
        obtain ⟨u2, hu2, hd2⟩ := h.tm t2 tv hl
        cases tv with
        | v v => simp only [ev_ret] at hz; subst hz; rw [tmps_getD hu2]; exact hd2
        | tup l => simp [ev_fail] at hz
        | junk => simp [ev_fail] at hz
        | cnd t' w' v =>
          by_cases hWt : W t
          · obtain ⟨e1, e2, ok⟩ := gdM_ok h 9 t b g' hg' hWt
            exact opd_den hG h (g := some g') (by intro gd e; cases e; exact ok) (by intro gd e; cases e; rw [e1, e2]; exact ht) hz'
          · generalize (9 : Nat) = n9 at hg'
            cases n9 with
            | zero => simp [gdM, ev_fail] at hg'
            | succ n9 =>
            simp only [gdM, ev_bind, ev_rd] at hg'
            obtain ⟨kv3, hk3, hg'⟩ := hg'
            obtain ⟨tv3, rfl, hl3⟩ := get_tm hk3
            obtain ⟨u3, hu3, hd3⟩ := h.tm t tv3 hl3
            simp only [ev_bind, ev_guard, ev_ret] at hz
            obtain ⟨_, hin, rfl⟩ := hz
            split at hg'
            · simp only [ev_ret] at hg'
              subst hg'
              have := inCh_mem hin
              simp only [List.mem_singleton, Prod.mk.injEq] at this
              exact (hWt (this.1 ▸ hd2.1)).elim
            · rename_i t4 w4 b4 e4
              simp only [KV.tv.injEq] at e4
              subst e4
              simp only [ev_bind, ev_ret] at hg'
              obtain ⟨g0, hg0, rfl⟩ := hg'
              rcases List.mem_cons.1 (inCh_mem hin) with hm | hm
              · simp only [Prod.mk.injEq] at hm
                exact (hWt (hm.1 ▸ hd2.1)).elim
              · obtain ⟨e1, e2, ok⟩ := gdM_ok h _ t4 w4 g0 hg0 hd3.1
                have hout : a.tmps[t4]? = some (.bool w4) := by
                  by_cases hh : a.tmps[t4]? = some (.bool w4)
                  · exact hh
                  · have := hd3.2.2 hh
                    subst this
                    rw [hu3] at ht
                    simp [undef] at ht
                rw [tmps_getD hu2]
                exact hd2.2.1 (ok.ch (by rw [e1, e2]; exact hout) _ _ hm)
            · simp [ev_fail] at hg'
      | const v => simp only [opdM, ev_opt] at hz; exact cstV_den hz D ρ
      | global n =>
        simp only [opdM] at hz
        split at hz
        · simp [ev_ret] at hz
        · simp [ev_fail] at hz
      | func f => simp [opdM, ev_ret] at hz
    rw [hc]
    cases b with
    | true => simp [asBool, opd true x bp g1 hg1 hp rfl]
    | false => simp [asBool, opd false y bq g2 hg2 hq rfl]
  · simp [ev_fail] at hf

theorem move_ok (hG : E.G = Γ.G) (h : Sat Γ S W D ρ st a w) (hg : GdOk W g a) (hd : d < Γ.N) (hnd : ¬ W d) {x : Operand}
    (hf : (bind (opdM E g x) fun v => finM E i g d [] v).Ev st.get eff) (hvc : ∀ p ∈ eff.vc, p) : PureOk Γ S W D ρ st a w g d eff (pure (a.eval x)) := by
  simp only [ev_bind] at hf
  obtain ⟨u, hu, hf⟩ := hf
  exact fin_ok h hg hd hnd hf hvc (opd_inS hG h hu) (fun he _ => ⟨_, rfl, opd_den hG h hg he hu⟩)

end
end Go.Sv
