/-
  Own layer 'SV' (13): one operation, whichever it is.
-/
import Derived.Test.YtmacpjddafcjcaaDoorSvCallOk
import Derived.Test.YtmacpjddafcjcaaDoorSvConv
import Derived.Orders
set_option linter.all false
namespace Go.Sv
open M

def noEqs : Eqs := ⟨[], [], [], []⟩
def eM (m : M Eff) : M (Eff × Eqs) := bind m fun e => ret (e, noEqs)

def valM (E : Env) (cs : List (Nat × CallE E.P E.G)) (i nid : Nat) (g : OG) (d : Option Nat) (f : Operand) (args : List Operand) : M (Eff × Eqs) :=
  match f, args, d with
  | .func k, [x], some d => match isNoEsc E.P k with
    | true => eM (bind (opdM E g x) fun v => finM E i g d [] v)
    | false => callM E cs i nid g (some d) (.func k) [x]
  | f, args, d => callM E cs i nid g d f args

/-- An operation that is to be carried out (where its guard holds, if it has one). -/
def actM (E : Env) (cs : List (Nat × CallE E.P E.G)) (i nid : Nat) (g : OG) (o : Oper) : M (Eff × Eqs) :=
  match o.op, o.dst with
  | .move x, some d => eM (moveXM E i g d x)
  | .assign x, some d => eM (moveXM E i g d x)
  | .pick c x y, some d => eM (pickXM E i g d c x y)
  | .alloc t, some d => bind (pure1 g) fun _ => bind (opt (tZero E.P t)) fun z => ret (⟨[(.bk nid, .bk (.box t z)), (.tm d, .tv (.v (.c (.ptr nid 0))))], []⟩, noEqs)
  | .box t x, some d => bind (pure1 g) fun _ => bind (opdM E none x) fun v => ret (⟨[(.bk nid, .bk (.box t v.cells)), (.tm d, .tv (.v (.c (.ptr nid 0))))], []⟩, noEqs)
  | .build t ps, some d => eM (buildM E i g d t ps.toList)
  | .buildSlice t n ps, some d => eM (buildPubM E i nid g d t n ps.toList)
  | .load t x, some d => eM (loadM E i g d t x)
  | .store t x y, none => eM (storeM E i g t x y)
  | .nilCheck x, some d => eM (nilChkM E i g d x)
  | .binOp op t x y _, some d => eM (binM E i g d op t x y)
  | .unOp op _ x, some d => eM (unM E i g d op x)
  | .convert s t x, some d => eM (convXM E i g d s t x)
  | .makeInterface t x, some d => eM (mkIfcM E i g d t x)
  | .makeFunc fn f c, some d => eM (mkFnM E i g d fn f.toList c.toList)
  | .slice t x lo hi mx, some d => eM (sliceM E i g d t x lo hi mx)
  | .fieldAddr t x f, some d => eM (faddrM E i g d t x f)
  | .field t x f, some d => eM (fieldM E i g d t x f)
  | .indexAddr t x y, some d => eM (iaddrM E i g d t x y)
  | .index t x y, some d => eM (indexM E i g d t x y)
  | .extract x k, some d => eM (extractM E i g d x k)
  | .makeMap t r, some d => eM (makeMapM E i nid g d t r)
  | .lookup t x y ok, some d => eM (lookupM E i g d t x y ok)
  | .mapUpdate t x y z, none => eM (mapUpdM E i g t x y z)
  | .insert t x y z, none => eM (mapUpdM E i g t x y z)
  | .range t x, some d => eM (rangeM E nid g d t x)
  | .next x str, some d => eM (nextM E i g d x str)
  | .call c, dst => match c.callee, c.args.toList, c.argTypes.toList, dst with
    | .builtin .len, [x], [t], some d => eM (lenM E i g d t x)
    | .builtin .append, [x, y], [t, t2], some d => eM (appendM E i nid g d t t2 x y)
    | .builtin .unsafeSliceData, [x], _, some d => eM (slDataM E i g d x)
    | .builtin .unsafeString, [x, y], [t, _], some d => eM (unStrM E i g d t x y)
    | .builtin .min, [x, y], _, some d => eM (minmaxM E i g d true x y)
    | .builtin .max, [x, y], _, some d => eM (minmaxM E i g d false x y)
    | .value f, args, _, dst => valM E cs i nid g dst f args
    | _, _, _, _ => fail
  | _, _ => fail

def boolOf : KV → M Bool
  | .tv (.v (.c (.bool b))) => ret b
  | _ => fail
def opM (E : Env) (cs : List (Nat × CallE E.P E.G)) (i nid : Nat) (o : Oper) : M (Eff × Eqs) :=
  match o.guard with
  | none => actM E cs i nid none o
  | some (j, w) => bind (opt (nth E.all j)) fun oj => bind (opt oj.dst) fun t =>
    match look E.grd i with
    | some true => bind (rd (.tm t)) fun kv => bind (boolOf kv) fun b => bind (actM E cs i nid none o) fun e => ret (⟨e.1.wr, (b = w) :: e.1.vc⟩, e.2)
    | some false => bind (rd (.tm t)) fun kv => bind (boolOf kv) fun b => match o.dst with
      | some d => ret (⟨[(.tm d, .gone)], [b = !w]⟩, noEqs)
      | none => ret (⟨[], [b = !w]⟩, noEqs)
    | none => bind (gdM 9 t w) fun g => actM E cs i nid (some g) o

section
variable {Γ : Ctx} {S W : Nat → Prop} {D : Dat} {ρ : Rho} {st : St} {a : Act} {w : World} {E : Env} {i nid : Nat} {g : OG} {eff : Eff} {eqs : Eqs}

/-- What an operation comes to. -/
def ActOk (Γ : Ctx) (S W : Nat → Prop) (st : St) (a : Act) (w : World) (g : OG) (o : Oper) (nid : Nat) (eff : Eff) : Prop :=
  (Exec g a → ∀ (K : Act → World → Prop) (Q : Exit → Act → World → Prop), (∀ a' w', SatE Γ (sPlus S nid) (dPlus W o.dst) (st.sets eff.wr) a' w' → K a' w') → o.wp Γ.P a w K Q) ∧
  (¬ Exec g a → SatE Γ (sPlus S nid) (dPlus W o.dst) (st.sets eff.wr) (a.put o.dst undef) w)

theorem act_pure {o : Oper} {d : Nat} (hd : o.dst = some d) {sem : Sem Value} (hs : execOp a.eval o = (do pure (.value (← sem)))) (h : PureOk Γ S W D ρ st a w g d eff sem) : ActOk Γ S W st a w g o nid eff := by
  have cv : ∀ a' , Sat Γ S (wPlus W d) D ρ (st.sets eff.wr) a' w → SatE Γ (sPlus S nid) (dPlus W o.dst) (st.sets eff.wr) a' w := fun a' h =>
    ⟨D, ρ, h.mono (fun _ h => .inl h) (fun t ht => ht.imp id (fun e => by rw [hd, e]))⟩
  refine ⟨fun he K Q hK => ?_, fun he => ?_⟩
  · obtain ⟨u, hu, hsat⟩ := h.1 he
    unfold Oper.wp
    rw [hs]
    simp only [Sem.run_bind, hu, Result.andThen_ok, Sem.run_pure, Oper.upon_value]
    rw [hd]
    exact hK _ _ (cv _ hsat)
  · rw [hd] at *
    have := h.2 he
    exact ⟨D, ρ, this.mono (fun _ h => .inl h) (fun t ht => ht.imp id (fun e => by rw [e]))⟩

theorem act_run {o : Oper} {d : Nat} (hd : o.dst = some d) {sem : Sem Value} (hs : Exec g a → ∀ u, sem.run Γ.P w = .ok u w → (execOp a.eval o).run Γ.P w = .ok (.value u) w) (h : PureOk Γ S W D ρ st a w g d eff sem) : ActOk Γ S W st a w g o nid eff := by
  have cv : ∀ a' , Sat Γ S (wPlus W d) D ρ (st.sets eff.wr) a' w → SatE Γ (sPlus S nid) (dPlus W o.dst) (st.sets eff.wr) a' w := fun a' h =>
    ⟨D, ρ, h.mono (fun _ h => .inl h) (fun t ht => ht.imp id (fun e => by rw [hd, e]))⟩
  refine ⟨fun he K Q hK => ?_, fun he => ?_⟩
  · obtain ⟨u, hu, hsat⟩ := h.1 he
    unfold Oper.wp
    rw [hs he u hu]
    simp only [Oper.upon_value]
    rw [hd]
    exact hK _ _ (cv _ hsat)
  · have := cv _ (h.2 he)
    rw [hd] at *
    exact this

theorem act_eff {o : Oper} {d : Nat} (hd : o.dst = some d) {sem : Sem Value} (hs : execOp a.eval o = (do pure (.value (← sem)))) (hg : g = none) (h : EffOk Γ S W st a w (some d) nid eff sem) : ActOk Γ S W st a w g o nid eff := by
  obtain ⟨u, w', hu, hsat⟩ := h
  subst hg
  refine ⟨fun he K Q hK => ?_, fun he => (he (by intro gd e; cases e)).elim⟩
  unfold Oper.wp
  rw [hs]
  simp only [Sem.run_bind, hu, Result.andThen_ok, Sem.run_pure, Oper.upon_value]
  rw [hd]
  refine hK _ _ ?_
  rw [hd]
  exact hsat

theorem pure1_ev {u : Unit} {L : Key → Option KV} (h : (pure1 g).Ev L u) : g = none := by
  cases g with
  | none => rfl
  | some gd => simp [pure1, ev_fail] at h

theorem act_ok (hP : E.P = Γ.P) (hG : E.G = Γ.G) {cs : List (Nat × CallE E.P E.G)} (h : Sat Γ S W D ρ st a w) (hg : GdOk W g a) (hfr : Fresh S nid) {o : Oper} (hd : ∀ x, o.dst = some x → x < Γ.N ∧ ¬ W x)
    (hf : (actM E cs i nid g o).Ev st.get (eff, eqs)) (hvc : ∀ p ∈ eff.vc, p) (he1 : eqs.el = eqs.er) (he2 : eqs.bl = eqs.br) : ActOk Γ S W st a w g o nid eff := by
  have un : ∀ {m : M Eff}, (eM m).Ev st.get (eff, eqs) → m.Ev st.get eff := by
    intro m hm
    simp only [eM, ev_bind, ev_ret, Prod.mk.injEq] at hm
    obtain ⟨e, h1, rfl, _⟩ := hm
    exact h1
  unfold actM at hf
  split at hf
  case h_1 x d ho hdst => exact act_pure hdst (by simp only [execOp, ho]; rfl) (moveX_ok hG h hg (hd d hdst).1 (hd d hdst).2 (un hf) hvc)
  case h_2 x d ho hdst => exact act_pure hdst (by simp only [execOp, ho]; rfl) (moveX_ok hG h hg (hd d hdst).1 (hd d hdst).2 (un hf) hvc)
  case h_3 c x y d ho hdst => exact act_pure hdst (by simp only [execOp, ho, bind_assoc, pure_bind]) (pickX_ok hG h hg (hd d hdst).1 (hd d hdst).2 (un hf) hvc)
  case h_4 t d ho hdst =>
    simp only [ev_bind, ev_opt, ev_ret, Prod.mk.injEq] at hf
    obtain ⟨_, h1, z, hz, rfl, _⟩ := hf
    exact act_eff hdst (by simp only [execOp, ho]) (pure1_ev h1) (alloc_ok hP h hfr (hd d hdst).1 (hd d hdst).2 hz)
  case h_5 t x d ho hdst =>
    simp only [ev_bind, ev_opt, ev_ret, Prod.mk.injEq] at hf
    obtain ⟨_, h1, v, hv, rfl, _⟩ := hf
    exact act_eff hdst (by simp only [execOp, ho]) (pure1_ev h1) (box_ok hG h hfr (hd d hdst).1 (hd d hdst).2 hv)
  case h_6 t ps d ho hdst => exact act_pure hdst (by simp only [execOp, ho]) (build_ok hP hG h hg (hd d hdst).1 (hd d hdst).2 (un hf) hvc)
  case h_7 t n ps d ho hdst =>
    obtain ⟨hg0, hef⟩ := buildPub_ok hP hG h hfr (hd d hdst).1 (hd d hdst).2 (un hf) hvc
    exact act_eff hdst (by simp only [execOp, ho]) hg0 hef
  case h_8 t x d ho hdst => exact act_pure hdst (by simp only [execOp, ho]) (load_ok hP hG h hg (hd d hdst).1 (hd d hdst).2 (un hf) hvc)
  case h_9 t x y ho hdst =>
    obtain ⟨rfl, w', hr, hs⟩ := store_ok hP hG h (un hf) hvc
    refine ⟨fun he K Q hK => ?_, fun he => (he (by intro gd e; cases e)).elim⟩
    unfold Oper.wp
    simp only [execOp, ho, Sem.run_bind, hr, Result.andThen_ok, Sem.run_pure, Oper.upon_skip, hdst]
    refine hK _ _ ⟨D, ρ, ?_⟩
    exact hs.mono (fun _ h => .inl h) (fun _ h => .inl h)
  case h_10 x d ho hdst =>
    obtain ⟨h1, h2⟩ := nilChk_ok hG h hg (hd d hdst).1 (hd d hdst).2 (un hf) hvc
    refine act_run hdst (fun he u hu => ?_) h1
    simp only [Sem.run_pure, Result.ok.injEq, and_true] at hu
    subst hu
    rcases h2 he with ⟨ad, e⟩ | ⟨f, k, c, e⟩
    · simp only [execOp, ho, e]; rfl
    · simp only [execOp, ho, e]; rfl
  case h_11 op t x y yt d ho hdst => exact act_pure hdst (by simp only [execOp, ho]) (bin_ok hP hG h hg (hd d hdst).1 (hd d hdst).2 (un hf) hvc)
  case h_12 op t x d ho hdst => exact act_pure hdst (by simp only [execOp, ho]) (un_ok hP hG h hg (hd d hdst).1 (hd d hdst).2 (un hf) hvc)
  case h_13 s t x d ho hdst => exact act_pure hdst (by simp only [execOp, ho]) (convX_ok hP hG h hg (hd d hdst).1 (hd d hdst).2 (un hf) hvc)
  case h_14 t x d ho hdst => exact act_pure hdst (by simp only [execOp, ho]) (mkIfc_ok hP hG h hg (hd d hdst).1 (hd d hdst).2 (un hf) hvc)
  case h_15 fn f c d ho hdst => exact act_pure hdst (by simp only [execOp, ho]) (mkFn_ok hG h hg (hd d hdst).1 (hd d hdst).2 (un hf) hvc)
  case h_16 t x lo hi mx d ho hdst => exact act_pure hdst (by simp only [execOp, ho]) (slice_ok hP hG h hg (hd d hdst).1 (hd d hdst).2 (un hf) hvc)
  case h_17 t x f d ho hdst => exact act_pure hdst (by simp only [execOp, ho]) (faddr_ok hP hG h hg (hd d hdst).1 (hd d hdst).2 (un hf) hvc)
  case h_18 t x f d ho hdst => exact act_pure hdst (by simp only [execOp, ho]) (field_ok hP hG h hg (hd d hdst).1 (hd d hdst).2 (un hf) hvc)
  case h_19 t x y d ho hdst => exact act_pure hdst (by simp only [execOp, ho]) (iaddr_ok hP hG h hg (hd d hdst).1 (hd d hdst).2 (un hf) hvc)
  case h_20 t x y d ho hdst => exact act_pure hdst (by simp only [execOp, ho]) (index_ok hP hG h hg (hd d hdst).1 (hd d hdst).2 (un hf) hvc)
  case h_21 x k d ho hdst => exact act_pure hdst (by simp only [execOp, ho]) (extract_ok hG h hg (hd d hdst).1 (hd d hdst).2 (un hf) hvc)
  case h_22 t r d ho hdst =>
    obtain ⟨hg0, hef⟩ := makeMap_ok h hfr (hd d hdst).1 (hd d hdst).2 (un hf)
    exact act_eff hdst (by simp only [execOp, ho]) hg0 hef
  case h_23 t x y ok d ho hdst => exact act_pure hdst (by simp only [execOp, ho]) (lookup_ok hP hG h hg (hd d hdst).1 (hd d hdst).2 (un hf) hvc)
  case h_24 t x y z ho hdst =>
    obtain ⟨rfl, w', hr, hs⟩ := mapUpd_ok hP hG h (un hf) hvc
    refine ⟨fun he K Q hK => ?_, fun he => (he (by intro gd e; cases e)).elim⟩
    unfold Oper.wp
    simp only [execOp, ho, Sem.run_bind, hr, Result.andThen_ok, Sem.run_pure, Oper.upon_skip, hdst]
    refine hK _ _ ⟨D, ρ, ?_⟩
    exact hs.mono (fun _ h => .inl h) (fun _ h => .inl h)
  case h_25 t x y z ho hdst =>
    obtain ⟨rfl, w', hr, hs⟩ := mapUpd_ok hP hG h (un hf) hvc
    refine ⟨fun he K Q hK => ?_, fun he => (he (by intro gd e; cases e)).elim⟩
    unfold Oper.wp
    simp only [execOp, ho, Sem.run_bind, hr, Result.andThen_ok, Sem.run_pure, Oper.upon_skip, hdst]
    refine hK _ _ ⟨D, ρ, ?_⟩
    exact hs.mono (fun _ h => .inl h) (fun _ h => .inl h)
  case h_26 t x d ho hdst =>
    obtain ⟨hg0, hef⟩ := range_ok hP hG h hfr (hd d hdst).1 (hd d hdst).2 (un hf)
    exact act_eff hdst (by simp only [execOp, ho]) hg0 hef
  case h_27 x str d ho hdst =>
    obtain ⟨hg0, hef⟩ := next_ok (ty := o.type) hP hG h (hd d hdst).1 (hd d hdst).2 (un hf) hvc
    exact act_eff hdst (by simp only [execOp, ho]) hg0 hef
  case h_28 dst c ho =>
    split at hf
    · rename_i x t d hcal hargs htys hdst
      refine act_pure hdst ?_ (len_ok (ty := o.type) hP hG h hg (hd d hdst).1 (hd d hdst).2 (un hf) hvc)
      have ha : c.args = #[x] := by
        cases hh : c.args with
        | mk l => rw [hh] at hargs; simp at hargs; rw [hargs]
      have ht : c.argTypes = #[t] := by
        cases hh : c.argTypes with
        | mk l => rw [hh] at htys; simp at htys; rw [htys]
      have hm : (#[x] : Array Operand).map a.eval = #[a.eval x] := by simp
      simp only [execOp, ho, resolve, hcal, ha, ht, pure_bind, invoke, builtin, hm]
    · rename_i x y t t2 d hcal hargs htys hdst
      obtain ⟨hg0, hef⟩ := append_ok (ty := o.type) hP hG h hfr (hd d hdst).1 (hd d hdst).2 (un hf) hvc
      refine act_eff hdst ?_ hg0 hef
      have ha : c.args = #[x, y] := by
        cases hh : c.args with
        | mk l => rw [hh] at hargs; simp at hargs; rw [hargs]
      have ht : c.argTypes = #[t, t2] := by
        cases hh : c.argTypes with
        | mk l => rw [hh] at htys; simp at htys; rw [htys]
      have hm : (#[x, y] : Array Operand).map a.eval = #[a.eval x, a.eval y] := by simp
      simp only [execOp, ho, resolve, hcal, ha, ht, pure_bind, invoke, builtin, hm]
    · rename_i x d hcal hargs hdst
      have ha : c.args = #[x] := by
        cases hh : c.args with
        | mk l => rw [hh] at hargs; simp at hargs; rw [hargs]
      have hm : (#[x] : Array Operand).map a.eval = #[a.eval x] := by simp
      exact act_pure hdst (by simp only [execOp, ho, resolve, hcal, ha, pure_bind, invoke, builtin, hm]) (slData_ok (ts := c.argTypes) (ty := o.type) hG h hg (hd d hdst).1 (hd d hdst).2 (un hf) hvc)
    · rename_i x y t it d hcal hargs htys hdst
      have ha : c.args = #[x, y] := by
        cases hh : c.args with
        | mk l => rw [hh] at hargs; simp at hargs; rw [hargs]
      have ht : c.argTypes = #[t, it] := by
        cases hh : c.argTypes with
        | mk l => rw [hh] at htys; simp at htys; rw [htys]
      have hm : (#[x, y] : Array Operand).map a.eval = #[a.eval x, a.eval y] := by simp
      obtain ⟨hg0, hef⟩ := unStr_ok (it := it) (ty := o.type) hP hG h (hd d hdst).1 (hd d hdst).2 (un hf) hvc
      exact act_eff hdst (by simp only [execOp, ho, resolve, hcal, ha, ht, pure_bind, invoke, builtin, hm]) hg0 hef
    · rename_i x y d hcal hargs hdst
      have ha : c.args = #[x, y] := by
        cases hh : c.args with
        | mk l => rw [hh] at hargs; simp at hargs; rw [hargs]
      have hm : (#[x, y] : Array Operand).map a.eval = #[a.eval x, a.eval y] := by simp
      exact act_pure hdst (by simp only [execOp, ho, resolve, hcal, ha, pure_bind, invoke, builtin, hm]; rfl) (minmax_ok (ts := c.argTypes) (ty := o.type) (mn := true) hP hG h hg (hd d hdst).1 (hd d hdst).2 (un hf) hvc)
    · rename_i x y d hcal hargs hdst
      have ha : c.args = #[x, y] := by
        cases hh : c.args with
        | mk l => rw [hh] at hargs; simp at hargs; rw [hargs]
      have hm : (#[x, y] : Array Operand).map a.eval = #[a.eval x, a.eval y] := by simp
      exact act_pure hdst (by simp only [execOp, ho, resolve, hcal, ha, pure_bind, invoke, builtin, hm]; rfl) (minmax_ok (ts := c.argTypes) (ty := o.type) (mn := false) hP hG h hg (hd d hdst).1 (hd d hdst).2 (un hf) hvc)
    · rename_i f hcal
      have gen : ∀ f, c.callee = .value f → (callM E cs i nid g o.dst f c.args.toList).Ev st.get (eff, eqs) → ActOk Γ S W st a w g o nid eff := by
        intro f hcal hf
        obtain ⟨h1, h2⟩ := call_ok hP hG h hg hfr hd hf he1 he2
        exact ⟨fun he K Q hK => h1 he o c K Q ho hcal rfl rfl hK, h2⟩
      unfold valM at hf
      split at hf
      · rename_i k x d hargs hdst
        split at hf
        · rename_i hn
          rw [hP] at hn
          have ha : c.args = #[x] := by
            cases hh : c.args with
            | mk l => rw [hh] at hargs; simp at hargs; rw [hargs]
          have hm : (#[x] : Array Operand).map a.eval = #[a.eval x] := by simp
          refine act_run hdst (fun he u hu => ?_) (move_ok hG h hg (hd d hdst).1 (hd d hdst).2 (un hf) hvc)
          simp only [Sem.run_pure, Result.ok.injEq] at hu
          obtain ⟨rfl, _⟩ := hu
          simp only [execOp, ho, resolve, hcal, ha, hm, Deferred.ofValue, Act.eval, pure_bind, invoke]
          exact noEsc_run hn _ w
        · exact gen _ hcal (by rw [hdst, hargs]; exact hf)
      · exact gen _ hcal hf
    · simp [ev_fail] at hf
  case h_29 => simp [ev_fail] at hf

theorem bool_kv {kv : KV} {b : Bool} {L : Key → Option KV} (h : (boolOf kv).Ev L b) : kv = .tv (.v (.c (.bool b))) := by
  unfold boolOf at h
  split at h
  · simp only [ev_ret] at h; rw [h]
  · simp [ev_fail] at h

theorem op_ok (hP : E.P = Γ.P) (hG : E.G = Γ.G) {cs : List (Nat × CallE E.P E.G)} {ops : Array Oper} (hall : E.all = ops.toList) (h : Sat Γ S W D ρ st a w) (hfr : Fresh S nid) {o : Oper} (ho : ops[i]? = some o)
    (hd : ∀ x, o.dst = some x → x < Γ.N ∧ ¬ W x) (hgw : ∀ j b oj t, o.guard = some (j, b) → ops[j]? = some oj → oj.dst = some t → W t)
    (hf : (opM E cs i nid o).Ev st.get (eff, eqs)) (hvc : ∀ p ∈ eff.vc, p) (he1 : eqs.el = eqs.er) (he2 : eqs.bl = eqs.br)
    {K : Act → World → Prop} {Q : Exit → Act → World → Prop} (hK : ∀ a' w', SatE Γ (sPlus S nid) (dPlus W o.dst) (st.sets eff.wr) a' w' → K a' w') : wpOp Γ.P ops Q i K a w := by
  unfold wpOp
  rw [ho]
  simp only
  unfold opM at hf
  cases hgd : o.guard with
  | none =>
    rw [hgd] at hf
    simp only at hf
    have hw : Region.wanted o (yielded ops a.tmps) = true := by simp [Region.wanted, hgd]
    rw [if_pos hw]
    exact .inl ((act_ok hP hG h (g := none) (by intro gd e; cases e) hfr hd hf hvc he1 he2).1 (by intro gd e; cases e) K Q hK)
  | some p =>
    obtain ⟨j, b⟩ := p
    rw [hgd] at hf
    simp only [ev_bind, ev_opt] at hf
    obtain ⟨oj, hoj, t, ht, hf⟩ := hf
    rw [nth_eq, hall] at hoj
    have hoj : ops[j]? = some oj := by simpa using hoj
    have hWt := hgw j b oj t hgd hoj ht
    have hy : yielded ops a.tmps j = (match a.tmps[t]? with | some (.bool b) => some b | _ => none) := by
      simp only [yielded, hoj, Option.bind_some, ht]
      rfl
    have hwant : Region.wanted o (yielded ops a.tmps) = true ↔ a.tmps[t]? = some (.bool b) := by
      simp only [Region.wanted, hgd, hy]
      cases hh : a.tmps[t]? with
      | none => simp
      | some v => cases v <;> simp
    split at hf
    · simp only [ev_bind, ev_rd, ev_ret, Prod.mk.injEq] at hf
      obtain ⟨kv, hk, b', hb', e, he, rfl, rfl⟩ := hf
      have := bool_kv hb'
      subst this
      obtain ⟨tv, e2, hl⟩ := get_tm hk
      simp only [KV.tv.injEq] at e2
      subst e2
      obtain ⟨u, hu, hdn⟩ := h.tm t _ hl
      have hdn : u = .bool b' := hdn
      have hbb : b' = b := hvc _ (by simp)
      have hw : Region.wanted o (yielded ops a.tmps) = true := hwant.2 (by rw [hu, hdn, hbb])
      rw [if_pos hw]
      exact .inl ((act_ok hP hG h (g := none) (by intro gd e; cases e) hfr hd (eff := e.1) (eqs := e.2) he (fun p hp => hvc p (by simp [hp])) he1 he2).1 (by intro gd e; cases e) K Q hK)
    · simp only [ev_bind, ev_rd] at hf
      obtain ⟨kv, hk, b', hb', hf⟩ := hf
      have := bool_kv hb'
      subst this
      obtain ⟨tv, e2, hl⟩ := get_tm hk
      simp only [KV.tv.injEq] at e2
      subst e2
      obtain ⟨u, hu, hdn⟩ := h.tm t _ hl
      have hdn : u = .bool b' := hdn
      have fin : b' = (!b) → (∀ a' w', SatE Γ (sPlus S nid) (dPlus W o.dst) (st.sets eff.wr) a' w' → K a' w') → SatE Γ (sPlus S nid) (dPlus W o.dst) (st.sets eff.wr) (a.put o.dst undef) w →
          (if Region.wanted o (yielded ops a.tmps) = true then o.wp Γ.P a w K Q ∨ o.asks Γ.P a w ∧ LetsOut Q else K (a.put o.dst undef) w) := by
        intro hbb hK hs
        rw [if_neg]
        · exact hK _ _ hs
        · rw [hwant, hu, hdn, hbb]
          cases b <;> simp
      split at hf
      · rename_i d hdst
        simp only [ev_ret, Prod.mk.injEq] at hf
        obtain ⟨rfl, _⟩ := hf
        refine fin (hvc _ (by simp)) hK ⟨D, ρ, ?_⟩
        rw [hdst]
        exact ((h.mono (S' := sPlus S nid) (W' := W) (fun _ h => .inl h) (fun _ h => h)).gone (hd d hdst).1 (hd d hdst).2 (fun t ht => .inl ht))
      · rename_i hdst
        simp only [ev_ret, Prod.mk.injEq] at hf
        obtain ⟨rfl, _⟩ := hf
        refine fin (hvc _ (by simp)) hK ⟨D, ρ, ?_⟩
        rw [hdst]
        exact h.mono (fun _ h => .inl h) (fun _ h => .inl h)
    · simp only [ev_bind] at hf
      obtain ⟨g, hg, hf⟩ := hf
      obtain ⟨e1, e2, gok⟩ := gdM_ok h 9 t b g hg hWt
      have gok' : GdOk W (some g) a := by intro gd e; cases e; exact gok
      have hact := act_ok hP hG h (g := some g) gok' hfr hd hf hvc he1 he2
      have hex : Exec (some g) a ↔ a.tmps[t]? = some (.bool b) := by
        constructor
        · intro he; have := he g rfl; rw [e1, e2] at this; exact this
        · intro he gd e; cases e; rw [e1, e2]; exact he
      by_cases hw : Region.wanted o (yielded ops a.tmps) = true
      · rw [if_pos hw]
        exact .inl (hact.1 (hex.2 (hwant.1 hw)) K Q hK)
      · rw [if_neg hw]
        exact hK _ _ (hact.2 (fun he => hw (hwant.2 (hex.1 he))))
end
end Go.Sv
