/-
  Own layer 'SV': pointers and what stands for any of them, bytes to strings and back, min and max.
-/
import Derived.Test.YtmacpjddafcjcaaDoorSvObj
import Derived.Laws.Externs
import Derived.Laws.BytesString
import Derived.KernelRfl
set_option linter.all false
namespace Go.Sv
open M

def bxM (id : Nat) : M (TypeId × List Cell) := bind (rd (.bk id)) fun
  | .bk (.box e cs) => ret (e, cs)
  | _ => fail
def toUnsM (E : Env) (i : Nat) (g : OG) (d : Nat) (e : TypeId) (x : Operand) : M Eff :=
  bind (opdM E g x) fun v => match v with
  | .c .nilptr => finM E i g d [] (.c .nilptr)
  | .c (.ptr id o) => bind (bxM id) fun b => bind (opt (tSize E.P e)) fun sz => bind (guard (bAnd (Nat.blt o (len b.2)) (Nat.blt 0 sz))) fun _ => finM E i g d [] (.c (.ptr id o))
  | _ => fail
def frUnsM (E : Env) (i : Nat) (g : OG) (d : Nat) (u : TypeId) (x : Operand) : M Eff :=
  bind (opdM E g x) fun v => match v with
  | .c .nilptr => finM E i g d [] (.c .nilptr)
  | .c (.ptr id o) => bind (bxM id) fun b => bind (opt (tSize E.P u)) fun sz => bind (guard (liesAt E.P E.P.depth b.1 (len b.2 / E.P.cellsOf b.1) o u 1)) fun _ => finM E i g d [] (.c (.ptr id o))
  | _ => fail
def isByteD : TypeDesc → Bool
  | .int k => kEq k .u8
  | _ => false
def toStrM (E : Env) (i : Nat) (g : OG) (d : Nat) (e : TypeId) (x : Operand) : M Eff :=
  bind (opdM E g x) fun v => bind (guard (tIs E.P isByteD e)) fun _ => match v with
  | .c .nilsl => finM E i g d [] (.c (.str []))
  | .c (.sl 1 n f) => finM E i g d [under g (areBytes f 0 n)] (.c (.str (byteL f 0 n)))
  | .c (.row 1 id off n) => bind (rowM id) fun r => bind (guard (Nat.beq r.2.1 1)) fun _ => finM E i g d [under g (off + n ≤ r.2.2.1), under g (areBytes r.2.2.2 off n)] (.c (.str (byteL r.2.2.2 off n)))
  | _ => fail
def convXM (E : Env) (i : Nat) (g : OG) (d : Nat) (s t : TypeId) (x : Operand) : M Eff :=
  match E.P.underlying s, E.P.underlying t with
  | some (.pointer e), some .unsafePointer => toUnsM E i g d e x
  | some .unsafePointer, some (.pointer u) => frUnsM E i g d u x
  | some (.slice e), some .string => toStrM E i g d e x
  | _, _ => convM E i g d s t x

/-- A pick of which it is known which way it goes. -/
def pickXM (E : Env) (i : Nat) (g : OG) (d : Nat) (c x y : Operand) : M Eff :=
  match look E.grd i with
  | some w => bind (opdM E g c) fun vc => bind (boolM vc) fun b => bind (opdM E g (match w with | true => x | false => y)) fun v => finM E i g d [under g (b = w)] v
  | none => pickM E i g d c x y
/-- A move; also of what a call of several results gave. -/
def moveXM (E : Env) (i : Nat) (g : OG) (d : Nat) (x : Operand) : M Eff :=
  match x with
  | .tmp t => bind (rd (.tm t)) fun kv => match kv with
    | .tv (.tup l) => bind (pure1 g) fun _ => ret ⟨[(.tm d, .tv (.tup l))], []⟩
    | _ => bind (opdM E g (.tmp t)) fun v => finM E i g d [] v
  | x => bind (opdM E g x) fun v => finM E i g d [] v
def minmaxM (E : Env) (i : Nat) (g : OG) (d : Nat) (mn : Bool) (x y : Operand) : M Eff :=
  bind (opdM E g x) fun v => bind (intM v) fun a => bind (opdM E g y) fun v2 => bind (intM v2) fun b =>
  bind (guard (kEq a.1 b.1)) fun _ => match mn with
  | true => finM E i g d [] (.c (.int a.1 (if b.2 < a.2 then b.2 else a.2)))
  | false => finM E i g d [] (.c (.int a.1 (if b.2 > a.2 then b.2 else a.2)))

def isNoEsc (P : Program) (f : FuncId) : Bool := match P.funcs[f]? with
  | some fn => bAnd fn.body.isNone (bAnd (fn.name == "internal/abi.NoEscape") (fn.origin == ""))
  | none => false
theorem a1 : Extern.allNextRows.lookup "internal/abi.NoEscape" = none := by kernel_rfl
theorem a2 : (Extern.allRows.lookup "internal/abi.NoEscape") = some Extern.AbiNoEscape.same := by kernel_rfl
theorem a3 : (Extern.allGenericRows.lookup "internal/abi.NoEscape").isNone = true := by kernel_rfl
theorem a4 : (Extern.allTypedRows.lookup "internal/abi.NoEscape").isNone = true := by kernel_rfl
theorem a5 : (Extern.allNextRows.lookup "").isNone = true := by kernel_rfl
theorem noEsc_run {P : Program} {f : FuncId} (h : isNoEsc P f = true) (x : Value) (w : World) : (callFunc f #[x]).run P w = .ok (.value x) w := by
  unfold isNoEsc at h
  split at h
  · rename_i fn hf
    obtain ⟨h1, h⟩ := bAnd_eq h
    obtain ⟨h2, h3⟩ := bAnd_eq h
    have h2 : fn.name = "internal/abi.NoEscape" := by simpa using h2
    have h3 : fn.origin = "" := by simpa using h3
    have b3 : Extern.allGenericRows.lookup "internal/abi.NoEscape" = none := by simpa using a3
    have b4 : Extern.allTypedRows.lookup "internal/abi.NoEscape" = none := by simpa using a4
    have b5 : Extern.allNextRows.lookup "" = none := by simpa using a5
    rw [run_callFunc_extern hf (by rw [h2]; rfl) h1 (by simp [Extern.findNext, h2, h3, a1, b5]) (e := Extern.AbiNoEscape.same) (by simp [Extern.find, h2, a2, b3, b4])]
    rfl
  · cases h

section
variable {Γ : Ctx} {S W : Nat → Prop} {D : Dat} {ρ : Rho} {st : St} {a : Act} {w : World} {E : Env} {i d nid : Nat} {g : OG} {eff : Eff}

theorem bx_ev {id : Nat} {b : TypeId × List Cell} (h : (bxM id).Ev st.get b) : look st.hp id = some (.box b.1 b.2) := by
  simp only [bxM, ev_bind, ev_rd] at h
  obtain ⟨kv, hk, hl⟩ := h
  obtain ⟨c, rfl, hb⟩ := get_bk hk
  cases c with
  | box e cs => simp only [ev_ret] at hl; subst hl; exact hb
  | row e sz n f => simp [ev_fail] at hl
  | ob o => simp [ev_fail] at hl
theorem box_shape (h : Sat Γ S W D ρ st a w) {id : Nat} {e : TypeId} {cs : List Cell} (hb : look st.hp id = some (.box e cs)) : w.shape? (ρ id).1 = some (e, cs.length) := by
  obtain ⟨_, vs, fz, h1, h2, _⟩ := h.hp id _ hb
  simp [World.shape?, h1, h2]
theorem info_of {P : Program} {t : TypeId} {n : Nat} (h : tSize P t = some n) : ∃ j, P.info? t = some j ∧ j.size = n := by
  unfold tSize at h
  split at h
  · rename_i j hj; simp only [Option.some.injEq] at h; exact ⟨j, hj, h⟩
  · cases h

theorem conv_nil {P : Program} {s t : TypeId} {ds dt : TypeDesc} (hs : P.underlying s = some ds) (ht : P.underlying t = some dt) (h : (∃ e, ds = .pointer e ∧ dt = .unsafePointer) ∨ ∃ u, ds = .unsafePointer ∧ dt = .pointer u) (w : World) :
    (convert s t (.pointer none)).run P w = .ok (.pointer none) w := by
  rcases h with ⟨e, rfl, rfl⟩ | ⟨u, rfl, rfl⟩ <;> simp [convert, run_underlying hs, run_underlying ht, Conv.unsafePointer]

theorem bytes_foldl : ∀ (ns : List Int) (acc : ByteArray), ns.foldl (fun s n => s.push (UInt8.ofNat n.toNat)) acc = ⟨(acc.data.toList ++ ns.map fun n => UInt8.ofNat n.toNat).toArray⟩
  | [], acc => by simp
  | n :: r, acc => by
    simp only [List.foldl_cons]
    rw [bytes_foldl r]
    simp [ByteArray.push]

/-- Bytes to a string, from cells that hold them. -/
theorem toStr_run {P : Program} {s t e : TypeId} (hs : P.underlying s = some (.slice e)) (ht : P.underlying t = some .string) (he : tIs P isByteD e = true) {f : Nat → Nat → Cell} {off n cap : Nat} {b o : Nat} (hb : areBytes f off n)
    (hc : ∀ i, i < n → ∃ ρ, ∃ u, w.cell? ⟨b, o + i, none⟩ = some u ∧ Den D ρ (f (off + i) 0) u) :
    (convert s t (.slice (some ⟨b, o, none⟩) n cap)).run P w = .ok (.string ⟨(byteL f off n).toArray⟩) w := by
  obtain ⟨dd, h1, h2⟩ := tIs_run he
  have hu : P.underlying e = some (.int .u8) := by
    cases dd <;> simp [isByteD] at h2
    rw [← kEq_eq h2]; exact h1
  let ns : List Int := (List.range n).map fun i => ((byteOf (f (off + i) 0)).toNat : Int)
  have hl : ns.length = n := by simp [ns]
  have hload : (loadCells ⟨b, o, none⟩ n).run P w = .ok (ns.map (Value.int .u8)).toArray w := by
    have := run_loadCells_list (P := P) (w := w) ⟨b, o, none⟩ (ns.map (Value.int .u8)) (fun j v hj => by
      simp only [List.getElem?_map, Option.map_eq_some_iff, ns] at hj
      obtain ⟨x, ⟨y, hy, rfl⟩, rfl⟩ := hj
      have hjn : j < n := by
        rcases Nat.lt_or_ge j n with h | h
        · exact h
        · rw [List.getElem?_eq_none (by simpa using h)] at hy; cases hy
      rw [List.getElem?_range hjn, Option.some.injEq] at hy
      subst hy
      obtain ⟨ρ, u, hu, hd⟩ := hc j hjn
      rw [hb j hjn] at hd
      have hd : u = _ := hd
      subst hd
      rw [addr_add]; exact hu)
    rw [List.length_map, hl] at this
    exact this
  have hx := run_bytesToString w ⟨b, o, none⟩ n cap ns hload
  rw [bytes_foldl] at hx
  simp only [convert, Sem.run_bind, run_underlying hs, run_underlying ht, Result.andThen_ok, run_underlying hu]
  rw [hx]
  congr 3
  simp only [ns, byteL, List.map_map]
  have hz : (ByteArray.empty.data.toList : List UInt8) = [] := rfl
  rw [hz, List.nil_append]
  congr 1
  refine List.map_congr_left fun i _ => ?_
  simp

theorem toUns_ok (hP : E.P = Γ.P) (hG : E.G = Γ.G) (h : Sat Γ S W D ρ st a w) (hg : GdOk W g a) (hd : d < Γ.N) (hnd : ¬ W d) {s t e : TypeId} (hs : Γ.P.underlying s = some (.pointer e)) (ht : Γ.P.underlying t = some .unsafePointer) {x : Operand}
    (hf : (toUnsM E i g d e x).Ev st.get eff) (hvc : ∀ p ∈ eff.vc, p) : PureOk Γ S W D ρ st a w g d eff (convert s t (a.eval x)) := by
  simp only [toUnsM, ev_bind] at hf
  obtain ⟨v, hv, hf⟩ := hf
  have hx := fun he => opd_den hG h hg he hv
  have hin := opd_inS hG h hv
  split at hf
  · refine fin_ok h hg hd hnd hf hvc trivial (fun he hvs => ⟨_, ?_, rfl⟩)
    rw [show a.eval x = .pointer none from hx he]
    exact conv_nil hs ht (.inl ⟨e, rfl, rfl⟩) w
  · rename_i id o
    simp only [ev_bind, ev_opt, ev_guard] at hf
    obtain ⟨b, hb, sz, hsz, _, hgd, hf⟩ := hf
    obtain ⟨g1, g2⟩ := bAnd_eq hgd
    have g1 : o < len b.2 := Nat.le_of_ble_eq_true g1
    have g2 : 0 < sz := Nat.le_of_ble_eq_true g2
    rw [len_eq] at g1
    rw [hP] at hsz
    obtain ⟨j, hj, hjs⟩ := info_of hsz
    refine fin_ok h hg hd hnd hf hvc hin (fun he hvs => ⟨.pointer (some ⟨(ρ id).1, o, none⟩), ?_, rfl⟩)
    rw [show a.eval x = .pointer (some ⟨(ρ id).1, o, none⟩) from hx he]
    exact Lib.run_to_unsafe w _ hs ht hj (by omega) (box_shape h (bx_ev hb)) g1
  · simp [ev_fail] at hf

theorem frUns_ok (hP : E.P = Γ.P) (hG : E.G = Γ.G) (h : Sat Γ S W D ρ st a w) (hg : GdOk W g a) (hd : d < Γ.N) (hnd : ¬ W d) {s t u : TypeId} (hs : Γ.P.underlying s = some .unsafePointer) (ht : Γ.P.underlying t = some (.pointer u)) {x : Operand}
    (hf : (frUnsM E i g d u x).Ev st.get eff) (hvc : ∀ p ∈ eff.vc, p) : PureOk Γ S W D ρ st a w g d eff (convert s t (a.eval x)) := by
  simp only [frUnsM, ev_bind] at hf
  obtain ⟨v, hv, hf⟩ := hf
  have hx := fun he => opd_den hG h hg he hv
  have hin := opd_inS hG h hv
  split at hf
  · refine fin_ok h hg hd hnd hf hvc trivial (fun he hvs => ⟨_, ?_, rfl⟩)
    rw [show a.eval x = .pointer none from hx he]
    exact conv_nil hs ht (.inr ⟨u, rfl, rfl⟩) w
  · rename_i id o
    simp only [ev_bind, ev_opt, ev_guard] at hf
    obtain ⟨b, hb, sz, hsz, _, hgd, hf⟩ := hf
    rw [hP, len_eq] at hgd
    rw [hP] at hsz
    obtain ⟨j, hj, hjs⟩ := info_of hsz
    refine fin_ok h hg hd hnd hf hvc hin (fun he hvs => ⟨.pointer (some ⟨(ρ id).1, o, none⟩), ?_, rfl⟩)
    rw [show a.eval x = .pointer (some ⟨(ρ id).1, o, none⟩) from hx he]
    exact Lib.run_from_unsafe w _ hs ht hj (box_shape h (bx_ev hb)) hgd
  · simp [ev_fail] at hf

theorem toStr_ok (hP : E.P = Γ.P) (hG : E.G = Γ.G) (h : Sat Γ S W D ρ st a w) (hg : GdOk W g a) (hd : d < Γ.N) (hnd : ¬ W d) {s t e : TypeId} (hs : Γ.P.underlying s = some (.slice e)) (ht : Γ.P.underlying t = some .string) {x : Operand}
    (hf : (toStrM E i g d e x).Ev st.get eff) (hvc : ∀ p ∈ eff.vc, p) : PureOk Γ S W D ρ st a w g d eff (convert s t (a.eval x)) := by
  simp only [toStrM, ev_bind, ev_guard] at hf
  obtain ⟨v, hv, _, he, hf⟩ := hf
  rw [hP] at he
  have hx := fun hex => opd_den hG h hg hex hv
  have hin := opd_inS hG h hv
  have nul : ∀ cap, (convert s t (.slice none 0 cap)).run Γ.P w = .ok (.string ⟨([] : List UInt8).toArray⟩) w := by
    intro cap
    obtain ⟨dd, h1, h2⟩ := tIs_run he
    have hu : Γ.P.underlying e = some (.int .u8) := by
      cases dd <;> simp [isByteD] at h2
      rw [← kEq_eq h2]; exact h1
    simp only [convert, Sem.run_bind, run_underlying hs, run_underlying ht, Result.andThen_ok, run_underlying hu]
    rfl
  split at hf
  · refine fin_ok h hg hd hnd hf hvc trivial (fun hex hvs => ⟨_, ?_, rfl⟩)
    rw [show a.eval x = .slice none 0 0 from hx hex]
    exact nul 0
  · rename_i n f
    refine fin_ok h hg hd hnd hf hvc trivial (fun hex hvs => ?_)
    have hb : areBytes f 0 n := under_exec (hvs _ (by simp)) hg hex
    obtain ⟨ad, cap, e1, h1, h2, h3⟩ := (hx hex : Den D ρ (.sl 1 n f) (a.eval x))
    rw [e1]
    rcases h3 with ⟨rfl, rfl⟩ | ⟨b, o, rfl, h3⟩
    · have : n = 0 := by omega
      subst this
      exact ⟨_, nul 0, rfl⟩
    · refine ⟨_, toStr_run (D := D) hs ht he hb (fun i hi => ?_), rfl⟩
      obtain ⟨u, hu, hdn⟩ := h3 i hi 0 (by omega)
      exact ⟨rho0, u, by have := h.agree _ _ _ hu; simpa using this, by simpa using hdn⟩
  · rename_i id off n
    simp only [ev_bind, ev_guard] at hf
    obtain ⟨r, hr, _, hg1, hf⟩ := hf
    have hg1 := (beq_eq _ _).1 hg1
    have hrow := row_ev hr
    obtain ⟨re, rs, rn, rf⟩ := r
    simp only at hg1 hrow hf
    subst hg1
    refine fin_ok h hg hd hnd hf hvc trivial (fun hex hvs => ?_)
    have hl : off + n ≤ rn := under_exec (hvs _ (by simp)) hg hex
    have hb : areBytes rf off n := under_exec (hvs _ (by simp)) hg hex
    have zero : n = 0 → ∀ ad cap, (ad = none ∨ ∃ b o, ad = some (⟨b, o, none⟩ : Addr)) → ∃ u, (convert s t (.slice ad 0 cap)).run Γ.P w = .ok u w ∧ DenV D ρ (.c (.str (byteL rf off n))) u := by
      intro hn ad cap had
      subst hn
      rcases had with rfl | ⟨b, o, rfl⟩
      · exact ⟨_, nul cap, rfl⟩
      · exact ⟨_, toStr_run (D := D) hs ht he (f := rf) (off := off) (n := 0) (fun i hi => by omega) (fun i hi => by omega), rfl⟩
    rcases (hx hex : Den D ρ (.row 1 id off n) (a.eval x)) with ⟨o, e1, h1, h2⟩ | ⟨_, _, h1, ad, had, e1⟩
    · by_cases hn : n = 0
      · subst hn; rw [e1]; exact zero rfl _ _ (.inr ⟨_, _, rfl⟩)
      · have ho : o = off * 1 := h2.resolve_right (by omega)
        rw [e1]
        refine ⟨_, toStr_run (D := D) hs ht he hb (fun i hi => ?_), rfl⟩
        rcases h.hp id _ hrow with hbk | ⟨vs, fz, q1, q2, q3, q4, q5, q6, q7, q8⟩
        · omega
        · obtain ⟨u, hu, hdn⟩ := q8 (off + i) (by omega) 0 (by omega)
          refine ⟨ρ, u, ?_, hdn⟩
          simp only [World.cell?, q1, Option.isSome_none, Bool.false_eq_true, if_false]
          rw [← hu, ho]; congr 1; omega
    · subst h1; rw [e1]
      exact zero rfl _ _ had
  · simp [ev_fail] at hf

theorem convX_ok (hP : E.P = Γ.P) (hG : E.G = Γ.G) (h : Sat Γ S W D ρ st a w) (hg : GdOk W g a) (hd : d < Γ.N) (hnd : ¬ W d) {s t : TypeId} {x : Operand}
    (hf : (convXM E i g d s t x).Ev st.get eff) (hvc : ∀ p ∈ eff.vc, p) : PureOk Γ S W D ρ st a w g d eff (convert s t (a.eval x)) := by
  unfold convXM at hf
  split at hf
  · rename_i e hs ht
    exact toUns_ok hP hG h hg hd hnd (hP ▸ hs) (hP ▸ ht) hf hvc
  · rename_i u hs ht
    exact frUns_ok hP hG h hg hd hnd (hP ▸ hs) (hP ▸ ht) hf hvc
  · rename_i e hs ht
    exact toStr_ok hP hG h hg hd hnd (hP ▸ hs) (hP ▸ ht) hf hvc
  · exact conv_ok hP hG h hg hd hnd hf hvc

theorem pickX_ok (hG : E.G = Γ.G) (h : Sat Γ S W D ρ st a w) (hg : GdOk W g a) (hd : d < Γ.N) (hnd : ¬ W d) {c x y : Operand}
    (hf : (pickXM E i g d c x y).Ev st.get eff) (hvc : ∀ p ∈ eff.vc, p) :
    PureOk Γ S W D ρ st a w g d eff (do pure (if ← asBool (a.eval c) then a.eval x else a.eval y)) := by
  unfold pickXM at hf
  split at hf
  · rename_i ww _
    simp only [ev_bind] at hf
    obtain ⟨vc, hvc0, b, hb, v, hv, hf⟩ := hf
    have hb := bool_ev hb
    subst hb
    refine fin_ok h hg hd hnd hf hvc (opd_inS hG h hv) (fun he hvs => ?_)
    have hbw : b = ww := under_exec (hvs _ (by simp)) hg he
    subst hbw
    have hc : a.eval c = .bool b := opd_den hG h hg he hvc0
    have hx := opd_den hG h hg he hv
    rw [hc]
    cases b with
    | true => exact ⟨_, by simp [asBool], hx⟩
    | false => exact ⟨_, by simp [asBool], hx⟩
  · exact pick_ok hG h hg hd hnd hf hvc

theorem moveX_ok (hG : E.G = Γ.G) (h : Sat Γ S W D ρ st a w) (hg : GdOk W g a) (hd : d < Γ.N) (hnd : ¬ W d) {x : Operand}
    (hf : (moveXM E i g d x).Ev st.get eff) (hvc : ∀ p ∈ eff.vc, p) : PureOk Γ S W D ρ st a w g d eff (pure (a.eval x)) := by
  unfold moveXM at hf
  split at hf
  · rename_i t
    simp only [ev_bind, ev_rd] at hf
    obtain ⟨kv, hk, hf⟩ := hf
    split at hf
    · rename_i l
      simp only [ev_bind, ev_ret] at hf
      obtain ⟨_, hg1, rfl⟩ := hf
      have hg0 := p1_none hg1
      subst hg0
      obtain ⟨tv, e, hl⟩ := get_tm hk
      simp only [KV.tv.injEq] at e
      subst e
      obtain ⟨u, hu, hdn⟩ := h.tm t _ hl
      have hin := h.idT t _ hl
      refine ⟨fun he => ⟨a.eval (.tmp t), rfl, h.put hd hnd (fun t ht => .inl ht) (v := .tup l) ?_ hin⟩, fun he => (he exn).elim⟩
      rw [tmps_getD hu]
      exact hdn
    · exact move_ok hG h hg hd hnd (by simp only [ev_bind]; exact (by simpa only [ev_bind] using hf)) hvc
  · exact move_ok hG h hg hd hnd hf hvc

theorem minmax_ok (hP : E.P = Γ.P) (hG : E.G = Γ.G) (h : Sat Γ S W D ρ st a w) (hg : GdOk W g a) (hd : d < Γ.N) (hnd : ¬ W d) {mn : Bool} {x y : Operand} {ts : Array TypeId} {ty : TypeId}
    (hf : (minmaxM E i g d mn x y).Ev st.get eff) (hvc : ∀ p ∈ eff.vc, p) : PureOk Γ S W D ρ st a w g d eff (if mn then Builtin.min_ ts ty #[a.eval x, a.eval y] else Builtin.max_ ts ty #[a.eval x, a.eval y]) := by
  simp only [minmaxM, ev_bind, ev_guard] at hf
  obtain ⟨v, hv, p, hp, v2, hv2, q, hq, _, hk, hf⟩ := hf
  have hp := int_ev hp
  have hq := int_ev hq
  subst hp hq
  have hk := kEq_eq hk
  have hx := fun he => opd_den hG h hg he hv
  have hy := fun he => opd_den hG h hg he hv2
  split at hf
  · refine fin_ok h hg hd hnd hf hvc trivial (fun he hvs => ⟨_, ?_, rfl⟩)
    rw [show a.eval x = .int p.1 p.2 from hx he, show a.eval y = .int q.1 q.2 from hy he]
    simp [Builtin.min_, Builtin.min2]
  · refine fin_ok h hg hd hnd hf hvc trivial (fun he hvs => ⟨_, ?_, rfl⟩)
    rw [show a.eval x = .int p.1 p.2 from hx he, show a.eval y = .int q.1 q.2 from hy he]
    simp [Builtin.max_, Builtin.max2]
end
end Go.Sv
