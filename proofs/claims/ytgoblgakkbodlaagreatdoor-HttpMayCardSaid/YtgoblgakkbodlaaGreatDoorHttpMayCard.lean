/- The given statement of the law HttpMayCard, at every input, as its card says it; no condition. -/
import Derived.Test.YtgoblgakkbodlaaGreatDoorHttpMayCardP7
import Derived.Test.YtgoblgakkbodlaaGreatDoorCards
import Derived.Test.YtgoblgakkbodlaaGreatDoorTie
import Derived.WalkKit
import Derived.ProofKit
import Derived.OpenShut
import Derived.Deep.DeepHandedRow
import Derived.Deep.Strs
import Derived.Lib.SmallJoins
set_option linter.all false
namespace Go.Proofs.YtgoblgakkbodlaaGreatDoor.httpMay
open Go.ChangeShapes Go.WideShapes Go.ChangeAt Go.RowKit Go.Sv Go.Proofs.Tw Go.ChangeMaps

theorem own : ownKnob Tryz.prog.godebug = none := by kernel_rfl

/-- What the row lists is what the contracts take for granted. -/
theorem tables {W : World} (h : laidMetH Tryz.prog Rows.httpMayRow.laid W) (hs : W.ShapedOpen Tryz.prog) : ∃ m, GlobOk (Gm m) (Dw W) ∧ GlobW (Gm m) W := by
  obtain ⟨m, cs, fz, q1, q2, q3⟩ := int_shape (g := 0) (t := 3) (zero := #[.int .i64 0]) (k := .i64) hs (of_decide_eq_true (by kernel_rfl)) (by kernel_rfl) rfl (by kernel_rfl) (by kernel_rfl) (by kernel_rfl)
  refine ⟨m, glob_plus (laid := Rows.httpMayRow.laid) h q1 q2 q3 rfl fun g cs hne hg => ?_⟩
  unfold Tw.Gm at hg
  split at hg
  · exact (hne rfl).elim
  · obtain rfl : (Lib.pow10Tab.map fun z => Cell.int .u64 z) = cs := Option.some.inj hg
    exact ⟨"internal/strconv.uint64pow10", Rows.laid_internal_strconv_uint64pow10, 151, by simp [Rows.httpMayRow], by kernel_rfl, by kernel_rfl, by kernel_rfl⟩
  · cases hg

set_option maxRecDepth 100000 in
theorem contract (H : Type) (enc : TypeId × Value → H) (W : World) (base : Nat) (args : Array Value) (ds gs : List (DataW H)) (before : List MemPlace)
    (hval : ∀ (j : Nat) t v, Tryz.f4.params[j]? = some t → args[j]? = some v → Value.okWide Tryz.prog W .any base t v)
    (hW : DataW.Whole enc Tryz.prog Tryz.f4.params.toList Rows.httpMaySpec.vars false W args.toList ds gs before) (hL : laidMetH Tryz.prog Rows.httpMayRow.laid W) (hSh : W.ShapedOpen Tryz.prog) :
    Calls Tryz.prog 4 args W fun e W' => ∃ v, e = .returned v ∧ Rows.httpMaySpec.post enc Tryz.prog Tryz.f4 false true false false W args v W' := by
  have hW' := hW
  obtain ⟨p, q, hA0, hV, rfl, hfz, hnd⟩ := hW
  have hA : DataW.TrodAll enc Tryz.prog W 0 (fun _ => true) true Tryz.f4.params.toList args.toList ds p := hA0
  have hA1 := hA
  rw [Tryz.params4] at hA hval
  obtain ⟨v0, vs0, d0, ds0, p0, q0, hargs, rfl, rfl, x0, r0⟩ := trodAll_cons hA
  obtain ⟨v1, vs1, d1, ds1, p1, q1, rfl, rfl, rfl, x1, r1⟩ := trodAll_cons r0
  obtain ⟨v2, vs2, d2, ds2, p2, q2, rfl, rfl, rfl, x2, r2⟩ := trodAll_cons r1
  obtain ⟨rfl, rfl, rfl⟩ := trodAll_nil r2
  obtain rfl : args = #[v0, v1, v2] := by cases args; simp_all
  obtain ⟨rfl, rfl⟩ := trodVars_none hV
  obtain ⟨a0, e0⟩ : ∃ r : QT, DenV (Dw W) rho0 (.agg (encQ r)) v0 := by
    obtain ⟨us, rfl, hus, hc⟩ := okWide_cells (fs := #[⟨"Method", 9, 0, false, "", "", 0⟩, ⟨"Target", 9, 1, false, "", "", 16⟩, ⟨"Head", 26, 2, false, "", "", 32⟩, ⟨"Body", 9, 3, false, "", "", 56⟩]) (ts := [9, 9, 26, 9]) (by kernel_rfl) (by kernel_rfl) (by kernel_rfl) (hval 0 28 v0 rfl rfl)
    obtain ⟨fuel, hx⟩ := x0
    obtain ⟨u0, u1, u2, u3, rfl⟩ := array4 hus
    obtain ⟨y0, y1, y2, y3, n, _, _, k0, k1, k2, k3⟩ := Go.Joins.trod_struct4 (f0 := ⟨"Method", 9, 0, false, "", "", 0⟩) (f1 := ⟨"Target", 9, 1, false, "", "", 16⟩) (f2 := ⟨"Head", 26, 2, false, "", "", 32⟩) (f3 := ⟨"Body", 9, 3, false, "", "", 56⟩) (by kernel_rfl) hx
    obtain ⟨t0, q0, w0⟩ := hc 0 u0 rfl
    cases q0
    obtain ⟨s0, g0⟩ := str_den Tryz.underlying9 (okWide_str Tryz.underlying9 w0)
    obtain ⟨t1, q1, w1⟩ := hc 1 u1 rfl
    cases q1
    obtain ⟨s1, g1⟩ := str_den Tryz.underlying9 (okWide_str Tryz.underlying9 w1)
    obtain ⟨t2, q2, w2⟩ := hc 2 u2 rfl
    cases q2
    obtain ⟨s2, _, g2⟩ := rows_den (en := encF) (dv := FT.nil) (sz := 2) (e := 40) (show Tryz.prog.underlying 26 = some (.slice 40) by kernel_rfl) (by kernel_rfl) (fun fuel vl x hx => by
      obtain ⟨s0, s1, q0, q1⟩ := texts2 (e := 40) (f0 := ⟨"Name", 9, 0, false, "", "", 0⟩) (f1 := ⟨"Value", 9, 1, false, "", "", 16⟩) (by kernel_rfl) (by kernel_rfl) (by kernel_rfl) rfl rfl (by kernel_rfl) (by kernel_rfl) hx
      refine ⟨⟨s0, s1⟩, fun j hj => ?_⟩
      match j, hj with
      | 0, _ => exact ⟨_, q0, rfl⟩
      | 1, _ => exact ⟨_, q1, rfl⟩
      | j + 2, hj => omega) (okWide_sl (show Tryz.prog.underlying 26 = some (.slice 40) by kernel_rfl) w2) ⟨n, by
      obtain ⟨a, l, c, rfl⟩ := Go.WideShapes.okWide_slice (show Tryz.prog.underlying 26 = some (.slice 40) by kernel_rfl) (okWide_sl (show Tryz.prog.underlying 26 = some (.slice 40) by kernel_rfl) w2)
      have := k2
      rw [show Tryz.prog.cellsOf 26 = 1 from by kernel_rfl] at this
      exact this⟩
    obtain ⟨t3, q3, w3⟩ := hc 3 u3 rfl
    cases q3
    obtain ⟨s3, g3⟩ := str_den Tryz.underlying9 (okWide_str Tryz.underlying9 w3)
    refine ⟨⟨s0, s1, s2, s3⟩, #[u0, u1, u2, u3], rfl, rfl, fun j x hj => ?_⟩
    match j, hj with
    | 0, hj => simp [encQ] at hj; subst hj; exact ⟨_, rfl, g0⟩
    | 1, hj => simp [encQ] at hj; subst hj; exact ⟨_, rfl, g1⟩
    | 2, hj => simp [encQ] at hj; subst hj; exact ⟨_, rfl, g2⟩
    | 3, hj => simp [encQ] at hj; subst hj; exact ⟨_, rfl, g3⟩
    | j + 4, hj => simp [encQ] at hj
  obtain ⟨a1, e1⟩ : ∃ r : RT, DenV (Dw W) rho0 (.agg (encT r)) v1 := by
    obtain ⟨us, rfl, hus, hc⟩ := okWide_cells (fs := #[⟨"Status", 3, 0, false, "", "", 0⟩, ⟨"Head", 26, 1, false, "", "", 8⟩, ⟨"Body", 9, 2, false, "", "", 32⟩]) (ts := [3, 26, 9]) (by kernel_rfl) (by kernel_rfl) (by kernel_rfl) (hval 1 33 v1 rfl rfl)
    obtain ⟨fuel, hx⟩ := x1
    obtain ⟨u0, u1, u2, rfl⟩ := array3 hus
    obtain ⟨y0, y1, y2, n, _, _, k0, k1, k2⟩ := Go.Deep.trod_struct3 (f0 := ⟨"Status", 3, 0, false, "", "", 0⟩) (f1 := ⟨"Head", 26, 1, false, "", "", 8⟩) (f2 := ⟨"Body", 9, 2, false, "", "", 32⟩) (by kernel_rfl) hx
    obtain ⟨t0, q0, w0⟩ := hc 0 u0 rfl
    cases q0
    obtain ⟨s0, g0⟩ := int_den Tryz.underlying3 (okWide_int' Tryz.underlying3 w0)
    obtain ⟨t1, q1, w1⟩ := hc 1 u1 rfl
    cases q1
    obtain ⟨s1, _, g1⟩ := rows_den (en := encF) (dv := FT.nil) (sz := 2) (e := 40) (show Tryz.prog.underlying 26 = some (.slice 40) by kernel_rfl) (by kernel_rfl) (fun fuel vl x hx => by
      obtain ⟨s0, s1, q0, q1⟩ := texts2 (e := 40) (f0 := ⟨"Name", 9, 0, false, "", "", 0⟩) (f1 := ⟨"Value", 9, 1, false, "", "", 16⟩) (by kernel_rfl) (by kernel_rfl) (by kernel_rfl) rfl rfl (by kernel_rfl) (by kernel_rfl) hx
      refine ⟨⟨s0, s1⟩, fun j hj => ?_⟩
      match j, hj with
      | 0, _ => exact ⟨_, q0, rfl⟩
      | 1, _ => exact ⟨_, q1, rfl⟩
      | j + 2, hj => omega) (okWide_sl (show Tryz.prog.underlying 26 = some (.slice 40) by kernel_rfl) w1) ⟨n, by
      obtain ⟨a, l, c, rfl⟩ := Go.WideShapes.okWide_slice (show Tryz.prog.underlying 26 = some (.slice 40) by kernel_rfl) (okWide_sl (show Tryz.prog.underlying 26 = some (.slice 40) by kernel_rfl) w1)
      have := k1
      rw [show Tryz.prog.cellsOf 26 = 1 from by kernel_rfl] at this
      exact this⟩
    obtain ⟨t2, q2, w2⟩ := hc 2 u2 rfl
    cases q2
    obtain ⟨s2, g2⟩ := str_den Tryz.underlying9 (okWide_str Tryz.underlying9 w2)
    refine ⟨⟨s0, s1, s2⟩, #[u0, u1, u2], rfl, rfl, fun j x hj => ?_⟩
    match j, hj with
    | 0, hj => simp [encT] at hj; subst hj; exact ⟨_, rfl, g0⟩
    | 1, hj => simp [encT] at hj; subst hj; exact ⟨_, rfl, g1⟩
    | 2, hj => simp [encT] at hj; subst hj; exact ⟨_, rfl, g2⟩
    | j + 3, hj => simp [encT] at hj
  obtain ⟨a2, h2, e2⟩ := ints_den Tryz.underlying22 Tryz.underlying3 (by kernel_rfl) (hval 2 22 v2 rfl rfl) x2
  obtain ⟨m, g1, g2⟩ := tables hL hSh
  refine (law_run (httpMay_ok (G := Gm m) rfl ⟨m, rfl⟩ a0 a1 a2 (by unfold maxLen at h2; omega)) (ρ := rho0) (W := W) (vs := #[v0, v1, v2]) ⟨rfl, fun j x hj => ?_⟩ g1 g2).mono fun e W' => ?_
  · match j, hj with
    | 0, hj => simp at hj; subst hj; exact ⟨_, rfl, e0⟩
    | 1, hj => simp at hj; subst hj; exact ⟨_, rfl, e1⟩
    | 2, hj => simp at hj; subst hj; exact ⟨_, rfl, e2⟩
    | j + 3, hj => simp at hj
  · rintro ⟨v, D', ρ', rfl, hr, hk⟩
    obtain rfl : v = .bool true := hr
    exact ⟨_, rfl, post_of_kept (pa := _) (pv := []) hW' (fun _ _ _ => trodAll_cons_mk (shut_bool Tryz.underlying4 _) trodAll_mk0)
      (fun sp hs => trodAll_keep (l := [3, 9, 22, 26, 28, 33, 40]) hk.heap (by kernel_rfl) (fun _ => rfl) _ _ _ _ (by rw [Tryz.params4]; decide) hA1 (fun q hq => hs q (by simpa using hq))) (fun _ _ => rfl) rfl hk
      (ok_one (by kernel_rfl) rfl (okWide_bool_mk Tryz.underlying4 _))⟩

/-- A world for the witness: the settled one, the listed tables holding what their initialisers lay. -/
def vals : Nat → DataW Unit → List Value
  | n + 1, .agg l => l.flatMap (vals n)
  | _, .lit (.int k z) => [.int k z]
  | _, .lit (.string s) => [.string ⟨s.toArray⟩]
  | _, _ => []
def lay (h : Array Obj) (g : Nat) (d : DataW Unit) : Array Obj := h.modify g fun
  | .cells _ t frozen => .cells (vals 4 d).toArray t frozen
  | o => o
noncomputable def laidWorld (os : Os) : World :=
  { World.holding Tryz.prog os ⟨#[], #[], []⟩ with heap := lay (lay (lay (lay (lay (World.holding Tryz.prog os ⟨#[], #[], []⟩).heap 4 Rows.laid_math_bits_deBruijn32tab) 5 Rows.laid_math_bits_deBruijn64tab) 1 Rows.laid_internal_strconv_uint64pow10) 3 Rows.laid_unicode_utf8_acceptRanges) 2 Rows.laid_unicode_utf8_first }
theorem laid_met (os : Os) : laidMet Tryz.prog Rows.httpMayRow.laid ((laidWorld os).forCall (fun _ _ => 0) ⟨#[], #[.agg #[.string ⟨#[]⟩, .string ⟨#[]⟩, .slice none 0 0, .string ⟨#[]⟩], .agg #[.int .i64 0, .slice none 0 0, .string ⟨#[]⟩], .slice none 0 0], []⟩).memory :=
  laidMet_of_run' 8 (by kernel_rfl) (by kernel_rfl)
theorem reads (os : Os) {H : Type} (enc : TypeId × Value → H) : ∃ places, DataW.whole enc Tryz.prog ((laidWorld os).forCall (fun _ _ => 0) ⟨#[], #[.agg #[.string ⟨#[]⟩, .string ⟨#[]⟩, .slice none 0 0, .string ⟨#[]⟩], .agg #[.int .i64 0, .slice none 0 0, .string ⟨#[]⟩], .slice none 0 0], []⟩).memory Tryz.f4.params.toList Rows.httpMaySpec.vars false (#[.agg #[.string ⟨#[]⟩, .string ⟨#[]⟩, .slice none 0 0, .string ⟨#[]⟩], .agg #[.int .i64 0, .slice none 0 0, .string ⟨#[]⟩], .slice none 0 0] : Array Value).toList 8 = some ([.agg [.lit (.string []), .lit (.string []), .nil, .lit (.string [])], .agg [.lit (.int .i64 0), .nil, .lit (.string [])], .nil], [], places) :=
  ⟨[], by kernel_rfl⟩

set_option maxRecDepth 100000 in
theorem lifted (os : Os) (started : os.Started) (H : Type) (enc : TypeId × Value → H) (F : Stop.Interp) :
    ReturnsInHanded {} Tryz.checked os 4 .any ((OpenSpec.ofChange Rows.httpMaySpec).preRow enc Tryz.prog Tryz.f4 Rows.httpMayRow.domain false Rows.httpMayRow.laid) (((OpenSpec.ofChange Rows.httpMaySpec).at F).post enc Tryz.prog Tryz.f4 false true false false) := by
  obtain ⟨places, hx⟩ := reads os enc
  refine returnsInHanded_of_row (C := Tryz.checked) (s := OpenSpec.ofChange Rows.httpMaySpec) own started (by kernel_rfl) Tryz.func4
    (witness_row_at (enc := enc) (C := Tryz.checked) false (laidWorld os) #[.agg #[.string ⟨#[]⟩, .string ⟨#[]⟩, .slice none 0 0, .string ⟨#[]⟩], .agg #[.int .i64 0, .slice none 0 0, .string ⟨#[]⟩], .slice none 0 0] rfl (by kernel_rfl) (by kernel_rfl) (by kernel_rfl)
      (OpenSpec.preRow_of_cond 8 hx (by kernel_rfl) (fun k hk => by cases hk) (by kernel_rfl) (laid_met os))) ?_
  intro W base args ds gs before hval hW _ _ _ hL hsh _
  exact contract H enc W base args ds gs before hval hW hL hsh

theorem said : Rows.HttpMaySaid :=
  OpenClaim.holds_of_cond 4 Tryz.f4 rfl rfl rfl rfl rfl rfl rfl ⟨rfl, rfl, rfl, rfl, rfl⟩ rfl rfl rfl rfl rfl (by kernel_rfl) Tryz.func4 (by kernel_rfl)
    (of_decide_eq_true (by kernel_rfl)) (by unfold Func.isWrapper; first | (rw [if_pos (by decide +kernel)]; kernel_rfl) | (rw [if_neg (by decide +kernel)]; exact ⟨rfl, rfl⟩))
    (fun os started H enc _ F => by rw [OpenClaim.pre_eq_preRow]; exact lifted os started H enc F)

theorem plain (f : FuncId) (fn : Func) (hf : Tryz.pinned.checked.prog.funcNamed "countersign/countersignlaw13.HttpMay" = some f) (hfn : Tryz.pinned.checked.prog.funcs[f]? = some fn) :
    false = Tryz.pinned.checked.prog.looks [] ∧ ∀ (j : Nat) t, fn.params[j]? = some t → Tryz.pinned.checked.prog.wantsStandIn t = false := by
  obtain rfl : f = 4 := Option.some.inj ((show Tryz.prog.funcNamed "countersign/countersignlaw13.HttpMay" = some 4 by kernel_rfl).symm.trans hf) |>.symm
  obtain rfl : fn = Tryz.f4 := (Option.some.inj (Tryz.func4.symm.trans hfn)).symm
  refine ⟨by kernel_rfl, fun j t ht => ?_⟩
  rw [Tryz.params4] at ht
  have hall : ([28, 33, 22] : List Nat).all (fun u => !(Tryz.pinned.checked.prog.wantsStandIn u)) = true := by kernel_rfl
  have hm : t ∈ ([28, 33, 22] : List Nat) := by simpa using Array.mem_of_getElem? ht
  simpa using List.all_eq_true.1 hall t hm

/-- The card. -/
theorem card : Rows.HttpMayCardSaid :=
  Claim7.holds_tied_plain_at .later [] _ _ _ _ said (fun _ h => by cases h) (by kernel_rfl) (fun _ h => by cases h) httpMay_row_tie rfl ⟨rfl, rfl⟩ (by kernel_rfl) rfl plain (by kernel_rfl)
end Go.Proofs.YtgoblgakkbodlaaGreatDoor.httpMay
