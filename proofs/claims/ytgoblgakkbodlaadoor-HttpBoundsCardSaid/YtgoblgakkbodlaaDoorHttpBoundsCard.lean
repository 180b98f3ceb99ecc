/- The given statement of the law HttpBoundsCard, at every input, as its card says it; no condition. -/
import Derived.Test.YtgoblgakkbodlaaDoorHttpBoundsCardP6
import Derived.Test.YtgoblgakkbodlaaDoorCards
import Derived.Test.YtgoblgakkbodlaaDoorTie
import Derived.WalkKit
import Derived.ProofKit
import Derived.OpenShut
import Derived.Deep.DeepHandedRow
import Derived.Deep.Strs
import Derived.Lib.SmallJoins
set_option linter.all false
namespace Go.Proofs.YtgoblgakkbodlaaDoor.httpBounds
open Go.ChangeShapes Go.WideShapes Go.ChangeAt Go.RowKit Go.Sv Go.Proofs.Tw Go.ChangeMaps

theorem own : ownKnob Tryd.prog.godebug = none := by kernel_rfl

/-- What the row lists is what the contracts take for granted. -/
theorem tables {W : World} (h : laidMetH Tryd.prog Rows.httpBoundsRow.laid W) (hs : W.ShapedOpen Tryd.prog) : ∃ m, GlobOk (Gm m) (Dw W) ∧ GlobW (Gm m) W := by
  obtain ⟨m, cs, fz, q1, q2, q3⟩ := int_shape (g := 0) (t := 3) (zero := #[.int .i64 0]) (k := .i64) hs (of_decide_eq_true (by kernel_rfl)) (by kernel_rfl) rfl (by kernel_rfl) (by kernel_rfl) (by kernel_rfl)
  refine ⟨m, glob_plus (laid := Rows.httpBoundsRow.laid) h q1 q2 q3 rfl fun g cs hne hg => ?_⟩
  unfold Tw.Gm at hg
  split at hg
  · exact (hne rfl).elim
  · obtain rfl : (Lib.pow10Tab.map fun z => Cell.int .u64 z) = cs := Option.some.inj hg
    exact ⟨"internal/strconv.uint64pow10", Rows.laid_internal_strconv_uint64pow10, 105, by simp [Rows.httpBoundsRow], by kernel_rfl, by kernel_rfl, by kernel_rfl⟩
  · cases hg

set_option maxRecDepth 100000 in
theorem contract (H : Type) (enc : TypeId × Value → H) (W : World) (base : Nat) (args : Array Value) (ds gs : List (DataW H)) (before : List MemPlace)
    (hval : ∀ (j : Nat) t v, Tryd.f3.params[j]? = some t → args[j]? = some v → Value.okWide Tryd.prog W .any base t v)
    (hW : DataW.Whole enc Tryd.prog Tryd.f3.params.toList Rows.httpBoundsSpec.vars false W args.toList ds gs before) (hL : laidMetH Tryd.prog Rows.httpBoundsRow.laid W) (hSh : W.ShapedOpen Tryd.prog) :
    Calls Tryd.prog 3 args W fun e W' => ∃ v, e = .returned v ∧ Rows.httpBoundsSpec.post enc Tryd.prog Tryd.f3 false true false false W args v W' := by
  have hW' := hW
  obtain ⟨p, q, hA0, hV, rfl, hfz, hnd⟩ := hW
  have hA : DataW.TrodAll enc Tryd.prog W 0 (fun _ => true) true Tryd.f3.params.toList args.toList ds p := hA0
  have hA1 := hA
  rw [Tryd.params3] at hA hval
  obtain ⟨v0, vs0, d0, ds0, p0, q0, hargs, rfl, rfl, x0, r0⟩ := trodAll_cons hA
  obtain ⟨v1, vs1, d1, ds1, p1, q1, rfl, rfl, rfl, x1, r1⟩ := trodAll_cons r0
  obtain ⟨v2, vs2, d2, ds2, p2, q2, rfl, rfl, rfl, x2, r2⟩ := trodAll_cons r1
  obtain ⟨rfl, rfl, rfl⟩ := trodAll_nil r2
  obtain rfl : args = #[v0, v1, v2] := by cases args; simp_all
  obtain ⟨rfl, rfl⟩ := trodVars_none hV
  obtain ⟨a0, e0⟩ := int_den Tryd.underlying3 (hval 0 3 v0 rfl rfl)
  obtain ⟨a1, e1⟩ := int_den Tryd.underlying3 (hval 1 3 v1 rfl rfl)
  obtain ⟨a2, e2⟩ := int_den Tryd.underlying3 (hval 2 3 v2 rfl rfl)
  obtain ⟨m, g1, g2⟩ := tables hL hSh
  refine (law_run (httpBounds_ok (G := Gm m) rfl ⟨m, rfl⟩ a0 a1 a2 ) (ρ := rho0) (W := W) (vs := #[v0, v1, v2]) ⟨rfl, fun j x hj => ?_⟩ g1 g2).mono fun e W' => ?_
  · match j, hj with
    | 0, hj => simp at hj; subst hj; exact ⟨_, rfl, e0⟩
    | 1, hj => simp at hj; subst hj; exact ⟨_, rfl, e1⟩
    | 2, hj => simp at hj; subst hj; exact ⟨_, rfl, e2⟩
    | j + 3, hj => simp at hj
  · rintro ⟨v, D', ρ', rfl, hr, hk⟩
    obtain rfl : v = .bool true := hr
    exact ⟨_, rfl, post_of_kept (pa := _) (pv := []) hW' (fun _ _ _ => trodAll_cons_mk (shut_bool Tryd.underlying4 _) trodAll_mk0)
      (fun sp hs => trodAll_keep (l := [3]) hk.heap (by kernel_rfl) (fun _ => rfl) _ _ _ _ (by rw [Tryd.params3]; decide) hA1 (fun q hq => hs q (by simpa using hq))) (fun _ _ => rfl) rfl hk
      (ok_one (by kernel_rfl) rfl (okWide_bool_mk Tryd.underlying4 _))⟩

/-- A world for the witness: the settled one, the listed tables holding what their initialisers lay. -/
def vals : Nat → DataW Unit → List Value
  | n + 1, .agg l => l.flatMap (vals n)
  | _, .lit (.int k z) => [.int k z]
  | _, .lit (.string s) => [.string ⟨s.toArray⟩]
  | _, _ => []
def lay (h : Array Obj) (g : Nat) (d : DataW Unit) : Array Obj := h.modify g fun
  | .cells _ t frozen => .cells (vals 4 d).toArray t frozen
  | o => o
noncomputable def laidWorld (os : Os) : World :=
  { World.holding Tryd.prog os ⟨#[], #[], []⟩ with heap := lay (lay (lay (lay (lay (World.holding Tryd.prog os ⟨#[], #[], []⟩).heap 4 Rows.laid_math_bits_deBruijn32tab) 5 Rows.laid_math_bits_deBruijn64tab) 1 Rows.laid_internal_strconv_uint64pow10) 3 Rows.laid_unicode_utf8_acceptRanges) 2 Rows.laid_unicode_utf8_first }
theorem laid_met (os : Os) : laidMet Tryd.prog Rows.httpBoundsRow.laid ((laidWorld os).forCall (fun _ _ => 0) ⟨#[], #[.int .i64 0, .int .i64 0, .int .i64 0], []⟩).memory :=
  laidMet_of_run' 8 (by kernel_rfl) (by kernel_rfl)
theorem reads (os : Os) {H : Type} (enc : TypeId × Value → H) : ∃ places, DataW.whole enc Tryd.prog ((laidWorld os).forCall (fun _ _ => 0) ⟨#[], #[.int .i64 0, .int .i64 0, .int .i64 0], []⟩).memory Tryd.f3.params.toList Rows.httpBoundsSpec.vars false (#[.int .i64 0, .int .i64 0, .int .i64 0] : Array Value).toList 8 = some ([.lit (.int .i64 0), .lit (.int .i64 0), .lit (.int .i64 0)], [], places) :=
  ⟨[], by kernel_rfl⟩

set_option maxRecDepth 100000 in
theorem lifted (os : Os) (started : os.Started) (H : Type) (enc : TypeId × Value → H) (F : Stop.Interp) :
    ReturnsInHanded {} Tryd.checked os 3 .any ((OpenSpec.ofChange Rows.httpBoundsSpec).preRow enc Tryd.prog Tryd.f3 Rows.httpBoundsRow.domain false Rows.httpBoundsRow.laid) (((OpenSpec.ofChange Rows.httpBoundsSpec).at F).post enc Tryd.prog Tryd.f3 false true false false) := by
  obtain ⟨places, hx⟩ := reads os enc
  refine returnsInHanded_of_row (C := Tryd.checked) (s := OpenSpec.ofChange Rows.httpBoundsSpec) own started (by kernel_rfl) Tryd.func3
    (witness_row_at (enc := enc) (C := Tryd.checked) false (laidWorld os) #[.int .i64 0, .int .i64 0, .int .i64 0] rfl (by kernel_rfl) (by kernel_rfl) (by kernel_rfl)
      (OpenSpec.preRow_of_cond 8 hx (by kernel_rfl) (fun k hk => by cases hk) (by kernel_rfl) (laid_met os))) ?_
  intro W base args ds gs before hval hW _ _ _ hL hsh _
  exact contract H enc W base args ds gs before hval hW hL hsh

theorem said : Rows.HttpBoundsSaid :=
  OpenClaim.holds_of_cond 3 Tryd.f3 rfl rfl rfl rfl rfl rfl rfl ⟨rfl, rfl, rfl, rfl, rfl⟩ rfl rfl rfl rfl rfl (by kernel_rfl) Tryd.func3 (by kernel_rfl)
    (of_decide_eq_true (by kernel_rfl)) (by unfold Func.isWrapper; first | (rw [if_pos (by decide +kernel)]; kernel_rfl) | (rw [if_neg (by decide +kernel)]; exact ⟨rfl, rfl⟩))
    (fun os started H enc _ F => by rw [OpenClaim.pre_eq_preRow]; exact lifted os started H enc F)

theorem plain (f : FuncId) (fn : Func) (hf : Tryd.pinned.checked.prog.funcNamed "countersign/countersignlaw13.HttpBounds" = some f) (hfn : Tryd.pinned.checked.prog.funcs[f]? = some fn) :
    false = Tryd.pinned.checked.prog.looks [] ∧ ∀ (j : Nat) t, fn.params[j]? = some t → Tryd.pinned.checked.prog.wantsStandIn t = false := by
  obtain rfl : f = 3 := Option.some.inj ((show Tryd.prog.funcNamed "countersign/countersignlaw13.HttpBounds" = some 3 by kernel_rfl).symm.trans hf) |>.symm
  obtain rfl : fn = Tryd.f3 := (Option.some.inj (Tryd.func3.symm.trans hfn)).symm
  refine ⟨by kernel_rfl, fun j t ht => ?_⟩
  rw [Tryd.params3] at ht
  have hall : ([3, 3, 3] : List Nat).all (fun u => !(Tryd.pinned.checked.prog.wantsStandIn u)) = true := by kernel_rfl
  have hm : t ∈ ([3, 3, 3] : List Nat) := by simpa using Array.mem_of_getElem? ht
  simpa using List.all_eq_true.1 hall t hm

/-- The card. -/
theorem card : Rows.HttpBoundsCardSaid :=
  Claim7.holds_tied_plain_at .later [] _ _ _ _ said (fun _ h => by cases h) (by kernel_rfl) (fun _ h => by cases h) httpBounds_row_tie rfl ⟨rfl, rfl⟩ (by kernel_rfl) rfl plain (by kernel_rfl)
end Go.Proofs.YtgoblgakkbodlaaDoor.httpBounds
