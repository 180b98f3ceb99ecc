/- The given statement of the law GuardApartCard, at every input, as its card says it; no condition. -/
import Derived.Test.YtgnhhialddlknaaGreatDoorGuardApartCardP3
import Derived.Test.YtgnhhialddlknaaGreatDoorGuardApartCardP9
import Derived.Test.YtgnhhialddlknaaGreatDoorCards
import Derived.Test.YtgnhhialddlknaaGreatDoorTie
import Derived.WalkKit
import Derived.ProofKit
import Derived.OpenShut
import Derived.Deep.DeepHandedRow
import Derived.Deep.Strs
import Derived.Lib.SmallJoins
set_option linter.all false
namespace Go.Proofs.YtgnhhialddlknaaGreatDoor.guardApart
open Go.ChangeShapes Go.WideShapes Go.ChangeAt Go.RowKit Go.Sv Go.Proofs.Tw Go.ChangeMaps

theorem own : ownKnob Tryz.prog.godebug = none := by kernel_rfl

/-- What the row lists is what the contracts take for granted. -/
theorem tables {W : World} (h : laidMetH Tryz.prog Rows.guardApartRow.laid W) (hs : W.ShapedOpen Tryz.prog) : ∃ m, GlobOk (Gq m) (Dw W) ∧ GlobW (Gq m) W := by
  obtain ⟨m, cs, fz, q1, q2, q3⟩ := int_shape (g := 2) (t := 3) (zero := #[.int .i64 0]) (k := .i64) hs (of_decide_eq_true kR) kR rfl kR kR kR
  refine ⟨m, glob_plus (laid := Rows.guardApartRow.laid) h q1 q2 q3 rfl fun g cs hne hg => ?_⟩
  unfold Tw.Gq at hg
  split at hg
  · exact (hne rfl).elim
  unfold Tw.Gp at hg
  split at hg
  · obtain rfl : digC = cs := Option.some.inj hg
    exact ⟨"countersign/pct.digits", Rows.laid_countersign_pct_digits, 265, by simp [Rows.guardApartRow], by kernel_rfl, by kernel_rfl, by kernel_rfl⟩
  unfold Tw.Gd at hg
  split at hg
  · obtain rfl : rowsC = cs := Option.some.inj hg
    exact ⟨"countersign/reply.rows", Rows.laid_countersign_reply_rows, 239, by simp [Rows.guardApartRow], by kernel_rfl, by kernel_rfl, by kernel_rfl⟩
  · obtain rfl : (Lib.pow10Tab.map fun z => Cell.int .u64 z) = cs := Option.some.inj hg
    exact ⟨"internal/strconv.uint64pow10", Rows.laid_internal_strconv_uint64pow10, 306, by simp [Rows.guardApartRow], by kernel_rfl, by kernel_rfl, by kernel_rfl⟩
  · cases hg

set_option maxRecDepth 100000 in
theorem contract (H : Type) (enc : TypeId × Value → H) (W : World) (base : Nat) (args : Array Value) (ds gs : List (DataW H)) (before : List MemPlace)
    (hval : ∀ (j : Nat) t v, Tryz.f5.params[j]? = some t → args[j]? = some v → Value.okWide Tryz.prog W .any base t v)
    (hW : DataW.Whole enc Tryz.prog Tryz.f5.params.toList Rows.guardApartSpec.vars false W args.toList ds gs before) (hL : laidMetH Tryz.prog Rows.guardApartRow.laid W) (hSh : W.ShapedOpen Tryz.prog) :
    Calls Tryz.prog 5 args W fun e W' => ∃ v, e = .returned v ∧ Rows.guardApartSpec.post enc Tryz.prog Tryz.f5 false true false false W args v W' := by
  have hW' := hW
  obtain ⟨p, q, hA0, hV, rfl, hfz, hnd⟩ := hW
  have hA : DataW.TrodAll enc Tryz.prog W 0 (fun _ => true) true Tryz.f5.params.toList args.toList ds p := hA0
  have hA1 := hA
  rw [Tryz.params5] at hA hval
  obtain ⟨v0, vs0, d0, ds0, p0, q0, hargs, rfl, rfl, x0, r0⟩ := trodAll_cons hA
  obtain ⟨v1, vs1, d1, ds1, p1, q1, rfl, rfl, rfl, x1, r1⟩ := trodAll_cons r0
  obtain ⟨v2, vs2, d2, ds2, p2, q2, rfl, rfl, rfl, x2, r2⟩ := trodAll_cons r1
  obtain ⟨v3, vs3, d3, ds3, p3, q3, rfl, rfl, rfl, x3, r3⟩ := trodAll_cons r2
  obtain ⟨v4, vs4, d4, ds4, p4, q4, rfl, rfl, rfl, x4, r4⟩ := trodAll_cons r3
  obtain ⟨v5, vs5, d5, ds5, p5, q5, rfl, rfl, rfl, x5, r5⟩ := trodAll_cons r4
  obtain ⟨rfl, rfl, rfl⟩ := trodAll_nil r5
  obtain rfl : args = #[v0, v1, v2, v3, v4, v5] := by cases args; simp_all
  obtain ⟨rfl, rfl⟩ := trodVars_none hV
  obtain ⟨a0, e0⟩ := int_den Tryz.underlying3 (hval 0 3 v0 rfl rfl)
  obtain ⟨a1, e1⟩ := int_den Tryz.underlying3 (hval 1 3 v1 rfl rfl)
  obtain ⟨a2, e2⟩ := str_den Tryz.underlying9 (hval 2 9 v2 rfl rfl)
  obtain ⟨a3, e3⟩ := str_den Tryz.underlying9 (hval 3 9 v3 rfl rfl)
  obtain ⟨a4, e4⟩ := str_den Tryz.underlying9 (hval 4 9 v4 rfl rfl)
  obtain ⟨a5, e5⟩ := str_den Tryz.underlying9 (hval 5 9 v5 rfl rfl)
  obtain ⟨m, g1, g2⟩ := tables hL hSh
  refine (law_run (guardApart_ok (fun _ _ h => h) a0 a1 a2 a3 a4 a5 ) (ρ := rho0) (W := W) (vs := #[v0, v1, v2, v3, v4, v5]) ⟨rfl, fun j x hj => ?_⟩ g1 g2).mono fun e W' => ?_
  · match j, hj with
    | 0, hj => simp at hj; subst hj; exact ⟨_, rfl, e0⟩
    | 1, hj => simp at hj; subst hj; exact ⟨_, rfl, e1⟩
    | 2, hj => simp at hj; subst hj; exact ⟨_, rfl, e2⟩
    | 3, hj => simp at hj; subst hj; exact ⟨_, rfl, e3⟩
    | 4, hj => simp at hj; subst hj; exact ⟨_, rfl, e4⟩
    | 5, hj => simp at hj; subst hj; exact ⟨_, rfl, e5⟩
    | j + 6, hj => simp at hj
  · rintro ⟨v, D', ρ', rfl, hr, hk⟩
    obtain rfl : v = .bool true := hr
    exact ⟨_, rfl, post_of_kept (pa := _) (pv := []) hW' (fun _ _ _ => trodAll_cons_mk (shut_bool Tryz.underlying4 _) trodAll_mk0)
      (fun sp hs => trodAll_keep (l := [3, 9]) hk.heap kR (fun _ => rfl) _ _ _ _ (by rw [Tryz.params5]; decide) hA1 (fun q hq => hs q (by simpa using hq))) (fun _ _ => rfl) rfl hk
      (ok_one kR rfl (okWide_bool_mk Tryz.underlying4 _))⟩

/-- A world for the witness: the settled one, the listed tables holding what their initialisers lay. -/
def vals : Nat → DataW Unit → List Value
  | n + 1, .agg l => l.flatMap (vals n)
  | _, .lit (.int k z) => [.int k z]
  | _, .lit (.string s) => [.string ⟨s.toArray⟩]
  | _, _ => []
def lay (h : Array Obj) (g : Nat) (d : DataW Unit) : Array Obj := h.modify g fun
  | .cells _ t frozen => .cells (vals 4 d).toArray t frozen
  | o => o
noncomputable def low : Nat := (World.holding Tryz.prog default ⟨#[], #[], []⟩).heap.size
noncomputable def layE (h : Array Obj) (g i : Nat) : Array Obj := h.modify g fun
  | .cells _ t frozen => .cells #[.iface 310 (.pointer (some ⟨low + i, 0, none⟩))] t frozen
  | o => o
noncomputable def laidWorld (os : Os) : World :=
  { World.holding Tryz.prog os ⟨#[.cells #[.string ⟨#[118, 97, 108, 117, 101, 32, 111, 117, 116, 32, 111, 102, 32, 114, 97, 110, 103, 101]⟩] 312, .cells #[.string ⟨#[105, 110, 118, 97, 108, 105, 100, 32, 115, 121, 110, 116, 97, 120]⟩] 312], #[], []⟩ with heap := lay (lay (lay (lay (lay (lay (lay (layE (layE ((World.holding Tryz.prog os ⟨#[.cells #[.string ⟨#[118, 97, 108, 117, 101, 32, 111, 117, 116, 32, 111, 102, 32, 114, 97, 110, 103, 101]⟩] 312, .cells #[.string ⟨#[105, 110, 118, 97, 108, 105, 100, 32, 115, 121, 110, 116, 97, 120]⟩] 312], #[], []⟩).heap) 4 0) 3 1) 8 Rows.laid_math_bits_deBruijn32tab) 9 Rows.laid_math_bits_deBruijn64tab) 5 Rows.laid_internal_strconv_uint64pow10) 7 Rows.laid_unicode_utf8_acceptRanges) 1 Rows.laid_countersign_pct_digits) 0 Rows.laid_countersign_reply_rows) 6 Rows.laid_unicode_utf8_first }
theorem laid_met (os : Os) : laidMet Tryz.prog Rows.guardApartRow.laid ((laidWorld os).forCall (fun _ _ => 0) ⟨#[], #[.int .i64 0, .int .i64 0, .string ⟨#[]⟩, .string ⟨#[]⟩, .string ⟨#[]⟩, .string ⟨#[]⟩], []⟩).memory :=
  laidMet_of_run' 8 kR kR
theorem reads (os : Os) {H : Type} (enc : TypeId × Value → H) : ∃ places, DataW.whole enc Tryz.prog ((laidWorld os).forCall (fun _ _ => 0) ⟨#[], #[.int .i64 0, .int .i64 0, .string ⟨#[]⟩, .string ⟨#[]⟩, .string ⟨#[]⟩, .string ⟨#[]⟩], []⟩).memory Tryz.f5.params.toList Rows.guardApartSpec.vars false (#[.int .i64 0, .int .i64 0, .string ⟨#[]⟩, .string ⟨#[]⟩, .string ⟨#[]⟩, .string ⟨#[]⟩] : Array Value).toList 8 = some ([.lit (.int .i64 0), .lit (.int .i64 0), .lit (.string []), .lit (.string []), .lit (.string []), .lit (.string [])], [], places) :=
  ⟨[], by kernel_rfl⟩

theorem lf_no : Tryz.checked.prog.inits.idxOf? 5 = none := by kernel_rfl
theorem lf_vars (os : Os) : ((laidWorld os).forCall (fun _ _ => 0) ⟨#[], #[.int .i64 0, .int .i64 0, .string ⟨#[]⟩, .string ⟨#[]⟩, .string ⟨#[]⟩, .string ⟨#[]⟩], []⟩).variablesB Tryz.checked.prog = true := by kernel_rfl
theorem lf_rest (os : Os) : (((laidWorld os).forCall (fun _ _ => 0) ⟨#[], #[.int .i64 0, .int .i64 0, .string ⟨#[]⟩, .string ⟨#[]⟩, .string ⟨#[]⟩, .string ⟨#[]⟩], []⟩).heap.toList.drop Tryz.checked.prog.globals.size).take ((begin Tryz.checked.prog (fun _ _ => 0) default).world.heap.size - Tryz.checked.prog.globals.size) =
    (begin Tryz.checked.prog (fun _ _ => 0) default).world.heap.toList.drop Tryz.checked.prog.globals.size := by kernel_rfl
theorem lf_ok (os : Os) : Input.okWideB Tryz.checked.prog ((laidWorld os).forCall (fun _ _ => 0) ⟨#[], #[.int .i64 0, .int .i64 0, .string ⟨#[]⟩, .string ⟨#[]⟩, .string ⟨#[]⟩, .string ⟨#[]⟩], []⟩) 5 ⟨#[], #[.int .i64 0, .int .i64 0, .string ⟨#[]⟩, .string ⟨#[]⟩, .string ⟨#[]⟩, .string ⟨#[]⟩], []⟩ = true := by kernel_rfl
theorem lf_size (os : Os) (H : Type) (enc : TypeId × Value → H) : (OpenSpec.ofChange Rows.guardApartSpec).bare.sizedB enc Tryz.prog Tryz.f5 false ((laidWorld os).forCall (fun _ _ => 0) ⟨#[], #[.int .i64 0, .int .i64 0, .string ⟨#[]⟩, .string ⟨#[]⟩, .string ⟨#[]⟩, .string ⟨#[]⟩], []⟩).memory #[.int .i64 0, .int .i64 0, .string ⟨#[]⟩, .string ⟨#[]⟩, .string ⟨#[]⟩, .string ⟨#[]⟩] 8 = true := by kernel_rfl

set_option maxRecDepth 100000 in
theorem lifted (os : Os) (started : os.Started) (H : Type) (enc : TypeId × Value → H) (F : Stop.Interp) :
    ReturnsInHanded {} Tryz.checked os 5 .any ((OpenSpec.ofChange Rows.guardApartSpec).preRow enc Tryz.prog Tryz.f5 Rows.guardApartRow.domain false Rows.guardApartRow.laid) (((OpenSpec.ofChange Rows.guardApartSpec).at F).post enc Tryz.prog Tryz.f5 false true false false) := by
  obtain ⟨places, hx⟩ := reads os enc
  refine returnsInHanded_of_row (C := Tryz.checked) (s := OpenSpec.ofChange Rows.guardApartSpec) own started lf_no Tryz.func5
    (witness_row_at (enc := enc) (C := Tryz.checked) false (laidWorld os) #[.int .i64 0, .int .i64 0, .string ⟨#[]⟩, .string ⟨#[]⟩, .string ⟨#[]⟩, .string ⟨#[]⟩] rfl (lf_vars os) (lf_rest os) (lf_ok os)
      (OpenSpec.preRow_of_cond 8 hx kR (fun k hk => by cases hk) (lf_size os H enc) (laid_met os))) ?_
  intro W base args ds gs before hval hW _ _ _ hL hsh _
  exact contract H enc W base args ds gs before hval hW hL hsh

theorem bAnd2 {a b : Bool} (h1 : a = true) (h2 : b = true) : (a && b) = true := by rw [h1, h2]; rfl
set_option maxHeartbeats 40000000 in
theorem closed_ok : joinedFacts Tryz.pinned.checked.prog 5 Tryz.f5 (OpenSpec.ofChange Rows.guardApartSpec).bare Rows.guardApartRow = true := by
  unfold joinedFacts
  repeat' (with_reducible refine bAnd2 ?_ ?_)
  all_goals decide +kernel
theorem said : Rows.GuardApartSaid :=
  OpenClaim.holds_of_cond 5 Tryz.f5 rfl rfl rfl rfl rfl rfl rfl ⟨rfl, rfl, rfl, rfl, rfl⟩ rfl rfl rfl rfl rfl kR Tryz.func5 closed_ok
    (of_decide_eq_true kR) (by unfold Func.isWrapper; first | (rw [if_pos (by decide +kernel)]; kernel_rfl) | (rw [if_neg (by decide +kernel)]; exact ⟨rfl, rfl⟩))
    (fun os started H enc _ F => by rw [OpenClaim.pre_eq_preRow]; exact lifted os started H enc F)

theorem plain (f : FuncId) (fn : Func) (hf : Tryz.pinned.checked.prog.funcNamed "countersign/countersignlaw29.GuardApart" = some f) (hfn : Tryz.pinned.checked.prog.funcs[f]? = some fn) :
    true = Tryz.pinned.checked.prog.looks [] ∧ ∀ (j : Nat) t, fn.params[j]? = some t → Tryz.pinned.checked.prog.wantsStandIn t = false := by
  obtain rfl : f = 5 := Option.some.inj ((show Tryz.prog.funcNamed "countersign/countersignlaw29.GuardApart" = some 5 by kernel_rfl).symm.trans hf) |>.symm
  obtain rfl : fn = Tryz.f5 := (Option.some.inj (Tryz.func5.symm.trans hfn)).symm
  refine ⟨by kernel_rfl, fun j t ht => ?_⟩
  rw [Tryz.params5] at ht
  have hall : ([3, 3, 9, 9, 9, 9] : List Nat).all (fun u => !(Tryz.pinned.checked.prog.wantsStandIn u)) = true := by kernel_rfl
  have hm : t ∈ ([3, 3, 9, 9, 9, 9] : List Nat) := by simpa using Array.mem_of_getElem? ht
  simpa using List.all_eq_true.1 hall t hm

/-- The card. -/
theorem card : Rows.GuardApartCardSaid :=
  Claim7.holds_tied_plain_at .later [] _ _ _ _ said (fun _ h => by cases h) kR (fun _ h => by cases h) guardApart_row_tie rfl ⟨rfl, rfl⟩ kR rfl plain kR
end Go.Proofs.YtgnhhialddlknaaGreatDoor.guardApart
