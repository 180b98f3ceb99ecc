/- The given statement of the law GuardFullCard, at every input, as its card says it; no condition. -/
import Derived.Test.YtgnhhialddlknaaGreatDoorGuardApartCardP3
import Derived.Test.YtgnhhialddlknaaGreatDoorGuardApartCardP9
import Derived.Test.YtgnhhialddlknaaGreatDoorCards
import Derived.Test.YtgnhhialddlknaaGreatDoorTie
import Derived.WalkKit
import Derived.ProofKit
import Derived.OpenShut
import Derived.Deep.DeepHandedRow
import Derived.Deep.Strs
import Derived.Lib.SmallJoins
set_option linter.all false
namespace Go.Proofs.YtgnhhialddlknaaGreatDoor.guardFull
open Go.ChangeShapes Go.WideShapes Go.ChangeAt Go.RowKit Go.Sv Go.Proofs.Tw Go.ChangeMaps

theorem own : ownKnob Tryz.prog.godebug = none := by kernel_rfl

/-- What the row lists is what the contracts take for granted. -/
theorem tables {W : World} (h : laidMetH Tryz.prog Rows.guardFullRow.laid W) (hs : W.ShapedOpen Tryz.prog) : ∃ m, GlobOk (Gq m) (Dw W) ∧ GlobW (Gq m) W := by
  obtain ⟨m, cs, fz, q1, q2, q3⟩ := int_shape (g := 2) (t := 3) (zero := #[.int .i64 0]) (k := .i64) hs (of_decide_eq_true kR) kR rfl kR kR kR
  refine ⟨m, glob_plus (laid := Rows.guardFullRow.laid) h q1 q2 q3 rfl fun g cs hne hg => ?_⟩
  unfold Tw.Gq at hg
  split at hg
  · exact (hne rfl).elim
  unfold Tw.Gp at hg
  split at hg
  · obtain rfl : digC = cs := Option.some.inj hg
    exact ⟨"countersign/pct.digits", Rows.laid_countersign_pct_digits, 265, by simp [Rows.guardFullRow], by kernel_rfl, by kernel_rfl, by kernel_rfl⟩
  unfold Tw.Gd at hg
  split at hg
  · obtain rfl : rowsC = cs := Option.some.inj hg
    exact ⟨"countersign/reply.rows", Rows.laid_countersign_reply_rows, 239, by simp [Rows.guardFullRow], by kernel_rfl, by kernel_rfl, by kernel_rfl⟩
  · obtain rfl : (Lib.pow10Tab.map fun z => Cell.int .u64 z) = cs := Option.some.inj hg
    exact ⟨"internal/strconv.uint64pow10", Rows.laid_internal_strconv_uint64pow10, 306, by simp [Rows.guardFullRow], by kernel_rfl, by kernel_rfl, by kernel_rfl⟩
  · cases hg

def eC (u : TypeId) (sh : Option Nat) : Go.Sv.Cell := .ifc u sh (fun _ => .dp 0 (fun _ => .nilif))
theorem tablesZ {W : World} (h : laidMetH Tryz.prog Rows.guardFullRow.laid W) (hs : W.ShapedOpen Tryz.prog) : ∃ m u1 s1 u2 s2, GlobOk (Gz m (eC u1 s1) (eC u2 s2)) (Dw W) ∧ GlobW (Gz m (eC u1 s1) (eC u2 s2)) W := by
  obtain ⟨m, k1, k2⟩ := tables h hs
  obtain ⟨u1, s1, ca, ea, fa, a1, a2, va, a3, a4⟩ := err_laid (n := "strconv.ErrSyntax") (g := 3) (t := 141) h (show ("strconv.ErrSyntax", (Rows.laid_strconv_ErrSyntax : DataW Unit)) ∈ Rows.guardFullRow.laid by simp [Rows.guardFullRow]) (by kernel_rfl) (by kernel_rfl) Tryz.underlying141
  obtain ⟨u2, s2, cb, eb, fb, b1, b2, vb, b3, b4⟩ := err_laid (n := "strconv.ErrRange") (g := 4) (t := 141) h (show ("strconv.ErrRange", (Rows.laid_strconv_ErrRange : DataW Unit)) ∈ Rows.guardFullRow.laid by simp [Rows.guardFullRow]) (by kernel_rfl) (by kernel_rfl) Tryz.underlying141
  refine ⟨m, u1, s1, u2, s2, glob_two k1 k2 (fun g cs hg => ?_) a1 a2 a3 a4 b1 b2 b3 b4⟩
  unfold Gz at hg
  split at hg
  · exact .inl ⟨rfl, (Option.some.inj hg).symm⟩
  · exact .inr (.inl ⟨rfl, (Option.some.inj hg).symm⟩)
  · exact .inr (.inr hg)

set_option maxRecDepth 100000 in
theorem contract (H : Type) (enc : TypeId × Value → H) (W : World) (base : Nat) (args : Array Value) (ds gs : List (DataW H)) (before : List MemPlace)
    (hval : ∀ (j : Nat) t v, Tryz.f6.params[j]? = some t → args[j]? = some v → Value.okWide Tryz.prog W .any base t v)
    (hW : DataW.Whole enc Tryz.prog Tryz.f6.params.toList Rows.guardFullSpec.vars false W args.toList ds gs before) (hL : laidMetH Tryz.prog Rows.guardFullRow.laid W) (hSh : W.ShapedOpen Tryz.prog) :
    Calls Tryz.prog 6 args W fun e W' => ∃ v, e = .returned v ∧ Rows.guardFullSpec.post enc Tryz.prog Tryz.f6 false true false false W args v W' := by
  have hW' := hW
  obtain ⟨p, q, hA0, hV, rfl, hfz, hnd⟩ := hW
  have hA : DataW.TrodAll enc Tryz.prog W 0 (fun _ => true) true Tryz.f6.params.toList args.toList ds p := hA0
  have hA1 := hA
  rw [Tryz.params6] at hA hval
  obtain ⟨v0, vs0, d0, ds0, p0, q0, hargs, rfl, rfl, x0, r0⟩ := trodAll_cons hA
  obtain ⟨rfl, rfl, rfl⟩ := trodAll_nil r0
  obtain rfl : args = #[v0] := by cases args; simp_all
  obtain ⟨rfl, rfl⟩ := trodVars_none hV
  obtain ⟨a0, e0⟩ := int_den Tryz.underlying3 (hval 0 3 v0 rfl rfl)
  obtain ⟨m, u1, s1, u2, s2, g1, g2⟩ := tablesZ hL hSh
  refine (law_run (guardFull_ok (Gq_Gz m _ _) ⟨⟨_, _, _, rfl⟩, _, _, _, rfl⟩ a0 ) (ρ := rho0) (W := W) (vs := #[v0]) ⟨rfl, fun j x hj => ?_⟩ g1 g2).mono fun e W' => ?_
  · match j, hj with
    | 0, hj => simp at hj; subst hj; exact ⟨_, rfl, e0⟩
    | j + 1, hj => simp at hj
  · rintro ⟨v, D', ρ', rfl, hr, hk⟩
    obtain rfl : v = .bool true := hr
    exact ⟨_, rfl, post_of_kept (pa := _) (pv := []) hW' (fun _ _ _ => trodAll_cons_mk (shut_bool Tryz.underlying4 _) trodAll_mk0)
      (fun sp hs => trodAll_keep (l := [3]) hk.heap kR (fun _ => rfl) _ _ _ _ (by rw [Tryz.params6]; decide) hA1 (fun q hq => hs q (by simpa using hq))) (fun _ _ => rfl) rfl hk
      (ok_one kR rfl (okWide_bool_mk Tryz.underlying4 _))⟩

/-- A world for the witness: the settled one, the listed tables holding what their initialisers lay. -/
def vals : Nat → DataW Unit → List Value
  | n + 1, .agg l => l.flatMap (vals n)
  | _, .lit (.int k z) => [.int k z]
  | _, .lit (.string s) => [.string ⟨s.toArray⟩]
  | _, _ => []
def lay (h : Array Obj) (g : Nat) (d : DataW Unit) : Array Obj := h.modify g fun
  | .cells _ t frozen => .cells (vals 4 d).toArray t frozen
  | o => o
noncomputable def low : Nat := (World.holding Tryz.prog default ⟨#[], #[], []⟩).heap.size
noncomputable def layE (h : Array Obj) (g i : Nat) : Array Obj := h.modify g fun
  | .cells _ t frozen => .cells #[.iface 310 (.pointer (some ⟨low + i, 0, none⟩))] t frozen
  | o => o
noncomputable def laidWorld (os : Os) : World :=
  { World.holding Tryz.prog os ⟨#[.cells #[.string ⟨#[118, 97, 108, 117, 101, 32, 111, 117, 116, 32, 111, 102, 32, 114, 97, 110, 103, 101]⟩] 312, .cells #[.string ⟨#[105, 110, 118, 97, 108, 105, 100, 32, 115, 121, 110, 116, 97, 120]⟩] 312], #[], []⟩ with heap := lay (lay (lay (lay (lay (lay (lay (layE (layE ((World.holding Tryz.prog os ⟨#[.cells #[.string ⟨#[118, 97, 108, 117, 101, 32, 111, 117, 116, 32, 111, 102, 32, 114, 97, 110, 103, 101]⟩] 312, .cells #[.string ⟨#[105, 110, 118, 97, 108, 105, 100, 32, 115, 121, 110, 116, 97, 120]⟩] 312], #[], []⟩).heap) 4 0) 3 1) 8 Rows.laid_math_bits_deBruijn32tab) 9 Rows.laid_math_bits_deBruijn64tab) 5 Rows.laid_internal_strconv_uint64pow10) 7 Rows.laid_unicode_utf8_acceptRanges) 1 Rows.laid_countersign_pct_digits) 0 Rows.laid_countersign_reply_rows) 6 Rows.laid_unicode_utf8_first }
theorem laid_met (os : Os) : laidMet Tryz.prog Rows.guardFullRow.laid ((laidWorld os).forCall (fun _ _ => 0) ⟨#[], #[.int .i64 0], []⟩).memory :=
  laidMet_of_run' 8 kR kR
theorem reads (os : Os) {H : Type} (enc : TypeId × Value → H) : ∃ places, DataW.whole enc Tryz.prog ((laidWorld os).forCall (fun _ _ => 0) ⟨#[], #[.int .i64 0], []⟩).memory Tryz.f6.params.toList Rows.guardFullSpec.vars false (#[.int .i64 0] : Array Value).toList 8 = some ([.lit (.int .i64 0)], [], places) :=
  ⟨[], by kernel_rfl⟩

theorem lf_no : Tryz.checked.prog.inits.idxOf? 6 = none := by kernel_rfl
theorem lf_vars (os : Os) : ((laidWorld os).forCall (fun _ _ => 0) ⟨#[], #[.int .i64 0], []⟩).variablesB Tryz.checked.prog = true := by kernel_rfl
theorem lf_rest (os : Os) : (((laidWorld os).forCall (fun _ _ => 0) ⟨#[], #[.int .i64 0], []⟩).heap.toList.drop Tryz.checked.prog.globals.size).take ((begin Tryz.checked.prog (fun _ _ => 0) default).world.heap.size - Tryz.checked.prog.globals.size) =
    (begin Tryz.checked.prog (fun _ _ => 0) default).world.heap.toList.drop Tryz.checked.prog.globals.size := by kernel_rfl
theorem lf_ok (os : Os) : Input.okWideB Tryz.checked.prog ((laidWorld os).forCall (fun _ _ => 0) ⟨#[], #[.int .i64 0], []⟩) 6 ⟨#[], #[.int .i64 0], []⟩ = true := by kernel_rfl
theorem lf_size (os : Os) (H : Type) (enc : TypeId × Value → H) : (OpenSpec.ofChange Rows.guardFullSpec).bare.sizedB enc Tryz.prog Tryz.f6 false ((laidWorld os).forCall (fun _ _ => 0) ⟨#[], #[.int .i64 0], []⟩).memory #[.int .i64 0] 8 = true := by kernel_rfl

set_option maxRecDepth 100000 in
theorem lifted (os : Os) (started : os.Started) (H : Type) (enc : TypeId × Value → H) (F : Stop.Interp) :
    ReturnsInHanded {} Tryz.checked os 6 .any ((OpenSpec.ofChange Rows.guardFullSpec).preRow enc Tryz.prog Tryz.f6 Rows.guardFullRow.domain false Rows.guardFullRow.laid) (((OpenSpec.ofChange Rows.guardFullSpec).at F).post enc Tryz.prog Tryz.f6 false true false false) := by
  obtain ⟨places, hx⟩ := reads os enc
  refine returnsInHanded_of_row (C := Tryz.checked) (s := OpenSpec.ofChange Rows.guardFullSpec) own started lf_no Tryz.func6
    (witness_row_at (enc := enc) (C := Tryz.checked) false (laidWorld os) #[.int .i64 0] rfl (lf_vars os) (lf_rest os) (lf_ok os)
      (OpenSpec.preRow_of_cond 8 hx kR (fun k hk => by cases hk) (lf_size os H enc) (laid_met os))) ?_
  intro W base args ds gs before hval hW _ _ _ hL hsh _
  exact contract H enc W base args ds gs before hval hW hL hsh

theorem bAnd2 {a b : Bool} (h1 : a = true) (h2 : b = true) : (a && b) = true := by rw [h1, h2]; rfl
set_option maxHeartbeats 40000000 in
theorem closed_ok : joinedFacts Tryz.pinned.checked.prog 6 Tryz.f6 (OpenSpec.ofChange Rows.guardFullSpec).bare Rows.guardFullRow = true := by
  unfold joinedFacts
  repeat' (with_reducible refine bAnd2 ?_ ?_)
  all_goals decide +kernel
theorem said : Rows.GuardFullSaid :=
  OpenClaim.holds_of_cond 6 Tryz.f6 rfl rfl rfl rfl rfl rfl rfl ⟨rfl, rfl, rfl, rfl, rfl⟩ rfl rfl rfl rfl rfl kR Tryz.func6 closed_ok
    (of_decide_eq_true kR) (by unfold Func.isWrapper; first | (rw [if_pos (by decide +kernel)]; kernel_rfl) | (rw [if_neg (by decide +kernel)]; exact ⟨rfl, rfl⟩))
    (fun os started H enc _ F => by rw [OpenClaim.pre_eq_preRow]; exact lifted os started H enc F)

theorem plain (f : FuncId) (fn : Func) (hf : Tryz.pinned.checked.prog.funcNamed "countersign/countersignlaw29.GuardFull" = some f) (hfn : Tryz.pinned.checked.prog.funcs[f]? = some fn) :
    true = Tryz.pinned.checked.prog.looks [] ∧ ∀ (j : Nat) t, fn.params[j]? = some t → Tryz.pinned.checked.prog.wantsStandIn t = false := by
  obtain rfl : f = 6 := Option.some.inj ((show Tryz.prog.funcNamed "countersign/countersignlaw29.GuardFull" = some 6 by kernel_rfl).symm.trans hf) |>.symm
  obtain rfl : fn = Tryz.f6 := (Option.some.inj (Tryz.func6.symm.trans hfn)).symm
  refine ⟨by kernel_rfl, fun j t ht => ?_⟩
  rw [Tryz.params6] at ht
  have hall : ([3] : List Nat).all (fun u => !(Tryz.pinned.checked.prog.wantsStandIn u)) = true := by kernel_rfl
  have hm : t ∈ ([3] : List Nat) := by simpa using Array.mem_of_getElem? ht
  simpa using List.all_eq_true.1 hall t hm

/-- The card. -/
theorem card : Rows.GuardFullCardSaid :=
  Claim7.holds_tied_plain_at .later [] _ _ _ _ said (fun _ h => by cases h) kR (fun _ h => by cases h) guardFull_row_tie rfl ⟨rfl, rfl⟩ kR rfl plain kR
end Go.Proofs.YtgnhhialddlknaaGreatDoor.guardFull
