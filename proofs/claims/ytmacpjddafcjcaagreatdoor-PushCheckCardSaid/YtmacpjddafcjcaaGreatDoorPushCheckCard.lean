/- The given statement of the law PushCheckCard, at every input, as its card says it; no condition. -/
import Derived.Test.YtmacpjddafcjcaaGreatDoorPushCheckCardP7
import Derived.Test.YtmacpjddafcjcaaGreatDoorPushCheckCardP8
import Derived.Test.YtmacpjddafcjcaaGreatDoorCards
import Derived.Test.YtmacpjddafcjcaaGreatDoorTie
import Derived.WalkKit
import Derived.ProofKit
import Derived.OpenShut
import Derived.Deep.DeepHandedRow
import Derived.Deep.Strs
import Derived.Lib.SmallJoins
set_option linter.all false
namespace Go.Proofs.YtmacpjddafcjcaaGreatDoor.pushCheck
open Go.ChangeShapes Go.WideShapes Go.ChangeAt Go.RowKit Go.Sv Go.Proofs.Tw Go.ChangeMaps

theorem own : ownKnob Tryz.prog.godebug = none := by kernel_rfl

/-- What the row lists is what the contracts take for granted. -/
theorem tables {W : World} (h : laidMetH Tryz.prog Rows.pushCheckRow.laid W) (hs : W.ShapedOpen Tryz.prog) : ∃ m, GlobOk (Gn m) (Dw W) ∧ GlobW (Gn m) W := by
  obtain ⟨m, cs, fz, q1, q2, q3⟩ := int_shape (g := 3) (t := 3) (zero := #[.int .i64 0]) (k := .i64) hs (of_decide_eq_true (by kernel_rfl)) (by kernel_rfl) rfl (by kernel_rfl) (by kernel_rfl) (by kernel_rfl)
  refine ⟨m, glob_plus (laid := Rows.pushCheckRow.laid) h q1 q2 q3 rfl fun g cs hne hg => ?_⟩
  unfold Tw.Gn at hg
  split at hg
  · exact (hne rfl).elim
  · cases hg

set_option maxRecDepth 100000 in
theorem contract (H : Type) (enc : TypeId × Value → H) (W : World) (base : Nat) (args : Array Value) (ds gs : List (DataW H)) (before : List MemPlace)
    (hval : ∀ (j : Nat) t v, Tryz.f5.params[j]? = some t → args[j]? = some v → Value.okWide Tryz.prog W .any base t v)
    (hW : DataW.Whole enc Tryz.prog Tryz.f5.params.toList Rows.pushCheckSpec.vars false W args.toList ds gs before) (hL : laidMetH Tryz.prog Rows.pushCheckRow.laid W) (hSh : W.ShapedOpen Tryz.prog) :
    Calls Tryz.prog 5 args W fun e W' => ∃ v, e = .returned v ∧ Rows.pushCheckSpec.post enc Tryz.prog Tryz.f5 false true false false W args v W' := by
  have hW' := hW
  obtain ⟨p, q, hA0, hV, rfl, hfz, hnd⟩ := hW
  have hA : DataW.TrodAll enc Tryz.prog W 0 (fun _ => true) true Tryz.f5.params.toList args.toList ds p := hA0
  have hA1 := hA
  rw [Tryz.params5] at hA hval
  obtain ⟨v0, vs0, d0, ds0, p0, q0, hargs, rfl, rfl, x0, r0⟩ := trodAll_cons hA
  obtain ⟨v1, vs1, d1, ds1, p1, q1, rfl, rfl, rfl, x1, r1⟩ := trodAll_cons r0
  obtain ⟨v2, vs2, d2, ds2, p2, q2, rfl, rfl, rfl, x2, r2⟩ := trodAll_cons r1
  obtain ⟨rfl, rfl, rfl⟩ := trodAll_nil r2
  obtain rfl : args = #[v0, v1, v2] := by cases args; simp_all
  obtain ⟨rfl, rfl⟩ := trodVars_none hV
  obtain ⟨a0, h0, e0⟩ := ints_den Tryz.underlying22 Tryz.underlying3 (by kernel_rfl) (hval 0 22 v0 rfl rfl) x0
  obtain ⟨a1, e1⟩ : ∃ r : WT, DenV (Dw W) rho0 (.agg (encW r)) v1 := by
    obtain ⟨us, rfl, hus, hc⟩ := okWide_cells (fs := #[⟨"Type", 9, 0, false, "", "", 0⟩, ⟨"Redirect", 9, 1, false, "", "", 16⟩, ⟨"Scope", 9, 2, false, "", "", 32⟩, ⟨"State", 9, 3, false, "", "", 48⟩, ⟨"Nonce", 9, 4, false, "", "", 64⟩, ⟨"Challenge", 9, 5, false, "", "", 80⟩, ⟨"Method", 9, 6, false, "", "", 96⟩]) (ts := [9, 9, 9, 9, 9, 9, 9]) (by kernel_rfl) (by kernel_rfl) (by kernel_rfl) (hval 1 61 v1 rfl rfl)

    obtain ⟨u0, u1, u2, u3, u4, u5, u6, rfl⟩ := array7 hus
    obtain ⟨t0, q0, w0⟩ := hc 0 u0 rfl
    cases q0
    obtain ⟨s0, g0⟩ := str_den Tryz.underlying9 (okWide_str Tryz.underlying9 w0)
    obtain ⟨t1, q1, w1⟩ := hc 1 u1 rfl
    cases q1
    obtain ⟨s1, g1⟩ := str_den Tryz.underlying9 (okWide_str Tryz.underlying9 w1)
    obtain ⟨t2, q2, w2⟩ := hc 2 u2 rfl
    cases q2
    obtain ⟨s2, g2⟩ := str_den Tryz.underlying9 (okWide_str Tryz.underlying9 w2)
    obtain ⟨t3, q3, w3⟩ := hc 3 u3 rfl
    cases q3
    obtain ⟨s3, g3⟩ := str_den Tryz.underlying9 (okWide_str Tryz.underlying9 w3)
    obtain ⟨t4, q4, w4⟩ := hc 4 u4 rfl
    cases q4
    obtain ⟨s4, g4⟩ := str_den Tryz.underlying9 (okWide_str Tryz.underlying9 w4)
    obtain ⟨t5, q5, w5⟩ := hc 5 u5 rfl
    cases q5
    obtain ⟨s5, g5⟩ := str_den Tryz.underlying9 (okWide_str Tryz.underlying9 w5)
    obtain ⟨t6, q6, w6⟩ := hc 6 u6 rfl
    cases q6
    obtain ⟨s6, g6⟩ := str_den Tryz.underlying9 (okWide_str Tryz.underlying9 w6)
    refine ⟨⟨s0, s1, s2, s3, s4, s5, s6⟩, #[u0, u1, u2, u3, u4, u5, u6], rfl, rfl, fun j x hj => ?_⟩
    match j, hj with
    | 0, hj => simp [encW] at hj; subst hj; exact ⟨_, rfl, g0⟩
    | 1, hj => simp [encW] at hj; subst hj; exact ⟨_, rfl, g1⟩
    | 2, hj => simp [encW] at hj; subst hj; exact ⟨_, rfl, g2⟩
    | 3, hj => simp [encW] at hj; subst hj; exact ⟨_, rfl, g3⟩
    | 4, hj => simp [encW] at hj; subst hj; exact ⟨_, rfl, g4⟩
    | 5, hj => simp [encW] at hj; subst hj; exact ⟨_, rfl, g5⟩
    | 6, hj => simp [encW] at hj; subst hj; exact ⟨_, rfl, g6⟩
    | j + 7, hj => simp [encW] at hj
  obtain ⟨a2, e2⟩ := int_den Tryz.underlying3 (hval 2 3 v2 rfl rfl)
  obtain ⟨m, g1, g2⟩ := tables hL hSh
  refine (law_run (pushCheck_ok a0 a1 a2 (by unfold maxLen at h0; omega)) (ρ := rho0) (W := W) (vs := #[v0, v1, v2]) ⟨rfl, fun j x hj => ?_⟩ g1 g2).mono fun e W' => ?_
  · match j, hj with
    | 0, hj => simp at hj; subst hj; exact ⟨_, rfl, e0⟩
    | 1, hj => simp at hj; subst hj; exact ⟨_, rfl, e1⟩
    | 2, hj => simp at hj; subst hj; exact ⟨_, rfl, e2⟩
    | j + 3, hj => simp at hj
  · rintro ⟨v, D', ρ', rfl, hr, hk⟩
    obtain rfl : v = .bool true := hr
    exact ⟨_, rfl, post_of_kept (pa := _) (pv := []) hW' (fun _ _ _ => trodAll_cons_mk (shut_bool Tryz.underlying4 _) trodAll_mk0)
      (fun sp hs => trodAll_keep (l := [3, 9, 22, 61]) hk.heap (by kernel_rfl) (fun _ => rfl) _ _ _ _ (by rw [Tryz.params5]; decide) hA1 (fun q hq => hs q (by simpa using hq))) (fun _ _ => rfl) rfl hk
      (ok_one (by kernel_rfl) rfl (okWide_bool_mk Tryz.underlying4 _))⟩

/-- A world for the witness: the settled one, the listed tables holding what their initialisers lay. -/
def vals : Nat → DataW Unit → List Value
  | n + 1, .agg l => l.flatMap (vals n)
  | _, .lit (.int k z) => [.int k z]
  | _, .lit (.string s) => [.string ⟨s.toArray⟩]
  | _, _ => []
def lay (h : Array Obj) (g : Nat) (d : DataW Unit) : Array Obj := h.modify g fun
  | .cells _ t frozen => .cells (vals 4 d).toArray t frozen
  | o => o
noncomputable def laidWorld (os : Os) : World :=
  { World.holding Tryz.prog os ⟨#[], #[], []⟩ with heap := lay (lay (World.holding Tryz.prog os ⟨#[], #[], []⟩).heap 7 Rows.laid_unicode_utf8_acceptRanges) 6 Rows.laid_unicode_utf8_first }
theorem laid_met (os : Os) : laidMet Tryz.prog Rows.pushCheckRow.laid ((laidWorld os).forCall (fun _ _ => 0) ⟨#[], #[.slice none 0 0, .agg #[.string ⟨#[]⟩, .string ⟨#[]⟩, .string ⟨#[]⟩, .string ⟨#[]⟩, .string ⟨#[]⟩, .string ⟨#[]⟩, .string ⟨#[]⟩], .int .i64 0], []⟩).memory :=
  laidMet_of_run' 8 (by kernel_rfl) (by kernel_rfl)
theorem reads (os : Os) {H : Type} (enc : TypeId × Value → H) : ∃ places, DataW.whole enc Tryz.prog ((laidWorld os).forCall (fun _ _ => 0) ⟨#[], #[.slice none 0 0, .agg #[.string ⟨#[]⟩, .string ⟨#[]⟩, .string ⟨#[]⟩, .string ⟨#[]⟩, .string ⟨#[]⟩, .string ⟨#[]⟩, .string ⟨#[]⟩], .int .i64 0], []⟩).memory Tryz.f5.params.toList Rows.pushCheckSpec.vars false (#[.slice none 0 0, .agg #[.string ⟨#[]⟩, .string ⟨#[]⟩, .string ⟨#[]⟩, .string ⟨#[]⟩, .string ⟨#[]⟩, .string ⟨#[]⟩, .string ⟨#[]⟩], .int .i64 0] : Array Value).toList 8 = some ([.nil, .agg [.lit (.string []), .lit (.string []), .lit (.string []), .lit (.string []), .lit (.string []), .lit (.string []), .lit (.string [])], .lit (.int .i64 0)], [], places) :=
  ⟨[], by kernel_rfl⟩

set_option maxRecDepth 100000 in
theorem lifted (os : Os) (started : os.Started) (H : Type) (enc : TypeId × Value → H) (F : Stop.Interp) :
    ReturnsInHanded {} Tryz.checked os 5 .any ((OpenSpec.ofChange Rows.pushCheckSpec).preRow enc Tryz.prog Tryz.f5 Rows.pushCheckRow.domain false Rows.pushCheckRow.laid) (((OpenSpec.ofChange Rows.pushCheckSpec).at F).post enc Tryz.prog Tryz.f5 false true false false) := by
  obtain ⟨places, hx⟩ := reads os enc
  refine returnsInHanded_of_row (C := Tryz.checked) (s := OpenSpec.ofChange Rows.pushCheckSpec) own started (by kernel_rfl) Tryz.func5
    (witness_row_at (enc := enc) (C := Tryz.checked) false (laidWorld os) #[.slice none 0 0, .agg #[.string ⟨#[]⟩, .string ⟨#[]⟩, .string ⟨#[]⟩, .string ⟨#[]⟩, .string ⟨#[]⟩, .string ⟨#[]⟩, .string ⟨#[]⟩], .int .i64 0] rfl (by kernel_rfl) (by kernel_rfl) (by kernel_rfl)
      (OpenSpec.preRow_of_cond 8 hx (by kernel_rfl) (fun k hk => by cases hk) (by kernel_rfl) (laid_met os))) ?_
  intro W base args ds gs before hval hW _ _ _ hL hsh _
  exact contract H enc W base args ds gs before hval hW hL hsh

theorem said : Rows.PushCheckSaid :=
  OpenClaim.holds_of_cond 5 Tryz.f5 rfl rfl rfl rfl rfl rfl rfl ⟨rfl, rfl, rfl, rfl, rfl⟩ rfl rfl rfl rfl rfl (by kernel_rfl) Tryz.func5 (by kernel_rfl)
    (of_decide_eq_true (by kernel_rfl)) (by unfold Func.isWrapper; first | (rw [if_pos (by decide +kernel)]; kernel_rfl) | (rw [if_neg (by decide +kernel)]; exact ⟨rfl, rfl⟩))
    (fun os started H enc _ F => by rw [OpenClaim.pre_eq_preRow]; exact lifted os started H enc F)

theorem plain (f : FuncId) (fn : Func) (hf : Tryz.pinned.checked.prog.funcNamed "countersign/countersignlaw20.PushCheck" = some f) (hfn : Tryz.pinned.checked.prog.funcs[f]? = some fn) :
    true = Tryz.pinned.checked.prog.looks [] ∧ ∀ (j : Nat) t, fn.params[j]? = some t → Tryz.pinned.checked.prog.wantsStandIn t = false := by
  obtain rfl : f = 5 := Option.some.inj ((show Tryz.prog.funcNamed "countersign/countersignlaw20.PushCheck" = some 5 by kernel_rfl).symm.trans hf) |>.symm
  obtain rfl : fn = Tryz.f5 := (Option.some.inj (Tryz.func5.symm.trans hfn)).symm
  refine ⟨by kernel_rfl, fun j t ht => ?_⟩
  rw [Tryz.params5] at ht
  have hall : ([22, 61, 3] : List Nat).all (fun u => !(Tryz.pinned.checked.prog.wantsStandIn u)) = true := by kernel_rfl
  have hm : t ∈ ([22, 61, 3] : List Nat) := by simpa using Array.mem_of_getElem? ht
  simpa using List.all_eq_true.1 hall t hm

/-- The card. -/
theorem card : Rows.PushCheckCardSaid :=
  Claim7.holds_tied_plain_at .later [] _ _ _ _ said (fun _ h => by cases h) (by kernel_rfl) (fun _ h => by cases h) pushCheck_row_tie rfl ⟨rfl, rfl⟩ (by kernel_rfl) rfl plain (by kernel_rfl)
end Go.Proofs.YtmacpjddafcjcaaGreatDoor.pushCheck
