/-
  Own layer 'SV' (14): what the executor answers hangs on what it read alone.
-/
import Derived.Test.YtmacpjddafcjcaaDoorSvOp
set_option linter.all false
namespace Go.Sv
open M

def Loc {α : Type} (m : M α) : Prop := ∀ L L' a r, m L = some (a, r) → (∀ k ∈ r, L' k = L k) → m L' = some (a, r)
theorem Loc.ret {α : Type} (a : α) : Loc (M.ret a) := fun L L' b r h _ => h
theorem Loc.fail {α : Type} : Loc (M.fail : M α) := fun L L' b r h _ => h
theorem Loc.rd (k : Key) : Loc (M.rd k) := by
  intro L L' b r h hk
  simp only [M.rd] at h ⊢
  cases hl : L k with
  | none => simp [hl] at h
  | some v =>
    simp only [hl, Option.some.injEq, Prod.mk.injEq] at h
    obtain ⟨rfl, rfl⟩ := h
    rw [hk k (by simp), hl]
theorem Loc.bind {α β : Type} {m : M α} {f : α → M β} (hm : Loc m) (hf : ∀ a, Loc (f a)) : Loc (M.bind m f) := by
  intro L L' b r h hk
  simp only [M.bind] at h ⊢
  cases h1 : m L with
  | none => simp [h1] at h
  | some p =>
    obtain ⟨a, r1⟩ := p
    simp only [h1] at h
    cases h2 : f a L with
    | none => simp [h2] at h
    | some q =>
      obtain ⟨c, r2⟩ := q
      simp only [h2, Option.some.injEq, Prod.mk.injEq] at h
      obtain ⟨rfl, rfl⟩ := h
      rw [hm L L' a r1 h1 (fun k hk' => hk k (by simp [hk']))]
      simp only
      rw [hf a L L' c r2 h2 (fun k hk' => hk k (by simp [hk']))]
theorem Loc.opt {α : Type} (o : Option α) : Loc (M.opt o) := by cases o <;> first | exact Loc.ret _ | exact Loc.fail
theorem Loc.guard (b : Bool) : Loc (M.guard b) := by cases b <;> first | exact Loc.ret _ | exact Loc.fail

section
variable {E : Env} {g : OG} {i d nid : Nat}
theorem loc_opd (x : Operand) : Loc (opdM E g x) := by
  cases x with
  | tmp t =>
    unfold opdM
    refine Loc.bind (Loc.rd _) (fun kv => ?_)
    split
    · exact Loc.ret _
    · split
      · exact Loc.bind (Loc.guard _) (fun _ => Loc.ret _)
      · exact Loc.fail
    · exact Loc.fail
  | const v => exact Loc.opt _
  | global n => simp only [opdM]; split <;> first | exact Loc.ret _ | exact Loc.fail
  | func f => exact Loc.ret _
theorem loc_gd : ∀ (n t : Nat) (w : Bool), Loc (gdM n t w)
  | 0, _, _ => Loc.fail
  | n + 1, t, w => by
    unfold gdM
    refine Loc.bind (Loc.rd _) (fun kv => ?_)
    split
    · exact Loc.ret _
    · exact Loc.bind (loc_gd n _ _) (fun _ => Loc.ret _)
    · exact Loc.fail
theorem loc_fin (vc : List Prop) (v : V1) : Loc (finM E i g d vc v) := by unfold finM; split <;> exact Loc.ret _
theorem loc_flat (v : V1) : Loc (flatM E i g d v) := by unfold flatM; split <;> exact Loc.bind (Loc.guard _) (fun _ => Loc.ret _)
theorem loc_cell (v : V1) : Loc (cellM v) := by cases v <;> first | exact Loc.ret _ | exact Loc.fail
theorem loc_int (v : V1) : Loc (intM v) := by unfold intM; split <;> first | exact Loc.ret _ | exact Loc.fail
theorem loc_bool (v : V1) : Loc (boolM v) := by unfold boolM; split <;> first | exact Loc.ret _ | exact Loc.fail
theorem loc_cells (id : Nat) : ∀ (n off : Nat), Loc (cellsM id off n)
  | 0, _ => Loc.ret _
  | n + 1, off => by
    unfold cellsM
    refine Loc.bind (Loc.rd _) (fun kv => ?_)
    split
    · exact Loc.bind (loc_cells id n _) (fun _ => Loc.ret _)
    · exact Loc.fail
theorem loc_have (id : Nat) : ∀ (n off : Nat), Loc (haveM id off n)
  | 0, _ => Loc.ret _
  | n + 1, off => by unfold haveM; exact Loc.bind (Loc.rd _) (fun kv => loc_have id n _)
theorem loc_mkV (ag : Bool) (l : List Cell) : Loc (mkV ag l) := by
  unfold mkV; split
  · exact Loc.ret _
  · split <;> first | exact Loc.ret _ | exact Loc.fail
theorem loc_row (id : Nat) : Loc (rowM id) := by
  unfold rowM
  refine Loc.bind (Loc.rd _) (fun kv => ?_)
  split <;> first | exact Loc.ret _ | exact Loc.fail
theorem loc_flatG (l : List Cell) : Loc (flatG g l) := by unfold flatG; split <;> first | exact Loc.ret _ | exact Loc.guard _
theorem loc_pure1 : Loc (pure1 g) := by unfold pure1; split <;> first | exact Loc.ret _ | exact Loc.fail
theorem loc_blk (id : Nat) (vc : List Prop) (b : Blk) : Loc (blkM E i id vc b) := by unfold blkM; split <;> exact Loc.ret _
theorem loc_arith (k : IntKind) (r : Int) : Loc (arithM E i g d k r) := by unfold arithM; split <;> exact loc_fin _ _
theorem loc_binI (op : BinOp) (k : IntKind) (x y : Int) : Loc (binI E i g d op k x y) := by
  unfold binI; split <;> first | exact loc_arith _ _ | exact loc_fin _ _ | exact Loc.fail
theorem loc_binS (op : BinOp) (x y : List UInt8) : Loc (binS E i g d op x y) := by
  unfold binS; split <;> first | exact loc_fin _ _ | exact Loc.fail
theorem loc_optI (o : Option Operand) : Loc (optIM E g o) := by
  cases o with
  | none => exact Loc.ret _
  | some o => exact Loc.bind (loc_opd _) (fun _ => Loc.bind (loc_int _) (fun _ => Loc.ret _))
theorem loc_opds : ∀ (l : List Operand), Loc (opdsM E g l)
  | [] => Loc.ret _
  | x :: r => by unfold opdsM; exact Loc.bind (loc_opd _) (fun _ => Loc.bind (loc_opds r) (fun _ => Loc.ret _))
theorem loc_parts (pl : Nat → Option (Nat × Nat)) : ∀ (ps : List (Nat × Operand)) (l : List Cell), Loc (partsM E g pl l ps)
  | [], l => Loc.ret _
  | (i, x) :: r, l => by unfold partsM; exact Loc.bind (loc_opd _) (fun _ => Loc.bind (Loc.opt _) (fun _ => Loc.bind (Loc.guard _) (fun _ => loc_parts pl r _)))
theorem loc_blks : ∀ (l : List Nat), Loc (blksM l)
  | [] => Loc.ret _
  | x :: r => by
    unfold blksM
    refine Loc.bind (Loc.rd _) (fun kv => ?_)
    split
    · exact Loc.bind (loc_blks r) (fun _ => Loc.ret _)
    · exact Loc.fail
theorem loc_callee (x : Operand) : Loc (calleeM E g x) := by
  unfold calleeM
  split
  · exact Loc.ret _
  · refine Loc.bind (loc_opd _) (fun _ => ?_)
    split <;> first | exact Loc.ret _ | exact Loc.fail
theorem loc_boolOf (kv : KV) : Loc (boolOf kv) := by unfold boolOf; split <;> first | exact Loc.ret _ | exact Loc.fail

theorem loc_base (el sz : Nat) (c : Cell) : Loc (baseM el sz c) := by
  unfold baseM
  split
  · exact Loc.ret _
  · exact Loc.bind (Loc.guard _) (fun _ => Loc.bind (loc_row _) (fun _ => Loc.bind (Loc.guard _) (fun _ => Loc.ret _)))
  · exact Loc.fail
theorem loc_src (sz : Nat) (no : Option Nat) (c : Cell) : Loc (srcM sz no c) := by
  unfold srcM
  split
  · exact Loc.ret _
  · exact Loc.bind (Loc.guard _) (fun _ => Loc.ret _)
  · exact Loc.bind (Loc.guard _) (fun _ => Loc.bind (loc_row _) (fun _ => Loc.bind (Loc.guard _) (fun _ => Loc.ret _)))
  · exact Loc.bind (Loc.guard _) (fun _ => Loc.ret _)
  · exact Loc.fail

theorem loc_str (v : V1) : Loc (strM v) := by unfold strM; split <;> first | exact Loc.ret _ | exact Loc.fail
theorem loc_ms (id : Nat) : Loc (msM id) := by
  unfold msM
  refine Loc.bind (Loc.rd _) (fun kv => ?_)
  split <;> first | exact Loc.ret _ | exact Loc.fail
theorem loc_get (c : Cell) : Loc (getM c) := by unfold getM; split <;> first | exact Loc.ret _ | exact loc_ms _ | exact Loc.fail
theorem loc_bx (id : Nat) : Loc (bxM id) := by
  unfold bxM
  refine Loc.bind (Loc.rd _) (fun kv => ?_)
  split <;> first | exact Loc.ret _ | exact Loc.fail

theorem loc_act {cs : List (Nat × CallE E.P E.G)} (o : Oper) : Loc (actM E cs i nid g o) := by
  unfold actM
  split
  all_goals (try unfold eM)
  all_goals (try unfold loadM) <;> (try unfold storeM) <;> (try unfold nilChkM) <;> (try unfold binM) <;> (try unfold unM) <;> (try unfold convXM) <;> (try unfold moveXM) <;> (try unfold makeMapM) <;> (try unfold lookupM) <;> (try unfold mapUpdM) <;> (try unfold rangeM) <;> (try unfold nextM) <;> (try unfold mkIfcM) <;> (try unfold mkFnM) <;> (try unfold sliceM) <;> (try unfold faddrM) <;> (try unfold fieldM) <;> (try unfold iaddrM) <;> (try unfold indexM) <;> (try unfold extractM) <;> (try unfold buildM) <;> (try unfold buildSlM) <;> (try unfold pickXM)
  all_goals repeat' (first
    | exact Loc.ret _ | exact Loc.fail | exact Loc.rd _ | exact Loc.opt _ | exact Loc.guard _ | exact loc_opd _ | exact loc_fin _ _ | exact loc_flat _ | exact loc_cell _ | exact loc_int _ | exact loc_bool _ | exact loc_cells _ _ _
    | exact loc_have _ _ _ | exact loc_mkV _ _ | exact loc_row _ | exact loc_flatG _ | exact loc_pure1 | exact loc_blk _ _ _ | exact loc_arith _ _ | exact loc_binI _ _ _ _ | exact loc_binS _ _ _ | exact loc_optI _
    | exact loc_base _ _ _ | exact loc_src _ _ _ | exact loc_opds _ | exact loc_parts _ _ _ | exact loc_blks _ | exact loc_callee _ | exact loc_gd _ _ _ | exact loc_str _ | exact loc_ms _ | exact loc_get _ | exact loc_bx _
    | (refine Loc.bind ?_ (fun _ => ?_)) | split | unfold toUnsM | unfold frUnsM | unfold toStrM | unfold convM | unfold valM | unfold slDataM | unfold unStrM | unfold minmaxM | unfold pickM | unfold buildPubM | unfold buildSlM | unfold lenM | unfold appendM | unfold callM)

theorem loc_op {cs : List (Nat × CallE E.P E.G)} (o : Oper) : Loc (opM E cs i nid o) := by
  unfold opM
  repeat' (first
    | exact Loc.ret _ | exact Loc.fail | exact Loc.rd _ | exact Loc.opt _ | exact loc_act _ | exact loc_boolOf _ | exact loc_gd _ _ _
    | (refine Loc.bind ?_ (fun _ => ?_)) | split)
end
end Go.Sv
