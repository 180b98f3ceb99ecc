/-
  Own layer 'SV' (20): many steps at once; the ends of a walk.
-/
import Derived.Test.YtmacpjddafcjcaaDoorSvDraw
import Derived.Test.YtmacpjddafcjcaaDoorSvFn
set_option linter.all false
namespace Go.Sv
open M

theorem Sat.drew {Γ : Ctx} {S W : Nat → Prop} {D : Dat} {ρ : Rho} {st : St} {a : Act} {w : World} (h : Sat Γ S W D ρ st a w) : Sat Γ S W D ρ st a { w with drawn := w.drawn + 1 } :=
  { h with
    hp := fun id b hb => (h.hp id b hb).world rfl
    agree := fun b o v hv => h.agree b o v hv
    frame := fun b hb hk => h.frame b hb hk }

def regDraw (o : Option Out) (ops : Array Oper) : Bool → Bool
  | false => true
  | true => match o with
    | some o => drawOk ops.toList o.lg
    | none => false

section
variable {P : Program} {G : Nat → Option (List Cell)} {N kn : Nat} {k : List KI} {Q : St → Prop} {st st' : St}

theorem Wp.reg' {id : Nat} {ops : Array Oper} {draw : Bool} (hm : draw = true → P.follows .mixedOrders = true) (an : Ann P G) {out : Out} (hr : regRun P G N ops an st = some out) (hd : regDraw (some out) ops draw = true) (he : out.el = out.er) (hb : out.bl = out.br)
    (hv : ∀ p ∈ out.vc, p) (hk : Wp P G N kn k Q (out.st.done ops.toList st.nx (len ops.toList))) : Wp P G N kn (.code (.region id ops draw) :: k) Q st := by
  intro Γ h1 h2 h3 h4 a w hs
  subst h1 h2 h3
  unfold regRun at hr
  cases hoo : opsOk Γ.N ops.toList with
  | false => simp [hoo] at hr
  | true =>
    simp only [hoo] at hr
    cases draw with
    | false =>
      refine wp_region ?_
      rw [List.range_eq_range', ← Array.length_toList]
      refine run_text (Γ := Γ) (E := envOf Γ.P Γ.N ops.toList an) rfl rfl (cs := an.cs) rfl hoo ops.toList 0 st a w out rfl hr hv he hb ?_ ?_
      · obtain ⟨D, ρ, hs⟩ := hs
        refine ⟨D, ρ, hs.mono (fun id h => ?_) (fun t h => h.elim)⟩
        unfold sSet; omega
      · intro a' w' h
        refine ⟨_, hk Γ rfl rfl rfl h4, SatE.done (fun id h => ?_) h⟩
        unfold sSet at h; rw [len_eq]; omega
    | true =>
      refine wp_region_any (hm rfl) ?_
      refine run_draw (Γ := Γ) (E := envOf Γ.P Γ.N ops.toList an) rfl rfl (cs := an.cs) rfl hoo hr hd hv he hb ?_ ?_
      · obtain ⟨D, ρ, hs⟩ := hs
        refine ⟨D, ρ, (hs.mono (fun id h => ?_) (fun t h => h)).drew⟩
        unfold sSet; omega
      · intro a' w' h
        refine ⟨_, hk Γ rfl rfl rfl h4, SatE.done (fun id h => ?_) h⟩
        unfold sSet at h; rw [len_eq, Array.length_toList]; omega

structure Adv where
  k : List KI
  st : St
  vc : List Prop
  el : List (List (List V1))
  er : List (List (List V1))
  bl : List (List (List Blk))
  br : List (List (List Blk))
def Adv.here (k : List KI) (st : St) : Adv := ⟨k, st, [], [], [], [], []⟩

/-- As far as it goes: regions, sequences, blocks, exits; tests while decisions are given. -/
def adv (P : Program) (G : Nat → Option (List Cell)) (N : Nat) (mx : Bool) (ans : List (Nat × Ann P G)) : Nat → List Bool → List KI → St → Option Adv
  | 0, _, k, st => some (.here k st)
  | n + 1, dec, k, st => match k with
    | .code (.seq a b) :: k => adv P G N mx ans n dec (.code a :: .code b :: k) st
    | .code .skip :: k => adv P G N mx ans n dec k st
    | .code (.block id c) :: k => adv P G N mx ans n dec (.code c :: .blk id :: k) st
    | .blk _ :: k => adv P G N mx ans n dec k st
    | .code (.exit id) :: k => match unw id k with
      | some k' => adv P G N mx ans n dec k' st
      | none => none
    | .code (.cond c x y) :: k => match dec with
      | [] => some (.here (.code (.cond c x y) :: k) st)
      | d :: dec => match condB st c with
        | none => none
        | some b => match adv P G N mx ans n dec (.code (match d with | true => x | false => y) :: k) st with
          | none => none
          | some A => some { A with vc := (b = d) :: A.vc }
    | .code (.region id ops draw) :: k =>
      match bOr (bNot draw) mx with
      | false => none
      | true => match regRun P G N ops (match look ans id with | some an => an | none => {}) st with
        | none => none
        | some out => match regDraw (some out) ops draw with
          | false => none
          | true => match adv P G N mx ans n dec k (out.st.done ops.toList st.nx (len ops.toList)) with
            | none => none
            | some A => some ⟨A.k, A.st, appL out.vc A.vc, out.el :: A.el, out.er :: A.er, out.bl :: A.bl, out.br :: A.br⟩
    | k => some (.here k st)
where
  bNot : Bool → Bool
    | true => false
    | false => true
  bOr : Bool → Bool → Bool
    | true, _ => true
    | false, b => b

theorem adv_ok {mx : Bool} (hm : mx = true → P.follows .mixedOrders = true) {ans : List (Nat × Ann P G)} : ∀ (n : Nat) (dec : List Bool) (k : List KI) (st : St) (A : Adv), adv P G N mx ans n dec k st = some A →
    (∀ p ∈ A.vc, p) → A.el = A.er → A.bl = A.br → Wp P G N kn A.k Q A.st → Wp P G N kn k Q st := by
  intro n
  induction n with
  | zero => intro dec k st A h _ _ _ hw; simp only [adv, Option.some.injEq] at h; subst h; exact hw
  | succ n ih =>
    intro dec k st A h hv he hb hw
    unfold adv at h
    split at h
    · exact Wp.seq (ih _ _ _ _ h hv he hb hw)
    · exact Wp.skip (ih _ _ _ _ h hv he hb hw)
    · exact Wp.block (ih _ _ _ _ h hv he hb hw)
    · exact Wp.blk (ih _ _ _ _ h hv he hb hw)
    · split at h
      · rename_i hu; exact Wp.exit hu (ih _ _ _ _ h hv he hb hw)
      · cases h
    · split at h
      · simp only [Option.some.injEq] at h; subst h; exact hw
      · split at h
        · cases h
        · rename_i b hc
          split at h
          · cases h
          · rename_i A' h'
            simp only [Option.some.injEq] at h
            subst h
            have hd := hv _ (List.mem_cons_self ..)
            have := ih _ _ _ _ h' (fun p hp => hv p (by simp [hp])) he hb hw
            subst hd
            cases b with
            | true => exact Wp.cond hc (fun _ => this) (fun e => by cases e)
            | false => exact Wp.cond hc (fun e => by cases e) (fun _ => this)
    · split at h
      · cases h
      · rename_i hbo
        split at h
        · cases h
        · rename_i out hr
          split at h
          · cases h
          · rename_i hd
            split at h
            · cases h
            · rename_i A' h'
              simp only [Option.some.injEq] at h
              subst h
              simp only [List.cons.injEq] at he hb
              refine Wp.reg' (fun e => hm ?_) _ hr hd he.1 hb.1 (fun p hp => hv p (appL_mem.2 (.inl hp))) (ih _ _ _ _ h' (fun p hp => hv p (appL_mem.2 (.inr hp))) he.2 hb.2 hw)
              subst e
              simpa [adv.bNot, adv.bOr] using hbo
    · simp only [Option.some.injEq] at h; subst h; exact hw

def aOk (o : Option Adv) : Bool := match o with
  | some _ => true
  | none => false
def aK (o : Option Adv) : List KI := match o with
  | some A => A.k
  | none => []
def aSt (o : Option Adv) : St := match o with
  | some A => A.st
  | none => ⟨[], [], 0⟩
def aVc (o : Option Adv) : List Prop := match o with
  | some A => A.vc
  | none => []
def aE (o : Option Adv) : List (List (List V1)) × List (List (List Blk)) := match o with
  | some A => (A.el, A.bl)
  | none => ([], [])
def aF (o : Option Adv) : List (List (List V1)) × List (List (List Blk)) := match o with
  | some A => (A.er, A.br)
  | none => ([], [])

theorem Wp.go {mx : Bool} (hm : mx = true → P.follows .mixedOrders = true) (ans : List (Nat × Ann P G)) (n : Nat) (dec : List Bool) (vc : List Prop) (h : aOk (adv P G N mx ans n dec k st) = true) (he : aE (adv P G N mx ans n dec k st) = aF (adv P G N mx ans n dec k st))
    (hvc : aVc (adv P G N mx ans n dec k st) = vc) (hv : AllP vc) (hw : Wp P G N kn (aK (adv P G N mx ans n dec k st)) Q (aSt (adv P G N mx ans n dec k st))) : Wp P G N kn k Q st := by
  cases hh : adv P G N mx ans n dec k st with
  | none => rw [hh] at h; simp [aOk] at h
  | some A =>
    rw [hh] at he hvc hw
    simp only [aE, aF, Prod.mk.injEq, aVc, aK, aSt] at he hvc hw
    subst hvc
    exact adv_ok hm n dec k st A hh (AllP.mem hv) he.1 he.2 hw

/-! ends -/
def isRet : List KI → Bool
  | .code .ret :: _ => true
  | [] => true
  | _ => false
theorem Wp.ret' (h : isRet k = true) (hq : Q st) : Wp P G N kn k Q st := by
  match k, h with
  | [], _ => exact Wp.nil hq
  | .code .ret :: k, _ => exact Wp.ret hq

def cOp : List KI → Operand
  | .code (.cond c _ _) :: _ => c
  | _ => .func 0
def cX : List KI → List KI
  | .code (.cond _ x _) :: k => .code x :: k
  | _ => []
def cY : List KI → List KI
  | .code (.cond _ _ y) :: k => .code y :: k
  | _ => []
def isCond : List KI → Bool
  | .code (.cond _ _ _) :: _ => true
  | _ => false
theorem Wp.cond' (h : isCond k = true) (b : Bool) (hc : condB st (cOp k) = some b) (ht : b = true → Wp P G N kn (cX k) Q st) (hf : b = false → Wp P G N kn (cY k) Q st) : Wp P G N kn k Q st := by
  match k, h with
  | .code (.cond c x y) :: k, _ => exact Wp.cond hc ht hf

def isLoop : List KI → Bool
  | .code (.loop _) :: _ => true
  | _ => false
def loopB : List KI → Code
  | .code (.loop c) :: _ => c
  | _ => .skip
def loopR : List KI → List KI
  | .code (.loop _) :: k => k
  | _ => []
def LoopR {X : Type} (kn : Nat) (inv : X → St) (facts : X → Prop) (μ : X → Nat) (x : X) : St → Prop := fun s => ∃ x', facts x' ∧ μ x' < μ x ∧ Ent kn s (inv x')
theorem Wp.loop' {X : Type} (h : isLoop k = true) (inv : X → St) (facts : X → Prop) (μ : X → Nat) (x0 : X) (h0 : Ent kn st (inv x0)) (f0 : facts x0)
    (round : ∀ x, facts x → Wp P G N kn (.code (loopB k) :: .lp (LoopR kn inv facts μ x) :: loopR k) Q (inv x)) : Wp P G N kn k Q st := by
  match k, h with
  | .code (.loop c) :: k, _ => exact Wp.loop inv facts μ x0 h0 f0 round

def lpR : List KI → St → Prop
  | .lp R :: _ => R
  | _ => fun _ => False
theorem Wp.lp' {X : Type} {inv : X → St} {facts : X → Prop} {μ : X → Nat} {x : X} (h : lpR k = LoopR kn inv facts μ x) (x' : X) (f : facts x') (hlt : μ x' < μ x) (he : Ent kn st (inv x')) : Wp P G N kn k Q st := by
  match k, h with
  | .lp R :: k, h =>
    have h : R = LoopR kn inv facts μ x := h
    refine Wp.lp ?_
    rw [h]
    exact ⟨x', f, hlt, he⟩
  | [], h =>
    have : (fun _ => False : St → Prop) st = LoopR kn inv facts μ x st := congrFun h st
    exact (cast this.symm (⟨x', f, hlt, he⟩ : LoopR kn inv facts μ x st) : False).elim
  | .code c :: k, h =>
    have : (fun _ => False : St → Prop) st = LoopR kn inv facts μ x st := congrFun h st
    exact (cast this.symm (⟨x', f, hlt, he⟩ : LoopR kn inv facts μ x st) : False).elim
  | .blk i :: k, h =>
    have : (fun _ => False : St → Prop) st = LoopR kn inv facts μ x st := congrFun h st
    exact (cast this.symm (⟨x', f, hlt, he⟩ : LoopR kn inv facts μ x st) : False).elim

/-- A weaker state ahead of what is still to be done (of which the head is code). -/
def isCode : List KI → Bool
  | .code _ :: _ => true
  | _ => false
theorem Wp.ent' (h : isCode k = true) (he : Ent kn st st') (hw : Wp P G N kn k Q st') : Wp P G N kn k Q st := by
  match k, h with
  | .code c :: k, _ => exact Wp.ent he hw

def codeOf (fn : Func) : Code := match fn.body with
  | some c => c
  | none => .skip
/-- A function that takes plain values and gives plain values, by its body. -/
theorem Pur.of {P : Program} {G : Nat → Option (List Cell)} {f : FuncId} {fn : Func} {args rs : List V1} (hf : P.funcs[f]? = some fn) (hb : fn.body = some (codeOf fn)) (hN : Nat.ble (len args) fn.ntmps = true) (ha : idLtVs 0 args = true)
    (h : Wp P G fn.ntmps 0 [.code (codeOf fn)] (FinQ P fn.results.toList 0 (fun r h => r = rs ∧ h = [])) (st0 args [])) : Pur P G f args rs := by
  refine Fn.of (hin := []) hf hb ?_ (fun j x hj => idLtVs_inS ha j x hj) (by intro i b h; simp at h) h
  have := Nat.le_of_ble_eq_true hN
  rw [len_eq] at this
  exact this
end
attribute [irreducible] adv aK aSt aOk aE aF aVc cOp cX cY isCond isLoop loopB loopR lpR isRet isCode LoopR codeOf
end Go.Sv
