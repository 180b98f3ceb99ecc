/-
  Own layer 'SV' (16): code, loops, functions.
-/
import Derived.Test.YtmacpjddafcjcaaDoorSvRun
set_option linter.all false
namespace Go.Sv
open M

def Tri (Γ : Ctx) (c : Code) (st : St) (Q : Exit → St → Prop) : Prop :=
  ∀ a w, Sat0 Γ st a w → c.wp Γ.P (fun e a' w' => ∃ st', Q e st' ∧ Sat0 Γ st' a' w') a w

inductive KI
  | code (c : Code)
  | blk (id : Nat)
  | lp (R : St → Prop)

def post (Γ : Ctx) : List KI → (St → Prop) → Exit → St → Prop
  | [], Q => fun e st => match e with
    | .normal => Q st
    | .ret => Q st
    | _ => False
  | .code c :: k, Q => fun e st => match e with
    | .normal => Tri Γ c st (post Γ k Q)
    | e => post Γ k Q e st
  | .blk id :: k, Q => fun e st => match e with
    | .exit id' => if id' = id then post Γ k Q .normal st else post Γ k Q (.exit id') st
    | e => post Γ k Q e st
  | .lp R :: k, Q => fun e st => match e with
    | .normal => R st
    | e => post Γ k Q e st

/-- WHAT IS TO BE SHOWN: from a state 'st' on, what is still to be done ends as Q says (whoever called, whatever the world). -/
def Wp (P : Program) (G : Nat → Option (List Cell)) (N kn : Nat) (k : List KI) (Q : St → Prop) (st : St) : Prop :=
  ∀ Γ : Ctx, Γ.P = P → Γ.G = G → Γ.N = N → Γ.kin = kn → post Γ k Q .normal st

def Ent (kn : Nat) (st st' : St) : Prop := ∀ (Γ : Ctx) (a : Act) (w : World), Γ.kin = kn → Sat0 Γ st a w → Sat0 Γ st' a w

theorem Tri.mono {Γ : Ctx} {c : Code} {st : St} {Q Q' : Exit → St → Prop} (h : Tri Γ c st Q) (hq : ∀ e st, Q e st → Q' e st) : Tri Γ c st Q' :=
  fun a w hs => Go.wp_mono (h a w hs) fun e a' w' ⟨st', q, s⟩ => ⟨st', hq _ _ q, s⟩

section
variable {P : Program} {G : Nat → Option (List Cell)} {N kn : Nat} {k : List KI} {Q : St → Prop} {st st' : St}

theorem Wp.ent {c : Code} (he : Ent kn st st') (h : Wp P G N kn (.code c :: k) Q st') : Wp P G N kn (.code c :: k) Q st :=
  fun Γ h1 h2 h3 h4 a w hs => h Γ h1 h2 h3 h4 a w (he Γ a w h4 hs)

theorem Wp.seq {x y : Code} (h : Wp P G N kn (.code x :: .code y :: k) Q st) : Wp P G N kn (.code (.seq x y) :: k) Q st := by
  intro Γ h1 h2 h3 h4 a w hs
  refine wp_seq (Go.wp_mono (h Γ h1 h2 h3 h4 a w hs) ?_)
  rintro e a' w' ⟨st', q, s⟩
  cases e with
  | normal => exact q a' w' s
  | exit id => exact ⟨st', q, s⟩
  | goto l => exact ⟨st', q, s⟩
  | ret => exact ⟨st', q, s⟩
  | panic ch => exact ⟨st', q, s⟩
  | outgrown => exact ⟨st', q, s⟩

theorem Wp.skip (h : Wp P G N kn k Q st) : Wp P G N kn (.code .skip :: k) Q st :=
  fun Γ h1 h2 h3 h4 a w hs => wp_skip ⟨st, h Γ h1 h2 h3 h4, hs⟩

theorem Wp.block {id : Nat} {c : Code} (h : Wp P G N kn (.code c :: .blk id :: k) Q st) : Wp P G N kn (.code (.block id c) :: k) Q st := by
  intro Γ h1 h2 h3 h4 a w hs
  refine wp_block (Go.wp_mono (h Γ h1 h2 h3 h4 a w hs) ?_)
  rintro e a' w' ⟨st', q, s⟩
  cases e with
  | normal => exact ⟨st', q, s⟩
  | exit id' =>
    simp only [Exit.inBlock]
    simp only [post] at q
    split
    · rename_i e; rw [if_pos e] at q; exact ⟨st', q, s⟩
    · rename_i e; rw [if_neg e] at q; exact ⟨st', q, s⟩
  | goto l => exact ⟨st', q, s⟩
  | ret => exact ⟨st', q, s⟩
  | panic ch => exact ⟨st', q, s⟩
  | outgrown => exact ⟨st', q, s⟩

theorem Wp.blk {id : Nat} (h : Wp P G N kn k Q st) : Wp P G N kn (.blk id :: k) Q st := h
theorem Wp.lp {R : St → Prop} (h : R st) : Wp P G N kn (.lp R :: k) Q st := fun Γ _ _ _ _ => h
theorem Wp.nil (h : Q st) : Wp P G N kn [] Q st := fun Γ _ _ _ _ => h

def unw (id : Nat) : List KI → Option (List KI)
  | [] => none
  | .blk id' :: k => match Nat.beq id id' with
    | true => some k
    | false => unw id k
  | _ :: k => unw id k
theorem unw_post {Γ : Ctx} {id : Nat} : ∀ {k k' : List KI}, unw id k = some k' → post Γ k' Q .normal st → post Γ k Q (.exit id) st
  | [], k', h, _ => by simp [unw] at h
  | .code c :: k, k', h, hp => unw_post (k := k) h hp
  | .lp R :: k, k', h, hp => unw_post (k := k) h hp
  | .blk id' :: k, k', h, hp => by
    simp only [unw] at h
    simp only [post]
    cases hb : Nat.beq id id' with
    | true => rw [hb] at h; simp only [Option.some.injEq] at h; subst h; rw [if_pos ((beq_eq _ _).1 hb)]; exact hp
    | false => rw [hb] at h; rw [if_neg ((beq_ne _ _).1 hb)]; exact unw_post h hp
theorem Wp.exit {id : Nat} {k' : List KI} (hu : unw id k = some k') (h : Wp P G N kn k' Q st) : Wp P G N kn (.code (.exit id) :: k) Q st :=
  fun Γ h1 h2 h3 h4 a w hs => wp_exit ⟨st, unw_post hu (h Γ h1 h2 h3 h4), hs⟩

theorem ret_post {Γ : Ctx} : ∀ {k : List KI}, Q st → post Γ k Q .ret st
  | [], h => h
  | .code c :: k, h => ret_post (k := k) h
  | .lp R :: k, h => ret_post (k := k) h
  | .blk id :: k, h => ret_post (k := k) h
theorem Wp.ret (h : Q st) : Wp P G N kn (.code .ret :: k) Q st :=
  fun Γ h1 h2 h3 h4 a w hs => wp_ret ⟨st, ret_post h, hs⟩

def condB (st : St) : Operand → Option Bool
  | .tmp t => match look st.tm t with
    | some (.v (.c (.bool b))) => some b
    | _ => none
  | .const (.bool b) => some b
  | _ => none
theorem Wp.cond {c : Operand} {x y : Code} {b : Bool} (hc : condB st c = some b) (ht : b = true → Wp P G N kn (.code x :: k) Q st) (hf : b = false → Wp P G N kn (.code y :: k) Q st) :
    Wp P G N kn (.code (.cond c x y) :: k) Q st := by
  intro Γ h1 h2 h3 h4 a w hs
  have hv : a.eval c = .bool b := by
    cases c with
    | tmp t =>
      simp only [condB] at hc
      split at hc
      · rename_i b' hl
        simp only [Option.some.injEq] at hc
        subst hc
        obtain ⟨D, ρ, hs⟩ := hs
        obtain ⟨u, hu, hd⟩ := hs.tm t _ hl
        rw [tmps_getD hu]; exact hd
      · cases hc
    | const v =>
      cases v <;> simp [condB] at hc
      subst hc; rfl
    | global g => simp [condB] at hc
    | func f => simp [condB] at hc
  exact wp_cond_split hv (fun hb => ht hb Γ h1 h2 h3 h4 a w hs) (fun hb => hf hb Γ h1 h2 h3 h4 a w hs)

/-- Annotations of a region. -/
structure Ann (P : Program) (G : Nat → Option (List Cell)) where
  grd : List (Nat × Bool) := []
  fm : List (Nat × V1) := []
  bs : List (Nat × Blk) := []
  wrp : List (Nat × Unit) := []
  cs : List (Nat × CallE P G) := []

def envOf {G : Nat → Option (List Cell)} (P : Program) (N : Nat) (ops : List Oper) (an : Ann P G) : Env := ⟨P, G, N, ops, an.grd, an.fm, an.bs, an.wrp⟩
def regRun (P : Program) (G : Nat → Option (List Cell)) (N : Nat) (ops : Array Oper) (an : Ann P G) (st : St) : Option Out :=
  match opsOk N ops.toList with
  | true => runOps (envOf P N ops.toList an) an.cs st.nx 0 ops.toList st
  | false => none
def outSt (o : Option Out) (ops : Array Oper) (base : Nat) : St := match o with
  | some o => o.st.done ops.toList base (len ops.toList)
  | none => ⟨[], [], 0⟩
def outOk (o : Option Out) : Bool := match o with
  | some _ => true
  | none => false
def outVc (o : Option Out) : List Prop := match o with
  | some o => o.vc
  | none => []
def outE (o : Option Out) : List (List V1) × List (List Blk) := match o with
  | some o => (o.el, o.bl)
  | none => ([], [])
def outF (o : Option Out) : List (List V1) × List (List Blk) := match o with
  | some o => (o.er, o.br)
  | none => ([], [])
def AllP : List Prop → Prop
  | [] => True
  | [p] => p
  | p :: r => p ∧ AllP r
theorem AllP.mem : ∀ {l : List Prop}, AllP l → ∀ p ∈ l, p
  | [], _, p, hp => by simp at hp
  | [q], h, p, hp => by rcases List.mem_cons.1 hp with rfl | hp; exact h; exact absurd hp (by simp)
  | q :: r :: l, h, p, hp => by
    rcases List.mem_cons.1 hp with rfl | hp
    · exact h.1
    · exact AllP.mem h.2 p hp

theorem Wp.reg {id : Nat} {ops : Array Oper} (an : Ann P G) (hok : outOk (regRun P G N ops an st) = true) (heq : outE (regRun P G N ops an st) = outF (regRun P G N ops an st)) (vc : List Prop) (hvc : outVc (regRun P G N ops an st) = vc)
    (hv : AllP vc) (hk : Wp P G N kn k Q (outSt (regRun P G N ops an st) ops st.nx)) : Wp P G N kn (.code (.region id ops false) :: k) Q st := by
  intro Γ h1 h2 h3 h4 a w hs
  subst h1 h2 h3
  cases hr : regRun Γ.P Γ.G Γ.N ops an st with
  | none => rw [hr] at hok; simp [outOk] at hok
  | some out =>
    rw [hr] at heq hvc hk
    simp only [outE, outF, Prod.mk.injEq] at heq
    simp only [outVc] at hvc
    unfold regRun at hr
    cases hoo : opsOk Γ.N ops.toList with
    | false => simp [hoo] at hr
    | true =>
      simp only [hoo] at hr
      refine wp_region ?_
      rw [List.range_eq_range', ← Array.length_toList]
      refine run_text (Γ := Γ) (E := envOf Γ.P Γ.N ops.toList an) rfl rfl (cs := an.cs) rfl hoo ops.toList 0 st a w out rfl hr (fun p hp => AllP.mem hv p (hvc ▸ hp)) heq.1 heq.2 ?_ ?_
      · obtain ⟨D, ρ, hs⟩ := hs
        refine ⟨D, ρ, hs.mono (fun id h => ?_) (fun t h => h.elim)⟩
        unfold sSet; omega
      · intro a' w' h
        refine ⟨_, hk Γ rfl rfl rfl h4, ?_⟩
        simp only [outSt, len_eq]
        refine SatE.done (fun id h => ?_) h
        unfold sSet at h; omega

/-- A LOOP: an invariant over whatever x, what holds of x, a measure. -/
theorem Wp.loop {X : Type} {c : Code} (inv : X → St) (facts : X → Prop) (μ : X → Nat) (x0 : X) (h0 : Ent kn st (inv x0)) (f0 : facts x0)
    (round : ∀ x, facts x → Wp P G N kn (.code c :: .lp (fun s => ∃ x', facts x' ∧ μ x' < μ x ∧ Ent kn s (inv x')) :: k) Q (inv x)) : Wp P G N kn (.code (.loop c) :: k) Q st := by
  intro Γ h1 h2 h3 h4 a w hs b kk cs
  have key : ∀ (n : Nat) (x : X) (a : Act) (w : World), μ x = n → facts x → Sat0 Γ (inv x) a w →
      ∃ e a' w', (∃ st', post Γ k Q e st' ∧ Sat0 Γ st' a' w') ∧ Arrives Γ.P (lone (b.at a (.code c :: .inLoop c :: kk)) cs w) b kk cs e a' w' := by
    intro n
    induction n using Nat.strongRecOn with
    | _ n ih =>
      intro x a w hn hf hI
      obtain ⟨e, a₁, w₁, ⟨s1, hq, hs1⟩, harr⟩ := round x hf Γ h1 h2 h3 h4 a w hI b (.inLoop c :: kk) cs
      cases e with
      | normal =>
        obtain ⟨x', f', hlt, he⟩ := hq
        obtain ⟨e₂, a₂, w₂, hq₂, harr₂⟩ := ih (μ x') (hn ▸ hlt) x' a₁ w₁ rfl f' (he Γ a₁ w₁ h4 hs1)
        exact ⟨e₂, a₂, w₂, hq₂, .of_steps (Steps.trans harr (.one step_inLoop)) harr₂⟩
      | exit id => exact ⟨_, a₁, w₁, ⟨s1, hq, hs1⟩, .pass (x := .inLoop c) rfl (fun _ _ => .inl (by simp)) harr⟩
      | goto l => exact ⟨_, a₁, w₁, ⟨s1, hq, hs1⟩, .pass (x := .inLoop c) rfl (fun _ _ => .inl (by simp)) harr⟩
      | ret => exact ⟨_, a₁, w₁, ⟨s1, hq, hs1⟩, .pass (x := .inLoop c) rfl (fun _ _ => .inl (by simp)) harr⟩
      | panic ch => exact ⟨_, a₁, w₁, ⟨s1, hq, hs1⟩, .pass (x := .inLoop c) rfl (fun _ _ => .inl (by simp)) harr⟩
      | outgrown => exact ⟨_, a₁, w₁, ⟨s1, hq, hs1⟩, .pass (x := .inLoop c) rfl (fun _ _ => .inl (by simp)) harr⟩
  obtain ⟨e, a', w', hq, harr⟩ := key _ x0 a w rfl f0 (h0 Γ a w h4 hs)
  exact ⟨e, a', w', hq, .of_steps (.one step_loop) harr⟩
end
end Go.Sv
