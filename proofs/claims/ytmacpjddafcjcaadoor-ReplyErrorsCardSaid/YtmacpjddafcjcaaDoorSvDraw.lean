/-
  Own layer 'SV' (19): a region that draws its order: whatever order, the same state.
-/
import Derived.Test.YtmacpjddafcjcaaDoorSvComm
set_option linter.all false
namespace Go.Sv
open M

theorem clash_symm (a b : Key) : clash a b = clash b a := by
  have nb : ∀ x y : Nat, Nat.beq x y = Nat.beq y x := by
    intro x y
    cases h : Nat.beq x y
    · exact ((beq_ne _ _).2 (Ne.symm ((beq_ne _ _).1 h))).symm
    · exact ((beq_eq _ _).2 ((beq_eq _ _).1 h).symm).symm
  cases a <;> cases b <;> simp only [clash, nb]

theorem set_get {st : St} {k k' : Key} {v : KV} (hc : clash k k' = false) : (st.set k v).get k' = st.get k' := by
  cases k' with
  | tm t =>
    simp only [St.get, set_tm]
    cases k <;> cases v <;> simp only [] <;> (try rfl)
    all_goals (simp only [clash] at hc; have hne := (beq_ne _ _).1 hc; rw [if_neg hne])
  | bk id =>
    simp only [St.get, set_hp]
    cases k <;> cases v <;> simp only [] <;> (try rfl)
    all_goals (simp only [clash] at hc; have hne := (beq_ne _ _).1 hc; rw [if_neg hne])
  | cl id off =>
    simp only [St.get, set_hp]
    cases k <;> cases v <;> simp only [] <;> (try rfl)
    all_goals (simp only [clash] at hc)
    case cl.cl i o x =>
      by_cases e : i = id
      · subst e
        rw [if_pos rfl]
        rcases bAnd_false hc with h | h
        · exact absurd rfl ((beq_ne _ _).1 h)
        · have hne := (beq_ne _ _).1 h
          cases hl : look st.hp i with
          | none => rfl
          | some b =>
            cases b with
            | box e cs => simp only [nth_eq, List.getElem?_set, if_neg hne]
            | row e sz n f => rfl
            | ob o => rfl
      · rw [if_neg e]
    all_goals (have hne := (beq_ne _ _).1 hc; rw [if_neg hne])

def clashA (k : Key) : List Key → Bool
  | [] => false
  | x :: r => match clash k x with
    | true => true
    | false => clashA k r
def clashL : List (Key × KV) → List Key → Bool
  | [], _ => false
  | (k, _) :: r, l => match clashA k l with
    | true => true
    | false => clashL r l
def keysOf : List (Key × KV) → List Key
  | [] => []
  | (k, _) :: r => k :: keysOf r
theorem clashA_no {k : Key} : ∀ {l : List Key}, clashA k l = false → ∀ x ∈ l, clash k x = false
  | [], _, x, hx => by simp at hx
  | y :: r, h, x, hx => by
    simp only [clashA] at h
    cases hc : clash k y with
    | true => simp [hc] at h
    | false =>
      rw [hc] at h
      rcases List.mem_cons.1 hx with rfl | hx
      · exact hc
      · exact clashA_no h x hx
theorem clashL_no {l : List Key} : ∀ {w : List (Key × KV)}, clashL w l = false → ∀ p ∈ w, ∀ x ∈ l, clash p.1 x = false
  | [], _, p, hp => by simp at hp
  | (k, v) :: r, h, p, hp => by
    simp only [clashL] at h
    cases hc : clashA k l with
    | true => simp [hc] at h
    | false =>
      rw [hc] at h
      rcases List.mem_cons.1 hp with rfl | hp
      · exact clashA_no hc
      · exact clashL_no h p hp
theorem keysOf_mem {w : List (Key × KV)} {p : Key × KV} (h : p ∈ w) : p.1 ∈ keysOf w := by
  induction w with
  | nil => simp at h
  | cons q r ih =>
    simp only [keysOf, List.mem_cons]
    rcases List.mem_cons.1 h with rfl | h
    · exact .inl rfl
    · exact .inr (ih h)
theorem sets_get {k' : Key} : ∀ {l : List (Key × KV)} {st : St}, (∀ p ∈ l, clash p.1 k' = false) → (st.sets l).get k' = st.get k'
  | [], st, _ => rfl
  | (k, v) :: r, st, h => by
    simp only [St.sets]
    rw [sets_get (fun p hp => h p (by simp [hp])), set_get (h (k, v) (by simp))]
theorem sets_set_comm {k : Key} {v : KV} : ∀ {l : List (Key × KV)} {st : St}, (∀ p ∈ l, clash k p.1 = false) → StEq ((st.set k v).sets l) ((st.sets l).set k v)
  | [], st, _ => StEq.refl _
  | (k', v') :: r, st, h => by
    simp only [St.sets]
    exact ((set_comm (h (k', v') (by simp))).sets r).trans (sets_set_comm (fun p hp => h p (by simp [hp])))
theorem sets_comm {m : List (Key × KV)} : ∀ {l : List (Key × KV)} {st : St}, (∀ p ∈ l, ∀ q ∈ m, clash p.1 q.1 = false) → StEq ((st.sets l).sets m) ((st.sets m).sets l)
  | [], st, _ => StEq.refl _
  | (k, v) :: r, st, h => by
    simp only [St.sets]
    refine (sets_comm (l := r) (fun p hp q hq => h p (by simp [hp]) q hq)).trans ?_
    exact (sets_set_comm (fun q hq => h (k, v) (by simp) q hq)).sets r

/-! operations in any order -/
abbrev Log := List Key × (Eff × Eqs)
def indep (x y : Log) : Bool := match clashL x.2.1.wr y.1 with
  | true => false
  | false => match clashL y.2.1.wr x.1 with
    | true => false
    | false => match clashL x.2.1.wr (keysOf y.2.1.wr) with
      | true => false
      | false => true
theorem indep_spec {x y : Log} (h : indep x y = true) : (∀ p ∈ x.2.1.wr, ∀ k ∈ y.1, clash p.1 k = false) ∧ (∀ p ∈ y.2.1.wr, ∀ k ∈ x.1, clash p.1 k = false) ∧ ∀ p ∈ x.2.1.wr, ∀ q ∈ y.2.1.wr, clash p.1 q.1 = false := by
  unfold indep at h
  split at h
  · cases h
  · rename_i h1
    split at h
    · cases h
    · rename_i h2
      split at h
      · cases h
      · rename_i h3
        exact ⟨clashL_no h1, clashL_no h2, fun p hp q hq => clashL_no h3 p hp _ (keysOf_mem hq)⟩

section
variable {E : Env} {cs : List (Nat × CallE E.P E.G)} {base : Nat} {ops : List Oper} {L : Nat → Log}

inductive Exe (E : Env) (cs : List (Nat × CallE E.P E.G)) (base : Nat) (ops : List Oper) (L : Nat → Log) : List Nat → St → St → Prop
  | nil (st : St) : Exe E cs base ops L [] st st
  | cons (i : Nat) (o : Oper) (l : List Nat) (st st' : St) : ops[i]? = some o → opM E cs i (base + 16 * i) o st.get = some ((L i).2, (L i).1) → Exe E cs base ops L l (st.sets (L i).2.1.wr) st' → Exe E cs base ops L (i :: l) st st'

theorem Exe.eqv : ∀ {l : List Nat} {st st1 st' : St}, Exe E cs base ops L l st st' → StEq st st1 → ∃ st1', Exe E cs base ops L l st1 st1' ∧ StEq st' st1' := by
  intro l
  induction l with
  | nil => intro st st1 st' h e; cases h; exact ⟨st1, .nil _, e⟩
  | cons i r ih =>
    intro st st1 st' h e
    cases h with
    | cons _ o _ _ _ ho hm hr =>
      obtain ⟨st1', h1, e1⟩ := ih hr (e.sets (L i).2.1.wr)
      exact ⟨st1', .cons i o r st1 st1' ho (by rw [← e.get]; exact hm) h1, e1⟩

theorem Exe.swap {i j : Nat} {r : List Nat} {st st' : St} (hi : indep (L i) (L j) = true) (h : Exe E cs base ops L (i :: j :: r) st st') : ∃ st1, Exe E cs base ops L (j :: i :: r) st st1 ∧ StEq st' st1 := by
  obtain ⟨q1, q2, q3⟩ := indep_spec hi
  cases h with
  | cons _ oi _ _ _ hoi hmi hr =>
    cases hr with
    | cons _ oj _ _ _ hoj hmj hr =>
      have hmj' : opM E cs j (base + 16 * j) oj st.get = some ((L j).2, (L j).1) :=
        loc_op oj _ _ _ _ hmj (fun k hk => (sets_get (fun p hp => q1 p hp k hk)).symm)
      have hmi' : opM E cs i (base + 16 * i) oi (st.sets (L j).2.1.wr).get = some ((L i).2, (L i).1) :=
        loc_op oi _ _ _ _ hmi (fun k hk => sets_get (fun p hp => q2 p hp k hk))
      obtain ⟨st1, h1, e1⟩ := hr.eqv (sets_comm (st := st) q3)
      exact ⟨st1, .cons j oj _ _ _ hoj hmj' (.cons i oi _ _ _ hoi hmi' h1), e1⟩

theorem Exe.move {i : Nat} : ∀ {p q : List Nat} {st st' : St}, (∀ x ∈ p, indep (L i) (L x) = true) → Exe E cs base ops L (i :: (p ++ q)) st st' → ∃ st1, Exe E cs base ops L (p ++ i :: q) st st1 ∧ StEq st' st1 := by
  intro p
  induction p with
  | nil => intro q st st' _ h; exact ⟨st', h, StEq.refl _⟩
  | cons x p ih =>
    intro q st st' hx h
    obtain ⟨st1, h1, e1⟩ := Exe.swap (r := p ++ q) (hx x (by simp)) h
    cases h1 with
    | cons _ o _ _ _ ho hm hr =>
      obtain ⟨st2, h2, e2⟩ := ih (fun y hy => hx y (by simp [hy])) hr
      exact ⟨st2, .cons x o _ _ _ ho hm h2, e1.trans e2⟩

theorem Exe.any {prec : Nat → Nat → Prop} : ∀ {t l : List Nat} {st st' : St}, t.Nodup → l.Nodup → (∀ x, x ∈ l ↔ x ∈ t) → t.Pairwise (fun a b => ¬ prec b a) → l.Pairwise (fun a b => ¬ prec b a) →
    (∀ a ∈ t, ∀ b ∈ t, a ≠ b → ¬ prec a b → ¬ prec b a → indep (L a) (L b) = true) → Exe E cs base ops L t st st' → ∃ st1, Exe E cs base ops L l st st1 ∧ StEq st' st1 := by
  intro t
  induction t with
  | nil =>
    intro l st st' _ _ hm _ _ _ h
    have : l = [] := List.eq_nil_iff_forall_not_mem.2 (fun x hx => by simpa using (hm x).1 hx)
    subst this
    exact ⟨st', h, StEq.refl _⟩
  | cons i t ih =>
    intro l st st' hnt hnl hm hpt hpl hind h
    have hil : i ∈ l := (hm i).2 (by simp)
    obtain ⟨p, q, rfl⟩ := List.append_of_mem hil
    have hip : i ∉ p ∧ i ∉ q := by
      have := List.nodup_append.1 hnl
      refine ⟨fun hh => ?_, (List.nodup_cons.1 this.2.1).1⟩
      exact this.2.2 i hh i (by simp) rfl
    have hnt' := List.nodup_cons.1 hnt
    have hpt' := List.pairwise_cons.1 hpt
    have hpl' := List.pairwise_append.1 hpl
    cases h with
    | cons _ o _ _ _ ho hmm hr =>
      have hnd : (p ++ q).Nodup := by
        have := List.nodup_append.1 hnl
        exact List.nodup_append.2 ⟨this.1, (List.nodup_cons.1 this.2.1).2, fun a ha b hb => this.2.2 a ha b (by simp [hb])⟩
      have hmem : ∀ x, x ∈ p ++ q ↔ x ∈ t := by
        intro x
        constructor
        · intro hx
          have h1 : x ∈ p ++ i :: q := by
            rcases List.mem_append.1 hx with h | h
            · exact List.mem_append.2 (.inl h)
            · exact List.mem_append.2 (.inr (by simp [h]))
          rcases List.mem_cons.1 ((hm x).1 h1) with rfl | h2
          · rcases List.mem_append.1 hx with h | h
            · exact (hip.1 h).elim
            · exact (hip.2 h).elim
          · exact h2
        · intro hx
          have h1 := (hm x).2 (by simp [hx])
          rcases List.mem_append.1 h1 with h | h
          · exact List.mem_append.2 (.inl h)
          · rcases List.mem_cons.1 h with rfl | h
            · exact (hnt'.1 hx).elim
            · exact List.mem_append.2 (.inr h)
      have hpw : (p ++ q).Pairwise (fun a b => ¬ prec b a) :=
        List.pairwise_append.2 ⟨hpl'.1, (List.pairwise_cons.1 hpl'.2.1).2, fun a ha b hb => hpl'.2.2 a ha b (by simp [hb])⟩
      obtain ⟨st1, h1, e1⟩ := ih hnt'.2 hnd hmem hpt'.2 hpw (fun a ha b hb => hind a (by simp [ha]) b (by simp [hb])) hr
      have h2 : Exe E cs base ops L (i :: (p ++ q)) st st1 := .cons i o _ _ _ ho hmm h1
      obtain ⟨st2, h3, e3⟩ := Exe.move (fun x hx => by
        have hxt : x ∈ t := (hmem x).1 (List.mem_append.2 (.inl hx))
        have hne : i ≠ x := fun e => hip.1 (e ▸ hx)
        refine hind i (by simp) x (by simp [hxt]) hne ?_ (hpt'.1 x hxt)
        exact hpl'.2.2 x hx i (by simp)) h2
      exact ⟨st2, h3, e1.trans e3⟩

theorem Exe.split {p q : List Nat} {st st' : St} (h : Exe E cs base ops L (p ++ q) st st') : ∃ s, Exe E cs base ops L p st s ∧ Exe E cs base ops L q s st' := by
  induction p generalizing st with
  | nil => exact ⟨st, .nil _, h⟩
  | cons i p ih =>
    cases h with
    | cons _ o _ _ _ ho hm hr =>
      obtain ⟨s, h1, h2⟩ := ih hr
      exact ⟨s, .cons i o _ _ _ ho hm h1, h2⟩
theorem Exe.det {l : List Nat} {st a b : St} (h : Exe E cs base ops L l st a) (k : Exe E cs base ops L l st b) : a = b := by
  induction h with
  | nil => cases k; rfl
  | cons i o r s s' ho hm hr ih =>
    cases k with
    | cons _ o' _ _ _ ho' hm' hr' => exact ih hr'
theorem Exe.snoc {l : List Nat} {i : Nat} {o : Oper} {st s : St} (h : Exe E cs base ops L l st s) (ho : ops[i]? = some o) (hm : opM E cs i (base + 16 * i) o s.get = some ((L i).2, (L i).1)) : Exe E cs base ops L (l ++ [i]) st (s.sets (L i).2.1.wr) := by
  induction h with
  | nil s => exact .cons i o [] _ _ ho hm (.nil _)
  | cons j oj r s1 s2 hoj hmj hr ih => exact .cons j oj _ _ _ hoj hmj (ih hm)
end

/-! what comes ahead of what -/
def nth0 (l : List Nat) (i : Nat) : Nat := match nth l i with
  | some x => x
  | none => 0
def maskE (acc : List Nat) : List Edge → Nat
  | [] => 0
  | e :: r => match Region.binds .any e with
    | true => Nat.lor (Nat.lor (Nat.shiftLeft 1 e.on) (nth0 acc e.on)) (maskE acc r)
    | false => maskE acc r
def snocL {α : Type} : List α → α → List α
  | [], x => [x]
  | y :: r, x => y :: snocL r x
def befs : List Oper → List Nat → List Nat
  | [], acc => acc
  | o :: r, acc => befs r (snocL acc (maskE acc o.after.toList))
theorem snocL_eq {α : Type} (l : List α) (x : α) : snocL l x = l ++ [x] := by
  induction l with
  | nil => rfl
  | cons y r ih => simp [snocL, ih]
theorem maskE_bit {acc : List Nat} {a : Nat} : ∀ {es : List Edge}, (maskE acc es).testBit a = true → ∃ e ∈ es, Region.binds .any e = true ∧ (a = e.on ∨ (nth0 acc e.on).testBit a = true)
  | [], h => by simp [maskE] at h
  | e :: r, h => by
    simp only [maskE] at h
    split at h
    · rename_i hb
      have h : ((1 <<< e.on) ||| (nth0 acc e.on) ||| (maskE acc r)).testBit a = true := h
      simp only [Nat.testBit_or, Bool.or_eq_true] at h
      rcases h with (h | h) | h
      · refine ⟨e, by simp, hb, .inl ?_⟩
        rw [Nat.one_shiftLeft, Nat.testBit_two_pow] at h
        have h : e.on = a := by simpa using h
        exact h.symm
      · exact ⟨e, by simp, hb, .inr h⟩
      · obtain ⟨e', h1, h2⟩ := maskE_bit h
        exact ⟨e', by simp [h1], h2⟩
    · obtain ⟨e', h1, h2⟩ := maskE_bit h
      exact ⟨e', by simp [h1], h2⟩
theorem befs_spec : ∀ (r : List Oper) (acc : List Nat), (∀ i, i < acc.length → (befs r acc)[i]? = acc[i]?) ∧ (befs r acc).length = acc.length + r.length ∧
    ∀ i o, r[i]? = some o → (befs r acc)[acc.length + i]? = some (maskE ((befs r acc).take (acc.length + i)) o.after.toList)
  | [], acc => ⟨fun i _ => rfl, by simp [befs], fun i o h => by simp at h⟩
  | x :: r, acc => by
    obtain ⟨h1, h2, h3⟩ := befs_spec r (snocL acc (maskE acc x.after.toList))
    rw [snocL_eq] at h1 h2 h3
    have hl : (acc ++ [maskE acc x.after.toList]).length = acc.length + 1 := by simp
    rw [hl] at h1 h2 h3
    have hb : befs (x :: r) acc = befs r (acc ++ [maskE acc x.after.toList]) := by simp only [befs, snocL_eq]
    have hpre : ∀ i, i < acc.length → (befs (x :: r) acc)[i]? = acc[i]? := by
      intro i hi
      rw [hb, h1 i (by omega), List.getElem?_append_left hi]
    refine ⟨hpre, by rw [hb, h2]; simp; omega, fun i o ho => ?_⟩
    cases i with
    | zero =>
      simp at ho
      subst ho
      rw [Nat.add_zero]
      have e1 : (befs (x :: r) acc)[acc.length]? = some (maskE acc x.after.toList) := by
        rw [hb, h1 _ (by omega)]; simp
      have e2 : (befs (x :: r) acc).take acc.length = acc := by
        apply List.ext_getElem?
        intro j
        rw [List.getElem?_take]
        split
        · rename_i hj; exact hpre j hj
        · rename_i hj; rw [List.getElem?_eq_none (by omega)]
      rw [e1, e2]
    | succ i =>
      simp at ho
      rw [hb]
      have := h3 i o ho
      rw [show acc.length + (i + 1) = acc.length + 1 + i by omega]
      exact this

def pairsOk1 (B : Nat) (y : Log) : Nat → List Log → Bool
  | _, [] => true
  | i, x :: r => bAnd (match Nat.testBit B i with | true => true | false => indep x y) (pairsOk1 B y (i + 1) r)
def pairsOk (B : List Nat) : List Log → Nat → List Log → Bool
  | _, _, [] => true
  | pre, j, y :: r => bAnd (pairsOk1 (nth0 B j) y 0 pre) (pairsOk B (snocL pre y) (j + 1) r)
def edgesOk : Nat → List Oper → Bool
  | _, [] => true
  | i, o :: r => bAnd (go i o.after.toList) (edgesOk (i + 1) r)
where
  go (i : Nat) : List Edge → Bool
    | [] => true
    | e :: r => bAnd (match Region.binds .any e with | true => Nat.blt e.on i | false => true) (go i r)
def gdEdge : List Oper → Bool
  | [] => true
  | o :: r => bAnd (match o.guard with | none => true | some (j, _) => go j o.after.toList) (gdEdge r)
where
  go (j : Nat) : List Edge → Bool
    | [] => false
    | e :: r => match Region.binds .any e with
      | true => (match Nat.beq e.on j with | true => true | false => go j r)
      | false => go j r
def drawOk (ops : List Oper) (lg : List Log) : Bool := bAnd (edgesOk 0 ops) (bAnd (gdEdge ops) (pairsOk (befs ops []) [] 0 lg))

theorem pairsOk1_spec {B : Nat} {y : Log} : ∀ {l : List Log} {k : Nat}, pairsOk1 B y k l = true → ∀ (i : Nat) (x : Log), l[i]? = some x → B.testBit (k + i) = true ∨ indep x y = true
  | [], k, _, i, x, h => by simp at h
  | z :: r, k, h, 0, x, hx => by
    obtain ⟨h1, _⟩ := bAnd_eq h
    simp at hx
    subst hx
    cases hb : Nat.testBit B k with
    | true => exact .inl (by first | exact hb | rfl)
    | false => rw [hb] at h1; exact .inr h1
  | z :: r, k, h, i + 1, x, hx => by
    obtain ⟨_, h2⟩ := bAnd_eq h
    simp at hx
    have := pairsOk1_spec h2 i x hx
    rw [show k + 1 + i = k + (i + 1) by omega] at this
    exact this
theorem pairsOk_spec {B : List Nat} : ∀ {r pre : List Log} {j : Nat}, pre.length = j → pairsOk B pre j r = true → ∀ (b : Nat) (y : Log), r[b]? = some y → ∀ (a : Nat) (x : Log), (pre ++ r)[a]? = some x → a < j + b →
    (nth0 B (j + b)).testBit a = true ∨ indep x y = true
  | [], pre, j, _, _, b, y, h => by simp at h
  | z :: r, pre, j, hp, h, 0, y, hy => by
    obtain ⟨h1, _⟩ := bAnd_eq h
    simp at hy
    subst hy
    intro a x hx ha
    have := pairsOk1_spec h1 a x (by rw [List.getElem?_append_left (by omega)] at hx; exact hx)
    simpa using this
  | z :: r, pre, j, hp, h, b + 1, y, hy => by
    obtain ⟨_, h2⟩ := bAnd_eq h
    simp at hy
    intro a x hx ha
    rw [snocL_eq] at h2
    have := pairsOk_spec (j := j + 1) (by simp [hp]) h2 b y hy a x (by simpa using hx) (by omega)
    rw [show j + 1 + b = j + (b + 1) by omega] at this
    exact this
theorem edgesOk_spec : ∀ {l : List Oper} {k : Nat}, edgesOk k l = true → ∀ (i : Nat) (o : Oper), l[i]? = some o → ∀ e ∈ o.after.toList, Region.binds .any e = true → e.on < k + i
  | [], k, _, i, o, h => by simp at h
  | x :: r, k, h, 0, o, ho => by
    obtain ⟨h1, _⟩ := bAnd_eq h
    simp at ho
    subst ho
    have go : ∀ {es : List Edge}, edgesOk.go k es = true → ∀ e ∈ es, Region.binds .any e = true → e.on < k := by
      intro es
      induction es with
      | nil => intro _ e he; simp at he
      | cons y r ih =>
        intro h e he hb
        obtain ⟨h1, h2⟩ := bAnd_eq h
        rcases List.mem_cons.1 he with rfl | he
        · rw [hb] at h1; exact Nat.le_of_ble_eq_true h1
        · exact ih h2 e he hb
    exact fun e he hb => go h1 e he hb
  | x :: r, k, h, i + 1, o, ho => by
    obtain ⟨_, h2⟩ := bAnd_eq h
    simp at ho
    intro e he hb
    have := edgesOk_spec h2 i o ho e he hb
    omega
theorem gdEdge_spec : ∀ {l : List Oper}, gdEdge l = true → ∀ (i : Nat) (o : Oper), l[i]? = some o → ∀ j b, o.guard = some (j, b) → ∃ e ∈ o.after.toList, Region.binds .any e = true ∧ e.on = j
  | [], _, i, o, h => by simp at h
  | x :: r, h, 0, o, ho => by
    obtain ⟨h1, _⟩ := bAnd_eq h
    simp at ho
    subst ho
    intro j b hg
    rw [hg] at h1
    have go : ∀ {es : List Edge}, gdEdge.go j es = true → ∃ e ∈ es, Region.binds .any e = true ∧ e.on = j := by
      intro es
      induction es with
      | nil => intro h; simp [gdEdge.go] at h
      | cons y r ih =>
        intro h
        simp only [gdEdge.go] at h
        split at h
        · rename_i hb
          split at h
          · rename_i he; exact ⟨y, by simp, hb, (beq_eq _ _).1 he⟩
          · obtain ⟨e, h1, h2⟩ := ih h; exact ⟨e, by simp [h1], h2⟩
        · obtain ⟨e, h1, h2⟩ := ih h; exact ⟨e, by simp [h1], h2⟩
    exact go h1
  | x :: r, h, i + 1, o, ho => by
    obtain ⟨_, h2⟩ := bAnd_eq h
    simp at ho
    exact gdEdge_spec h2 i o ho

def logD : Log := ([], (⟨[], []⟩, noEqs))
theorem exe_of_run {E : Env} {cs : List (Nat × CallE E.P E.G)} {base : Nat} {ops : List Oper} {L : Nat → Log} : ∀ (suf : List Oper) (i : Nat) (st : St) (out : Out), ops.drop i = suf → runOps E cs base i suf st = some out →
    (∀ j, out.lg[j]? = some (L (i + j)) ∨ suf.length ≤ j) → Exe E cs base ops L (List.range' i suf.length) st out.st ∧ out.lg.length = suf.length ∧
    (∀ j, j < suf.length → ∀ x, out.lg[j]? = some x → (∀ p ∈ x.2.1.vc, p ∈ out.vc) ∧ (out.el = out.er → x.2.2.el = x.2.2.er) ∧ (out.bl = out.br → x.2.2.bl = x.2.2.br))
  | [], i, st, out, hd, hr, hL => by
    simp only [runOps, Option.some.injEq] at hr
    subst hr
    exact ⟨.nil _, rfl, by intro j hj; simp at hj⟩
  | o :: r, i, st, out, hd, hr, hL => by
    simp only [runOps] at hr
    cases hm : opM E cs i (base + 16 * i) o st.get with
    | none => simp [hm] at hr
    | some p =>
      obtain ⟨e, rd⟩ := p
      simp only [hm] at hr
      cases hr2 : runOps E cs base (i + 1) r (st.sets e.1.wr) with
      | none => simp [hr2] at hr
      | some out2 =>
        simp only [hr2, Option.some.injEq] at hr
        subst hr
        have hi : ops[i]? = some o := by
          have := congrArg (fun l => l[0]?) hd
          simpa using this
        have hdr : ops.drop (i + 1) = r := by
          have := congrArg (fun l => l.drop 1) hd
          simpa [List.drop_drop] using this
        have h0 : L i = (rd, e) := by
          rcases hL 0 with h | h
          · simpa using h.symm
          · simp at h
        obtain ⟨h1, h2, h3⟩ := exe_of_run (L := L) r (i + 1) _ out2 hdr hr2 (fun j => by
          rcases hL (j + 1) with h | h
          · left; simp at h; rw [h]; congr 2; omega
          · right; simp at h; omega)
        refine ⟨?_, by simp [h2], ?_⟩
        · simp only [List.length_cons, List.range'_succ]
          exact .cons i o _ _ _ hi (by rw [h0]; exact hm) (by rw [h0]; exact h1)
        · intro j hj x hx
          cases j with
          | zero =>
            simp at hx
            subst hx
            refine ⟨fun p hp => appL_mem.2 (.inl hp), fun h => ?_, fun h => ?_⟩
            · simp only [List.cons.injEq] at h; exact h.1
            · simp only [List.cons.injEq] at h; exact h.1
          | succ j =>
            simp at hx hj
            obtain ⟨k1, k2, k3⟩ := h3 j hj x hx
            refine ⟨fun p hp => appL_mem.2 (.inr (k1 p hp)), fun h => ?_, fun h => ?_⟩
            · simp only [List.cons.injEq] at h; exact k2 h.2
            · simp only [List.cons.injEq] at h; exact k3 h.2

theorem nodup_le : ∀ {n : Nat} {l : List Nat}, l.Nodup → (∀ x ∈ l, x < n) → l.length ≤ n
  | 0, l, _, h => by
    cases l with
    | nil => simp
    | cons x r => have := h x (by simp); omega
  | n + 1, l, hn, h => by
    by_cases hm : n ∈ l
    · have h1 := List.length_erase_of_mem hm
      have h2 := nodup_le (n := n) (l := l.erase n) (hn.erase n) (fun x hx => by
        have h3 := (List.Nodup.mem_erase_iff hn).1 hx
        have := h x h3.2
        have h4 := h3.1
        omega)
      have : 0 < l.length := List.length_pos_of_mem hm
      omega
    · have := nodup_le (n := n) (l := l) hn (fun x hx => by
        have h1 := h x hx
        have : x ≠ n := fun e => hm (e ▸ hx)
        omega)
      omega

section
variable {Γ : Ctx} {E : Env}

theorem run_draw (hP : E.P = Γ.P) (hG : E.G = Γ.G) {cs : List (Nat × CallE E.P E.G)} {ops : Array Oper} (hall : E.all = ops.toList) (hok : opsOk Γ.N ops.toList = true) {base : Nat} {st0 : St} {out : Out}
    (hrun : runOps E cs base 0 ops.toList st0 = some out) (hdr : drawOk ops.toList out.lg = true) (hvc : ∀ p ∈ out.vc, p) (he : out.el = out.er) (hb : out.bl = out.br)
    {Q : Exit → Act → World → Prop} {a : Act} {w : World} (hs : SatE Γ (sSet base 0) (fun _ => False) st0 a w)
    (hQ : ∀ a' w', SatE Γ (sSet base ops.size) (fun t => ∃ (j : Nat) (o : Oper), ops.toList[j]? = some o ∧ o.dst = some t) out.st a' w' → Q .normal a' w') :
    wpAny Γ.P .any ops Q ops.size (Array.replicate ops.size false) a w := by
  obtain ⟨ok1, ok23⟩ := bAnd_eq hok
  obtain ⟨ok2, ok3⟩ := bAnd_eq ok23
  have ok1 := nodupB_nodup ok1
  obtain ⟨d1, d23⟩ := bAnd_eq hdr
  obtain ⟨d2, d3⟩ := bAnd_eq d23
  let L : Nat → Log := fun i => (out.lg[i]?).getD logD
  obtain ⟨hexe, hlen, hlog⟩ := exe_of_run (L := L) ops.toList 0 st0 out rfl hrun (fun j => by
    rcases Nat.lt_or_ge j out.lg.length with h | h
    · left; show _ = some ((out.lg[0 + j]?).getD logD); rw [Nat.zero_add]; simp [h]
    · right
      have : ∀ (suf : List Oper) (i : Nat) (st : St) (out : Out), runOps E cs base i suf st = some out → out.lg.length = suf.length := by
        intro suf
        induction suf with
        | nil => intro i st out h; simp only [runOps, Option.some.injEq] at h; subst h; rfl
        | cons o r ih =>
          intro i st out h
          simp only [runOps] at h
          cases hm : opM E cs i (base + 16 * i) o st.get with
          | none => simp [hm] at h
          | some p =>
            obtain ⟨e, rd⟩ := p
            simp only [hm] at h
            cases hr2 : runOps E cs base (i + 1) r (st.sets e.1.wr) with
            | none => simp [hr2] at h
            | some out2 => simp only [hr2, Option.some.injEq] at h; subst h; simp [ih _ _ _ hr2]
      rw [this _ _ _ _ hrun] at h; exact h)
  have n_eq : ops.toList.length = ops.size := Array.length_toList
  let B := befs ops.toList []
  let prec : Nat → Nat → Prop := fun x y => (nth0 B y).testBit x = true
  obtain ⟨_, bl, bs⟩ := befs_spec ops.toList []
  have bsp : ∀ i o, ops.toList[i]? = some o → nth0 B i = maskE (B.take i) o.after.toList := by
    intro i o ho
    have := bs i o ho
    simp only [List.length_nil, Nat.zero_add] at this
    simp only [nth0, nth_eq]
    show (match B[i]? with | some x => x | none => 0) = _
    rw [this]
  -- what comes ahead, taken apart
  have prec_step : ∀ x y o, ops.toList[y]? = some o → prec x y → ∃ e ∈ o.after.toList, Region.binds .any e = true ∧ e.on < y ∧ (x = e.on ∨ prec x e.on) := by
    intro x y o ho hp
    have hp : (nth0 B y).testBit x = true := hp
    rw [bsp y o ho] at hp
    obtain ⟨e, h1, h2, h3⟩ := maskE_bit hp
    have hlt := edgesOk_spec d1 y o ho e h1 h2
    rw [Nat.zero_add] at hlt
    refine ⟨e, h1, h2, hlt, h3.imp id (fun h => ?_)⟩
    show (nth0 B e.on).testBit x = true
    have : nth0 (B.take y) e.on = nth0 B e.on := by
      simp only [nth0, nth_eq, List.getElem?_take, if_pos hlt]
    rw [← this]; exact h
  have prec_lt : ∀ y x, y < ops.size → prec x y → x < y := by
    intro y
    induction y using Nat.strongRecOn with
    | _ y ih =>
      intro x hy hp
      have ho : ops.toList[y]? = some ops.toList[y] := by simp [hy]
      obtain ⟨e, h1, h2, h3, h4⟩ := prec_step x y _ ho hp
      rcases h4 with rfl | h4
      · exact h3
      · have := ih e.on h3 x (by omega) h4; omega
  have Lget : ∀ i, i < ops.size → out.lg[i]? = some (L i) := by
    intro i hi
    have : i < out.lg.length := by rw [hlen, n_eq]; exact hi
    show _ = some ((out.lg[i]?).getD logD)
    simp [this]
  have hind : ∀ x ∈ List.range' 0 ops.toList.length, ∀ y ∈ List.range' 0 ops.toList.length, x ≠ y → ¬ prec x y → ¬ prec y x → indep (L x) (L y) = true := by
    have base_ : ∀ x y, x < y → y < ops.size → ¬ prec x y → indep (L x) (L y) = true := by
      intro x y hxy hy hp
      rcases pairsOk_spec (pre := []) (j := 0) rfl d3 y (L y) (Lget y hy) x (L x) (by simpa using Lget x (by omega)) (by omega) with h | h
      · rw [Nat.zero_add] at h; exact (hp h).elim
      · exact h
    have symm : ∀ x y : Log, indep x y = true → indep y x = true := by
      intro x y h
      obtain ⟨q1, q2, q3⟩ := indep_spec h
      have mk : ∀ {w : List (Key × KV)} {l : List Key}, (∀ p ∈ w, ∀ k ∈ l, clash p.1 k = false) → clashL w l = false := by
        intro w l hh
        induction w with
        | nil => rfl
        | cons p r ih =>
          obtain ⟨k, v⟩ := p
          simp only [clashL]
          have : clashA k l = false := by
            have hk : ∀ x ∈ l, clash k x = false := fun x hx => hh (k, v) (by simp) x hx
            clear hh ih
            induction l with
            | nil => rfl
            | cons y r ih => simp only [clashA]; rw [hk y (by simp)]; exact ih (fun x hx => hk x (by simp [hx]))
          rw [this]
          exact ih (fun p hp => hh p (by simp [hp]))
      have kmem : ∀ {w : List (Key × KV)} {k : Key}, k ∈ keysOf w → ∃ p ∈ w, p.1 = k := by
        intro w
        induction w with
        | nil => intro k h; simp [keysOf] at h
        | cons p r ih =>
          intro k h
          simp only [keysOf, List.mem_cons] at h
          rcases h with rfl | h
          · exact ⟨p, by simp, rfl⟩
          · obtain ⟨q, h1, h2⟩ := ih h; exact ⟨q, by simp [h1], h2⟩
      unfold indep
      rw [mk q2, mk q1]
      have : clashL y.2.1.wr (keysOf x.2.1.wr) = false := mk (fun p hp k hk => by
        obtain ⟨q, hq, rfl⟩ := kmem hk
        rw [clash_symm]; exact q3 q hq p hp)
      rw [this]
    intro x hx y hy hne h1 h2
    have hx : x < ops.size := by have := List.mem_range'_1.1 hx; omega
    have hy : y < ops.size := by have := List.mem_range'_1.1 hy; omega
    rcases Nat.lt_or_gt_of_ne hne with h | h
    · exact base_ x y h hy h1
    · exact symm _ _ (base_ y x h hx h2)
  have hnr : (List.range' 0 ops.toList.length).Nodup := (List.pairwise_lt_range' (s := 0) (n := ops.toList.length)).imp (fun h => Nat.ne_of_lt h)
  have hpt : (List.range' 0 ops.toList.length).Pairwise (fun x y => ¬ prec y x) := by
    refine List.Pairwise.imp_of_mem ?_ (List.pairwise_lt_range' (s := 0) (n := ops.toList.length))
    intro x y hx hy hlt hp
    have hx : x < ops.size := by have := List.mem_range'_1.1 hx; omega
    have := prec_lt x y hx hp
    omega
  -- the induction
  have key : ∀ (fuel : Nat) (l : List Nat) (listed : Array Bool) (s : St) (a : Act) (w : World), fuel + l.length = ops.size → listed.size = ops.size → l.Nodup → (∀ x ∈ l, x < ops.size) → (∀ x, listed.getD x false = true ↔ x ∈ l) →
      (∀ x ∈ l, ∀ y, prec y x → y ∈ l) → l.Pairwise (fun x y => ¬ prec y x) → Exe E cs base ops.toList L l st0 s →
      SatE Γ (fun id => id < base ∨ ∃ j ∈ l, base + 16 * j ≤ id ∧ id < base + 16 * j + 16) (fun t => ∃ j ∈ l, ∃ o : Oper, ops.toList[j]? = some o ∧ o.dst = some t) s a w → wpAny Γ.P .any ops Q fuel listed a w := by
    intro fuel
    -- all is done
    have done : ∀ (l : List Nat) (listed : Array Bool) (s : St) (a : Act) (w : World), listed.size = ops.size → l.Nodup → (∀ x ∈ l, x < ops.size) → (∀ x, listed.getD x false = true ↔ x ∈ l) → l.Pairwise (fun x y => ¬ prec y x) → Exe E cs base ops.toList L l st0 s →
        SatE Γ (fun id => id < base ∨ ∃ j ∈ l, base + 16 * j ≤ id ∧ id < base + 16 * j + 16) (fun t => ∃ j ∈ l, ∃ o : Oper, ops.toList[j]? = some o ∧ o.dst = some t) s a w → Region.ready .any ops listed = [] → Q .normal a w := by
      intro l listed s a w hls hnd hlt hlst hpw hex hsat hready
      have hall : ∀ x, x < ops.size → x ∈ l := by
        intro x
        induction x using Nat.strongRecOn with
        | _ x ih =>
          intro hx
          by_cases hxl : x ∈ l
          · exact hxl
          · exfalso
            have ho : ops[x]? = some ops[x] := by simp [hx]
            have : x ∈ Region.ready .any ops listed := by
              refine mem_ready.2 ⟨?_, ops[x], ho, fun e he hbd => ?_⟩
              · have : listed.getD x false = false := by
                  cases h : listed.getD x false with
                  | false => rfl
                  | true => exact (hxl ((hlst x).1 h)).elim
                rw [Array.getD_eq_getD_getElem?] at this ⊢
                rw [Array.getElem?_eq_getElem (by omega)] at this ⊢
                simpa using this
              · have hlt' := edgesOk_spec d1 x ops[x] (by simpa using ho) e (by simpa using he) hbd
                rw [Nat.zero_add] at hlt'
                exact (hlst _).2 (ih e.on hlt' (by omega))
            rw [hready] at this
            simp at this
      obtain ⟨st1, h1, e1⟩ := Exe.any (prec := prec) hnr hnd (fun x => by
        rw [List.mem_range'_1]
        constructor
        · intro h; have := hlt x h; omega
        · intro h; exact hall x (by omega)) hpt hpw hind hexe
      have hss := h1.det hex
      subst hss
      refine hQ a w ?_
      obtain ⟨D, ρ, hsat⟩ := hsat
      refine ⟨D, ρ, ?_⟩
      have := hsat.congr (st' := out.st) e1.1 e1.2
      refine this.mono (fun id h => ?_) (fun t h => ?_)
      · unfold sSet
        rcases h with h | ⟨j, hj, h⟩
        · omega
        · have := hlt j hj; omega
      · obtain ⟨j, _, o, h⟩ := h; exact ⟨j, o, h⟩
    induction fuel with
    | zero =>
      intro l listed s a w hf hls hnd hlt hlst hcl hpw hex hsat
      have hready : Region.ready .any ops listed = [] := by
        refine List.eq_nil_iff_forall_not_mem.2 (fun x hx => ?_)
        obtain ⟨h1, o, ho, _⟩ := mem_ready.1 hx
        have hxs : x < ops.size := by
          rcases Nat.lt_or_ge x ops.size with h | h
          · exact h
          · simp [Array.getElem?_eq_none h] at ho
        -- l holds all places
        have : x ∈ l := by
          by_cases hxl : x ∈ l
          · exact hxl
          · have := nodup_le (l := x :: l) (n := ops.size) (List.nodup_cons.2 ⟨hxl, hnd⟩) (fun y hy => by
              rcases List.mem_cons.1 hy with rfl | hy
              · exact hxs
              · exact hlt y hy)
            simp at this; omega
        have := (hlst x).2 this
        rw [Array.getD_eq_getD_getElem?] at this h1
        rw [Array.getElem?_eq_getElem (by omega)] at this h1
        simp at this h1
        rw [this] at h1
        cases h1
      exact ⟨hready, done l listed s a w hls hnd hlt hlst hpw hex hsat hready⟩
    | succ fuel ih =>
      intro l listed s a w hf hls hnd hlt hlst hcl hpw hex hsat
      refine ⟨done l listed s a w hls hnd hlt hlst hpw hex hsat, fun i hi => ?_⟩
      obtain ⟨h1, o, ho, hedges⟩ := mem_ready.1 hi
      have his : i < ops.size := by
        rcases Nat.lt_or_ge i ops.size with h | h
        · exact h
        · simp [Array.getElem?_eq_none h] at ho
      have hil : i ∉ l := by
        intro hh
        have := (hlst i).2 hh
        rw [Array.getD_eq_getD_getElem?] at this h1
        rw [Array.getElem?_eq_getElem (by omega)] at this h1
        simp at this h1
        rw [this] at h1
        cases h1
      have hoL : ops.toList[i]? = some o := by simpa using ho
      have hpred : ∀ y, prec y i → y ∈ l := by
        intro y hy
        obtain ⟨e, h1, h2, h3, h4⟩ := prec_step y i o hoL hy
        have hel : e.on ∈ l := (hlst _).1 (hedges e (by simpa using h1) h2)
        rcases h4 with rfl | h4
        · exact hel
        · exact hcl _ hel y h4
      have hnl : ∀ x ∈ l, ¬ prec i x := fun x hx hp => hil (hcl x hx i hp)
      -- a whole order that begins so
      let rest := (List.range ops.size).filter (fun j => decide (j ∉ l) && decide (j ≠ i))
      have hrest : ∀ j, j ∈ rest ↔ j < ops.size ∧ j ∉ l ∧ j ≠ i := by
        intro j
        simp only [rest, List.mem_filter, List.mem_range, Bool.and_eq_true, decide_eq_true_eq]
      have hnd2 : (l ++ i :: rest).Nodup := by
        refine List.nodup_append.2 ⟨hnd, List.nodup_cons.2 ⟨fun hh => ((hrest i).1 hh).2.2 rfl, List.nodup_range.filter _⟩, fun x hx y hy e => ?_⟩
        subst e
        rcases List.mem_cons.1 hy with rfl | hy
        · exact hil hx
        · exact ((hrest x).1 hy).2.1 hx
      have hpw2 : (l ++ i :: rest).Pairwise (fun x y => ¬ prec y x) := by
        refine List.pairwise_append.2 ⟨hpw, List.pairwise_cons.2 ⟨fun y hy hp => ((hrest y).1 hy).2.1 (hpred y hp), ?_⟩, fun x hx y hy hp => ?_⟩
        · have hr : rest.Pairwise (fun x y => x < y) := (List.pairwise_lt_range (n := ops.size)).filter _
          refine List.Pairwise.imp_of_mem ?_ hr
          intro x y hx hy hlt' hp
          have := prec_lt x y ((hrest x).1 hx).1 hp
          omega
        · rcases List.mem_cons.1 hy with rfl | hy
          · exact hnl x hx hp
          · exact ((hrest y).1 hy).2.1 (hcl x hx y hp)
      obtain ⟨st1, h2, e2⟩ := Exe.any (prec := prec) hnr hnd2 (fun x => by
        rw [List.mem_range'_1, List.mem_append, List.mem_cons, hrest]
        constructor
        · rintro (h | rfl | h)
          · have := hlt x h; omega
          · omega
          · omega
        · intro h
          by_cases h1 : x ∈ l
          · exact .inl h1
          · by_cases h2 : x = i
            · exact .inr (.inl h2)
            · exact .inr (.inr ⟨by omega, h1, h2⟩)) hpt hpw2 hind hexe
      obtain ⟨s', h3, h4⟩ := h2.split
      have hss := hex.det h3
      subst hss
      cases h4 with
      | cons _ o' _ _ _ ho' hm hr =>
        rw [hoL] at ho'
        simp only [Option.some.injEq] at ho'
        subst ho'
        obtain ⟨v1, v2, v3⟩ := hlog i (by rw [n_eq]; exact his) (L i) (Lget i his)
        obtain ⟨D, ρ, hsat⟩ := hsat
        refine op_ok hP hG (cs := cs) (nid := base + 16 * i) hall hsat ?_ ho ?_ ?_ (eff := (L i).2.1) (eqs := (L i).2.2) ⟨(L i).1, hm⟩ (fun p hp => hvc p (v1 p hp)) (v2 he) (v3 hb) ?_
        · intro id g1 g2 g3
          rcases g3 with g3 | ⟨j, hj, g3⟩
          · omega
          · have : j ≠ i := fun e => hil (e ▸ hj)
            omega
        · intro x hx
          refine ⟨allLt_lt ok2 x (dst_mem hoL hx), ?_⟩
          rintro ⟨j, hj, o', ho', hd'⟩
          have := dst_ne ok1 hoL ho' hx hd'
          exact hil (this ▸ hj)
        · intro j b oj t hg hoj ht
          obtain ⟨e, g1, g2, g3⟩ := gdEdge_spec d2 i o hoL j b hg
          have := (hlst _).1 (hedges e (by simpa using g1) g2)
          rw [g3] at this
          exact ⟨j, this, oj, by simpa using hoj, ht⟩
        · intro a' w' hs'
          refine ih (l ++ [i]) _ _ a' w' (by simp; omega) (by simp [hls]) ?_ ?_ ?_ ?_ ?_ (hex.snoc hoL hm) ?_
          · exact List.nodup_append.2 ⟨hnd, by simp, fun x hx y hy e => by simp at hy; subst hy; exact hil (e ▸ hx)⟩
          · intro x hx
            rcases List.mem_append.1 hx with h | h
            · exact hlt x h
            · simp at h; omega
          · intro x
            rw [List.mem_append, List.mem_singleton]
            by_cases e : i = x
            · subst e
              simp only [or_true, iff_true]
              rw [Array.getD_eq_getD_getElem?, Array.getElem?_setIfInBounds]
              simp [hls, his]
            · rw [getD_set_ne false e, hlst x]
              constructor
              · exact fun h => .inl h
              · rintro (h | h)
                · exact h
                · exact (e h.symm).elim
          · intro x hx y hy
            rcases List.mem_append.1 hx with h | h
            · exact List.mem_append.2 (.inl (hcl x h y hy))
            · simp at h
              subst h
              exact List.mem_append.2 (.inl (hpred y hy))
          · refine List.pairwise_append.2 ⟨hpw, by simp, fun x hx y hy hp => ?_⟩
            simp at hy
            subst hy
            exact hnl x hx hp
          · obtain ⟨D', ρ', hs'⟩ := hs'
            refine ⟨D', ρ', hs'.mono (fun id h => ?_) (fun t h => ?_)⟩
            · rcases h with (h | ⟨j, hj, h⟩) | h
              · exact .inl h
              · exact .inr ⟨j, List.mem_append.2 (.inl hj), h⟩
              · exact .inr ⟨i, by simp, h.1, h.2⟩
            · rcases h with ⟨j, hj, h⟩ | h
              · exact ⟨j, List.mem_append.2 (.inl hj), h⟩
              · exact ⟨i, by simp, o, hoL, h⟩
  refine key ops.size [] _ st0 a w (by simp) (by simp) List.nodup_nil (by simp) ?_ (by simp) List.Pairwise.nil (.nil _) ?_
  · intro x
    simp only [List.not_mem_nil, iff_false, Bool.not_eq_true]
    rw [Array.getD_eq_getD_getElem?, Array.getElem?_replicate]
    split <;> simp
  · obtain ⟨D, ρ, hs⟩ := hs
    refine ⟨D, ρ, hs.mono (fun id h => .inl ?_) (fun t h => h.elim)⟩
    unfold sSet at h; omega
end
end Go.Sv
