/-
  Own layer 'SV' (18): writes that do not meet may change places; operations too.
-/
import Derived.Test.YtmacpjddafcjcaaDoorSvRun
set_option linter.all false
namespace Go.Sv
open M

def clash : Key → Key → Bool
  | .tm a, .tm b => Nat.beq a b
  | .cl i o, .cl j p => bAnd (Nat.beq i j) (Nat.beq o p)
  | .cl i _, .bk j => Nat.beq i j
  | .bk i, .cl j _ => Nat.beq i j
  | .bk i, .bk j => Nat.beq i j
  | _, _ => false

def StEq (st st' : St) : Prop := (∀ t, look st.tm t = look st'.tm t) ∧ (∀ id, look st.hp id = look st'.hp id)
theorem StEq.refl (st : St) : StEq st st := ⟨fun _ => rfl, fun _ => rfl⟩
theorem StEq.symm {a b : St} (h : StEq a b) : StEq b a := ⟨fun t => (h.1 t).symm, fun t => (h.2 t).symm⟩
theorem StEq.trans {a b c : St} (h : StEq a b) (k : StEq b c) : StEq a c := ⟨fun t => (h.1 t).trans (k.1 t), fun t => (h.2 t).trans (k.2 t)⟩
theorem StEq.get {a b : St} (h : StEq a b) : a.get = b.get := by
  funext k
  cases k with
  | tm t => simp only [St.get, h.1]
  | cl id off => simp only [St.get, h.2]
  | bk id => simp only [St.get, h.2]

/-- What a write does to the tables, said of each place. -/
theorem set_tm {st : St} {k : Key} {v : KV} (t : Nat) : look (st.set k v).tm t = (match k, v with
    | .tm a, .tv x => if a = t then some x else look st.tm t
    | .tm a, .gone => if a = t then none else look st.tm t
    | _, _ => look st.tm t) := by
  cases k <;> cases v <;> simp only [St.set] <;> first | rfl | exact look_put _ _ _ _ | exact look_del _ _ _ | (split <;> rfl)
theorem set_hp {st : St} {k : Key} {v : KV} (id : Nat) : look (st.set k v).hp id = (match k, v with
    | .cl i o, .cl x => if i = id then (match look st.hp i with | some (.box e cs) => some (.box e (cs.set o x)) | b => b) else look st.hp id
    | .bk i, .bk b => if i = id then some b else look st.hp id
    | .bk i, .gone => if i = id then none else look st.hp id
    | _, _ => look st.hp id) := by
  cases k <;> cases v <;> simp only [St.set] <;> first | rfl | exact look_put _ _ _ _ | exact look_del _ _ _ | skip
  rename_i i o x
  cases hl : look st.hp i with
  | none => simp only; split <;> simp_all
  | some b =>
    cases b with
    | box e cs =>
      simp only [look_put, setNth_eq]
    | row e sz n f => simp only; split <;> simp_all
    | ob o => simp only; split <;> simp_all

theorem StEq.set {a b : St} (h : StEq a b) (k : Key) (v : KV) : StEq (a.set k v) (b.set k v) := by
  constructor
  · intro t; rw [set_tm, set_tm]; cases k <;> cases v <;> simp only [h.1]
  · intro id; rw [set_hp, set_hp]; cases k <;> cases v <;> simp only [h.2]
theorem StEq.sets {a b : St} (h : StEq a b) (l : List (Key × KV)) : StEq (a.sets l) (b.sets l) := by
  induction l generalizing a b with
  | nil => exact h
  | cons p r ih => obtain ⟨k, v⟩ := p; exact ih (h.set k v)

theorem bAnd_false {a b : Bool} (h : bAnd a b = false) : a = false ∨ b = false := by cases a <;> cases b <;> simp_all [bAnd]

theorem set_comm {st : St} {k k' : Key} {v v' : KV} (hc : clash k k' = false) : StEq ((st.set k v).set k' v') ((st.set k' v').set k v) := by
  constructor
  · intro t
    rw [set_tm, set_tm, set_tm, set_tm]
    cases k <;> cases k' <;> cases v <;> cases v' <;> simp only [] <;> (try rfl)
    all_goals (simp only [clash] at hc; have hne := (beq_ne _ _).1 hc; split <;> split <;> first | rfl | (subst_vars; exact absurd rfl hne))
  · intro id
    rw [set_hp, set_hp]
    cases k <;> cases k' <;> cases v <;> cases v' <;> simp only [set_hp] <;> (try rfl)
    all_goals (simp only [clash] at hc)
    case cl.cl.cl.cl i o j p x y =>
      rcases bAnd_false hc with hne | hne
      · have hne := (beq_ne _ _).1 hne
        by_cases e1 : j = id
        · subst e1; rw [if_pos rfl, if_neg hne, if_neg hne, if_pos rfl]
        · rw [if_neg e1]
          by_cases e2 : i = id
          · subst e2; rw [if_pos rfl, if_pos rfl, if_neg (Ne.symm hne)]
          · rw [if_neg e2, if_neg e2, if_neg e1]
      · have hne := (beq_ne _ _).1 hne
        by_cases e : i = j
        · subst e
          by_cases e1 : i = id
          · subst e1
            simp only [if_true]
            cases hl : look st.hp i with
            | none => rfl
            | some b =>
              cases b with
              | box e cs => simp only; rw [List.set_comm _ _ hne]
              | row e sz n f => rfl
              | ob o => rfl
          · simp only [if_neg e1]
        · by_cases e1 : j = id
          · subst e1; rw [if_pos rfl, if_neg e, if_neg e, if_pos rfl]
          · rw [if_neg e1]
            by_cases e2 : i = id
            · subst e2; rw [if_pos rfl, if_pos rfl, if_neg (Ne.symm e)]
            · rw [if_neg e2, if_neg e2, if_neg e1]
    all_goals
      have hne := (beq_ne _ _).1 hc
      clear hc
      (repeat' split) <;> simp_all
end Go.Sv
