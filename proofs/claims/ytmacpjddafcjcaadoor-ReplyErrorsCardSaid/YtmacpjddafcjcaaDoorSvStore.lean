/-
  Own layer 'SV' (10): stores.
-/
import Derived.Test.YtmacpjddafcjcaaDoorSvEff
set_option linter.all false
namespace Go.Sv
open M

/-- The world differs in one block alone. -/
structure OneOff (w w' : World) (b : Nat) (o : Obj) : Prop where
  at_ : w'.heap[b]? = some o
  other : ∀ k, k ≠ b → w'.heap[k]? = w.heap[k]?
  size : w'.heap.size = w.heap.size
  os : w'.os = w.os
  tape : w'.tape = w.tape
  output : w'.output = w.output

theorem Sat.congr {Γ : Ctx} {S W : Nat → Prop} {D : Dat} {ρ : Rho} {st st' : St} {a : Act} {w : World} (ht : ∀ t, look st'.tm t = look st.tm t) (hh : ∀ id, look st'.hp id = look st.hp id)
    (h : Sat Γ S W D ρ st a w) : Sat Γ S W D ρ st' a w :=
  { h with
    tm := fun t v hv => h.tm t v (by rw [← ht]; exact hv)
    hp := fun id b hb => h.hp id b (by rw [← hh]; exact hb)
    inj := fun i j bi bj hi hj li lj => h.inj i j bi bj (by rw [← hh]; exact hi) (by rw [← hh]; exact hj) li lj
    sep := fun id b hb => h.sep id b (by rw [← hh]; exact hb)
    own := fun id b hb => h.own id b (by rw [← hh]; exact hb)
    idT := fun t v hv => h.idT t v (by rw [← ht]; exact hv)
    idH := fun id b hb => h.idH id b (by rw [← hh]; exact hb) }

/-- One block of the state's own is turned. -/
theorem Sat.upd {Γ : Ctx} {S W : Nat → Prop} {D : Dat} {ρ : Rho} {st : St} {a : Act} {w w' : World} (h : Sat Γ S W D ρ st a w) {id : Nat} {b b' : Blk} {o : Obj} (hb : look st.hp id = some b) (hlv : Live ρ id b)
    (hw : OneOff w w' (ρ id).1 o) (hb' : BlkSat D ρ id w' b') (hin : b'.inS S) : Sat Γ S W D ρ (st.set (.bk id) (.bk b')) a w' := by
  have hlook : ∀ i, look (st.set (.bk id) (.bk b')).hp i = if id = i then some b' else look st.hp i := fun i => look_put _ _ _ _
  have key : ∀ i c, look (st.set (.bk id) (.bk b')).hp i = some c → Live ρ i c → ∃ c0, look st.hp i = some c0 ∧ Live ρ i c0 := by
    intro i c hc lc
    rw [hlook] at hc
    by_cases e : id = i
    · exact ⟨b, e ▸ hb, e ▸ hlv⟩
    · rw [if_neg e] at hc; exact ⟨c, hc, lc⟩
  refine { h with tm := h.tm, hp := ?_, inj := ?_, agree := ?_, sep := ?_, own := ?_, frame := ?_, os := hw.os.trans h.os, tape := hw.tape.trans h.tape, output := hw.output.trans h.output, grow := by rw [hw.size]; exact h.grow, idT := h.idT, idH := ?_ }
  · intro i c hc
    rw [hlook] at hc
    by_cases e : id = i
    · subst e; rw [if_pos rfl] at hc; simp only [Option.some.injEq] at hc; subst hc; exact hb'
    · rw [if_neg e] at hc
      by_cases lc : Live ρ i c
      · exact (h.hp i c hc).world (hw.other _ (fun e' => e (h.inj id i b c hb hc hlv lc e'.symm)))
      · exact (h.hp i c hc).dead lc
  · intro i j bi bj hi hj li lj hij
    obtain ⟨ci, hi, li⟩ := key i bi hi li
    obtain ⟨cj, hj, lj⟩ := key j bj hj lj
    exact h.inj i j ci cj hi hj li lj hij
  · intro b' o' v hv
    have hne : b' ≠ (ρ id).1 := by
      rintro rfl
      rw [h.sep id b hb hlv o'] at hv
      cases hv
    rw [cell_block (hw.other b' hne)]
    exact h.agree b' o' v hv
  · intro i c hc lc
    obtain ⟨c0, hc0, l0⟩ := key i c hc lc
    exact h.sep i c0 hc0 l0
  · intro i c hc lc
    obtain ⟨c0, hc0, l0⟩ := key i c hc lc
    exact h.own i c0 hc0 l0
  · intro b' hlt hk
    have hne : b' ≠ (ρ id).1 := by
      rintro rfl
      rcases h.own id b hb hlv with h1 | ⟨i, hi, e⟩
      · omega
      · exact hk i hi e.1 e.2
    rw [hw.other b' hne]
    exact h.frame b' hlt hk
  · intro i c hc
    rw [hlook] at hc
    by_cases e : id = i
    · subst e; rw [if_pos rfl] at hc; simp only [Option.some.injEq] at hc; subst hc; exact ⟨(h.idH id b hb).1, hin⟩
    · rw [if_neg e] at hc; exact h.idH i c hc

theorem OneOff.trans {w w' w'' : World} {b : Nat} {o o' : Obj} (h : OneOff w w' b o) (k : OneOff w' w'' b o') : OneOff w w'' b o' :=
  ⟨k.at_, fun i hi => (k.other i hi).trans (h.other i hi), k.size.trans h.size, k.os.trans h.os, k.tape.trans h.tape, k.output.trans h.output⟩
theorem setCell_off {w : World} {b o : Nat} {arr : Array Value} {e : TypeId} {fz : Nat × Nat} (h : w.heap[b]? = some (.cells arr e fz)) (v : Value) :
    OneOff w (w.setCell ⟨b, o, none⟩ v) b (.cells (arr.setIfInBounds o v) e fz) := by
  refine ⟨?_, fun k hk => ?_, ?_, rfl, rfl, rfl⟩
  · simp only [World.setCell, Array.getElem?_modify, if_true, h, Option.map_some, Option.isSome_none, Bool.false_eq_true, if_false]
  · simp only [World.setCell, Array.getElem?_modify]; rw [if_neg (by simpa using Ne.symm hk)]
  · simp [World.setCell]

theorem store_run {P : Program} {w : World} {b o : Nat} {arr : Array Value} {e : TypeId} {fz : Nat × Nat} (h : w.heap[b]? = some (.cells arr e fz)) (ho : o < arr.size) (hfz : clear fz arr.size) {v : Value} (hv : one v) :
    (store ⟨b, o, none⟩ v).run P w = .ok () (w.setCell ⟨b, o, none⟩ v) := by
  have hc : w.cell? ⟨b, o, none⟩ = some arr[o] := by
    simp [World.cell?, h, ho]
  have hf : w.frozen? ⟨b, o, none⟩ = false := by
    have := hfz o ho
    simp only [World.frozen?, h]
    simp only [Bool.and_eq_false_iff, decide_eq_false_iff_not]
    omega
  cases v <;> first | exact hv.elim | simp [store, Sem.run, hc, hf]

theorem storeCells_run {P : Program} {b : Nat} {e : TypeId} {fz : Nat × Nat} (o : Nat) : ∀ (vs : List Value) (i : Nat) (w : World) (arr : Array Value), w.heap[b]? = some (.cells arr e fz) → clear fz arr.size →
    o + i + vs.length ≤ arr.size → (∀ v ∈ vs, one v) → ∃ w' arr', (storeCells ⟨b, o, none⟩ vs i).run P w = .ok () w' ∧ OneOff w w' b (.cells arr' e fz) ∧ arr'.size = arr.size ∧
      ∀ k, arr'[k]? = if o + i ≤ k ∧ k < o + i + vs.length then vs[k - (o + i)]? else arr[k]?
  | [], i, w, arr, h, hf, hl, hv => ⟨w, arr, rfl, ⟨h, fun _ _ => rfl, rfl, rfl, rfl, rfl⟩, rfl, fun k => by simp; intro h1 h2; omega⟩
  | v :: vs, i, w, arr, h, hf, hl, hv => by
    simp only [List.length_cons] at hl
    have h1 := setCell_off (o := o + i) h v
    obtain ⟨w', arr', r, ho, hs, hk⟩ := storeCells_run (P := P) o vs (i + 1) _ _ h1.at_ (by simpa using hf) (by simp; omega) (fun u hu => hv u (by simp [hu]))
    refine ⟨w', arr', ?_, h1.trans ho, by rw [hs]; simp, fun k => ?_⟩
    · simp only [storeCells, Sem.run_bind, addr_add]
      rw [store_run h (by omega) hf (hv v (by simp))]
      exact r
    · rw [hk, Array.getElem?_setIfInBounds]
      simp only [List.length_cons]
      by_cases e : o + i = k
      · subst e
        rw [if_neg (by omega), if_pos rfl, if_pos (by omega), if_pos (by omega)]; simp
      · by_cases hr : o + (i + 1) ≤ k ∧ k < o + (i + 1) + vs.length
        · rw [if_pos hr, if_pos (by omega)]
          have : k - (o + i) = (k - (o + (i + 1))) + 1 := by omega
          rw [this]; simp
        · rw [if_neg hr, if_neg e, if_neg (by omega)]

section
variable {Γ : Ctx} {S W : Nat → Prop} {D : Dat} {ρ : Rho} {st : St} {a : Act} {w : World} {E : Env} {i d nid : Nat} {g : OG} {eff : Eff}

theorem have_ev {id : Nat} : ∀ {n off : Nat}, (haveM id off n).Ev st.get () → 0 < n → ∃ e cs, look st.hp id = some (.box e cs) ∧ off + n ≤ cs.length := by
  intro n
  induction n with
  | zero => intro off h hn; omega
  | succ n ih =>
    intro off h hn
    simp only [haveM, ev_bind, ev_rd] at h
    obtain ⟨kv, hk, h⟩ := h
    obtain ⟨e, cs, x, hb, hx, _⟩ := get_cl hk
    have hlt : off < cs.length := by
      rcases Nat.lt_or_ge off cs.length with h | h
      · exact h
      · simp [List.getElem?_eq_none h] at hx
    rcases Nat.eq_zero_or_pos n with rfl | hp
    · exact ⟨e, cs, hb, by omega⟩
    · obtain ⟨e', cs', hb', hl⟩ := ih h hp
      rw [hb] at hb'
      simp only [Option.some.injEq, Blk.box.injEq] at hb'
      obtain ⟨rfl, rfl⟩ := hb'
      exact ⟨e, cs, hb, by omega⟩

theorem setL_look {id : Nat} : ∀ {l : List Cell} {off : Nat} {st : St} {e : TypeId} {cs : List Cell}, look st.hp id = some (.box e cs) → off + l.length ≤ cs.length →
    ∃ cs', (∀ t, look (st.sets (setL id off l)).tm t = look st.tm t) ∧ (∀ j, look (st.sets (setL id off l)).hp j = if id = j then some (.box e cs') else look st.hp j) ∧ cs'.length = cs.length ∧
      ∀ k : Nat, cs'[k]? = if off ≤ k ∧ k < off + l.length then l[k - off]? else cs[k]? := by
  intro l
  induction l with
  | nil =>
    intro off st e cs hb hl
    refine ⟨cs, fun t => rfl, fun j => ?_, rfl, fun k => by simp; intro h1 h2; omega⟩
    by_cases e' : id = j
    · subst e'; rw [if_pos rfl]; exact hb
    · rw [if_neg e']; rfl
  | cons x l ih =>
    intro off st e cs hb hl
    simp only [List.length_cons] at hl
    have hset : st.set (.cl id off) (.cl x) = { st with hp := put st.hp id (.box e (setNth cs off x)) } := by simp only [St.set, hb]
    have hb' : look (st.set (.cl id off) (.cl x)).hp id = some (.box e (setNth cs off x)) := by rw [hset]; simp [look_put]
    obtain ⟨cs', h1, h2, h3, h4⟩ := ih (off := off + 1) hb' (by rw [setNth_eq]; simp; omega)
    refine ⟨cs', fun t => ?_, fun j => ?_, by rw [h3, setNth_eq]; simp, fun k => ?_⟩
    · simp only [setL, St.sets]
      rw [h1, hset]
    · simp only [setL, St.sets]
      rw [h2]
      by_cases e' : id = j
      · rw [if_pos e', if_pos e']
      · rw [if_neg e', if_neg e', hset]; simp [look_put, e']
    · rw [h4, setNth_eq, List.getElem?_set]
      simp only [List.length_cons]
      by_cases e' : off = k
      · subst e'
        rw [if_neg (by omega), if_pos rfl, if_pos (by omega), if_pos (by omega)]; simp
      · by_cases hr : off + 1 ≤ k ∧ k < off + 1 + l.length
        · rw [if_pos hr, if_pos (by omega)]
          have : k - off = (k - (off + 1)) + 1 := by omega
          rw [this]; simp
        · rw [if_neg hr, if_neg e', if_neg (by omega)]

theorem rel_one {D : Dat} {ρ : Rho} {l : List Cell} {us : Array Value} (h : RelA D ρ l us) : ∀ v ∈ us.toList, one v := by
  intro v hv
  obtain ⟨j, hj⟩ := List.getElem?_of_mem hv
  have hj' : us[j]? = some v := by simpa using hj
  have hlt : j < l.length := by
    rw [← h.1]
    rcases Nat.lt_or_ge j us.size with h | h
    · exact h
    · simp [Array.getElem?_eq_none h] at hj'
  obtain ⟨u, hu, hd⟩ := nth_rel h hlt
  rw [hj'] at hu
  simp only [Option.some.injEq] at hu
  subst hu
  exact hd.one

theorem store_ok (hP : E.P = Γ.P) (hG : E.G = Γ.G) (h : Sat Γ S W D ρ st a w) {t : TypeId} {x y : Operand} {g : OG}
    (hf : (storeM E i g t x y).Ev st.get eff) (hvc : ∀ p ∈ eff.vc, p) :
    g = none ∧ ∃ w', (Instr.storeAt t (a.eval x) (a.eval y)).run Γ.P w = .ok () w' ∧ Sat Γ S W D ρ (st.sets eff.wr) a w' := by
  simp only [storeM, ev_bind, ev_opt, ev_guard] at hf
  obtain ⟨_, hg1, v, hv, c, hc, vy, hvy, sz, hsz, _, hlen, hf⟩ := hf
  have hg0 : g = none := by cases g with
    | none => rfl
    | some gd => simp [pure1, ev_fail] at hg1
  subst hg0
  refine ⟨rfl, ?_⟩
  have he : Exec none a := by intro gd e; cases e
  have hg : GdOk W none a := by intro gd e; cases e
  have hc := cell_ev hc
  subst hc
  rw [hP] at hsz
  have hlen := (beq_eq _ _).1 hlen
  rw [len_eq] at hlen
  have hy := (opd_den hG h hg he hvy).cells
  have hyS := V1.cells_inS (opd_inS hG h hvy)
  have hden := opd_den hG h hg he hv
  have run : ∀ (b o : Nat), a.eval x = .pointer (some ⟨b, o, none⟩) → (Instr.storeAt t (a.eval x) (a.eval y)).run Γ.P w = (storeCells ⟨b, o, none⟩ (a.eval y).cells.toList).run Γ.P w := by
    intro b o e
    rw [e]
    simp only [Instr.storeAt, Instr.sureAddr, Sem.run_bind, Sem.run_pure, Result.andThen_ok, storeVar, tSize_run hsz]
    rw [if_neg (by rw [hy.1, hlen]; simp)]
  cases c with
  | ptr id off =>
    simp only [ev_bind, ev_ret] at hf
    obtain ⟨_, hhv, rfl⟩ := hf
    have hden : a.eval x = .pointer (some ⟨(ρ id).1, off, none⟩) := hden
    rw [run _ _ hden]
    rcases Nat.eq_zero_or_pos sz with rfl | hpos
    · have : vy.cells = [] := List.length_eq_zero_iff.1 hlen
      have h2 : (a.eval y).cells.toList = [] := by
        have := hy.1
        rw [hlen] at this
        exact List.length_eq_zero_iff.1 (by simpa using this)
      rw [this, h2]
      exact ⟨w, rfl, h⟩
    · obtain ⟨e, cs, hb, hl⟩ := have_ev hhv hpos
      obtain ⟨q0, arr, fz, q1, q2, q3, q4⟩ := h.hp id _ hb
      obtain ⟨w', arr', r1, r2, r3, r4⟩ := storeCells_run (P := Γ.P) off (a.eval y).cells.toList 0 w arr q1 q3 (by simp [hy.1, hlen]; omega) (rel_one hy)
      refine ⟨w', r1, ?_⟩
      obtain ⟨cs', s1, s2, s3, s4⟩ := setL_look (l := vy.cells) (off := off) hb (by rw [hlen]; exact hl)
      have hin := (h.idH id _ hb).2
      have hcell : ∀ (j : Nat) (x : Cell), cs'[j]? = some x → x.inS S ∧ ∃ u, arr'[j]? = some u ∧ Den D ρ x u := by
        intro j x hj
        rw [s4, hlen] at hj
        rw [r4]
        simp only [Nat.add_zero, Array.length_toList, hy.1, hlen]
        by_cases hc : off ≤ j ∧ j < off + sz
        · rw [if_pos hc] at hj
          rw [if_pos hc]
          obtain ⟨u, hu, hd⟩ := hy.2 _ _ hj
          exact ⟨hyS _ _ hj, u, by simpa using hu, hd⟩
        · rw [if_neg hc] at hj
          rw [if_neg hc]
          exact ⟨hin _ _ hj, q4 _ _ hj⟩
      have hs := h.upd (b' := .box e cs') hb q0 r2 ⟨q0, arr', fz, r2.at_, by rw [r3, q2, s3], by rw [r3]; exact q3, fun j x hj => (hcell j x hj).2⟩ (fun j x hj => (hcell j x hj).1)
      refine hs.congr (fun t => by rw [s1]; rfl) (fun j => ?_)
      rw [s2]
      exact (look_put _ _ _ _).symm
  | rp s id e o =>
    simp only [ev_bind, ev_guard] at hf
    obtain ⟨r, hr, _, hle, hf⟩ := hf
    obtain ⟨hle1, hle2⟩ := bAnd_eq hle
    have hle1 := (beq_eq _ _).1 hle1
    have hle2 := Nat.le_of_ble_eq_true hle2
    have hrow := row_ev hr
    have hden : a.eval x = .pointer (some ⟨(ρ id).1, e * s + o, none⟩) := hden
    rw [run _ _ hden]
    have hrs := h.hp id _ hrow
    have hin := (h.idH id _ hrow).2
    -- what is left to be shown holds
    have hkey : e < r.2.2.1 ∧ ∃ b', eff.wr = [(.bk id, .bk b')] ∧ BlkEqv (.row r.1 r.2.1 r.2.2.1 (rowSet r.2.2.2 e o sz vy.cells)) b' := by
      unfold blkM at hf
      cases hl : look E.bs i with
      | none =>
        simp only [hl, ev_ret] at hf
        subst hf
        exact ⟨hvc _ (by simp), _, rfl, BlkEqv.refl _⟩
      | some b' =>
        simp only [hl, ev_ret] at hf
        subst hf
        exact ⟨hvc _ (by simp), b', rfl, hvc _ (by simp)⟩
    obtain ⟨hlt, b', hwr, heq⟩ := hkey
    rw [hwr]
    obtain ⟨arr, fz, e1, e2, e3, e4, e5, e6, e7, e8⟩ := hrs.resolve_left (fun hh => by have := hh.2.1; omega)
    have hlv : Live ρ id (.row r.1 r.2.1 r.2.2.1 r.2.2.2) := by show (ρ id).2 ≠ 0; omega
    have hbd : e * s + s ≤ arr.size := by
      rw [e2, ← hle1]
      have : (e + 1) * s ≤ (ρ id).2 * s := Nat.mul_le_mul_right _ (by omega)
      rw [Nat.add_mul] at this
      omega
    obtain ⟨w', arr', r1, r2, r3, r4⟩ := storeCells_run (P := Γ.P) (e * s + o) (a.eval y).cells.toList 0 w arr e1 e3 (by simp [hy.1, hlen]; omega) (rel_one hy)
    refine ⟨w', r1, ?_⟩
    simp only [St.sets]
    refine h.upd hrow hlv r2 (heq.1 _ _ _ _ (.inr ⟨arr', fz, r2.at_, by rw [r3]; exact e2, by rw [r3]; exact e3, e4, e5, e6, ?_, ?_⟩)) (heq.2 _ ?_)
    · intro j u hu
      rw [r4] at hu
      split at hu
      · exact rel_one hy u (List.mem_of_getElem? hu)
      · exact e7 j u hu
    · intro k hk j hj
      rw [r4]
      simp only [Nat.add_zero, Array.length_toList, hy.1, hlen]
      rw [← hle1] at hj ⊢
      by_cases hc : k = e ∧ o ≤ j ∧ j < o + sz
      · obtain ⟨rfl, h1, h2⟩ := hc
        rw [if_pos ⟨by omega, by omega⟩]
        obtain ⟨u, hu, hd⟩ := nth_rel hy (j := j - o) (by omega)
        refine ⟨u, ?_, ?_⟩
        · have : k * s + j - (k * s + o) = j - o := by omega
          rw [this]; simpa using hu
        · unfold rowSet; rw [if_pos ⟨rfl, h1, h2⟩]; exact hd
      · have hno : ¬ (e * s + o ≤ k * s + j ∧ k * s + j < e * s + o + sz) := by
          intro hh
          apply hc
          have hke : k = e := by
            rcases Nat.lt_trichotomy k e with hlt' | heq' | hgt
            · have : (k + 1) * s ≤ e * s := Nat.mul_le_mul_right _ hlt'
              rw [Nat.add_mul] at this
              omega
            · exact heq'
            · have : (e + 1) * s ≤ k * s := Nat.mul_le_mul_right _ hgt
              rw [Nat.add_mul] at this
              omega
          subst hke
          exact ⟨rfl, by omega, by omega⟩
        rw [if_neg hno]
        obtain ⟨u, hu, hd⟩ := e8 k hk j (by omega)
        refine ⟨u, by rw [← hu, ← hle1], ?_⟩
        unfold rowSet; rw [if_neg hc]; exact hd
    · intro k hk j hj
      unfold rowSet
      split
      · rename_i hc
        have hjl : j - o < vy.cells.length := by omega
        have e' : vy.cells[j - o]? = some vy.cells[j - o] := by simp [hjl]
        simp only [nthD, nth_eq, e']
        exact hyS _ _ e'
      · exact hin k hk j hj
  | _ => simp [ev_fail] at hf
end
end Go.Sv
