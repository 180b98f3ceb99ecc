/-
  Own layer 'SV': functions that are handed blocks and leave blocks; rows of bytes.
-/
import Derived.Test.YtmacpjddafcjcaaDoorSvShelf
import Derived.KernelRfl
set_option linter.all false
namespace Go.Sv
open M

theorem BlkEqv.row_ext {e : TypeId} {sz n n' : Nat} {f f' : Nat → Nat → Cell} (hn : n = n') (hf : ∀ i, i < n → ∀ j, j < sz → f i j = f' i j) : BlkEqv (.row e sz n f) (.row e sz n' f') := by
  subst hn
  refine ⟨fun D ρ id w h => ?_, fun S h i hi j hj => by rw [← hf i hi j hj]; exact h i hi j hj⟩
  rcases h with h | ⟨vs, fz, h1, h2, h3, h4, h5, h6, h7, h8⟩
  · exact .inl h
  · exact .inr ⟨vs, fz, h1, h2, h3, h4, h5, h6, h7, fun i hi j hj => by rw [← hf i hi j hj]; exact h8 i hi j hj⟩
theorem inR64 {n : Int} (h1 : -9223372036854775808 ≤ n) (h2 : n ≤ 9223372036854775807) : inR .i64 n := ⟨h1, h2⟩
theorem BlkEqv.of_eq {b b' : Blk} (h : b = b') : BlkEqv b b' := h ▸ BlkEqv.refl b

/-- Bytes as a row's content. -/
def bytesF (l : List UInt8) : Nat → Nat → Cell := fun i _ => .int .u8 ((l.getD i 0).toNat : Int)
theorem byteL_F (l : List UInt8) {n : Nat} (h : n = l.length) : byteL (bytesF l) 0 n = l := by
  subst h
  apply List.ext_getElem?
  intro i
  simp only [byteL, List.getElem?_map]
  rcases Nat.lt_or_ge i l.length with hi | hi
  · rw [List.getElem?_range hi]
    simp [bytesF, byteOf, List.getD, hi]
  · rw [List.getElem?_eq_none (by simpa using hi), List.getElem?_eq_none hi]; rfl
theorem areBytes_F (l : List UInt8) (off n : Nat) : areBytes (bytesF l) off n := by
  intro i hi
  simp [bytesF, byteOf]
theorem catF_bytes (l r : List UInt8) {n : Nat} (h : n = l.length) (i j : Nat) : catF n (bytesF l) (bytesF r) i j = bytesF (l ++ r) i j := by
  subst h
  unfold catF
  split
  · rename_i hi; simp [bytesF, List.getD, List.getElem?_append, hi]
  · rename_i hi; simp [bytesF, List.getD, List.getElem?_append, hi]

theorem look_hinB : ∀ (l : List Blk) (k i : Nat) (b : Blk), l[i]? = some b → look (hinB k l) (k + i) = some b
  | [], k, i, b, h => by simp at h
  | c :: r, k, 0, b, h => by
    simp only [List.getElem?_cons_zero, Option.some.injEq] at h
    subst h
    simp [hinB, look]
  | c :: r, k, i + 1, b, h => by
    simp only [List.getElem?_cons_succ] at h
    have := look_hinB r (k + 1) i b h
    simp only [hinB, look]
    rw [(beq_ne k (k + (i + 1))).2 (by omega)]
    rw [show k + (i + 1) = k + 1 + i from by omega]
    exact this

theorem Fn.of' {P : Program} {G : Nat → Option (List Cell)} {f : FuncId} {fn : Func} {hin : List Blk} {args : List V1} {R : List V1 → List (Nat × Blk) → Prop}
    (hf : P.funcs[f]? = some fn) (hb : fn.body = some (codeOf fn)) (hN : Nat.ble (len args) fn.ntmps = true) (ha : idLtVs (len hin) args = true) (hh : idLtB (len hin) (hinB 0 hin) = true) (hr : RowsIn (fun i => i < len hin) (hinB 0 hin))
    (h : Wp P G fn.ntmps (len hin) [.code (codeOf fn)] (FinQ P fn.results.toList (len hin) R) (st0 args hin)) : Fn P G f hin args R := by
  have hl := len_eq hin
  rw [hl] at h ha hh hr
  refine Fn.of (hin := hin) hf hb ?_ (fun j x hj => idLtVs_inS ha j x hj) (fun i b hi => ?_) h
  · have := Nat.le_of_ble_eq_true hN
    rw [len_eq] at this
    exact this
  · have := look_hinB hin 0 i b hi
    exact (idLtB_inS hh hr _ b this).2

def mem1 (ids : List Nat) (n : Nat) : Bool := match notIn n ids with
  | true => false
  | false => true
def mIn (ids : List Nat) : Cell → Bool
  | .ptr id _ | .row _ id _ _ | .rp _ id _ _ | .map id => mem1 ids id
  | .int .. | .bool _ | .str _ | .sl .. | .nilsl | .nilptr | .dp .. | .nilmap | .nilfn | .nilif => true
  | .clo .. | .ifc .. => false
def mInL (ids : List Nat) : List Cell → Bool
  | [] => true
  | x :: r => bAnd (mIn ids x) (mInL ids r)
def mInV (ids : List Nat) : V1 → Bool
  | .c (.ifc _ sh c) => match sh with
    | none => mIn ids (c 0)
    | some m => mInL ids (upL c 0 m)
  | .c x => mIn ids x
  | .agg l => mInL ids l
def mInVs (ids : List Nat) : List V1 → Bool
  | [] => true
  | x :: r => bAnd (mInV ids x) (mInVs ids r)
def mInB (ids : List Nat) : List (Nat × Blk) → Bool
  | [] => true
  | (_, .box _ cs) :: r => bAnd (mInL ids cs) (mInB ids r)
  | (_, _) :: r => mInB ids r
theorem mem1_ev {ids : List Nat} {n : Nat} (h : mem1 ids n = true) : n ∈ ids := by
  induction ids with
  | nil => simp [mem1, notIn] at h
  | cons y r ih =>
    simp only [mem1, notIn] at h
    cases hb : Nat.beq n y with
    | true => rw [(beq_eq _ _).1 hb]; simp
    | false => rw [hb] at h; exact List.mem_cons_of_mem _ (ih h)
theorem mIn_inS {ids : List Nat} {x : Cell} (h : mIn ids x = true) : x.inS (fun i => i ∈ ids) := by
  cases x <;> simp only [mIn, Bool.false_eq_true] at h <;> first | exact mem1_ev h | trivial
theorem mInL_inS {ids : List Nat} : ∀ {l : List Cell}, mInL ids l = true → ∀ (j : Nat) (x : Cell), l[j]? = some x → x.inS (fun i => i ∈ ids)
  | [], _, j, x, hj => by simp at hj
  | y :: r, h, 0, x, hj => by obtain ⟨h1, _⟩ := bAnd_eq h; simp at hj; subst hj; exact mIn_inS h1
  | y :: r, h, j + 1, x, hj => by obtain ⟨_, h2⟩ := bAnd_eq h; simp at hj; exact mInL_inS h2 j x hj
theorem mInV_inS {ids : List Nat} {x : V1} (h : mInV ids x = true) : x.inS (fun i => i ∈ ids) := by
  cases x with
  | agg l => exact mInL_inS h
  | c x =>
    cases x with
    | ifc t sh c =>
      cases sh with
      | none => exact mIn_inS (x := c 0) h
      | some m =>
        have h : mInL ids (upL c 0 m) = true := h
        intro j hj
        exact mInL_inS h j _ (by rw [upL_get, if_pos hj]; simp)
    | _ => exact mIn_inS h
theorem mInVs_inS {ids : List Nat} : ∀ {l : List V1}, mInVs ids l = true → ∀ (j : Nat) (x : V1), l[j]? = some x → x.inS (fun i => i ∈ ids)
  | [], _, j, x, hj => by simp at hj
  | y :: r, h, 0, x, hj => by obtain ⟨h1, _⟩ := bAnd_eq h; simp at hj; subst hj; exact mInV_inS h1
  | y :: r, h, j + 1, x, hj => by obtain ⟨_, h2⟩ := bAnd_eq h; simp at hj; exact mInVs_inS h2 j x hj
theorem mInB_inS {ids : List Nat} : ∀ {l : List (Nat × Blk)}, mInB ids l = true → RowsIn (fun i => i ∈ ids) l → ∀ id b, look l id = some b → b.inS (fun i => i ∈ ids)
  | [], _, _, t, v, h => by simp [look] at h
  | (k, .box e cs) :: r, h, hr, t, v, hl => by
    obtain ⟨h2, h3⟩ := bAnd_eq h
    simp only [look] at hl
    split at hl
    · simp only [Option.some.injEq] at hl; subst hl; exact mInL_inS h2
    · exact mInB_inS h3 hr t v hl
  | (k, .row e sz n f) :: r, h, hr, t, v, hl => by
    simp only [look] at hl
    split at hl
    · simp only [Option.some.injEq] at hl; subst hl; exact hr.1
    · exact mInB_inS (l := r) h hr.2 t v hl
  | (k, .ob o) :: r, h, hr, t, v, hl => by
    simp only [look] at hl
    split at hl
    · simp only [Option.some.injEq] at hl; subst hl; trivial
    · exact mInB_inS (l := r) h hr t v hl
theorem fst_look {l : List (Nat × Blk)} {i : Nat} (h : i ∈ fstL l) : ∃ b, look l i = some b := by
  induction l with
  | nil => simp [fstL] at h
  | cons p r ih =>
    obtain ⟨k, v⟩ := p
    simp only [look]
    cases hb : Nat.beq k i with
    | true => exact ⟨v, rfl⟩
    | false =>
      simp only [fstL] at h
      rcases List.mem_cons.1 h with h | h
      · exact absurd h.symm ((beq_ne _ _).1 hb)
      · exact ih h
theorem look_mem {l : List (Nat × Blk)} {i : Nat} {b : Blk} (h : look l i = some b) : (i, b) ∈ l := by
  induction l with
  | nil => simp [look] at h
  | cons p r ih =>
    obtain ⟨k, v⟩ := p
    simp only [look] at h
    split at h
    · rename_i hb
      simp only [Option.some.injEq] at h
      rw [(beq_eq _ _).1 hb, h]; simp
    · exact List.mem_cons_of_mem _ (ih h)
theorem nodup_inj {σ : Nat → Nat} : ∀ {l : List Nat}, nodupB (mapL σ l) = true → ∀ i j, i ∈ l → j ∈ l → σ i = σ j → i = j
  | [], _, i, j, hi, _, _ => by simp at hi
  | x :: r, h, i, j, hi, hj, e => by
    simp only [mapL, nodupB] at h
    obtain ⟨h1, h2⟩ := bAnd_eq h
    have h1 := notIn_mem h1
    rw [mapL_eq] at h1
    rcases List.mem_cons.1 hi with hi | hi <;> rcases List.mem_cons.1 hj with hj | hj
    · rw [hi, hj]
    · exact absurd (List.mem_map.2 ⟨j, hj, by rw [← e, hi]⟩) h1
    · exact absurd (List.mem_map.2 ⟨i, hi, by rw [e, hj]⟩) h1
    · exact nodup_inj h2 i j hi hj e
theorem fstL_mem {l : List (Nat × Blk)} {i : Nat} {b : Blk} (h : (i, b) ∈ l) : i ∈ fstL l := by
  induction l with
  | nil => simp at h
  | cons p r ih =>
    obtain ⟨k, v⟩ := p
    simp only [fstL]
    rcases List.mem_cons.1 h with h | h
    · simp only [Prod.mk.injEq] at h; simp [h.1]
    · exact List.mem_cons_of_mem _ (ih h)

/-- A function's end, with blocks. -/
theorem FinQ.blk {P : Program} {rv : List ResultVar} {kn : Nat} {st : St} {rs : List V1} {hout : List (Nat × Blk)} (m : List Nat) (hr : resV P rv st = some (mapL (V1.ren (sigF kn m)) rs))
    (hb : mapL (fun p : Nat × Blk => look st.hp (sigF kn m p.1)) hout = mapL (fun p : Nat × Blk => some (p.2.ren (sigF kn m))) hout) (hi : nodupB (mapL (sigF kn m) (fstL hout)) = true)
    (h4 : mInVs (fstL hout) rs = true) (h5 : mInB (fstL hout) hout = true) (h6 : RowsIn (fun i => i ∈ fstL hout) hout) : FinQ P rv kn (fun r h => r = rs ∧ h = hout) st := by
  have up : ∀ i, i ∈ fstL hout → ∃ c, look hout i = some c := fun i => fst_look
  refine ⟨rs, hout, m, ⟨rfl, rfl⟩, ?_, fun id b hl => ?_, fun i j bi bj h1 h2 e => nodup_inj hi i j (fstL_mem (look_mem h1)) (fstL_mem (look_mem h2)) e, fun j x hj => V1.inS_mono up (mInVs_inS h4 j x hj), fun id b hl => Blk.inS_mono up (mInB_inS h5 h6 id b hl)⟩
  · rw [mapL_eq] at hr
    unfold resV at hr
    cases hh : resM P rv st.get with
    | none => simp [hh] at hr
    | some p => obtain ⟨l, r⟩ := p; simp only [hh, Option.some.injEq] at hr; subst hr; exact ⟨r, hh⟩
  · have hm := look_mem hl
    have gen : ∀ l : List (Nat × Blk), mapL (fun p : Nat × Blk => look st.hp (sigF kn m p.1)) l = mapL (fun p : Nat × Blk => some (p.2.ren (sigF kn m))) l → (id, b) ∈ l → look st.hp (sigF kn m id) = some (b.ren (sigF kn m)) := by
      intro l
      induction l with
      | nil => intro _ h; simp at h
      | cons p r ih =>
        intro e h
        simp only [mapL, List.cons.injEq] at e
        rcases List.mem_cons.1 h with h | h
        · subst h; exact e.1
        · exact ih e.2 h
    exact gen hout hb hm

section
variable {P : Program} {G : Nat → Option (List Cell)} {N kn : Nat} {k : List KI} {Q : St → Prop} {st : St}
/-- A loop; a round's end says which state comes next. -/
theorem Wp.loopK {X : Type} (h : isLoop k = true) (inv : X → St) (facts : X → Prop) (μ : X → Nat) (x0 : X) (h0 : Ent kn st (inv x0)) (f0 : facts x0)
    (round : ∀ (x : X) (L : St → Prop), facts x → (∀ st x', facts x' → μ x' < μ x → Ent kn st (inv x') → L st) → Wp P G N kn (.code (loopB k) :: .lp L :: loopR k) Q (inv x)) : Wp P G N kn k Q st :=
  Wp.loop' h inv facts μ x0 h0 f0 (fun x fx => round x (LoopR kn inv facts μ x) fx (fun st x' h1 h2 h3 => by unfold LoopR; exact ⟨x', h1, h2, h3⟩))
theorem Wp.lpK {L : St → Prop} (h : lpR k = L) (hl : L st) : Wp P G N kn k Q st := by
  unfold lpR at h
  split at h
  · subst h; exact Wp.lp hl
  · subst h; exact hl.elim
end

theorem Wp.rs {P : Program} {G : Nat → Option (List Cell)} {N kn : Nat} {k : List KI} {rv : List ResultVar} {st : St} {rs rs' : List V1} {hout : List (Nat × Blk)} (e : rs' = rs)
    (h : Wp P G N kn k (FinQ P rv kn (fun r h => r = rs' ∧ h = hout)) st) : Wp P G N kn k (FinQ P rv kn (fun r h => r = rs ∧ h = hout)) st := e ▸ h

/-- A block in another form. -/
theorem Sat.turnB {Γ : Ctx} {S W : Nat → Prop} {D : Dat} {ρ : Rho} {st : St} {a : Act} {w : World} (h : Sat Γ S W D ρ st a w) {id : Nat} {b b' : Blk} (hb : look st.hp id = some b) (he : BlkEqv b b') : Sat Γ S W D ρ (st.set (.bk id) (.bk b')) a w := by
  have hl : ∀ k, look (st.set (.bk id) (.bk b')).hp k = if id = k then some b' else look st.hp k := fun k => look_put _ _ _ _
  have key : ∀ i c, look (st.set (.bk id) (.bk b')).hp i = some c → Live ρ i c → ∃ c0, look st.hp i = some c0 ∧ Live ρ i c0 := by
    intro i c hc lc
    rw [hl] at hc
    by_cases e : id = i
    · exact ⟨b, e ▸ hb, lc⟩
    · rw [if_neg e] at hc; exact ⟨c, hc, lc⟩
  refine { h with tm := h.tm, hp := ?_, inj := ?_, sep := ?_, own := ?_, idT := h.idT, idH := ?_ }
  · intro i c hc
    rw [hl] at hc
    by_cases e : id = i
    · subst e; rw [if_pos rfl] at hc; simp only [Option.some.injEq] at hc; subst hc; exact he.1 _ _ _ _ (h.hp _ _ hb)
    · rw [if_neg e] at hc; exact h.hp i c hc
  · intro i j bi bj hi hj li lj hij
    obtain ⟨ci, hi, li⟩ := key i bi hi li
    obtain ⟨cj, hj, lj⟩ := key j bj hj lj
    exact h.inj i j ci cj hi hj li lj hij
  · intro i c hc lc
    obtain ⟨c0, hc0, l0⟩ := key i c hc lc
    exact h.sep i c0 hc0 l0
  · intro i c hc lc
    obtain ⟨c0, hc0, l0⟩ := key i c hc lc
    exact h.own i c0 hc0 l0
  · intro i c hc
    rw [hl] at hc
    by_cases e : id = i
    · subst e; rw [if_pos rfl] at hc; simp only [Option.some.injEq] at hc; subst hc; exact ⟨(h.idH _ _ hb).1, he.2 _ (h.idH _ _ hb).2⟩
    · rw [if_neg e] at hc; exact h.idH i c hc
theorem Ent.blkE {kn : Nat} {st st' : St} {id : Nat} {b b' : Blk} (hb : look st.hp id = some b) (he : BlkEqv b b') (e : st.set (.bk id) (.bk b') = st') : Ent kn st st' := by
  subst e
  intro Γ a w hk ⟨D, ρ, h⟩
  exact ⟨D, ρ, h.turnB hb he⟩
/-- Bytes as cells. -/
def bl (xs : List UInt8) : List Cell := xs.map fun x => .int .u8 (x.toNat : Int)
theorem bl_get (xs : List UInt8) {i : Nat} (hi : i < xs.length) : nthD (bl xs) i = .int .u8 ((xs.getD i 0).toNat : Int) := by
  simp [nthD, nth_eq, bl, List.getD, hi]
theorem bytes_app {e : TypeId} {n : Nat} (l xs : List UInt8) (hn : n = l.length) : BlkEqv (.row e 1 (n + xs.length) (catF n (bytesF l) (fun i j => nthD (bl xs) ((0 + i) * 1 + j)))) (.row e 1 (n + xs.length) (bytesF (l ++ xs))) := by
  refine BlkEqv.row_ext rfl fun i hi j hj => ?_
  obtain rfl : j = 0 := by omega
  rw [← catF_bytes l xs hn]
  unfold catF
  split
  · rfl
  · show nthD (bl xs) ((0 + (i - n)) * 1 + 0) = _
    rw [show (0 + (i - n)) * 1 + 0 = i - n from by omega, bl_get xs (by omega)]; rfl
theorem bytes_new {e : TypeId} (xs : List UInt8) : BlkEqv (.row e 1 xs.length (fun i j => nthD (bl xs) (i * 1 + j))) (.row e 1 xs.length (bytesF xs)) := by
  refine BlkEqv.row_ext rfl fun i hi j hj => ?_
  obtain rfl : j = 0 := by omega
  show nthD (bl xs) (i * 1 + 0) = _
  rw [show i * 1 + 0 = i from by omega, bl_get xs hi]; rfl

/-- A slice of bytes as it was built. -/
def rowB (xs : List UInt8) : Nat → Nat → Cell := fun i j => nthD (bl xs) (i * 1 + j)
theorem areBytes_B (xs : List UInt8) {n : Nat} (hn : n = xs.length) : areBytes (rowB xs) 0 n := by
  intro i hi
  have e : rowB xs (0 + i) 0 = .int .u8 ((xs.getD i 0).toNat : Int) := by
    show nthD (bl xs) ((0 + i) * 1 + 0) = _
    rw [show (0 + i) * 1 + 0 = i from by omega, bl_get xs (by omega)]
  rw [e]; simp [byteOf]
theorem byteL_B (xs : List UInt8) {n : Nat} (hn : n = xs.length) : byteL (rowB xs) 0 n = xs := by
  have : byteL (rowB xs) 0 n = byteL (bytesF xs) 0 n := by
    unfold byteL
    apply List.map_congr_left
    intro i hi
    have hi : i < n := by simpa using hi
    show byteOf (nthD (bl xs) ((0 + i) * 1 + 0)) = _
    rw [show (0 + i) * 1 + 0 = i from by omega, bl_get xs (by omega)]
    rw [Nat.zero_add]; rfl
  rw [this, byteL_F xs hn]
theorem wrap8 {n : Int} (h1 : 0 ≤ n) (h2 : n < 256) : IntKind.u8.wrap n = n := by
  simp [IntKind.wrap, IntKind.signed, IntKind.bits]
  omega

/-- A closure that has captured one cell. -/
def cloRaw (f : FuncId) (l : List V1) : Cell := .clo f (len l) (fun i => match nth l i with | some v => shOf v | none => none) (fun i j => match nth l i with | some v => nthD v.cells j | none => .nilif)
def clo1 (f : FuncId) (x : Cell) : Cell := .clo f 1 (fun _ => none) (fun _ _ => x)
theorem clo1_D (f : FuncId) (x : Cell) : EqvD (.c (cloRaw f [.c x])) (.c (clo1 f x)) := by
  intro D ρ u h
  obtain ⟨vs, e, hs, hx⟩ := (h : Den D ρ (cloRaw f [.c x]) u)
  refine (⟨vs, e, hs, fun i hi => ?_⟩ : Den D ρ (clo1 f x) u)
  obtain rfl : i = 0 := by omega
  exact hx 0 hi
theorem clo1_I (f : FuncId) (x : Cell) : EqvI (.c (cloRaw f [.c x])) (.c (clo1 f x)) := by
  intro S h i hi
  obtain rfl : i = 0 := by omega
  exact h 0 hi

/-- The contract of a function that leaves blocks. -/
abbrev FnB (P : Program) (G : Nat → Option (List Cell)) (f : FuncId) (hin : List Blk) (args rs : List V1) (hout : List (Nat × Blk)) : Prop := Fn P G f hin args (fun r h => r = rs ∧ h = hout)
def cb {P : Program} {G : Nat → Option (List Cell)} {f : FuncId} {hin : List Blk} {args rs : List V1} {hout : List (Nat × Blk)} (m : List Nat) (h : FnB P G f hin args rs hout) : CallE P G := ⟨f, m, args, hin, rs, hout, h⟩
end Go.Sv
