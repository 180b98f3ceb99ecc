import Derived.Test.YtmacpjddafcjcaaDoorPri
set_option linter.all false
open Go Go.Sv
namespace Go.Proofs.Tw
attribute [local irreducible] Wp FinQ resV Ent Pur Go.Sv.Fn Sat0
set_option maxRecDepth 100000
variable {G : Nat → Option (List Cell)}

def moreB (s : List UInt8) (i : Nat) : Bool := cond (cond (decide ((i : Int) ≥ (s.length : Int))) true (decide (((s.getD i 0).toNat : Int) < 128))) true (decide (((s.getD i 0).toNat : Int) > 191))
def moreT (s : List UInt8) (i : Nat) : Int := if moreB s i then -1 else ((s.getD i 0).toNat : Int) - 128
def fB1 (c a : Int) : Bool := cond (cond (decide (c ≥ 194)) (decide (c < 224)) false) (decide (a ≥ 0)) false
def fB2 (c a b : Int) : Bool := cond (cond (cond (decide (c ≥ 224)) (decide (c < 240)) false) (decide (a ≥ 0)) false) (decide (b ≥ 0)) false
def r3 (c a b : Int) : Int := (c - 224) * 4096 + a * 64 + b
def fC2 (r : Int) : Bool := cond (decide (r ≥ 2048)) (cond (decide (r < 55296)) true (decide (r > 57343))) false
def fB3 (c a b d : Int) : Bool := cond (cond (cond (cond (decide (c ≥ 240)) (decide (c < 245)) false) (decide (a ≥ 0)) false) (decide (b ≥ 0)) false) (decide (d ≥ 0)) false
def r4 (c a b d : Int) : Int := (c - 240) * 262144 + a * 4096 + b * 64 + d
def fC3 (r : Int) : Bool := cond (decide (r ≥ 65536)) (decide (r ≤ 1114111)) false
def firstT (c a b d : Int) : Int × Int := if c < 128 then (c, 1) else if fB1 c a then ((c - 192) * 64 + a, 2) else if fB2 c a b then (if fC2 (r3 c a b) then (r3 c a b, 3) else (65533, 1)) else if fB3 c a b d then (if fC3 (r4 c a b d) then (r4 c a b d, 4) else (65533, 1)) else (65533, 1)

theorem get_mk (s : List UInt8) (k : Nat) : (⟨s.toArray⟩ : ByteArray).get! k = s.getD k 0 := by
  simp only [ByteArray.get!, List.getD]
  rw [getElem!_def]
  cases h : s[k]? with
  | none => simp [h]; rfl
  | some x => simp [h]

theorem more_cases (s : List UInt8) (k : Nat) : let x := (s.getD k 0).toNat
    (k < s.length ∧ x / 64 = 2 ∧ moreT s k = ((x % 64 : Nat) : Int)) ∨ ((¬ k < s.length ∨ x / 64 ≠ 2) ∧ moreT s k = -1) := by
  intro x
  have hx : x < 256 := UInt8.toNat_lt _
  unfold moreT moreB
  by_cases h1 : k < s.length
  · have e1 : decide ((k : Int) ≥ (s.length : Int)) = false := by simp; omega
    rw [e1]
    by_cases h2 : x / 64 = 2
    · have e2 : decide (((s.getD k 0).toNat : Int) < 128) = false := by simp only [decide_eq_false_iff_not]; omega
      have e3 : decide (((s.getD k 0).toNat : Int) > 191) = false := by simp only [decide_eq_false_iff_not]; omega
      rw [e2, e3]
      refine .inl ⟨h1, h2, ?_⟩
      show ((s.getD k 0).toNat : Int) - 128 = _
      omega
    · refine .inr ⟨.inr h2, ?_⟩
      rw [if_pos]
      by_cases h3 : x < 128
      · have e2 : decide (((s.getD k 0).toNat : Int) < 128) = true := by simp only [decide_eq_true_eq]; omega
        rw [e2]; rfl
      · have e3 : decide (((s.getD k 0).toNat : Int) > 191) = true := by simp only [decide_eq_true_eq]; omega
        rw [e3]; cases decide (((s.getD k 0).toNat : Int) < 128) <;> rfl
  · refine .inr ⟨.inl h1, ?_⟩
    have e1 : decide ((k : Int) ≥ (s.length : Int)) = true := by simp; omega
    rw [e1]; rfl

theorem first_eq (s : List UInt8) (hs : s ≠ []) : firstT ((s.getD 0 0).toNat : Int) (moreT s 1) (moreT s 2) (moreT s 3) = (runeAt s 0, (runeW s 0 : Int)) := by
  unfold runeAt runeW Utf8.decode
  have hsz : (⟨s.toArray⟩ : ByteArray).size = s.length := size_mk s
  simp only [get_mk, Nat.zero_add, hsz]
  have m1 := more_cases s 1
  have m2 := more_cases s 2
  have m3 := more_cases s 3
  generalize (s.getD 0 0) = c0, (s.getD 1 0) = c1, (s.getD 2 0) = c2, (s.getD 3 0) = c3 at *
  have hc : c0.toNat < 256 := UInt8.toNat_lt _
  generalize c0.toNat = c, c1.toNat = x1, c2.toNat = x2, c3.toNat = x3 at *
  simp only at m1 m2 m3
  generalize moreT s 1 = a, moreT s 2 = b, moreT s 3 = d at *
  have q1 : (decide (1 < s.length) && x1 / 64 == 2) = decide (0 ≤ a) := by
    rcases m1 with ⟨h1, h2, h3⟩ | ⟨h1, h3⟩
    · rw [h3]; simp [h1, h2]; omega
    · rcases h1 with h1 | h1 <;> simp [h1, h3]
  have q2 : (decide (2 < s.length) && x2 / 64 == 2) = decide (0 ≤ b) := by
    rcases m2 with ⟨h1, h2, h3⟩ | ⟨h1, h3⟩
    · rw [h3]; simp [h1, h2]; omega
    · rcases h1 with h1 | h1 <;> simp [h1, h3]
  have q3 : (decide (3 < s.length) && x3 / 64 == 2) = decide (0 ≤ d) := by
    rcases m3 with ⟨h1, h2, h3⟩ | ⟨h1, h3⟩
    · rw [h3]; simp [h1, h2]; omega
    · rcases h1 with h1 | h1 <;> simp [h1, h3]
  rw [q1, q2, q3]
  have ha : 0 ≤ a → a = ((x1 % 64 : Nat) : Int) := by intro h; rcases m1 with ⟨_, _, h3⟩ | ⟨_, h3⟩ <;> omega
  have hb : 0 ≤ b → b = ((x2 % 64 : Nat) : Int) := by intro h; rcases m2 with ⟨_, _, h3⟩ | ⟨_, h3⟩ <;> omega
  have hd : 0 ≤ d → d = ((x3 % 64 : Nat) : Int) := by intro h; rcases m3 with ⟨_, _, h3⟩ | ⟨_, h3⟩ <;> omega
  clear m1 m2 m3 q1 q2 q3
  unfold firstT fB1 fB2 fB3 fC2 fC3 r3 r4 Utf8.valid Utf8.runeError
  by_cases p1 : c < 128
  · rw [if_pos (by omega), if_pos p1]; simp
  rw [if_neg (by omega), if_neg p1]
  have e1 : ∀ p q : Bool, cond p q false = (p && q) := by intro p q; cases p <;> rfl
  have e2 : ∀ p q : Bool, cond p true q = (p || q) := by intro p q; cases p <;> rfl
  simp only [e1, e2, Bool.and_eq_true, Bool.or_eq_true, decide_eq_true_eq, beq_iff_eq, ge_iff_le, gt_iff_lt]
  repeat' split
  all_goals simp only [Prod.mk.injEq]
  all_goals (first | (exfalso; omega) | (constructor <;> omega) | skip)

theorem wrap64 {n : Int} (h1 : -9223372036854775808 ≤ n) (h2 : n ≤ 9223372036854775807) : IntKind.i64.wrap n = n := by
  simp [IntKind.wrap, IntKind.signed, IntKind.bits]
  omega

theorem byte_lt (s : List UInt8) (i : Nat) : ((s.getD i 0).toNat : Int) < 256 := by have := UInt8.toNat_lt (s.getD i 0); omega

theorem more_ok (s : List UInt8) (i : Nat) (hi : i < 10) : Pur Tryd.prog G 61 [.c (.str s), .c (.int .i64 (i : Int))] [.c (.int .i64 (moreT s i))] := by
  refine Pur.of Tryd.func61 (by kernel_rfl) (by kernel_rfl) (by kernel_rfl) ?_
  have hb := byte_lt s i
  have h0 : 0 ≤ ((s.getD i 0).toNat : Int) := Int.natCast_nonneg _
  refine Wp.go (mx := true) (fun _ => mixed) [] 100 [] [decide ((i : Int) ≥ (s.length : Int)) = false → 0 ≤ (i : Int) ∧ (i : Int) < (s.length : Int), cond (decide ((i : Int) ≥ (s.length : Int))) true (decide (((s.getD i 0).toNat : Int) < 128)) = false → 0 ≤ (i : Int) ∧ (i : Int) < (s.length : Int)] (by kernel_rfl) (by kernel_rfl) (by kernel_rfl) ⟨fun h => by simp at h; omega, fun h => by cases h1 : decide ((i : Int) ≥ (s.length : Int)) with | true => rw [h1] at h; cases h | false => simp at h1; omega⟩ ?_
  refine Wp.cond' (by kernel_rfl) (moreB s i) (by kernel_rfl) (fun h => ?_) (fun h => ?_)
  · refine Wp.go (mx := true) (fun _ => mixed) [] 100 [] [] (by kernel_rfl) (by kernel_rfl) (by kernel_rfl) trivial ?_
    refine Wp.ret' (by kernel_rfl) ?_
    exact FinQ.pure (rs' := [.c (.int .i64 (-1))]) (by kernel_rfl) (by unfold moreT; rw [if_pos h]) (by kernel_rfl)
  · have hi2 : (i : Int) < (s.length : Int) := by
      unfold moreB at h
      cases h1 : decide ((i : Int) ≥ (s.length : Int)) with
      | true => rw [h1] at h; cases h
      | false => simp at h1; omega
    refine Wp.go (mx := true) (fun _ => mixed) [] 100 [] [0 ≤ (i : Int) ∧ (i : Int) < (s.length : Int), inR .i64 (IntKind.i64.wrap ((s.getD i 0).toNat : Int) - 128)] (by kernel_rfl) (by kernel_rfl) (by kernel_rfl) ⟨⟨by omega, hi2⟩, by rw [wrap64 (by omega) (by omega)]; exact inR64 (by omega) (by omega)⟩ ?_
    refine Wp.ret' (by kernel_rfl) ?_
    exact FinQ.pure (rs' := [.c (.int .i64 (IntKind.i64.wrap ((s.getD i 0).toNat : Int) - 128))]) (by kernel_rfl) (by unfold moreT; rw [if_neg (by simp [h]), wrap64 (by omega) (by omega)]) (by kernel_rfl)

theorem more_rng (s : List UInt8) (i : Nat) : -1 ≤ moreT s i ∧ moreT s i ≤ 63 := by
  have := more_cases s i
  simp only at this
  rcases this with ⟨_, _, h⟩ | ⟨_, h⟩ <;> omega

theorem first_gen (s : List UInt8) (hl : 0 < s.length) (c a b d : Int) (hc : c = ((s.getD 0 0).toNat : Int)) (a1 : -1 ≤ a) (a2 : a ≤ 63) (b1 : -1 ≤ b) (b2 : b ≤ 63) (d1 : -1 ≤ d) (d2 : d ≤ 63)
    (ca : Pur Tryd.prog G 61 [.c (.str s), .c (.int .i64 1)] [.c (.int .i64 a)]) (cb : Pur Tryd.prog G 61 [.c (.str s), .c (.int .i64 2)] [.c (.int .i64 b)])
    (cd : Pur Tryd.prog G 61 [.c (.str s), .c (.int .i64 3)] [.c (.int .i64 d)]) :
    Pur Tryd.prog G 54 [.c (.str s)] [.c (.int .i64 (firstT c a b d).1), .c (.int .i64 (firstT c a b d).2)] := by
  have hb := byte_lt s 0
  have h0 : 0 ≤ ((s.getD 0 0).toNat : Int) := Int.natCast_nonneg _
  have ew : IntKind.i64.wrap ((s.getD 0 0).toNat : Int) = c := by rw [hc]; exact wrap64 (by omega) (by omega)
  have c1 : 0 ≤ c := by omega
  have c2 : c < 256 := by omega
  refine Pur.of Tryd.func54 (by kernel_rfl) (by kernel_rfl) (by kernel_rfl) ?_
  refine Wp.go (mx := true) (fun _ => mixed) [(1, {fm := [(2, .c (.int .i64 c))]}), (2, {cs := [(1, pc ca), (3, pc cb), (5, pc cd)]})] 100 [] [0 ≤ (0 : Int) ∧ (0 : Int) < (s.length : Int), EqvI (.c (.int .i64 (IntKind.i64.wrap ((s.getD 0 0).toNat : Int)))) (.c (.int .i64 c)), EqvD (.c (.int .i64 (IntKind.i64.wrap ((s.getD 0 0).toNat : Int)))) (.c (.int .i64 c))] (by kernel_rfl) (by kernel_rfl) (by kernel_rfl) ⟨⟨by omega, by omega⟩, fun _ _ => trivial, by rw [ew]; exact fun _ _ _ h => h⟩ ?_
  unfold firstT
  refine Wp.cond' (by kernel_rfl) (decide (c < 128)) (by kernel_rfl) (fun h => ?_) (fun h => ?_)
  · have p1 : c < 128 := by simpa using h
    refine Wp.go (mx := true) (fun _ => mixed) [] 100 [] [] (by kernel_rfl) (by kernel_rfl) (by kernel_rfl) trivial ?_
    refine Wp.ret' (by kernel_rfl) ?_
    exact FinQ.pure (rs' := [.c (.int .i64 c), .c (.int .i64 1)]) (by kernel_rfl) (by rw [if_pos p1]) (by kernel_rfl)
  have p1 : ¬ c < 128 := by simpa using h
  refine Wp.go (mx := true) (fun _ => mixed) [] 100 [] [] (by kernel_rfl) (by kernel_rfl) (by kernel_rfl) trivial ?_
  refine Wp.cond' (by kernel_rfl) (fB1 c a) (by kernel_rfl) (fun h => ?_) (fun h => ?_)
  · refine Wp.go (mx := true) (fun _ => mixed) [] 100 [] [inR .i64 (c - 192), inR .i64 ((c - 192) * 64), inR .i64 ((c - 192) * 64 + a)] (by kernel_rfl) (by kernel_rfl) (by kernel_rfl) ⟨inR64 (by omega) (by omega), inR64 (by omega) (by omega), inR64 (by omega) (by omega)⟩ ?_
    refine Wp.ret' (by kernel_rfl) ?_
    exact FinQ.pure (rs' := [.c (.int .i64 ((c - 192) * 64 + a)), .c (.int .i64 2)]) (by kernel_rfl) (by rw [if_neg p1, if_pos h]) (by kernel_rfl)
  have p2 := h
  refine Wp.go (mx := true) (fun _ => mixed) [] 100 [] [] (by kernel_rfl) (by kernel_rfl) (by kernel_rfl) trivial ?_
  refine Wp.cond' (by kernel_rfl) (fB2 c a b) (by kernel_rfl) (fun h => ?_) (fun h => ?_)
  · have p3 := h
    refine Wp.go (mx := true) (fun _ => mixed) [] 100 [] [inR .i64 (c - 224), inR .i64 ((c - 224) * 4096), inR .i64 (a * 64), inR .i64 ((c - 224) * 4096 + a * 64), inR .i64 ((c - 224) * 4096 + a * 64 + b)] (by kernel_rfl) (by kernel_rfl) (by kernel_rfl) ⟨inR64 (by omega) (by omega), inR64 (by omega) (by omega), inR64 (by omega) (by omega), inR64 (by omega) (by omega), inR64 (by omega) (by omega)⟩ ?_
    refine Wp.cond' (by kernel_rfl) (fC2 (r3 c a b)) (by kernel_rfl) (fun h => ?_) (fun h => ?_)
    · refine Wp.go (mx := true) (fun _ => mixed) [] 100 [] [] (by kernel_rfl) (by kernel_rfl) (by kernel_rfl) trivial ?_
      refine Wp.ret' (by kernel_rfl) ?_
      exact FinQ.pure (rs' := [.c (.int .i64 (r3 c a b)), .c (.int .i64 3)]) (by kernel_rfl) (by rw [if_neg p1, if_neg (by simp [p2]), if_pos p3, if_pos h]) (by kernel_rfl)
    · refine Wp.go (mx := true) (fun _ => mixed) [] 100 [] [] (by kernel_rfl) (by kernel_rfl) (by kernel_rfl) trivial ?_
      refine Wp.ret' (by kernel_rfl) ?_
      exact FinQ.pure (rs' := [.c (.int .i64 65533), .c (.int .i64 1)]) (by kernel_rfl) (by rw [if_neg p1, if_neg (by simp [p2]), if_pos p3, if_neg (by simp [h])]) (by kernel_rfl)
  have p3 := h
  refine Wp.go (mx := true) (fun _ => mixed) [] 100 [] [] (by kernel_rfl) (by kernel_rfl) (by kernel_rfl) trivial ?_
  refine Wp.cond' (by kernel_rfl) (fB3 c a b d) (by kernel_rfl) (fun h => ?_) (fun h => ?_)
  · have p4 := h
    refine Wp.go (mx := true) (fun _ => mixed) [] 100 [] [inR .i64 (c - 240), inR .i64 ((c - 240) * 262144), inR .i64 (a * 4096), inR .i64 ((c - 240) * 262144 + a * 4096), inR .i64 (b * 64), inR .i64 ((c - 240) * 262144 + a * 4096 + b * 64), inR .i64 ((c - 240) * 262144 + a * 4096 + b * 64 + d)] (by kernel_rfl) (by kernel_rfl) (by kernel_rfl) ⟨inR64 (by omega) (by omega), inR64 (by omega) (by omega), inR64 (by omega) (by omega), inR64 (by omega) (by omega), inR64 (by omega) (by omega), inR64 (by omega) (by omega), inR64 (by omega) (by omega)⟩ ?_
    refine Wp.cond' (by kernel_rfl) (fC3 (r4 c a b d)) (by kernel_rfl) (fun h => ?_) (fun h => ?_)
    · refine Wp.go (mx := true) (fun _ => mixed) [] 100 [] [] (by kernel_rfl) (by kernel_rfl) (by kernel_rfl) trivial ?_
      refine Wp.ret' (by kernel_rfl) ?_
      exact FinQ.pure (rs' := [.c (.int .i64 (r4 c a b d)), .c (.int .i64 4)]) (by kernel_rfl) (by rw [if_neg p1, if_neg (by simp [p2]), if_neg (by simp [p3]), if_pos p4, if_pos h]) (by kernel_rfl)
    · refine Wp.go (mx := true) (fun _ => mixed) [] 100 [] [] (by kernel_rfl) (by kernel_rfl) (by kernel_rfl) trivial ?_
      refine Wp.ret' (by kernel_rfl) ?_
      exact FinQ.pure (rs' := [.c (.int .i64 65533), .c (.int .i64 1)]) (by kernel_rfl) (by rw [if_neg p1, if_neg (by simp [p2]), if_neg (by simp [p3]), if_pos p4, if_neg (by simp [h])]) (by kernel_rfl)
  · refine Wp.go (mx := true) (fun _ => mixed) [] 100 [] [] (by kernel_rfl) (by kernel_rfl) (by kernel_rfl) trivial ?_
    refine Wp.ret' (by kernel_rfl) ?_
    exact FinQ.pure (rs' := [.c (.int .i64 65533), .c (.int .i64 1)]) (by kernel_rfl) (by rw [if_neg p1, if_neg (by simp [p2]), if_neg (by simp [p3]), if_neg (by simp [h])]) (by kernel_rfl)

theorem first_ok (s : List UInt8) (hs : s ≠ []) : Pur Tryd.prog G 54 [.c (.str s)] [.c (.int .i64 (runeAt s 0)), .c (.int .i64 (runeW s 0 : Int))] := by
  obtain ⟨r1, r2⟩ := more_rng s 1
  obtain ⟨r3, r4⟩ := more_rng s 2
  obtain ⟨r5, r6⟩ := more_rng s 3
  have := first_gen (G := G) s (List.length_pos_iff.2 hs) _ _ _ _ rfl r1 r2 r3 r4 r5 r6 (more_ok s 1 (by omega)) (more_ok s 2 (by omega)) (more_ok s 3 (by omega))
  rw [first_eq s hs] at this
  exact this

theorem runeW_le (s : List UInt8) (pos : Nat) : runeW s pos ≤ 4 := by
  unfold runeW Utf8.decode
  simp only
  repeat' split
  all_goals (show _ ≤ 4; simp)
theorem rune_drop (s : List UInt8) (pos : Nat) : runeAt (s.drop pos) 0 = runeAt s pos ∧ runeW (s.drop pos) 0 = runeW s pos := by
  unfold runeAt runeW Utf8.decode
  have e1 : (⟨(s.drop pos).toArray⟩ : ByteArray).size = s.length - pos := by rw [size_mk]; simp
  have e2 : (⟨s.toArray⟩ : ByteArray).size = s.length := size_mk s
  have e3 : ∀ k, (s.drop pos).getD k 0 = s.getD (pos + k) 0 := by intro k; simp [List.getD]
  have e4 : ∀ k, decide (0 + k < s.length - pos) = decide (pos + k < s.length) := by intro k; apply decide_eq_decide.2; omega
  simp only [get_mk, e1, e2, e3, Nat.zero_add]
  have e5 : ∀ k, decide (k < s.length - pos) = decide (pos + k < s.length) := by intro k; apply decide_eq_decide.2; omega
  simp only [e5, and_self]

theorem valid6_ok (s : List UInt8) (hm : s.length < 4611686018427387904) : Pur Tryd.prog G 46 [.c (.str s)] [.c (.bool (validT s))] := by
  refine Pur.of Tryd.func46 (by kernel_rfl) (by kernel_rfl) (by kernel_rfl) ?_
  refine Wp.go (mx := true) (fun _ => mixed) [] 100 [] [] (by kernel_rfl) (by kernel_rfl) (by kernel_rfl) trivial ?_
  refine Wp.loopK (by kernel_rfl) (fun (x : Nat × Nat) => ⟨[(0, .v (.c (.str s))), (3, .v (.c (.int .i64 (x.1 : Int))))], [], 0⟩) (fun x => validT s = validN s x.2 x.1 ∧ s.length - x.1 ≤ x.2 ∧ x.1 ≤ s.length + 4) (fun x => x.2) (0, s.length) (Ent.of [] (by kernel_rfl) (by kernel_rfl) (by kernel_rfl) trivial) ⟨rfl, Nat.le_refl _, Nat.zero_le _⟩ ?_
  rintro ⟨pos, n⟩ L ⟨h1, h2, h3⟩ again
  simp only at h1 h2 h3
  refine Wp.go (mx := true) (fun _ => mixed) [] 100 [] [] (by kernel_rfl) (by kernel_rfl) (by kernel_rfl) trivial ?_
  refine Wp.cond' (by kernel_rfl) (decide ((pos : Int) < (s.length : Int))) (by kernel_rfl) (fun h => ?_) (fun h => ?_)
  · have hp : pos < s.length := by simpa using h
    obtain ⟨n, rfl⟩ : ∃ m, n = m + 1 := ⟨n - 1, by omega⟩
    have hne : s.drop pos ≠ [] := by intro e; have := congrArg List.length e; simp at this; omega
    have hw := runeW_pos s pos
    simp only [validN, if_pos hp] at h1
    have hf := first_ok (G := G) (s.drop pos) hne
    rw [(rune_drop s pos).1, (rune_drop s pos).2] at hf
    have hsl : (s.take s.length).drop pos = s.drop pos := by rw [List.take_length]
    refine Wp.go (mx := true) (fun _ => mixed) [(3, {fm := [(2, .c (.str (s.drop pos)))], cs := [(3, pc hf)]})] 100 [] [EqvI (.c (.str ((s.take s.length).drop pos))) (.c (.str (s.drop pos))), EqvD (.c (.str ((s.take s.length).drop pos))) (.c (.str (s.drop pos))), 0 ≤ (pos : Int) ∧ (pos : Int) ≤ (s.length : Int) ∧ (s.length : Int) ≤ (s.length : Int)] (by kernel_rfl) (by kernel_rfl) (by kernel_rfl) ⟨fun _ _ => trivial, by rw [hsl]; exact fun _ _ _ h => h, by omega, by omega, by omega⟩ ?_
    refine Wp.cond' (by kernel_rfl) (runeAt s pos == 65533) (by kernel_rfl) (fun h => ?_) (fun h => ?_)
    · refine Wp.go (mx := true) (fun _ => mixed) [] 100 [] [] (by kernel_rfl) (by kernel_rfl) (by kernel_rfl) trivial ?_
      refine Wp.ret' (by kernel_rfl) ?_
      exact FinQ.pure (rs' := [.c (.bool false)]) (by kernel_rfl) (by rw [h1, if_pos h]) (by kernel_rfl)
    · have hw4 := runeW_le s pos
      refine Wp.go (mx := true) (fun _ => mixed) [] 100 [] [inR .i64 ((pos : Int) + (runeW s pos : Int))] (by kernel_rfl) (by kernel_rfl) (by kernel_rfl) (inR64 (by omega) (by omega)) ?_
      exact Wp.lpK (by kernel_rfl) (again _ (pos + runeW s pos, n) ⟨by rw [h1, if_neg (by simp [h])], by simp only; omega, by simp only; omega⟩ (by simp only; omega) (Ent.of [] (by kernel_rfl) (by kernel_rfl) (by kernel_rfl) trivial))
  · refine Wp.go (mx := true) (fun _ => mixed) [] 100 [] [] (by kernel_rfl) (by kernel_rfl) (by kernel_rfl) trivial ?_
    refine Wp.ret' (by kernel_rfl) ?_
    exact FinQ.pure (rs' := [.c (.bool true)]) (by kernel_rfl) (by rw [h1]; have : ¬ pos < s.length := by { simp at h; omega }; cases n <;> simp [validN, this]) (by kernel_rfl)
end Go.Proofs.Tw
