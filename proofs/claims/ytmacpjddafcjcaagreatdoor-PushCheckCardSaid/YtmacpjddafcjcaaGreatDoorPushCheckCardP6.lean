/- Own texts for this claim: Lw8, D64, Rn, Rt, Ro, Rk, Rm, Rr, Cr, Ca, Ct, Cd. -/
import Derived.Test.YtmacpjddafcjcaaGreatDoorPushCheckCardP5
set_option linter.all false

section
open Go Go.Sv Go.RowKit
namespace Go.Proofs.Tw
set_option maxRecDepth 100000
set_option maxHeartbeats 4000000

theorem rd8_acc : ∀ (r : List UInt8) (v : Int) (bits : Nat) (out : List UInt8), rd8 r v bits out = (rd8 r v bits []).map (out ++ ·)
  | [], _, _, out => by simp [rd8]
  | c :: r, v, bits, out => by
    unfold rd8
    split
    · rfl
    · split
      · exact rd8_acc r _ _ out
      · rw [rd8_acc r _ _ (out ++ _), rd8_acc r _ _ ([] ++ _)]
        cases rd8 r ((v * 64 + sgI c) % 2 ^ (bits - 2)) (bits - 2) [] <;> simp
theorem v3_shift (x y z : UInt8) (o : List UInt8) (g : Nat) : ∀ k, v3 (x :: y :: z :: o) (3 * (g + 1)) k = v3 o (3 * g) k ∧ n3 (x :: y :: z :: o) (3 * (g + 1)) k = n3 o (3 * g) k
  | 0 => ⟨rfl, rfl⟩
  | k + 1 => by
    obtain ⟨h1, h2⟩ := v3_shift x y z o g k
    have e : 3 * (g + 1) + k = (3 * g + k) + 1 + 1 + 1 := by omega
    have e2 : (x :: y :: z :: o).getD (3 * (g + 1) + k) 0 = o.getD (3 * g + k) 0 := by
      rw [e, List.getD_cons_succ, List.getD_cons_succ, List.getD_cons_succ]
    have e3 : 3 * (g + 1) + k < (x :: y :: z :: o).length ↔ 3 * g + k < o.length := by simp only [List.length_cons]; omega
    constructor
    · rw [v3, v3, h1, e2]; simp only [e3]
    · rw [n3, n3, h2]; simp only [e3]
def w3 (x y z : UInt8) : Int := (((0 * 256 + (x.toNat : Int)) * 256 + (y.toNat : Int)) * 256 + (z.toNat : Int))
theorem grp_first (x y z : UInt8) (o : List UInt8) : grp (x :: y :: z :: o) 0 = sgs6 (w3 x y z) 4 := by
  have h1 : v3 (x :: y :: z :: o) (3 * 0) 3 = w3 x y z := by
    rw [v3, if_pos (by simp only [List.length_cons]; omega), v3, if_pos (by simp only [List.length_cons]; omega), v3, if_pos (by simp only [List.length_cons]; omega)]; rfl
  have h2 : n3 (x :: y :: z :: o) (3 * 0) 3 = 3 := by
    rw [n3, if_pos (by simp only [List.length_cons]; omega), n3, if_pos (by simp only [List.length_cons]; omega), n3, if_pos (by simp only [List.length_cons]; omega)]; rfl
  rw [grp, h1, h2]
theorem encG_shift (x y z : UInt8) (o : List UInt8) : ∀ g, encG (x :: y :: z :: o) (g + 1) = sgs6 (w3 x y z) 4 ++ encG o g
  | 0 => by rw [encG, encG, grp_first]; simp [encG]
  | g + 1 => by
    rw [encG, encG_shift x y z o g, encG, List.append_assoc]
    congr 2
    unfold grp
    rw [(v3_shift x y z o g 3).1, (v3_shift x y z o g 3).2]
theorem enc8_step (x y z : UInt8) (o : List UInt8) : enc8 (x :: y :: z :: o) = sgs6 (w3 x y z) 4 ++ enc8 o := by
  unfold enc8
  rw [show ((x :: y :: z :: o).length + 2) / 3 = (o.length + 2) / 3 + 1 by simp only [List.length_cons]; omega, encG_shift]
theorem enc8_two (x y : UInt8) : enc8 [x, y] = sgs6 ((((0 * 256 + (x.toNat : Int)) * 256 + (y.toNat : Int)) * 256)) 3 := by
  unfold enc8
  rw [show ([x, y].length + 2) / 3 = 0 + 1 by simp]
  simp only [encG, grp, List.nil_append]
  rfl
theorem enc8_one (x : UInt8) : enc8 [x] = sgs6 ((((0 * 256 + (x.toNat : Int)) * 256) * 256)) 2 := by
  unfold enc8
  rw [show ([x].length + 2) / 3 = 0 + 1 by simp]
  simp only [encG, grp, List.nil_append]
  rfl
theorem sgn_eq (n : Int) (c : UInt8) (h : 0 ≤ n ∧ n < 64) (hc : 0 ≤ sgI c) : sgs.getD n.toNat 0 = c ↔ n = sgI c := by
  rcases sgI_rng c with h1 | ⟨h1, h2, h3⟩
  · omega
  · constructor
    · intro e
      have := sgI_at n.toNat (by omega)
      rw [e] at this; omega
    · intro e; rw [e]; exact h3
theorem six_rng (v : Int) (k : Nat) : 0 ≤ six v k ∧ six v k < 64 := by unfold six; omega
theorem six_at (v : Int) (k : Nat) : six v k = v / 2 ^ (18 - 6 * k) % 64 := by
  unfold six; rw [Int.fdiv_eq_ediv_of_nonneg _ (Int.le_of_lt (Int.pow_pos (by decide)))]
theorem six0 (v : Int) : six v 0 = v / 262144 % 64 := six_at v 0
theorem six1 (v : Int) : six v 1 = v / 4096 % 64 := six_at v 1
theorem six2 (v : Int) : six v 2 = v / 64 % 64 := six_at v 2
theorem six3 (v : Int) : six v 3 = v % 64 := by rw [six_at]; simp
/-- The bytes of four numbers. -/
def t0 (a b : Int) : Int := a * 4 + b / 16
def t1 (b c : Int) : Int := b % 16 * 16 + c / 4
def t2 (c d : Int) : Int := c % 4 * 64 + d
def u8I (x : Int) : UInt8 := UInt8.ofNat x.toNat
theorem u8I_nat {x : Int} (h : 0 ≤ x ∧ x < 256) : ((u8I x).toNat : Int) = x := u8_of h
theorem sgI_lt (a : UInt8) : sgI a < 64 := by rcases sgI_rng a with h | h <;> omega
section
variable {a b c d : UInt8} (ha : 0 ≤ sgI a) (hb : 0 ≤ sgI b)
include ha hb
theorem rd8_2 (r : List UInt8) : rd8 (a :: b :: r) 0 0 [] = rd8 r ((sgI a * 64 + sgI b) % 16) 4 [u8I (t0 (sgI a) (sgI b))] := by
  have la := sgI_lt a
  have lb := sgI_lt b
  rw [rd8_low ha (by decide), show 0 + 6 = 4 + 2 from rfl, rd8_high hb]
  have e1 : b8 ((0 * 64 + sgI a) * 64 + sgI b) 4 = u8I (t0 (sgI a) (sgI b)) := by
    unfold b8 u8I t0; congr 2; show _ / (16 : Int) = _; omega
  rw [e1]
  congr 1
  show _ % (16 : Int) = _ % 16
  omega
theorem rd8_3 (hc : 0 ≤ sgI c) (r : List UInt8) : rd8 (a :: b :: c :: r) 0 0 [] = rd8 r ((sgI b * 64 + sgI c) % 4) 2 [u8I (t0 (sgI a) (sgI b)), u8I (t1 (sgI b) (sgI c))] := by
  have la := sgI_lt a
  have lb := sgI_lt b
  have lc := sgI_lt c
  rw [rd8_2 ha hb, show 4 = 2 + 2 from rfl, rd8_high hc]
  have e1 : b8 ((sgI a * 64 + sgI b) % 16 * 64 + sgI c) 2 = u8I (t1 (sgI b) (sgI c)) := by
    unfold b8 u8I t1; congr 2; show _ / (4 : Int) = _; omega
  rw [e1]
  congr 1
  show _ % (4 : Int) = _ % 4
  omega
theorem rd8_4 (hc : 0 ≤ sgI c) (hd : 0 ≤ sgI d) (r : List UInt8) : rd8 (a :: b :: c :: d :: r) 0 0 [] = rd8 r 0 0 [u8I (t0 (sgI a) (sgI b)), u8I (t1 (sgI b) (sgI c)), u8I (t2 (sgI c) (sgI d))] := by
  have la := sgI_lt a
  have lb := sgI_lt b
  have lc := sgI_lt c
  have ld := sgI_lt d
  rw [rd8_3 ha hb hc, show 2 = 0 + 2 from rfl, rd8_high hd]
  have e1 : b8 ((sgI b * 64 + sgI c) % 4 * 64 + sgI d) 0 = u8I (t2 (sgI c) (sgI d)) := by
    unfold b8 u8I t2; congr 2; show _ / (1 : Int) = _; omega
  rw [e1]
  congr 1
  show _ % (1 : Int) = _
  omega
end
theorem sgs6_4 (v : Int) : sgs6 v 4 = [sgn6 v 0, sgn6 v 1, sgn6 v 2, sgn6 v 3] := rfl
theorem sgs6_3 (v : Int) : sgs6 v 3 = [sgn6 v 0, sgn6 v 1, sgn6 v 2] := rfl
theorem sgs6_2 (v : Int) : sgs6 v 2 = [sgn6 v 0, sgn6 v 1] := rfl
theorem sgn6_eq (v : Int) (k : Nat) (c : UInt8) (hc : 0 ≤ sgI c) : sgn6 v k = c ↔ six v k = sgI c := sgn_eq _ _ (six_rng v k) hc

/-- Is a group good? -/
def goodG (g : List UInt8) : Bool := g.all (fun c => decide (0 ≤ sgI c)) && (g.length != 1 && qB g)
theorem goodG_of {g : List UInt8} : goodG g = true ↔ sgnAll g ∧ g.length ≠ 1 ∧ qB g = true := by
  unfold goodG sgnAll
  simp only [Bool.and_eq_true, List.all_eq_true, decide_eq_true_eq, bne_iff_ne, ne_eq]
  constructor
  · rintro ⟨h, h1, h2⟩
    refine ⟨fun j hj => ?_, h1, h2⟩
    have : g.getD j 0 ∈ g := by
      rw [List.getD_eq_getElem?_getD, List.getElem?_eq_getElem hj]; exact List.getElem_mem hj
    exact h _ this
  · rintro ⟨h, h1, h2⟩
    refine ⟨fun c hc => ?_, h1, h2⟩
    obtain ⟨j, hj, rfl⟩ := List.mem_iff_getElem.1 hc
    have := h j hj
    rw [List.getD_eq_getElem?_getD, List.getElem?_eq_getElem hj] at this
    exact this
theorem rd8_bad2 : ∀ (r : List UInt8) (v : Int) (bits : Nat) (out : List UInt8), (∃ c ∈ r, sgI c < 0) → rd8 r v bits out = none
  | [], _, _, _, h => by obtain ⟨c, hc, _⟩ := h; cases hc
  | c :: r, v, bits, out, h => by
    unfold rd8
    split
    · rfl
    · have : ∃ c ∈ r, sgI c < 0 := by
        obtain ⟨x, hx, hlt⟩ := h
        rcases List.mem_cons.1 hx with rfl | hx
        · exact absurd hlt (by assumption)
        · exact ⟨x, hx, hlt⟩
      split
      · exact rd8_bad2 r _ _ _ this
      · exact rd8_bad2 r _ _ _ this
theorem bad_in {g : List UInt8} (h : ¬ (g.all (fun c => decide (0 ≤ sgI c)) = true)) : ∃ c ∈ g, sgI c < 0 := by
  simp only [List.all_eq_true, decide_eq_true_eq] at h
  exact Classical.byContradiction fun hn => h fun c hc => Classical.byContradiction fun h2 => hn ⟨c, hc, by omega⟩
/-- One group more. -/
theorem dec8_step (s : List UInt8) (h : 0 < s.length) : dec8 s = if goodG (s.take 4) = true then (dec8 (s.drop 4)).map (outB (s.take 4) ++ ·) else none := by
  by_cases hall : (s.take 4).all (fun c => decide (0 ≤ sgI c)) = true
  · match s, h with
    | [a], _ =>
      have ha : 0 ≤ sgI a := by simpa using hall
      have : goodG [a] = false := by simp [goodG]
      rw [show ([a] : List UInt8).take 4 = [a] from rfl, this]
      unfold dec8
      rw [rd8_low ha (by decide)]
      simp [rd8, enc8, encG]
    | [a, b], _ =>
      have hab : 0 ≤ sgI a ∧ 0 ≤ sgI b := by simpa using hall
      have la := sgI_lt a
      have lb := sgI_lt b
      have e1 : dec8 [a, b] = if enc8 [u8I (t0 (sgI a) (sgI b))] = [a, b] then some [u8I (t0 (sgI a) (sgI b))] else none := by
        unfold dec8; rw [rd8_2 hab.1 hab.2]; rfl
      have hx : 0 ≤ t0 (sgI a) (sgI b) ∧ t0 (sgI a) (sgI b) < 256 := by unfold t0; omega
      have ho : outB [a, b] = [u8I (t0 (sgI a) (sgI b))] := rfl
      have e2 : enc8 [u8I (t0 (sgI a) (sgI b))] = [a, b] ↔ goodG [a, b] = true := by
        rw [enc8_one, sgs6_2, u8I_nat hx, goodG_of]
        simp only [List.cons.injEq, and_true, sgn6_eq _ _ _ hab.1, sgn6_eq _ _ _ hab.2, six0, six1]
        have q : qB [a, b] = ((t0 (sgI a) (sgI b) / 4 == sgI a) && ((t0 (sgI a) (sgI b) % 4 * 16 + 0 / 16 == sgI b) && (((0 : Int) % 16 * 4 + 0 / 64 == 0) && (((0 : Int) % 64 == 0) && true)))) := by
          unfold qB
          rw [ho]
          have : by3 [u8I (t0 (sgI a) (sgI b))] 0 = t0 (sgI a) (sgI b) := u8I_nat hx
          rw [this]; rfl
        rw [q]
        simp only [Bool.and_eq_true, beq_iff_eq, Bool.and_true]
        have sa : sgnAll [a, b] := fun j hj => by
          have : j = 0 ∨ j = 1 := by simp at hj; omega
          rcases this with rfl | rfl
          · exact hab.1
          · exact hab.2
        unfold t0 at hx ⊢
        constructor
        · intro hh; exact ⟨sa, by simp, by omega, by omega, by omega⟩
        · rintro ⟨_, _, h1, h2, _⟩; constructor <;> omega
      rw [show ([a, b] : List UInt8).take 4 = [a, b] from rfl, e1, ho]
      by_cases hg : goodG [a, b] = true
      · rw [if_pos hg, if_pos (e2.2 hg)]; rfl
      · rw [if_neg hg, if_neg (fun h => hg (e2.1 h))]
    | [a, b, c], _ =>
      have hab : 0 ≤ sgI a ∧ 0 ≤ sgI b ∧ 0 ≤ sgI c := by simpa using hall
      obtain ⟨ha, hb, hc⟩ := hab
      have la := sgI_lt a
      have lb := sgI_lt b
      have lc := sgI_lt c
      have e1 : dec8 [a, b, c] = if enc8 [u8I (t0 (sgI a) (sgI b)), u8I (t1 (sgI b) (sgI c))] = [a, b, c] then some [u8I (t0 (sgI a) (sgI b)), u8I (t1 (sgI b) (sgI c))] else none := by
        unfold dec8; rw [rd8_3 ha hb hc]; rfl
      have hx : 0 ≤ t0 (sgI a) (sgI b) ∧ t0 (sgI a) (sgI b) < 256 := by unfold t0; omega
      have hy : 0 ≤ t1 (sgI b) (sgI c) ∧ t1 (sgI b) (sgI c) < 256 := by unfold t1; omega
      have ho : outB [a, b, c] = [u8I (t0 (sgI a) (sgI b)), u8I (t1 (sgI b) (sgI c))] := rfl
      have e2 : enc8 [u8I (t0 (sgI a) (sgI b)), u8I (t1 (sgI b) (sgI c))] = [a, b, c] ↔ goodG [a, b, c] = true := by
        rw [enc8_two, sgs6_3, u8I_nat hx, u8I_nat hy, goodG_of]
        simp only [List.cons.injEq, and_true, sgn6_eq _ _ _ ha, sgn6_eq _ _ _ hb, sgn6_eq _ _ _ hc, six0, six1, six2]
        have q : qB [a, b, c] = ((t0 (sgI a) (sgI b) / 4 == sgI a) && ((t0 (sgI a) (sgI b) % 4 * 16 + t1 (sgI b) (sgI c) / 16 == sgI b) && ((t1 (sgI b) (sgI c) % 16 * 4 + 0 / 64 == sgI c) && (((0 : Int) % 64 == 0) && true)))) := by
          unfold qB
          rw [ho]
          have e1 : by3 [u8I (t0 (sgI a) (sgI b)), u8I (t1 (sgI b) (sgI c))] 0 = t0 (sgI a) (sgI b) := u8I_nat hx
          have e2 : by3 [u8I (t0 (sgI a) (sgI b)), u8I (t1 (sgI b) (sgI c))] 1 = t1 (sgI b) (sgI c) := u8I_nat hy
          rw [e1, e2]; rfl
        rw [q]
        simp only [Bool.and_eq_true, beq_iff_eq, Bool.and_true]
        have sa : sgnAll [a, b, c] := fun j hj => by
          have : j = 0 ∨ j = 1 ∨ j = 2 := by simp at hj; omega
          rcases this with rfl | rfl | rfl
          · exact ha
          · exact hb
          · exact hc
        unfold t0 t1 at *
        constructor
        · intro hh; exact ⟨sa, by simp, by omega, by omega, by omega, by omega⟩
        · rintro ⟨_, _, h1, h2, h3, _⟩; refine ⟨?_, ?_, ?_⟩ <;> omega
      rw [show ([a, b, c] : List UInt8).take 4 = [a, b, c] from rfl, e1, ho]
      by_cases hg : goodG [a, b, c] = true
      · rw [if_pos hg, if_pos (e2.2 hg)]; rfl
      · rw [if_neg hg, if_neg (fun h => hg (e2.1 h))]
    | a :: b :: c :: d :: r, _ =>
      have hab : 0 ≤ sgI a ∧ 0 ≤ sgI b ∧ 0 ≤ sgI c ∧ 0 ≤ sgI d := by simpa using hall
      obtain ⟨ha, hb, hc, hd⟩ := hab
      have la := sgI_lt a
      have lb := sgI_lt b
      have lc := sgI_lt c
      have ld := sgI_lt d
      have hx : 0 ≤ t0 (sgI a) (sgI b) ∧ t0 (sgI a) (sgI b) < 256 := by unfold t0; omega
      have hy : 0 ≤ t1 (sgI b) (sgI c) ∧ t1 (sgI b) (sgI c) < 256 := by unfold t1; omega
      have hz : 0 ≤ t2 (sgI c) (sgI d) ∧ t2 (sgI c) (sgI d) < 256 := by unfold t2; omega
      have ho : outB [a, b, c, d] = [u8I (t0 (sgI a) (sgI b)), u8I (t1 (sgI b) (sgI c)), u8I (t2 (sgI c) (sgI d))] := rfl
      have hg : goodG [a, b, c, d] = true := by
        rw [goodG_of]
        refine ⟨fun j hj => ?_, by simp, ?_⟩
        · have : j = 0 ∨ j = 1 ∨ j = 2 ∨ j = 3 := by simp at hj; omega
          rcases this with rfl | rfl | rfl | rfl
          · exact ha
          · exact hb
          · exact hc
          · exact hd
        · have q : qB [a, b, c, d] = ((t0 (sgI a) (sgI b) / 4 == sgI a) && ((t0 (sgI a) (sgI b) % 4 * 16 + t1 (sgI b) (sgI c) / 16 == sgI b) && ((t1 (sgI b) (sgI c) % 16 * 4 + t2 (sgI c) (sgI d) / 64 == sgI c) && ((t2 (sgI c) (sgI d) % 64 == sgI d) && true)))) := by
            unfold qB
            rw [ho]
            have e1 : by3 [u8I (t0 (sgI a) (sgI b)), u8I (t1 (sgI b) (sgI c)), u8I (t2 (sgI c) (sgI d))] 0 = t0 (sgI a) (sgI b) := u8I_nat hx
            have e2 : by3 [u8I (t0 (sgI a) (sgI b)), u8I (t1 (sgI b) (sgI c)), u8I (t2 (sgI c) (sgI d))] 1 = t1 (sgI b) (sgI c) := u8I_nat hy
            have e3 : by3 [u8I (t0 (sgI a) (sgI b)), u8I (t1 (sgI b) (sgI c)), u8I (t2 (sgI c) (sgI d))] 2 = t2 (sgI c) (sgI d) := u8I_nat hz
            rw [e1, e2, e3]; rfl
          rw [q]
          simp only [Bool.and_eq_true, beq_iff_eq, Bool.and_true]
          unfold t0 t1 t2
          omega
      have hw : sgs6 (w3 (u8I (t0 (sgI a) (sgI b))) (u8I (t1 (sgI b) (sgI c))) (u8I (t2 (sgI c) (sgI d)))) 4 = [a, b, c, d] := by
        rw [w3, u8I_nat hx, u8I_nat hy, u8I_nat hz, sgs6_4]
        simp only [List.cons.injEq, and_true, sgn6_eq _ _ _ ha, sgn6_eq _ _ _ hb, sgn6_eq _ _ _ hc, sgn6_eq _ _ _ hd, six0, six1, six2, six3]
        unfold t0 t1 t2
        omega
      rw [show (a :: b :: c :: d :: r).take 4 = [a, b, c, d] from rfl, show (a :: b :: c :: d :: r).drop 4 = r from rfl, if_pos hg, ho]
      unfold dec8
      rw [rd8_4 ha hb hc hd, rd8_acc]
      cases rd8 r 0 0 [] with
      | none => rfl
      | some o =>
        simp only [Option.map_some]
        rw [show [u8I (t0 (sgI a) (sgI b)), u8I (t1 (sgI b) (sgI c)), u8I (t2 (sgI c) (sgI d))] ++ o = u8I (t0 (sgI a) (sgI b)) :: u8I (t1 (sgI b) (sgI c)) :: u8I (t2 (sgI c) (sgI d)) :: o from rfl, enc8_step, hw]
        have hcons : ([a, b, c, d] ++ enc8 o = a :: b :: c :: d :: r) ↔ enc8 o = r := by simp
        by_cases he : enc8 o = r
        · rw [if_pos (hcons.2 he), if_pos he]; rfl
        · rw [if_neg (fun h => he (hcons.1 h)), if_neg he]; rfl
  · rw [if_neg (fun h => hall (by unfold goodG at h; simp only [Bool.and_eq_true] at h; exact h.1))]
    unfold dec8
    obtain ⟨c, hc, hlt⟩ := bad_in hall
    rw [rd8_bad2 s 0 0 [] ⟨c, List.mem_of_mem_take hc, hlt⟩]
end Go.Proofs.Tw
end

section
open Go Go.Sv Go.RowKit
namespace Go.Proofs.Tw
attribute [local irreducible] Wp FinQ resV Ent Pur Go.Sv.Fn Sat0
set_option maxRecDepth 100000
set_option maxHeartbeats 4000000
variable {G : Nat → Option (List Cell)}

def d64Inv : List UInt8 × Option (Nat × List UInt8) → St
  | (r, none) => ⟨[(0, .v (.c (.str r))), (4, .v (.c .nilsl))], [], 48⟩
  | (r, some (n, l)) => ⟨[(0, .v (.c (.str r))), (4, .v (.c (.row 1 40 0 n)))], [(40, .row 5 1 n (bytesF l))], 48⟩
def d64F (s : List UInt8) : List UInt8 × Option (Nat × List UInt8) → Prop
  | (r, none) => r = s
  | (r, some (n, l)) => n = l.length ∧ 0 < n ∧ n + r.length ≤ s.length ∧ dec8 s = (dec8 r).map (l ++ ·)
theorem take_min4 (r : List UInt8) : List.drop 0 (List.take (min 4 r.length) r) = r.take 4 := by
  rw [List.drop_zero, ← List.take_take, List.take_length]
theorem drop_min4 (r : List UInt8) : List.drop (min 4 r.length) (List.take r.length r) = r.drop 4 := by
  rw [List.take_length]
  by_cases h : 4 ≤ r.length
  · rw [Nat.min_eq_left h]
  · rw [Nat.min_eq_right (by omega), List.drop_length, List.drop_eq_nil_of_le (by omega)]
theorem decR_none {s : List UInt8} (h : dec8 s = none) : decR s = [.c .nilsl, .c (.int .i64 3)] := by unfold decR; rw [h]
theorem decR_some {s o : List UInt8} (h : dec8 s = some o) : decR s = [.c (slB o), .c (.int .i64 0)] := by unfold decR; rw [h]
theorem dec8_nil : dec8 [] = some [] := rfl
theorem part_three (g : List UInt8) (h0 : 0 < g.length) (h4 : g.length ≤ 4) : (goodG g = true ∧ 0 < (outB g).length ∧ (outB g).length < g.length ∧ Pur Tryz.prog G 241 [.c (.str g)] [.c (.sl 1 (outB g).length (bytesF (outB g))), .c (.bool true)]) ∨ (goodG g ≠ true ∧ ∃ c, c.flat = true ∧ Pur Tryz.prog G 241 [.c (.str g)] [.c c, .c (.bool false)]) := by
  by_cases ha : sgnAll g
  · have c := part_good (G := G) g h0 h4 ha
    have hl := outB_len g h4
    unfold partG at c
    rw [← hl] at c
    by_cases h1 : g.length = 1
    · rw [if_pos h1] at c
      exact .inr ⟨fun h => (goodG_of.1 h).2.1 h1, _, rfl, c⟩
    · rw [if_neg h1] at c
      cases hq : qB g
      · rw [hq] at c
        exact .inr ⟨fun h => (by rw [(goodG_of.1 h).2.2] at hq; cases hq), _, rfl, c⟩
      · rw [hq] at c
        exact .inl ⟨goodG_of.2 ⟨ha, h1, hq⟩, by omega, by omega, c⟩
  · exact .inr ⟨fun h => ha (goodG_of.1 h).1, _, rfl, part_bad g h0 h4 ha⟩
theorem dec64_ok (s : List UInt8) (hl : s.length ≤ 30000000000000) : Pur Tryz.prog G 212 [.c (.str s)] (decR s) := by
  refine Pur.of Tryz.func212 (by kernel_rfl) (by kernel_rfl) (by kernel_rfl) ?_
  refine Wp.go (mx := true) (fun _ => mixed) [] 100 [] [] (by kernel_rfl) (by kernel_rfl) (by kernel_rfl) trivial ?_
  refine Wp.loopK (by kernel_rfl) d64Inv (d64F s) (fun x => x.1.length) (s, none) (Ent.of [] (by kernel_rfl) (by kernel_rfl) (by kernel_rfl) trivial) rfl ?_
  rintro ⟨r, _ | ⟨n, l⟩⟩ L hf again
  · obtain rfl : r = s := hf
    by_cases hr : r = []
    · have ht : (!(r == [])) = false := by rw [hr]; rfl
      rw [decR_some (hr ▸ dec8_nil : dec8 r = some [])]
      clear hl
      refine Wp.go (mx := true) (fun _ => mixed) [] 100 [false] [(!r == []) = false] (by kernel_rfl) (by kernel_rfl) (by kernel_rfl) (show (!r == []) = false from (by assumption)) ?_
      refine Wp.ret' (by kernel_rfl) ?_
      exact FinQ.pure (rs' := [V1.c Cell.nilsl, V1.c (Cell.int .i64 (0 : Int))]) (by kernel_rfl) rfl (by kernel_rfl)
    · have ht : (!(r == [])) = true := by simp [hr]
      have h0 : 0 < r.length := List.length_pos_iff.2 hr
      have hst := dec8_step r h0
      have htl : (r.take 4).length = min 4 r.length := List.length_take
      have hdl : (r.drop 4).length = r.length - 4 := List.length_drop
      have e0 : EqvD (.c (.int .i64 (if (r.length : Int) < 4 then (r.length : Int) else 4))) (.c (.int .i64 ((min 4 r.length : Nat) : Int))) := eqvD_of (by
        have : (if (r.length : Int) < 4 then (r.length : Int) else 4) = ((min 4 r.length : Nat) : Int) := by split <;> omega
        rw [this])
      have e1 : EqvD (.c (.str (List.drop 0 (List.take (min 4 r.length) r)))) (.c (.str (r.take 4))) := eqvD_of (by rw [take_min4])
      have e2 : EqvD (.c (.str (List.drop (min 4 r.length) (List.take r.length r)))) (.c (.str (r.drop 4))) := eqvD_of (by rw [drop_min4])
      rcases part_three (G := G) (r.take 4) (by omega) (by omega) with ⟨hg, ho0, ho1, c1⟩ | ⟨hg, c, hc, c1⟩
      · rw [if_pos hg] at hst
        generalize outB (r.take 4) = o at hst ho0 ho1 c1
        have e3 : BlkEqv (.row 5 1 (0 + o.length) (catF 0 (fun _ _ => .nilif) (bytesF o))) (.row 5 1 (0 + o.length) (bytesF o)) := BlkEqv.row_ext rfl fun i hi j hj => rfl
        have hnx : d64F r (r.drop 4, some (0 + o.length, o)) := ⟨by omega, by omega, by omega, hst⟩
        clear hst hr
        refine Wp.go (mx := true) (fun _ => mixed) [(3, {fm := [(2, .c (.int .i64 ((min 4 r.length : Nat) : Int)))]}), (4, {cs := [(3, pc c1)], fm := [(2, .c (.str (r.take 4)))]}), (7, {bs := [(2, Blk.row 5 1 (0 + o.length) (bytesF o))], fm := [(5, .c (.str (r.drop 4)))]})] 100 [true, false] [(!r == []) = true, EqvI (V1.c (Cell.int .i64 (if (↑r.length : Int) < (4 : Int) then (↑r.length : Int) else (4 : Int)))) (V1.c (Cell.int .i64 (↑(min (4 : Nat) r.length) : Int))), EqvD (V1.c (Cell.int .i64 (if (↑r.length : Int) < (4 : Int) then (↑r.length : Int) else (4 : Int)))) (V1.c (Cell.int .i64 (↑(min (4 : Nat) r.length) : Int))), EqvI (V1.c (Cell.str (List.drop (0 : Nat) (List.take (Int.ofNat (min (4 : Nat) r.length)).toNat r)))) (V1.c (Cell.str (List.take (4 : Nat) r))), EqvD (V1.c (Cell.str (List.drop (0 : Nat) (List.take (Int.ofNat (min (4 : Nat) r.length)).toNat r)))) (V1.c (Cell.str (List.take (4 : Nat) r))), (0 : Int) ≤ Int.ofNat (0) ∧ Int.ofNat (0) ≤ Int.ofNat (min (4 : Nat) r.length) ∧ Int.ofNat (min (4 : Nat) r.length) ≤ (↑r.length : Int), (!true) = false, ((0 : Nat) + o.length) * (1 : Nat) ≤ (140737488355328 : Nat), BlkEqv (Blk.row 5 (1 : Nat) ((0 : Nat) + o.length) (catF (0 : Nat) (fun (x x_1 : Nat) => Cell.nilif) (bytesF o))) (Blk.row 5 (1 : Nat) ((0 : Nat) + o.length) (bytesF o)), EqvI (V1.c (Cell.str (List.drop (Int.ofNat (min (4 : Nat) r.length)).toNat (List.take (Int.ofNat r.length).toNat r)))) (V1.c (Cell.str (List.drop (4 : Nat) r))), EqvD (V1.c (Cell.str (List.drop (Int.ofNat (min (4 : Nat) r.length)).toNat (List.take (Int.ofNat r.length).toNat r)))) (V1.c (Cell.str (List.drop (4 : Nat) r))), (0 : Int) ≤ Int.ofNat (min (4 : Nat) r.length) ∧ Int.ofNat (min (4 : Nat) r.length) ≤ Int.ofNat r.length ∧ Int.ofNat r.length ≤ (↑r.length : Int)] (by kernel_rfl) (by kernel_rfl) (by kernel_rfl) ⟨(by assumption), fun _ _ => trivial, (by assumption), fun _ _ => trivial, (by assumption), ⟨(by decide), ⟨(by simp; done), (by simp; omega)⟩⟩, rfl, (by omega), (by assumption), fun _ _ => trivial, (by assumption), ⟨(by simp; done), ⟨(by simp; omega), (by simp; done)⟩⟩⟩ ?_
        exact Wp.lpK (by kernel_rfl) (again _ (r.drop 4, some (0 + o.length, o)) (by assumption) (by simp only; omega) (Ent.of [(40, 352)] (by kernel_rfl) (by kernel_rfl) (by kernel_rfl) trivial))
      · rw [if_neg hg] at hst
        rw [decR_none hst]
        clear hst hr hg
        refine Wp.go (mx := true) (fun _ => mixed) [(3, {fm := [(2, .c (.int .i64 ((min 4 r.length : Nat) : Int)))]}), (4, {cs := [(3, pc c1)], fm := [(2, .c (.str (r.take 4)))]})] 100 [true, true] [(!r == []) = true, EqvI (V1.c (Cell.int .i64 (if (↑r.length : Int) < (4 : Int) then (↑r.length : Int) else (4 : Int)))) (V1.c (Cell.int .i64 (↑(min (4 : Nat) r.length) : Int))), EqvD (V1.c (Cell.int .i64 (if (↑r.length : Int) < (4 : Int) then (↑r.length : Int) else (4 : Int)))) (V1.c (Cell.int .i64 (↑(min (4 : Nat) r.length) : Int))), EqvI (V1.c (Cell.str (List.drop (0 : Nat) (List.take (Int.ofNat (min (4 : Nat) r.length)).toNat r)))) (V1.c (Cell.str (List.take (4 : Nat) r))), EqvD (V1.c (Cell.str (List.drop (0 : Nat) (List.take (Int.ofNat (min (4 : Nat) r.length)).toNat r)))) (V1.c (Cell.str (List.take (4 : Nat) r))), (0 : Int) ≤ Int.ofNat (0) ∧ Int.ofNat (0) ≤ Int.ofNat (min (4 : Nat) r.length) ∧ Int.ofNat (min (4 : Nat) r.length) ≤ (↑r.length : Int), (!false) = true] (by kernel_rfl) (by kernel_rfl) (by kernel_rfl) ⟨(by assumption), fun _ _ => trivial, (by assumption), fun _ _ => trivial, (by assumption), ⟨(by decide), ⟨(by simp; done), (by simp; omega)⟩⟩, rfl⟩ ?_
        refine Wp.ret' (by kernel_rfl) ?_
        exact FinQ.pure (rs' := [V1.c Cell.nilsl, V1.c (Cell.int .i64 (3 : Int))]) (by kernel_rfl) rfl (by kernel_rfl)
  · obtain ⟨hn, hn0, hnl, hq⟩ := hf
    by_cases hr : r = []
    · have ht : (!(r == [])) = false := by rw [hr]; rfl
      rw [hr, dec8_nil] at hq
      have hq : dec8 s = some l := by rw [hq]; simp
      rw [decR_some hq, slB_cons (by omega)]
      clear hl hq
      refine Wp.go (mx := true) (fun _ => mixed) [] 100 [false] [(!r == []) = false] (by kernel_rfl) (by kernel_rfl) (by kernel_rfl) (show (!r == []) = false from (by assumption)) ?_
      refine Wp.ent' (by kernel_rfl) (Ent.pubT (t := 2) (e := 5) (sz := (1 : Nat)) (id := 40) (off := (0 : Nat)) (m := n) (n := n) (f := bytesF l) (m' := l.length) (f' := bytesF l) (by kernel_rfl) (by kernel_rfl) (by omega) (by assumption) (fun i _ j _ => by rw [Nat.zero_add]) rfl) ?_
      refine Wp.ret' (by kernel_rfl) ?_
      exact FinQ.pure (rs' := [V1.c (Cell.sl (1 : Nat) l.length (bytesF l)), V1.c (Cell.int .i64 (0 : Int))]) (by kernel_rfl) rfl (by kernel_rfl)
    · have ht : (!(r == [])) = true := by simp [hr]
      have h0 : 0 < r.length := List.length_pos_iff.2 hr
      have hst := dec8_step r h0
      have htl : (r.take 4).length = min 4 r.length := List.length_take
      have hdl : (r.drop 4).length = r.length - 4 := List.length_drop
      have e0 : EqvD (.c (.int .i64 (if (r.length : Int) < 4 then (r.length : Int) else 4))) (.c (.int .i64 ((min 4 r.length : Nat) : Int))) := eqvD_of (by
        have : (if (r.length : Int) < 4 then (r.length : Int) else 4) = ((min 4 r.length : Nat) : Int) := by split <;> omega
        rw [this])
      have e1 : EqvD (.c (.str (List.drop 0 (List.take (min 4 r.length) r)))) (.c (.str (r.take 4))) := eqvD_of (by rw [take_min4])
      have e2 : EqvD (.c (.str (List.drop (min 4 r.length) (List.take r.length r)))) (.c (.str (r.drop 4))) := eqvD_of (by rw [drop_min4])
      rcases part_three (G := G) (r.take 4) (by omega) (by omega) with ⟨hg, ho0, ho1, c1⟩ | ⟨hg, c, hc, c1⟩
      · rw [if_pos hg] at hst
        generalize outB (r.take 4) = o at hst ho0 ho1 c1
        have e3 : BlkEqv (.row 5 1 (n + o.length) (catF n (bytesF l) (bytesF o))) (.row 5 1 (n + o.length) (bytesF (l ++ o))) := BlkEqv.row_ext rfl fun i hi j hj => by rw [catF_bytes l o hn]
        have hnx : d64F s (r.drop 4, some (n + o.length, l ++ o)) := ⟨by simp [hn], by omega, by omega, by rw [hq, hst]; cases dec8 (r.drop 4) <;> simp⟩
        clear hst hr hq
        refine Wp.go (mx := true) (fun _ => mixed) [(3, {fm := [(2, .c (.int .i64 ((min 4 r.length : Nat) : Int)))]}), (4, {cs := [(3, pc c1)], fm := [(2, .c (.str (r.take 4)))]}), (7, {bs := [(2, Blk.row 5 1 (n + o.length) (bytesF (l ++ o)))], fm := [(5, .c (.str (r.drop 4)))]})] 100 [true, false] [(!r == []) = true, EqvI (V1.c (Cell.int .i64 (if (↑r.length : Int) < (4 : Int) then (↑r.length : Int) else (4 : Int)))) (V1.c (Cell.int .i64 (↑(min (4 : Nat) r.length) : Int))), EqvD (V1.c (Cell.int .i64 (if (↑r.length : Int) < (4 : Int) then (↑r.length : Int) else (4 : Int)))) (V1.c (Cell.int .i64 (↑(min (4 : Nat) r.length) : Int))), EqvI (V1.c (Cell.str (List.drop (0 : Nat) (List.take (Int.ofNat (min (4 : Nat) r.length)).toNat r)))) (V1.c (Cell.str (List.take (4 : Nat) r))), EqvD (V1.c (Cell.str (List.drop (0 : Nat) (List.take (Int.ofNat (min (4 : Nat) r.length)).toNat r)))) (V1.c (Cell.str (List.take (4 : Nat) r))), (0 : Int) ≤ Int.ofNat (0) ∧ Int.ofNat (0) ≤ Int.ofNat (min (4 : Nat) r.length) ∧ Int.ofNat (min (4 : Nat) r.length) ≤ (↑r.length : Int), (!true) = false, (n + o.length) * (1 : Nat) ≤ (140737488355328 : Nat), BlkEqv (Blk.row 5 (1 : Nat) (n + o.length) (catF n (bytesF l) (bytesF o))) (Blk.row 5 (1 : Nat) (n + o.length) (bytesF (l ++ o))), n ≤ n, EqvI (V1.c (Cell.str (List.drop (Int.ofNat (min (4 : Nat) r.length)).toNat (List.take (Int.ofNat r.length).toNat r)))) (V1.c (Cell.str (List.drop (4 : Nat) r))), EqvD (V1.c (Cell.str (List.drop (Int.ofNat (min (4 : Nat) r.length)).toNat (List.take (Int.ofNat r.length).toNat r)))) (V1.c (Cell.str (List.drop (4 : Nat) r))), (0 : Int) ≤ Int.ofNat (min (4 : Nat) r.length) ∧ Int.ofNat (min (4 : Nat) r.length) ≤ Int.ofNat r.length ∧ Int.ofNat r.length ≤ (↑r.length : Int)] (by kernel_rfl) (by kernel_rfl) (by kernel_rfl) ⟨(by assumption), fun _ _ => trivial, (by assumption), fun _ _ => trivial, (by assumption), ⟨(by decide), ⟨(by simp; done), (by simp; omega)⟩⟩, rfl, (by omega), (by assumption), (by omega), fun _ _ => trivial, (by assumption), ⟨(by simp; done), ⟨(by simp; omega), (by simp; done)⟩⟩⟩ ?_
        exact Wp.lpK (by kernel_rfl) (again _ (r.drop 4, some (n + o.length, l ++ o)) (by assumption) (by simp only; omega) (Ent.of [(40, 352)] (by kernel_rfl) (by kernel_rfl) (by kernel_rfl) trivial))
      · rw [if_neg hg] at hst
        have hq : dec8 s = none := by rw [hq, hst]; rfl
        rw [decR_none hq]
        clear hst hr hg hq
        refine Wp.go (mx := true) (fun _ => mixed) [(3, {fm := [(2, .c (.int .i64 ((min 4 r.length : Nat) : Int)))]}), (4, {cs := [(3, pc c1)], fm := [(2, .c (.str (r.take 4)))]})] 100 [true, true] [(!r == []) = true, EqvI (V1.c (Cell.int .i64 (if (↑r.length : Int) < (4 : Int) then (↑r.length : Int) else (4 : Int)))) (V1.c (Cell.int .i64 (↑(min (4 : Nat) r.length) : Int))), EqvD (V1.c (Cell.int .i64 (if (↑r.length : Int) < (4 : Int) then (↑r.length : Int) else (4 : Int)))) (V1.c (Cell.int .i64 (↑(min (4 : Nat) r.length) : Int))), EqvI (V1.c (Cell.str (List.drop (0 : Nat) (List.take (Int.ofNat (min (4 : Nat) r.length)).toNat r)))) (V1.c (Cell.str (List.take (4 : Nat) r))), EqvD (V1.c (Cell.str (List.drop (0 : Nat) (List.take (Int.ofNat (min (4 : Nat) r.length)).toNat r)))) (V1.c (Cell.str (List.take (4 : Nat) r))), (0 : Int) ≤ Int.ofNat (0) ∧ Int.ofNat (0) ≤ Int.ofNat (min (4 : Nat) r.length) ∧ Int.ofNat (min (4 : Nat) r.length) ≤ (↑r.length : Int), (!false) = true] (by kernel_rfl) (by kernel_rfl) (by kernel_rfl) ⟨(by assumption), fun _ _ => trivial, (by assumption), fun _ _ => trivial, (by assumption), ⟨(by decide), ⟨(by simp; done), (by simp; omega)⟩⟩, rfl⟩ ?_
        refine Wp.ret' (by kernel_rfl) ?_
        exact FinQ.pure (rs' := [V1.c Cell.nilsl, V1.c (Cell.int .i64 (3 : Int))]) (by kernel_rfl) rfl (by kernel_rfl)
end Go.Proofs.Tw
end

section
open Go Go.Sv Go.RowKit
namespace Go.Proofs.Tw
attribute [local irreducible] Wp FinQ resV Ent Pur Go.Sv.Fn Sat0
set_option maxRecDepth 100000
set_option maxHeartbeats 4000000
variable {G : Nat → Option (List Cell)}

def beN (b : List UInt8) (p : Nat) : Nat → Int
  | 0 => 0
  | i + 1 => beN b p i * 256 + ((b.getD (p + i) 0).toNat : Int)
theorem beN_rng (b : List UInt8) (p : Nat) : ∀ i, i ≤ 4 → 0 ≤ beN b p i ∧ beN b p i < 256 ^ i
  | 0, _ => ⟨Int.le_refl 0, Int.zero_lt_one⟩
  | k + 1, h => by
    have := beN_rng b p k (by omega)
    have hc := UInt8.toNat_lt (b.getD (p + k) 0)
    have hp : (256 : Int) ^ (k + 1) = 256 ^ k * 256 := Int.pow_succ _ _
    unfold beN; rw [hp]; omega
theorem beN_big (b : List UInt8) (p i : Nat) (h : i ≤ 4) : 0 ≤ beN b p i ∧ beN b p i < 4294967296 := by
  have := beN_rng b p i h
  have : i = 0 ∨ i = 1 ∨ i = 2 ∨ i = 3 ∨ i = 4 := by omega
  rcases this with rfl | rfl | rfl | rfl | rfl <;> simp at * <;> omega
def rB (b : List UInt8) (p : Nat) (l e : Int) : Blk := .box 272 [.sl 1 b.length (bytesF b), .int .i64 (p : Int), .int .i64 l, .int .i64 e]
theorem wrapU (c : UInt8) : EqvD (.c (.int .i64 (IntKind.i64.wrap ((c.toNat : Nat) : Int)))) (.c (.int .i64 (c.toNat : Int))) := eqvD_of (by rw [wrap_b])
theorem numR_ok (b : List UInt8) (p : Nat) (l : Int) (n : Nat) (hb : b.length ≤ 30000000000000) (hn : n ≤ 4) (hp : p + n ≤ b.length) : FnB Tryz.prog G 273 [rB b p l 0] [.c (.ptr 0 0), .c (.int .i64 (n : Int))] [.c (.int .i64 (beN b p n))] [(0, rB b (p + n) l 0)] := by
  refine Fn.of' Tryz.func273 (by kernel_rfl) (by kernel_rfl) (by kernel_rfl) (by kernel_rfl) trivial ?_
  have ht0 : (bif (0 : Int) == 0 then decide ((n : Int) > (b.length : Int) - (p : Int)) else false) = false := by simp; omega
  refine Wp.go (mx := true) (fun _ => mixed) [] 100 [false] [((0 : Int) == (0 : Int)) = true → inR IntKind.i64 ((↑b.length : Int) - (↑p : Int)), (bif (0 : Int) == 0 then decide ((n : Int) > (b.length : Int) - (p : Int)) else false) = false] (by kernel_rfl) (by kernel_rfl) (by kernel_rfl) ⟨fun _ => inR64 (by omega) (by omega), ht0⟩ ?_
  refine Wp.loopK (by kernel_rfl) (fun (k : Nat) => ⟨[(0, TV.v (V1.c (Cell.ptr (0 : Nat) (0 : Nat)))), (1, TV.v (V1.c (Cell.int .i64 (↑n : Int)))), (5, TV.v (V1.c (Cell.int .i64 (beN b p k)))), (6, TV.v (V1.c (Cell.int .i64 (k : Int))))], [(0, rB b p l 0)], 353⟩) (fun k => k ≤ n) (fun k => n - k) 0 (Ent.of [] (by kernel_rfl) (by kernel_rfl) (by kernel_rfl) trivial) (Nat.zero_le _) ?_
  intro k L hk again
  have hr := beN_big b p k (by omega)
  rcases Nat.lt_or_ge k n with hlt | hge
  · have ht1 : (bif decide ((k : Int) < (n : Int)) then (0 : Int) == 0 else false) = true := by rw [decide_eq_true (by omega)]; rfl
    have e1 := wrapU (b.getD (p + k) 0)
    have hc := UInt8.toNat_lt (b.getD (p + k) 0)
    have hr2 := beN_big b p (k + 1) (by omega)
    rw [beN] at hr2
    refine Wp.go (mx := true) (fun _ => mixed) [(7, {fm := [(11, .c (.int .i64 ((p + k : Nat) : Int))), (14, .c (.int .i64 ((b.getD (p + k) 0).toNat : Int)))]})] 100 [true] [(bif decide ((↑k : Int) < (↑n : Int)) then (0 : Int) == (0 : Int) else false) = true, inR IntKind.i64 (beN b p k * (256 : Int)), EqvI (V1.c (Cell.int .i64 ((↑p : Int) + (↑k : Int)))) (V1.c (Cell.int .i64 (↑(p + k) : Int))), EqvD (V1.c (Cell.int .i64 ((↑p : Int) + (↑k : Int)))) (V1.c (Cell.int .i64 (↑(p + k) : Int))), inR IntKind.i64 ((↑p : Int) + (↑k : Int)), (0 : Int) ≤ (↑(p + k) : Int) ∧ (↑(p + k) : Int) < (↑b.length : Int), EqvI (V1.c (Cell.int .i64 (IntKind.i64.wrap (↑(b.getD (p + k) (0 : UInt8)).toNat : Int)))) (V1.c (Cell.int .i64 (↑(b.getD (p + k) (0 : UInt8)).toNat : Int))), EqvD (V1.c (Cell.int .i64 (IntKind.i64.wrap (↑(b.getD (p + k) (0 : UInt8)).toNat : Int)))) (V1.c (Cell.int .i64 (↑(b.getD (p + k) (0 : UInt8)).toNat : Int))), inR IntKind.i64 (beN b p k * (256 : Int) + (↑(b.getD (p + k) (0 : UInt8)).toNat : Int)), inR IntKind.i64 ((↑k : Int) + (1 : Int))] (by kernel_rfl) (by kernel_rfl) (by kernel_rfl) ⟨(by assumption), inR64 (by omega) (by omega), fun _ _ => trivial, fun _ _ _ h => h, inR64 (by omega) (by omega), (by omega), fun _ _ => trivial, (by assumption), inR64 (by omega) (by omega), inR64 (by omega) (by omega)⟩ ?_
    exact Wp.lpK (by kernel_rfl) (again _ (k + 1) (by assumption) (by omega) (Ent.of [] (by kernel_rfl) (by kernel_rfl) (by kernel_rfl) trivial))
  · obtain rfl : k = n := by omega
    have ht1 : (bif decide ((k : Int) < (k : Int)) then (0 : Int) == 0 else false) = false := by rw [decide_eq_false (by omega)]; rfl
    refine Wp.go (mx := true) (fun _ => mixed) [] 100 [false] [(bif decide ((↑k : Int) < (↑k : Int)) then (0 : Int) == (0 : Int) else false) = false, inR IntKind.i64 ((↑p : Int) + (↑k : Int))] (by kernel_rfl) (by kernel_rfl) (by kernel_rfl) ⟨(by assumption), inR64 (by omega) (by omega)⟩ ?_
    refine Wp.ret' (by kernel_rfl) ?_
    exact FinQ.blk [] (by kernel_rfl) (by kernel_rfl) (by kernel_rfl) (by kernel_rfl) (by kernel_rfl) trivial
theorem numR_short (b : List UInt8) (p : Nat) (l : Int) (n : Nat) (hb : b.length ≤ 30000000000000) (hn : n ≤ 4) (h1 : 0 < n) (hpl : p ≤ b.length) (hp : b.length < p + n) : FnB Tryz.prog G 273 [rB b p l 0] [.c (.ptr 0 0), .c (.int .i64 (n : Int))] [.c (.int .i64 0)] [(0, rB b (p + n) l 1)] := by
  refine Fn.of' Tryz.func273 (by kernel_rfl) (by kernel_rfl) (by kernel_rfl) (by kernel_rfl) trivial ?_
  have ht0 : (bif (0 : Int) == 0 then decide ((n : Int) > (b.length : Int) - (p : Int)) else false) = true := by simp; omega
  refine Wp.go (mx := true) (fun _ => mixed) [] 100 [true] [((0 : Int) == (0 : Int)) = true → inR IntKind.i64 ((↑b.length : Int) - (↑p : Int)), (bif (0 : Int) == 0 then decide ((n : Int) > (b.length : Int) - (p : Int)) else false) = true] (by kernel_rfl) (by kernel_rfl) (by kernel_rfl) ⟨fun _ => inR64 (by omega) (by omega), ht0⟩ ?_
  have ht1 : (bif decide ((0 : Int) < (n : Int)) then (1 : Int) == 0 else false) = false := by rw [decide_eq_true (by omega)]; rfl
  refine Wp.loopK (by kernel_rfl) (fun (k : Nat) => ⟨[(0, TV.v (V1.c (Cell.ptr (0 : Nat) (0 : Nat)))), (1, TV.v (V1.c (Cell.int .i64 (↑n : Int)))), (5, TV.v (V1.c (Cell.int .i64 0))), (6, TV.v (V1.c (Cell.int .i64 0)))], [(0, rB b p l 1)], 500⟩) (fun k => True) (fun k => k) 0 (Ent.of [] (by kernel_rfl) (by kernel_rfl) (by kernel_rfl) trivial) trivial ?_
  intro k L _ again
  refine Wp.go (mx := true) (fun _ => mixed) [] 100 [false] [(bif decide ((0 : Int) < (↑n : Int)) then (1 : Int) == (0 : Int) else false) = false, inR IntKind.i64 ((↑p : Int) + (↑n : Int))] (by kernel_rfl) (by kernel_rfl) (by kernel_rfl) ⟨(by assumption), inR64 (by omega) (by omega)⟩ ?_
  refine Wp.ret' (by kernel_rfl) ?_
  exact FinQ.blk [] (by kernel_rfl) (by kernel_rfl) (by kernel_rfl) (by kernel_rfl) (by kernel_rfl) trivial
end Go.Proofs.Tw
end

section
open Go Go.Sv Go.RowKit
namespace Go.Proofs.Tw
attribute [local irreducible] Wp FinQ resV Ent Pur Go.Sv.Fn Sat0
set_option maxRecDepth 100000
set_option maxHeartbeats 4000000
variable {G : Nat → Option (List Cell)}

inductive Tm
  | at_ (s : List UInt8)
  | no (n : Nat)
  | one (k : Int) (t : Tm)
  | two (k : Int) (a b : Tm)
/-- A node of a term as its cells are: also of one that was not read to its end. -/
structure KT where
  k : Int
  n : Int
  s : List UInt8
  m : Nat
  f : Nat → Nat → Cell
def encK (x : KT) : List Cell := [.int .i64 x.k, .int .i64 x.n, .str x.s, .sl 4 x.m x.f]
def KT.nil : KT := ⟨0, 0, [], 0, fun _ _ => .nilif⟩
def toK : Tm → KT
  | .at_ s => ⟨1, 0, s, 0, fun _ _ => .nilif⟩
  | .no n => ⟨2, (n : Int), [], 0, fun _ _ => .nilif⟩
  | .one k t => ⟨k, 0, [], 1, rowF encK .nil [toK t]⟩
  | .two k a b => ⟨k, 0, [], 2, rowF encK .nil [toK a, toK b]⟩
/-- A term that stands at a place (f: how deep it may still go; left: how many nodes it may have). -/
def rdT (b : List UInt8) : Nat → Nat → Nat → Option (Tm × Nat × Nat)
  | 0, _, _ => none
  | f + 1, p, left => if left = 0 then none else if b.length ≤ p then none else
      if (b.getD p 0).toNat = 1 then (if b.length < p + 1 + 2 then none else if 1024 < (beN b (p + 1) 2).toNat then none else if b.length < p + 1 + 2 + (beN b (p + 1) 2).toNat then none
        else some (.at_ ((b.drop (p + 1 + 2)).take (beN b (p + 1) 2).toNat), p + 1 + 2 + (beN b (p + 1) 2).toNat, left - 1))
      else if (b.getD p 0).toNat = 2 then (if b.length < p + 1 + 4 then none else if 1073741824 < (beN b (p + 1) 4).toNat then none else some (.no (beN b (p + 1) 4).toNat, p + 1 + 4, left - 1))
      else if (b.getD p 0).toNat = 3 ∨ (b.getD p 0).toNat = 4 then (match rdT b f (p + 1) (left - 1) with
        | none => none
        | some (t, p1, l1) => some (.one ((b.getD p 0).toNat : Int) t, p1, l1))
      else if (b.getD p 0).toNat = 5 ∨ (b.getD p 0).toNat = 6 ∨ (b.getD p 0).toNat = 7 then (match rdT b f (p + 1) (left - 1) with
        | none => none
        | some (t, p1, l1) => match rdT b f p1 l1 with
          | none => none
          | some (u, p2, l2) => some (.two ((b.getD p 0).toNat : Int) t u, p2, l2))
      else none
theorem rdT_le (b : List UInt8) : ∀ f p left t p' l', rdT b f p left = some (t, p', l') → p' ≤ b.length ∧ l' ≤ left
  | 0, _, _, _, _, _, h => by simp [rdT] at h
  | f + 1, p, left, t, p', l', h => by
    unfold rdT at h
    split at h; · cases h
    split at h; · cases h
    split at h
    · split at h; · cases h
      split at h; · cases h
      split at h; · cases h
      simp only [Option.some.injEq, Prod.mk.injEq] at h
      omega
    split at h
    · split at h; · cases h
      split at h; · cases h
      simp only [Option.some.injEq, Prod.mk.injEq] at h
      omega
    split at h
    · split at h
      · cases h
      · rename_i t1 p1 l1 h1
        have := rdT_le b f _ _ _ _ _ h1
        simp only [Option.some.injEq, Prod.mk.injEq] at h
        omega
    split at h
    · split at h
      · cases h
      · rename_i t1 p1 l1 h1
        have := rdT_le b f _ _ _ _ _ h1
        split at h
        · cases h
        · rename_i t2 p2 l2 h2
          have := rdT_le b f _ _ _ _ _ h2
          simp only [Option.some.injEq, Prod.mk.injEq] at h
          omega
    · cases h
/-- What a reader's node comes to. -/
def rdOut (r : Option (Tm × Nat × Nat)) (x : KT) (p' : Nat) (l' e : Int) : Prop := match r with
  | some (t, p2, l2) => x = toK t ∧ p' = p2 ∧ l' = (l2 : Int) ∧ e = 0
  | none => e ≠ 0
theorem kids_D {k n : Int} {s : List UInt8} {f : Nat → Nat → Cell} : EqvD (.agg [.int .i64 k, .int .i64 n, .str s, .nilsl]) (.agg [.int .i64 k, .int .i64 n, .str s, .sl 4 0 f]) := by
  rintro D ρ u ⟨us, e, hs, h⟩
  refine ⟨us, e, hs, fun j x hj => ?_⟩
  have : j = 0 ∨ j = 1 ∨ j = 2 ∨ j = 3 ∨ 4 ≤ j := by omega
  rcases this with rfl | rfl | rfl | rfl | h4
  · exact h 0 x hj
  · exact h 1 x hj
  · exact h 2 x hj
  · obtain ⟨y, hy, hd⟩ := h 3 _ rfl
    simp only [List.getElem?_cons_succ, List.getElem?_cons_zero, Option.some.injEq] at hj
    subst hj
    exact ⟨y, hy, none, 0, hd, Nat.le_refl _, Nat.zero_le _, .inl ⟨rfl, rfl⟩⟩
  · rw [List.getElem?_eq_none (by simpa using h4)] at hj; cases hj
theorem kids_I {k n : Int} {s : List UInt8} {f : Nat → Nat → Cell} : EqvI (.agg [.int .i64 k, .int .i64 n, .str s, .nilsl]) (.agg [.int .i64 k, .int .i64 n, .str s, .sl 4 0 f]) := by
  rintro S h j x hj
  have : j = 0 ∨ j = 1 ∨ j = 2 ∨ j = 3 ∨ 4 ≤ j := by omega
  rcases this with rfl | rfl | rfl | rfl | h4
  · exact h 0 x hj
  · exact h 1 x hj
  · exact h 2 x hj
  · simp only [List.getElem?_cons_succ, List.getElem?_cons_zero, Option.some.injEq] at hj
    subst hj; trivial
  · rw [List.getElem?_eq_none (by simpa using h4)] at hj; cases hj
theorem num1 (b : List UInt8) (p : Nat) (l : Int) (hb : b.length ≤ 30000000000000) (hp : p < b.length) {k : Nat} (hk : (b.getD p 0).toNat = k) : FnB Tryz.prog G 273 [rB b p l 0] [.c (.ptr 0 0), .c (.int .i64 1)] [.c (.int .i64 (k : Int))] [(0, rB b (p + 1) l 0)] := by
  have := numR_ok (G := G) b p l 1 hb (by decide) hp
  rw [show beN b p 1 = (k : Int) by rw [← hk]; simp [beN]] at this
  exact this
theorem numN (b : List UInt8) (p : Nat) (l : Int) (n : Nat) (hb : b.length ≤ 30000000000000) (hn : n ≤ 4) (hp : p + n ≤ b.length) : FnB Tryz.prog G 273 [rB b p l 0] [.c (.ptr 0 0), .c (.int .i64 (n : Int))] [.c (.int .i64 ((beN b p n).toNat : Int))] [(0, rB b (p + n) l 0)] := by
  have := numR_ok (G := G) b p l n hb hn hp
  rw [show beN b p n = ((beN b p n).toNat : Int) by have := beN_big b p n hn; omega] at this
  exact this
theorem node_deep (b : List UInt8) (f p l : Nat) (hf : f ≤ 16) (hl2 : l ≤ 64) (h0 : f = 0 ∨ l = 0) : FnB Tryz.prog G 260 [rB b p l 0] [.c (.ptr 0 0), .c (.int .i64 (17 - (f : Int)))] [.agg (encK ⟨0, 0, [], 0, fun _ _ => .nilif⟩)] [(0, rB b p l 4)] := by
  refine Fn.of' Tryz.func260 (by kernel_rfl) (by kernel_rfl) (by kernel_rfl) (by kernel_rfl) trivial ?_
  have ht0 : (bif (0 : Int) == 0 then bif decide ((l : Int) < 1) then true else decide (17 - (f : Int) > 16) else false) = true := by
    rcases h0 with rfl | rfl
    · cases decide ((l : Int) < 1) <;> rfl
    · rfl
  have eD := @kids_D 0 0 [] (fun _ _ => .nilif)
  have eI := @kids_I 0 0 [] (fun _ _ => .nilif)
  refine Wp.go (mx := true) (fun _ => mixed) [(5, {fm := [(0, .agg [.int .i64 0, .int .i64 0, .str [], .sl 4 0 (fun _ _ => .nilif)])]})] 100 [true, true] [(bif (0 : Int) == (0 : Int) then bif decide ((↑l : Int) < (1 : Int)) then true else decide ((17 : Int) - (↑f : Int) > (16 : Int)) else false) = true, ((4 : Int) != (0 : Int)) = true, EqvI (V1.agg [Cell.int .i64 (0 : Int), Cell.int .i64 (0 : Int), Cell.str [], Cell.nilsl]) (V1.agg [Cell.int .i64 (0 : Int), Cell.int .i64 (0 : Int), Cell.str [], Cell.sl (4 : Nat) (0 : Nat) fun (x x_1 : Nat) => Cell.nilif]), EqvD (V1.agg [Cell.int .i64 (0 : Int), Cell.int .i64 (0 : Int), Cell.str [], Cell.nilsl]) (V1.agg [Cell.int .i64 (0 : Int), Cell.int .i64 (0 : Int), Cell.str [], Cell.sl (4 : Nat) (0 : Nat) fun (x x_1 : Nat) => Cell.nilif])] (by kernel_rfl) (by kernel_rfl) (by kernel_rfl) ⟨(by assumption), rfl, eqvI_flat _ _ (by kernel_rfl), (show EqvD (V1.agg [Cell.int .i64 (0 : Int), Cell.int .i64 (0 : Int), Cell.str [], Cell.nilsl]) (V1.agg [Cell.int .i64 (0 : Int), Cell.int .i64 (0 : Int), Cell.str [], Cell.sl (4 : Nat) (0 : Nat) fun (x x_1 : Nat) => Cell.nilif]) from (by assumption))⟩ ?_
  refine Wp.ret' (by kernel_rfl) ?_
  exact FinQ.blk [] (by kernel_rfl) (by kernel_rfl) (by kernel_rfl) (by kernel_rfl) (by kernel_rfl) trivial
theorem node_short (b : List UInt8) (hb : b.length ≤ 30000000000000) (f p l : Nat) (hf : f < 16) (hl : 0 < l) (hl2 : l ≤ 64) (hp : p = b.length) : FnB Tryz.prog G 260 [rB b p l 0] [.c (.ptr 0 0), .c (.int .i64 (17 - ((f + 1 : Nat) : Int)))] [.agg (encK ⟨0, 0, [], 0, fun _ _ => .nilif⟩)] [(0, rB b (p + 1) ((l : Int) - 1) 1)] := by
  refine Fn.of' Tryz.func260 (by kernel_rfl) (by kernel_rfl) (by kernel_rfl) (by kernel_rfl) trivial ?_
  have ht0 : (bif (0 : Int) == 0 then bif decide ((l : Int) < 1) then true else decide (17 - ((f + 1 : Nat) : Int) > 16) else false) = false := by rw [decide_eq_false (by omega), decide_eq_false (by omega)]; rfl
  have c1 := numR_short (G := G) b p ((l : Int) - 1) 1 hb (by decide) (by decide) (by omega) (by omega)
  have eD := @kids_D 0 0 [] (fun _ _ => .nilif)
  have eI := @kids_I 0 0 [] (fun _ _ => .nilif)
  refine Wp.go (mx := true) (fun _ => mixed) [(36, {fm := [(0, .agg [.int .i64 0, .int .i64 0, .str [], .sl 4 0 (fun _ _ => .nilif)])]}), (7, {cs := [(1, cb [0] c1)]})] 100 [false, false, false, false, false, false, false, false, false, false] [(bif (0 : Int) == (0 : Int) then bif decide ((↑l : Int) < (1 : Int)) then true else decide ((17 : Int) - (↑(f + (1 : Nat)) : Int) > (16 : Int)) else false) = false, ((0 : Int) != (0 : Int)) = false, inR IntKind.i64 ((↑l : Int) - (1 : Int)), ((0 : Int) == (1 : Int)) = false, ((0 : Int) == (2 : Int)) = false, ((0 : Int) == (3 : Int)) = false, ((0 : Int) == (4 : Int)) = false, ((0 : Int) == (5 : Int)) = false, ((0 : Int) == (6 : Int)) = false, ((0 : Int) == (7 : Int)) = false, ((1 : Int) == (0 : Int)) = false] (by kernel_rfl) (by kernel_rfl) (by kernel_rfl) ⟨(by assumption), rfl, inR64 (by omega) (by omega), rfl, rfl, rfl, rfl, rfl, rfl, rfl, rfl⟩ ?_
  refine Wp.loopK (by kernel_rfl) (fun (k : Nat) => ⟨[(0, TV.v (V1.c (Cell.ptr (0 : Nat) (0 : Nat)))), (1, TV.v (V1.c (Cell.int .i64 ((17 : Int) - (↑(f + (1 : Nat)) : Int))))), (4, TV.v (V1.c (Cell.ptr 1 (0 : Nat)))), (5, TV.v (V1.c (Cell.ptr (289 : Nat) (0 : Nat)))), (6, TV.v (V1.c (Cell.int .i64 (0 : Int)))), (8, TV.v (V1.c (Cell.int .i64 (0 : Int))))], [(1, Blk.box 117 [Cell.int .i64 (0 : Int), Cell.int .i64 (0 : Int), Cell.str [], Cell.nilsl]), (289, Blk.box 117 [Cell.int .i64 (0 : Int), Cell.int .i64 (0 : Int), Cell.str [], Cell.nilsl]), (0, Blk.box 272 [Cell.sl (1 : Nat) b.length (bytesF b), Cell.int .i64 (↑(p + (1 : Nat)) : Int), Cell.int .i64 ((↑l : Int) - (1 : Int)), Cell.int .i64 (1 : Int)])], 961⟩) (fun _ => True) (fun k => k) 0 (Ent.of [(1, 1), (289, 289)] (by kernel_rfl) (by kernel_rfl) (by kernel_rfl) trivial) trivial ?_
  intro k L hk again
  refine Wp.go (mx := true) (fun _ => mixed) [(36, {fm := [(0, .agg [.int .i64 0, .int .i64 0, .str [], .sl 4 0 (fun _ _ => .nilif)])]})] 100 [false] [(bif decide ((0 : Int) < (0 : Int)) then (1 : Int) == (0 : Int) else false) = false, EqvI (V1.agg [Cell.int .i64 (0 : Int), Cell.int .i64 (0 : Int), Cell.str [], Cell.nilsl]) (V1.agg [Cell.int .i64 (0 : Int), Cell.int .i64 (0 : Int), Cell.str [], Cell.sl (4 : Nat) (0 : Nat) fun (x x_1 : Nat) => Cell.nilif]), EqvD (V1.agg [Cell.int .i64 (0 : Int), Cell.int .i64 (0 : Int), Cell.str [], Cell.nilsl]) (V1.agg [Cell.int .i64 (0 : Int), Cell.int .i64 (0 : Int), Cell.str [], Cell.sl (4 : Nat) (0 : Nat) fun (x x_1 : Nat) => Cell.nilif])] (by kernel_rfl) (by kernel_rfl) (by kernel_rfl) ⟨rfl, eqvI_flat _ _ (by kernel_rfl), (show EqvD (V1.agg [Cell.int .i64 (0 : Int), Cell.int .i64 (0 : Int), Cell.str [], Cell.nilsl]) (V1.agg [Cell.int .i64 (0 : Int), Cell.int .i64 (0 : Int), Cell.str [], Cell.sl (4 : Nat) (0 : Nat) fun (x x_1 : Nat) => Cell.nilif]) from (by assumption))⟩ ?_
  refine Wp.ret' (by kernel_rfl) ?_
  exact FinQ.blk [] (by kernel_rfl) (by kernel_rfl) (by kernel_rfl) (by kernel_rfl) (by kernel_rfl) trivial
theorem node_a1 (b : List UInt8) (hb : b.length ≤ 30000000000000) (f p l : Nat) (hf : f < 16) (hl : 0 < l) (hl2 : l ≤ 64) (hp : p < b.length) (hk : (b.getD p 0).toNat = 1) (h2 : b.length < p + 1 + 2) : FnB Tryz.prog G 260 [rB b p l 0] [.c (.ptr 0 0), .c (.int .i64 (17 - ((f + 1 : Nat) : Int)))] [.agg (encK ⟨1, 0, [], 0, fun _ _ => .nilif⟩)] [(0, rB b (p + 1 + 2) ((l : Int) - 1) 1)] := by
  refine Fn.of' Tryz.func260 (by kernel_rfl) (by kernel_rfl) (by kernel_rfl) (by kernel_rfl) trivial ?_
  have ht0 : (bif (0 : Int) == 0 then bif decide ((l : Int) < 1) then true else decide (17 - ((f + 1 : Nat) : Int) > 16) else false) = false := by rw [decide_eq_false (by omega), decide_eq_false (by omega)]; rfl
  have c1 := num1 (G := G) b p ((l : Int) - 1) hb hp hk
  have c2 := numR_short (G := G) b (p + 1) ((l : Int) - 1) 2 hb (by decide) (by decide) (by omega) h2
  have eD := @kids_D 1 0 [] (fun _ _ => .nilif)
  have eI := @kids_I 1 0 [] (fun _ _ => .nilif)
  refine Wp.go (mx := true) (fun _ => mixed) [(36, {fm := [(0, .agg [.int .i64 1, .int .i64 0, .str [], .sl 4 0 (fun _ _ => .nilif)])]}), (7, {cs := [(1, cb [0] c1)]}), (13, {cs := [(1, cb [0] c2)]})] 100 [false, false, true, false, false, false] [(bif (0 : Int) == (0 : Int) then bif decide ((↑l : Int) < (1 : Int)) then true else decide ((17 : Int) - (↑(f + (1 : Nat)) : Int) > (16 : Int)) else false) = false, ((0 : Int) != (0 : Int)) = false, inR IntKind.i64 ((↑l : Int) - (1 : Int)), ((↑(1 : Nat) : Int) == (1 : Int)) = true, (bif (1 : Int) == (0 : Int) then decide ((0 : Int) > (1024 : Int)) else false) = false, ((1 : Int) == (0 : Int)) = true → inR IntKind.i64 ((↑b.length : Int) - (↑(p + (1 : Nat) + (2 : Nat)) : Int)), (bif (1 : Int) == (0 : Int) then decide ((0 : Int) > (↑b.length : Int) - (↑(p + (1 : Nat) + (2 : Nat)) : Int)) else false) = false, ((1 : Int) == (0 : Int)) = false] (by kernel_rfl) (by kernel_rfl) (by kernel_rfl) ⟨(by assumption), rfl, inR64 (by omega) (by omega), rfl, rfl, (fun _ => inR64 (by omega) (by omega)), rfl, rfl⟩ ?_
  refine Wp.loopK (by kernel_rfl) (fun (k : Nat) => ⟨[(0, TV.v (V1.c (Cell.ptr (0 : Nat) (0 : Nat)))), (1, TV.v (V1.c (Cell.int .i64 ((17 : Int) - (↑(f + (1 : Nat)) : Int))))), (4, TV.v (V1.c (Cell.ptr 1 (0 : Nat)))), (5, TV.v (V1.c (Cell.ptr (289 : Nat) (0 : Nat)))), (6, TV.v (V1.c (Cell.int .i64 (0 : Int)))), (8, TV.v (V1.c (Cell.int .i64 (0 : Int))))], [(1, Blk.box 117 [Cell.int .i64 (0 : Int), Cell.int .i64 (0 : Int), Cell.str [], Cell.nilsl]), (289, Blk.box 117 [Cell.int .i64 (↑(1 : Nat) : Int), Cell.int .i64 (0 : Int), Cell.str [], Cell.nilsl]), (0, Blk.box 272 [Cell.sl (1 : Nat) b.length (bytesF b), Cell.int .i64 (↑(p + (1 : Nat) + (2 : Nat)) : Int), Cell.int .i64 ((↑l : Int) - (1 : Int)), Cell.int .i64 (1 : Int)])], 1265⟩) (fun _ => True) (fun k => k) 0 (Ent.of [(1, 1), (289, 289)] (by kernel_rfl) (by kernel_rfl) (by kernel_rfl) trivial) trivial ?_
  intro k L hk again
  refine Wp.go (mx := true) (fun _ => mixed) [(36, {fm := [(0, .agg [.int .i64 1, .int .i64 0, .str [], .sl 4 0 (fun _ _ => .nilif)])]})] 100 [false] [(bif decide ((0 : Int) < (0 : Int)) then (1 : Int) == (0 : Int) else false) = false, EqvI (V1.agg [Cell.int .i64 (↑(1 : Nat) : Int), Cell.int .i64 (0 : Int), Cell.str [], Cell.nilsl]) (V1.agg [Cell.int .i64 (1 : Int), Cell.int .i64 (0 : Int), Cell.str [], Cell.sl (4 : Nat) (0 : Nat) fun (x x_1 : Nat) => Cell.nilif]), EqvD (V1.agg [Cell.int .i64 (↑(1 : Nat) : Int), Cell.int .i64 (0 : Int), Cell.str [], Cell.nilsl]) (V1.agg [Cell.int .i64 (1 : Int), Cell.int .i64 (0 : Int), Cell.str [], Cell.sl (4 : Nat) (0 : Nat) fun (x x_1 : Nat) => Cell.nilif])] (by kernel_rfl) (by kernel_rfl) (by kernel_rfl) ⟨rfl, eqvI_flat _ _ (by kernel_rfl), (show EqvD (V1.agg [Cell.int .i64 (↑(1 : Nat) : Int), Cell.int .i64 (0 : Int), Cell.str [], Cell.nilsl]) (V1.agg [Cell.int .i64 (1 : Int), Cell.int .i64 (0 : Int), Cell.str [], Cell.sl (4 : Nat) (0 : Nat) fun (x x_1 : Nat) => Cell.nilif]) from (by assumption))⟩ ?_
  refine Wp.ret' (by kernel_rfl) ?_
  exact FinQ.blk [] (by kernel_rfl) (by kernel_rfl) (by kernel_rfl) (by kernel_rfl) (by kernel_rfl) trivial
theorem node_a2 (b : List UInt8) (hb : b.length ≤ 30000000000000) (f p l : Nat) (hf : f < 16) (hl : 0 < l) (hl2 : l ≤ 64) (hp : p < b.length) (hk : (b.getD p 0).toNat = 1) (h2 : p + 1 + 2 ≤ b.length) {n : Nat} (hn : (beN b (p + 1) 2).toNat = n) (h3 : 1024 < n) : FnB Tryz.prog G 260 [rB b p l 0] [.c (.ptr 0 0), .c (.int .i64 (17 - ((f + 1 : Nat) : Int)))] [.agg (encK ⟨1, 0, [], 0, fun _ _ => .nilif⟩)] [(0, rB b (p + 1 + 2) ((l : Int) - 1) 3)] := by
  refine Fn.of' Tryz.func260 (by kernel_rfl) (by kernel_rfl) (by kernel_rfl) (by kernel_rfl) trivial ?_
  have ht0 : (bif (0 : Int) == 0 then bif decide ((l : Int) < 1) then true else decide (17 - ((f + 1 : Nat) : Int) > 16) else false) = false := by rw [decide_eq_false (by omega), decide_eq_false (by omega)]; rfl
  have c1 := num1 (G := G) b p ((l : Int) - 1) hb hp hk
  have c2 := numN (G := G) b (p + 1) ((l : Int) - 1) 2 hb (by decide) h2
  rw [hn] at c2
  have ht1 : (bif (0 : Int) == 0 then decide ((n : Int) > 1024) else false) = true := by rw [decide_eq_true (by omega)]; rfl
  have eD := @kids_D 1 0 [] (fun _ _ => .nilif)
  have eI := @kids_I 1 0 [] (fun _ _ => .nilif)
  refine Wp.go (mx := true) (fun _ => mixed) [(36, {fm := [(0, .agg [.int .i64 1, .int .i64 0, .str [], .sl 4 0 (fun _ _ => .nilif)])]}), (7, {cs := [(1, cb [0] c1)]}), (13, {cs := [(1, cb [0] c2)]})] 100 [false, false, true, true, false, false] [(bif (0 : Int) == (0 : Int) then bif decide ((↑l : Int) < (1 : Int)) then true else decide ((17 : Int) - (↑(f + (1 : Nat)) : Int) > (16 : Int)) else false) = false, ((0 : Int) != (0 : Int)) = false, inR IntKind.i64 ((↑l : Int) - (1 : Int)), ((↑(1 : Nat) : Int) == (1 : Int)) = true, (bif (0 : Int) == (0 : Int) then decide ((↑n : Int) > (1024 : Int)) else false) = true, ((3 : Int) == (0 : Int)) = true → inR IntKind.i64 ((↑b.length : Int) - (↑(p + (1 : Nat) + (2 : Nat)) : Int)), (bif (3 : Int) == (0 : Int) then decide ((↑n : Int) > (↑b.length : Int) - (↑(p + (1 : Nat) + (2 : Nat)) : Int)) else false) = false, ((3 : Int) == (0 : Int)) = false] (by kernel_rfl) (by kernel_rfl) (by kernel_rfl) ⟨(by assumption), rfl, inR64 (by omega) (by omega), rfl, (by assumption), (fun _ => inR64 (by omega) (by omega)), rfl, rfl⟩ ?_
  refine Wp.loopK (by kernel_rfl) (fun (k : Nat) => ⟨[(0, TV.v (V1.c (Cell.ptr (0 : Nat) (0 : Nat)))), (1, TV.v (V1.c (Cell.int .i64 ((17 : Int) - (↑(f + (1 : Nat)) : Int))))), (4, TV.v (V1.c (Cell.ptr 1 (0 : Nat)))), (5, TV.v (V1.c (Cell.ptr (289 : Nat) (0 : Nat)))), (6, TV.v (V1.c (Cell.int .i64 (0 : Int)))), (8, TV.v (V1.c (Cell.int .i64 (0 : Int))))], [(1, Blk.box 117 [Cell.int .i64 (0 : Int), Cell.int .i64 (0 : Int), Cell.str [], Cell.nilsl]), (289, Blk.box 117 [Cell.int .i64 (↑(1 : Nat) : Int), Cell.int .i64 (0 : Int), Cell.str [], Cell.nilsl]), (0, Blk.box 272 [Cell.sl (1 : Nat) b.length (bytesF b), Cell.int .i64 (↑(p + (1 : Nat) + (2 : Nat)) : Int), Cell.int .i64 ((↑l : Int) - (1 : Int)), Cell.int .i64 (3 : Int)])], 1329⟩) (fun _ => True) (fun k => k) 0 (Ent.of [(1, 1), (289, 289)] (by kernel_rfl) (by kernel_rfl) (by kernel_rfl) trivial) trivial ?_
  intro k L hk again
  refine Wp.go (mx := true) (fun _ => mixed) [(36, {fm := [(0, .agg [.int .i64 1, .int .i64 0, .str [], .sl 4 0 (fun _ _ => .nilif)])]})] 100 [false] [(bif decide ((0 : Int) < (0 : Int)) then (3 : Int) == (0 : Int) else false) = false, EqvI (V1.agg [Cell.int .i64 (↑(1 : Nat) : Int), Cell.int .i64 (0 : Int), Cell.str [], Cell.nilsl]) (V1.agg [Cell.int .i64 (1 : Int), Cell.int .i64 (0 : Int), Cell.str [], Cell.sl (4 : Nat) (0 : Nat) fun (x x_1 : Nat) => Cell.nilif]), EqvD (V1.agg [Cell.int .i64 (↑(1 : Nat) : Int), Cell.int .i64 (0 : Int), Cell.str [], Cell.nilsl]) (V1.agg [Cell.int .i64 (1 : Int), Cell.int .i64 (0 : Int), Cell.str [], Cell.sl (4 : Nat) (0 : Nat) fun (x x_1 : Nat) => Cell.nilif])] (by kernel_rfl) (by kernel_rfl) (by kernel_rfl) ⟨rfl, eqvI_flat _ _ (by kernel_rfl), (show EqvD (V1.agg [Cell.int .i64 (↑(1 : Nat) : Int), Cell.int .i64 (0 : Int), Cell.str [], Cell.nilsl]) (V1.agg [Cell.int .i64 (1 : Int), Cell.int .i64 (0 : Int), Cell.str [], Cell.sl (4 : Nat) (0 : Nat) fun (x x_1 : Nat) => Cell.nilif]) from (by assumption))⟩ ?_
  refine Wp.ret' (by kernel_rfl) ?_
  exact FinQ.blk [] (by kernel_rfl) (by kernel_rfl) (by kernel_rfl) (by kernel_rfl) (by kernel_rfl) trivial
theorem node_a3 (b : List UInt8) (hb : b.length ≤ 30000000000000) (f p l : Nat) (hf : f < 16) (hl : 0 < l) (hl2 : l ≤ 64) (hp : p < b.length) (hk : (b.getD p 0).toNat = 1) (h2 : p + 1 + 2 ≤ b.length) {n : Nat} (hn : (beN b (p + 1) 2).toNat = n) (h3 : n ≤ 1024) (h4 : b.length < p + 1 + 2 + n) : FnB Tryz.prog G 260 [rB b p l 0] [.c (.ptr 0 0), .c (.int .i64 (17 - ((f + 1 : Nat) : Int)))] [.agg (encK ⟨1, 0, [], 0, fun _ _ => .nilif⟩)] [(0, rB b (p + 1 + 2) ((l : Int) - 1) 1)] := by
  refine Fn.of' Tryz.func260 (by kernel_rfl) (by kernel_rfl) (by kernel_rfl) (by kernel_rfl) trivial ?_
  have ht0 : (bif (0 : Int) == 0 then bif decide ((l : Int) < 1) then true else decide (17 - ((f + 1 : Nat) : Int) > 16) else false) = false := by rw [decide_eq_false (by omega), decide_eq_false (by omega)]; rfl
  have c1 := num1 (G := G) b p ((l : Int) - 1) hb hp hk
  have c2 := numN (G := G) b (p + 1) ((l : Int) - 1) 2 hb (by decide) h2
  rw [hn] at c2
  have ht1 : (bif (0 : Int) == 0 then decide ((n : Int) > 1024) else false) = false := by rw [decide_eq_false (by omega)]; rfl
  have ht2 : (bif (0 : Int) == 0 then decide ((n : Int) > (b.length : Int) - ((p + 1 + 2 : Nat) : Int)) else false) = true := by rw [decide_eq_true (by omega)]; rfl
  have eD := @kids_D 1 0 [] (fun _ _ => .nilif)
  have eI := @kids_I 1 0 [] (fun _ _ => .nilif)
  refine Wp.go (mx := true) (fun _ => mixed) [(36, {fm := [(0, .agg [.int .i64 1, .int .i64 0, .str [], .sl 4 0 (fun _ _ => .nilif)])]}), (7, {cs := [(1, cb [0] c1)]}), (13, {cs := [(1, cb [0] c2)]})] 100 [false, false, true, false, true, false] [(bif (0 : Int) == (0 : Int) then bif decide ((↑l : Int) < (1 : Int)) then true else decide ((17 : Int) - (↑(f + (1 : Nat)) : Int) > (16 : Int)) else false) = false, ((0 : Int) != (0 : Int)) = false, inR IntKind.i64 ((↑l : Int) - (1 : Int)), ((↑(1 : Nat) : Int) == (1 : Int)) = true, (bif (0 : Int) == (0 : Int) then decide ((↑n : Int) > (1024 : Int)) else false) = false, ((0 : Int) == (0 : Int)) = true → inR IntKind.i64 ((↑b.length : Int) - (↑(p + (1 : Nat) + (2 : Nat)) : Int)), (bif (0 : Int) == (0 : Int) then decide ((↑n : Int) > (↑b.length : Int) - (↑(p + (1 : Nat) + (2 : Nat)) : Int)) else false) = true, ((1 : Int) == (0 : Int)) = false] (by kernel_rfl) (by kernel_rfl) (by kernel_rfl) ⟨(by assumption), rfl, inR64 (by omega) (by omega), rfl, (by assumption), (fun _ => inR64 (by omega) (by omega)), (by assumption), rfl⟩ ?_
  refine Wp.loopK (by kernel_rfl) (fun (k : Nat) => ⟨[(0, TV.v (V1.c (Cell.ptr (0 : Nat) (0 : Nat)))), (1, TV.v (V1.c (Cell.int .i64 ((17 : Int) - (↑(f + (1 : Nat)) : Int))))), (4, TV.v (V1.c (Cell.ptr 1 (0 : Nat)))), (5, TV.v (V1.c (Cell.ptr (289 : Nat) (0 : Nat)))), (6, TV.v (V1.c (Cell.int .i64 (0 : Int)))), (8, TV.v (V1.c (Cell.int .i64 (0 : Int))))], [(1, Blk.box 117 [Cell.int .i64 (0 : Int), Cell.int .i64 (0 : Int), Cell.str [], Cell.nilsl]), (289, Blk.box 117 [Cell.int .i64 (↑(1 : Nat) : Int), Cell.int .i64 (0 : Int), Cell.str [], Cell.nilsl]), (0, Blk.box 272 [Cell.sl (1 : Nat) b.length (bytesF b), Cell.int .i64 (↑(p + (1 : Nat) + (2 : Nat)) : Int), Cell.int .i64 ((↑l : Int) - (1 : Int)), Cell.int .i64 (1 : Int)])], 1329⟩) (fun _ => True) (fun k => k) 0 (Ent.of [(1, 1), (289, 289)] (by kernel_rfl) (by kernel_rfl) (by kernel_rfl) trivial) trivial ?_
  intro k L hk again
  refine Wp.go (mx := true) (fun _ => mixed) [(36, {fm := [(0, .agg [.int .i64 1, .int .i64 0, .str [], .sl 4 0 (fun _ _ => .nilif)])]})] 100 [false] [(bif decide ((0 : Int) < (0 : Int)) then (1 : Int) == (0 : Int) else false) = false, EqvI (V1.agg [Cell.int .i64 (↑(1 : Nat) : Int), Cell.int .i64 (0 : Int), Cell.str [], Cell.nilsl]) (V1.agg [Cell.int .i64 (1 : Int), Cell.int .i64 (0 : Int), Cell.str [], Cell.sl (4 : Nat) (0 : Nat) fun (x x_1 : Nat) => Cell.nilif]), EqvD (V1.agg [Cell.int .i64 (↑(1 : Nat) : Int), Cell.int .i64 (0 : Int), Cell.str [], Cell.nilsl]) (V1.agg [Cell.int .i64 (1 : Int), Cell.int .i64 (0 : Int), Cell.str [], Cell.sl (4 : Nat) (0 : Nat) fun (x x_1 : Nat) => Cell.nilif])] (by kernel_rfl) (by kernel_rfl) (by kernel_rfl) ⟨rfl, eqvI_flat _ _ (by kernel_rfl), (show EqvD (V1.agg [Cell.int .i64 (↑(1 : Nat) : Int), Cell.int .i64 (0 : Int), Cell.str [], Cell.nilsl]) (V1.agg [Cell.int .i64 (1 : Int), Cell.int .i64 (0 : Int), Cell.str [], Cell.sl (4 : Nat) (0 : Nat) fun (x x_1 : Nat) => Cell.nilif]) from (by assumption))⟩ ?_
  refine Wp.ret' (by kernel_rfl) ?_
  exact FinQ.blk [] (by kernel_rfl) (by kernel_rfl) (by kernel_rfl) (by kernel_rfl) (by kernel_rfl) trivial
theorem node_a4 (b : List UInt8) (hb : b.length ≤ 30000000000000) (f p l : Nat) (hf : f < 16) (hl : 0 < l) (hl2 : l ≤ 64) (hp : p < b.length) (hk : (b.getD p 0).toNat = 1) (h2 : p + 1 + 2 ≤ b.length) {n : Nat} (hn : (beN b (p + 1) 2).toNat = n) (h3 : n ≤ 1024) (h4 : p + 1 + 2 + n ≤ b.length) : FnB Tryz.prog G 260 [rB b p l 0] [.c (.ptr 0 0), .c (.int .i64 (17 - ((f + 1 : Nat) : Int)))] [.agg (encK ⟨1, 0, ((b.drop (p + 1 + 2)).take n), 0, fun _ _ => .nilif⟩)] [(0, rB b (p + 1 + 2 + n) ((l : Int) - 1) 0)] := by
  refine Fn.of' Tryz.func260 (by kernel_rfl) (by kernel_rfl) (by kernel_rfl) (by kernel_rfl) trivial ?_
  have ht0 : (bif (0 : Int) == 0 then bif decide ((l : Int) < 1) then true else decide (17 - ((f + 1 : Nat) : Int) > 16) else false) = false := by rw [decide_eq_false (by omega), decide_eq_false (by omega)]; rfl
  have c1 := num1 (G := G) b p ((l : Int) - 1) hb hp hk
  have c2 := numN (G := G) b (p + 1) ((l : Int) - 1) 2 hb (by decide) h2
  rw [hn] at c2
  have ht1 : (bif (0 : Int) == 0 then decide ((n : Int) > 1024) else false) = false := by rw [decide_eq_false (by omega)]; rfl
  have ht2 : (bif (0 : Int) == 0 then decide ((n : Int) > (b.length : Int) - ((p + 1 + 2 : Nat) : Int)) else false) = false := by rw [decide_eq_false (by omega)]; rfl
  have hbl : n = ((b.drop (p + 1 + 2)).take n).length := by rw [List.length_take, List.length_drop]; omega
  have e3 : EqvD (.c (.sl 1 ((((p + 1 + 2 : Nat) : Int) + (n : Int)).toNat - (((p + 1 + 2 : Nat) : Int)).toNat) (fun i j => bytesF b ((((p + 1 + 2 : Nat) : Int)).toNat + i) j))) (.c (.sl 1 n (bytesF ((b.drop (p + 1 + 2)).take n)))) := EqvD.sl (by omega) (fun i hi j hj => by
    show Cell.int .u8 _ = Cell.int .u8 _
    have hi2 : i < n := by omega
    rw [List.getD_eq_getElem?_getD, List.getD_eq_getElem?_getD, List.getElem?_take, if_pos hi2, List.getElem?_drop]; rfl)
  have e4 := areBytes_F ((b.drop (p + 1 + 2)).take n) 0 n
  have e5 : EqvD (.c (.str (byteL (bytesF ((b.drop (p + 1 + 2)).take n)) 0 n))) (.c (.str ((b.drop (p + 1 + 2)).take n))) := eqvD_of (by rw [byteL_F _ hbl])
  have eD := @kids_D 1 0 ((b.drop (p + 1 + 2)).take n) (fun _ _ => .nilif)
  have eI := @kids_I 1 0 ((b.drop (p + 1 + 2)).take n) (fun _ _ => .nilif)
  refine Wp.go (mx := true) (fun _ => mixed) [(19, {fm := [(14, .c (.sl 1 n (bytesF ((b.drop (p + 1 + 2)).take n)))), (15, .c (.str ((b.drop (p + 1 + 2)).take n)))]}), (36, {fm := [(0, .agg [.int .i64 1, .int .i64 0, .str ((b.drop (p + 1 + 2)).take n), .sl 4 0 (fun _ _ => .nilif)])]}), (7, {cs := [(1, cb [0] c1)]}), (13, {cs := [(1, cb [0] c2)]})] 100 [false, false, true, false, false, true] [(bif (0 : Int) == (0 : Int) then bif decide ((↑l : Int) < (1 : Int)) then true else decide ((17 : Int) - (↑(f + (1 : Nat)) : Int) > (16 : Int)) else false) = false, ((0 : Int) != (0 : Int)) = false, inR IntKind.i64 ((↑l : Int) - (1 : Int)), ((↑(1 : Nat) : Int) == (1 : Int)) = true, (bif (0 : Int) == (0 : Int) then decide ((↑n : Int) > (1024 : Int)) else false) = false, ((0 : Int) == (0 : Int)) = true → inR IntKind.i64 ((↑b.length : Int) - (↑(p + (1 : Nat) + (2 : Nat)) : Int)), (bif (0 : Int) == (0 : Int) then decide ((↑n : Int) > (↑b.length : Int) - (↑(p + (1 : Nat) + (2 : Nat)) : Int)) else false) = false, ((0 : Int) == (0 : Int)) = true, inR IntKind.i64 ((↑(p + (1 : Nat) + (2 : Nat)) : Int) + (↑n : Int)), EqvI (V1.c (Cell.sl (1 : Nat) ((Int.ofNat (p + (1 : Nat) + (2 : Nat) + n)).toNat - (Int.ofNat (p + (1 : Nat) + (2 : Nat))).toNat) fun (i j : Nat) => bytesF b ((Int.ofNat (p + (1 : Nat) + (2 : Nat))).toNat + i) j)) (V1.c (Cell.sl (1 : Nat) n (bytesF (List.take n (List.drop (p + (1 : Nat) + (2 : Nat)) b))))), EqvD (V1.c (Cell.sl (1 : Nat) ((Int.ofNat (p + (1 : Nat) + (2 : Nat) + n)).toNat - (Int.ofNat (p + (1 : Nat) + (2 : Nat))).toNat) fun (i j : Nat) => bytesF b ((Int.ofNat (p + (1 : Nat) + (2 : Nat))).toNat + i) j)) (V1.c (Cell.sl (1 : Nat) n (bytesF (List.take n (List.drop (p + (1 : Nat) + (2 : Nat)) b))))), (0 : Int) ≤ Int.ofNat (p + (1 : Nat) + (2 : Nat)) ∧ Int.ofNat (p + (1 : Nat) + (2 : Nat)) ≤ Int.ofNat (p + (1 : Nat) + (2 : Nat) + n) ∧ Int.ofNat (p + (1 : Nat) + (2 : Nat) + n) ≤ (↑b.length : Int), EqvI (V1.c (Cell.str (byteL (bytesF (List.take n (List.drop (p + (1 : Nat) + (2 : Nat)) b))) (0 : Nat) n))) (V1.c (Cell.str (List.take n (List.drop (p + (1 : Nat) + (2 : Nat)) b)))), EqvD (V1.c (Cell.str (byteL (bytesF (List.take n (List.drop (p + (1 : Nat) + (2 : Nat)) b))) (0 : Nat) n))) (V1.c (Cell.str (List.take n (List.drop (p + (1 : Nat) + (2 : Nat)) b)))), areBytes (bytesF (List.take n (List.drop (p + (1 : Nat) + (2 : Nat)) b))) (0 : Nat) n, inR IntKind.i64 ((↑(p + (1 : Nat) + (2 : Nat)) : Int) + (↑n : Int))] (by kernel_rfl) (by kernel_rfl) (by kernel_rfl) ⟨(by assumption), rfl, inR64 (by omega) (by omega), rfl, (by assumption), (fun _ => inR64 (by omega) (by omega)), (by assumption), rfl, inR64 (by omega) (by omega), fun _ _ => trivial, (by assumption), ⟨(by simp; omega), ⟨(by simp; omega), (by simp; omega)⟩⟩, fun _ _ => trivial, (by assumption), (by assumption), inR64 (by omega) (by omega)⟩ ?_
  refine Wp.loopK (by kernel_rfl) (fun (k : Nat) => ⟨[(0, TV.v (V1.c (Cell.ptr (0 : Nat) (0 : Nat)))), (1, TV.v (V1.c (Cell.int .i64 ((17 : Int) - (↑(f + (1 : Nat)) : Int))))), (4, TV.v (V1.c (Cell.ptr 1 (0 : Nat)))), (5, TV.v (V1.c (Cell.ptr (289 : Nat) (0 : Nat)))), (6, TV.v (V1.c (Cell.int .i64 (0 : Int)))), (8, TV.v (V1.c (Cell.int .i64 (0 : Int))))], [(1, Blk.box 117 [Cell.int .i64 (0 : Int), Cell.int .i64 (0 : Int), Cell.str [], Cell.nilsl]), (289, Blk.box 117 [Cell.int .i64 (↑(1 : Nat) : Int), Cell.int .i64 (0 : Int), Cell.str (List.take n (List.drop (p + (1 : Nat) + (2 : Nat)) b)), Cell.nilsl]), (0, Blk.box 272 [Cell.sl (1 : Nat) b.length (bytesF b), Cell.int .i64 ((↑(p + (1 : Nat) + (2 : Nat)) : Int) + (↑n : Int)), Cell.int .i64 ((↑l : Int) - (1 : Int)), Cell.int .i64 (0 : Int)])], 1713⟩) (fun _ => True) (fun k => k) 0 (Ent.of [(1, 1), (289, 289)] (by kernel_rfl) (by kernel_rfl) (by kernel_rfl) trivial) trivial ?_
  intro k L hk again
  refine Wp.go (mx := true) (fun _ => mixed) [(36, {fm := [(0, .agg [.int .i64 1, .int .i64 0, .str ((b.drop (p + 1 + 2)).take n), .sl 4 0 (fun _ _ => .nilif)])]})] 100 [false] [(bif decide ((0 : Int) < (0 : Int)) then (0 : Int) == (0 : Int) else false) = false, EqvI (V1.agg [Cell.int .i64 (↑(1 : Nat) : Int), Cell.int .i64 (0 : Int), Cell.str (List.take n (List.drop (p + (1 : Nat) + (2 : Nat)) b)), Cell.nilsl]) (V1.agg [Cell.int .i64 (1 : Int), Cell.int .i64 (0 : Int), Cell.str (List.take n (List.drop (p + (1 : Nat) + (2 : Nat)) b)), Cell.sl (4 : Nat) (0 : Nat) fun (x x_1 : Nat) => Cell.nilif]), EqvD (V1.agg [Cell.int .i64 (↑(1 : Nat) : Int), Cell.int .i64 (0 : Int), Cell.str (List.take n (List.drop (p + (1 : Nat) + (2 : Nat)) b)), Cell.nilsl]) (V1.agg [Cell.int .i64 (1 : Int), Cell.int .i64 (0 : Int), Cell.str (List.take n (List.drop (p + (1 : Nat) + (2 : Nat)) b)), Cell.sl (4 : Nat) (0 : Nat) fun (x x_1 : Nat) => Cell.nilif])] (by kernel_rfl) (by kernel_rfl) (by kernel_rfl) ⟨rfl, eqvI_flat _ _ (by kernel_rfl), (show EqvD (V1.agg [Cell.int .i64 (↑(1 : Nat) : Int), Cell.int .i64 (0 : Int), Cell.str (List.take n (List.drop (p + (1 : Nat) + (2 : Nat)) b)), Cell.nilsl]) (V1.agg [Cell.int .i64 (1 : Int), Cell.int .i64 (0 : Int), Cell.str (List.take n (List.drop (p + (1 : Nat) + (2 : Nat)) b)), Cell.sl (4 : Nat) (0 : Nat) fun (x x_1 : Nat) => Cell.nilif]) from (by assumption))⟩ ?_
  refine Wp.ret' (by kernel_rfl) ?_
  exact FinQ.blk [] (by kernel_rfl) (by kernel_rfl) (by kernel_rfl) (by kernel_rfl) (by kernel_rfl) trivial
theorem node_n1 (b : List UInt8) (hb : b.length ≤ 30000000000000) (f p l : Nat) (hf : f < 16) (hl : 0 < l) (hl2 : l ≤ 64) (hp : p < b.length) (hk : (b.getD p 0).toNat = 2) (h2 : b.length < p + 1 + 4) : FnB Tryz.prog G 260 [rB b p l 0] [.c (.ptr 0 0), .c (.int .i64 (17 - ((f + 1 : Nat) : Int)))] [.agg (encK ⟨2, 0, [], 0, fun _ _ => .nilif⟩)] [(0, rB b (p + 1 + 4) ((l : Int) - 1) 1)] := by
  refine Fn.of' Tryz.func260 (by kernel_rfl) (by kernel_rfl) (by kernel_rfl) (by kernel_rfl) trivial ?_
  have ht0 : (bif (0 : Int) == 0 then bif decide ((l : Int) < 1) then true else decide (17 - ((f + 1 : Nat) : Int) > 16) else false) = false := by rw [decide_eq_false (by omega), decide_eq_false (by omega)]; rfl
  have c1 := num1 (G := G) b p ((l : Int) - 1) hb hp hk
  have c2 := numR_short (G := G) b (p + 1) ((l : Int) - 1) 4 hb (by decide) (by decide) (by omega) h2
  have eD := @kids_D 2 0 [] (fun _ _ => .nilif)
  have eI := @kids_I 2 0 [] (fun _ _ => .nilif)
  refine Wp.go (mx := true) (fun _ => mixed) [(36, {fm := [(0, .agg [.int .i64 2, .int .i64 0, .str [], .sl 4 0 (fun _ _ => .nilif)])]}), (7, {cs := [(1, cb [0] c1)]}), (22, {cs := [(1, cb [0] c2)]})] 100 [false, false, false, true, false] [(bif (0 : Int) == (0 : Int) then bif decide ((↑l : Int) < (1 : Int)) then true else decide ((17 : Int) - (↑(f + (1 : Nat)) : Int) > (16 : Int)) else false) = false, ((0 : Int) != (0 : Int)) = false, inR IntKind.i64 ((↑l : Int) - (1 : Int)), ((↑(2 : Nat) : Int) == (1 : Int)) = false, ((↑(2 : Nat) : Int) == (2 : Int)) = true, (bif (1 : Int) == (0 : Int) then decide ((0 : Int) > (1073741824 : Int)) else false) = false] (by kernel_rfl) (by kernel_rfl) (by kernel_rfl) ⟨(by assumption), rfl, inR64 (by omega) (by omega), rfl, rfl, rfl⟩ ?_
  refine Wp.loopK (by kernel_rfl) (fun (k : Nat) => ⟨[(0, TV.v (V1.c (Cell.ptr (0 : Nat) (0 : Nat)))), (1, TV.v (V1.c (Cell.int .i64 ((17 : Int) - (↑(f + (1 : Nat)) : Int))))), (4, TV.v (V1.c (Cell.ptr 1 (0 : Nat)))), (5, TV.v (V1.c (Cell.ptr (289 : Nat) (0 : Nat)))), (6, TV.v (V1.c (Cell.int .i64 (0 : Int)))), (8, TV.v (V1.c (Cell.int .i64 (0 : Int))))], [(1, Blk.box 117 [Cell.int .i64 (0 : Int), Cell.int .i64 (0 : Int), Cell.str [], Cell.nilsl]), (289, Blk.box 117 [Cell.int .i64 (↑(2 : Nat) : Int), Cell.int .i64 (0 : Int), Cell.str [], Cell.nilsl]), (0, Blk.box 272 [Cell.sl (1 : Nat) b.length (bytesF b), Cell.int .i64 (↑(p + (1 : Nat) + (4 : Nat)) : Int), Cell.int .i64 ((↑l : Int) - (1 : Int)), Cell.int .i64 (1 : Int)])], 945⟩) (fun _ => True) (fun k => k) 0 (Ent.of [(1, 1), (289, 289)] (by kernel_rfl) (by kernel_rfl) (by kernel_rfl) trivial) trivial ?_
  intro k L hk again
  refine Wp.go (mx := true) (fun _ => mixed) [(36, {fm := [(0, .agg [.int .i64 2, .int .i64 0, .str [], .sl 4 0 (fun _ _ => .nilif)])]})] 100 [false] [(bif decide ((0 : Int) < (0 : Int)) then (1 : Int) == (0 : Int) else false) = false, EqvI (V1.agg [Cell.int .i64 (↑(2 : Nat) : Int), Cell.int .i64 (0 : Int), Cell.str [], Cell.nilsl]) (V1.agg [Cell.int .i64 (2 : Int), Cell.int .i64 (0 : Int), Cell.str [], Cell.sl (4 : Nat) (0 : Nat) fun (x x_1 : Nat) => Cell.nilif]), EqvD (V1.agg [Cell.int .i64 (↑(2 : Nat) : Int), Cell.int .i64 (0 : Int), Cell.str [], Cell.nilsl]) (V1.agg [Cell.int .i64 (2 : Int), Cell.int .i64 (0 : Int), Cell.str [], Cell.sl (4 : Nat) (0 : Nat) fun (x x_1 : Nat) => Cell.nilif])] (by kernel_rfl) (by kernel_rfl) (by kernel_rfl) ⟨rfl, eqvI_flat _ _ (by kernel_rfl), (show EqvD (V1.agg [Cell.int .i64 (↑(2 : Nat) : Int), Cell.int .i64 (0 : Int), Cell.str [], Cell.nilsl]) (V1.agg [Cell.int .i64 (2 : Int), Cell.int .i64 (0 : Int), Cell.str [], Cell.sl (4 : Nat) (0 : Nat) fun (x x_1 : Nat) => Cell.nilif]) from (by assumption))⟩ ?_
  refine Wp.ret' (by kernel_rfl) ?_
  exact FinQ.blk [] (by kernel_rfl) (by kernel_rfl) (by kernel_rfl) (by kernel_rfl) (by kernel_rfl) trivial
theorem node_n2 (b : List UInt8) (hb : b.length ≤ 30000000000000) (f p l : Nat) (hf : f < 16) (hl : 0 < l) (hl2 : l ≤ 64) (hp : p < b.length) (hk : (b.getD p 0).toNat = 2) (h2 : p + 1 + 4 ≤ b.length) {n : Nat} (hn : (beN b (p + 1) 4).toNat = n) (h3 : 1073741824 < n) : FnB Tryz.prog G 260 [rB b p l 0] [.c (.ptr 0 0), .c (.int .i64 (17 - ((f + 1 : Nat) : Int)))] [.agg (encK ⟨2, (n : Int), [], 0, fun _ _ => .nilif⟩)] [(0, rB b (p + 1 + 4) ((l : Int) - 1) 3)] := by
  refine Fn.of' Tryz.func260 (by kernel_rfl) (by kernel_rfl) (by kernel_rfl) (by kernel_rfl) trivial ?_
  have ht0 : (bif (0 : Int) == 0 then bif decide ((l : Int) < 1) then true else decide (17 - ((f + 1 : Nat) : Int) > 16) else false) = false := by rw [decide_eq_false (by omega), decide_eq_false (by omega)]; rfl
  have c1 := num1 (G := G) b p ((l : Int) - 1) hb hp hk
  have c2 := numN (G := G) b (p + 1) ((l : Int) - 1) 4 hb (by decide) h2
  rw [hn] at c2
  have ht1 : (bif (0 : Int) == 0 then decide ((n : Int) > 1073741824) else false) = true := by rw [decide_eq_true (by omega)]; rfl
  have eD := @kids_D 2 (n : Int) [] (fun _ _ => .nilif)
  have eI := @kids_I 2 (n : Int) [] (fun _ _ => .nilif)
  refine Wp.go (mx := true) (fun _ => mixed) [(36, {fm := [(0, .agg [.int .i64 2, .int .i64 (n : Int), .str [], .sl 4 0 (fun _ _ => .nilif)])]}), (7, {cs := [(1, cb [0] c1)]}), (22, {cs := [(1, cb [0] c2)]})] 100 [false, false, false, true, true] [(bif (0 : Int) == (0 : Int) then bif decide ((↑l : Int) < (1 : Int)) then true else decide ((17 : Int) - (↑(f + (1 : Nat)) : Int) > (16 : Int)) else false) = false, ((0 : Int) != (0 : Int)) = false, inR IntKind.i64 ((↑l : Int) - (1 : Int)), ((↑(2 : Nat) : Int) == (1 : Int)) = false, ((↑(2 : Nat) : Int) == (2 : Int)) = true, (bif (0 : Int) == (0 : Int) then decide ((↑n : Int) > (1073741824 : Int)) else false) = true] (by kernel_rfl) (by kernel_rfl) (by kernel_rfl) ⟨(by assumption), rfl, inR64 (by omega) (by omega), rfl, rfl, (show (bif (0 : Int) == (0 : Int) then decide ((↑n : Int) > (1073741824 : Int)) else false) = true from (by assumption))⟩ ?_
  refine Wp.loopK (by kernel_rfl) (fun (k : Nat) => ⟨[(0, TV.v (V1.c (Cell.ptr (0 : Nat) (0 : Nat)))), (1, TV.v (V1.c (Cell.int .i64 ((17 : Int) - (↑(f + (1 : Nat)) : Int))))), (4, TV.v (V1.c (Cell.ptr 1 (0 : Nat)))), (5, TV.v (V1.c (Cell.ptr (289 : Nat) (0 : Nat)))), (6, TV.v (V1.c (Cell.int .i64 (0 : Int)))), (8, TV.v (V1.c (Cell.int .i64 (0 : Int))))], [(1, Blk.box 117 [Cell.int .i64 (0 : Int), Cell.int .i64 (0 : Int), Cell.str [], Cell.nilsl]), (289, Blk.box 117 [Cell.int .i64 (↑(2 : Nat) : Int), Cell.int .i64 (↑n : Int), Cell.str [], Cell.nilsl]), (0, Blk.box 272 [Cell.sl (1 : Nat) b.length (bytesF b), Cell.int .i64 (↑(p + (1 : Nat) + (4 : Nat)) : Int), Cell.int .i64 ((↑l : Int) - (1 : Int)), Cell.int .i64 (3 : Int)])], 1009⟩) (fun _ => True) (fun k => k) 0 (Ent.of [(1, 1), (289, 289)] (by kernel_rfl) (by kernel_rfl) (by kernel_rfl) trivial) trivial ?_
  intro k L hk again
  refine Wp.go (mx := true) (fun _ => mixed) [(36, {fm := [(0, .agg [.int .i64 2, .int .i64 (n : Int), .str [], .sl 4 0 (fun _ _ => .nilif)])]})] 100 [false] [(bif decide ((0 : Int) < (0 : Int)) then (3 : Int) == (0 : Int) else false) = false, EqvI (V1.agg [Cell.int .i64 (↑(2 : Nat) : Int), Cell.int .i64 (↑n : Int), Cell.str [], Cell.nilsl]) (V1.agg [Cell.int .i64 (2 : Int), Cell.int .i64 (↑n : Int), Cell.str [], Cell.sl (4 : Nat) (0 : Nat) fun (x x_1 : Nat) => Cell.nilif]), EqvD (V1.agg [Cell.int .i64 (↑(2 : Nat) : Int), Cell.int .i64 (↑n : Int), Cell.str [], Cell.nilsl]) (V1.agg [Cell.int .i64 (2 : Int), Cell.int .i64 (↑n : Int), Cell.str [], Cell.sl (4 : Nat) (0 : Nat) fun (x x_1 : Nat) => Cell.nilif])] (by kernel_rfl) (by kernel_rfl) (by kernel_rfl) ⟨rfl, eqvI_flat _ _ (by kernel_rfl), (show EqvD (V1.agg [Cell.int .i64 (↑(2 : Nat) : Int), Cell.int .i64 (↑n : Int), Cell.str [], Cell.nilsl]) (V1.agg [Cell.int .i64 (2 : Int), Cell.int .i64 (↑n : Int), Cell.str [], Cell.sl (4 : Nat) (0 : Nat) fun (x x_1 : Nat) => Cell.nilif]) from (by assumption))⟩ ?_
  refine Wp.ret' (by kernel_rfl) ?_
  exact FinQ.blk [] (by kernel_rfl) (by kernel_rfl) (by kernel_rfl) (by kernel_rfl) (by kernel_rfl) trivial
theorem node_n3 (b : List UInt8) (hb : b.length ≤ 30000000000000) (f p l : Nat) (hf : f < 16) (hl : 0 < l) (hl2 : l ≤ 64) (hp : p < b.length) (hk : (b.getD p 0).toNat = 2) (h2 : p + 1 + 4 ≤ b.length) {n : Nat} (hn : (beN b (p + 1) 4).toNat = n) (h3 : n ≤ 1073741824) : FnB Tryz.prog G 260 [rB b p l 0] [.c (.ptr 0 0), .c (.int .i64 (17 - ((f + 1 : Nat) : Int)))] [.agg (encK ⟨2, (n : Int), [], 0, fun _ _ => .nilif⟩)] [(0, rB b (p + 1 + 4) ((l : Int) - 1) 0)] := by
  refine Fn.of' Tryz.func260 (by kernel_rfl) (by kernel_rfl) (by kernel_rfl) (by kernel_rfl) trivial ?_
  have ht0 : (bif (0 : Int) == 0 then bif decide ((l : Int) < 1) then true else decide (17 - ((f + 1 : Nat) : Int) > 16) else false) = false := by rw [decide_eq_false (by omega), decide_eq_false (by omega)]; rfl
  have c1 := num1 (G := G) b p ((l : Int) - 1) hb hp hk
  have c2 := numN (G := G) b (p + 1) ((l : Int) - 1) 4 hb (by decide) h2
  rw [hn] at c2
  have ht1 : (bif (0 : Int) == 0 then decide ((n : Int) > 1073741824) else false) = false := by rw [decide_eq_false (by omega)]; rfl
  have eD := @kids_D 2 (n : Int) [] (fun _ _ => .nilif)
  have eI := @kids_I 2 (n : Int) [] (fun _ _ => .nilif)
  refine Wp.go (mx := true) (fun _ => mixed) [(36, {fm := [(0, .agg [.int .i64 2, .int .i64 (n : Int), .str [], .sl 4 0 (fun _ _ => .nilif)])]}), (7, {cs := [(1, cb [0] c1)]}), (22, {cs := [(1, cb [0] c2)]})] 100 [false, false, false, true, false] [(bif (0 : Int) == (0 : Int) then bif decide ((↑l : Int) < (1 : Int)) then true else decide ((17 : Int) - (↑(f + (1 : Nat)) : Int) > (16 : Int)) else false) = false, ((0 : Int) != (0 : Int)) = false, inR IntKind.i64 ((↑l : Int) - (1 : Int)), ((↑(2 : Nat) : Int) == (1 : Int)) = false, ((↑(2 : Nat) : Int) == (2 : Int)) = true, (bif (0 : Int) == (0 : Int) then decide ((↑n : Int) > (1073741824 : Int)) else false) = false] (by kernel_rfl) (by kernel_rfl) (by kernel_rfl) ⟨(by assumption), rfl, inR64 (by omega) (by omega), rfl, rfl, (show (bif (0 : Int) == (0 : Int) then decide ((↑n : Int) > (1073741824 : Int)) else false) = false from (by assumption))⟩ ?_
  refine Wp.loopK (by kernel_rfl) (fun (k : Nat) => ⟨[(0, TV.v (V1.c (Cell.ptr (0 : Nat) (0 : Nat)))), (1, TV.v (V1.c (Cell.int .i64 ((17 : Int) - (↑(f + (1 : Nat)) : Int))))), (4, TV.v (V1.c (Cell.ptr 1 (0 : Nat)))), (5, TV.v (V1.c (Cell.ptr (289 : Nat) (0 : Nat)))), (6, TV.v (V1.c (Cell.int .i64 (0 : Int)))), (8, TV.v (V1.c (Cell.int .i64 (0 : Int))))], [(1, Blk.box 117 [Cell.int .i64 (0 : Int), Cell.int .i64 (0 : Int), Cell.str [], Cell.nilsl]), (289, Blk.box 117 [Cell.int .i64 (↑(2 : Nat) : Int), Cell.int .i64 (↑n : Int), Cell.str [], Cell.nilsl]), (0, Blk.box 272 [Cell.sl (1 : Nat) b.length (bytesF b), Cell.int .i64 (↑(p + (1 : Nat) + (4 : Nat)) : Int), Cell.int .i64 ((↑l : Int) - (1 : Int)), Cell.int .i64 (0 : Int)])], 945⟩) (fun _ => True) (fun k => k) 0 (Ent.of [(1, 1), (289, 289)] (by kernel_rfl) (by kernel_rfl) (by kernel_rfl) trivial) trivial ?_
  intro k L hk again
  refine Wp.go (mx := true) (fun _ => mixed) [(36, {fm := [(0, .agg [.int .i64 2, .int .i64 (n : Int), .str [], .sl 4 0 (fun _ _ => .nilif)])]})] 100 [false] [(bif decide ((0 : Int) < (0 : Int)) then (0 : Int) == (0 : Int) else false) = false, EqvI (V1.agg [Cell.int .i64 (↑(2 : Nat) : Int), Cell.int .i64 (↑n : Int), Cell.str [], Cell.nilsl]) (V1.agg [Cell.int .i64 (2 : Int), Cell.int .i64 (↑n : Int), Cell.str [], Cell.sl (4 : Nat) (0 : Nat) fun (x x_1 : Nat) => Cell.nilif]), EqvD (V1.agg [Cell.int .i64 (↑(2 : Nat) : Int), Cell.int .i64 (↑n : Int), Cell.str [], Cell.nilsl]) (V1.agg [Cell.int .i64 (2 : Int), Cell.int .i64 (↑n : Int), Cell.str [], Cell.sl (4 : Nat) (0 : Nat) fun (x x_1 : Nat) => Cell.nilif])] (by kernel_rfl) (by kernel_rfl) (by kernel_rfl) ⟨rfl, eqvI_flat _ _ (by kernel_rfl), (show EqvD (V1.agg [Cell.int .i64 (↑(2 : Nat) : Int), Cell.int .i64 (↑n : Int), Cell.str [], Cell.nilsl]) (V1.agg [Cell.int .i64 (2 : Int), Cell.int .i64 (↑n : Int), Cell.str [], Cell.sl (4 : Nat) (0 : Nat) fun (x x_1 : Nat) => Cell.nilif]) from (by assumption))⟩ ?_
  refine Wp.ret' (by kernel_rfl) ?_
  exact FinQ.blk [] (by kernel_rfl) (by kernel_rfl) (by kernel_rfl) (by kernel_rfl) (by kernel_rfl) trivial
theorem node_bad (b : List UInt8) (hb : b.length ≤ 30000000000000) (f p l : Nat) (hf : f < 16) (hl : 0 < l) (hl2 : l ≤ 64) (hp : p < b.length) {k : Nat} (hk : (b.getD p 0).toNat = k) (hk0 : k = 0 ∨ 8 ≤ k) : FnB Tryz.prog G 260 [rB b p l 0] [.c (.ptr 0 0), .c (.int .i64 (17 - ((f + 1 : Nat) : Int)))] [.agg (encK ⟨(k : Int), 0, [], 0, fun _ _ => .nilif⟩)] [(0, rB b (p + 1) ((l : Int) - 1) 2)] := by
  refine Fn.of' Tryz.func260 (by kernel_rfl) (by kernel_rfl) (by kernel_rfl) (by kernel_rfl) trivial ?_
  have ht0 : (bif (0 : Int) == 0 then bif decide ((l : Int) < 1) then true else decide (17 - ((f + 1 : Nat) : Int) > 16) else false) = false := by rw [decide_eq_false (by omega), decide_eq_false (by omega)]; rfl
  have c1 := num1 (G := G) b p ((l : Int) - 1) hb hp hk
  have hk1 : ((k : Int) == 1) = false := by rw [beq_eq_false_iff_ne]; omega
  have hk2 : ((k : Int) == 2) = false := by rw [beq_eq_false_iff_ne]; omega
  have hk3 : ((k : Int) == 3) = false := by rw [beq_eq_false_iff_ne]; omega
  have hk4 : ((k : Int) == 4) = false := by rw [beq_eq_false_iff_ne]; omega
  have hk5 : ((k : Int) == 5) = false := by rw [beq_eq_false_iff_ne]; omega
  have hk6 : ((k : Int) == 6) = false := by rw [beq_eq_false_iff_ne]; omega
  have hk7 : ((k : Int) == 7) = false := by rw [beq_eq_false_iff_ne]; omega
  have eD := @kids_D (k : Int) 0 [] (fun _ _ => .nilif)
  have eI := @kids_I (k : Int) 0 [] (fun _ _ => .nilif)
  refine Wp.go (mx := true) (fun _ => mixed) [(36, {fm := [(0, .agg [.int .i64 (k : Int), .int .i64 0, .str [], .sl 4 0 (fun _ _ => .nilif)])]}), (7, {cs := [(1, cb [0] c1)]})] 100 [false, false, false, false, false, false, false, false, false, true] [(bif (0 : Int) == (0 : Int) then bif decide ((↑l : Int) < (1 : Int)) then true else decide ((17 : Int) - (↑(f + (1 : Nat)) : Int) > (16 : Int)) else false) = false, ((0 : Int) != (0 : Int)) = false, inR IntKind.i64 ((↑l : Int) - (1 : Int)), ((↑k : Int) == (1 : Int)) = false, ((↑k : Int) == (2 : Int)) = false, ((↑k : Int) == (3 : Int)) = false, ((↑k : Int) == (4 : Int)) = false, ((↑k : Int) == (5 : Int)) = false, ((↑k : Int) == (6 : Int)) = false, ((↑k : Int) == (7 : Int)) = false, ((0 : Int) == (0 : Int)) = true] (by kernel_rfl) (by kernel_rfl) (by kernel_rfl) ⟨(by assumption), rfl, inR64 (by omega) (by omega), (by assumption), (by assumption), (by assumption), (by assumption), (by assumption), (by assumption), (by assumption), rfl⟩ ?_
  refine Wp.loopK (by kernel_rfl) (fun (k9 : Nat) => ⟨[(0, TV.v (V1.c (Cell.ptr (0 : Nat) (0 : Nat)))), (1, TV.v (V1.c (Cell.int .i64 ((17 : Int) - (↑(f + (1 : Nat)) : Int))))), (4, TV.v (V1.c (Cell.ptr 1 (0 : Nat)))), (5, TV.v (V1.c (Cell.ptr (289 : Nat) (0 : Nat)))), (6, TV.v (V1.c (Cell.int .i64 (0 : Int)))), (8, TV.v (V1.c (Cell.int .i64 (0 : Int))))], [(1, Blk.box 117 [Cell.int .i64 (0 : Int), Cell.int .i64 (0 : Int), Cell.str [], Cell.nilsl]), (289, Blk.box 117 [Cell.int .i64 (↑k : Int), Cell.int .i64 (0 : Int), Cell.str [], Cell.nilsl]), (0, Blk.box 272 [Cell.sl (1 : Nat) b.length (bytesF b), Cell.int .i64 (↑(p + (1 : Nat)) : Int), Cell.int .i64 ((↑l : Int) - (1 : Int)), Cell.int .i64 (2 : Int)])], 1025⟩) (fun _ => True) (fun k => k) 0 (Ent.of [(1, 1), (289, 289)] (by kernel_rfl) (by kernel_rfl) (by kernel_rfl) trivial) trivial ?_
  intro k9 L hk9 again
  refine Wp.go (mx := true) (fun _ => mixed) [(36, {fm := [(0, .agg [.int .i64 (k : Int), .int .i64 0, .str [], .sl 4 0 (fun _ _ => .nilif)])]})] 100 [false] [(bif decide ((0 : Int) < (0 : Int)) then (2 : Int) == (0 : Int) else false) = false, EqvI (V1.agg [Cell.int .i64 (↑k : Int), Cell.int .i64 (0 : Int), Cell.str [], Cell.nilsl]) (V1.agg [Cell.int .i64 (↑k : Int), Cell.int .i64 (0 : Int), Cell.str [], Cell.sl (4 : Nat) (0 : Nat) fun (x x_1 : Nat) => Cell.nilif]), EqvD (V1.agg [Cell.int .i64 (↑k : Int), Cell.int .i64 (0 : Int), Cell.str [], Cell.nilsl]) (V1.agg [Cell.int .i64 (↑k : Int), Cell.int .i64 (0 : Int), Cell.str [], Cell.sl (4 : Nat) (0 : Nat) fun (x x_1 : Nat) => Cell.nilif])] (by kernel_rfl) (by kernel_rfl) (by kernel_rfl) ⟨rfl, eqvI_flat _ _ (by kernel_rfl), (show EqvD (V1.agg [Cell.int .i64 (↑k : Int), Cell.int .i64 (0 : Int), Cell.str [], Cell.nilsl]) (V1.agg [Cell.int .i64 (↑k : Int), Cell.int .i64 (0 : Int), Cell.str [], Cell.sl (4 : Nat) (0 : Nat) fun (x x_1 : Nat) => Cell.nilif]) from (by assumption))⟩ ?_
  refine Wp.ret' (by kernel_rfl) ?_
  exact FinQ.blk [] (by kernel_rfl) (by kernel_rfl) (by kernel_rfl) (by kernel_rfl) (by kernel_rfl) trivial
end Go.Proofs.Tw
end

section
open Go Go.Sv Go.RowKit
namespace Go.Proofs.Tw
attribute [local irreducible] Wp FinQ resV Ent Pur Go.Sv.Fn Sat0
set_option maxRecDepth 100000
set_option maxHeartbeats 4000000
variable {G : Nat → Option (List Cell)}

theorem kid_new {e : TypeId} (x : KT) : BlkEqv (.row e 4 1 (catF 0 (fun _ _ => .nilif) (fun i j => nthD (encK x) ((0 + i) * 4 + j)))) (.row e 4 1 (rowF encK .nil [x])) := BlkEqv.row_ext rfl fun i hi j hj => by
  obtain rfl : i = 0 := by omega
  show nthD (encK x) ((0 + (0 - 0)) * 4 + j) = nthD (encK x) j
  congr 1; omega
theorem deep_D (f : Nat) : EqvD (.c (.int .i64 ((17 : Int) - ((f + 1 : Nat) : Int) + 1))) (.c (.int .i64 ((17 : Int) - (f : Int)))) := eqvD_of (by rw [show (17 : Int) - ((f + 1 : Nat) : Int) + 1 = (17 : Int) - (f : Int) by omega])
def kidSt (b : List UInt8) (f : Nat) (kids k i : Int) (nx p : Nat) (lf e : Int) : List KT → St
  | [] => ⟨[(0, .v (.c (.ptr 0 0))), (1, .v (.c (.int .i64 ((17 : Int) - ((f + 1 : Nat) : Int))))), (4, .v (.c (.ptr 1 0))), (5, .v (.c (.ptr 289 0))), (6, .v (.c (.int .i64 kids))), (8, .v (.c (.int .i64 i)))], [(1, .box 117 [.int .i64 0, .int .i64 0, .str [], .nilsl]), (289, .box 117 [.int .i64 k, .int .i64 0, .str [], .nilsl]), (0, rB b p lf e)], nx⟩
  | x :: r => ⟨[(0, .v (.c (.ptr 0 0))), (1, .v (.c (.int .i64 ((17 : Int) - ((f + 1 : Nat) : Int))))), (4, .v (.c (.ptr 1 0))), (5, .v (.c (.ptr 289 0))), (6, .v (.c (.int .i64 kids))), (8, .v (.c (.int .i64 i)))], [(1, .box 117 [.int .i64 0, .int .i64 0, .str [], .nilsl]), (289, .box 117 [.int .i64 k, .int .i64 0, .str [], .row 4 41 0 (r.length + 1)]), (41, .row 117 4 (r.length + 1) (rowF encK .nil (x :: r))), (0, rB b p lf e)], nx⟩
theorem node_one3 (b : List UInt8) (hb : b.length ≤ 30000000000000) (f p l : Nat) (hf : f < 16) (hl : 0 < l) (hl2 : l ≤ 64) (hp : p < b.length) (hk : (b.getD p 0).toNat = 3) {x : KT} {p1 : Nat} {l1 e : Int} (cx : FnB Tryz.prog G 260 [rB b (p + 1) ((l : Int) - 1) 0] [.c (.ptr 0 0), .c (.int .i64 (17 - (f : Int)))] [.agg (encK x)] [(0, rB b p1 l1 e)]) : FnB Tryz.prog G 260 [rB b p l 0] [.c (.ptr 0 0), .c (.int .i64 (17 - ((f + 1 : Nat) : Int)))] [.agg (encK ⟨3, 0, [], 1, rowF encK .nil [x]⟩)] [(0, rB b p1 l1 e)] := by
  refine Fn.of' Tryz.func260 (by kernel_rfl) (by kernel_rfl) (by kernel_rfl) (by kernel_rfl) trivial ?_
  have ht0 : (bif (0 : Int) == 0 then bif decide ((l : Int) < 1) then true else decide (17 - ((f + 1 : Nat) : Int) > 16) else false) = false := by rw [decide_eq_false (by omega), decide_eq_false (by omega)]; rfl
  have c1 := num1 (G := G) b p ((l : Int) - 1) hb hp hk
  refine Wp.go (mx := true) (fun _ => mixed) [(7, {cs := [(1, cb [0] c1)]})] 100 [false, false, false, false, true, true] [(bif (0 : Int) == (0 : Int) then bif decide ((↑l : Int) < (1 : Int)) then true else decide ((17 : Int) - (↑(f + (1 : Nat)) : Int) > (16 : Int)) else false) = false, ((0 : Int) != (0 : Int)) = false, inR IntKind.i64 ((↑l : Int) - (1 : Int)), ((↑(3 : Nat) : Int) == (1 : Int)) = false, ((↑(3 : Nat) : Int) == (2 : Int)) = false, ((↑(3 : Nat) : Int) == (3 : Int)) = true, ((↑(3 : Nat) : Int) == (3 : Int)) = true] (by kernel_rfl) (by kernel_rfl) (by kernel_rfl) ⟨(by assumption), rfl, inR64 (by omega) (by omega), rfl, rfl, rfl, rfl⟩ ?_
  have e1 := kid_new (e := 117) x
  have e2 := deep_D f
  refine Wp.loopK (by kernel_rfl) (fun (j : Nat) => match j with | 0 => kidSt b f 1 3 0 769 (p + 1) ((l : Int) - 1) 0 [] | _ => kidSt b f 1 3 1 769 p1 l1 e [x]) (fun j => j ≤ 1) (fun j => 1 - j) 0 (Ent.of [(1, 1), (289, 289)] (by kernel_rfl) (by kernel_rfl) (by kernel_rfl) trivial) (Nat.zero_le _) ?_
  intro j L hj again
  obtain rfl | rfl : j = 0 ∨ j = 1 := by omega
  · refine Wp.go (mx := true) (fun _ => mixed) [(35, {cs := [(5, cb [0] cx)], fm := [(4, .c (.int .i64 ((17 : Int) - (f : Int))))], bs := [(7, Blk.row 117 4 1 (rowF encK .nil [x]))]})] 100 [true] [(bif decide ((0 : Int) < (1 : Int)) then (0 : Int) == (0 : Int) else false) = true, EqvI (V1.c (Cell.int .i64 ((17 : Int) - (↑(f + (1 : Nat)) : Int) + (1 : Int)))) (V1.c (Cell.int .i64 ((17 : Int) - (↑f : Int)))), EqvD (V1.c (Cell.int .i64 ((17 : Int) - (↑(f + (1 : Nat)) : Int) + (1 : Int)))) (V1.c (Cell.int .i64 ((17 : Int) - (↑f : Int)))), inR IntKind.i64 ((17 : Int) - (↑(f + (1 : Nat)) : Int) + (1 : Int)), (56 : Nat) ≤ (140737488355328 : Nat), BlkEqv (Blk.row 117 (4 : Nat) (1 : Nat) (catF (0 : Nat) (fun (x x_1 : Nat) => Cell.nilif) fun (i j : Nat) => nthD [Cell.int .i64 x.k, Cell.int .i64 x.n, Cell.str x.s, Cell.sl (4 : Nat) x.m x.f] (((0 : Nat) + i) * (4 : Nat) + j))) (Blk.row 117 (4 : Nat) (1 : Nat) (rowF encK KT.nil [x])), (0 : Nat) + (1 : Nat) ≤ (1 : Nat), inR IntKind.i64 ((0 : Int) + (1 : Int))] (by kernel_rfl) (by kernel_rfl) (by kernel_rfl) ⟨rfl, fun _ _ => trivial, (by assumption), inR64 (by omega) (by omega), (by omega), (by assumption), (by omega), inR64 (by omega) (by omega)⟩ ?_
    exact Wp.lpK (by kernel_rfl) (again _ 1 (by omega) (by omega) (Ent.of [(41, 1041)] (by kernel_rfl) (by kernel_rfl) (by kernel_rfl) trivial))
  · refine Wp.ent' (by kernel_rfl) (Ent.pubC (id := 41) (b := 289) (o := 3) (off := 0) (m := 1) (sz := 4) (n := 1) (e := 117) (e' := 117) (cs := [.int .i64 3, .int .i64 0, .str [], .row 4 41 0 1]) (f := rowF encK .nil [x]) (m' := 1) (f' := rowF encK .nil [x]) (by kernel_rfl) (by kernel_rfl) (by kernel_rfl) (by omega) rfl (fun i _ j _ => by rw [Nat.zero_add]) rfl) ?_
    refine Wp.go (mx := true) (fun _ => mixed) [] 100 [false] [(bif decide ((1 : Int) < (1 : Int)) then e == (0 : Int) else false) = false] (by kernel_rfl) (by kernel_rfl) (by kernel_rfl) rfl ?_
    refine Wp.ret' (by kernel_rfl) ?_
    exact FinQ.blk [] (by kernel_rfl) (by kernel_rfl) (by kernel_rfl) (by kernel_rfl) (by kernel_rfl) trivial
theorem node_one4 (b : List UInt8) (hb : b.length ≤ 30000000000000) (f p l : Nat) (hf : f < 16) (hl : 0 < l) (hl2 : l ≤ 64) (hp : p < b.length) (hk : (b.getD p 0).toNat = 4) {x : KT} {p1 : Nat} {l1 e : Int} (cx : FnB Tryz.prog G 260 [rB b (p + 1) ((l : Int) - 1) 0] [.c (.ptr 0 0), .c (.int .i64 (17 - (f : Int)))] [.agg (encK x)] [(0, rB b p1 l1 e)]) : FnB Tryz.prog G 260 [rB b p l 0] [.c (.ptr 0 0), .c (.int .i64 (17 - ((f + 1 : Nat) : Int)))] [.agg (encK ⟨4, 0, [], 1, rowF encK .nil [x]⟩)] [(0, rB b p1 l1 e)] := by
  refine Fn.of' Tryz.func260 (by kernel_rfl) (by kernel_rfl) (by kernel_rfl) (by kernel_rfl) trivial ?_
  have ht0 : (bif (0 : Int) == 0 then bif decide ((l : Int) < 1) then true else decide (17 - ((f + 1 : Nat) : Int) > 16) else false) = false := by rw [decide_eq_false (by omega), decide_eq_false (by omega)]; rfl
  have c1 := num1 (G := G) b p ((l : Int) - 1) hb hp hk
  refine Wp.go (mx := true) (fun _ => mixed) [(7, {cs := [(1, cb [0] c1)]})] 100 [false, false, false, false, false, true] [(bif (0 : Int) == (0 : Int) then bif decide ((↑l : Int) < (1 : Int)) then true else decide ((17 : Int) - (↑(f + (1 : Nat)) : Int) > (16 : Int)) else false) = false, ((0 : Int) != (0 : Int)) = false, inR IntKind.i64 ((↑l : Int) - (1 : Int)), ((↑(4 : Nat) : Int) == (1 : Int)) = false, ((↑(4 : Nat) : Int) == (2 : Int)) = false, ((↑(4 : Nat) : Int) == (3 : Int)) = false, ((↑(4 : Nat) : Int) == (4 : Int)) = true] (by kernel_rfl) (by kernel_rfl) (by kernel_rfl) ⟨(by assumption), rfl, inR64 (by omega) (by omega), rfl, rfl, rfl, rfl⟩ ?_
  have e1 := kid_new (e := 117) x
  have e2 := deep_D f
  refine Wp.loopK (by kernel_rfl) (fun (j : Nat) => match j with | 0 => kidSt b f 1 4 0 801 (p + 1) ((l : Int) - 1) 0 [] | _ => kidSt b f 1 4 1 801 p1 l1 e [x]) (fun j => j ≤ 1) (fun j => 1 - j) 0 (Ent.of [(1, 1), (289, 289)] (by kernel_rfl) (by kernel_rfl) (by kernel_rfl) trivial) (Nat.zero_le _) ?_
  intro j L hj again
  obtain rfl | rfl : j = 0 ∨ j = 1 := by omega
  · refine Wp.go (mx := true) (fun _ => mixed) [(35, {cs := [(5, cb [0] cx)], fm := [(4, .c (.int .i64 ((17 : Int) - (f : Int))))], bs := [(7, Blk.row 117 4 1 (rowF encK .nil [x]))]})] 100 [true] [(bif decide ((0 : Int) < (1 : Int)) then (0 : Int) == (0 : Int) else false) = true, EqvI (V1.c (Cell.int .i64 ((17 : Int) - (↑(f + (1 : Nat)) : Int) + (1 : Int)))) (V1.c (Cell.int .i64 ((17 : Int) - (↑f : Int)))), EqvD (V1.c (Cell.int .i64 ((17 : Int) - (↑(f + (1 : Nat)) : Int) + (1 : Int)))) (V1.c (Cell.int .i64 ((17 : Int) - (↑f : Int)))), inR IntKind.i64 ((17 : Int) - (↑(f + (1 : Nat)) : Int) + (1 : Int)), (56 : Nat) ≤ (140737488355328 : Nat), BlkEqv (Blk.row 117 (4 : Nat) (1 : Nat) (catF (0 : Nat) (fun (x x_1 : Nat) => Cell.nilif) fun (i j : Nat) => nthD [Cell.int .i64 x.k, Cell.int .i64 x.n, Cell.str x.s, Cell.sl (4 : Nat) x.m x.f] (((0 : Nat) + i) * (4 : Nat) + j))) (Blk.row 117 (4 : Nat) (1 : Nat) (rowF encK KT.nil [x])), (0 : Nat) + (1 : Nat) ≤ (1 : Nat), inR IntKind.i64 ((0 : Int) + (1 : Int))] (by kernel_rfl) (by kernel_rfl) (by kernel_rfl) ⟨rfl, fun _ _ => trivial, (by assumption), inR64 (by omega) (by omega), (by omega), (by assumption), (by omega), inR64 (by omega) (by omega)⟩ ?_
    exact Wp.lpK (by kernel_rfl) (again _ 1 (by omega) (by omega) (Ent.of [(41, 1073)] (by kernel_rfl) (by kernel_rfl) (by kernel_rfl) trivial))
  · refine Wp.ent' (by kernel_rfl) (Ent.pubC (id := 41) (b := 289) (o := 3) (off := 0) (m := 1) (sz := 4) (n := 1) (e := 117) (e' := 117) (cs := [.int .i64 4, .int .i64 0, .str [], .row 4 41 0 1]) (f := rowF encK .nil [x]) (m' := 1) (f' := rowF encK .nil [x]) (by kernel_rfl) (by kernel_rfl) (by kernel_rfl) (by omega) rfl (fun i _ j _ => by rw [Nat.zero_add]) rfl) ?_
    refine Wp.go (mx := true) (fun _ => mixed) [] 100 [false] [(bif decide ((1 : Int) < (1 : Int)) then e == (0 : Int) else false) = false] (by kernel_rfl) (by kernel_rfl) (by kernel_rfl) rfl ?_
    refine Wp.ret' (by kernel_rfl) ?_
    exact FinQ.blk [] (by kernel_rfl) (by kernel_rfl) (by kernel_rfl) (by kernel_rfl) (by kernel_rfl) trivial
theorem node_twoX5 (b : List UInt8) (hb : b.length ≤ 30000000000000) (f p l : Nat) (hf : f < 16) (hl : 0 < l) (hl2 : l ≤ 64) (hp : p < b.length) (hk : (b.getD p 0).toNat = 5) {x : KT} {p1 : Nat} {l1 e : Int} (he : e ≠ 0) (cx : FnB Tryz.prog G 260 [rB b (p + 1) ((l : Int) - 1) 0] [.c (.ptr 0 0), .c (.int .i64 (17 - (f : Int)))] [.agg (encK x)] [(0, rB b p1 l1 e)]) : FnB Tryz.prog G 260 [rB b p l 0] [.c (.ptr 0 0), .c (.int .i64 (17 - ((f + 1 : Nat) : Int)))] [.agg (encK ⟨5, 0, [], 1, rowF encK .nil [x]⟩)] [(0, rB b p1 l1 e)] := by
  refine Fn.of' Tryz.func260 (by kernel_rfl) (by kernel_rfl) (by kernel_rfl) (by kernel_rfl) trivial ?_
  have ht0 : (bif (0 : Int) == 0 then bif decide ((l : Int) < 1) then true else decide (17 - ((f + 1 : Nat) : Int) > 16) else false) = false := by rw [decide_eq_false (by omega), decide_eq_false (by omega)]; rfl
  have c1 := num1 (G := G) b p ((l : Int) - 1) hb hp hk
  refine Wp.go (mx := true) (fun _ => mixed) [(7, {cs := [(1, cb [0] c1)]})] 100 [false, false, false, false, false, false, true, true] [(bif (0 : Int) == (0 : Int) then bif decide ((↑l : Int) < (1 : Int)) then true else decide ((17 : Int) - (↑(f + (1 : Nat)) : Int) > (16 : Int)) else false) = false, ((0 : Int) != (0 : Int)) = false, inR IntKind.i64 ((↑l : Int) - (1 : Int)), ((↑(5 : Nat) : Int) == (1 : Int)) = false, ((↑(5 : Nat) : Int) == (2 : Int)) = false, ((↑(5 : Nat) : Int) == (3 : Int)) = false, ((↑(5 : Nat) : Int) == (4 : Int)) = false, ((↑(5 : Nat) : Int) == (5 : Int)) = true, ((↑(5 : Nat) : Int) == (5 : Int)) = true] (by kernel_rfl) (by kernel_rfl) (by kernel_rfl) ⟨(by assumption), rfl, inR64 (by omega) (by omega), rfl, rfl, rfl, rfl, rfl, rfl⟩ ?_
  have e1 := kid_new (e := 117) x
  have e2 := deep_D f
  refine Wp.loopK (by kernel_rfl) (fun (j : Nat) => match j with | 0 => kidSt b f 2 5 0 833 (p + 1) ((l : Int) - 1) 0 [] | _ => kidSt b f 2 5 1 833 p1 l1 e [x]) (fun j => j ≤ 1) (fun j => 1 - j) 0 (Ent.of [(1, 1), (289, 289)] (by kernel_rfl) (by kernel_rfl) (by kernel_rfl) trivial) (Nat.zero_le _) ?_
  intro j L hj again
  obtain rfl | rfl : j = 0 ∨ j = 1 := by omega
  · refine Wp.go (mx := true) (fun _ => mixed) [(35, {cs := [(5, cb [0] cx)], fm := [(4, .c (.int .i64 ((17 : Int) - (f : Int))))], bs := [(7, Blk.row 117 4 1 (rowF encK .nil [x]))]})] 100 [true] [(bif decide ((0 : Int) < (2 : Int)) then (0 : Int) == (0 : Int) else false) = true, EqvI (V1.c (Cell.int .i64 ((17 : Int) - (↑(f + (1 : Nat)) : Int) + (1 : Int)))) (V1.c (Cell.int .i64 ((17 : Int) - (↑f : Int)))), EqvD (V1.c (Cell.int .i64 ((17 : Int) - (↑(f + (1 : Nat)) : Int) + (1 : Int)))) (V1.c (Cell.int .i64 ((17 : Int) - (↑f : Int)))), inR IntKind.i64 ((17 : Int) - (↑(f + (1 : Nat)) : Int) + (1 : Int)), (56 : Nat) ≤ (140737488355328 : Nat), BlkEqv (Blk.row 117 (4 : Nat) (1 : Nat) (catF (0 : Nat) (fun (x x_1 : Nat) => Cell.nilif) fun (i j : Nat) => nthD [Cell.int .i64 x.k, Cell.int .i64 x.n, Cell.str x.s, Cell.sl (4 : Nat) x.m x.f] (((0 : Nat) + i) * (4 : Nat) + j))) (Blk.row 117 (4 : Nat) (1 : Nat) (rowF encK KT.nil [x])), (0 : Nat) + (1 : Nat) ≤ (1 : Nat), inR IntKind.i64 ((0 : Int) + (1 : Int))] (by kernel_rfl) (by kernel_rfl) (by kernel_rfl) ⟨rfl, fun _ _ => trivial, (by assumption), inR64 (by omega) (by omega), (by omega), (by assumption), (by omega), inR64 (by omega) (by omega)⟩ ?_
    exact Wp.lpK (by kernel_rfl) (again _ 1 (by omega) (by omega) (Ent.of [(41, 1105)] (by kernel_rfl) (by kernel_rfl) (by kernel_rfl) trivial))
  · refine Wp.ent' (by kernel_rfl) (Ent.pubC (id := 41) (b := 289) (o := 3) (off := 0) (m := 1) (sz := 4) (n := 1) (e := 117) (e' := 117) (cs := [.int .i64 5, .int .i64 0, .str [], .row 4 41 0 1]) (f := rowF encK .nil [x]) (m' := 1) (f' := rowF encK .nil [x]) (by kernel_rfl) (by kernel_rfl) (by kernel_rfl) (by omega) rfl (fun i _ j _ => by rw [Nat.zero_add]) rfl) ?_
    have ht : (bif decide ((1 : Int) < 2) then e == 0 else false) = false := by simp [he]
    refine Wp.go (mx := true) (fun _ => mixed) [] 100 [false] [(bif decide ((1 : Int) < (2 : Int)) then e == (0 : Int) else false) = false] (by kernel_rfl) (by kernel_rfl) (by kernel_rfl) (show (bif decide ((1 : Int) < (2 : Int)) then e == (0 : Int) else false) = false from (by assumption)) ?_
    refine Wp.ret' (by kernel_rfl) ?_
    exact FinQ.blk [] (by kernel_rfl) (by kernel_rfl) (by kernel_rfl) (by kernel_rfl) (by kernel_rfl) trivial
theorem node_two5 (b : List UInt8) (hb : b.length ≤ 30000000000000) (f p l : Nat) (hf : f < 16) (hl : 0 < l) (hl2 : l ≤ 64) (hp : p < b.length) (hk : (b.getD p 0).toNat = 5) {x y : KT} {p1 p2 : Nat} {l1 l2 e : Int} (cx : FnB Tryz.prog G 260 [rB b (p + 1) ((l : Int) - 1) 0] [.c (.ptr 0 0), .c (.int .i64 (17 - (f : Int)))] [.agg (encK x)] [(0, rB b p1 l1 0)]) (cy : FnB Tryz.prog G 260 [rB b p1 l1 0] [.c (.ptr 0 0), .c (.int .i64 (17 - (f : Int)))] [.agg (encK y)] [(0, rB b p2 l2 e)]) : FnB Tryz.prog G 260 [rB b p l 0] [.c (.ptr 0 0), .c (.int .i64 (17 - ((f + 1 : Nat) : Int)))] [.agg (encK ⟨5, 0, [], 2, rowF encK .nil [x, y]⟩)] [(0, rB b p2 l2 e)] := by
  refine Fn.of' Tryz.func260 (by kernel_rfl) (by kernel_rfl) (by kernel_rfl) (by kernel_rfl) trivial ?_
  have ht0 : (bif (0 : Int) == 0 then bif decide ((l : Int) < 1) then true else decide (17 - ((f + 1 : Nat) : Int) > 16) else false) = false := by rw [decide_eq_false (by omega), decide_eq_false (by omega)]; rfl
  have c1 := num1 (G := G) b p ((l : Int) - 1) hb hp hk
  refine Wp.go (mx := true) (fun _ => mixed) [(7, {cs := [(1, cb [0] c1)]})] 100 [false, false, false, false, false, false, true, true] [(bif (0 : Int) == (0 : Int) then bif decide ((↑l : Int) < (1 : Int)) then true else decide ((17 : Int) - (↑(f + (1 : Nat)) : Int) > (16 : Int)) else false) = false, ((0 : Int) != (0 : Int)) = false, inR IntKind.i64 ((↑l : Int) - (1 : Int)), ((↑(5 : Nat) : Int) == (1 : Int)) = false, ((↑(5 : Nat) : Int) == (2 : Int)) = false, ((↑(5 : Nat) : Int) == (3 : Int)) = false, ((↑(5 : Nat) : Int) == (4 : Int)) = false, ((↑(5 : Nat) : Int) == (5 : Int)) = true, ((↑(5 : Nat) : Int) == (5 : Int)) = true] (by kernel_rfl) (by kernel_rfl) (by kernel_rfl) ⟨(by assumption), rfl, inR64 (by omega) (by omega), rfl, rfl, rfl, rfl, rfl, rfl⟩ ?_
  have e1 := kid_new (e := 117) x
  have e2 := deep_D f
  have e3 : BlkEqv (.row 117 4 (1 + 1) (catF 1 (rowF encK .nil [x]) (fun i j => nthD (encK y) ((0 + i) * 4 + j)))) (.row 117 4 (1 + 1) (rowF encK .nil [x, y])) := enc_app [x] y rfl
  refine Wp.loopK (by kernel_rfl) (fun (j : Nat) => match j with | 0 => kidSt b f 2 5 0 833 (p + 1) ((l : Int) - 1) 0 [] | 1 => kidSt b f 2 5 1 833 p1 l1 0 [x] | _ => kidSt b f 2 5 2 833 p2 l2 e [x, y]) (fun j => j ≤ 2) (fun j => 2 - j) 0 (Ent.of [(1, 1), (289, 289)] (by kernel_rfl) (by kernel_rfl) (by kernel_rfl) trivial) (Nat.zero_le _) ?_
  intro j L hj again
  obtain rfl | rfl | rfl : j = 0 ∨ j = 1 ∨ j = 2 := by omega
  · refine Wp.go (mx := true) (fun _ => mixed) [(35, {cs := [(5, cb [0] cx)], fm := [(4, .c (.int .i64 ((17 : Int) - (f : Int))))], bs := [(7, Blk.row 117 4 1 (rowF encK .nil [x]))]})] 100 [true] [(bif decide ((0 : Int) < (2 : Int)) then (0 : Int) == (0 : Int) else false) = true, EqvI (V1.c (Cell.int .i64 ((17 : Int) - (↑(f + (1 : Nat)) : Int) + (1 : Int)))) (V1.c (Cell.int .i64 ((17 : Int) - (↑f : Int)))), EqvD (V1.c (Cell.int .i64 ((17 : Int) - (↑(f + (1 : Nat)) : Int) + (1 : Int)))) (V1.c (Cell.int .i64 ((17 : Int) - (↑f : Int)))), inR IntKind.i64 ((17 : Int) - (↑(f + (1 : Nat)) : Int) + (1 : Int)), (56 : Nat) ≤ (140737488355328 : Nat), BlkEqv (Blk.row 117 (4 : Nat) (1 : Nat) (catF (0 : Nat) (fun (x x_1 : Nat) => Cell.nilif) fun (i j : Nat) => nthD [Cell.int .i64 x.k, Cell.int .i64 x.n, Cell.str x.s, Cell.sl (4 : Nat) x.m x.f] (((0 : Nat) + i) * (4 : Nat) + j))) (Blk.row 117 (4 : Nat) (1 : Nat) (rowF encK KT.nil [x])), (0 : Nat) + (1 : Nat) ≤ (1 : Nat), inR IntKind.i64 ((0 : Int) + (1 : Int))] (by kernel_rfl) (by kernel_rfl) (by kernel_rfl) ⟨rfl, fun _ _ => trivial, (by assumption), inR64 (by omega) (by omega), (by omega), (by assumption), (by omega), inR64 (by omega) (by omega)⟩ ?_
    exact Wp.lpK (by kernel_rfl) (again _ 1 (by omega) (by omega) (Ent.of [(41, 1105)] (by kernel_rfl) (by kernel_rfl) (by kernel_rfl) trivial))
  · refine Wp.go (mx := true) (fun _ => mixed) [(35, {cs := [(5, cb [0] cy)], fm := [(4, .c (.int .i64 ((17 : Int) - (f : Int))))], bs := [(7, Blk.row 117 4 2 (rowF encK .nil [x, y]))]})] 100 [true] [(bif decide ((1 : Int) < (2 : Int)) then (0 : Int) == (0 : Int) else false) = true, EqvI (V1.c (Cell.int .i64 ((17 : Int) - (↑(f + (1 : Nat)) : Int) + (1 : Int)))) (V1.c (Cell.int .i64 ((17 : Int) - (↑f : Int)))), EqvD (V1.c (Cell.int .i64 ((17 : Int) - (↑(f + (1 : Nat)) : Int) + (1 : Int)))) (V1.c (Cell.int .i64 ((17 : Int) - (↑f : Int)))), inR IntKind.i64 ((17 : Int) - (↑(f + (1 : Nat)) : Int) + (1 : Int)), (112 : Nat) ≤ (140737488355328 : Nat), BlkEqv (Blk.row 117 (4 : Nat) (2 : Nat) (catF (([] : List UInt8).length + (1 : Nat)) (rowF encK KT.nil [x]) fun (i j : Nat) => nthD [Cell.int .i64 y.k, Cell.int .i64 y.n, Cell.str y.s, Cell.sl (4 : Nat) y.m y.f] (((0 : Nat) + i) * (4 : Nat) + j))) (Blk.row 117 (4 : Nat) (2 : Nat) (rowF encK KT.nil [x, y])), ([] : List UInt8).length + (1 : Nat) ≤ ([] : List UInt8).length + (1 : Nat), (0 : Nat) + (1 : Nat) ≤ (1 : Nat), inR IntKind.i64 ((1 : Int) + (1 : Int))] (by kernel_rfl) (by kernel_rfl) (by kernel_rfl) ⟨rfl, fun _ _ => trivial, (by assumption), inR64 (by omega) (by omega), (by omega), (by assumption), (by omega), (by omega), inR64 (by omega) (by omega)⟩ ?_
    exact Wp.lpK (by kernel_rfl) (again _ 2 (by omega) (by omega) (Ent.of [(41, 1105)] (by kernel_rfl) (by kernel_rfl) (by kernel_rfl) trivial))
  · refine Wp.ent' (by kernel_rfl) (Ent.pubC (id := 41) (b := 289) (o := 3) (off := 0) (m := 2) (sz := 4) (n := 2) (e := 117) (e' := 117) (cs := [.int .i64 5, .int .i64 0, .str [], .row 4 41 0 2]) (f := rowF encK .nil [x, y]) (m' := 2) (f' := rowF encK .nil [x, y]) (by kernel_rfl) (by kernel_rfl) (by kernel_rfl) (by omega) rfl (fun i _ j _ => by rw [Nat.zero_add]) rfl) ?_
    refine Wp.go (mx := true) (fun _ => mixed) [] 100 [false] [(bif decide ((2 : Int) < (2 : Int)) then e == (0 : Int) else false) = false] (by kernel_rfl) (by kernel_rfl) (by kernel_rfl) rfl ?_
    refine Wp.ret' (by kernel_rfl) ?_
    exact FinQ.blk [] (by kernel_rfl) (by kernel_rfl) (by kernel_rfl) (by kernel_rfl) (by kernel_rfl) trivial
theorem node_twoX6 (b : List UInt8) (hb : b.length ≤ 30000000000000) (f p l : Nat) (hf : f < 16) (hl : 0 < l) (hl2 : l ≤ 64) (hp : p < b.length) (hk : (b.getD p 0).toNat = 6) {x : KT} {p1 : Nat} {l1 e : Int} (he : e ≠ 0) (cx : FnB Tryz.prog G 260 [rB b (p + 1) ((l : Int) - 1) 0] [.c (.ptr 0 0), .c (.int .i64 (17 - (f : Int)))] [.agg (encK x)] [(0, rB b p1 l1 e)]) : FnB Tryz.prog G 260 [rB b p l 0] [.c (.ptr 0 0), .c (.int .i64 (17 - ((f + 1 : Nat) : Int)))] [.agg (encK ⟨6, 0, [], 1, rowF encK .nil [x]⟩)] [(0, rB b p1 l1 e)] := by
  refine Fn.of' Tryz.func260 (by kernel_rfl) (by kernel_rfl) (by kernel_rfl) (by kernel_rfl) trivial ?_
  have ht0 : (bif (0 : Int) == 0 then bif decide ((l : Int) < 1) then true else decide (17 - ((f + 1 : Nat) : Int) > 16) else false) = false := by rw [decide_eq_false (by omega), decide_eq_false (by omega)]; rfl
  have c1 := num1 (G := G) b p ((l : Int) - 1) hb hp hk
  refine Wp.go (mx := true) (fun _ => mixed) [(7, {cs := [(1, cb [0] c1)]})] 100 [false, false, false, false, false, false, false, true, true] [(bif (0 : Int) == (0 : Int) then bif decide ((↑l : Int) < (1 : Int)) then true else decide ((17 : Int) - (↑(f + (1 : Nat)) : Int) > (16 : Int)) else false) = false, ((0 : Int) != (0 : Int)) = false, inR IntKind.i64 ((↑l : Int) - (1 : Int)), ((↑(6 : Nat) : Int) == (1 : Int)) = false, ((↑(6 : Nat) : Int) == (2 : Int)) = false, ((↑(6 : Nat) : Int) == (3 : Int)) = false, ((↑(6 : Nat) : Int) == (4 : Int)) = false, ((↑(6 : Nat) : Int) == (5 : Int)) = false, ((↑(6 : Nat) : Int) == (6 : Int)) = true, ((↑(6 : Nat) : Int) == (6 : Int)) = true] (by kernel_rfl) (by kernel_rfl) (by kernel_rfl) ⟨(by assumption), rfl, inR64 (by omega) (by omega), rfl, rfl, rfl, rfl, rfl, rfl, rfl⟩ ?_
  have e1 := kid_new (e := 117) x
  have e2 := deep_D f
  refine Wp.loopK (by kernel_rfl) (fun (j : Nat) => match j with | 0 => kidSt b f 2 6 0 865 (p + 1) ((l : Int) - 1) 0 [] | _ => kidSt b f 2 6 1 865 p1 l1 e [x]) (fun j => j ≤ 1) (fun j => 1 - j) 0 (Ent.of [(1, 1), (289, 289)] (by kernel_rfl) (by kernel_rfl) (by kernel_rfl) trivial) (Nat.zero_le _) ?_
  intro j L hj again
  obtain rfl | rfl : j = 0 ∨ j = 1 := by omega
  · refine Wp.go (mx := true) (fun _ => mixed) [(35, {cs := [(5, cb [0] cx)], fm := [(4, .c (.int .i64 ((17 : Int) - (f : Int))))], bs := [(7, Blk.row 117 4 1 (rowF encK .nil [x]))]})] 100 [true] [(bif decide ((0 : Int) < (2 : Int)) then (0 : Int) == (0 : Int) else false) = true, EqvI (V1.c (Cell.int .i64 ((17 : Int) - (↑(f + (1 : Nat)) : Int) + (1 : Int)))) (V1.c (Cell.int .i64 ((17 : Int) - (↑f : Int)))), EqvD (V1.c (Cell.int .i64 ((17 : Int) - (↑(f + (1 : Nat)) : Int) + (1 : Int)))) (V1.c (Cell.int .i64 ((17 : Int) - (↑f : Int)))), inR IntKind.i64 ((17 : Int) - (↑(f + (1 : Nat)) : Int) + (1 : Int)), (56 : Nat) ≤ (140737488355328 : Nat), BlkEqv (Blk.row 117 (4 : Nat) (1 : Nat) (catF (0 : Nat) (fun (x x_1 : Nat) => Cell.nilif) fun (i j : Nat) => nthD [Cell.int .i64 x.k, Cell.int .i64 x.n, Cell.str x.s, Cell.sl (4 : Nat) x.m x.f] (((0 : Nat) + i) * (4 : Nat) + j))) (Blk.row 117 (4 : Nat) (1 : Nat) (rowF encK KT.nil [x])), (0 : Nat) + (1 : Nat) ≤ (1 : Nat), inR IntKind.i64 ((0 : Int) + (1 : Int))] (by kernel_rfl) (by kernel_rfl) (by kernel_rfl) ⟨rfl, fun _ _ => trivial, (by assumption), inR64 (by omega) (by omega), (by omega), (by assumption), (by omega), inR64 (by omega) (by omega)⟩ ?_
    exact Wp.lpK (by kernel_rfl) (again _ 1 (by omega) (by omega) (Ent.of [(41, 1137)] (by kernel_rfl) (by kernel_rfl) (by kernel_rfl) trivial))
  · refine Wp.ent' (by kernel_rfl) (Ent.pubC (id := 41) (b := 289) (o := 3) (off := 0) (m := 1) (sz := 4) (n := 1) (e := 117) (e' := 117) (cs := [.int .i64 6, .int .i64 0, .str [], .row 4 41 0 1]) (f := rowF encK .nil [x]) (m' := 1) (f' := rowF encK .nil [x]) (by kernel_rfl) (by kernel_rfl) (by kernel_rfl) (by omega) rfl (fun i _ j _ => by rw [Nat.zero_add]) rfl) ?_
    have ht : (bif decide ((1 : Int) < 2) then e == 0 else false) = false := by simp [he]
    refine Wp.go (mx := true) (fun _ => mixed) [] 100 [false] [(bif decide ((1 : Int) < (2 : Int)) then e == (0 : Int) else false) = false] (by kernel_rfl) (by kernel_rfl) (by kernel_rfl) (show (bif decide ((1 : Int) < (2 : Int)) then e == (0 : Int) else false) = false from (by assumption)) ?_
    refine Wp.ret' (by kernel_rfl) ?_
    exact FinQ.blk [] (by kernel_rfl) (by kernel_rfl) (by kernel_rfl) (by kernel_rfl) (by kernel_rfl) trivial
theorem node_two6 (b : List UInt8) (hb : b.length ≤ 30000000000000) (f p l : Nat) (hf : f < 16) (hl : 0 < l) (hl2 : l ≤ 64) (hp : p < b.length) (hk : (b.getD p 0).toNat = 6) {x y : KT} {p1 p2 : Nat} {l1 l2 e : Int} (cx : FnB Tryz.prog G 260 [rB b (p + 1) ((l : Int) - 1) 0] [.c (.ptr 0 0), .c (.int .i64 (17 - (f : Int)))] [.agg (encK x)] [(0, rB b p1 l1 0)]) (cy : FnB Tryz.prog G 260 [rB b p1 l1 0] [.c (.ptr 0 0), .c (.int .i64 (17 - (f : Int)))] [.agg (encK y)] [(0, rB b p2 l2 e)]) : FnB Tryz.prog G 260 [rB b p l 0] [.c (.ptr 0 0), .c (.int .i64 (17 - ((f + 1 : Nat) : Int)))] [.agg (encK ⟨6, 0, [], 2, rowF encK .nil [x, y]⟩)] [(0, rB b p2 l2 e)] := by
  refine Fn.of' Tryz.func260 (by kernel_rfl) (by kernel_rfl) (by kernel_rfl) (by kernel_rfl) trivial ?_
  have ht0 : (bif (0 : Int) == 0 then bif decide ((l : Int) < 1) then true else decide (17 - ((f + 1 : Nat) : Int) > 16) else false) = false := by rw [decide_eq_false (by omega), decide_eq_false (by omega)]; rfl
  have c1 := num1 (G := G) b p ((l : Int) - 1) hb hp hk
  refine Wp.go (mx := true) (fun _ => mixed) [(7, {cs := [(1, cb [0] c1)]})] 100 [false, false, false, false, false, false, false, true, true] [(bif (0 : Int) == (0 : Int) then bif decide ((↑l : Int) < (1 : Int)) then true else decide ((17 : Int) - (↑(f + (1 : Nat)) : Int) > (16 : Int)) else false) = false, ((0 : Int) != (0 : Int)) = false, inR IntKind.i64 ((↑l : Int) - (1 : Int)), ((↑(6 : Nat) : Int) == (1 : Int)) = false, ((↑(6 : Nat) : Int) == (2 : Int)) = false, ((↑(6 : Nat) : Int) == (3 : Int)) = false, ((↑(6 : Nat) : Int) == (4 : Int)) = false, ((↑(6 : Nat) : Int) == (5 : Int)) = false, ((↑(6 : Nat) : Int) == (6 : Int)) = true, ((↑(6 : Nat) : Int) == (6 : Int)) = true] (by kernel_rfl) (by kernel_rfl) (by kernel_rfl) ⟨(by assumption), rfl, inR64 (by omega) (by omega), rfl, rfl, rfl, rfl, rfl, rfl, rfl⟩ ?_
  have e1 := kid_new (e := 117) x
  have e2 := deep_D f
  have e3 : BlkEqv (.row 117 4 (1 + 1) (catF 1 (rowF encK .nil [x]) (fun i j => nthD (encK y) ((0 + i) * 4 + j)))) (.row 117 4 (1 + 1) (rowF encK .nil [x, y])) := enc_app [x] y rfl
  refine Wp.loopK (by kernel_rfl) (fun (j : Nat) => match j with | 0 => kidSt b f 2 6 0 865 (p + 1) ((l : Int) - 1) 0 [] | 1 => kidSt b f 2 6 1 865 p1 l1 0 [x] | _ => kidSt b f 2 6 2 865 p2 l2 e [x, y]) (fun j => j ≤ 2) (fun j => 2 - j) 0 (Ent.of [(1, 1), (289, 289)] (by kernel_rfl) (by kernel_rfl) (by kernel_rfl) trivial) (Nat.zero_le _) ?_
  intro j L hj again
  obtain rfl | rfl | rfl : j = 0 ∨ j = 1 ∨ j = 2 := by omega
  · refine Wp.go (mx := true) (fun _ => mixed) [(35, {cs := [(5, cb [0] cx)], fm := [(4, .c (.int .i64 ((17 : Int) - (f : Int))))], bs := [(7, Blk.row 117 4 1 (rowF encK .nil [x]))]})] 100 [true] [(bif decide ((0 : Int) < (2 : Int)) then (0 : Int) == (0 : Int) else false) = true, EqvI (V1.c (Cell.int .i64 ((17 : Int) - (↑(f + (1 : Nat)) : Int) + (1 : Int)))) (V1.c (Cell.int .i64 ((17 : Int) - (↑f : Int)))), EqvD (V1.c (Cell.int .i64 ((17 : Int) - (↑(f + (1 : Nat)) : Int) + (1 : Int)))) (V1.c (Cell.int .i64 ((17 : Int) - (↑f : Int)))), inR IntKind.i64 ((17 : Int) - (↑(f + (1 : Nat)) : Int) + (1 : Int)), (56 : Nat) ≤ (140737488355328 : Nat), BlkEqv (Blk.row 117 (4 : Nat) (1 : Nat) (catF (0 : Nat) (fun (x x_1 : Nat) => Cell.nilif) fun (i j : Nat) => nthD [Cell.int .i64 x.k, Cell.int .i64 x.n, Cell.str x.s, Cell.sl (4 : Nat) x.m x.f] (((0 : Nat) + i) * (4 : Nat) + j))) (Blk.row 117 (4 : Nat) (1 : Nat) (rowF encK KT.nil [x])), (0 : Nat) + (1 : Nat) ≤ (1 : Nat), inR IntKind.i64 ((0 : Int) + (1 : Int))] (by kernel_rfl) (by kernel_rfl) (by kernel_rfl) ⟨rfl, fun _ _ => trivial, (by assumption), inR64 (by omega) (by omega), (by omega), (by assumption), (by omega), inR64 (by omega) (by omega)⟩ ?_
    exact Wp.lpK (by kernel_rfl) (again _ 1 (by omega) (by omega) (Ent.of [(41, 1137)] (by kernel_rfl) (by kernel_rfl) (by kernel_rfl) trivial))
  · refine Wp.go (mx := true) (fun _ => mixed) [(35, {cs := [(5, cb [0] cy)], fm := [(4, .c (.int .i64 ((17 : Int) - (f : Int))))], bs := [(7, Blk.row 117 4 2 (rowF encK .nil [x, y]))]})] 100 [true] [(bif decide ((1 : Int) < (2 : Int)) then (0 : Int) == (0 : Int) else false) = true, EqvI (V1.c (Cell.int .i64 ((17 : Int) - (↑(f + (1 : Nat)) : Int) + (1 : Int)))) (V1.c (Cell.int .i64 ((17 : Int) - (↑f : Int)))), EqvD (V1.c (Cell.int .i64 ((17 : Int) - (↑(f + (1 : Nat)) : Int) + (1 : Int)))) (V1.c (Cell.int .i64 ((17 : Int) - (↑f : Int)))), inR IntKind.i64 ((17 : Int) - (↑(f + (1 : Nat)) : Int) + (1 : Int)), (112 : Nat) ≤ (140737488355328 : Nat), BlkEqv (Blk.row 117 (4 : Nat) (2 : Nat) (catF (([] : List UInt8).length + (1 : Nat)) (rowF encK KT.nil [x]) fun (i j : Nat) => nthD [Cell.int .i64 y.k, Cell.int .i64 y.n, Cell.str y.s, Cell.sl (4 : Nat) y.m y.f] (((0 : Nat) + i) * (4 : Nat) + j))) (Blk.row 117 (4 : Nat) (2 : Nat) (rowF encK KT.nil [x, y])), ([] : List UInt8).length + (1 : Nat) ≤ ([] : List UInt8).length + (1 : Nat), (0 : Nat) + (1 : Nat) ≤ (1 : Nat), inR IntKind.i64 ((1 : Int) + (1 : Int))] (by kernel_rfl) (by kernel_rfl) (by kernel_rfl) ⟨rfl, fun _ _ => trivial, (by assumption), inR64 (by omega) (by omega), (by omega), (by assumption), (by omega), (by omega), inR64 (by omega) (by omega)⟩ ?_
    exact Wp.lpK (by kernel_rfl) (again _ 2 (by omega) (by omega) (Ent.of [(41, 1137)] (by kernel_rfl) (by kernel_rfl) (by kernel_rfl) trivial))
  · refine Wp.ent' (by kernel_rfl) (Ent.pubC (id := 41) (b := 289) (o := 3) (off := 0) (m := 2) (sz := 4) (n := 2) (e := 117) (e' := 117) (cs := [.int .i64 6, .int .i64 0, .str [], .row 4 41 0 2]) (f := rowF encK .nil [x, y]) (m' := 2) (f' := rowF encK .nil [x, y]) (by kernel_rfl) (by kernel_rfl) (by kernel_rfl) (by omega) rfl (fun i _ j _ => by rw [Nat.zero_add]) rfl) ?_
    refine Wp.go (mx := true) (fun _ => mixed) [] 100 [false] [(bif decide ((2 : Int) < (2 : Int)) then e == (0 : Int) else false) = false] (by kernel_rfl) (by kernel_rfl) (by kernel_rfl) rfl ?_
    refine Wp.ret' (by kernel_rfl) ?_
    exact FinQ.blk [] (by kernel_rfl) (by kernel_rfl) (by kernel_rfl) (by kernel_rfl) (by kernel_rfl) trivial
theorem node_twoX7 (b : List UInt8) (hb : b.length ≤ 30000000000000) (f p l : Nat) (hf : f < 16) (hl : 0 < l) (hl2 : l ≤ 64) (hp : p < b.length) (hk : (b.getD p 0).toNat = 7) {x : KT} {p1 : Nat} {l1 e : Int} (he : e ≠ 0) (cx : FnB Tryz.prog G 260 [rB b (p + 1) ((l : Int) - 1) 0] [.c (.ptr 0 0), .c (.int .i64 (17 - (f : Int)))] [.agg (encK x)] [(0, rB b p1 l1 e)]) : FnB Tryz.prog G 260 [rB b p l 0] [.c (.ptr 0 0), .c (.int .i64 (17 - ((f + 1 : Nat) : Int)))] [.agg (encK ⟨7, 0, [], 1, rowF encK .nil [x]⟩)] [(0, rB b p1 l1 e)] := by
  refine Fn.of' Tryz.func260 (by kernel_rfl) (by kernel_rfl) (by kernel_rfl) (by kernel_rfl) trivial ?_
  have ht0 : (bif (0 : Int) == 0 then bif decide ((l : Int) < 1) then true else decide (17 - ((f + 1 : Nat) : Int) > 16) else false) = false := by rw [decide_eq_false (by omega), decide_eq_false (by omega)]; rfl
  have c1 := num1 (G := G) b p ((l : Int) - 1) hb hp hk
  refine Wp.go (mx := true) (fun _ => mixed) [(7, {cs := [(1, cb [0] c1)]})] 100 [false, false, false, false, false, false, false, false, true] [(bif (0 : Int) == (0 : Int) then bif decide ((↑l : Int) < (1 : Int)) then true else decide ((17 : Int) - (↑(f + (1 : Nat)) : Int) > (16 : Int)) else false) = false, ((0 : Int) != (0 : Int)) = false, inR IntKind.i64 ((↑l : Int) - (1 : Int)), ((↑(7 : Nat) : Int) == (1 : Int)) = false, ((↑(7 : Nat) : Int) == (2 : Int)) = false, ((↑(7 : Nat) : Int) == (3 : Int)) = false, ((↑(7 : Nat) : Int) == (4 : Int)) = false, ((↑(7 : Nat) : Int) == (5 : Int)) = false, ((↑(7 : Nat) : Int) == (6 : Int)) = false, ((↑(7 : Nat) : Int) == (7 : Int)) = true] (by kernel_rfl) (by kernel_rfl) (by kernel_rfl) ⟨(by assumption), rfl, inR64 (by omega) (by omega), rfl, rfl, rfl, rfl, rfl, rfl, rfl⟩ ?_
  have e1 := kid_new (e := 117) x
  have e2 := deep_D f
  refine Wp.loopK (by kernel_rfl) (fun (j : Nat) => match j with | 0 => kidSt b f 2 7 0 897 (p + 1) ((l : Int) - 1) 0 [] | _ => kidSt b f 2 7 1 897 p1 l1 e [x]) (fun j => j ≤ 1) (fun j => 1 - j) 0 (Ent.of [(1, 1), (289, 289)] (by kernel_rfl) (by kernel_rfl) (by kernel_rfl) trivial) (Nat.zero_le _) ?_
  intro j L hj again
  obtain rfl | rfl : j = 0 ∨ j = 1 := by omega
  · refine Wp.go (mx := true) (fun _ => mixed) [(35, {cs := [(5, cb [0] cx)], fm := [(4, .c (.int .i64 ((17 : Int) - (f : Int))))], bs := [(7, Blk.row 117 4 1 (rowF encK .nil [x]))]})] 100 [true] [(bif decide ((0 : Int) < (2 : Int)) then (0 : Int) == (0 : Int) else false) = true, EqvI (V1.c (Cell.int .i64 ((17 : Int) - (↑(f + (1 : Nat)) : Int) + (1 : Int)))) (V1.c (Cell.int .i64 ((17 : Int) - (↑f : Int)))), EqvD (V1.c (Cell.int .i64 ((17 : Int) - (↑(f + (1 : Nat)) : Int) + (1 : Int)))) (V1.c (Cell.int .i64 ((17 : Int) - (↑f : Int)))), inR IntKind.i64 ((17 : Int) - (↑(f + (1 : Nat)) : Int) + (1 : Int)), (56 : Nat) ≤ (140737488355328 : Nat), BlkEqv (Blk.row 117 (4 : Nat) (1 : Nat) (catF (0 : Nat) (fun (x x_1 : Nat) => Cell.nilif) fun (i j : Nat) => nthD [Cell.int .i64 x.k, Cell.int .i64 x.n, Cell.str x.s, Cell.sl (4 : Nat) x.m x.f] (((0 : Nat) + i) * (4 : Nat) + j))) (Blk.row 117 (4 : Nat) (1 : Nat) (rowF encK KT.nil [x])), (0 : Nat) + (1 : Nat) ≤ (1 : Nat), inR IntKind.i64 ((0 : Int) + (1 : Int))] (by kernel_rfl) (by kernel_rfl) (by kernel_rfl) ⟨rfl, fun _ _ => trivial, (by assumption), inR64 (by omega) (by omega), (by omega), (by assumption), (by omega), inR64 (by omega) (by omega)⟩ ?_
    exact Wp.lpK (by kernel_rfl) (again _ 1 (by omega) (by omega) (Ent.of [(41, 1169)] (by kernel_rfl) (by kernel_rfl) (by kernel_rfl) trivial))
  · refine Wp.ent' (by kernel_rfl) (Ent.pubC (id := 41) (b := 289) (o := 3) (off := 0) (m := 1) (sz := 4) (n := 1) (e := 117) (e' := 117) (cs := [.int .i64 7, .int .i64 0, .str [], .row 4 41 0 1]) (f := rowF encK .nil [x]) (m' := 1) (f' := rowF encK .nil [x]) (by kernel_rfl) (by kernel_rfl) (by kernel_rfl) (by omega) rfl (fun i _ j _ => by rw [Nat.zero_add]) rfl) ?_
    have ht : (bif decide ((1 : Int) < 2) then e == 0 else false) = false := by simp [he]
    refine Wp.go (mx := true) (fun _ => mixed) [] 100 [false] [(bif decide ((1 : Int) < (2 : Int)) then e == (0 : Int) else false) = false] (by kernel_rfl) (by kernel_rfl) (by kernel_rfl) (show (bif decide ((1 : Int) < (2 : Int)) then e == (0 : Int) else false) = false from (by assumption)) ?_
    refine Wp.ret' (by kernel_rfl) ?_
    exact FinQ.blk [] (by kernel_rfl) (by kernel_rfl) (by kernel_rfl) (by kernel_rfl) (by kernel_rfl) trivial
theorem node_two7 (b : List UInt8) (hb : b.length ≤ 30000000000000) (f p l : Nat) (hf : f < 16) (hl : 0 < l) (hl2 : l ≤ 64) (hp : p < b.length) (hk : (b.getD p 0).toNat = 7) {x y : KT} {p1 p2 : Nat} {l1 l2 e : Int} (cx : FnB Tryz.prog G 260 [rB b (p + 1) ((l : Int) - 1) 0] [.c (.ptr 0 0), .c (.int .i64 (17 - (f : Int)))] [.agg (encK x)] [(0, rB b p1 l1 0)]) (cy : FnB Tryz.prog G 260 [rB b p1 l1 0] [.c (.ptr 0 0), .c (.int .i64 (17 - (f : Int)))] [.agg (encK y)] [(0, rB b p2 l2 e)]) : FnB Tryz.prog G 260 [rB b p l 0] [.c (.ptr 0 0), .c (.int .i64 (17 - ((f + 1 : Nat) : Int)))] [.agg (encK ⟨7, 0, [], 2, rowF encK .nil [x, y]⟩)] [(0, rB b p2 l2 e)] := by
  refine Fn.of' Tryz.func260 (by kernel_rfl) (by kernel_rfl) (by kernel_rfl) (by kernel_rfl) trivial ?_
  have ht0 : (bif (0 : Int) == 0 then bif decide ((l : Int) < 1) then true else decide (17 - ((f + 1 : Nat) : Int) > 16) else false) = false := by rw [decide_eq_false (by omega), decide_eq_false (by omega)]; rfl
  have c1 := num1 (G := G) b p ((l : Int) - 1) hb hp hk
  refine Wp.go (mx := true) (fun _ => mixed) [(7, {cs := [(1, cb [0] c1)]})] 100 [false, false, false, false, false, false, false, false, true] [(bif (0 : Int) == (0 : Int) then bif decide ((↑l : Int) < (1 : Int)) then true else decide ((17 : Int) - (↑(f + (1 : Nat)) : Int) > (16 : Int)) else false) = false, ((0 : Int) != (0 : Int)) = false, inR IntKind.i64 ((↑l : Int) - (1 : Int)), ((↑(7 : Nat) : Int) == (1 : Int)) = false, ((↑(7 : Nat) : Int) == (2 : Int)) = false, ((↑(7 : Nat) : Int) == (3 : Int)) = false, ((↑(7 : Nat) : Int) == (4 : Int)) = false, ((↑(7 : Nat) : Int) == (5 : Int)) = false, ((↑(7 : Nat) : Int) == (6 : Int)) = false, ((↑(7 : Nat) : Int) == (7 : Int)) = true] (by kernel_rfl) (by kernel_rfl) (by kernel_rfl) ⟨(by assumption), rfl, inR64 (by omega) (by omega), rfl, rfl, rfl, rfl, rfl, rfl, rfl⟩ ?_
  have e1 := kid_new (e := 117) x
  have e2 := deep_D f
  have e3 : BlkEqv (.row 117 4 (1 + 1) (catF 1 (rowF encK .nil [x]) (fun i j => nthD (encK y) ((0 + i) * 4 + j)))) (.row 117 4 (1 + 1) (rowF encK .nil [x, y])) := enc_app [x] y rfl
  refine Wp.loopK (by kernel_rfl) (fun (j : Nat) => match j with | 0 => kidSt b f 2 7 0 897 (p + 1) ((l : Int) - 1) 0 [] | 1 => kidSt b f 2 7 1 897 p1 l1 0 [x] | _ => kidSt b f 2 7 2 897 p2 l2 e [x, y]) (fun j => j ≤ 2) (fun j => 2 - j) 0 (Ent.of [(1, 1), (289, 289)] (by kernel_rfl) (by kernel_rfl) (by kernel_rfl) trivial) (Nat.zero_le _) ?_
  intro j L hj again
  obtain rfl | rfl | rfl : j = 0 ∨ j = 1 ∨ j = 2 := by omega
  · refine Wp.go (mx := true) (fun _ => mixed) [(35, {cs := [(5, cb [0] cx)], fm := [(4, .c (.int .i64 ((17 : Int) - (f : Int))))], bs := [(7, Blk.row 117 4 1 (rowF encK .nil [x]))]})] 100 [true] [(bif decide ((0 : Int) < (2 : Int)) then (0 : Int) == (0 : Int) else false) = true, EqvI (V1.c (Cell.int .i64 ((17 : Int) - (↑(f + (1 : Nat)) : Int) + (1 : Int)))) (V1.c (Cell.int .i64 ((17 : Int) - (↑f : Int)))), EqvD (V1.c (Cell.int .i64 ((17 : Int) - (↑(f + (1 : Nat)) : Int) + (1 : Int)))) (V1.c (Cell.int .i64 ((17 : Int) - (↑f : Int)))), inR IntKind.i64 ((17 : Int) - (↑(f + (1 : Nat)) : Int) + (1 : Int)), (56 : Nat) ≤ (140737488355328 : Nat), BlkEqv (Blk.row 117 (4 : Nat) (1 : Nat) (catF (0 : Nat) (fun (x x_1 : Nat) => Cell.nilif) fun (i j : Nat) => nthD [Cell.int .i64 x.k, Cell.int .i64 x.n, Cell.str x.s, Cell.sl (4 : Nat) x.m x.f] (((0 : Nat) + i) * (4 : Nat) + j))) (Blk.row 117 (4 : Nat) (1 : Nat) (rowF encK KT.nil [x])), (0 : Nat) + (1 : Nat) ≤ (1 : Nat), inR IntKind.i64 ((0 : Int) + (1 : Int))] (by kernel_rfl) (by kernel_rfl) (by kernel_rfl) ⟨rfl, fun _ _ => trivial, (by assumption), inR64 (by omega) (by omega), (by omega), (by assumption), (by omega), inR64 (by omega) (by omega)⟩ ?_
    exact Wp.lpK (by kernel_rfl) (again _ 1 (by omega) (by omega) (Ent.of [(41, 1169)] (by kernel_rfl) (by kernel_rfl) (by kernel_rfl) trivial))
  · refine Wp.go (mx := true) (fun _ => mixed) [(35, {cs := [(5, cb [0] cy)], fm := [(4, .c (.int .i64 ((17 : Int) - (f : Int))))], bs := [(7, Blk.row 117 4 2 (rowF encK .nil [x, y]))]})] 100 [true] [(bif decide ((1 : Int) < (2 : Int)) then (0 : Int) == (0 : Int) else false) = true, EqvI (V1.c (Cell.int .i64 ((17 : Int) - (↑(f + (1 : Nat)) : Int) + (1 : Int)))) (V1.c (Cell.int .i64 ((17 : Int) - (↑f : Int)))), EqvD (V1.c (Cell.int .i64 ((17 : Int) - (↑(f + (1 : Nat)) : Int) + (1 : Int)))) (V1.c (Cell.int .i64 ((17 : Int) - (↑f : Int)))), inR IntKind.i64 ((17 : Int) - (↑(f + (1 : Nat)) : Int) + (1 : Int)), (112 : Nat) ≤ (140737488355328 : Nat), BlkEqv (Blk.row 117 (4 : Nat) (2 : Nat) (catF (([] : List UInt8).length + (1 : Nat)) (rowF encK KT.nil [x]) fun (i j : Nat) => nthD [Cell.int .i64 y.k, Cell.int .i64 y.n, Cell.str y.s, Cell.sl (4 : Nat) y.m y.f] (((0 : Nat) + i) * (4 : Nat) + j))) (Blk.row 117 (4 : Nat) (2 : Nat) (rowF encK KT.nil [x, y])), ([] : List UInt8).length + (1 : Nat) ≤ ([] : List UInt8).length + (1 : Nat), (0 : Nat) + (1 : Nat) ≤ (1 : Nat), inR IntKind.i64 ((1 : Int) + (1 : Int))] (by kernel_rfl) (by kernel_rfl) (by kernel_rfl) ⟨rfl, fun _ _ => trivial, (by assumption), inR64 (by omega) (by omega), (by omega), (by assumption), (by omega), (by omega), inR64 (by omega) (by omega)⟩ ?_
    exact Wp.lpK (by kernel_rfl) (again _ 2 (by omega) (by omega) (Ent.of [(41, 1169)] (by kernel_rfl) (by kernel_rfl) (by kernel_rfl) trivial))
  · refine Wp.ent' (by kernel_rfl) (Ent.pubC (id := 41) (b := 289) (o := 3) (off := 0) (m := 2) (sz := 4) (n := 2) (e := 117) (e' := 117) (cs := [.int .i64 7, .int .i64 0, .str [], .row 4 41 0 2]) (f := rowF encK .nil [x, y]) (m' := 2) (f' := rowF encK .nil [x, y]) (by kernel_rfl) (by kernel_rfl) (by kernel_rfl) (by omega) rfl (fun i _ j _ => by rw [Nat.zero_add]) rfl) ?_
    refine Wp.go (mx := true) (fun _ => mixed) [] 100 [false] [(bif decide ((2 : Int) < (2 : Int)) then e == (0 : Int) else false) = false] (by kernel_rfl) (by kernel_rfl) (by kernel_rfl) rfl ?_
    refine Wp.ret' (by kernel_rfl) ?_
    exact FinQ.blk [] (by kernel_rfl) (by kernel_rfl) (by kernel_rfl) (by kernel_rfl) (by kernel_rfl) trivial
end Go.Proofs.Tw
end

section
open Go Go.Sv Go.RowKit
namespace Go.Proofs.Tw
attribute [local irreducible] Wp FinQ resV Ent Pur Go.Sv.Fn Sat0
set_option maxRecDepth 100000
set_option maxHeartbeats 4000000
variable {G : Nat → Option (List Cell)}

/-- What the document's reader makes of a node. -/
def NodeR (G : Nat → Option (List Cell)) (b : List UInt8) (f p l : Nat) : Prop := ∃ (x : KT) (p' : Nat) (l' e : Int), rdOut (rdT b f p l) x p' l' e ∧
  FnB Tryz.prog G 260 [rB b p (l : Int) 0] [.c (.ptr 0 0), .c (.int .i64 (17 - (f : Int)))] [.agg (encK x)] [(0, rB b p' l' e)]
theorem node_kids (b : List UInt8) (f p l : Nat) (hl : 0 < l) (ih : ∀ p l, p ≤ b.length → l ≤ 64 → NodeR G b f p l) (hp : p < b.length) (hl2 : l ≤ 64) :
    ∃ (x : KT) (p' : Nat) (l' e : Int), rdOut (rdT b f (p + 1) (l - 1)) x p' l' e ∧ FnB Tryz.prog G 260 [rB b (p + 1) ((l : Int) - 1) 0] [.c (.ptr 0 0), .c (.int .i64 (17 - (f : Int)))] [.agg (encK x)] [(0, rB b p' l' e)] := by
  have := ih (p + 1) (l - 1) (by omega) (by omega)
  unfold NodeR at this
  rw [show ((l - 1 : Nat) : Int) = (l : Int) - 1 by omega] at this
  exact this
theorem node_ok (b : List UInt8) (hb : b.length ≤ 30000000000000) : ∀ f, f ≤ 16 → ∀ p l, p ≤ b.length → l ≤ 64 → NodeR G b f p l
  | 0, hf, p, l, hp, hl => ⟨_, _, _, _, (by show (4 : Int) ≠ 0; decide), node_deep b 0 p l hf hl (.inl rfl)⟩
  | f + 1, hf, p, l, hp, hl2 => by
    have ih := node_ok b hb f (by omega)
    unfold NodeR
    rcases Nat.eq_zero_or_pos l with h0 | hl
    · refine ⟨_, _, _, _, ?_, node_deep b (f + 1) p l hf hl2 (.inr h0)⟩
      rw [rdT, if_pos h0]; show (4 : Int) ≠ 0; decide
    rw [rdT, if_neg (by omega)]
    rcases Nat.lt_or_ge p b.length with hlt | hge
    · rw [if_neg (by omega)]
      generalize hk : (b.getD p 0).toNat = k
      by_cases k1 : k = 1
      · subst k1
        rw [if_pos rfl]
        rcases Nat.lt_or_ge b.length (p + 1 + 2) with h2 | h2
        · exact ⟨_, _, _, _, (by rw [if_pos h2]; show (1 : Int) ≠ 0; decide), node_a1 b hb f p l hf hl hl2 hlt hk h2⟩
        · rw [if_neg (by omega)]
          generalize hn : (beN b (p + 1) 2).toNat = n
          rcases Nat.lt_or_ge 1024 n with h3 | h3
          · exact ⟨_, _, _, _, (by rw [if_pos h3]; show (3 : Int) ≠ 0; decide), node_a2 b hb f p l hf hl hl2 hlt hk h2 hn h3⟩
          · rw [if_neg (by omega)]
            rcases Nat.lt_or_ge b.length (p + 1 + 2 + n) with h4 | h4
            · exact ⟨_, _, _, _, (by rw [if_pos h4]; show (1 : Int) ≠ 0; decide), node_a3 b hb f p l hf hl hl2 hlt hk h2 hn h3 h4⟩
            · exact ⟨_, _, _, _, (by rw [if_neg (by omega)]; exact ⟨rfl, rfl, by omega, rfl⟩), node_a4 b hb f p l hf hl hl2 hlt hk h2 hn h3 h4⟩
      rw [if_neg k1]
      by_cases k2 : k = 2
      · subst k2
        rw [if_pos rfl]
        rcases Nat.lt_or_ge b.length (p + 1 + 4) with h2 | h2
        · exact ⟨_, _, _, _, (by rw [if_pos h2]; show (1 : Int) ≠ 0; decide), node_n1 b hb f p l hf hl hl2 hlt hk h2⟩
        · rw [if_neg (by omega)]
          generalize hn : (beN b (p + 1) 4).toNat = n
          rcases Nat.lt_or_ge 1073741824 n with h3 | h3
          · exact ⟨_, _, _, _, (by rw [if_pos h3]; show (3 : Int) ≠ 0; decide), node_n2 b hb f p l hf hl hl2 hlt hk h2 hn h3⟩
          · exact ⟨_, _, _, _, (by rw [if_neg (by omega)]; exact ⟨rfl, rfl, by omega, rfl⟩), node_n3 b hb f p l hf hl hl2 hlt hk h2 hn h3⟩
      rw [if_neg k2]
      obtain ⟨x, p1, l1, e1, hr, c⟩ := node_kids (G := G) b f p l hl ih hlt hl2
      by_cases k34 : k = 3 ∨ k = 4
      · rw [if_pos k34]
        have hout : rdOut (match rdT b f (p + 1) (l - 1) with | none => none | some (t, p1, l1) => some (.one (k : Int) t, p1, l1)) ⟨(k : Int), 0, [], 1, rowF encK .nil [x]⟩ p1 l1 e1 := by
          revert hr
          cases rdT b f (p + 1) (l - 1) with
          | none => exact fun h => h
          | some t => exact fun h => ⟨by rw [h.1]; rfl, h.2⟩
        rcases k34 with rfl | rfl
        · exact ⟨_, _, _, _, hout, node_one3 b hb f p l (by omega) hl hl2 hlt hk c⟩
        · exact ⟨_, _, _, _, hout, node_one4 b hb f p l (by omega) hl hl2 hlt hk c⟩
      rw [if_neg k34]
      by_cases k57 : k = 5 ∨ k = 6 ∨ k = 7
      · rw [if_pos k57]
        cases h1 : rdT b f (p + 1) (l - 1) with
        | none =>
          rw [h1] at hr
          have hr : e1 ≠ 0 := hr
          rcases k57 with rfl | rfl | rfl
          · exact ⟨_, _, _, _, hr, node_twoX5 b hb f p l (by omega) hl hl2 hlt hk hr c⟩
          · exact ⟨_, _, _, _, hr, node_twoX6 b hb f p l (by omega) hl hl2 hlt hk hr c⟩
          · exact ⟨_, _, _, _, hr, node_twoX7 b hb f p l (by omega) hl hl2 hlt hk hr c⟩
        | some t =>
          obtain ⟨t, q, m⟩ := t
          rw [h1] at hr
          obtain ⟨hx, hp1, hl1, he1⟩ := hr
          subst hx hp1 hl1 he1
          have hle := rdT_le b f _ _ _ _ _ h1
          obtain ⟨y, p2, l2, e2, hr2, c2⟩ := ih p1 m hle.1 (by omega)
          simp only []
          have hout : rdOut (match rdT b f p1 m with | none => none | some (u, p2, l2) => some (.two (k : Int) t u, p2, l2)) ⟨(k : Int), 0, [], 2, rowF encK .nil [toK t, y]⟩ p2 l2 e2 := by
            revert hr2
            cases rdT b f p1 m with
            | none => exact fun h => h
            | some t => exact fun h => ⟨by rw [h.1]; rfl, h.2⟩
          rcases k57 with rfl | rfl | rfl
          · exact ⟨_, _, _, _, hout, node_two5 b hb f p l (by omega) hl hl2 hlt hk c c2⟩
          · exact ⟨_, _, _, _, hout, node_two6 b hb f p l (by omega) hl hl2 hlt hk c c2⟩
          · exact ⟨_, _, _, _, hout, node_two7 b hb f p l (by omega) hl hl2 hlt hk c c2⟩
      rw [if_neg k57]
      exact ⟨_, _, _, _, (by show (2 : Int) ≠ 0; decide), node_bad b hb f p l (by omega) hl hl2 hlt hk (by omega)⟩
    · rw [if_pos (by omega)]
      exact ⟨_, _, _, _, (by show (1 : Int) ≠ 0; decide), node_short b hb f p l (by omega) hl hl2 (by omega)⟩
end Go.Proofs.Tw
end

section
open Go Go.Sv Go.RowKit
namespace Go.Proofs.Tw
attribute [local irreducible] Wp FinQ resV Ent Pur Go.Sv.Fn Sat0
set_option maxRecDepth 100000
set_option maxHeartbeats 4000000
variable {G : Nat → Option (List Cell)}

/-- The term that bytes are. -/
def oneT (b : List UInt8) : Option Tm := match rdT b 16 0 64 with
  | some (t, p, _) => if p = b.length then some t else none
  | none => none
/-- The term that signs tell. -/
def innT (s : List UInt8) : Option Tm := match dec8 s with
  | some o => oneT o
  | none => none
theorem take2_good (b : List UInt8) (hb : b.length ≤ 30000000000000) {t : Tm} {p l : Nat} (h : rdT b 16 0 64 = some (t, p, l)) : Pur Tryz.prog G 245 [.c (.sl 1 b.length (bytesF b))] [.agg (encK (toK t)), .c (.int .i64 (p : Int)), .c (.int .i64 0)] := by
  refine Pur.of Tryz.func245 (by kernel_rfl) (by kernel_rfl) (by kernel_rfl) ?_
  obtain ⟨x, p', l', e, hr, c⟩ := node_ok (G := G) b hb 16 (by decide) 0 64 (by omega) (by decide)
  rw [h] at hr
  obtain ⟨rfl, rfl, rfl, rfl⟩ := hr
  refine Wp.go (mx := true) (fun _ => mixed) [(2, {cs := [(1, cb [80] c)]})] 100 [false] [((0 : Int) != (0 : Int)) = false] (by kernel_rfl) (by kernel_rfl) (by kernel_rfl) rfl ?_
  refine Wp.ret' (by kernel_rfl) ?_
  exact FinQ.pure (rs' := [V1.agg [Cell.int .i64 (toK t).k, Cell.int .i64 (toK t).n, Cell.str (toK t).s, Cell.sl (4 : Nat) (toK t).m (toK t).f], V1.c (Cell.int .i64 (↑p' : Int)), V1.c (Cell.int .i64 (0 : Int))]) (by kernel_rfl) rfl (by kernel_rfl)
theorem take2_bad (b : List UInt8) (hb : b.length ≤ 30000000000000) (h : rdT b 16 0 64 = none) : ∃ e : Int, e ≠ 0 ∧ Pur Tryz.prog G 245 [.c (.sl 1 b.length (bytesF b))] [.agg [.int .i64 0, .int .i64 0, .str [], .nilsl], .c (.int .i64 0), .c (.int .i64 e)] := by
  obtain ⟨x, p', l', e, hr, c⟩ := node_ok (G := G) b hb 16 (by decide) 0 64 (by omega) (by decide)
  rw [h] at hr
  have hr : e ≠ 0 := hr
  refine ⟨e, hr, ?_⟩
  refine Pur.of Tryz.func245 (by kernel_rfl) (by kernel_rfl) (by kernel_rfl) ?_
  have ht : (e != 0) = true := by simp [hr]
  refine Wp.go (mx := true) (fun _ => mixed) [(2, {cs := [(1, cb [80] c)]})] 100 [true] [(e != (0 : Int)) = true] (by kernel_rfl) (by kernel_rfl) (by kernel_rfl) (show (e != (0 : Int)) = true from (by assumption)) ?_
  refine Wp.ret' (by kernel_rfl) ?_
  exact FinQ.pure (rs' := [V1.agg [Cell.int .i64 (0 : Int), Cell.int .i64 (0 : Int), Cell.str [], Cell.nilsl], V1.c (Cell.int .i64 (0 : Int)), V1.c (Cell.int .i64 e)]) (by kernel_rfl) rfl (by kernel_rfl)
theorem one2_good (b : List UInt8) (hb : b.length ≤ 30000000000000) {t : Tm} (h : oneT b = some t) : Pur Tryz.prog G 220 [.c (.sl 1 b.length (bytesF b))] [.agg (encK (toK t)), .c (.int .i64 0)] := by
  unfold oneT at h
  split at h
  · rename_i t2 p l h1
    split at h
    · rename_i hp
      simp only [Option.some.injEq] at h
      subst h hp
      refine Pur.of Tryz.func220 (by kernel_rfl) (by kernel_rfl) (by kernel_rfl) ?_
      have c := take2_good (G := G) b hb h1
      have ht : (bif (0 : Int) == 0 then decide ((b.length : Int) < (b.length : Int)) else false) = false := by simp
      refine Wp.go (mx := true) (fun _ => mixed) [(1, {cs := [(1, pc c)]})] 100 [false, false] [(bif (0 : Int) == (0 : Int) then decide ((↑b.length : Int) < (↑b.length : Int)) else false) = false, ((0 : Int) != (0 : Int)) = false] (by kernel_rfl) (by kernel_rfl) (by kernel_rfl) ⟨(by assumption), rfl⟩ ?_
      refine Wp.ret' (by kernel_rfl) ?_
      exact FinQ.pure (rs' := [V1.agg [Cell.int .i64 (toK t2).k, Cell.int .i64 (toK t2).n, Cell.str (toK t2).s, Cell.sl (4 : Nat) (toK t2).m (toK t2).f], V1.c (Cell.int .i64 (0 : Int))]) (by kernel_rfl) rfl (by kernel_rfl)
    · cases h
  · cases h
theorem one2_bad (b : List UInt8) (hb : b.length ≤ 30000000000000) (h : oneT b = none) : ∃ e : Int, e ≠ 0 ∧ Pur Tryz.prog G 220 [.c (.sl 1 b.length (bytesF b))] [.agg [.int .i64 0, .int .i64 0, .str [], .nilsl], .c (.int .i64 e)] := by
  unfold oneT at h
  split at h
  · rename_i t2 p l h1
    split at h
    · cases h
    · rename_i hp
      refine ⟨5, by decide, ?_⟩
      refine Pur.of Tryz.func220 (by kernel_rfl) (by kernel_rfl) (by kernel_rfl) ?_
      have c := take2_good (G := G) b hb h1
      have hle := rdT_le b _ _ _ _ _ _ h1
      have ht : (bif (0 : Int) == 0 then decide ((p : Int) < (b.length : Int)) else false) = true := by simp; omega
      refine Wp.go (mx := true) (fun _ => mixed) [(1, {cs := [(1, pc c)]})] 100 [true, true] [(bif (0 : Int) == (0 : Int) then decide ((↑p : Int) < (↑b.length : Int)) else false) = true, ((5 : Int) != (0 : Int)) = true] (by kernel_rfl) (by kernel_rfl) (by kernel_rfl) ⟨(by assumption), rfl⟩ ?_
      refine Wp.ret' (by kernel_rfl) ?_
      exact FinQ.pure (rs' := [V1.agg [Cell.int .i64 (0 : Int), Cell.int .i64 (0 : Int), Cell.str [], Cell.nilsl], V1.c (Cell.int .i64 (5 : Int))]) (by kernel_rfl) rfl (by kernel_rfl)
  · rename_i h1
    obtain ⟨e, he, c⟩ := take2_bad (G := G) b hb h1
    refine ⟨e, he, ?_⟩
    refine Pur.of Tryz.func220 (by kernel_rfl) (by kernel_rfl) (by kernel_rfl) ?_
    have ht : (bif e == 0 then decide ((0 : Int) < (b.length : Int)) else false) = false := by simp [he]
    have ht2 : (e != 0) = true := by simp [he]
    refine Wp.go (mx := true) (fun _ => mixed) [(1, {cs := [(1, pc c)]})] 100 [false, true] [(bif e == (0 : Int) then decide ((0 : Int) < (↑b.length : Int)) else false) = false, (e != (0 : Int)) = true] (by kernel_rfl) (by kernel_rfl) (by kernel_rfl) ⟨(by assumption), (show (e != (0 : Int)) = true from (by assumption))⟩ ?_
    refine Wp.ret' (by kernel_rfl) ?_
    exact FinQ.pure (rs' := [V1.agg [Cell.int .i64 (0 : Int), Cell.int .i64 (0 : Int), Cell.str [], Cell.nilsl], V1.c (Cell.int .i64 e)]) (by kernel_rfl) rfl (by kernel_rfl)
theorem slB_D (o : List UInt8) : EqvD (.c (slB o)) (.c (.sl 1 o.length (bytesF o))) := by
  cases o with
  | nil => exact nil_sl
  | cons a r => exact fun _ _ _ h => h
theorem inner9_good (s : List UInt8) (hs : s.length ≤ 30000000000000) {t : Tm} (h : innT s = some t) (hlen : ∀ o, dec8 s = some o → o.length ≤ 30000000000000) : Pur Tryz.prog G 174 [.c (.str s)] [.agg (encK (toK t)), .c (.bool true)] := by
  unfold innT at h
  split at h
  · rename_i o ho
    have c1 := dec8_ok (G := G) s hs
    rw [decR_some ho] at c1
    have c2 := one2_good (G := G) o (hlen o ho) h
    have e1 := slB_D o
    refine Pur.of Tryz.func174 (by kernel_rfl) (by kernel_rfl) (by kernel_rfl) ?_
    cases o with
    | nil =>
      have c1 : Pur Tryz.prog G 219 [.c (.str s)] [.c .nilsl, .c (.int .i64 0)] := c1
      have c2 : Pur Tryz.prog G 220 [.c (.sl 1 0 (bytesF []))] [.agg (encK (toK t)), .c (.int .i64 0)] := c2
      have e1 := nil_sl (f := bytesF [])
      refine Wp.go (mx := true) (fun _ => mixed) [(4, {cs := [(1, pc c2)], fm := [(0, .c (.sl 1 0 (bytesF [])))]}), (1, {cs := [(1, pc c1)]})] 100 [false] [((0 : Int) != (0 : Int)) = false, EqvI (V1.c Cell.nilsl) (V1.c (Cell.sl (1 : Nat) (0 : Nat) (bytesF []))), EqvD (V1.c Cell.nilsl) (V1.c (Cell.sl (1 : Nat) (0 : Nat) (bytesF [])))] (by kernel_rfl) (by kernel_rfl) (by kernel_rfl) ⟨rfl, fun _ _ => trivial, (show EqvD (V1.c Cell.nilsl) (V1.c (Cell.sl (1 : Nat) (0 : Nat) (bytesF []))) from (by assumption))⟩ ?_
      refine Wp.ret' (by kernel_rfl) ?_
      exact FinQ.pure (rs' := [V1.agg [Cell.int .i64 (toK t).k, Cell.int .i64 (toK t).n, Cell.str (toK t).s, Cell.sl (4 : Nat) (toK t).m (toK t).f], V1.c (Cell.bool ((0 : Int) == (0 : Int)))]) (by kernel_rfl) rfl (by kernel_rfl)
    | cons a r =>
      have c1 : Pur Tryz.prog G 219 [.c (.str s)] [.c (.sl 1 (a :: r).length (bytesF (a :: r))), .c (.int .i64 0)] := c1
      generalize a :: r = o at c1 c2
      refine Wp.go (mx := true) (fun _ => mixed) [(1, {cs := [(1, pc c1)]}), (4, {cs := [(1, pc c2)]})] 100 [false] [((0 : Int) != (0 : Int)) = false] (by kernel_rfl) (by kernel_rfl) (by kernel_rfl) rfl ?_
      refine Wp.ret' (by kernel_rfl) ?_
      exact FinQ.pure (rs' := [V1.agg [Cell.int .i64 (toK t).k, Cell.int .i64 (toK t).n, Cell.str (toK t).s, Cell.sl (4 : Nat) (toK t).m (toK t).f], V1.c (Cell.bool ((0 : Int) == (0 : Int)))]) (by kernel_rfl) rfl (by kernel_rfl)
  · cases h
theorem inner9_bad (s : List UInt8) (hs : s.length ≤ 30000000000000) (h : innT s = none) (hlen : ∀ o, dec8 s = some o → o.length ≤ 30000000000000) : Pur Tryz.prog G 174 [.c (.str s)] [.agg [.int .i64 0, .int .i64 0, .str [], .nilsl], .c (.bool false)] := by
  have c1 := dec8_ok (G := G) s hs
  unfold innT at h
  refine Pur.of Tryz.func174 (by kernel_rfl) (by kernel_rfl) (by kernel_rfl) ?_
  cases ho : dec8 s with
  | none =>
    rw [decR_none ho] at c1
    refine Wp.go (mx := true) (fun _ => mixed) [(1, {cs := [(1, pc c1)]})] 100 [true] [((3 : Int) != (0 : Int)) = true] (by kernel_rfl) (by kernel_rfl) (by kernel_rfl) rfl ?_
    refine Wp.ret' (by kernel_rfl) ?_
    exact FinQ.pure (rs' := [V1.agg [Cell.int .i64 (0 : Int), Cell.int .i64 (0 : Int), Cell.str [], Cell.nilsl], V1.c (Cell.bool false)]) (by kernel_rfl) rfl (by kernel_rfl)
  | some o =>
    rw [decR_some ho] at c1
    rw [ho] at h
    obtain ⟨e, he, c2⟩ := one2_bad (G := G) o (hlen o ho) h
    have ht : (e == 0) = false := by simp [he]
    cases o with
    | nil =>
      have c1 : Pur Tryz.prog G 219 [.c (.str s)] [.c .nilsl, .c (.int .i64 0)] := c1
      have c2 : Pur Tryz.prog G 220 [.c (.sl 1 0 (bytesF []))] [.agg [.int .i64 0, .int .i64 0, .str [], .nilsl], .c (.int .i64 e)] := c2
      have e1 := nil_sl (f := bytesF [])
      refine Wp.go (mx := true) (fun _ => mixed) [(4, {cs := [(1, pc c2)], fm := [(0, .c (.sl 1 0 (bytesF [])))]}), (1, {cs := [(1, pc c1)]})] 100 [false] [((0 : Int) != (0 : Int)) = false, EqvI (V1.c Cell.nilsl) (V1.c (Cell.sl (1 : Nat) (0 : Nat) (bytesF []))), EqvD (V1.c Cell.nilsl) (V1.c (Cell.sl (1 : Nat) (0 : Nat) (bytesF [])))] (by kernel_rfl) (by kernel_rfl) (by kernel_rfl) ⟨rfl, fun _ _ => trivial, (show EqvD (V1.c Cell.nilsl) (V1.c (Cell.sl (1 : Nat) (0 : Nat) (bytesF []))) from (by assumption))⟩ ?_
      refine Wp.ret' (by kernel_rfl) ?_
      exact FinQ.pure (rs' := [V1.agg [Cell.int .i64 (0 : Int), Cell.int .i64 (0 : Int), Cell.str [], Cell.nilsl], V1.c (Cell.bool (e == (0 : Int)))]) (by kernel_rfl) (by simp only [Int.ofNat_eq_natCast, Int.toNat_natCast, List.take_length, List.drop_zero, *]) (by kernel_rfl)
    | cons a r =>
      have c1 : Pur Tryz.prog G 219 [.c (.str s)] [.c (.sl 1 (a :: r).length (bytesF (a :: r))), .c (.int .i64 0)] := c1
      generalize a :: r = o at c1 c2
      refine Wp.go (mx := true) (fun _ => mixed) [(1, {cs := [(1, pc c1)]}), (4, {cs := [(1, pc c2)]})] 100 [false] [((0 : Int) != (0 : Int)) = false] (by kernel_rfl) (by kernel_rfl) (by kernel_rfl) rfl ?_
      refine Wp.ret' (by kernel_rfl) ?_
      exact FinQ.pure (rs' := [V1.agg [Cell.int .i64 (0 : Int), Cell.int .i64 (0 : Int), Cell.str [], Cell.nilsl], V1.c (Cell.bool (e == (0 : Int)))]) (by kernel_rfl) (by simp only [Int.ofNat_eq_natCast, Int.toNat_natCast, List.take_length, List.drop_zero, *]) (by kernel_rfl)
end Go.Proofs.Tw
end

section
open Go Go.Sv Go.RowKit
namespace Go.Proofs.Tw
attribute [local irreducible] Wp FinQ resV Ent Pur Go.Sv.Fn Sat0
set_option maxRecDepth 100000
set_option maxHeartbeats 4000000
variable {G : Nat → Option (List Cell)}

theorem rd8_len : ∀ (r : List UInt8) (v : Int) (bits : Nat) (out o : List UInt8), rd8 r v bits out = some o → o.length ≤ out.length + r.length
  | [], _, _, out, o, h => by simp only [rd8, Option.some.injEq] at h; subst h; simp
  | c :: r, v, bits, out, o, h => by
    unfold rd8 at h
    split at h
    · cases h
    · split at h
      · have := rd8_len r _ _ _ _ h; simp only [List.length_cons]; omega
      · have := rd8_len r _ _ _ _ h
        simp only [List.length_append, List.length_cons, List.length_nil] at this ⊢; omega
theorem dec8_len {s o : List UInt8} (h : dec8 s = some o) : o.length ≤ s.length := by
  unfold dec8 at h
  split at h
  · cases h
  · rename_i o2 h2
    split at h
    · simp only [Option.some.injEq] at h
      subst h
      have := rd8_len s 0 0 [] _ h2
      simpa using this
    · cases h
/-- Is it of a mark's shape? -/
def shapeT (s : List UInt8) : Bool := !(bif bif decide ((s.length : Int) < 2) then true else ((s.getD 0 0).toNat : Int) != 126 then true else ((s.getD (s.length - 1) 0).toNat : Int) != 126)
def coreT (s : List UInt8) : List UInt8 := (s.take (s.length - 1)).drop 1
/-- The term of a mark. -/
def readT (s : List UInt8) : Option Tm := if shapeT s = true then innT (coreT s) else none
theorem inner9_ok (s : List UInt8) (hs : s.length ≤ 30000000000000) : (∃ t, innT s = some t ∧ Pur Tryz.prog G 174 [.c (.str s)] [.agg (encK (toK t)), .c (.bool true)]) ∨ (innT s = none ∧ Pur Tryz.prog G 174 [.c (.str s)] [.agg [.int .i64 0, .int .i64 0, .str [], .nilsl], .c (.bool false)]) := by
  have hl : ∀ o, dec8 s = some o → o.length ≤ 30000000000000 := fun o h => by have := dec8_len h; omega
  cases h : innT s with
  | none => exact .inr ⟨rfl, inner9_bad s hs h hl⟩
  | some t => exact .inl ⟨t, rfl, inner9_good s hs h hl⟩
theorem coreT_len (s : List UInt8) : (coreT s).length ≤ s.length := by
  unfold coreT; rw [List.length_drop, List.length_take]; omega
theorem read9_ok (s : List UInt8) (hs : s.length ≤ 30000000000000) : (∃ t, readT s = some t ∧ Pur Tryz.prog G 131 [.c (.str s)] [.agg (encK (toK t)), .c (.bool true)]) ∨ (readT s = none ∧ Pur Tryz.prog G 131 [.c (.str s)] [.agg [.int .i64 0, .int .i64 0, .str [], .nilsl], .c (.bool false)]) := by
  unfold readT
  by_cases hsh : shapeT s = true
  · rw [if_pos hsh]
    have hsh2 := hsh
    unfold shapeT at hsh2
    rw [Bool.not_eq_true'] at hsh2
    have hge : 2 ≤ s.length := by
      rcases Nat.lt_or_ge s.length 2 with h | h
      · rw [decide_eq_true (by omega)] at hsh2; cases hsh2
      · exact h
    have e1 : EqvD (.c (.str (List.drop 1 (List.take (s.length - 1) s)))) (.c (.str (coreT s))) := fun _ _ _ h => h
    have e2 : EqvD (.c (.int .i64 ((s.length : Int) - 1))) (.c (.int .i64 ((s.length - 1 : Nat) : Int))) := eqvD_of (by rw [show (s.length : Int) - 1 = ((s.length - 1 : Nat) : Int) by omega])
    rcases inner9_ok (G := G) (coreT s) (Nat.le_trans (coreT_len s) hs) with ⟨t, ht, c⟩ | ⟨ht, c⟩
    · refine .inl ⟨t, ht, ?_⟩
      refine Pur.of Tryz.func131 (by kernel_rfl) (by kernel_rfl) (by kernel_rfl) ?_
      clear ht hsh
      refine Wp.go (mx := true) (fun _ => mixed) [(1, {fm := [(12, .c (.int .i64 ((s.length - 1 : Nat) : Int)))]}), (3, {cs := [(5, pc c)], fm := [(3, .c (.int .i64 ((s.length - 1 : Nat) : Int))), (4, .c (.str (coreT s)))]})] 100 [false] [decide ((↑s.length : Int) < (2 : Int)) = false → (0 : Int) ≤ (0 : Int) ∧ (0 : Int) < (↑s.length : Int), EqvI (V1.c (Cell.int .i64 ((↑s.length : Int) - (1 : Int)))) (V1.c (Cell.int .i64 (↑(s.length - (1 : Nat)) : Int))), (bif decide ((↑s.length : Int) < (2 : Int)) then true else (↑(s.getD (0 : Nat) (0 : UInt8)).toNat : Int) != (126 : Int)) = false → EqvD (V1.c (Cell.int .i64 ((↑s.length : Int) - (1 : Int)))) (V1.c (Cell.int .i64 (↑(s.length - (1 : Nat)) : Int))), (bif decide ((↑s.length : Int) < (2 : Int)) then true else (↑(s.getD (0 : Nat) (0 : UInt8)).toNat : Int) != (126 : Int)) = false → inR IntKind.i64 ((↑s.length : Int) - (1 : Int)), (bif decide ((↑s.length : Int) < (2 : Int)) then true else (↑(s.getD (0 : Nat) (0 : UInt8)).toNat : Int) != (126 : Int)) = false → (0 : Int) ≤ (↑(s.length - (1 : Nat)) : Int) ∧ (↑(s.length - (1 : Nat)) : Int) < (↑s.length : Int), (bif bif decide ((↑s.length : Int) < (2 : Int)) then true else (↑(s.getD (0 : Nat) (0 : UInt8)).toNat : Int) != (126 : Int) then true else (↑(s.getD (s.length - (1 : Nat)) (0 : UInt8)).toNat : Int) != (126 : Int)) = false, EqvI (V1.c (Cell.int .i64 ((↑s.length : Int) - (1 : Int)))) (V1.c (Cell.int .i64 (↑(s.length - (1 : Nat)) : Int))), EqvD (V1.c (Cell.int .i64 ((↑s.length : Int) - (1 : Int)))) (V1.c (Cell.int .i64 (↑(s.length - (1 : Nat)) : Int))), inR IntKind.i64 ((↑s.length : Int) - (1 : Int)), EqvI (V1.c (Cell.str (List.drop (1 : Nat) (List.take (Int.ofNat (s.length - (1 : Nat))).toNat s)))) (V1.c (Cell.str (coreT s))), EqvD (V1.c (Cell.str (List.drop (1 : Nat) (List.take (Int.ofNat (s.length - (1 : Nat))).toNat s)))) (V1.c (Cell.str (coreT s))), (0 : Int) ≤ Int.ofNat (1) ∧ Int.ofNat (1) ≤ Int.ofNat (s.length - (1 : Nat)) ∧ Int.ofNat (s.length - (1 : Nat)) ≤ (↑s.length : Int)] (by kernel_rfl) (by kernel_rfl) (by kernel_rfl) ⟨(by omega), fun _ _ => trivial, (by intro _; assumption), (fun _ => inR64 (by omega) (by omega)), (by omega), (by assumption), fun _ _ => trivial, (by assumption), inR64 (by omega) (by omega), fun _ _ => trivial, (by assumption), ⟨(by decide), ⟨(by simp; omega), (by simp; done)⟩⟩⟩ ?_
      refine Wp.ret' (by kernel_rfl) ?_
      exact FinQ.pure (rs' := [V1.agg [Cell.int .i64 (toK t).k, Cell.int .i64 (toK t).n, Cell.str (toK t).s, Cell.sl (4 : Nat) (toK t).m (toK t).f], V1.c (Cell.bool true)]) (by kernel_rfl) rfl (by kernel_rfl)
    · refine .inr ⟨ht, ?_⟩
      refine Pur.of Tryz.func131 (by kernel_rfl) (by kernel_rfl) (by kernel_rfl) ?_
      clear ht hsh
      refine Wp.go (mx := true) (fun _ => mixed) [(1, {fm := [(12, .c (.int .i64 ((s.length - 1 : Nat) : Int)))]}), (3, {cs := [(5, pc c)], fm := [(3, .c (.int .i64 ((s.length - 1 : Nat) : Int))), (4, .c (.str (coreT s)))]})] 100 [false] [decide ((↑s.length : Int) < (2 : Int)) = false → (0 : Int) ≤ (0 : Int) ∧ (0 : Int) < (↑s.length : Int), EqvI (V1.c (Cell.int .i64 ((↑s.length : Int) - (1 : Int)))) (V1.c (Cell.int .i64 (↑(s.length - (1 : Nat)) : Int))), (bif decide ((↑s.length : Int) < (2 : Int)) then true else (↑(s.getD (0 : Nat) (0 : UInt8)).toNat : Int) != (126 : Int)) = false → EqvD (V1.c (Cell.int .i64 ((↑s.length : Int) - (1 : Int)))) (V1.c (Cell.int .i64 (↑(s.length - (1 : Nat)) : Int))), (bif decide ((↑s.length : Int) < (2 : Int)) then true else (↑(s.getD (0 : Nat) (0 : UInt8)).toNat : Int) != (126 : Int)) = false → inR IntKind.i64 ((↑s.length : Int) - (1 : Int)), (bif decide ((↑s.length : Int) < (2 : Int)) then true else (↑(s.getD (0 : Nat) (0 : UInt8)).toNat : Int) != (126 : Int)) = false → (0 : Int) ≤ (↑(s.length - (1 : Nat)) : Int) ∧ (↑(s.length - (1 : Nat)) : Int) < (↑s.length : Int), (bif bif decide ((↑s.length : Int) < (2 : Int)) then true else (↑(s.getD (0 : Nat) (0 : UInt8)).toNat : Int) != (126 : Int) then true else (↑(s.getD (s.length - (1 : Nat)) (0 : UInt8)).toNat : Int) != (126 : Int)) = false, EqvI (V1.c (Cell.int .i64 ((↑s.length : Int) - (1 : Int)))) (V1.c (Cell.int .i64 (↑(s.length - (1 : Nat)) : Int))), EqvD (V1.c (Cell.int .i64 ((↑s.length : Int) - (1 : Int)))) (V1.c (Cell.int .i64 (↑(s.length - (1 : Nat)) : Int))), inR IntKind.i64 ((↑s.length : Int) - (1 : Int)), EqvI (V1.c (Cell.str (List.drop (1 : Nat) (List.take (Int.ofNat (s.length - (1 : Nat))).toNat s)))) (V1.c (Cell.str (coreT s))), EqvD (V1.c (Cell.str (List.drop (1 : Nat) (List.take (Int.ofNat (s.length - (1 : Nat))).toNat s)))) (V1.c (Cell.str (coreT s))), (0 : Int) ≤ Int.ofNat (1) ∧ Int.ofNat (1) ≤ Int.ofNat (s.length - (1 : Nat)) ∧ Int.ofNat (s.length - (1 : Nat)) ≤ (↑s.length : Int)] (by kernel_rfl) (by kernel_rfl) (by kernel_rfl) ⟨(by omega), fun _ _ => trivial, (by intro _; assumption), (fun _ => inR64 (by omega) (by omega)), (by omega), (by assumption), fun _ _ => trivial, (by assumption), inR64 (by omega) (by omega), fun _ _ => trivial, (by assumption), ⟨(by decide), ⟨(by simp; omega), (by simp; done)⟩⟩⟩ ?_
      refine Wp.ret' (by kernel_rfl) ?_
      exact FinQ.pure (rs' := [V1.agg [Cell.int .i64 (0 : Int), Cell.int .i64 (0 : Int), Cell.str [], Cell.nilsl], V1.c (Cell.bool false)]) (by kernel_rfl) rfl (by kernel_rfl)
  · rw [if_neg hsh]
    refine .inr ⟨rfl, ?_⟩
    have hsh2 : (bif bif decide ((s.length : Int) < 2) then true else ((s.getD 0 0).toNat : Int) != 126 then true else ((s.getD (s.length - 1) 0).toNat : Int) != 126) = true := by
      have h2 := eq_false_of_ne_true hsh
      exact (Bool.not_eq_false' _).mp h2
    refine Pur.of Tryz.func131 (by kernel_rfl) (by kernel_rfl) (by kernel_rfl) ?_
    by_cases h2 : s.length < 2
    · have ht : decide ((s.length : Int) < 2) = true := decide_eq_true (by omega)
      refine Wp.go (mx := true) (fun _ => mixed) [(1, {grd := [(4, false), (5, false), (6, false), (7, true), (9, false), (10, false), (11, false), (12, false), (13, false), (14, false), (15, true)]})] 100 [true] [decide ((↑s.length : Int) < (2 : Int)) = !false, decide ((↑s.length : Int) < (2 : Int)) = !false, decide ((↑s.length : Int) < (2 : Int)) = !false, decide ((↑s.length : Int) < (2 : Int)) = true, true = !false, true = !false, true = !false, true = !false, true = !false, true = !false, true = true, true = true] (by kernel_rfl) (by kernel_rfl) (by kernel_rfl) ⟨(by assumption), (by assumption), (by assumption), (by assumption), rfl, rfl, rfl, rfl, rfl, rfl, rfl, rfl⟩ ?_
      refine Wp.ret' (by kernel_rfl) ?_
      exact FinQ.pure (rs' := [V1.agg [Cell.int .i64 (0 : Int), Cell.int .i64 (0 : Int), Cell.str [], Cell.nilsl], V1.c (Cell.bool false)]) (by kernel_rfl) rfl (by kernel_rfl)
    · have e2 : EqvD (.c (.int .i64 ((s.length : Int) - 1))) (.c (.int .i64 ((s.length - 1 : Nat) : Int))) := eqvD_of (by rw [show (s.length : Int) - 1 = ((s.length - 1 : Nat) : Int) by omega])
      clear hsh
      refine Wp.go (mx := true) (fun _ => mixed) [(1, {fm := [(12, .c (.int .i64 ((s.length - 1 : Nat) : Int)))]})] 100 [true] [decide ((↑s.length : Int) < (2 : Int)) = false → (0 : Int) ≤ (0 : Int) ∧ (0 : Int) < (↑s.length : Int), EqvI (V1.c (Cell.int .i64 ((↑s.length : Int) - (1 : Int)))) (V1.c (Cell.int .i64 (↑(s.length - (1 : Nat)) : Int))), (bif decide ((↑s.length : Int) < (2 : Int)) then true else (↑(s.getD (0 : Nat) (0 : UInt8)).toNat : Int) != (126 : Int)) = false → EqvD (V1.c (Cell.int .i64 ((↑s.length : Int) - (1 : Int)))) (V1.c (Cell.int .i64 (↑(s.length - (1 : Nat)) : Int))), (bif decide ((↑s.length : Int) < (2 : Int)) then true else (↑(s.getD (0 : Nat) (0 : UInt8)).toNat : Int) != (126 : Int)) = false → inR IntKind.i64 ((↑s.length : Int) - (1 : Int)), (bif decide ((↑s.length : Int) < (2 : Int)) then true else (↑(s.getD (0 : Nat) (0 : UInt8)).toNat : Int) != (126 : Int)) = false → (0 : Int) ≤ (↑(s.length - (1 : Nat)) : Int) ∧ (↑(s.length - (1 : Nat)) : Int) < (↑s.length : Int), (bif bif decide ((↑s.length : Int) < (2 : Int)) then true else (↑(s.getD (0 : Nat) (0 : UInt8)).toNat : Int) != (126 : Int) then true else (↑(s.getD (s.length - (1 : Nat)) (0 : UInt8)).toNat : Int) != (126 : Int)) = true] (by kernel_rfl) (by kernel_rfl) (by kernel_rfl) ⟨(by omega), fun _ _ => trivial, (by intro _; assumption), (fun _ => inR64 (by omega) (by omega)), (by omega), (show (bif bif decide ((↑s.length : Int) < (2 : Int)) then true else (↑(s.getD (0 : Nat) (0 : UInt8)).toNat : Int) != (126 : Int) then true else (↑(s.getD (s.length - (1 : Nat)) (0 : UInt8)).toNat : Int) != (126 : Int)) = true from (by assumption))⟩ ?_
      refine Wp.ret' (by kernel_rfl) ?_
      exact FinQ.pure (rs' := [V1.agg [Cell.int .i64 (0 : Int), Cell.int .i64 (0 : Int), Cell.str [], Cell.nilsl], V1.c (Cell.bool false)]) (by kernel_rfl) rfl (by kernel_rfl)
end Go.Proofs.Tw
end

section
open Go Go.Sv Go.RowKit
namespace Go.Proofs.Tw
attribute [local irreducible] Wp FinQ resV Ent Pur Go.Sv.Fn Sat0
set_option maxRecDepth 100000
set_option maxHeartbeats 4000000
variable {G : Nat → Option (List Cell)}

def cB (b : List UInt8) (p : Nat) (c : Int) : Blk := .box 264 [.sl 1 b.length (bytesF b), .int .i64 (p : Int), .int .i64 c]
def errC (e : Int) : Cell := .ifc 35 none (fun _ => .int .i64 e)
theorem cut_D (b : List UInt8) (p n : Nat) (h : p + n ≤ b.length) : EqvD (.c (.sl 1 (p + n - p) (fun i j => bytesF b (p + i) j))) (.c (.sl 1 n (bytesF ((b.drop p).take n)))) := EqvD.sl (by omega) (fun i hi j hj => by
  show Cell.int .u8 _ = Cell.int .u8 _
  have hi2 : i < n := by omega
  rw [List.getD_eq_getElem?_getD, List.getD_eq_getElem?_getD, List.getElem?_take, if_pos hi2, List.getElem?_drop])
theorem take_good (b : List UInt8) (hb : b.length ≤ 30000000000000) (p n : Nat) (c : Int) (hp : p + n ≤ b.length) : FnB Tryz.prog G 265 [cB b p c] [.c (.ptr 0 0), .c (.int .i64 (n : Int))] [.c (.sl 1 n (bytesF ((b.drop p).take n))), .c .nilif] [(0, cB b (p + n) c)] := by
  refine Fn.of' Tryz.func265 (by kernel_rfl) (by kernel_rfl) (by kernel_rfl) (by kernel_rfl) trivial ?_
  have ht : decide ((b.length : Int) - (p : Int) < (n : Int)) = false := decide_eq_false (by omega)
  have e1 := cut_D b p n hp
  refine Wp.go (mx := true) (fun _ => mixed) [(3, {fm := [(20, .c (.sl 1 n (bytesF ((b.drop p).take n))))]})] 100 [false] [inR IntKind.i64 ((↑b.length : Int) - (↑p : Int)), decide ((↑b.length : Int) - (↑p : Int) < (↑n : Int)) = false, inR IntKind.i64 ((↑p : Int) + (↑n : Int)), inR IntKind.i64 ((↑p : Int) + (↑n : Int)), EqvI (V1.c (Cell.sl (1 : Nat) ((Int.ofNat (p + n)).toNat - (Int.ofNat p).toNat) fun (i j : Nat) => bytesF b ((Int.ofNat p).toNat + i) j)) (V1.c (Cell.sl (1 : Nat) n (bytesF (List.take n (List.drop p b))))), EqvD (V1.c (Cell.sl (1 : Nat) ((Int.ofNat (p + n)).toNat - (Int.ofNat p).toNat) fun (i j : Nat) => bytesF b ((Int.ofNat p).toNat + i) j)) (V1.c (Cell.sl (1 : Nat) n (bytesF (List.take n (List.drop p b))))), (0 : Int) ≤ Int.ofNat p ∧ Int.ofNat p ≤ Int.ofNat (p + n) ∧ Int.ofNat (p + n) ≤ Int.ofNat (p + n) ∧ Int.ofNat (p + n) ≤ (↑b.length : Int), inR IntKind.i64 ((↑p : Int) + (↑n : Int))] (by kernel_rfl) (by kernel_rfl) (by kernel_rfl) ⟨inR64 (by omega) (by omega), (by assumption), inR64 (by omega) (by omega), inR64 (by omega) (by omega), fun _ _ => trivial, (by assumption), ⟨(by simp; done), ⟨(by simp; omega), ⟨(by omega), (by simp; omega)⟩⟩⟩, inR64 (by omega) (by omega)⟩ ?_
  refine Wp.ret' (by kernel_rfl) ?_
  exact FinQ.blk [] (by kernel_rfl) (by kernel_rfl) (by kernel_rfl) (by kernel_rfl) (by kernel_rfl) trivial
theorem take_short (b : List UInt8) (hb : b.length ≤ 30000000000000) (p n : Nat) (c : Int) (hn : n ≤ 2000) (hpl : p ≤ b.length) (hp : b.length < p + n) : FnB Tryz.prog G 265 [cB b p c] [.c (.ptr 0 0), .c (.int .i64 (n : Int))] [.c .nilsl, .c (errC 1)] [(0, cB b p c)] := by
  refine Fn.of' Tryz.func265 (by kernel_rfl) (by kernel_rfl) (by kernel_rfl) (by kernel_rfl) trivial ?_
  have ht : decide ((b.length : Int) - (p : Int) < (n : Int)) = true := decide_eq_true (by omega)
  refine Wp.go (mx := true) (fun _ => mixed) [] 100 [true] [inR IntKind.i64 ((↑b.length : Int) - (↑p : Int)), decide ((↑b.length : Int) - (↑p : Int) < (↑n : Int)) = true] (by kernel_rfl) (by kernel_rfl) (by kernel_rfl) ⟨inR64 (by omega) (by omega), (show decide ((↑b.length : Int) - (↑p : Int) < (↑n : Int)) = true from (by assumption))⟩ ?_
  refine Wp.ret' (by kernel_rfl) ?_
  exact FinQ.blk [] (by kernel_rfl) (by kernel_rfl) (by kernel_rfl) (by kernel_rfl) (by kernel_rfl) trivial
theorem or64 (x y : Int) (hx : 0 ≤ x ∧ x < 16777216) (hy : 0 ≤ y ∧ y < 256) : bitsI .or .i64 (x * 256) y = x * 256 + y := by
  obtain ⟨a, rfl⟩ := Int.eq_ofNat_of_zero_le hx.1
  obtain ⟨b, rfl⟩ := Int.eq_ofNat_of_zero_le hy.1
  have hor : a * 256 ||| b = a * 256 + b := by
    have := Nat.two_pow_add_eq_or_of_lt (show b < 2 ^ 8 by omega) a
    rw [show 2 ^ 8 * a = a * 256 by omega] at this; exact this.symm
  have e : (BitVec.ofInt 64 ((a : Int) * 256) ||| BitVec.ofInt 64 (b : Int)).toNat = a * 256 + b := by
    rw [BitVec.toNat_or, BitVec.toNat_ofInt, BitVec.toNat_ofInt]
    rw [show ((a : Int) * 256 % ((2 ^ 64 : Nat) : Int)).toNat = a * 256 by omega, show ((b : Int) % ((2 ^ 64 : Nat) : Int)).toNat = b by omega, hor]
  show IntKind.i64.wrap ((BitVec.ofInt 64 ((a : Int) * 256) ||| BitVec.ofInt 64 (b : Int)).toNat) = _
  rw [e, wrap64 (by omega) (by omega)]; simp
theorem numC_short (b : List UInt8) (hb : b.length ≤ 30000000000000) (p n : Nat) (c most : Int) (hn : n ≤ 4) (hpl : p ≤ b.length) (hp : b.length < p + n) : FnB Tryz.prog G 267 [cB b p c] [.c (.ptr 0 0), .c (.int .i64 (n : Int)), .c (.int .i64 most)] [.c (.int .i64 0), .c (errC 1)] [(0, cB b p c)] := by
  refine Fn.of' Tryz.func267 (by kernel_rfl) (by kernel_rfl) (by kernel_rfl) (by kernel_rfl) trivial ?_
  have c1 := take_short (G := G) b hb p n c (by omega) hpl hp
  refine Wp.go (mx := true) (fun _ => mixed) [(1, {cs := [(2, cb [0] c1)]})] 100 [true] [(!false) = true] (by kernel_rfl) (by kernel_rfl) (by kernel_rfl) rfl ?_
  refine Wp.ret' (by kernel_rfl) ?_
  exact FinQ.blk [] (by kernel_rfl) (by kernel_rfl) (by kernel_rfl) (by kernel_rfl) (by kernel_rfl) trivial
theorem numC_good (b : List UInt8) (hb : b.length ≤ 30000000000000) (p n : Nat) (c most : Int) (hn : n ≤ 4) (hp : p + n ≤ b.length) (hm : (beN b p n ≤ most)) : FnB Tryz.prog G 267 [cB b p c] [.c (.ptr 0 0), .c (.int .i64 (n : Int)), .c (.int .i64 most)] [.c (.int .i64 (beN b p n)), .c .nilif] [(0, cB b (p + n) c)] := by
  refine Fn.of' Tryz.func267 (by kernel_rfl) (by kernel_rfl) (by kernel_rfl) (by kernel_rfl) trivial ?_
  have c1 := take_good (G := G) b hb p n c hp
  refine Wp.go (mx := true) (fun _ => mixed) [(1, {cs := [(2, cb [0] c1)]})] 100 [false] [(!true) = false] (by kernel_rfl) (by kernel_rfl) (by kernel_rfl) rfl ?_
  refine Wp.loopK (by kernel_rfl) (fun (k : Nat) => ⟨[(2, TV.v (V1.c (Cell.int .i64 most))), (10, TV.v (V1.c (Cell.int .i64 (beN b p k)))), (22, TV.v (V1.c (Cell.sl (1 : Nat) n (bytesF (List.take n (List.drop p b)))))), (23, TV.v (V1.c (Cell.int .i64 (↑n : Int)))), (24, TV.v (V1.c (Cell.int .i64 (k : Int))))], [(0, cB b (p + n) c)], 257⟩) (fun k => k ≤ n) (fun k => n - k) 0 (Ent.of [] (by kernel_rfl) (by kernel_rfl) (by kernel_rfl) trivial) (Nat.zero_le _) ?_
  intro k L hk again
  have hr := beN_big b p k (by omega)
  rcases Nat.lt_or_ge k n with hlt | hge
  · have h4 := beN_rng b p k (by omega)
    have hr3 : beN b p k < 16777216 := by
      have : k = 0 ∨ k = 1 ∨ k = 2 ∨ k = 3 := by omega
      rcases this with rfl | rfl | rfl | rfl <;> simp at h4 <;> omega
    have hc := UInt8.toNat_lt (b.getD (p + k) 0)
    have hB : ((b.drop p).take n).getD k 0 = b.getD (p + k) 0 := by
      rw [List.getD_eq_getElem?_getD, List.getD_eq_getElem?_getD, List.getElem?_take, if_pos hlt, List.getElem?_drop]
    have e1 : EqvD (.c (.int .u8 ((((b.drop p).take n).getD k 0).toNat : Int))) (.c (.int .u8 ((b.getD (p + k) 0).toNat : Int))) := eqvD_of (by rw [hB])
    have e2 : EqvD (.c (.int .i64 (IntKind.i64.wrap (beN b p k * 2 ^ 8)))) (.c (.int .i64 (beN b p k * 256))) := eqvD_of (by rw [show beN b p k * 2 ^ 8 = beN b p k * 256 from rfl, wrap64 (by omega) (by omega)])
    have e3 := wrapU (b.getD (p + k) 0)
    have e4 : EqvD (.c (.int .i64 (bitsI .or .i64 (beN b p k * 256) ((b.getD (p + k) 0).toNat : Int)))) (.c (.int .i64 (beN b p (k + 1)))) := eqvD_of (by rw [or64 _ _ (by omega) (by omega)]; rfl)
    have ht1 : decide ((k : Int) < (n : Int)) = true := decide_eq_true (by omega)
    clear h4 hB
    refine Wp.go (mx := true) (fun _ => mixed) [(7, {fm := [(1, .c (.int .u8 ((b.getD (p + k) 0).toNat : Int)))]}), (8, {fm := [(1, .c (.int .i64 (beN b p k * 256))), (3, .c (.int .i64 ((b.getD (p + k) 0).toNat : Int))), (4, .c (.int .i64 (beN b p (k + 1))))]})] 100 [true] [decide ((↑k : Int) < (↑n : Int)) = true, (0 : Int) ≤ (↑k : Int) ∧ (↑k : Int) < (↑n : Int), EqvD (V1.c (bytesF (List.take n (List.drop p b)) k (0 : Nat))) (V1.c (Cell.int .u8 (↑(b.getD (p + k) (0 : UInt8)).toNat : Int))), EqvI (V1.c (Cell.int .i64 (IntKind.i64.wrap (beN b p k * (2 : Int) ^ (8 : Nat))))) (V1.c (Cell.int .i64 (beN b p k * (256 : Int)))), EqvD (V1.c (Cell.int .i64 (IntKind.i64.wrap (beN b p k * (2 : Int) ^ (8 : Nat))))) (V1.c (Cell.int .i64 (beN b p k * (256 : Int)))), (0 : Int) ≤ (8 : Int), EqvI (V1.c (Cell.int .i64 (IntKind.i64.wrap (↑(b.getD (p + k) (0 : UInt8)).toNat : Int)))) (V1.c (Cell.int .i64 (↑(b.getD (p + k) (0 : UInt8)).toNat : Int))), EqvD (V1.c (Cell.int .i64 (IntKind.i64.wrap (↑(b.getD (p + k) (0 : UInt8)).toNat : Int)))) (V1.c (Cell.int .i64 (↑(b.getD (p + k) (0 : UInt8)).toNat : Int))), EqvI (V1.c (Cell.int .i64 (bitsI BinOp.or IntKind.i64 (beN b p k * (256 : Int)) (↑(b.getD (p + k) (0 : UInt8)).toNat : Int)))) (V1.c (Cell.int .i64 (beN b p (k + (1 : Nat))))), EqvD (V1.c (Cell.int .i64 (bitsI BinOp.or IntKind.i64 (beN b p k * (256 : Int)) (↑(b.getD (p + k) (0 : UInt8)).toNat : Int)))) (V1.c (Cell.int .i64 (beN b p (k + (1 : Nat))))), inR IntKind.i64 ((↑k : Int) + (1 : Int))] (by kernel_rfl) (by kernel_rfl) (by kernel_rfl) ⟨(by assumption), (by omega), (by assumption), fun _ _ => trivial, (by assumption), (by omega), fun _ _ => trivial, (by assumption), fun _ _ => trivial, (by assumption), inR64 (by omega) (by omega)⟩ ?_
    exact Wp.lpK (by kernel_rfl) (again _ (k + 1) (by assumption) (by omega) (Ent.of [] (by kernel_rfl) (by kernel_rfl) (by kernel_rfl) trivial))
  · obtain rfl : k = n := by omega
    have ht : decide (beN b p k > most) = false := decide_eq_false (by omega)
    have ht1 : decide ((k : Int) < (k : Int)) = false := decide_eq_false (by omega)
    refine Wp.go (mx := true) (fun _ => mixed) [] 100 [false, false] [decide ((↑k : Int) < (↑k : Int)) = false, decide (beN b p k > most) = false] (by kernel_rfl) (by kernel_rfl) (by kernel_rfl) ⟨(by assumption), (show decide (beN b p k > most) = false from (by assumption))⟩ ?_
    refine Wp.ret' (by kernel_rfl) ?_
    exact FinQ.blk [] (by kernel_rfl) (by kernel_rfl) (by kernel_rfl) (by kernel_rfl) (by kernel_rfl) trivial
theorem numC_big (b : List UInt8) (hb : b.length ≤ 30000000000000) (p n : Nat) (c most : Int) (hn : n ≤ 4) (hp : p + n ≤ b.length) (hm : (most < beN b p n)) : FnB Tryz.prog G 267 [cB b p c] [.c (.ptr 0 0), .c (.int .i64 (n : Int)), .c (.int .i64 most)] [.c (.int .i64 0), .c (errC 3)] [(0, cB b (p + n) c)] := by
  refine Fn.of' Tryz.func267 (by kernel_rfl) (by kernel_rfl) (by kernel_rfl) (by kernel_rfl) trivial ?_
  have c1 := take_good (G := G) b hb p n c hp
  refine Wp.go (mx := true) (fun _ => mixed) [(1, {cs := [(2, cb [0] c1)]})] 100 [false] [(!true) = false] (by kernel_rfl) (by kernel_rfl) (by kernel_rfl) rfl ?_
  refine Wp.loopK (by kernel_rfl) (fun (k : Nat) => ⟨[(2, TV.v (V1.c (Cell.int .i64 most))), (10, TV.v (V1.c (Cell.int .i64 (beN b p k)))), (22, TV.v (V1.c (Cell.sl (1 : Nat) n (bytesF (List.take n (List.drop p b)))))), (23, TV.v (V1.c (Cell.int .i64 (↑n : Int)))), (24, TV.v (V1.c (Cell.int .i64 (k : Int))))], [(0, cB b (p + n) c)], 257⟩) (fun k => k ≤ n) (fun k => n - k) 0 (Ent.of [] (by kernel_rfl) (by kernel_rfl) (by kernel_rfl) trivial) (Nat.zero_le _) ?_
  intro k L hk again
  have hr := beN_big b p k (by omega)
  rcases Nat.lt_or_ge k n with hlt | hge
  · have h4 := beN_rng b p k (by omega)
    have hr3 : beN b p k < 16777216 := by
      have : k = 0 ∨ k = 1 ∨ k = 2 ∨ k = 3 := by omega
      rcases this with rfl | rfl | rfl | rfl <;> simp at h4 <;> omega
    have hc := UInt8.toNat_lt (b.getD (p + k) 0)
    have hB : ((b.drop p).take n).getD k 0 = b.getD (p + k) 0 := by
      rw [List.getD_eq_getElem?_getD, List.getD_eq_getElem?_getD, List.getElem?_take, if_pos hlt, List.getElem?_drop]
    have e1 : EqvD (.c (.int .u8 ((((b.drop p).take n).getD k 0).toNat : Int))) (.c (.int .u8 ((b.getD (p + k) 0).toNat : Int))) := eqvD_of (by rw [hB])
    have e2 : EqvD (.c (.int .i64 (IntKind.i64.wrap (beN b p k * 2 ^ 8)))) (.c (.int .i64 (beN b p k * 256))) := eqvD_of (by rw [show beN b p k * 2 ^ 8 = beN b p k * 256 from rfl, wrap64 (by omega) (by omega)])
    have e3 := wrapU (b.getD (p + k) 0)
    have e4 : EqvD (.c (.int .i64 (bitsI .or .i64 (beN b p k * 256) ((b.getD (p + k) 0).toNat : Int)))) (.c (.int .i64 (beN b p (k + 1)))) := eqvD_of (by rw [or64 _ _ (by omega) (by omega)]; rfl)
    have ht1 : decide ((k : Int) < (n : Int)) = true := decide_eq_true (by omega)
    clear h4 hB
    refine Wp.go (mx := true) (fun _ => mixed) [(7, {fm := [(1, .c (.int .u8 ((b.getD (p + k) 0).toNat : Int)))]}), (8, {fm := [(1, .c (.int .i64 (beN b p k * 256))), (3, .c (.int .i64 ((b.getD (p + k) 0).toNat : Int))), (4, .c (.int .i64 (beN b p (k + 1))))]})] 100 [true] [decide ((↑k : Int) < (↑n : Int)) = true, (0 : Int) ≤ (↑k : Int) ∧ (↑k : Int) < (↑n : Int), EqvD (V1.c (bytesF (List.take n (List.drop p b)) k (0 : Nat))) (V1.c (Cell.int .u8 (↑(b.getD (p + k) (0 : UInt8)).toNat : Int))), EqvI (V1.c (Cell.int .i64 (IntKind.i64.wrap (beN b p k * (2 : Int) ^ (8 : Nat))))) (V1.c (Cell.int .i64 (beN b p k * (256 : Int)))), EqvD (V1.c (Cell.int .i64 (IntKind.i64.wrap (beN b p k * (2 : Int) ^ (8 : Nat))))) (V1.c (Cell.int .i64 (beN b p k * (256 : Int)))), (0 : Int) ≤ (8 : Int), EqvI (V1.c (Cell.int .i64 (IntKind.i64.wrap (↑(b.getD (p + k) (0 : UInt8)).toNat : Int)))) (V1.c (Cell.int .i64 (↑(b.getD (p + k) (0 : UInt8)).toNat : Int))), EqvD (V1.c (Cell.int .i64 (IntKind.i64.wrap (↑(b.getD (p + k) (0 : UInt8)).toNat : Int)))) (V1.c (Cell.int .i64 (↑(b.getD (p + k) (0 : UInt8)).toNat : Int))), EqvI (V1.c (Cell.int .i64 (bitsI BinOp.or IntKind.i64 (beN b p k * (256 : Int)) (↑(b.getD (p + k) (0 : UInt8)).toNat : Int)))) (V1.c (Cell.int .i64 (beN b p (k + (1 : Nat))))), EqvD (V1.c (Cell.int .i64 (bitsI BinOp.or IntKind.i64 (beN b p k * (256 : Int)) (↑(b.getD (p + k) (0 : UInt8)).toNat : Int)))) (V1.c (Cell.int .i64 (beN b p (k + (1 : Nat))))), inR IntKind.i64 ((↑k : Int) + (1 : Int))] (by kernel_rfl) (by kernel_rfl) (by kernel_rfl) ⟨(by assumption), (by omega), (by assumption), fun _ _ => trivial, (by assumption), (by omega), fun _ _ => trivial, (by assumption), fun _ _ => trivial, (by assumption), inR64 (by omega) (by omega)⟩ ?_
    exact Wp.lpK (by kernel_rfl) (again _ (k + 1) (by assumption) (by omega) (Ent.of [] (by kernel_rfl) (by kernel_rfl) (by kernel_rfl) trivial))
  · obtain rfl : k = n := by omega
    have ht : decide (beN b p k > most) = true := decide_eq_true (by omega)
    have ht1 : decide ((k : Int) < (k : Int)) = false := decide_eq_false (by omega)
    refine Wp.go (mx := true) (fun _ => mixed) [] 100 [false, true] [decide ((↑k : Int) < (↑k : Int)) = false, decide (beN b p k > most) = true] (by kernel_rfl) (by kernel_rfl) (by kernel_rfl) ⟨(by assumption), (show decide (beN b p k > most) = true from (by assumption))⟩ ?_
    refine Wp.ret' (by kernel_rfl) ?_
    exact FinQ.blk [] (by kernel_rfl) (by kernel_rfl) (by kernel_rfl) (by kernel_rfl) (by kernel_rfl) trivial
end Go.Proofs.Tw
end

section
open Go Go.Sv Go.RowKit
namespace Go.Proofs.Tw
attribute [local irreducible] Wp FinQ resV Ent Pur Go.Sv.Fn Sat0
set_option maxRecDepth 100000
set_option maxHeartbeats 4000000
variable {G : Nat → Option (List Cell)}

theorem atomC_a1 (b : List UInt8) (hb : b.length ≤ 30000000000000) (p : Nat) (c : Int) (hpl : p ≤ b.length) (hp : b.length < p + 2) : FnB Tryz.prog G 266 [cB b p c] [.c (.ptr 0 0)] [.c (.str []), .c (errC 1)] [(0, cB b p c)] := by
  refine Fn.of' Tryz.func266 (by kernel_rfl) (by kernel_rfl) (by kernel_rfl) (by kernel_rfl) trivial ?_
  have c1 := numC_short (G := G) b hb p 2 c 1024 (by decide) hpl hp
  refine Wp.go (mx := true) (fun _ => mixed) [(1, {cs := [(1, cb [0] c1)]})] 100 [true] [(!false) = true] (by kernel_rfl) (by kernel_rfl) (by kernel_rfl) rfl ?_
  refine Wp.ret' (by kernel_rfl) ?_
  exact FinQ.blk [] (by kernel_rfl) (by kernel_rfl) (by kernel_rfl) (by kernel_rfl) (by kernel_rfl) trivial
theorem atomC_a2 (b : List UInt8) (hb : b.length ≤ 30000000000000) (p : Nat) (c : Int) (hp : p + 2 ≤ b.length) {n : Nat} (hn : (beN b p 2).toNat = n) (h3 : 1024 < n) : FnB Tryz.prog G 266 [cB b p c] [.c (.ptr 0 0)] [.c (.str []), .c (errC 3)] [(0, cB b (p + 2) c)] := by
  refine Fn.of' Tryz.func266 (by kernel_rfl) (by kernel_rfl) (by kernel_rfl) (by kernel_rfl) trivial ?_
  have c1 := numC_big (G := G) b hb p 2 c 1024 (by decide) hp (by omega)
  refine Wp.go (mx := true) (fun _ => mixed) [(1, {cs := [(1, cb [0] c1)]})] 100 [true] [(!false) = true] (by kernel_rfl) (by kernel_rfl) (by kernel_rfl) rfl ?_
  refine Wp.ret' (by kernel_rfl) ?_
  exact FinQ.blk [] (by kernel_rfl) (by kernel_rfl) (by kernel_rfl) (by kernel_rfl) (by kernel_rfl) trivial
theorem atomC_a3 (b : List UInt8) (hb : b.length ≤ 30000000000000) (p : Nat) (c : Int) (hp : p + 2 ≤ b.length) {n : Nat} (hn : (beN b p 2).toNat = n) (h3 : n ≤ 1024) (h4 : b.length < p + 2 + n) : FnB Tryz.prog G 266 [cB b p c] [.c (.ptr 0 0)] [.c (.str []), .c (errC 1)] [(0, cB b (p + 2) c)] := by
  refine Fn.of' Tryz.func266 (by kernel_rfl) (by kernel_rfl) (by kernel_rfl) (by kernel_rfl) trivial ?_
  have hr := beN_big b p 2 (by decide)
  have c1 := numC_good (G := G) b hb p 2 c 1024 (by decide) hp (by omega)
  rw [show beN b p 2 = (n : Int) by omega] at c1
  have c2 := take_short (G := G) b hb (p + 2) n c (by omega) (by omega) h4
  refine Wp.go (mx := true) (fun _ => mixed) [(1, {cs := [(1, cb [0] c1)]}), (4, {cs := [(2, cb [0] c2)]})] 100 [false] [(!true) = false] (by kernel_rfl) (by kernel_rfl) (by kernel_rfl) rfl ?_
  refine Wp.ret' (by kernel_rfl) ?_
  exact FinQ.blk [] (by kernel_rfl) (by kernel_rfl) (by kernel_rfl) (by kernel_rfl) (by kernel_rfl) trivial
theorem atomC_a4 (b : List UInt8) (hb : b.length ≤ 30000000000000) (p : Nat) (c : Int) (hp : p + 2 ≤ b.length) {n : Nat} (hn : (beN b p 2).toNat = n) (h3 : n ≤ 1024) (h4 : p + 2 + n ≤ b.length) : FnB Tryz.prog G 266 [cB b p c] [.c (.ptr 0 0)] [.c (.str ((b.drop (p + 2)).take n)), .c .nilif] [(0, cB b (p + 2 + n) c)] := by
  refine Fn.of' Tryz.func266 (by kernel_rfl) (by kernel_rfl) (by kernel_rfl) (by kernel_rfl) trivial ?_
  have hr := beN_big b p 2 (by decide)
  have c1 := numC_good (G := G) b hb p 2 c 1024 (by decide) hp (by omega)
  rw [show beN b p 2 = (n : Int) by omega] at c1
  have c2 := take_good (G := G) b hb (p + 2) n c h4
  have hbl : n = ((b.drop (p + 2)).take n).length := by rw [List.length_take, List.length_drop]; omega
  have e4 := areBytes_F ((b.drop (p + 2)).take n) 0 n
  have e5 := byteL_F ((b.drop (p + 2)).take n) hbl
  refine Wp.go (mx := true) (fun _ => mixed) [(1, {cs := [(1, cb [0] c1)]}), (4, {cs := [(2, cb [0] c2)]})] 100 [false] [(!true) = false, areBytes (bytesF (List.take n (List.drop (p + (2 : Nat)) b))) (0 : Nat) n] (by kernel_rfl) (by kernel_rfl) (by kernel_rfl) ⟨rfl, (show areBytes (bytesF (List.take n (List.drop (p + (2 : Nat)) b))) (0 : Nat) n from (by assumption))⟩ ?_
  refine Wp.ret' (by kernel_rfl) ?_
  exact FinQ.blkE (rs' := [V1.c (Cell.str (byteL (bytesF (List.take n (List.drop (p + (2 : Nat)) b))) (0 : Nat) n)), V1.c Cell.nilif]) (hout' := [(0, cB b (p + (2 : Nat) + n) c)]) (by rw [e5]; exact ⟨rfl, rfl⟩) [] (by kernel_rfl) (by kernel_rfl) (by kernel_rfl) (by kernel_rfl) (by kernel_rfl) trivial
end Go.Proofs.Tw
end

section
open Go Go.Sv Go.RowKit
namespace Go.Proofs.Tw
attribute [local irreducible] Wp FinQ resV Ent Pur Go.Sv.Fn Sat0
set_option maxRecDepth 100000
set_option maxHeartbeats 4000000
variable {G : Nat → Option (List Cell)}

theorem take_one (b : List UInt8) (hb : b.length ≤ 30000000000000) (p : Nat) (c : Int) (hp : p < b.length) {k : Nat} (hk : (b.getD p 0).toNat = k) : FnB Tryz.prog G 265 [cB b p c] [.c (.ptr 0 0), .c (.int .i64 1)] [.c (.sl 1 1 (fun _ _ => .int .u8 (k : Int))), .c .nilif] [(0, cB b (p + 1) c)] := by
  refine Fn.of' Tryz.func265 (by kernel_rfl) (by kernel_rfl) (by kernel_rfl) (by kernel_rfl) trivial ?_
  have ht : decide ((b.length : Int) - (p : Int) < 1) = false := decide_eq_false (by omega)
  have e1 : EqvD (.c (.sl 1 (p + 1 - p) (fun i j => bytesF b (p + i) j))) (.c (.sl 1 1 (fun _ _ => .int .u8 (k : Int)))) := EqvD.sl (by omega) (fun i hi j hj => by
    obtain rfl : i = 0 := by omega
    show Cell.int .u8 _ = Cell.int .u8 _
    rw [← hk]; rfl)
  refine Wp.go (mx := true) (fun _ => mixed) [(3, {fm := [(20, .c (.sl 1 1 (fun _ _ => .int .u8 (k : Int))))]})] 100 [false] [inR IntKind.i64 ((↑b.length : Int) - (↑p : Int)), decide ((↑b.length : Int) - (↑p : Int) < (1 : Int)) = false, inR IntKind.i64 ((↑p : Int) + (1 : Int)), inR IntKind.i64 ((↑p : Int) + (1 : Int)), EqvI (V1.c (Cell.sl (1 : Nat) ((Int.ofNat (p + 1)).toNat - (Int.ofNat p).toNat) fun (i j : Nat) => bytesF b ((Int.ofNat p).toNat + i) j)) (V1.c (Cell.sl (1 : Nat) (1 : Nat) fun (x x_1 : Nat) => Cell.int .u8 (↑k : Int))), EqvD (V1.c (Cell.sl (1 : Nat) ((Int.ofNat (p + 1)).toNat - (Int.ofNat p).toNat) fun (i j : Nat) => bytesF b ((Int.ofNat p).toNat + i) j)) (V1.c (Cell.sl (1 : Nat) (1 : Nat) fun (x x_1 : Nat) => Cell.int .u8 (↑k : Int))), (0 : Int) ≤ Int.ofNat p ∧ Int.ofNat p ≤ Int.ofNat (p + 1) ∧ Int.ofNat (p + 1) ≤ Int.ofNat (p + 1) ∧ Int.ofNat (p + 1) ≤ (↑b.length : Int), inR IntKind.i64 ((↑p : Int) + (1 : Int))] (by kernel_rfl) (by kernel_rfl) (by kernel_rfl) ⟨inR64 (by omega) (by omega), (by assumption), inR64 (by omega) (by omega), inR64 (by omega) (by omega), fun _ _ => trivial, (by assumption), ⟨(by simp; done), ⟨(by simp; omega), ⟨(by omega), (by simp; omega)⟩⟩⟩, inR64 (by omega) (by omega)⟩ ?_
  refine Wp.ret' (by kernel_rfl) ?_
  exact FinQ.blk [] (by kernel_rfl) (by kernel_rfl) (by kernel_rfl) (by kernel_rfl) (by kernel_rfl) trivial
theorem term_deep (b : List UInt8) (f p l : Nat) (hf : f ≤ 16) (hl2 : l ≤ 64) (h0 : f = 0 ∨ l = 0) : FnB Tryz.prog G 256 [cB b p ((64 : Int) - (l : Int))] [.c (.ptr 0 0), .c (.int .i64 (17 - (f : Int)))] [.agg (encK ⟨0, 0, [], 0, fun _ _ => .nilif⟩), .c (errC 4)] [(0, cB b p ((64 : Int) - (l : Int) + 1))] := by
  refine Fn.of' Tryz.func256 (by kernel_rfl) (by kernel_rfl) (by kernel_rfl) (by kernel_rfl) trivial ?_
  have ht0 : (bif decide ((64 : Int) - (l : Int) + 1 > 64) then true else decide (17 - (f : Int) > 16)) = true := by
    rcases h0 with rfl | rfl
    · cases decide ((64 : Int) - (l : Int) + 1 > 64) <;> rfl
    · rfl
  have eD := @kids_D 0 0 [] (fun _ _ => .nilif)
  have eI := @kids_I 0 0 [] (fun _ _ => .nilif)
  refine Wp.go (mx := true) (fun _ => mixed) [(3, {fm := [(0, .agg [.int .i64 0, .int .i64 0, .str [], .sl 4 0 (fun _ _ => .nilif)])]})] 100 [true] [inR IntKind.i64 ((64 : Int) - (↑l : Int) + (1 : Int)), (bif decide ((64 : Int) - (↑l : Int) + (1 : Int) > (64 : Int)) then true else decide ((17 : Int) - (↑f : Int) > (16 : Int))) = true, EqvI (V1.agg [Cell.int .i64 (0 : Int), Cell.int .i64 (0 : Int), Cell.str [], Cell.nilsl]) (V1.agg [Cell.int .i64 (0 : Int), Cell.int .i64 (0 : Int), Cell.str [], Cell.sl (4 : Nat) (0 : Nat) fun (x x_1 : Nat) => Cell.nilif]), EqvD (V1.agg [Cell.int .i64 (0 : Int), Cell.int .i64 (0 : Int), Cell.str [], Cell.nilsl]) (V1.agg [Cell.int .i64 (0 : Int), Cell.int .i64 (0 : Int), Cell.str [], Cell.sl (4 : Nat) (0 : Nat) fun (x x_1 : Nat) => Cell.nilif])] (by kernel_rfl) (by kernel_rfl) (by kernel_rfl) ⟨inR64 (by omega) (by omega), (by assumption), eqvI_flat _ _ (by kernel_rfl), (show EqvD (V1.agg [Cell.int .i64 (0 : Int), Cell.int .i64 (0 : Int), Cell.str [], Cell.nilsl]) (V1.agg [Cell.int .i64 (0 : Int), Cell.int .i64 (0 : Int), Cell.str [], Cell.sl (4 : Nat) (0 : Nat) fun (x x_1 : Nat) => Cell.nilif]) from (by assumption))⟩ ?_
  refine Wp.ret' (by kernel_rfl) ?_
  exact FinQ.blk [] (by kernel_rfl) (by kernel_rfl) (by kernel_rfl) (by kernel_rfl) (by kernel_rfl) trivial
theorem term_short (b : List UInt8) (hb : b.length ≤ 30000000000000) (f p l : Nat) (hf : f < 16) (hl : 0 < l) (hl2 : l ≤ 64) (hp : p = b.length) : FnB Tryz.prog G 256 [cB b p ((64 : Int) - (l : Int))] [.c (.ptr 0 0), .c (.int .i64 (17 - ((f + 1 : Nat) : Int)))] [.agg (encK ⟨0, 0, [], 0, fun _ _ => .nilif⟩), .c (errC 1)] [(0, cB b p ((64 : Int) - (l : Int) + 1))] := by
  refine Fn.of' Tryz.func256 (by kernel_rfl) (by kernel_rfl) (by kernel_rfl) (by kernel_rfl) trivial ?_
  have ht0 : (bif decide ((64 : Int) - (l : Int) + 1 > 64) then true else decide (17 - ((f + 1 : Nat) : Int) > 16)) = false := by rw [decide_eq_false (by omega), decide_eq_false (by omega)]; rfl
  have c1 := take_short (G := G) b hb p 1 ((64 : Int) - (l : Int) + 1) (by decide) (by omega) (by omega)
  have eD := @kids_D 0 0 [] (fun _ _ => .nilif)
  have eI := @kids_I 0 0 [] (fun _ _ => .nilif)
  refine Wp.go (mx := true) (fun _ => mixed) [(6, {fm := [(0, .agg [.int .i64 0, .int .i64 0, .str [], .sl 4 0 (fun _ _ => .nilif)])]}), (4, {cs := [(1, cb [0] c1)]})] 100 [false, true] [inR IntKind.i64 ((64 : Int) - (↑l : Int) + (1 : Int)), (bif decide ((64 : Int) - (↑l : Int) + (1 : Int) > (64 : Int)) then true else decide ((17 : Int) - (↑(f + (1 : Nat)) : Int) > (16 : Int))) = false, (!false) = true, EqvI (V1.agg [Cell.int .i64 (0 : Int), Cell.int .i64 (0 : Int), Cell.str [], Cell.nilsl]) (V1.agg [Cell.int .i64 (0 : Int), Cell.int .i64 (0 : Int), Cell.str [], Cell.sl (4 : Nat) (0 : Nat) fun (x x_1 : Nat) => Cell.nilif]), EqvD (V1.agg [Cell.int .i64 (0 : Int), Cell.int .i64 (0 : Int), Cell.str [], Cell.nilsl]) (V1.agg [Cell.int .i64 (0 : Int), Cell.int .i64 (0 : Int), Cell.str [], Cell.sl (4 : Nat) (0 : Nat) fun (x x_1 : Nat) => Cell.nilif])] (by kernel_rfl) (by kernel_rfl) (by kernel_rfl) ⟨inR64 (by omega) (by omega), (by assumption), rfl, eqvI_flat _ _ (by kernel_rfl), (show EqvD (V1.agg [Cell.int .i64 (0 : Int), Cell.int .i64 (0 : Int), Cell.str [], Cell.nilsl]) (V1.agg [Cell.int .i64 (0 : Int), Cell.int .i64 (0 : Int), Cell.str [], Cell.sl (4 : Nat) (0 : Nat) fun (x x_1 : Nat) => Cell.nilif]) from (by assumption))⟩ ?_
  refine Wp.ret' (by kernel_rfl) ?_
  exact FinQ.blk [] (by kernel_rfl) (by kernel_rfl) (by kernel_rfl) (by kernel_rfl) (by kernel_rfl) trivial
theorem term_a1 (b : List UInt8) (hb : b.length ≤ 30000000000000) (f p l : Nat) (hf : f < 16) (hl : 0 < l) (hl2 : l ≤ 64) (hp : p < b.length) (hk : (b.getD p 0).toNat = 1) (h2 : b.length < p + 1 + 2) : FnB Tryz.prog G 256 [cB b p ((64 : Int) - (l : Int))] [.c (.ptr 0 0), .c (.int .i64 (17 - ((f + 1 : Nat) : Int)))] [.agg (encK ⟨1, 0, [], 0, fun _ _ => .nilif⟩), .c (errC 1)] [(0, cB b (p + 1) ((64 : Int) - (l : Int) + 1))] := by
  refine Fn.of' Tryz.func256 (by kernel_rfl) (by kernel_rfl) (by kernel_rfl) (by kernel_rfl) trivial ?_
  have ht0 : (bif decide ((64 : Int) - (l : Int) + 1 > 64) then true else decide (17 - ((f + 1 : Nat) : Int) > 16)) = false := by rw [decide_eq_false (by omega), decide_eq_false (by omega)]; rfl
  have c1 := take_one (G := G) b hb p ((64 : Int) - (l : Int) + 1) hp hk
  have c2 := atomC_a1 (G := G) b hb (p + 1) ((64 : Int) - (l : Int) + 1) (by omega) h2
  have eD := @kids_D 1 0 [] (fun _ _ => .nilif)
  have eI := @kids_I 1 0 [] (fun _ _ => .nilif)
  refine Wp.go (mx := true) (fun _ => mixed) [(21, {fm := [(0, .agg [.int .i64 1, .int .i64 0, .str [], .sl 4 0 (fun _ _ => .nilif)])]}), (4, {cs := [(1, cb [0] c1)]}), (11, {cs := [(1, cb [0] c2)]})] 100 [false, false, true] [inR IntKind.i64 ((64 : Int) - (↑l : Int) + (1 : Int)), (bif decide ((64 : Int) - (↑l : Int) + (1 : Int) > (64 : Int)) then true else decide ((17 : Int) - (↑(f + (1 : Nat)) : Int) > (16 : Int))) = false, (!true) = false, (0 : Int) ≤ (0 : Int) ∧ (0 : Int) < (↑(1 : Nat) : Int), (IntKind.i64.wrap (↑(1 : Nat) : Int) == (1 : Int)) = true, EqvI (V1.agg [Cell.int .i64 (IntKind.i64.wrap (↑(1 : Nat) : Int)), Cell.int .i64 (0 : Int), Cell.str [], Cell.nilsl]) (V1.agg [Cell.int .i64 (1 : Int), Cell.int .i64 (0 : Int), Cell.str [], Cell.sl (4 : Nat) (0 : Nat) fun (x x_1 : Nat) => Cell.nilif]), EqvD (V1.agg [Cell.int .i64 (IntKind.i64.wrap (↑(1 : Nat) : Int)), Cell.int .i64 (0 : Int), Cell.str [], Cell.nilsl]) (V1.agg [Cell.int .i64 (1 : Int), Cell.int .i64 (0 : Int), Cell.str [], Cell.sl (4 : Nat) (0 : Nat) fun (x x_1 : Nat) => Cell.nilif])] (by kernel_rfl) (by kernel_rfl) (by kernel_rfl) ⟨inR64 (by omega) (by omega), (by assumption), rfl, (by omega), rfl, eqvI_flat _ _ (by kernel_rfl), (show EqvD (V1.agg [Cell.int .i64 (IntKind.i64.wrap (↑(1 : Nat) : Int)), Cell.int .i64 (0 : Int), Cell.str [], Cell.nilsl]) (V1.agg [Cell.int .i64 (1 : Int), Cell.int .i64 (0 : Int), Cell.str [], Cell.sl (4 : Nat) (0 : Nat) fun (x x_1 : Nat) => Cell.nilif]) from (by assumption))⟩ ?_
  refine Wp.ret' (by kernel_rfl) ?_
  exact FinQ.blk [] (by kernel_rfl) (by kernel_rfl) (by kernel_rfl) (by kernel_rfl) (by kernel_rfl) trivial
theorem term_a2 (b : List UInt8) (hb : b.length ≤ 30000000000000) (f p l : Nat) (hf : f < 16) (hl : 0 < l) (hl2 : l ≤ 64) (hp : p < b.length) (hk : (b.getD p 0).toNat = 1) (h2 : p + 1 + 2 ≤ b.length) {n : Nat} (hn : (beN b (p + 1) 2).toNat = n) (h3 : 1024 < n) : FnB Tryz.prog G 256 [cB b p ((64 : Int) - (l : Int))] [.c (.ptr 0 0), .c (.int .i64 (17 - ((f + 1 : Nat) : Int)))] [.agg (encK ⟨1, 0, [], 0, fun _ _ => .nilif⟩), .c (errC 3)] [(0, cB b (p + 1 + 2) ((64 : Int) - (l : Int) + 1))] := by
  refine Fn.of' Tryz.func256 (by kernel_rfl) (by kernel_rfl) (by kernel_rfl) (by kernel_rfl) trivial ?_
  have ht0 : (bif decide ((64 : Int) - (l : Int) + 1 > 64) then true else decide (17 - ((f + 1 : Nat) : Int) > 16)) = false := by rw [decide_eq_false (by omega), decide_eq_false (by omega)]; rfl
  have c1 := take_one (G := G) b hb p ((64 : Int) - (l : Int) + 1) hp hk
  have c2 := atomC_a2 (G := G) b hb (p + 1) ((64 : Int) - (l : Int) + 1) h2 hn h3
  have eD := @kids_D 1 0 [] (fun _ _ => .nilif)
  have eI := @kids_I 1 0 [] (fun _ _ => .nilif)
  refine Wp.go (mx := true) (fun _ => mixed) [(21, {fm := [(0, .agg [.int .i64 1, .int .i64 0, .str [], .sl 4 0 (fun _ _ => .nilif)])]}), (4, {cs := [(1, cb [0] c1)]}), (11, {cs := [(1, cb [0] c2)]})] 100 [false, false, true] [inR IntKind.i64 ((64 : Int) - (↑l : Int) + (1 : Int)), (bif decide ((64 : Int) - (↑l : Int) + (1 : Int) > (64 : Int)) then true else decide ((17 : Int) - (↑(f + (1 : Nat)) : Int) > (16 : Int))) = false, (!true) = false, (0 : Int) ≤ (0 : Int) ∧ (0 : Int) < (↑(1 : Nat) : Int), (IntKind.i64.wrap (↑(1 : Nat) : Int) == (1 : Int)) = true, EqvI (V1.agg [Cell.int .i64 (IntKind.i64.wrap (↑(1 : Nat) : Int)), Cell.int .i64 (0 : Int), Cell.str [], Cell.nilsl]) (V1.agg [Cell.int .i64 (1 : Int), Cell.int .i64 (0 : Int), Cell.str [], Cell.sl (4 : Nat) (0 : Nat) fun (x x_1 : Nat) => Cell.nilif]), EqvD (V1.agg [Cell.int .i64 (IntKind.i64.wrap (↑(1 : Nat) : Int)), Cell.int .i64 (0 : Int), Cell.str [], Cell.nilsl]) (V1.agg [Cell.int .i64 (1 : Int), Cell.int .i64 (0 : Int), Cell.str [], Cell.sl (4 : Nat) (0 : Nat) fun (x x_1 : Nat) => Cell.nilif])] (by kernel_rfl) (by kernel_rfl) (by kernel_rfl) ⟨inR64 (by omega) (by omega), (by assumption), rfl, (by omega), rfl, eqvI_flat _ _ (by kernel_rfl), (show EqvD (V1.agg [Cell.int .i64 (IntKind.i64.wrap (↑(1 : Nat) : Int)), Cell.int .i64 (0 : Int), Cell.str [], Cell.nilsl]) (V1.agg [Cell.int .i64 (1 : Int), Cell.int .i64 (0 : Int), Cell.str [], Cell.sl (4 : Nat) (0 : Nat) fun (x x_1 : Nat) => Cell.nilif]) from (by assumption))⟩ ?_
  refine Wp.ret' (by kernel_rfl) ?_
  exact FinQ.blk [] (by kernel_rfl) (by kernel_rfl) (by kernel_rfl) (by kernel_rfl) (by kernel_rfl) trivial
theorem term_a3 (b : List UInt8) (hb : b.length ≤ 30000000000000) (f p l : Nat) (hf : f < 16) (hl : 0 < l) (hl2 : l ≤ 64) (hp : p < b.length) (hk : (b.getD p 0).toNat = 1) (h2 : p + 1 + 2 ≤ b.length) {n : Nat} (hn : (beN b (p + 1) 2).toNat = n) (h3 : n ≤ 1024) (h4 : b.length < p + 1 + 2 + n) : FnB Tryz.prog G 256 [cB b p ((64 : Int) - (l : Int))] [.c (.ptr 0 0), .c (.int .i64 (17 - ((f + 1 : Nat) : Int)))] [.agg (encK ⟨1, 0, [], 0, fun _ _ => .nilif⟩), .c (errC 1)] [(0, cB b (p + 1 + 2) ((64 : Int) - (l : Int) + 1))] := by
  refine Fn.of' Tryz.func256 (by kernel_rfl) (by kernel_rfl) (by kernel_rfl) (by kernel_rfl) trivial ?_
  have ht0 : (bif decide ((64 : Int) - (l : Int) + 1 > 64) then true else decide (17 - ((f + 1 : Nat) : Int) > 16)) = false := by rw [decide_eq_false (by omega), decide_eq_false (by omega)]; rfl
  have c1 := take_one (G := G) b hb p ((64 : Int) - (l : Int) + 1) hp hk
  have c2 := atomC_a3 (G := G) b hb (p + 1) ((64 : Int) - (l : Int) + 1) h2 hn h3 h4
  have eD := @kids_D 1 0 [] (fun _ _ => .nilif)
  have eI := @kids_I 1 0 [] (fun _ _ => .nilif)
  refine Wp.go (mx := true) (fun _ => mixed) [(21, {fm := [(0, .agg [.int .i64 1, .int .i64 0, .str [], .sl 4 0 (fun _ _ => .nilif)])]}), (4, {cs := [(1, cb [0] c1)]}), (11, {cs := [(1, cb [0] c2)]})] 100 [false, false, true] [inR IntKind.i64 ((64 : Int) - (↑l : Int) + (1 : Int)), (bif decide ((64 : Int) - (↑l : Int) + (1 : Int) > (64 : Int)) then true else decide ((17 : Int) - (↑(f + (1 : Nat)) : Int) > (16 : Int))) = false, (!true) = false, (0 : Int) ≤ (0 : Int) ∧ (0 : Int) < (↑(1 : Nat) : Int), (IntKind.i64.wrap (↑(1 : Nat) : Int) == (1 : Int)) = true, EqvI (V1.agg [Cell.int .i64 (IntKind.i64.wrap (↑(1 : Nat) : Int)), Cell.int .i64 (0 : Int), Cell.str [], Cell.nilsl]) (V1.agg [Cell.int .i64 (1 : Int), Cell.int .i64 (0 : Int), Cell.str [], Cell.sl (4 : Nat) (0 : Nat) fun (x x_1 : Nat) => Cell.nilif]), EqvD (V1.agg [Cell.int .i64 (IntKind.i64.wrap (↑(1 : Nat) : Int)), Cell.int .i64 (0 : Int), Cell.str [], Cell.nilsl]) (V1.agg [Cell.int .i64 (1 : Int), Cell.int .i64 (0 : Int), Cell.str [], Cell.sl (4 : Nat) (0 : Nat) fun (x x_1 : Nat) => Cell.nilif])] (by kernel_rfl) (by kernel_rfl) (by kernel_rfl) ⟨inR64 (by omega) (by omega), (by assumption), rfl, (by omega), rfl, eqvI_flat _ _ (by kernel_rfl), (show EqvD (V1.agg [Cell.int .i64 (IntKind.i64.wrap (↑(1 : Nat) : Int)), Cell.int .i64 (0 : Int), Cell.str [], Cell.nilsl]) (V1.agg [Cell.int .i64 (1 : Int), Cell.int .i64 (0 : Int), Cell.str [], Cell.sl (4 : Nat) (0 : Nat) fun (x x_1 : Nat) => Cell.nilif]) from (by assumption))⟩ ?_
  refine Wp.ret' (by kernel_rfl) ?_
  exact FinQ.blk [] (by kernel_rfl) (by kernel_rfl) (by kernel_rfl) (by kernel_rfl) (by kernel_rfl) trivial
theorem term_a4 (b : List UInt8) (hb : b.length ≤ 30000000000000) (f p l : Nat) (hf : f < 16) (hl : 0 < l) (hl2 : l ≤ 64) (hp : p < b.length) (hk : (b.getD p 0).toNat = 1) (h2 : p + 1 + 2 ≤ b.length) {n : Nat} (hn : (beN b (p + 1) 2).toNat = n) (h3 : n ≤ 1024) (h4 : p + 1 + 2 + n ≤ b.length) : FnB Tryz.prog G 256 [cB b p ((64 : Int) - (l : Int))] [.c (.ptr 0 0), .c (.int .i64 (17 - ((f + 1 : Nat) : Int)))] [.agg (encK ⟨1, 0, ((b.drop (p + 1 + 2)).take n), 0, fun _ _ => .nilif⟩), .c .nilif] [(0, cB b (p + 1 + 2 + n) ((64 : Int) - (l : Int) + 1))] := by
  refine Fn.of' Tryz.func256 (by kernel_rfl) (by kernel_rfl) (by kernel_rfl) (by kernel_rfl) trivial ?_
  have ht0 : (bif decide ((64 : Int) - (l : Int) + 1 > 64) then true else decide (17 - ((f + 1 : Nat) : Int) > 16)) = false := by rw [decide_eq_false (by omega), decide_eq_false (by omega)]; rfl
  have c1 := take_one (G := G) b hb p ((64 : Int) - (l : Int) + 1) hp hk
  have c2 := atomC_a4 (G := G) b hb (p + 1) ((64 : Int) - (l : Int) + 1) h2 hn h3 h4
  have eD := @kids_D 1 0 ((b.drop (p + 1 + 2)).take n) (fun _ _ => .nilif)
  have eI := @kids_I 1 0 ((b.drop (p + 1 + 2)).take n) (fun _ _ => .nilif)
  refine Wp.go (mx := true) (fun _ => mixed) [(21, {fm := [(0, .agg [.int .i64 1, .int .i64 0, .str ((b.drop (p + 1 + 2)).take n), .sl 4 0 (fun _ _ => .nilif)])]}), (4, {cs := [(1, cb [0] c1)]}), (11, {cs := [(1, cb [0] c2)]})] 100 [false, false, true] [inR IntKind.i64 ((64 : Int) - (↑l : Int) + (1 : Int)), (bif decide ((64 : Int) - (↑l : Int) + (1 : Int) > (64 : Int)) then true else decide ((17 : Int) - (↑(f + (1 : Nat)) : Int) > (16 : Int))) = false, (!true) = false, (0 : Int) ≤ (0 : Int) ∧ (0 : Int) < (↑(1 : Nat) : Int), (IntKind.i64.wrap (↑(1 : Nat) : Int) == (1 : Int)) = true, EqvI (V1.agg [Cell.int .i64 (IntKind.i64.wrap (↑(1 : Nat) : Int)), Cell.int .i64 (0 : Int), Cell.str (List.take n (List.drop (p + (1 : Nat) + (2 : Nat)) b)), Cell.nilsl]) (V1.agg [Cell.int .i64 (1 : Int), Cell.int .i64 (0 : Int), Cell.str (List.take n (List.drop (p + (1 : Nat) + (2 : Nat)) b)), Cell.sl (4 : Nat) (0 : Nat) fun (x x_1 : Nat) => Cell.nilif]), EqvD (V1.agg [Cell.int .i64 (IntKind.i64.wrap (↑(1 : Nat) : Int)), Cell.int .i64 (0 : Int), Cell.str (List.take n (List.drop (p + (1 : Nat) + (2 : Nat)) b)), Cell.nilsl]) (V1.agg [Cell.int .i64 (1 : Int), Cell.int .i64 (0 : Int), Cell.str (List.take n (List.drop (p + (1 : Nat) + (2 : Nat)) b)), Cell.sl (4 : Nat) (0 : Nat) fun (x x_1 : Nat) => Cell.nilif])] (by kernel_rfl) (by kernel_rfl) (by kernel_rfl) ⟨inR64 (by omega) (by omega), (by assumption), rfl, (by omega), rfl, eqvI_flat _ _ (by kernel_rfl), (show EqvD (V1.agg [Cell.int .i64 (IntKind.i64.wrap (↑(1 : Nat) : Int)), Cell.int .i64 (0 : Int), Cell.str (List.take n (List.drop (p + (1 : Nat) + (2 : Nat)) b)), Cell.nilsl]) (V1.agg [Cell.int .i64 (1 : Int), Cell.int .i64 (0 : Int), Cell.str (List.take n (List.drop (p + (1 : Nat) + (2 : Nat)) b)), Cell.sl (4 : Nat) (0 : Nat) fun (x x_1 : Nat) => Cell.nilif]) from (by assumption))⟩ ?_
  refine Wp.ret' (by kernel_rfl) ?_
  exact FinQ.blk [] (by kernel_rfl) (by kernel_rfl) (by kernel_rfl) (by kernel_rfl) (by kernel_rfl) trivial
theorem term_n1 (b : List UInt8) (hb : b.length ≤ 30000000000000) (f p l : Nat) (hf : f < 16) (hl : 0 < l) (hl2 : l ≤ 64) (hp : p < b.length) (hk : (b.getD p 0).toNat = 2) (h2 : b.length < p + 1 + 4) : FnB Tryz.prog G 256 [cB b p ((64 : Int) - (l : Int))] [.c (.ptr 0 0), .c (.int .i64 (17 - ((f + 1 : Nat) : Int)))] [.agg (encK ⟨2, 0, [], 0, fun _ _ => .nilif⟩), .c (errC 1)] [(0, cB b (p + 1) ((64 : Int) - (l : Int) + 1))] := by
  refine Fn.of' Tryz.func256 (by kernel_rfl) (by kernel_rfl) (by kernel_rfl) (by kernel_rfl) trivial ?_
  have ht0 : (bif decide ((64 : Int) - (l : Int) + 1 > 64) then true else decide (17 - ((f + 1 : Nat) : Int) > 16)) = false := by rw [decide_eq_false (by omega), decide_eq_false (by omega)]; rfl
  have c1 := take_one (G := G) b hb p ((64 : Int) - (l : Int) + 1) hp hk
  have c2 := numC_short (G := G) b hb (p + 1) 4 ((64 : Int) - (l : Int) + 1) 1073741824 (by decide) (by omega) h2
  have eD := @kids_D 2 0 [] (fun _ _ => .nilif)
  have eI := @kids_I 2 0 [] (fun _ _ => .nilif)
  refine Wp.go (mx := true) (fun _ => mixed) [(21, {fm := [(0, .agg [.int .i64 2, .int .i64 0, .str [], .sl 4 0 (fun _ _ => .nilif)])]}), (4, {cs := [(1, cb [0] c1)]}), (13, {cs := [(1, cb [0] c2)]})] 100 [false, false, false, true] [inR IntKind.i64 ((64 : Int) - (↑l : Int) + (1 : Int)), (bif decide ((64 : Int) - (↑l : Int) + (1 : Int) > (64 : Int)) then true else decide ((17 : Int) - (↑(f + (1 : Nat)) : Int) > (16 : Int))) = false, (!true) = false, (0 : Int) ≤ (0 : Int) ∧ (0 : Int) < (↑(1 : Nat) : Int), (IntKind.i64.wrap (↑(2 : Nat) : Int) == (1 : Int)) = false, (IntKind.i64.wrap (↑(2 : Nat) : Int) == (2 : Int)) = true, EqvI (V1.agg [Cell.int .i64 (IntKind.i64.wrap (↑(2 : Nat) : Int)), Cell.int .i64 (0 : Int), Cell.str [], Cell.nilsl]) (V1.agg [Cell.int .i64 (2 : Int), Cell.int .i64 (0 : Int), Cell.str [], Cell.sl (4 : Nat) (0 : Nat) fun (x x_1 : Nat) => Cell.nilif]), EqvD (V1.agg [Cell.int .i64 (IntKind.i64.wrap (↑(2 : Nat) : Int)), Cell.int .i64 (0 : Int), Cell.str [], Cell.nilsl]) (V1.agg [Cell.int .i64 (2 : Int), Cell.int .i64 (0 : Int), Cell.str [], Cell.sl (4 : Nat) (0 : Nat) fun (x x_1 : Nat) => Cell.nilif])] (by kernel_rfl) (by kernel_rfl) (by kernel_rfl) ⟨inR64 (by omega) (by omega), (by assumption), rfl, (by omega), rfl, rfl, eqvI_flat _ _ (by kernel_rfl), (show EqvD (V1.agg [Cell.int .i64 (IntKind.i64.wrap (↑(2 : Nat) : Int)), Cell.int .i64 (0 : Int), Cell.str [], Cell.nilsl]) (V1.agg [Cell.int .i64 (2 : Int), Cell.int .i64 (0 : Int), Cell.str [], Cell.sl (4 : Nat) (0 : Nat) fun (x x_1 : Nat) => Cell.nilif]) from (by assumption))⟩ ?_
  refine Wp.ret' (by kernel_rfl) ?_
  exact FinQ.blk [] (by kernel_rfl) (by kernel_rfl) (by kernel_rfl) (by kernel_rfl) (by kernel_rfl) trivial
theorem term_n2 (b : List UInt8) (hb : b.length ≤ 30000000000000) (f p l : Nat) (hf : f < 16) (hl : 0 < l) (hl2 : l ≤ 64) (hp : p < b.length) (hk : (b.getD p 0).toNat = 2) (h2 : p + 1 + 4 ≤ b.length) {n : Nat} (hn : (beN b (p + 1) 4).toNat = n) (h3 : 1073741824 < n) : FnB Tryz.prog G 256 [cB b p ((64 : Int) - (l : Int))] [.c (.ptr 0 0), .c (.int .i64 (17 - ((f + 1 : Nat) : Int)))] [.agg (encK ⟨2, 0, [], 0, fun _ _ => .nilif⟩), .c (errC 3)] [(0, cB b (p + 1 + 4) ((64 : Int) - (l : Int) + 1))] := by
  refine Fn.of' Tryz.func256 (by kernel_rfl) (by kernel_rfl) (by kernel_rfl) (by kernel_rfl) trivial ?_
  have ht0 : (bif decide ((64 : Int) - (l : Int) + 1 > 64) then true else decide (17 - ((f + 1 : Nat) : Int) > 16)) = false := by rw [decide_eq_false (by omega), decide_eq_false (by omega)]; rfl
  have c1 := take_one (G := G) b hb p ((64 : Int) - (l : Int) + 1) hp hk
  have c2 := numC_big (G := G) b hb (p + 1) 4 ((64 : Int) - (l : Int) + 1) 1073741824 (by decide) h2 (by omega)
  have eD := @kids_D 2 0 [] (fun _ _ => .nilif)
  have eI := @kids_I 2 0 [] (fun _ _ => .nilif)
  refine Wp.go (mx := true) (fun _ => mixed) [(21, {fm := [(0, .agg [.int .i64 2, .int .i64 0, .str [], .sl 4 0 (fun _ _ => .nilif)])]}), (4, {cs := [(1, cb [0] c1)]}), (13, {cs := [(1, cb [0] c2)]})] 100 [false, false, false, true] [inR IntKind.i64 ((64 : Int) - (↑l : Int) + (1 : Int)), (bif decide ((64 : Int) - (↑l : Int) + (1 : Int) > (64 : Int)) then true else decide ((17 : Int) - (↑(f + (1 : Nat)) : Int) > (16 : Int))) = false, (!true) = false, (0 : Int) ≤ (0 : Int) ∧ (0 : Int) < (↑(1 : Nat) : Int), (IntKind.i64.wrap (↑(2 : Nat) : Int) == (1 : Int)) = false, (IntKind.i64.wrap (↑(2 : Nat) : Int) == (2 : Int)) = true, EqvI (V1.agg [Cell.int .i64 (IntKind.i64.wrap (↑(2 : Nat) : Int)), Cell.int .i64 (0 : Int), Cell.str [], Cell.nilsl]) (V1.agg [Cell.int .i64 (2 : Int), Cell.int .i64 (0 : Int), Cell.str [], Cell.sl (4 : Nat) (0 : Nat) fun (x x_1 : Nat) => Cell.nilif]), EqvD (V1.agg [Cell.int .i64 (IntKind.i64.wrap (↑(2 : Nat) : Int)), Cell.int .i64 (0 : Int), Cell.str [], Cell.nilsl]) (V1.agg [Cell.int .i64 (2 : Int), Cell.int .i64 (0 : Int), Cell.str [], Cell.sl (4 : Nat) (0 : Nat) fun (x x_1 : Nat) => Cell.nilif])] (by kernel_rfl) (by kernel_rfl) (by kernel_rfl) ⟨inR64 (by omega) (by omega), (by assumption), rfl, (by omega), rfl, rfl, eqvI_flat _ _ (by kernel_rfl), (show EqvD (V1.agg [Cell.int .i64 (IntKind.i64.wrap (↑(2 : Nat) : Int)), Cell.int .i64 (0 : Int), Cell.str [], Cell.nilsl]) (V1.agg [Cell.int .i64 (2 : Int), Cell.int .i64 (0 : Int), Cell.str [], Cell.sl (4 : Nat) (0 : Nat) fun (x x_1 : Nat) => Cell.nilif]) from (by assumption))⟩ ?_
  refine Wp.ret' (by kernel_rfl) ?_
  exact FinQ.blk [] (by kernel_rfl) (by kernel_rfl) (by kernel_rfl) (by kernel_rfl) (by kernel_rfl) trivial
theorem term_n3 (b : List UInt8) (hb : b.length ≤ 30000000000000) (f p l : Nat) (hf : f < 16) (hl : 0 < l) (hl2 : l ≤ 64) (hp : p < b.length) (hk : (b.getD p 0).toNat = 2) (h2 : p + 1 + 4 ≤ b.length) {n : Nat} (hn : (beN b (p + 1) 4).toNat = n) (h3 : n ≤ 1073741824) : FnB Tryz.prog G 256 [cB b p ((64 : Int) - (l : Int))] [.c (.ptr 0 0), .c (.int .i64 (17 - ((f + 1 : Nat) : Int)))] [.agg (encK ⟨2, (n : Int), [], 0, fun _ _ => .nilif⟩), .c .nilif] [(0, cB b (p + 1 + 4) ((64 : Int) - (l : Int) + 1))] := by
  refine Fn.of' Tryz.func256 (by kernel_rfl) (by kernel_rfl) (by kernel_rfl) (by kernel_rfl) trivial ?_
  have ht0 : (bif decide ((64 : Int) - (l : Int) + 1 > 64) then true else decide (17 - ((f + 1 : Nat) : Int) > 16)) = false := by rw [decide_eq_false (by omega), decide_eq_false (by omega)]; rfl
  have c1 := take_one (G := G) b hb p ((64 : Int) - (l : Int) + 1) hp hk
  have hr := beN_big b (p + 1) 4 (by decide)
  have c2 := numC_good (G := G) b hb (p + 1) 4 ((64 : Int) - (l : Int) + 1) 1073741824 (by decide) h2 (by omega)
  rw [show beN b (p + 1) 4 = (n : Int) by omega] at c2
  have eD := @kids_D 2 (n : Int) [] (fun _ _ => .nilif)
  have eI := @kids_I 2 (n : Int) [] (fun _ _ => .nilif)
  refine Wp.go (mx := true) (fun _ => mixed) [(21, {fm := [(0, .agg [.int .i64 2, .int .i64 (n : Int), .str [], .sl 4 0 (fun _ _ => .nilif)])]}), (4, {cs := [(1, cb [0] c1)]}), (13, {cs := [(1, cb [0] c2)]})] 100 [false, false, false, true] [inR IntKind.i64 ((64 : Int) - (↑l : Int) + (1 : Int)), (bif decide ((64 : Int) - (↑l : Int) + (1 : Int) > (64 : Int)) then true else decide ((17 : Int) - (↑(f + (1 : Nat)) : Int) > (16 : Int))) = false, (!true) = false, (0 : Int) ≤ (0 : Int) ∧ (0 : Int) < (↑(1 : Nat) : Int), (IntKind.i64.wrap (↑(2 : Nat) : Int) == (1 : Int)) = false, (IntKind.i64.wrap (↑(2 : Nat) : Int) == (2 : Int)) = true, EqvI (V1.agg [Cell.int .i64 (IntKind.i64.wrap (↑(2 : Nat) : Int)), Cell.int .i64 (↑n : Int), Cell.str [], Cell.nilsl]) (V1.agg [Cell.int .i64 (2 : Int), Cell.int .i64 (↑n : Int), Cell.str [], Cell.sl (4 : Nat) (0 : Nat) fun (x x_1 : Nat) => Cell.nilif]), EqvD (V1.agg [Cell.int .i64 (IntKind.i64.wrap (↑(2 : Nat) : Int)), Cell.int .i64 (↑n : Int), Cell.str [], Cell.nilsl]) (V1.agg [Cell.int .i64 (2 : Int), Cell.int .i64 (↑n : Int), Cell.str [], Cell.sl (4 : Nat) (0 : Nat) fun (x x_1 : Nat) => Cell.nilif])] (by kernel_rfl) (by kernel_rfl) (by kernel_rfl) ⟨inR64 (by omega) (by omega), (by assumption), rfl, (by omega), rfl, rfl, eqvI_flat _ _ (by kernel_rfl), (show EqvD (V1.agg [Cell.int .i64 (IntKind.i64.wrap (↑(2 : Nat) : Int)), Cell.int .i64 (↑n : Int), Cell.str [], Cell.nilsl]) (V1.agg [Cell.int .i64 (2 : Int), Cell.int .i64 (↑n : Int), Cell.str [], Cell.sl (4 : Nat) (0 : Nat) fun (x x_1 : Nat) => Cell.nilif]) from (by assumption))⟩ ?_
  refine Wp.ret' (by kernel_rfl) ?_
  exact FinQ.blk [] (by kernel_rfl) (by kernel_rfl) (by kernel_rfl) (by kernel_rfl) (by kernel_rfl) trivial
theorem term_bad (b : List UInt8) (hb : b.length ≤ 30000000000000) (f p l : Nat) (hf : f < 16) (hl : 0 < l) (hl2 : l ≤ 64) (hp : p < b.length) {k : Nat} (hk : (b.getD p 0).toNat = k) (hk0 : k = 0 ∨ 8 ≤ k) (hk9 : k < 256) : FnB Tryz.prog G 256 [cB b p ((64 : Int) - (l : Int))] [.c (.ptr 0 0), .c (.int .i64 (17 - ((f + 1 : Nat) : Int)))] [.agg (encK ⟨(k : Int), 0, [], 0, fun _ _ => .nilif⟩), .c (errC 2)] [(0, cB b (p + 1) ((64 : Int) - (l : Int) + 1))] := by
  refine Fn.of' Tryz.func256 (by kernel_rfl) (by kernel_rfl) (by kernel_rfl) (by kernel_rfl) trivial ?_
  have ht0 : (bif decide ((64 : Int) - (l : Int) + 1 > 64) then true else decide (17 - ((f + 1 : Nat) : Int) > 16)) = false := by rw [decide_eq_false (by omega), decide_eq_false (by omega)]; rfl
  have c1 := take_one (G := G) b hb p ((64 : Int) - (l : Int) + 1) hp hk
  have hk1 : ((k : Int) == 1) = false := by rw [beq_eq_false_iff_ne]; omega
  have hk2 : ((k : Int) == 2) = false := by rw [beq_eq_false_iff_ne]; omega
  have hk3 : ((k : Int) == 3) = false := by rw [beq_eq_false_iff_ne]; omega
  have hk4 : ((k : Int) == 4) = false := by rw [beq_eq_false_iff_ne]; omega
  have hk5 : ((k : Int) == 5) = false := by rw [beq_eq_false_iff_ne]; omega
  have hk6 : ((k : Int) == 6) = false := by rw [beq_eq_false_iff_ne]; omega
  have hk7 : ((k : Int) == 7) = false := by rw [beq_eq_false_iff_ne]; omega
  have e9 : EqvD (.c (.int .i64 (IntKind.i64.wrap (k : Int)))) (.c (.int .i64 (k : Int))) := eqvD_of (by rw [wrap64 (by omega) (by omega)])
  have eD := @kids_D (k : Int) 0 [] (fun _ _ => .nilif)
  have eI := @kids_I (k : Int) 0 [] (fun _ _ => .nilif)
  refine Wp.go (mx := true) (fun _ => mixed) [(7, {fm := [(3, .c (.int .i64 (k : Int)))]}), (21, {fm := [(0, .agg [.int .i64 (k : Int), .int .i64 0, .str [], .sl 4 0 (fun _ _ => .nilif)])]}), (4, {cs := [(1, cb [0] c1)]})] 100 [false, false, false, false, false, false, false, false, false] [inR IntKind.i64 ((64 : Int) - (↑l : Int) + (1 : Int)), (bif decide ((64 : Int) - (↑l : Int) + (1 : Int) > (64 : Int)) then true else decide ((17 : Int) - (↑(f + (1 : Nat)) : Int) > (16 : Int))) = false, (!true) = false, (0 : Int) ≤ (0 : Int) ∧ (0 : Int) < (↑(1 : Nat) : Int), EqvI (V1.c (Cell.int .i64 (IntKind.i64.wrap (↑k : Int)))) (V1.c (Cell.int .i64 (↑k : Int))), EqvD (V1.c (Cell.int .i64 (IntKind.i64.wrap (↑k : Int)))) (V1.c (Cell.int .i64 (↑k : Int))), ((↑k : Int) == (1 : Int)) = false, ((↑k : Int) == (2 : Int)) = false, ((↑k : Int) == (3 : Int)) = false, ((↑k : Int) == (4 : Int)) = false, ((↑k : Int) == (5 : Int)) = false, ((↑k : Int) == (6 : Int)) = false, ((↑k : Int) == (7 : Int)) = false, EqvI (V1.agg [Cell.int .i64 (↑k : Int), Cell.int .i64 (0 : Int), Cell.str [], Cell.nilsl]) (V1.agg [Cell.int .i64 (↑k : Int), Cell.int .i64 (0 : Int), Cell.str [], Cell.sl (4 : Nat) (0 : Nat) fun (x x_1 : Nat) => Cell.nilif]), EqvD (V1.agg [Cell.int .i64 (↑k : Int), Cell.int .i64 (0 : Int), Cell.str [], Cell.nilsl]) (V1.agg [Cell.int .i64 (↑k : Int), Cell.int .i64 (0 : Int), Cell.str [], Cell.sl (4 : Nat) (0 : Nat) fun (x x_1 : Nat) => Cell.nilif])] (by kernel_rfl) (by kernel_rfl) (by kernel_rfl) ⟨inR64 (by omega) (by omega), (by assumption), rfl, (by omega), fun _ _ => trivial, (by assumption), (by assumption), (by assumption), (by assumption), (by assumption), (by assumption), (by assumption), (by assumption), eqvI_flat _ _ (by kernel_rfl), (show EqvD (V1.agg [Cell.int .i64 (↑k : Int), Cell.int .i64 (0 : Int), Cell.str [], Cell.nilsl]) (V1.agg [Cell.int .i64 (↑k : Int), Cell.int .i64 (0 : Int), Cell.str [], Cell.sl (4 : Nat) (0 : Nat) fun (x x_1 : Nat) => Cell.nilif]) from (by assumption))⟩ ?_
  refine Wp.ret' (by kernel_rfl) ?_
  exact FinQ.blk [] (by kernel_rfl) (by kernel_rfl) (by kernel_rfl) (by kernel_rfl) (by kernel_rfl) trivial
end Go.Proofs.Tw
end

section
open Go Go.Sv Go.RowKit
namespace Go.Proofs.Tw
attribute [local irreducible] Wp FinQ resV Ent Pur Go.Sv.Fn Sat0
set_option maxRecDepth 100000
set_option maxHeartbeats 4000000
variable {G : Nat → Option (List Cell)}

def zeroT : Nat → Nat → Cell := fun _ j => nthD [.int .i64 0, .int .i64 0, .str [], .nilsl] j
theorem kid_new2 {e : TypeId} (F : Nat → Nat → Cell) (x : KT) : BlkEqv (.row e 4 1 (catF 0 F (fun i j => nthD (encK x) ((0 + i) * 4 + j)))) (.row e 4 1 (rowF encK .nil [x])) := BlkEqv.row_ext rfl fun i hi j hj => by
  obtain rfl : i = 0 := by omega
  show nthD (encK x) ((0 + (0 - 0)) * 4 + j) = nthD (encK x) j
  congr 1; omega
def kcSt (b : List UInt8) (d kids i : Int) (p : Nat) (c : Int) (n : Nat) (F : Nat → Nat → Cell) : St :=
  ⟨[(0, .v (.c (.ptr 0 0))), (2, .v (.c (.int .i64 d))), (8, .v (.c (.row 4 49 0 n))), (13, .v (.c (.int .i64 kids))), (14, .v (.c (.int .i64 i)))], [(0, cB b p c), (49, .row 117 4 n F)], 113⟩
theorem kidsC_1 (b : List UInt8) (p : Nat) (c d : Int) {x : KT} {p1 : Nat} {c1 : Int} (cx : FnB Tryz.prog G 256 [cB b p c] [.c (.ptr 0 0), .c (.int .i64 d)] [.agg (encK x), .c .nilif] [(0, cB b p1 c1)]) : FnB Tryz.prog G 268 [cB b p c] [.c (.ptr 0 0), .c (.int .i64 1), .c (.int .i64 d)] [.c (.sl 4 1 (rowF encK .nil [x])), .c .nilif] [(0, cB b p1 c1)] := by
  refine Fn.of' Tryz.func268 (by kernel_rfl) (by kernel_rfl) (by kernel_rfl) (by kernel_rfl) trivial ?_
  refine Wp.go (mx := true) (fun _ => mixed) [] 100 [] [(0 : Int) ≤ (0 : Int), (0 : Int) ≤ (1 : Int), (1 : Int) * (↑(56 : Nat) : Int) ≤ (140737488355328 : Int)] (by kernel_rfl) (by kernel_rfl) (by kernel_rfl) ⟨(by omega), (by omega), (show (1 : Int) * (↑(56 : Nat) : Int) ≤ (140737488355328 : Int) from (by omega))⟩ ?_
  refine Wp.loopK (by kernel_rfl) (fun (j : Nat) => match j with | 0 => kcSt b d 1 0 p c 0 zeroT | _ => kcSt b d 1 1 p1 c1 1 (rowF encK .nil [x])) (fun j => j ≤ 1) (fun j => 1 - j) 0 (Ent.of [(49, 49)] (by kernel_rfl) (by kernel_rfl) (by kernel_rfl) trivial) (Nat.zero_le _) ?_
  intro j L hj again
  obtain rfl | rfl : j = 0 ∨ j = 1 := by omega
  · have e1 := kid_new2 (e := 117) zeroT x
    refine Wp.go (mx := true) (fun _ => mixed) [(7, {bs := [(3, Blk.row 117 4 1 (rowF encK .nil [x]))]}), (4, {cs := [(2, cb [0] cx)]})] 100 [true, false] [decide ((0 : Int) < (1 : Int)) = true, (!true) = false, (56 : Nat) ≤ (140737488355328 : Nat), BlkEqv (Blk.row 117 (4 : Nat) (1 : Nat) (catF (0 : Nat) zeroT fun (i j : Nat) => nthD [Cell.int .i64 x.k, Cell.int .i64 x.n, Cell.str x.s, Cell.sl (4 : Nat) x.m x.f] (((0 : Nat) + i) * (4 : Nat) + j))) (Blk.row 117 (4 : Nat) (1 : Nat) (rowF encK KT.nil [x])), (0 : Nat) ≤ (0 : Nat), (0 : Nat) + (1 : Nat) ≤ (1 : Nat), inR IntKind.i64 ((0 : Int) + (1 : Int))] (by kernel_rfl) (by kernel_rfl) (by kernel_rfl) ⟨rfl, rfl, (by omega), (by assumption), (by omega), (by omega), inR64 (by omega) (by omega)⟩ ?_
    exact Wp.lpK (by kernel_rfl) (again _ 1 (by omega) (by omega) (Ent.of [(49, 353)] (by kernel_rfl) (by kernel_rfl) (by kernel_rfl) trivial))
  · refine Wp.ent' (by kernel_rfl) (Ent.pubT (t := 8) (e := 117) (sz := 4) (id := 49) (off := 0) (m := 1) (n := 1) (f := rowF encK .nil [x]) (m' := 1) (f' := rowF encK .nil [x]) (by kernel_rfl) (by kernel_rfl) (by omega) rfl (fun i _ j _ => by rw [Nat.zero_add]) rfl) ?_
    refine Wp.go (mx := true) (fun _ => mixed) [] 100 [false] [decide ((1 : Int) < (1 : Int)) = false] (by kernel_rfl) (by kernel_rfl) (by kernel_rfl) rfl ?_
    refine Wp.ret' (by kernel_rfl) ?_
    exact FinQ.blk [] (by kernel_rfl) (by kernel_rfl) (by kernel_rfl) (by kernel_rfl) (by kernel_rfl) trivial
theorem kidsC_x (b : List UInt8) (p : Nat) (c d : Int) {x : KT} {p1 : Nat} {c1 e : Int} (cx : FnB Tryz.prog G 256 [cB b p c] [.c (.ptr 0 0), .c (.int .i64 d)] [.agg (encK x), .c (errC e)] [(0, cB b p1 c1)]) : FnB Tryz.prog G 268 [cB b p c] [.c (.ptr 0 0), .c (.int .i64 1), .c (.int .i64 d)] [.c .nilsl, .c (errC e)] [(0, cB b p1 c1)] := by
  refine Fn.of' Tryz.func268 (by kernel_rfl) (by kernel_rfl) (by kernel_rfl) (by kernel_rfl) trivial ?_
  refine Wp.go (mx := true) (fun _ => mixed) [] 100 [] [(0 : Int) ≤ (0 : Int), (0 : Int) ≤ (1 : Int), (1 : Int) * (↑(56 : Nat) : Int) ≤ (140737488355328 : Int)] (by kernel_rfl) (by kernel_rfl) (by kernel_rfl) ⟨(by omega), (by omega), (show (1 : Int) * (↑(56 : Nat) : Int) ≤ (140737488355328 : Int) from (by omega))⟩ ?_
  refine Wp.loopK (by kernel_rfl) (fun (j : Nat) => kcSt b d 1 0 p c 0 zeroT) (fun j => j ≤ 0) (fun j => 0 - j) 0 (Ent.of [(49, 49)] (by kernel_rfl) (by kernel_rfl) (by kernel_rfl) trivial) (Nat.zero_le _) ?_
  intro j L hj again
  obtain rfl : j = 0 := by omega
  · refine Wp.go (mx := true) (fun _ => mixed) [(4, {cs := [(2, cb [0] cx)]})] 100 [true, true] [decide ((0 : Int) < (1 : Int)) = true, (!false) = true] (by kernel_rfl) (by kernel_rfl) (by kernel_rfl) ⟨rfl, rfl⟩ ?_
    refine Wp.ret' (by kernel_rfl) ?_
    exact FinQ.blk [] (by kernel_rfl) (by kernel_rfl) (by kernel_rfl) (by kernel_rfl) (by kernel_rfl) trivial
theorem kidsC_x2 (b : List UInt8) (p : Nat) (c d : Int) {x : KT} {p1 : Nat} {c1 e : Int} (cx : FnB Tryz.prog G 256 [cB b p c] [.c (.ptr 0 0), .c (.int .i64 d)] [.agg (encK x), .c (errC e)] [(0, cB b p1 c1)]) : FnB Tryz.prog G 268 [cB b p c] [.c (.ptr 0 0), .c (.int .i64 2), .c (.int .i64 d)] [.c .nilsl, .c (errC e)] [(0, cB b p1 c1)] := by
  refine Fn.of' Tryz.func268 (by kernel_rfl) (by kernel_rfl) (by kernel_rfl) (by kernel_rfl) trivial ?_
  refine Wp.go (mx := true) (fun _ => mixed) [] 100 [] [(0 : Int) ≤ (0 : Int), (0 : Int) ≤ (2 : Int), (2 : Int) * (↑(56 : Nat) : Int) ≤ (140737488355328 : Int)] (by kernel_rfl) (by kernel_rfl) (by kernel_rfl) ⟨(by omega), (by omega), (show (2 : Int) * (↑(56 : Nat) : Int) ≤ (140737488355328 : Int) from (by omega))⟩ ?_
  refine Wp.loopK (by kernel_rfl) (fun (j : Nat) => kcSt b d 2 0 p c 0 zeroT) (fun j => j ≤ 0) (fun j => 0 - j) 0 (Ent.of [(49, 49)] (by kernel_rfl) (by kernel_rfl) (by kernel_rfl) trivial) (Nat.zero_le _) ?_
  intro j L hj again
  obtain rfl : j = 0 := by omega
  · refine Wp.go (mx := true) (fun _ => mixed) [(4, {cs := [(2, cb [0] cx)]})] 100 [true, true] [decide ((0 : Int) < (2 : Int)) = true, (!false) = true] (by kernel_rfl) (by kernel_rfl) (by kernel_rfl) ⟨rfl, rfl⟩ ?_
    refine Wp.ret' (by kernel_rfl) ?_
    exact FinQ.blk [] (by kernel_rfl) (by kernel_rfl) (by kernel_rfl) (by kernel_rfl) (by kernel_rfl) trivial
theorem kidsC_y (b : List UInt8) (p : Nat) (c d : Int) {x y : KT} {p1 p2 : Nat} {c1 c2 e : Int} (cx : FnB Tryz.prog G 256 [cB b p c] [.c (.ptr 0 0), .c (.int .i64 d)] [.agg (encK x), .c .nilif] [(0, cB b p1 c1)]) (cy : FnB Tryz.prog G 256 [cB b p1 c1] [.c (.ptr 0 0), .c (.int .i64 d)] [.agg (encK y), .c (errC e)] [(0, cB b p2 c2)]) : FnB Tryz.prog G 268 [cB b p c] [.c (.ptr 0 0), .c (.int .i64 2), .c (.int .i64 d)] [.c .nilsl, .c (errC e)] [(0, cB b p2 c2)] := by
  refine Fn.of' Tryz.func268 (by kernel_rfl) (by kernel_rfl) (by kernel_rfl) (by kernel_rfl) trivial ?_
  refine Wp.go (mx := true) (fun _ => mixed) [] 100 [] [(0 : Int) ≤ (0 : Int), (0 : Int) ≤ (2 : Int), (2 : Int) * (↑(56 : Nat) : Int) ≤ (140737488355328 : Int)] (by kernel_rfl) (by kernel_rfl) (by kernel_rfl) ⟨(by omega), (by omega), (show (2 : Int) * (↑(56 : Nat) : Int) ≤ (140737488355328 : Int) from (by omega))⟩ ?_
  refine Wp.loopK (by kernel_rfl) (fun (j : Nat) => match j with | 0 => kcSt b d 2 0 p c 0 zeroT | _ => kcSt b d 2 1 p1 c1 1 (rowF encK .nil [x])) (fun j => j ≤ 1) (fun j => 1 - j) 0 (Ent.of [(49, 49)] (by kernel_rfl) (by kernel_rfl) (by kernel_rfl) trivial) (Nat.zero_le _) ?_
  intro j L hj again
  obtain rfl | rfl : j = 0 ∨ j = 1 := by omega
  · have e1 := kid_new2 (e := 117) zeroT x
    refine Wp.go (mx := true) (fun _ => mixed) [(7, {bs := [(3, Blk.row 117 4 1 (rowF encK .nil [x]))]}), (4, {cs := [(2, cb [0] cx)]})] 100 [true, false] [decide ((0 : Int) < (2 : Int)) = true, (!true) = false, (56 : Nat) ≤ (140737488355328 : Nat), BlkEqv (Blk.row 117 (4 : Nat) (1 : Nat) (catF (0 : Nat) zeroT fun (i j : Nat) => nthD [Cell.int .i64 x.k, Cell.int .i64 x.n, Cell.str x.s, Cell.sl (4 : Nat) x.m x.f] (((0 : Nat) + i) * (4 : Nat) + j))) (Blk.row 117 (4 : Nat) (1 : Nat) (rowF encK KT.nil [x])), (0 : Nat) ≤ (0 : Nat), (0 : Nat) + (1 : Nat) ≤ (1 : Nat), inR IntKind.i64 ((0 : Int) + (1 : Int))] (by kernel_rfl) (by kernel_rfl) (by kernel_rfl) ⟨rfl, rfl, (by omega), (by assumption), (by omega), (by omega), inR64 (by omega) (by omega)⟩ ?_
    exact Wp.lpK (by kernel_rfl) (again _ 1 (by omega) (by omega) (Ent.of [(49, 353)] (by kernel_rfl) (by kernel_rfl) (by kernel_rfl) trivial))
  · refine Wp.go (mx := true) (fun _ => mixed) [(4, {cs := [(2, cb [0] cy)]})] 100 [true, true] [decide ((1 : Int) < (2 : Int)) = true, (!false) = true] (by kernel_rfl) (by kernel_rfl) (by kernel_rfl) ⟨rfl, rfl⟩ ?_
    refine Wp.ret' (by kernel_rfl) ?_
    exact FinQ.blk [] (by kernel_rfl) (by kernel_rfl) (by kernel_rfl) (by kernel_rfl) (by kernel_rfl) trivial
theorem kidsC_2 (b : List UInt8) (p : Nat) (c d : Int) {x y : KT} {p1 p2 : Nat} {c1 c2 : Int} (cx : FnB Tryz.prog G 256 [cB b p c] [.c (.ptr 0 0), .c (.int .i64 d)] [.agg (encK x), .c .nilif] [(0, cB b p1 c1)]) (cy : FnB Tryz.prog G 256 [cB b p1 c1] [.c (.ptr 0 0), .c (.int .i64 d)] [.agg (encK y), .c .nilif] [(0, cB b p2 c2)]) : FnB Tryz.prog G 268 [cB b p c] [.c (.ptr 0 0), .c (.int .i64 2), .c (.int .i64 d)] [.c (.sl 4 2 (rowF encK .nil [x, y])), .c .nilif] [(0, cB b p2 c2)] := by
  refine Fn.of' Tryz.func268 (by kernel_rfl) (by kernel_rfl) (by kernel_rfl) (by kernel_rfl) trivial ?_
  refine Wp.go (mx := true) (fun _ => mixed) [] 100 [] [(0 : Int) ≤ (0 : Int), (0 : Int) ≤ (2 : Int), (2 : Int) * (↑(56 : Nat) : Int) ≤ (140737488355328 : Int)] (by kernel_rfl) (by kernel_rfl) (by kernel_rfl) ⟨(by omega), (by omega), (show (2 : Int) * (↑(56 : Nat) : Int) ≤ (140737488355328 : Int) from (by omega))⟩ ?_
  refine Wp.loopK (by kernel_rfl) (fun (j : Nat) => match j with | 0 => kcSt b d 2 0 p c 0 zeroT | 1 => kcSt b d 2 1 p1 c1 1 (rowF encK .nil [x]) | _ => kcSt b d 2 2 p2 c2 2 (rowF encK .nil [x, y])) (fun j => j ≤ 2) (fun j => 2 - j) 0 (Ent.of [(49, 49)] (by kernel_rfl) (by kernel_rfl) (by kernel_rfl) trivial) (Nat.zero_le _) ?_
  intro j L hj again
  obtain rfl | rfl | rfl : j = 0 ∨ j = 1 ∨ j = 2 := by omega
  · have e1 := kid_new2 (e := 117) zeroT x
    refine Wp.go (mx := true) (fun _ => mixed) [(7, {bs := [(3, Blk.row 117 4 1 (rowF encK .nil [x]))]}), (4, {cs := [(2, cb [0] cx)]})] 100 [true, false] [decide ((0 : Int) < (2 : Int)) = true, (!true) = false, (56 : Nat) ≤ (140737488355328 : Nat), BlkEqv (Blk.row 117 (4 : Nat) (1 : Nat) (catF (0 : Nat) zeroT fun (i j : Nat) => nthD [Cell.int .i64 x.k, Cell.int .i64 x.n, Cell.str x.s, Cell.sl (4 : Nat) x.m x.f] (((0 : Nat) + i) * (4 : Nat) + j))) (Blk.row 117 (4 : Nat) (1 : Nat) (rowF encK KT.nil [x])), (0 : Nat) ≤ (0 : Nat), (0 : Nat) + (1 : Nat) ≤ (1 : Nat), inR IntKind.i64 ((0 : Int) + (1 : Int))] (by kernel_rfl) (by kernel_rfl) (by kernel_rfl) ⟨rfl, rfl, (by omega), (by assumption), (by omega), (by omega), inR64 (by omega) (by omega)⟩ ?_
    exact Wp.lpK (by kernel_rfl) (again _ 1 (by omega) (by omega) (Ent.of [(49, 353)] (by kernel_rfl) (by kernel_rfl) (by kernel_rfl) trivial))
  · have e3 : BlkEqv (.row 117 4 (1 + 1) (catF 1 (rowF encK .nil [x]) (fun i j => nthD (encK y) ((0 + i) * 4 + j)))) (.row 117 4 (1 + 1) (rowF encK .nil [x, y])) := enc_app [x] y rfl
    refine Wp.go (mx := true) (fun _ => mixed) [(7, {bs := [(3, Blk.row 117 4 2 (rowF encK .nil [x, y]))]}), (4, {cs := [(2, cb [0] cy)]})] 100 [true, false] [decide ((1 : Int) < (2 : Int)) = true, (!true) = false, (112 : Nat) ≤ (140737488355328 : Nat), BlkEqv (Blk.row 117 (4 : Nat) (2 : Nat) (catF (1 : Nat) (rowF encK KT.nil [x]) fun (i j : Nat) => nthD [Cell.int .i64 y.k, Cell.int .i64 y.n, Cell.str y.s, Cell.sl (4 : Nat) y.m y.f] (((0 : Nat) + i) * (4 : Nat) + j))) (Blk.row 117 (4 : Nat) (2 : Nat) (rowF encK KT.nil [x, y])), (1 : Nat) ≤ (1 : Nat), (0 : Nat) + (1 : Nat) ≤ (1 : Nat), inR IntKind.i64 ((1 : Int) + (1 : Int))] (by kernel_rfl) (by kernel_rfl) (by kernel_rfl) ⟨rfl, rfl, (by omega), (by assumption), (by omega), (by omega), inR64 (by omega) (by omega)⟩ ?_
    exact Wp.lpK (by kernel_rfl) (again _ 2 (by omega) (by omega) (Ent.of [(49, 353)] (by kernel_rfl) (by kernel_rfl) (by kernel_rfl) trivial))
  · refine Wp.ent' (by kernel_rfl) (Ent.pubT (t := 8) (e := 117) (sz := 4) (id := 49) (off := 0) (m := 2) (n := 2) (f := rowF encK .nil [x, y]) (m' := 2) (f' := rowF encK .nil [x, y]) (by kernel_rfl) (by kernel_rfl) (by omega) rfl (fun i _ j _ => by rw [Nat.zero_add]) rfl) ?_
    refine Wp.go (mx := true) (fun _ => mixed) [] 100 [false] [decide ((2 : Int) < (2 : Int)) = false] (by kernel_rfl) (by kernel_rfl) (by kernel_rfl) rfl ?_
    refine Wp.ret' (by kernel_rfl) ?_
    exact FinQ.blk [] (by kernel_rfl) (by kernel_rfl) (by kernel_rfl) (by kernel_rfl) (by kernel_rfl) trivial
end Go.Proofs.Tw
end
