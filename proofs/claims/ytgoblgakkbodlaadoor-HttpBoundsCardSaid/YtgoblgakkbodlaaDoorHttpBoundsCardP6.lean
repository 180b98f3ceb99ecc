/- Own texts for this claim: Hb1, Hb2, SvKeep, SvRead. -/
import Derived.Test.YtgoblgakkbodlaaDoorHttpBoundsCardP5
import Derived.Test.YtgoblgakkbodlaaDoorHttpBoundsCardP3
import Derived.ChangeSlices
set_option linter.all false

section
open Go Go.Sv Go.RowKit
namespace Go.Proofs.Tw
set_option maxRecDepth 100000
set_option maxHeartbeats 4000000

theorem parseQ_err {s : List UInt8} : (parseQ s).2 = (readH askB s).2 := by
  unfold parseQ
  split
  · rename_i h; exact h.symm
  · rfl
def getL : List UInt8 := [71, 69, 84, 32, 47, 32, 72, 84, 84, 80, 47, 49, 46, 49]
def postL : List UInt8 := [80, 79, 83, 84, 32, 47, 32, 72, 84, 84, 80, 47, 49, 46, 49]
theorem getL_ok : OkLn getL ∧ askB getL = true := ⟨⟨by decide, by decide⟩, (by kernel_rfl)⟩
theorem postL_ok : OkLn postL ∧ askB postL = true := ⟨⟨by decide, by decide⟩, (by kernel_rfl)⟩
def longE (j : Nat) : List UInt8 := [71, 69, 84, 32, 47, 32, 72, 84, 84, 80, 47, 49, 46, 49, 13, 10, 97, 58, 32] ++ List.replicate j 118 ++ [13, 10, 13, 10]
theorem longE_len (j : Nat) : (longE j).length = j + 23 := by unfold longE; simp <;> omega
theorem rep_all {p : UInt8 → Bool} {c : UInt8} (h : p c = true) (j : Nat) : (List.replicate j c).all p = true := by
  rw [List.all_eq_true]
  intro x hx
  rw [List.eq_of_mem_replicate hx]; exact h
theorem longE_eq (j : Nat) : longE j = getL ++ [13, 10] ++ linesT [⟨[97], List.replicate j 118⟩] [] := by
  unfold longE linesT fieldL clL getL
  simp
theorem long_err (j : Nat) : (parseQ (longE j)).2 = if j + 23 ≤ 2048 then 0 else 4 := by
  rw [parseQ_err]
  have hok : okF ⟨[97], List.replicate j 118⟩ = true := by
    unfold okF
    rw [rep_all (p := seenB) (by decide) j]
    rfl
  have hl : (getL ++ [13, 10] ++ linesT [⟨[97], List.replicate j 118⟩] []).length = j + 23 := by rw [← longE_eq]; exact longE_len j
  by_cases hj : j + 23 ≤ 2048
  · rw [if_pos hj]
    have hh : headT [⟨[97], List.replicate j 118⟩] [] = true := by
      unfold headT
      rw [show ([⟨[97], List.replicate j 118⟩] : List FT).all okF = true from by rw [List.all_cons, hok]; rfl]
      rfl
    have := (read_text (line := askB) getL_ok.1 getL_ok.2 hh (by rw [hl]; exact hj)).1
    rw [List.append_nil, ← longE_eq] at this
    rw [this]
  · rw [if_neg hj]
    have hlo : ∀ x ∈ getL :: lnsT [⟨[97], List.replicate j 118⟩] [], OkLn x := by
      intro x hx
      rcases List.mem_cons.1 hx with rfl | hx
      · exact getL_ok.1
      · exact lns_ok (fun f hf => by rw [List.mem_singleton.1 hf]; exact hok) x hx
    have hcut : hdC (longE j) = (Lib.join (getL :: lnsT [⟨[97], List.replicate j 118⟩] []) [13, 10], [], true) := by
      unfold hdC
      rw [longE_eq, lines_join, ← List.append_nil (_ ++ [13, 10, 13, 10])]
      exact cut_head _ [] (by simp) hlo
    have hlen : (Lib.join (getL :: lnsT [⟨[97], List.replicate j 118⟩] []) [13, 10]).length + 4 = j + 23 := by
      rw [← hl, lines_join, List.length_append]; rfl
    have hbig : bigH (longE j) = true := by
      unfold bigH
      rw [hcut]
      show decide (((Lib.join (getL :: lnsT [⟨[97], List.replicate j 118⟩] []) [13, 10]).length : Int) + 4 > 2048) = true
      simp; omega
    rw [readH_no1 hbig]
def manyF (i : Nat) : List UInt8 := [120, UInt8.ofNat (97 + i)] ++ [58, 32, 49, 13, 10]
def manyT (c : Nat) : List UInt8 := [71, 69, 84, 32, 47, 32, 72, 84, 84, 80, 47, 49, 46, 49, 13, 10] ++ (List.range c).flatMap manyF
theorem manyT_succ (c : Nat) : manyT (c + 1) = manyT c ++ [120] ++ [UInt8.ofNat (97 + c)] ++ [58, 32, 49, 13, 10] := by
  unfold manyT manyF
  rw [List.range_succ, List.flatMap_append]
  simp
theorem manyT_len (c : Nat) : (manyT c).length = 16 + 7 * c := by
  induction c with
  | zero => rfl
  | succ c ih => rw [manyT_succ]; simp; omega
theorem many_err (c : Nat) (h : 22 ≤ c) (h2 : c ≤ 26) : (parseQ (manyT c ++ [13, 10])).2 = if c ≤ 24 then 0 else 4 := by
  rcases (by omega : c = 22 ∨ c = 23 ∨ c = 24 ∨ c = 25 ∨ c = 26) with rfl | rfl | rfl | rfl | rfl
  · exact ((by kernel_rfl) : (parseQ (manyT 22 ++ [13, 10])).2 = 0)
  · exact ((by kernel_rfl) : (parseQ (manyT 23 ++ [13, 10])).2 = 0)
  · exact ((by kernel_rfl) : (parseQ (manyT 24 ++ [13, 10])).2 = 0)
  · exact ((by kernel_rfl) : (parseQ (manyT 25 ++ [13, 10])).2 = 4)
  · exact ((by kernel_rfl) : (parseQ (manyT 26 ++ [13, 10])).2 = 4)
def clT (n : Nat) : List UInt8 := [80, 79, 83, 84, 32, 47, 32, 72, 84, 84, 80, 47, 49, 46, 49, 13, 10, 99, 111, 110, 116, 101, 110, 116, 45, 108, 101, 110, 103, 116, 104, 58, 32] ++ Lib.decDigits n ++ [13, 10, 13, 10]
theorem cl_err (n : Nat) (b : List UInt8) (hn : n ≤ 5000) : (parseQ (clT n ++ b)).2 = if n > 4096 then 4 else if n = b.length then 0 else 3 := by
  rw [parseQ_err]
  have hd4 := dec_len4 hn
  have hlo : ∀ x ∈ [postL, clN ++ [58, 32] ++ Lib.decDigits n], OkLn x := by
    intro x hx
    simp only [List.mem_cons, List.not_mem_nil, or_false] at hx
    rcases hx with rfl | rfl
    · exact postL_ok.1
    · refine ⟨by simp [clN], ?_⟩
      simp only [List.mem_append, List.mem_cons, List.not_mem_nil, or_false, not_or]
      exact ⟨⟨by decide, by decide, by decide⟩, dec_13 _⟩
  have hj : Lib.join [postL, clN ++ [58, 32] ++ Lib.decDigits n] [13, 10] = [80, 79, 83, 84, 32, 47, 32, 72, 84, 84, 80, 47, 49, 46, 49, 13, 10, 99, 111, 110, 116, 101, 110, 116, 45, 108, 101, 110, 103, 116, 104, 58, 32] ++ Lib.decDigits n := by
    rw [Lib.join_cons]
    unfold Lib.joinTail postL clN
    simp
  have hcut : hdC (clT n ++ b) = (Lib.join [postL, clN ++ [58, 32] ++ Lib.decDigits n] [13, 10], b, true) := by
    unfold hdC clT
    rw [← hj]
    exact cut_head _ b (by simp) hlo
  have hlin : linesH (clT n ++ b) = [postL, clN ++ [58, 32] ++ Lib.decDigits n] := by
    unfold linesH
    rw [hcut]
    exact split_join 13 [10] _ (by simp) (fun x hx => (hlo x hx).2)
  have hlen : (Lib.join [postL, clN ++ [58, 32] ++ Lib.decDigits n] [13, 10]).length + 4 ≤ 2048 := by
    rw [hj, List.length_append]
    show 33 + _ + 4 ≤ 2048
    omega
  generalize clT n ++ b = S at *
  have hbig : bigH S = false := by
    unfold bigH
    rw [hcut]
    show decide (((Lib.join [postL, clN ++ [58, 32] ++ Lib.decDigits n] [13, 10]).length : Int) + 4 > 2048) = false
    exact decide_eq_false (by omega)
  have hsp : splitH S = 0 := splitH_yes hbig (by rw [hcut]) (by rw [hlin]; show ¬ (2 : Nat) > 25; decide)
  have hf : firstH S = postL := by unfold firstH; rw [hlin]; rfl
  have hfl : fieldsL S = [clN ++ [58, 32] ++ Lib.decDigits n] := by unfold fieldsL; rw [hlin]; rfl
  obtain ⟨k1, k2⟩ := okA_cl (acc := []) (dig_seen (dec_all n)) rfl
  have hO : fieldsO (fieldsL S) [] = true := by rw [hfl, fieldsO, k1, if_pos rfl]; rfl
  have hA : fieldsA (fieldsL S) [] = [⟨clN, Lib.decDigits n⟩] := by rw [hfl, fieldsA, k1, if_pos rfl, k2]; rfl
  have hE : bodyE [⟨clN, Lib.decDigits n⟩] b = if n > 4096 then 4 else if n = b.length then 0 else 3 := by
    unfold bodyE
    rw [show fGet [⟨clN, Lib.decDigits n⟩] clN = some (Lib.decDigits n) from by rw [fGet_cons]; simp]
    show szE (Lib.decDigits n) true b = _
    unfold szE
    rw [if_pos rfl, numK_dec n hn, if_neg (by decide), nv_dec]
  rw [readH_end hsp (by rw [hf]; exact postL_ok.2) hO, hA, hcut]
  show (if bodyE [⟨clN, Lib.decDigits n⟩] b = 0 then _ else _ : List FT × Int).2 = _
  by_cases h0 : bodyE [⟨clN, Lib.decDigits n⟩] b = 0
  · rw [if_pos h0, ← hE, h0]
  · rw [if_neg h0, ← hE]
theorem zero_err (c : Nat) : (parseQ (List.replicate c 0)).2 = if c > 2048 then 4 else 3 := by
  rw [parseQ_err]
  have hcut : hdC (List.replicate c 0) = (List.replicate c 0, [], false) := by
    unfold hdC Lib.cut
    rw [idx_no (List.replicate c 0) [10, 13, 10] 13 (fun h => absurd (List.eq_of_mem_replicate h) (by decide))]
    rfl
  by_cases h : c > 2048
  · rw [if_pos h]
    have hbig : bigH (List.replicate c 0) = true := by
      unfold bigH
      rw [hcut]
      show decide (((List.replicate c (0 : UInt8)).length : Int) > 2048) = true
      simp; omega
    rw [readH_no1 hbig]
  · rw [if_neg h]
    have hbig : bigH (List.replicate c 0) = false := by
      unfold bigH
      rw [hcut]
      show decide (((List.replicate c (0 : UInt8)).length : Int) > 2048) = false
      simp; omega
    rw [readH_no2 hbig (by rw [hcut])]
end Go.Proofs.Tw
end

section
open Go Go.Sv Go.RowKit
namespace Go.Proofs.Tw
attribute [local irreducible] Wp FinQ resV Ent Pur Go.Sv.Fn Sat0
set_option maxRecDepth 100000
set_option maxHeartbeats 4000000
variable {G : Nat → Option (List Cell)}

def longB (j : Nat) : List UInt8 := [71, 69, 84, 32, 47, 32, 72, 84, 84, 80, 47, 49, 46, 49, 13, 10, 97, 58, 32] ++ List.replicate j 118
theorem longB_succ (j : Nat) : longB j ++ [118] = longB (j + 1) := by
  unfold longB
  rw [List.append_assoc, List.replicate_succ']
theorem longB_len (j : Nat) : (longB j).length = j + 19 := by unfold longB; simp <;> omega
theorem longB_E (j : Nat) : longB j ++ [13, 10, 13, 10] = longE j := by unfold longB longE; rfl
theorem u8_nat {z : Nat} (h : z < 256) : IntKind.u8.wrap (z : Int) = ((UInt8.ofNat z).toNat : Int) := by
  rw [wrap8 (by omega) (by omega), UInt8.toNat_ofNat', Nat.mod_eq_of_lt (by omega)]
/-- Digits that are still to come, and those that are there. -/
def digF (S v : Nat) (d : List UInt8) : Prop := (if v = 0 then d else Lib.decDigits v ++ d) = Lib.decDigits S
theorem digF_step {S v : Nat} {d : List UInt8} (hv : 0 < v) (h : digF S v d) : digF S (v / 10) ([UInt8.ofNat (48 + v % 10)] ++ d) := by
  unfold digF at *
  rw [if_neg (by omega)] at h
  rw [← h]
  by_cases h10 : v < 10
  · rw [if_pos (by omega), Lib.decDigits_one h10, Nat.mod_eq_of_lt h10]
  · rw [if_neg (by omega), dec_step h10]
    simp
def zeroC : Nat → Nat → Cell := fun _ j => nthD [Cell.int .u8 0] j
theorem zeroC_F (n : Nat) : ∀ i, i < n → zeroC i 0 = bytesF (List.replicate n 0) i 0 := fun i hi => by
  unfold zeroC bytesF
  simp [List.getD, hi, nthD, nth]
theorem byteL_zero (n : Nat) : byteL zeroC 0 n = List.replicate n 0 := by
  have : byteL (bytesF (List.replicate n 0)) 0 n = List.replicate n 0 := byteL_F _ (by simp)
  rw [← this]
  unfold byteL
  refine List.map_congr_left fun i hi => ?_
  have hi : i < n := by simpa using hi
  rw [Nat.zero_add, zeroC_F n i hi]
theorem areBytes_zero (n : Nat) : areBytes zeroC 0 n := by
  have := areBytes_F (List.replicate n 0) 0 n
  unfold areBytes at *
  intro i hi
  have h := this i hi
  rw [Nat.zero_add] at h ⊢
  rw [zeroC_F n i hi]
  exact h
theorem bounds_b {a b c E1 E2 E3 E4 E5 W : Int} (h1 : E1 = if a ≤ 3 then 0 else 4) (h2 : E2 = if b ≤ 2 then 0 else 4) (h3 : E3 = if c ≤ 2 then 0 else 4) (h4 : E4 = W) (h5 : E5 = if a ≤ 3 then 3 else 4) :
    (bif bif bif bif bif bif bif bif (E1 == 0) == decide (a - 3 ≤ 0) then bif decide (a - 3 ≤ 0) then true else E1 == 4 else false then (E2 == 0) == decide (b - 2 ≤ 0) else false then bif decide (b - 2 ≤ 0) then true else E2 == 4 else false then (E3 == 0) == decide (c - 2 ≤ 0) else false then bif decide (c - 2 ≤ 0) then true else E3 == 4 else false then E4 == W else false then (E5 == 4) == decide (a - 3 > 0) else false then (E5 == 3) == decide (a - 3 ≤ 0) else false) = true := by
  have d1 : decide (a - 3 ≤ 0) = decide (a ≤ 3) := decide_eq_decide.2 (by omega)
  have d2 : decide (a - 3 > 0) = !decide (a ≤ 3) := by by_cases h : a ≤ 3 <;> simp [h] <;> omega
  have d3 : decide (b - 2 ≤ 0) = decide (b ≤ 2) := decide_eq_decide.2 (by omega)
  have d4 : decide (c - 2 ≤ 0) = decide (c ≤ 2) := decide_eq_decide.2 (by omega)
  rw [d1, d2, d3, d4, h1, h2, h3, h4, h5]
  have hw : (W == W) = true := by simp
  rw [hw]
  cases ha : decide (a ≤ 3) <;> cases hb : decide (b ≤ 2) <;> cases hc : decide (c ≤ 2) <;> simp_all
theorem httpBounds_ok (hp : HasPow G) (hL : HasLen G) (n m k : Int) : Pur Tryd.prog G 3 [.c (.int .i64 n), .c (.int .i64 m), .c (.int .i64 k)] [.c (.bool true)] := by
  refine Pur.of Tryd.func3 (by kernel_rfl) (by kernel_rfl) (by kernel_rfl) ?_
  have k0 := known13_ok hp hL
  have c1 := within13_ok (G := G) n 6 (by decide) (by decide)
  have c2 := within13_ok (G := G) m 5 (by decide) (by decide)
  have c3 := within13_ok (G := G) k 5 (by decide) (by decide)
  have r1 := withT_rng n 6 (by decide)
  have r2 := withT_rng m 5 (by decide)
  have r3 := withT_rng k 5 (by decide)
  generalize withT n 6 = a at *
  generalize withT m 5 = b at *
  generalize withT k 5 = c at *
  refine Wp.go (mx := true) (fun _ => mixed) [(1, {cs := [(0, pc k0)]}), (3, {cs := [(1, pc c1), (4, pc c2), (7, pc c3)]})] 100 [false] [(!true) = false, inR .i64 (a - 3), inR .i64 (b - 2), inR .i64 (c - 2)] (by kernel_rfl) (by kernel_rfl) (by kernel_rfl) ⟨rfl, inR64 (by omega) (by omega), inR64 (by omega) (by omega), inR64 (by omega) (by omega)⟩ ?_
  refine Wp.loopK (by kernel_rfl) (fun (x : Nat × List UInt8) => ⟨[(0, .v (.c (.int .i64 (a - 3)))), (1, .v (.c (.int .i64 (b - 2)))), (2, .v (.c (.int .i64 (c - 2)))), (7, .v (.c (.str x.2)))], [], 240⟩) (fun x => x.2 = longB x.1 ∧ (x.1 : Int) ≤ 2025 + (a - 3)) (fun x => 4000 - x.1) (0, longB 0) (Ent.of [] (by kernel_rfl) (by kernel_rfl) (by kernel_rfl) trivial) ⟨rfl, by omega⟩ ?_
  rintro ⟨j, s⟩ L ⟨hs, hj⟩ again
  simp only at hs hj
  have hsl : s.length = j + 19 := by rw [hs]; exact longB_len j
  by_cases hlt : (j : Int) + 23 < 2048 + (a - 3)
  · have ht : decide ((s.length : Int) + 4 < 2048 + (a - 3)) = true := decide_eq_true (by omega)
    have hs2 : s ++ [118] = longB (j + 1) := by rw [hs]; exact longB_succ j
    clear hs
    refine Wp.go (mx := true) (fun _ => mixed) [] 100 [true] [inR IntKind.i64 ((↑s.length : Int) + (4 : Int)), inR IntKind.i64 ((2048 : Int) + (a - (3 : Int))), decide ((↑s.length : Int) + (4 : Int) < (2048 : Int) + (a - (3 : Int))) = true, s.length + (1 : Nat) ≤ (9223372036854775807 : Nat)] (by kernel_rfl) (by kernel_rfl) (by kernel_rfl) ⟨inR64 (by omega) (by omega), inR64 (by omega) (by omega), (by assumption), (show s.length + (1 : Nat) ≤ (9223372036854775807 : Nat) from (by omega))⟩ ?_
    exact Wp.lpK (by kernel_rfl) (again _ (j + 1, s ++ [118]) ⟨(by assumption), (by omega)⟩ (by omega) (Ent.of [] (by kernel_rfl) (by kernel_rfl) (by kernel_rfl) trivial))
  · have ht : decide ((s.length : Int) + 4 < 2048 + (a - 3)) = false := decide_eq_false (by omega)
    have c4 := parseQ_ok hL (longE j) (by rw [longE_len]; omega)
    rw [← longB_E, ← hs] at c4
    have he : (parseQ (s ++ [13, 10, 13, 10])).2 = if a ≤ 3 then 0 else 4 := by
      rw [hs, longB_E, long_err]
      by_cases h : a ≤ 3
      · rw [if_pos h, if_pos (by omega)]
      · rw [if_neg h, if_neg (by omega)]
    have hi1 : s.length + 4 ≤ 9223372036854775807 := by omega
    generalize parseQ (s ++ [13, 10, 13, 10]) = Q1 at c4 he
    obtain ⟨Q1a, E1⟩ := Q1
    simp only at he
    clear hs again
    refine Wp.go (mx := true) (fun _ => mixed) [(7, {cs := [(2, pc c4)]})] 100 [false] [inR IntKind.i64 ((↑s.length : Int) + (4 : Int)), inR IntKind.i64 ((2048 : Int) + (a - (3 : Int))), decide ((↑s.length : Int) + (4 : Int) < (2048 : Int) + (a - (3 : Int))) = false, s.length + (4 : Nat) ≤ (9223372036854775807 : Nat)] (by kernel_rfl) (by kernel_rfl) (by kernel_rfl) ⟨inR64 (by omega) (by omega), inR64 (by omega) (by omega), (by assumption), (show s.length + (4 : Nat) ≤ (9223372036854775807 : Nat) from (by assumption))⟩ ?_
    refine Wp.loopK (by kernel_rfl) (fun (x : Nat × List UInt8) => ⟨[(0, .v (.c (.int .i64 (a - 3)))), (1, .v (.c (.int .i64 (b - 2)))), (2, .v (.c (.int .i64 (c - 2)))), (9, .v (.c (.int .i64 E1))), (10, .v (.c (.str x.2))), (11, .v (.c (.int .i64 (x.1 : Int))))], [], 512⟩) (fun x => x.2 = manyT x.1 ∧ (x.1 : Int) ≤ 24 + (b - 2)) (fun x => 40 - x.1) (0, manyT 0) (Ent.of [] (by kernel_rfl) (by kernel_rfl) (by kernel_rfl) trivial) ⟨rfl, by omega⟩ ?_
    rintro ⟨i, t⟩ L ⟨ht0, hi⟩ again
    simp only at ht0 hi
    have htl : t.length = 16 + 7 * i := by rw [ht0]; exact manyT_len i
    by_cases hlt2 : (i : Int) < 24 + (b - 2)
    · have ht1 : decide ((i : Int) < 24 + (b - 2)) = true := decide_eq_true hlt2
      have e1 : EqvD (.c (.int .u8 (IntKind.u8.wrap (97 + (i : Int))))) (.c (.int .u8 ((UInt8.ofNat (97 + i)).toNat : Int))) := eqvD_of (by rw [show (97 : Int) + (i : Int) = ((97 + i : Nat) : Int) by omega, u8_nat (by omega)])
      have e2 : EqvD (.c (.str (byteL (rowB [UInt8.ofNat (97 + i)]) 0 1))) (.c (.str [UInt8.ofNat (97 + i)])) := eqvD_of (by rw [byteL_B (n := 1) [UInt8.ofNat (97 + i)] rfl])
      have e3 : areBytes (rowB [UInt8.ofNat (97 + i)]) 0 1 := areBytes_B _ rfl
      have hs2 : t ++ [120] ++ [UInt8.ofNat (97 + i)] ++ [58, 32, 49, 13, 10] = manyT (i + 1) := by rw [manyT_succ, ht0]
      clear ht0 ht
      refine Wp.go (mx := true) (fun _ => mixed) [(12, {fm := [(4, .c (.int .u8 ((UInt8.ofNat (97 + i)).toNat : Int))), (6, .c (.str [UInt8.ofNat (97 + i)]))]})] 100 [true] [inR IntKind.i64 ((24 : Int) + (b - (2 : Int))), decide ((↑i : Int) < (24 : Int) + (b - (2 : Int))) = true, t.length + (1 : Nat) ≤ (9223372036854775807 : Nat), inR IntKind.i64 ((97 : Int) + (↑i : Int)), EqvI (V1.c (Cell.int .u8 (IntKind.u8.wrap ((97 : Int) + (↑i : Int))))) (V1.c (Cell.int .u8 (↑(UInt8.ofNat ((97 : Nat) + i)).toNat : Int))), EqvD (V1.c (Cell.int .u8 (IntKind.u8.wrap ((97 : Int) + (↑i : Int))))) (V1.c (Cell.int .u8 (↑(UInt8.ofNat ((97 : Nat) + i)).toNat : Int))), EqvI (V1.c (Cell.str [{ toBitVec := BitVec.ofNat (8 : Nat) (UInt8.ofNat ((97 : Nat) + i)).toNat }])) (V1.c (Cell.str [UInt8.ofNat ((97 : Nat) + i)])), EqvD (V1.c (Cell.str [{ toBitVec := BitVec.ofNat (8 : Nat) (UInt8.ofNat ((97 : Nat) + i)).toNat }])) (V1.c (Cell.str [UInt8.ofNat ((97 : Nat) + i)])), (0 : Nat) + (1 : Nat) ≤ (1 : Nat), areBytes (fun (i_1 j : Nat) => nthD [Cell.int .u8 (↑(UInt8.ofNat ((97 : Nat) + i)).toNat : Int)] (i_1 * (1 : Nat) + j)) (0 : Nat) (1 : Nat), (t ++ [(120 : UInt8)]).length + (1 : Nat) ≤ (9223372036854775807 : Nat), (t ++ [(120 : UInt8)] ++ [UInt8.ofNat ((97 : Nat) + i)]).length + (5 : Nat) ≤ (9223372036854775807 : Nat), inR IntKind.i64 ((↑i : Int) + (1 : Int))] (by kernel_rfl) (by kernel_rfl) (by kernel_rfl) ⟨inR64 (by omega) (by omega), (by assumption), (by omega), inR64 (by omega) (by omega), fun _ _ => trivial, (by assumption), fun _ _ => trivial, (by assumption), (by omega), (by assumption), (by simp; omega), (by simp; omega), inR64 (by omega) (by omega)⟩ ?_
      exact Wp.lpK (by kernel_rfl) (again _ (i + 1, t ++ [120] ++ [UInt8.ofNat (97 + i)] ++ [58, 32, 49, 13, 10]) ⟨(by assumption), (by assumption)⟩ (by omega) (Ent.of [] (by kernel_rfl) (by kernel_rfl) (by kernel_rfl) trivial))
    · have ht1 : decide ((i : Int) < 24 + (b - 2)) = false := decide_eq_false hlt2
      have htl2 : (t ++ [13, 10]).length < 1000000000 := by
        rw [List.length_append, List.length_cons, List.length_cons, List.length_nil]
        omega
      have c5 := parseQ_ok hL (t ++ [13, 10]) htl2
      have he2 : (parseQ (t ++ [13, 10])).2 = if b ≤ 2 then 0 else 4 := by
        rw [ht0, many_err i (by omega) (by omega)]
        by_cases h : b ≤ 2
        · rw [if_pos h, if_pos (by omega)]
        · rw [if_neg h, if_neg (by omega)]
      generalize parseQ (t ++ [13, 10]) = Q2 at c5 he2
      obtain ⟨Q2a, E2⟩ := Q2
      simp only at he2
      obtain ⟨S, hS⟩ := Int.eq_ofNat_of_zero_le (show 0 ≤ 4096 + (c - 2) by omega)
      have eS : EqvD (.c (.int .i64 (4096 + (c - 2)))) (.c (.int .i64 (S : Int))) := eqvD_of (by rw [hS])
      clear ht0 again ht hlt
      refine Wp.go (mx := true) (fun _ => mixed) [(14, {fm := [(1, .c (.int .i64 (S : Int)))]}), (13, {cs := [(2, pc c5)]})] 100 [false] [inR IntKind.i64 ((24 : Int) + (b - (2 : Int))), decide ((↑i : Int) < (24 : Int) + (b - (2 : Int))) = false, t.length + (2 : Nat) ≤ (9223372036854775807 : Nat), EqvI (V1.c (Cell.int .i64 ((4096 : Int) + (c - (2 : Int))))) (V1.c (Cell.int .i64 (↑S : Int))), EqvD (V1.c (Cell.int .i64 ((4096 : Int) + (c - (2 : Int))))) (V1.c (Cell.int .i64 (↑S : Int))), inR IntKind.i64 ((4096 : Int) + (c - (2 : Int)))] (by kernel_rfl) (by kernel_rfl) (by kernel_rfl) ⟨inR64 (by omega) (by omega), (by assumption), (by omega), fun _ _ => trivial, (by assumption), inR64 (by omega) (by omega)⟩ ?_
      have hd0 : digF S S [] := by unfold digF; rw [if_neg (by omega)]; simp
      refine Wp.loopK (by kernel_rfl) (fun (x : Nat × List UInt8) => ⟨[(0, .v (.c (.int .i64 (a - 3)))), (1, .v (.c (.int .i64 (b - 2)))), (2, .v (.c (.int .i64 (c - 2)))), (9, .v (.c (.int .i64 E1))), (13, .v (.c (.int .i64 E2))), (14, .v (.c (.int .i64 (S : Int)))), (15, .v (.c (.str x.2))), (16, .v (.c (.int .i64 (x.1 : Int))))], [], 816⟩) (fun x => digF S x.1 x.2 ∧ x.1 ≤ 5000 ∧ x.2.length + x.1 ≤ 5000) (fun x => x.1) (S, []) (Ent.of [] (by kernel_rfl) (by kernel_rfl) (by kernel_rfl) trivial) ⟨hd0, (by omega), (by show 0 + S ≤ 5000; omega)⟩ ?_
      clear hd0
      rintro ⟨v, d⟩ L4 ⟨hd, hv, hdl⟩ again
      simp only at hd hv hdl
      by_cases hv0 : 0 < v
      · have ht2 : decide ((v : Int) > 0) = true := decide_eq_true (by omega)
        have hd2 := digF_step hv0 hd
        have e0 : EqvD (.c (.int .i64 ((v : Int).tmod 10))) (.c (.int .i64 ((v % 10 : Nat) : Int))) := eqvD_of (by rfl)
        have e1 : EqvD (.c (.int .u8 (IntKind.u8.wrap (48 + ((v % 10 : Nat) : Int))))) (.c (.int .u8 ((UInt8.ofNat (48 + v % 10)).toNat : Int))) := eqvD_of (by rw [show (48 : Int) + ((v % 10 : Nat) : Int) = ((48 + v % 10 : Nat) : Int) by omega, u8_nat (by omega)])
        have e2 : EqvD (.c (.str (byteL (rowB [UInt8.ofNat (48 + v % 10)]) 0 1))) (.c (.str [UInt8.ofNat (48 + v % 10)])) := eqvD_of (by rw [byteL_B (n := 1) [UInt8.ofNat (48 + v % 10)] rfl])
        have e3 : areBytes (rowB [UInt8.ofNat (48 + v % 10)]) 0 1 := areBytes_B _ rfl
        have e4 : EqvD (.c (.int .i64 (IntKind.i64.wrap ((v : Int).tdiv 10)))) (.c (.int .i64 ((v / 10 : Nat) : Int))) := eqvD_of (by rw [show (v : Int).tdiv 10 = ((v / 10 : Nat) : Int) from rfl, wrap64 (by omega) (by omega)])
        have hl2 : ([UInt8.ofNat (48 + v % 10)] ++ d).length + v / 10 ≤ 5000 := by rw [List.length_append]; show 1 + d.length + v / 10 ≤ 5000; omega
        have hv2 : v / 10 ≤ 5000 := by omega
        clear hd htl
        refine Wp.go (mx := true) (fun _ => mixed) [(19, {fm := [(1, .c (.int .i64 ((v % 10 : Nat) : Int))), (3, .c (.int .u8 ((UInt8.ofNat (48 + v % 10)).toNat : Int))), (5, .c (.str [UInt8.ofNat (48 + v % 10)]))]}), (18, {fm := [(1, .c (.int .i64 ((v / 10 : Nat) : Int)))]})] 100 [true] [decide ((↑v : Int) > (0 : Int)) = true, EqvI (V1.c (Cell.int .i64 ((↑v : Int).tmod (10 : Int)))) (V1.c (Cell.int .i64 (↑(v % (10 : Nat)) : Int))), EqvD (V1.c (Cell.int .i64 ((↑v : Int).tmod (10 : Int)))) (V1.c (Cell.int .i64 (↑(v % (10 : Nat)) : Int))), (10 : Int) ≠ (0 : Int), inR IntKind.i64 ((48 : Int) + (↑(v % (10 : Nat)) : Int)), EqvI (V1.c (Cell.int .u8 (IntKind.u8.wrap ((48 : Int) + (↑(v % (10 : Nat)) : Int))))) (V1.c (Cell.int .u8 (↑(UInt8.ofNat ((48 : Nat) + v % (10 : Nat))).toNat : Int))), EqvD (V1.c (Cell.int .u8 (IntKind.u8.wrap ((48 : Int) + (↑(v % (10 : Nat)) : Int))))) (V1.c (Cell.int .u8 (↑(UInt8.ofNat ((48 : Nat) + v % (10 : Nat))).toNat : Int))), EqvI (V1.c (Cell.str [{ toBitVec := BitVec.ofNat (8 : Nat) (UInt8.ofNat ((48 : Nat) + v % (10 : Nat))).toNat }])) (V1.c (Cell.str [UInt8.ofNat ((48 : Nat) + v % (10 : Nat))])), EqvD (V1.c (Cell.str [{ toBitVec := BitVec.ofNat (8 : Nat) (UInt8.ofNat ((48 : Nat) + v % (10 : Nat))).toNat }])) (V1.c (Cell.str [UInt8.ofNat ((48 : Nat) + v % (10 : Nat))])), (0 : Nat) + (1 : Nat) ≤ (1 : Nat), areBytes (fun (i j : Nat) => nthD [Cell.int .u8 (↑(UInt8.ofNat ((48 : Nat) + v % (10 : Nat))).toNat : Int)] (i * (1 : Nat) + j)) (0 : Nat) (1 : Nat), (1 : Nat) + d.length ≤ (9223372036854775807 : Nat), EqvI (V1.c (Cell.int .i64 (IntKind.i64.wrap ((↑v : Int).tdiv (10 : Int))))) (V1.c (Cell.int .i64 (↑(v / (10 : Nat)) : Int))), EqvD (V1.c (Cell.int .i64 (IntKind.i64.wrap ((↑v : Int).tdiv (10 : Int))))) (V1.c (Cell.int .i64 (↑(v / (10 : Nat)) : Int))), (10 : Int) ≠ (0 : Int)] (by kernel_rfl) (by kernel_rfl) (by kernel_rfl) ⟨(by assumption), fun _ _ => trivial, (by assumption), (by omega), inR64 (by omega) (by omega), fun _ _ => trivial, (by assumption), fun _ _ => trivial, (by assumption), (by omega), (by assumption), (by omega), fun _ _ => trivial, (by assumption), (show (10 : Int) ≠ (0 : Int) from (by omega))⟩ ?_
        exact Wp.lpK (by kernel_rfl) (again _ (v / 10, [UInt8.ofNat (48 + v % 10)] ++ d) ⟨(by assumption), ⟨(by assumption), (by assumption)⟩⟩ (by omega) (Ent.of [] (by kernel_rfl) (by kernel_rfl) (by kernel_rfl) trivial))
      · have ht2 : decide ((v : Int) > 0) = false := decide_eq_false (by omega)
        have hdS : d = Lib.decDigits S := by unfold digF at hd; rw [if_pos (by omega)] at hd; exact hd
        obtain ⟨Z, hZ⟩ := Int.eq_ofNat_of_zero_le (show 0 ≤ 2048 + (a - 3) by omega)
        have hS5 : S ≤ 5000 := by omega
        have hd4 := dec_len4 hS5
        rw [← hdS] at hd4
        have hcl : [80, 79, 83, 84, 32, 47, 32, 72, 84, 84, 80, 47, 49, 46, 49, 13, 10, 99, 111, 110, 116, 101, 110, 116, 45, 108, 101, 110, 103, 116, 104, 58, 32] ++ d ++ [13, 10, 13, 10] = clT S := by rw [hdS]; rfl
        have c6 := parseQ_ok hL ([80, 79, 83, 84, 32, 47, 32, 72, 84, 84, 80, 47, 49, 46, 49, 13, 10, 99, 111, 110, 116, 101, 110, 116, 45, 108, 101, 110, 103, 116, 104, 58, 32] ++ d ++ [13, 10, 13, 10] ++ List.replicate S 0) (by simp only [List.length_append, List.length_replicate, List.length_cons, List.length_nil]; omega)
        have he3 : (parseQ ([80, 79, 83, 84, 32, 47, 32, 72, 84, 84, 80, 47, 49, 46, 49, 13, 10, 99, 111, 110, 116, 101, 110, 116, 45, 108, 101, 110, 103, 116, 104, 58, 32] ++ d ++ [13, 10, 13, 10] ++ List.replicate S 0)).2 = if c ≤ 2 then 0 else 4 := by
          rw [hcl, cl_err S _ hS5, List.length_replicate]
          by_cases h : c ≤ 2
          · rw [if_pos h, if_neg (by omega), if_pos rfl]
          · rw [if_neg h, if_pos (by omega)]
        have c7 := parseQ_ok hL ([80, 79, 83, 84, 32, 47, 32, 72, 84, 84, 80, 47, 49, 46, 49, 13, 10, 99, 111, 110, 116, 101, 110, 116, 45, 108, 101, 110, 103, 116, 104, 58, 32] ++ d ++ [13, 10, 13, 10]) (by simp only [List.length_append, List.length_cons, List.length_nil]; omega)
        have he4 : (parseQ ([80, 79, 83, 84, 32, 47, 32, 72, 84, 84, 80, 47, 49, 46, 49, 13, 10, 99, 111, 110, 116, 101, 110, 116, 45, 108, 101, 110, 103, 116, 104, 58, 32] ++ d ++ [13, 10, 13, 10])).2 = if c ≤ 2 then 3 else 4 := by
          rw [hcl]
          have := cl_err S [] hS5
          rw [List.append_nil] at this
          rw [this]
          by_cases h : c ≤ 2
          · rw [if_pos h, if_neg (by omega), if_neg (by simp; omega)]
          · rw [if_neg h, if_pos (by omega)]
        have c8 := parseQ_ok hL (List.replicate Z 0) (by rw [List.length_replicate]; omega)
        have he5 : (parseQ (List.replicate Z 0)).2 = if a ≤ 3 then 3 else 4 := by
          rw [zero_err]
          by_cases h : a ≤ 3
          · rw [if_pos h, if_neg (by omega)]
          · rw [if_neg h, if_pos (by omega)]
        clear hd hdS hcl htl again hv
        generalize parseQ ([80, 79, 83, 84, 32, 47, 32, 72, 84, 84, 80, 47, 49, 46, 49, 13, 10, 99, 111, 110, 116, 101, 110, 116, 45, 108, 101, 110, 103, 116, 104, 58, 32] ++ d ++ [13, 10, 13, 10] ++ List.replicate S 0) = Q3 at c6 he3
        generalize parseQ ([80, 79, 83, 84, 32, 47, 32, 72, 84, 84, 80, 47, 49, 46, 49, 13, 10, 99, 111, 110, 116, 101, 110, 116, 45, 108, 101, 110, 103, 116, 104, 58, 32] ++ d ++ [13, 10, 13, 10]) = Q4 at c7 he4
        generalize parseQ (List.replicate Z 0) = Q5 at c8 he5
        obtain ⟨Q3a, E3⟩ := Q3
        obtain ⟨Q4a, E4⟩ := Q4
        obtain ⟨Q5a, E5⟩ := Q5
        simp only at he3 he4 he5
        have eZ : EqvD (.c (.int .i64 (2048 + (a - 3)))) (.c (.int .i64 (Z : Int))) := eqvD_of (by rw [hZ])
        have z1 : EqvD (.c (.str (byteL zeroC 0 S))) (.c (.str (List.replicate S 0))) := eqvD_of (by rw [byteL_zero])
        have z2 : EqvD (.c (.str (byteL zeroC 0 Z))) (.c (.str (List.replicate Z 0))) := eqvD_of (by rw [byteL_zero])
        have z3 := areBytes_zero S
        have z4 := areBytes_zero Z
        refine Wp.go (mx := true) (fun _ => mixed) [(20, {cs := [(7, pc c6)], fm := [(5, .c (.str (List.replicate S 0)))]}), (22, {cs := [(4, pc c8)], fm := [(1, .c (.int .i64 (Z : Int))), (3, .c (.str (List.replicate Z 0)))]}), (21, {cs := [(3, pc c7)]})] 100 [false] [decide ((↑v : Int) > (0 : Int)) = false, (33 : Nat) + d.length ≤ (9223372036854775807 : Nat), ([(80 : UInt8), 79, 83, 84, 32, 47, 32, 72, 84, 84, 80, 47, 49, 46, 49, 13, 10, 99, 111, 110, 116, 101, 110, 116, 45, 108, 101, 110, 103, 116, 104, 58, 32] ++ d).length + (4 : Nat) ≤ (9223372036854775807 : Nat), (0 : Int) ≤ (↑S : Int), (↑S : Int) ≤ (↑S : Int), (↑S : Int) * (↑(1 : Nat) : Int) ≤ (140737488355328 : Int), EqvI (V1.c (Cell.str (byteL (fun (x j : Nat) => nthD [Cell.int .u8 (0 : Int)] j) (0 : Nat) S))) (V1.c (Cell.str (List.replicate S (0 : UInt8)))), EqvD (V1.c (Cell.str (byteL (fun (x j : Nat) => nthD [Cell.int .u8 (0 : Int)] j) (0 : Nat) S))) (V1.c (Cell.str (List.replicate S (0 : UInt8)))), (0 : Nat) + S ≤ S, areBytes (fun (x j : Nat) => nthD [Cell.int .u8 (0 : Int)] j) (0 : Nat) S, ([(80 : UInt8), 79, 83, 84, 32, 47, 32, 72, 84, 84, 80, 47, 49, 46, 49, 13, 10, 99, 111, 110, 116, 101, 110, 116, 45, 108, 101, 110, 103, 116, 104, 58, 32] ++ d ++ [(13 : UInt8), 10, 13, 10]).length + (List.replicate S (0 : UInt8)).length ≤ (9223372036854775807 : Nat), (33 : Nat) + d.length ≤ (9223372036854775807 : Nat), ([(80 : UInt8), 79, 83, 84, 32, 47, 32, 72, 84, 84, 80, 47, 49, 46, 49, 13, 10, 99, 111, 110, 116, 101, 110, 116, 45, 108, 101, 110, 103, 116, 104, 58, 32] ++ d).length + (4 : Nat) ≤ (9223372036854775807 : Nat), EqvI (V1.c (Cell.int .i64 ((2048 : Int) + (a - (3 : Int))))) (V1.c (Cell.int .i64 (↑Z : Int))), EqvD (V1.c (Cell.int .i64 ((2048 : Int) + (a - (3 : Int))))) (V1.c (Cell.int .i64 (↑Z : Int))), inR IntKind.i64 ((2048 : Int) + (a - (3 : Int))), (0 : Int) ≤ (↑Z : Int), (↑Z : Int) ≤ (↑Z : Int), (↑Z : Int) * (↑(1 : Nat) : Int) ≤ (140737488355328 : Int), EqvI (V1.c (Cell.str (byteL (fun (x j : Nat) => nthD [Cell.int .u8 (0 : Int)] j) (0 : Nat) Z))) (V1.c (Cell.str (List.replicate Z (0 : UInt8)))), EqvD (V1.c (Cell.str (byteL (fun (x j : Nat) => nthD [Cell.int .u8 (0 : Int)] j) (0 : Nat) Z))) (V1.c (Cell.str (List.replicate Z (0 : UInt8)))), (0 : Nat) + Z ≤ Z, areBytes (fun (x j : Nat) => nthD [Cell.int .u8 (0 : Int)] j) (0 : Nat) Z] (by kernel_rfl) (by kernel_rfl) (by kernel_rfl) ⟨(by assumption), (by omega), (by simp; omega), (by omega), (by omega), (by omega), fun _ _ => trivial, (by assumption), (by omega), (by assumption), (by simp; omega), (by omega), (by simp; omega), fun _ _ => trivial, (by assumption), inR64 (by omega) (by omega), (by omega), (by omega), (by omega), fun _ _ => trivial, (by assumption), (by omega), (show areBytes (fun (x j : Nat) => nthD [Cell.int .u8 (0 : Int)] j) (0 : Nat) Z from (by assumption))⟩ ?_
        refine Wp.cond' (by kernel_rfl) (decide (c - (2 : Int) > (0 : Int))) (by kernel_rfl) (fun h0 => ?_) (fun h0 => ?_)
        · have g0 := of_decide_eq_true h0
          refine Wp.go (mx := true) (fun _ => mixed) [(20, {fm := [(5, .c (.str (List.replicate S 0)))]}), (22, {fm := [(1, .c (.int .i64 (Z : Int))), (3, .c (.str (List.replicate Z 0)))]})] 100 [] [] (by kernel_rfl) (by kernel_rfl) (by kernel_rfl) trivial ?_
          refine Wp.ret' (by kernel_rfl) ?_
          exact FinQ.pure (rs' := [V1.c (Cell.bool (bif bif bif bif bif bif bif bif (E1 == (0 : Int)) == decide (a - (3 : Int) ≤ (0 : Int)) then bif decide (a - (3 : Int) ≤ (0 : Int)) then true else E1 == (4 : Int) else false then (E2 == (0 : Int)) == decide (b - (2 : Int) ≤ (0 : Int)) else false then bif decide (b - (2 : Int) ≤ (0 : Int)) then true else E2 == (4 : Int) else false then (E3 == (0 : Int)) == decide (c - (2 : Int) ≤ (0 : Int)) else false then bif decide (c - (2 : Int) ≤ (0 : Int)) then true else E3 == (4 : Int) else false then E4 == (4 : Int) else false then (E5 == (4 : Int)) == decide (a - (3 : Int) > (0 : Int)) else false then (E5 == (3 : Int)) == decide (a - (3 : Int) ≤ (0 : Int)) else false))]) (by kernel_rfl) (congrArg (fun x => [V1.c (Cell.bool x)]) (bounds_b he he2 he3 (by rw [he4]; rw [if_neg (by have := of_decide_eq_true h0; omega)]) he5)) (by kernel_rfl)
        · have g0 := of_decide_eq_false h0
          refine Wp.go (mx := true) (fun _ => mixed) [(20, {fm := [(5, .c (.str (List.replicate S 0)))]}), (22, {fm := [(1, .c (.int .i64 (Z : Int))), (3, .c (.str (List.replicate Z 0)))]})] 100 [] [] (by kernel_rfl) (by kernel_rfl) (by kernel_rfl) trivial ?_
          refine Wp.ret' (by kernel_rfl) ?_
          exact FinQ.pure (rs' := [V1.c (Cell.bool (bif bif bif bif bif bif bif bif (E1 == (0 : Int)) == decide (a - (3 : Int) ≤ (0 : Int)) then bif decide (a - (3 : Int) ≤ (0 : Int)) then true else E1 == (4 : Int) else false then (E2 == (0 : Int)) == decide (b - (2 : Int) ≤ (0 : Int)) else false then bif decide (b - (2 : Int) ≤ (0 : Int)) then true else E2 == (4 : Int) else false then (E3 == (0 : Int)) == decide (c - (2 : Int) ≤ (0 : Int)) else false then bif decide (c - (2 : Int) ≤ (0 : Int)) then true else E3 == (4 : Int) else false then E4 == (3 : Int) else false then (E5 == (4 : Int)) == decide (a - (3 : Int) > (0 : Int)) else false then (E5 == (3 : Int)) == decide (a - (3 : Int) ≤ (0 : Int)) else false))]) (by kernel_rfl) (congrArg (fun x => [V1.c (Cell.bool x)]) (bounds_b he he2 he3 (by rw [he4]; rw [if_pos (by have := of_decide_eq_false h0; omega)]) he5)) (by kernel_rfl)
end Go.Proofs.Tw
end

section
/-
  Own layer 'SV' (30): what has been read reads so in a later world.
-/
namespace Go.Sv

theorem mapM_keep {α β : Type} {f g : α → Option β} : ∀ {l : List α} {ys : List β}, l.mapM f = some ys → (∀ x ∈ l, ∀ y, f x = some y → y ∈ ys → g x = some y) → l.mapM g = some ys
  | [], ys, h, _ => by simpa using h
  | x :: l, ys, h, hg => by
    rw [List.mapM_cons] at h ⊢
    cases hx : f x with
    | none => rw [hx] at h; cases h
    | some y =>
      rw [hx] at h
      cases hl : l.mapM f with
      | none => rw [hl] at h; cases h
      | some zs =>
        rw [hl] at h
        obtain rfl : y :: zs = ys := by simpa using h
        rw [hg x (by simp) y hx (by simp), mapM_keep hl (fun u hu v hv hm => hg u (by simp [hu]) v hv (by simp [hm]))]
        rfl
theorem cell_keep {W W' : World} (hk : ∀ b, b < W.heap.size → W'.heap[b]? = W.heap[b]?) {a : Addr} {v : Value} (h : W.cell? a = some v) : W'.cell? a = some v := by
  have hb : a.block < W.heap.size := by
    rcases Nat.lt_or_ge a.block W.heap.size with hlt | hge
    · exact hlt
    · simp [World.cell?, Array.getElem?_eq_none hge] at h
  simp only [World.cell?, hk _ hb] at h ⊢
  exact h
theorem cells_keep {W W' : World} (hk : ∀ b, b < W.heap.size → W'.heap[b]? = W.heap[b]?) {base : Nat} {a : Addr} {n : Nat} {l : List Value} (h : W.cells? base a n = some l) : W'.cells? base a n = some l := by
  unfold World.cells? at h ⊢
  split at h
  · rename_i hb
    rw [if_pos hb]
    exact mapM_keep h (fun x _ y hy _ => cell_keep hk hy)
  · cases h

/-- Types that lead to no others, and to no slices of nothing. -/
def stepT (P : Program) (S : TypeId → Bool) (t : TypeId) : Bool := match P.underlying t with
  | some (.slice e) => !(Nat.beq (P.cellsOf e) 0) && S e
  | some (.pointer e) => S e
  | some (.struct fs) => fs.toList.all fun f => S f.type
  | some (.array _ e) => S e
  | some (.map _ e) => S e
  | _ => true
def inL (l : List TypeId) (t : TypeId) : Bool := l.any fun u => Nat.beq u t
def closedT (P : Program) (l : List TypeId) : Bool := l.all (stepT P (inL l))
theorem closed_step {P : Program} {l : List TypeId} (h : closedT P l = true) {t : TypeId} (ht : inL l t = true) : stepT P (inL l) t = true := by
  obtain ⟨u, hu, e⟩ := List.any_eq_true.1 ht
  obtain rfl : u = t := Nat.eq_of_beq_eq_true e
  exact List.all_eq_true.1 h u hu
theorem trod_keep {H : Type} {enc : TypeId × Value → H} {P : Program} {W W' : World} {base : Nat} {sp sp' : Nat → Bool} {l : List TypeId} (hk : ∀ b, b < W.heap.size → W'.heap[b]? = W.heap[b]?)
    (hz : closedT P l = true) (hsp : ∀ b, sp b = true) : ∀ (fuel : Nat) (t : TypeId) (cs : List Value) (d : DataW H) (p : List MemPlace), inL l t = true → DataW.trod enc P W base sp true fuel t cs = some (d, p) →
      (∀ q ∈ p, sp' q.block = true) → DataW.trod enc P W' base sp' true fuel t cs = some (d, p) := by
  intro fuel
  induction fuel with
  | zero => intro t cs d p _ h; simp [DataW.trod] at h
  | succ fuel ih =>
    intro t cs d p hin h hs
    have hst := closed_step hz hin
    unfold stepT at hst
    unfold DataW.trod at h ⊢
    generalize hu : P.underlying t = u at h hst ⊢
    split at h
    case h_6 e a =>
      simp only at hst
      rw [Option.map_eq_some_iff] at h
      obtain ⟨x, hx, he⟩ := h
      rw [Option.bind_eq_some_iff] at hx
      obtain ⟨vl, hl, hx⟩ := hx
      simp only [Prod.mk.injEq] at he
      obtain ⟨rfl, rfl⟩ := he
      simp only [cells_keep hk hl, Option.bind_some]
      rw [ih e vl x.1 x.2 hst hx (fun q hq => hs q (by simp [hq]))]
      rfl
    case h_8 e a len cap =>
      simp only [Bool.and_eq_true, Bool.not_eq_true'] at hst
      have hz : P.cellsOf e ≠ 0 := fun h0 => by rw [h0] at hst; exact absurd hst.1 (by decide)
      simp only at h ⊢
      split at h
      · rename_i hc
        rw [if_pos hc]
        rw [Option.bind_eq_some_iff] at h
        obtain ⟨elems, hel, h⟩ := h
        rw [Option.map_eq_some_iff] at h
        obtain ⟨rest, hre, he⟩ := h
        simp only [Prod.mk.injEq] at he
        obtain ⟨rfl, rfl⟩ := he
        have elemAt : ∀ (i : Nat) (y : DataW H × List MemPlace), (W.cells? base (a.add (i * P.cellsOf e)) (P.cellsOf e)).bind (DataW.trod enc P W base sp true fuel e) = some y → y ∈ elems ++ rest →
            (W'.cells? base (a.add (i * P.cellsOf e)) (P.cellsOf e)).bind (DataW.trod enc P W' base sp' true fuel e) = some y := by
          intro i y hy hm
          rw [Option.bind_eq_some_iff] at hy ⊢
          obtain ⟨vl, hl, hy⟩ := hy
          exact ⟨vl, cells_keep hk hl, ih e vl y.1 y.2 hst.2 hy (fun q hq => hs q (List.mem_append_right _ (List.mem_flatMap.2 ⟨y, hm, hq⟩)))⟩
        rw [mapM_keep hel (fun x _ y hy hm => elemAt x y hy (List.mem_append_left _ hm))]
        simp only [Option.bind_some]
        have hrest : (if sp' a.block = true then (List.range (cap - len)).mapM fun j => (W'.cells? base (a.add ((len + j) * P.cellsOf e)) (P.cellsOf e)).bind (DataW.trod enc P W' base sp' true fuel e) else some []) = some rest := by
          by_cases h0 : elems.length + rest.length = 0
          · have hr : rest = [] := List.eq_nil_of_length_eq_zero (by omega)
            have hle : elems = [] := List.eq_nil_of_length_eq_zero (by omega)
            have none0 : ∀ {f : Nat → Option (DataW H × List MemPlace)} {n : Nat} {ys : List (DataW H × List MemPlace)}, (List.range n).mapM f = some ys → ys = [] → n = 0 := by
              intro f n ys h hy
              subst hy
              cases n with
              | zero => rfl
              | succ n =>
                rw [List.range_succ_eq_map, List.mapM_cons] at h
                exfalso
                revert h
                cases f 0 with
                | none => intro h; cases h
                | some y =>
                  intro h
                  simp only [Option.bind_eq_bind, Option.bind_some] at h
                  rw [Option.bind_eq_some_iff] at h
                  obtain ⟨_, _, h⟩ := h
                  simp at h
            have hlen := none0 hel hle
            rw [if_pos (hsp _)] at hre
            have hc0 := none0 hre hr
            rw [hc0, hr]
            simp
          · have hb : sp' a.block = true := by
              have hm : (MemPlace.cell a.block (a.off + 0)) ∈ MemPlace.row a ((elems.length + rest.length) * P.cellsOf e) := by
                unfold MemPlace.row
                refine List.mem_map.2 ⟨0, List.mem_range.2 ?_, rfl⟩
                exact Nat.mul_pos (by omega) (by omega)
              exact hs _ (List.mem_append_left _ hm)
            rw [if_pos hb]
            rw [if_pos (hsp _)] at hre
            exact mapM_keep hre (fun x _ y hy hm => elemAt (len + x) y hy (List.mem_append_right _ hm))
        rw [hrest]
        rfl
      · cases h
    case h_9 fs =>
      split at h
      · rename_i hc
        rw [if_pos hc]
        rw [Option.map_eq_some_iff] at h
        obtain ⟨xs, hx, he⟩ := h
        simp only [Prod.mk.injEq] at he
        obtain ⟨rfl, rfl⟩ := he
        rw [mapM_keep hx (fun f hf y hy hm => ih _ _ y.1 y.2 (List.all_eq_true.1 hst f hf) hy (fun q hq => hs q (List.mem_flatMap.2 ⟨y, hm, hq⟩)))]
        rfl
      · cases h
    case h_10 n e =>
      split at h
      · rename_i hc
        rw [if_pos hc]
        rw [Option.map_eq_some_iff] at h
        obtain ⟨xs, hx, he⟩ := h
        simp only [Prod.mk.injEq] at he
        obtain ⟨rfl, rfl⟩ := he
        rw [mapM_keep hx (fun f _ y hy hm => ih _ _ y.1 y.2 hst hy (fun q hq => hs q (List.mem_flatMap.2 ⟨y, hm, hq⟩)))]
        rfl
      · cases h
    case h_12 ms u v => exact h
    case h_14 k e b =>
      cases hb : W.heap[b]? with
      | none => rw [hb] at h; cases h
      | some o =>
        have hlt : b < W.heap.size := by
          rcases Nat.lt_or_ge b W.heap.size with hlt | hge
          · exact hlt
          · rw [Array.getElem?_eq_none hge] at hb; cases hb
        rw [hb] at h
        rw [hk b hlt, hb]
        cases o with
        | map es clock =>
          simp only at h ⊢
          split at h
          · rename_i hc
            rw [if_pos hc]
            rw [Option.bind_eq_some_iff] at h
            obtain ⟨entries, he, h⟩ := h
            have he' : entries.flatMap (fun x => x.2) ⊆ p := by
              split at h
              · simp only [Option.some.injEq, Prod.mk.injEq] at h
                rw [← h.2]
                exact fun x hx => List.mem_cons_of_mem _ hx
              · cases h
            rw [mapM_keep (g := fun x => (keyOf P k x.key).bind fun key => if x.val.formed P e then (DataW.trod enc P W' base sp' true fuel e x.val.cells.toList).map fun y => ((key, y.1), y.2) else none) he (fun x _ y hy hm => by
              rw [Option.bind_eq_some_iff] at hy ⊢
              obtain ⟨key, hkey, hy⟩ := hy
              refine ⟨key, hkey, ?_⟩
              split at hy
              · rename_i hf
                rw [if_pos hf]
                rw [Option.map_eq_some_iff] at hy ⊢
                obtain ⟨z, hz', rfl⟩ := hy
                exact ⟨z, ih e _ z.1 z.2 hst hz' (fun q hq => hs q (he' (List.mem_flatMap.2 ⟨_, hm, hq⟩))), rfl⟩
              · cases hy)]
            exact h
          · cases h
        | _ => cases h
    all_goals exact h
/-- All arguments read as before. -/
theorem trodAll_keep {H : Type} {enc : TypeId × Value → H} {P : Program} {W W' : World} {base : Nat} {sp sp' : Nat → Bool} {l : List TypeId} (hk : ∀ b, b < W.heap.size → W'.heap[b]? = W.heap[b]?)
    (hz : closedT P l = true) (hsp : ∀ b, sp b = true) : ∀ (ts : List TypeId) (vs : List Value) (ds : List (DataW H)) (p : List MemPlace), (∀ t ∈ ts, inL l t = true) → DataW.TrodAll enc P W base sp true ts vs ds p →
      (∀ q ∈ p, sp' q.block = true) → DataW.TrodAll enc P W' base sp' true ts vs ds p
  | [], [], [], p, _, h, _ => h
  | t :: ts, v :: vs, d :: ds, p, hl, ⟨p1, q1, ⟨fuel, h1⟩, h2, e⟩, hs =>
    ⟨p1, q1, ⟨fuel, trod_keep hk hz hsp fuel t _ d p1 (hl t (by simp)) h1 (fun q hq => hs q (by rw [e]; simp [hq]))⟩, trodAll_keep hk hz hsp ts vs ds q1 (fun t ht => hl t (by simp [ht])) h2 (fun q hq => hs q (by rw [e]; simp [hq])), e⟩
/-- A number among the arguments. -/
theorem int_den {P : Program} {W : World} {base0 : Nat} {t : TypeId} {k : IntKind} (ht : P.underlying t = some (.int k)) {v : Value} (hok : Value.okWide P W .any base0 t v) :
    ∃ z : Int, DenV (Dw W) rho0 (.c (.int k z)) v := by
  obtain ⟨n, rfl⟩ := Go.WideShapes.okWide_int ht hok
  exact ⟨n, rfl⟩
end Go.Sv
end

section
/-
  Own layer 'SV' (31): more readings of arguments: rows of structs, structs.
-/
namespace Go.Sv

/-- A variable of an integer type holds some number. -/
theorem int_shape {P : Program} {w : World} {g : Nat} {t : TypeId} {zero : Array Value} {k : IntKind} (h : w.ShapedOpen P) (hg : g < P.globals.size)
    (h0 : ((begin P (fun _ _ => 0) default).world.heap[g]?).bind Obj.row? = some (zero, t)) (hz : zero.size = 1)
    (hb : P.buildable t = true) (hc : P.cellTypes P.depth t = some [t]) (hu : P.underlying t = some (.int k)) : ∃ (m : Int) (cs : Array Value) (fz : Nat × Nat), w.heap[g]? = some (.cells cs t fz) ∧ cs.size = 1 ∧ cs[0]? = some (.int k m) := by
  obtain ⟨cs, hh, hs, hr⟩ := h.1 g zero t hg h0
  obtain ⟨ts, hts, _, hall⟩ := hr hb
  rw [hc] at hts
  cases hts
  have h1 : 0 < cs.size := by omega
  obtain ⟨u, hu', hok⟩ := hall 0 cs[0] (by simp [h1])
  have : u = t := by simpa using hu'.symm
  subst this
  have hcell : cs[0]? = some cs[0] := by simp [h1]
  unfold Cell.ok at hok
  rw [hu] at hok
  cases hv : cs[0] with
  | int k' n =>
    rw [hv] at hok
    have hk : k' = k := by first | exact hok.1 | exact hok.1.symm | (simp at hok; exact hok.1) | (simp at hok; exact hok.1.symm)
    subst hk
    exact ⟨n, cs, _, hh, by omega, by rw [hcell, hv]⟩
  | _ => rw [hv] at hok; simp at hok
/-- The listed tables, and one variable that holds some number. -/
theorem glob_plus {P : Program} {G : Nat → Option (List Cell)} {W : World} {laid : List (String × DataW Unit)} {g0 : Nat} {k : IntKind} {m : Int} {cs0 : Array Value} {t0 : TypeId} {fz0 : Nat × Nat} (h : laidMet P laid W)
    (hw : W.heap[g0]? = some (.cells cs0 t0 fz0)) (hs : cs0.size = 1) (hx : cs0[0]? = some (.int k m)) (h0 : G g0 = some [.int k m])
    (hG : ∀ g cs, g ≠ g0 → G g = some cs → ∃ n d t, (n, d) ∈ laid ∧ P.globalNamed n = some g ∧ (P.globals[g]?).map (·.type) = some t ∧ dc P 9 t d = some cs) : GlobOk G (Dw W) ∧ GlobW G W := by
  obtain ⟨k1, k2⟩ := glob_ok (G := fun g => if g = g0 then none else G g) (laid := laid) h (fun g cs hg => by
    split at hg
    · cases hg
    · rename_i hne; exact hG g cs hne hg)
  refine ⟨fun g cs hg j x hj => ?_, fun g cs hg hne => ?_⟩
  · by_cases e : g = g0
    · subst e
      rw [h0] at hg
      obtain rfl := Option.some.inj hg
      cases j with
      | zero =>
        simp at hj; subst hj
        exact ⟨.int k m, by simp only [Dw, World.cell?, hw, Option.isSome_none, Bool.false_eq_true, if_false]; exact hx, rfl⟩
      | succ j => simp at hj
    · exact k1 g cs (by show (if g = g0 then none else G g) = some cs; rw [if_neg e]; exact hg) j x hj
  · by_cases e : g = g0
    · subst e
      rw [h0] at hg
      obtain rfl := Option.some.inj hg
      exact ⟨cs0, t0, fz0, hw, by rw [hs]; rfl⟩
    · exact k2 g cs (by show (if g = g0 then none else G g) = some cs; rw [if_neg e]; exact hg) hne
end Go.Sv
end
