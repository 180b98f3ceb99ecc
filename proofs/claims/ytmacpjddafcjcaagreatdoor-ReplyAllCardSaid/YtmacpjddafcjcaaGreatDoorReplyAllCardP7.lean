/- Own texts for this claim: B64, Key, Fits, Law, All, SvKeep. -/
import Derived.Test.YtmacpjddafcjcaaGreatDoorReplyAllCardP6
import Derived.Test.YtmacpjddafcjcaaGreatDoorReplyAllCardP5
import Derived.Test.YtmacpjddafcjcaaGreatDoorReplyAllCardP3
import Derived.ChangeSlices
set_option linter.all false

section
open Go Go.Sv
namespace Go.Proofs.Tw
attribute [local irreducible] Wp FinQ resV Ent Pur Go.Sv.Fn Sat0
set_option maxRecDepth 100000
set_option maxHeartbeats 4000000
variable {G : Nat → Option (List Cell)}

/-! bytes as signs -/
def sgs : List UInt8 := [65, 66, 67, 68, 69, 70, 71, 72, 73, 74, 75, 76, 77, 78, 79, 80, 81, 82, 83, 84, 85, 86, 87, 88, 89, 90, 97, 98, 99, 100, 101, 102, 103, 104, 105, 106, 107, 108, 109, 110, 111, 112, 113, 114, 115, 116, 117, 118, 119, 120, 121, 122, 48, 49, 50, 51, 52, 53, 54, 55, 56, 57, 45, 95]
def v3 (b : List UInt8) (i : Nat) : Nat → Int
  | 0 => 0
  | k + 1 => if i + k < b.length then v3 b i k * 256 + ((b.getD (i + k) 0).toNat : Int) else v3 b i k * 256
def n3 (b : List UInt8) (i : Nat) : Nat → Nat
  | 0 => 0
  | k + 1 => if i + k < b.length then n3 b i k + 1 else n3 b i k
theorem n3_le (b : List UInt8) (i : Nat) : ∀ k, n3 b i k ≤ k
  | 0 => Nat.le_refl _
  | k + 1 => by have := n3_le b i k; unfold n3; split <;> omega
theorem v3_lt (b : List UInt8) (i : Nat) : ∀ k, k ≤ 3 → 0 ≤ v3 b i k ∧ v3 b i k < 256 ^ k
  | 0, _ => ⟨Int.le_refl 0, Int.zero_lt_one⟩
  | k + 1, h => by
    have := v3_lt b i k (by omega)
    have hc := UInt8.toNat_lt (b.getD (i + k) 0)
    have hp : (256 : Int) ^ (k + 1) = 256 ^ k * 256 := Int.pow_succ _ _
    unfold v3; rw [hp]; split <;> omega
def encO (b : List UInt8) : Nat × Option (Nat × List UInt8) → St
  | (g, none) => ⟨[(0, .v (.c (.sl 1 b.length (bytesF b)))), (3, .v (.c .nilsl)), (4, .v (.c (.int .i64 ((3 * g : Nat) : Int))))], [], 48⟩
  | (g, some (n, l)) => ⟨[(0, .v (.c (.sl 1 b.length (bytesF b)))), (3, .v (.c (.row 1 40 0 n))), (4, .v (.c (.int .i64 ((3 * g : Nat) : Int))))], [(40, .row 5 1 n (bytesF l))], 48⟩
def enc1 (b : List UInt8) (g : Nat) (o : Option (Nat × List UInt8)) (x : Nat × Int × Nat) : St := match o with
  | none => ⟨[(0, .v (.c (.sl 1 b.length (bytesF b)))), (3, .v (.c .nilsl)), (4, .v (.c (.int .i64 ((3 * g : Nat) : Int)))), (5, .v (.c (.int .i64 x.2.1))), (6, .v (.c (.int .i64 (x.2.2 : Int)))), (7, .v (.c (.int .i64 (x.1 : Int))))], [], 400⟩
  | some (n, l) => ⟨[(0, .v (.c (.sl 1 b.length (bytesF b)))), (3, .v (.c (.row 1 40 0 n))), (4, .v (.c (.int .i64 ((3 * g : Nat) : Int)))), (5, .v (.c (.int .i64 x.2.1))), (6, .v (.c (.int .i64 (x.2.2 : Int)))), (7, .v (.c (.int .i64 (x.1 : Int))))], [(40, .row 5 1 n (bytesF l))], 400⟩
def enc2 (b : List UInt8) (g : Nat) (v : Int) (m : Nat) : Nat × Option (Nat × List UInt8) → St
  | (k, none) => ⟨[(0, .v (.c (.sl 1 b.length (bytesF b)))), (3, .v (.c .nilsl)), (4, .v (.c (.int .i64 ((3 * g : Nat) : Int)))), (5, .v (.c (.int .i64 v))), (6, .v (.c (.int .i64 (m : Int)))), (8, .v (.c (.int .i64 (k : Int))))], [], 800⟩
  | (k, some (n, l)) => ⟨[(0, .v (.c (.sl 1 b.length (bytesF b)))), (3, .v (.c (.row 1 40 0 n))), (4, .v (.c (.int .i64 ((3 * g : Nat) : Int)))), (5, .v (.c (.int .i64 v))), (6, .v (.c (.int .i64 (m : Int)))), (8, .v (.c (.int .i64 (k : Int))))], [(40, .row 5 1 n (bytesF l))], 800⟩
def six (v : Int) (k : Nat) : Int := (v.fdiv (2 ^ (18 - 6 * k))) % 64
def sgn6 (v : Int) (k : Nat) : UInt8 := sgs.getD (six v k).toNat 0
def sgs6 (v : Int) : Nat → List UInt8
  | 0 => []
  | k + 1 => sgs6 v k ++ [sgn6 v k]
def grp (b : List UInt8) (g : Nat) : List UInt8 := sgs6 (v3 b (3 * g) 3) (n3 b (3 * g) 3 + 1)
def encG (b : List UInt8) : Nat → List UInt8
  | 0 => []
  | g + 1 => encG b g ++ grp b g
def enc8 (b : List UInt8) : List UInt8 := encG b ((b.length + 2) / 3)
def encOF (b : List UInt8) : Nat × Option (Nat × List UInt8) → Prop
  | (g, none) => g = 0
  | (g, some (n, l)) => 0 < g ∧ 3 * g < b.length + 3 ∧ l = encG b g ∧ n = l.length ∧ n ≤ 4 * g
def enc1F (b : List UInt8) (g : Nat) (x : Nat × Int × Nat) : Prop := x.1 ≤ 3 ∧ x.2.1 = v3 b (3 * g) x.1 ∧ x.2.2 = n3 b (3 * g) x.1
def enc2F (b : List UInt8) (g : Nat) (v : Int) (m : Nat) : Nat × Option (Nat × List UInt8) → Prop
  | (k, none) => k = 0 ∧ g = 0
  | (k, some (n, l)) => k ≤ m + 1 ∧ l = encG b g ++ sgs6 v k ∧ n = l.length ∧ n + (m + 1 - k) ≤ 4 * (g + 1)
theorem v3_16 (b : List UInt8) (i k : Nat) (h : k ≤ 3) : 0 ≤ v3 b i k ∧ v3 b i k < 16777216 := by
  have := v3_lt b i k h
  have : k = 0 ∨ k = 1 ∨ k = 2 ∨ k = 3 := by omega
  rcases this with rfl | rfl | rfl | rfl <;> simp at * <;> omega
theorem wrap_b (c : UInt8) : IntKind.i64.wrap ((c.toNat : Nat) : Int) = ((c.toNat : Nat) : Int) := eq_of_beq (byte_all (fun c => IntKind.i64.wrap ((c.toNat : Nat) : Int) == ((c.toNat : Nat) : Int)) (by kernel_rfl) c)
theorem v3_in (b : List UInt8) (i k : Nat) (h : i + k < b.length) : v3 b i k * 256 + IntKind.i64.wrap ((b.getD ((i : Int) + (k : Int)).toNat 0).toNat : Int) = v3 b i (k + 1) := by
  have e : ((i : Int) + (k : Int)).toNat = i + k := by omega
  rw [wrap_b, e, v3, if_pos h]
theorem bits63 (x : Int) (h : 0 ≤ x ∧ x < 2^62) : bitsI .and .i64 x 63 = x % 64 := by
  obtain ⟨n, rfl⟩ := Int.eq_ofNat_of_zero_le h.1
  have e : (BitVec.ofInt 64 (n : Int) &&& BitVec.ofInt 64 63).toNat = n % 64 := by
    rw [BitVec.toNat_and]
    have e1 : (BitVec.ofInt 64 (n : Int)).toNat = n := by
      rw [BitVec.toNat_ofInt]; omega
    have e2 : (BitVec.ofInt 64 63).toNat = 2^6 - 1 := rfl
    rw [e1, e2, Nat.and_two_pow_sub_one_eq_mod]
  show IntKind.i64.wrap ((BitVec.ofInt 64 (n : Int) &&& BitVec.ofInt 64 63).toNat) = _
  rw [e]
  simp [IntKind.wrap, IntKind.bits, IntKind.signed]
  omega
theorem six_is (v : Int) (k : Nat) (hk : k ≤ 3) (hv : 0 ≤ v ∧ v < 16777216) : bitsI .and .i64 (v.fdiv (2 ^ min (18 - 6 * (k : Int)).toNat IntKind.i64.bits)) 63 = six v k := by
  have e : min (18 - 6 * (k : Int)).toNat IntKind.i64.bits = 18 - 6 * k := by show min _ 64 = _; omega
  rw [e, bits63]; · rfl
  have h1 : (0 : Int) ≤ 2 ^ (18 - 6 * k) := Int.le_of_lt (Int.pow_pos (by decide))
  rw [Int.fdiv_eq_ediv_of_nonneg _ h1]
  exact ⟨Int.ediv_nonneg hv.1 h1, Int.lt_of_le_of_lt (Int.ediv_le_self _ hv.1) (by omega)⟩
theorem row_new (x : Int) (c : UInt8) (hx : x = (c.toNat : Int)) : BlkEqv (.row 5 1 1 (catF 0 (fun _ _ => .nilif) (fun i j => nthD [.int .u8 x] ((0 + i) * 1 + j)))) (.row 5 1 1 (bytesF [c])) := by
  subst hx
  refine BlkEqv.row_ext rfl fun i hi j hj => ?_
  obtain ⟨rfl, rfl⟩ : i = 0 ∧ j = 0 := by omega
  rfl
theorem enc8_ok (b : List UInt8) (hl : b.length ≤ 30000000000000) : Pur Tryz.prog G 114 [.c (.sl 1 b.length (bytesF b))] [.c (.str (enc8 b))] := by
  refine Pur.of Tryz.func114 (by kernel_rfl) (by kernel_rfl) (by kernel_rfl) ?_
  refine Wp.go (mx := true) (fun _ => mixed) [] 100 [] [] (by kernel_rfl) (by kernel_rfl) (by kernel_rfl) trivial ?_
  refine Wp.loopK (by kernel_rfl) (encO b) (encOF b) (fun x => b.length + 3 - 3 * x.1) (0, none) (Ent.of [] (by kernel_rfl) (by kernel_rfl) (by kernel_rfl) trivial) rfl ?_
  rintro ⟨g, _ | ⟨n, l⟩⟩ L hf again0
  · rcases hf with rfl
    rcases Nat.lt_or_ge (3 * 0) b.length with hlt | hge
    · have ht : decide ((↑(3 * 0) : Int) < (↑b.length : Int)) = true := by simp; omega
      refine Wp.go (mx := true) (fun _ => mixed) [] 100 [true] [decide ((↑(3 * 0) : Int) < (↑b.length : Int)) = true] (by kernel_rfl) (by kernel_rfl) (by kernel_rfl) ht ?_
      refine Wp.loopK (by kernel_rfl) (enc1 b 0 none) (enc1F b 0) (fun x => 3 - x.1) (0, 0, 0) (Ent.of [] (by kernel_rfl) (by kernel_rfl) (by kernel_rfl) trivial) ⟨Nat.zero_le _, rfl, rfl⟩ ?_
      rintro ⟨k, v, m⟩ L1 ⟨hk, hv, hm⟩ again
      have hm3 := n3_le b (3 * 0) k
      have hv3 := v3_16 b (3 * 0) k hk
      have hv4 := v3_16 b (3 * 0) (k + 1)
      have hin := v3_in b (3 * 0) k
      simp only [] at hk hv hm
      rw [← hv] at hv3 hin
      rw [← hm] at hm3
      rcases Nat.lt_or_ge k 3 with hk3 | hk3
      · have h3 : decide ((k : Int) < 3) = true := by simp; omega
        have hv5 := hv4 hk3
        clear hv4 ht
        have r1 : inR .i64 (v * 256) := inR64 (by omega) (by omega)
        have r2 : inR .i64 ((m : Int) + 1) := inR64 (by omega) (by omega)
        rcases Nat.lt_or_ge (3 * 0 + k) b.length with hc | hc
        · have hin := hin hc
          rw [← hin] at hv5
          have r3 : inR .i64 (v * 256 + IntKind.i64.wrap ((b.getD (((3 * 0 : Nat) : Int) + (k : Int)).toNat 0).toNat : Int)) := inR64 (by omega) (by omega)
          have hnx : enc1F b 0 (k + 1, v * 256 + IntKind.i64.wrap ((b.getD (((3 * 0 : Nat) : Int) + (k : Int)).toNat 0).toNat : Int), m + 1) := ⟨hk3, hin, by show m + 1 = _; rw [hm, n3, if_pos hc]⟩
          have hc2 : decide (((3 * 0 : Nat) : Int) + (k : Int) < (b.length : Int)) = true := by simp; omega
          refine Wp.go (mx := true) (fun _ => mixed) [] 100 [true, true] [decide ((↑k : Int) < (3 : Int)) = true, inR IntKind.i64 (v * (256 : Int)), inR IntKind.i64 ((↑((3 : Nat) * (0 : Nat)) : Int) + (↑k : Int)), decide ((↑((3 : Nat) * (0 : Nat)) : Int) + (↑k : Int) < (↑b.length : Int)) = true, inR IntKind.i64 ((↑((3 : Nat) * (0 : Nat)) : Int) + (↑k : Int)), (0 : Int) ≤ (↑((3 : Nat) * (0 : Nat)) : Int) + (↑k : Int) ∧ (↑((3 : Nat) * (0 : Nat)) : Int) + (↑k : Int) < (↑b.length : Int), inR IntKind.i64 (v * (256 : Int) + IntKind.i64.wrap (↑(b.getD ((↑((3 : Nat) * (0 : Nat)) : Int) + (↑k : Int)).toNat (0 : UInt8)).toNat : Int)), inR IntKind.i64 ((↑m : Int) + (1 : Int)), inR IntKind.i64 ((↑k : Int) + (1 : Int))] (by kernel_rfl) (by kernel_rfl) (by kernel_rfl) ⟨(by assumption), inR64 (by omega) (by omega), inR64 (by omega) (by omega), (by assumption), inR64 (by omega) (by omega), (by omega), inR64 (by omega) (by omega), inR64 (by omega) (by omega), inR64 (by omega) (by omega)⟩ ?_
          exact Wp.lpK (by kernel_rfl) (again _ (k + 1, v * 256 + IntKind.i64.wrap ((b.getD (((3 * 0 : Nat) : Int) + (k : Int)).toNat 0).toNat : Int), m + 1) (by assumption) (by omega) (Ent.of [] (by kernel_rfl) (by kernel_rfl) (by kernel_rfl) trivial))
        · clear hin
          have hnx : enc1F b 0 (k + 1, v * 256, m) := ⟨hk3, by show v * 256 = _; rw [hv, v3, if_neg (by omega)], by show m = _; rw [hm, n3, if_neg (by omega)]⟩
          have hc2 : decide (((3 * 0 : Nat) : Int) + (k : Int) < (b.length : Int)) = false := by simp; omega
          refine Wp.go (mx := true) (fun _ => mixed) [] 100 [true, false] [decide ((↑k : Int) < (3 : Int)) = true, inR IntKind.i64 (v * (256 : Int)), inR IntKind.i64 ((↑((3 : Nat) * (0 : Nat)) : Int) + (↑k : Int)), decide ((↑((3 : Nat) * (0 : Nat)) : Int) + (↑k : Int) < (↑b.length : Int)) = false, inR IntKind.i64 ((↑k : Int) + (1 : Int))] (by kernel_rfl) (by kernel_rfl) (by kernel_rfl) ⟨(by assumption), inR64 (by omega) (by omega), inR64 (by omega) (by omega), (by assumption), inR64 (by omega) (by omega)⟩ ?_
          exact Wp.lpK (by kernel_rfl) (again _ (k + 1, v * 256, m) (by assumption) (by omega) (Ent.of [] (by kernel_rfl) (by kernel_rfl) (by kernel_rfl) trivial))
      · obtain rfl : k = 3 := by omega
        have h3 : decide ((↑(3 : Nat) : Int) < 3) = false := rfl
        refine Wp.go (mx := true) (fun _ => mixed) [] 100 [false] [decide ((↑(3 : Nat) : Int) < (3 : Int)) = false] (by kernel_rfl) (by kernel_rfl) (by kernel_rfl) rfl ?_
        refine Wp.loopK (by kernel_rfl) (enc2 b 0 v m) (enc2F b 0 v m) (fun x => m + 1 - x.1) (0, none) (Ent.of [] (by kernel_rfl) (by kernel_rfl) (by kernel_rfl) trivial) ⟨rfl, rfl⟩ ?_
        clear again
        rintro ⟨k, _ | ⟨n, l⟩⟩ L2 hf again
        · obtain ⟨rfl, h00⟩ := hf
          have h3 : decide ((↑(0 : Nat) : Int) ≤ (m : Int)) = true := by simp
          have hx := eqvD_of (congrArg (fun x => V1.c (.int .i64 x)) (six_is v 0 (by decide) hv3))
          have hs : 0 ≤ six v 0 ∧ six v 0 < ((64 : Nat) : Int) := by unfold six; omega
          have e1 := row_new ((([65, 66, 67, 68, 69, 70, 71, 72, 73, 74, 75, 76, 77, 78, 79, 80, 81, 82, 83, 84, 85, 86, 87, 88, 89, 90, 97, 98, 99, 100, 101, 102, 103, 104, 105, 106, 107, 108, 109, 110, 111, 112, 113, 114, 115, 116, 117, 118, 119, 120, 121, 122, 48, 49, 50, 51, 52, 53, 54, 55, 56, 57, 45, 95] : List UInt8).getD (six v 0).toNat 0).toNat : Int) (sgn6 v 0) rfl
          have hnx : enc2F b 0 v m (1, some (1, [sgn6 v 0])) := ⟨by omega, by first | rfl | omega, rfl, by omega⟩
          refine Wp.go (mx := true) (fun _ => mixed) [(15, {fm := [(6, .c (.int .i64 (six v 0)))], bs := [(9, Blk.row 5 1 1 (bytesF [sgn6 v 0]))]})] 100 [true] [decide ((↑(0 : Nat) : Int) ≤ (↑m : Int)) = true, inR IntKind.i64 ((6 : Int) * (↑(0 : Nat) : Int)), inR IntKind.i64 ((18 : Int) - (6 : Int) * (↑(0 : Nat) : Int)), (0 : Int) ≤ (18 : Int) - (6 : Int) * (↑(0 : Nat) : Int), EqvI (V1.c (Cell.int .i64 (bitsI .and .i64 (v.fdiv ((2 : Int) ^ (18 : Nat))) (63 : Int)))) (V1.c (Cell.int .i64 (six v (0 : Nat)))), EqvD (V1.c (Cell.int .i64 (bitsI .and .i64 (v.fdiv ((2 : Int) ^ (18 : Nat))) (63 : Int)))) (V1.c (Cell.int .i64 (six v (0 : Nat)))), (0 : Int) ≤ six v (0 : Nat) ∧ six v (0 : Nat) < (↑(64 : Nat) : Int), (1 : Nat) ≤ (140737488355328 : Nat), BlkEqv (Blk.row 5 (1 : Nat) (1 : Nat) (catF (0 : Nat) (fun (x x_1 : Nat) => Cell.nilif) fun (i j : Nat) => nthD [Cell.int .u8 (↑([(65 : UInt8), 66, 67, 68, 69, 70, 71, 72, 73, 74, 75, 76, 77, 78, 79, 80, 81, 82, 83, 84, 85, 86, 87, 88, 89, 90, 97, 98, 99, 100, 101, 102, 103, 104, 105, 106, 107, 108, 109, 110, 111, 112, 113, 114, 115, 116, 117, 118, 119, 120, 121, 122, 48, 49, 50, 51, 52, 53, 54, 55, 56, 57, 45, 95].getD (six v (0 : Nat)).toNat (0 : UInt8)).toNat : Int)] (((0 : Nat) + i) * (1 : Nat) + j))) (Blk.row 5 (1 : Nat) (1 : Nat) (bytesF [sgn6 v (0 : Nat)])), (0 : Nat) + (1 : Nat) ≤ (1 : Nat), inR IntKind.i64 ((↑(0 : Nat) : Int) + (1 : Int))] (by kernel_rfl) (by kernel_rfl) (by kernel_rfl) ⟨rfl, inR64 (by omega) (by omega), inR64 (by omega) (by omega), (by omega), fun _ _ => trivial, (by assumption), (by omega), (by omega), (by assumption), (by omega), inR64 (by omega) (by omega)⟩ ?_
          exact Wp.lpK (by kernel_rfl) (again _ (1, some (1, [sgn6 v 0])) (by assumption) (by omega) (Ent.of [(40, 992)] (by kernel_rfl) (by kernel_rfl) (by kernel_rfl) trivial))
        · obtain ⟨hk, hl1, hn, hb⟩ := hf
          rcases Nat.lt_or_ge m k with hk3 | hk3
          · obtain rfl : k = m + 1 := by omega
            have again := again0
            have hv' := hv
            have hm' := hm
            have hnx : encOF b (0 + 1, some (n, l)) := ⟨by omega, by omega, by rw [hl1, hv', hm']; rfl, hn, by omega⟩
            clear hv hm hv' hm' hl1 hin
            refine Wp.go (mx := true) (fun _ => mixed) [] 100 [false] [decide ((↑(m + (1 : Nat)) : Int) ≤ (↑m : Int)) = false, inR IntKind.i64 ((↑((3 : Nat) * (0 : Nat)) : Int) + (3 : Int))] (by kernel_rfl) (by kernel_rfl) (by kernel_rfl) ⟨(by simp; omega), inR64 (by omega) (by omega)⟩ ?_
            exact Wp.lpK (by kernel_rfl) (again _ (0 + 1, some (n, l)) (by assumption) (by omega) (Ent.of [] (by kernel_rfl) (by kernel_rfl) (by kernel_rfl) trivial))
          · have hx := eqvD_of (congrArg (fun x => V1.c (.int .i64 x)) (six_is v k (by omega) hv3))
            have hs : 0 ≤ six v k ∧ six v k < ((64 : Nat) : Int) := by unfold six; omega
            have e1 : BlkEqv (.row 5 1 (n + 1) (catF n (bytesF l) (fun i j => nthD [.int .u8 ((([65, 66, 67, 68, 69, 70, 71, 72, 73, 74, 75, 76, 77, 78, 79, 80, 81, 82, 83, 84, 85, 86, 87, 88, 89, 90, 97, 98, 99, 100, 101, 102, 103, 104, 105, 106, 107, 108, 109, 110, 111, 112, 113, 114, 115, 116, 117, 118, 119, 120, 121, 122, 48, 49, 50, 51, 52, 53, 54, 55, 56, 57, 45, 95] : List UInt8).getD (six v k).toNat 0).toNat : Int)] ((0 + i) * 1 + j)))) (.row 5 1 (n + 1) (bytesF (l ++ [sgn6 v k]))) := bytes_app l [sgn6 v k] hn
            have hnx : enc2F b 0 v m (k + 1, some (n + 1, l ++ [sgn6 v k])) := ⟨by omega, by rw [hl1, List.append_assoc]; rfl, by simp [hn], by omega⟩
            clear hl1 hin
            refine Wp.go (mx := true) (fun _ => mixed) [(15, {fm := [(6, .c (.int .i64 (six v k)))], bs := [(9, Blk.row 5 1 (n + 1) (bytesF (l ++ [sgn6 v k])))]})] 100 [true] [decide ((↑k : Int) ≤ (↑m : Int)) = true, inR IntKind.i64 ((6 : Int) * (↑k : Int)), inR IntKind.i64 ((18 : Int) - (6 : Int) * (↑k : Int)), (0 : Int) ≤ (18 : Int) - (6 : Int) * (↑k : Int), EqvI (V1.c (Cell.int .i64 (bitsI .and .i64 (v.fdiv ((2 : Int) ^ min ((18 : Int) - (6 : Int) * (↑k : Int)).toNat IntKind.i64.bits)) (63 : Int)))) (V1.c (Cell.int .i64 (six v k))), EqvD (V1.c (Cell.int .i64 (bitsI .and .i64 (v.fdiv ((2 : Int) ^ min ((18 : Int) - (6 : Int) * (↑k : Int)).toNat IntKind.i64.bits)) (63 : Int)))) (V1.c (Cell.int .i64 (six v k))), (0 : Int) ≤ six v k ∧ six v k < (↑(64 : Nat) : Int), (n + (1 : Nat)) * (1 : Nat) ≤ (140737488355328 : Nat), BlkEqv (Blk.row 5 (1 : Nat) (n + (1 : Nat)) (catF n (bytesF l) fun (i j : Nat) => nthD [Cell.int .u8 (↑([(65 : UInt8), 66, 67, 68, 69, 70, 71, 72, 73, 74, 75, 76, 77, 78, 79, 80, 81, 82, 83, 84, 85, 86, 87, 88, 89, 90, 97, 98, 99, 100, 101, 102, 103, 104, 105, 106, 107, 108, 109, 110, 111, 112, 113, 114, 115, 116, 117, 118, 119, 120, 121, 122, 48, 49, 50, 51, 52, 53, 54, 55, 56, 57, 45, 95].getD (six v k).toNat (0 : UInt8)).toNat : Int)] (((0 : Nat) + i) * (1 : Nat) + j))) (Blk.row 5 (1 : Nat) (n + (1 : Nat)) (bytesF (l ++ [sgn6 v k]))), n ≤ n, (0 : Nat) + (1 : Nat) ≤ (1 : Nat), inR IntKind.i64 ((↑k : Int) + (1 : Int))] (by kernel_rfl) (by kernel_rfl) (by kernel_rfl) ⟨(by simp; omega), inR64 (by omega) (by omega), inR64 (by omega) (by omega), (by omega), fun _ _ => trivial, (by assumption), (by omega), (by omega), (by assumption), (by omega), (by omega), inR64 (by omega) (by omega)⟩ ?_
            exact Wp.lpK (by kernel_rfl) (again _ (k + 1, some (n + 1, l ++ [sgn6 v k])) (by assumption) (by omega) (Ent.of [(40, 992)] (by kernel_rfl) (by kernel_rfl) (by kernel_rfl) trivial))
    · clear again0
      refine Wp.go (mx := true) (fun _ => mixed) [] 100 [false] [decide ((↑((3 : Nat) * (0 : Nat)) : Int) < (↑b.length : Int)) = false] (by kernel_rfl) (by kernel_rfl) (by kernel_rfl) (show decide ((↑((3 : Nat) * (0 : Nat)) : Int) < (↑b.length : Int)) = false from (by simp_all <;> omega)) ?_
      refine Wp.ret' (by kernel_rfl) ?_
      exact FinQ.pure (rs' := [V1.c (Cell.str [])]) (by kernel_rfl) (by rw [show b = [] from List.eq_nil_of_length_eq_zero (by omega)]; rfl) (by kernel_rfl)
  · rcases hf with ⟨hg, hgl, hl0, hn0, hn1⟩
    rcases Nat.lt_or_ge (3 * g) b.length with hlt | hge
    · have ht : decide ((↑(3 * g) : Int) < (↑b.length : Int)) = true := by simp; omega
      refine Wp.go (mx := true) (fun _ => mixed) [] 100 [true] [decide ((↑(3 * g) : Int) < (↑b.length : Int)) = true] (by kernel_rfl) (by kernel_rfl) (by kernel_rfl) ht ?_
      refine Wp.loopK (by kernel_rfl) (enc1 b g (some (n, l))) (enc1F b g) (fun x => 3 - x.1) (0, 0, 0) (Ent.of [(40, 40)] (by kernel_rfl) (by kernel_rfl) (by kernel_rfl) trivial) ⟨Nat.zero_le _, rfl, rfl⟩ ?_
      rintro ⟨k, v, m⟩ L1 ⟨hk, hv, hm⟩ again
      have hm3 := n3_le b (3 * g) k
      have hv3 := v3_16 b (3 * g) k hk
      have hv4 := v3_16 b (3 * g) (k + 1)
      have hin := v3_in b (3 * g) k
      simp only [] at hk hv hm
      rw [← hv] at hv3 hin
      rw [← hm] at hm3
      rcases Nat.lt_or_ge k 3 with hk3 | hk3
      · have h3 : decide ((k : Int) < 3) = true := by simp; omega
        have hv5 := hv4 hk3
        clear hv4 ht
        have r1 : inR .i64 (v * 256) := inR64 (by omega) (by omega)
        have r2 : inR .i64 ((m : Int) + 1) := inR64 (by omega) (by omega)
        rcases Nat.lt_or_ge (3 * g + k) b.length with hc | hc
        · have hin := hin hc
          rw [← hin] at hv5
          have r3 : inR .i64 (v * 256 + IntKind.i64.wrap ((b.getD (((3 * g : Nat) : Int) + (k : Int)).toNat 0).toNat : Int)) := inR64 (by omega) (by omega)
          have hnx : enc1F b g (k + 1, v * 256 + IntKind.i64.wrap ((b.getD (((3 * g : Nat) : Int) + (k : Int)).toNat 0).toNat : Int), m + 1) := ⟨hk3, hin, by show m + 1 = _; rw [hm, n3, if_pos hc]⟩
          have hc2 : decide (((3 * g : Nat) : Int) + (k : Int) < (b.length : Int)) = true := by simp; omega
          refine Wp.go (mx := true) (fun _ => mixed) [] 100 [true, true] [decide ((↑k : Int) < (3 : Int)) = true, inR IntKind.i64 (v * (256 : Int)), inR IntKind.i64 ((↑((3 : Nat) * g) : Int) + (↑k : Int)), decide ((↑((3 : Nat) * g) : Int) + (↑k : Int) < (↑b.length : Int)) = true, inR IntKind.i64 ((↑((3 : Nat) * g) : Int) + (↑k : Int)), (0 : Int) ≤ (↑((3 : Nat) * g) : Int) + (↑k : Int) ∧ (↑((3 : Nat) * g) : Int) + (↑k : Int) < (↑b.length : Int), inR IntKind.i64 (v * (256 : Int) + IntKind.i64.wrap (↑(b.getD ((↑((3 : Nat) * g) : Int) + (↑k : Int)).toNat (0 : UInt8)).toNat : Int)), inR IntKind.i64 ((↑m : Int) + (1 : Int)), inR IntKind.i64 ((↑k : Int) + (1 : Int))] (by kernel_rfl) (by kernel_rfl) (by kernel_rfl) ⟨(by assumption), inR64 (by omega) (by omega), inR64 (by omega) (by omega), (by assumption), inR64 (by omega) (by omega), (by omega), inR64 (by omega) (by omega), inR64 (by omega) (by omega), inR64 (by omega) (by omega)⟩ ?_
          exact Wp.lpK (by kernel_rfl) (again _ (k + 1, v * 256 + IntKind.i64.wrap ((b.getD (((3 * g : Nat) : Int) + (k : Int)).toNat 0).toNat : Int), m + 1) (by assumption) (by omega) (Ent.of [] (by kernel_rfl) (by kernel_rfl) (by kernel_rfl) trivial))
        · clear hin
          have hnx : enc1F b g (k + 1, v * 256, m) := ⟨hk3, by show v * 256 = _; rw [hv, v3, if_neg (by omega)], by show m = _; rw [hm, n3, if_neg (by omega)]⟩
          have hc2 : decide (((3 * g : Nat) : Int) + (k : Int) < (b.length : Int)) = false := by simp; omega
          refine Wp.go (mx := true) (fun _ => mixed) [] 100 [true, false] [decide ((↑k : Int) < (3 : Int)) = true, inR IntKind.i64 (v * (256 : Int)), inR IntKind.i64 ((↑((3 : Nat) * g) : Int) + (↑k : Int)), decide ((↑((3 : Nat) * g) : Int) + (↑k : Int) < (↑b.length : Int)) = false, inR IntKind.i64 ((↑k : Int) + (1 : Int))] (by kernel_rfl) (by kernel_rfl) (by kernel_rfl) ⟨(by assumption), inR64 (by omega) (by omega), inR64 (by omega) (by omega), (by assumption), inR64 (by omega) (by omega)⟩ ?_
          exact Wp.lpK (by kernel_rfl) (again _ (k + 1, v * 256, m) (by assumption) (by omega) (Ent.of [] (by kernel_rfl) (by kernel_rfl) (by kernel_rfl) trivial))
      · obtain rfl : k = 3 := by omega
        have h3 : decide ((↑(3 : Nat) : Int) < 3) = false := rfl
        refine Wp.go (mx := true) (fun _ => mixed) [] 100 [false] [decide ((↑(3 : Nat) : Int) < (3 : Int)) = false] (by kernel_rfl) (by kernel_rfl) (by kernel_rfl) rfl ?_
        refine Wp.loopK (by kernel_rfl) (enc2 b g v m) (enc2F b g v m) (fun x => m + 1 - x.1) (0, some (n, l)) (Ent.of [(40, 40)] (by kernel_rfl) (by kernel_rfl) (by kernel_rfl) trivial) ⟨Nat.zero_le _, hl0.trans (List.append_nil _).symm, hn0, (by have := n3_le b (3 * g) 3; omega)⟩ ?_
        clear again
        rintro ⟨k, _ | ⟨n, l⟩⟩ L2 hf again
        · obtain ⟨rfl, h00⟩ := hf
          have h3 : decide ((↑(0 : Nat) : Int) ≤ (m : Int)) = true := by simp
          have hx := eqvD_of (congrArg (fun x => V1.c (.int .i64 x)) (six_is v 0 (by decide) hv3))
          have hs : 0 ≤ six v 0 ∧ six v 0 < ((64 : Nat) : Int) := by unfold six; omega
          have e1 := row_new ((([65, 66, 67, 68, 69, 70, 71, 72, 73, 74, 75, 76, 77, 78, 79, 80, 81, 82, 83, 84, 85, 86, 87, 88, 89, 90, 97, 98, 99, 100, 101, 102, 103, 104, 105, 106, 107, 108, 109, 110, 111, 112, 113, 114, 115, 116, 117, 118, 119, 120, 121, 122, 48, 49, 50, 51, 52, 53, 54, 55, 56, 57, 45, 95] : List UInt8).getD (six v 0).toNat 0).toNat : Int) (sgn6 v 0) rfl
          have hnx : enc2F b g v m (1, some (1, [sgn6 v 0])) := ⟨by omega, by first | rfl | omega, rfl, by omega⟩
          refine Wp.go (mx := true) (fun _ => mixed) [(15, {fm := [(6, .c (.int .i64 (six v 0)))], bs := [(9, Blk.row 5 1 1 (bytesF [sgn6 v 0]))]})] 100 [true] [decide ((↑(0 : Nat) : Int) ≤ (↑m : Int)) = true, inR IntKind.i64 ((6 : Int) * (↑(0 : Nat) : Int)), inR IntKind.i64 ((18 : Int) - (6 : Int) * (↑(0 : Nat) : Int)), (0 : Int) ≤ (18 : Int) - (6 : Int) * (↑(0 : Nat) : Int), EqvI (V1.c (Cell.int .i64 (bitsI .and .i64 (v.fdiv ((2 : Int) ^ (18 : Nat))) (63 : Int)))) (V1.c (Cell.int .i64 (six v (0 : Nat)))), EqvD (V1.c (Cell.int .i64 (bitsI .and .i64 (v.fdiv ((2 : Int) ^ (18 : Nat))) (63 : Int)))) (V1.c (Cell.int .i64 (six v (0 : Nat)))), (0 : Int) ≤ six v (0 : Nat) ∧ six v (0 : Nat) < (↑(64 : Nat) : Int), (1 : Nat) ≤ (140737488355328 : Nat), BlkEqv (Blk.row 5 (1 : Nat) (1 : Nat) (catF (0 : Nat) (fun (x x_1 : Nat) => Cell.nilif) fun (i j : Nat) => nthD [Cell.int .u8 (↑([(65 : UInt8), 66, 67, 68, 69, 70, 71, 72, 73, 74, 75, 76, 77, 78, 79, 80, 81, 82, 83, 84, 85, 86, 87, 88, 89, 90, 97, 98, 99, 100, 101, 102, 103, 104, 105, 106, 107, 108, 109, 110, 111, 112, 113, 114, 115, 116, 117, 118, 119, 120, 121, 122, 48, 49, 50, 51, 52, 53, 54, 55, 56, 57, 45, 95].getD (six v (0 : Nat)).toNat (0 : UInt8)).toNat : Int)] (((0 : Nat) + i) * (1 : Nat) + j))) (Blk.row 5 (1 : Nat) (1 : Nat) (bytesF [sgn6 v (0 : Nat)])), (0 : Nat) + (1 : Nat) ≤ (1 : Nat), inR IntKind.i64 ((↑(0 : Nat) : Int) + (1 : Int))] (by kernel_rfl) (by kernel_rfl) (by kernel_rfl) ⟨rfl, inR64 (by omega) (by omega), inR64 (by omega) (by omega), (by omega), fun _ _ => trivial, (by assumption), (by omega), (by omega), (by assumption), (by omega), inR64 (by omega) (by omega)⟩ ?_
          exact Wp.lpK (by kernel_rfl) (again _ (1, some (1, [sgn6 v 0])) (by assumption) (by omega) (Ent.of [(40, 992)] (by kernel_rfl) (by kernel_rfl) (by kernel_rfl) trivial))
        · obtain ⟨hk, hl1, hn, hb⟩ := hf
          rcases Nat.lt_or_ge m k with hk3 | hk3
          · obtain rfl : k = m + 1 := by omega
            have again := again0
            have hv' := hv
            have hm' := hm
            have hnx : encOF b (g + 1, some (n, l)) := ⟨by omega, by omega, by rw [hl1, hv', hm']; rfl, hn, by omega⟩
            clear hv hm hv' hm' hl1 hin
            refine Wp.go (mx := true) (fun _ => mixed) [] 100 [false] [decide ((↑(m + (1 : Nat)) : Int) ≤ (↑m : Int)) = false, inR IntKind.i64 ((↑((3 : Nat) * g) : Int) + (3 : Int))] (by kernel_rfl) (by kernel_rfl) (by kernel_rfl) ⟨(by simp; omega), inR64 (by omega) (by omega)⟩ ?_
            exact Wp.lpK (by kernel_rfl) (again _ (g + 1, some (n, l)) (by assumption) (by omega) (Ent.of [] (by kernel_rfl) (by kernel_rfl) (by kernel_rfl) trivial))
          · have hx := eqvD_of (congrArg (fun x => V1.c (.int .i64 x)) (six_is v k (by omega) hv3))
            have hs : 0 ≤ six v k ∧ six v k < ((64 : Nat) : Int) := by unfold six; omega
            have e1 : BlkEqv (.row 5 1 (n + 1) (catF n (bytesF l) (fun i j => nthD [.int .u8 ((([65, 66, 67, 68, 69, 70, 71, 72, 73, 74, 75, 76, 77, 78, 79, 80, 81, 82, 83, 84, 85, 86, 87, 88, 89, 90, 97, 98, 99, 100, 101, 102, 103, 104, 105, 106, 107, 108, 109, 110, 111, 112, 113, 114, 115, 116, 117, 118, 119, 120, 121, 122, 48, 49, 50, 51, 52, 53, 54, 55, 56, 57, 45, 95] : List UInt8).getD (six v k).toNat 0).toNat : Int)] ((0 + i) * 1 + j)))) (.row 5 1 (n + 1) (bytesF (l ++ [sgn6 v k]))) := bytes_app l [sgn6 v k] hn
            have hnx : enc2F b g v m (k + 1, some (n + 1, l ++ [sgn6 v k])) := ⟨by omega, by rw [hl1, List.append_assoc]; rfl, by simp [hn], by omega⟩
            clear hl1 hin
            refine Wp.go (mx := true) (fun _ => mixed) [(15, {fm := [(6, .c (.int .i64 (six v k)))], bs := [(9, Blk.row 5 1 (n + 1) (bytesF (l ++ [sgn6 v k])))]})] 100 [true] [decide ((↑k : Int) ≤ (↑m : Int)) = true, inR IntKind.i64 ((6 : Int) * (↑k : Int)), inR IntKind.i64 ((18 : Int) - (6 : Int) * (↑k : Int)), (0 : Int) ≤ (18 : Int) - (6 : Int) * (↑k : Int), EqvI (V1.c (Cell.int .i64 (bitsI .and .i64 (v.fdiv ((2 : Int) ^ min ((18 : Int) - (6 : Int) * (↑k : Int)).toNat IntKind.i64.bits)) (63 : Int)))) (V1.c (Cell.int .i64 (six v k))), EqvD (V1.c (Cell.int .i64 (bitsI .and .i64 (v.fdiv ((2 : Int) ^ min ((18 : Int) - (6 : Int) * (↑k : Int)).toNat IntKind.i64.bits)) (63 : Int)))) (V1.c (Cell.int .i64 (six v k))), (0 : Int) ≤ six v k ∧ six v k < (↑(64 : Nat) : Int), (n + (1 : Nat)) * (1 : Nat) ≤ (140737488355328 : Nat), BlkEqv (Blk.row 5 (1 : Nat) (n + (1 : Nat)) (catF n (bytesF l) fun (i j : Nat) => nthD [Cell.int .u8 (↑([(65 : UInt8), 66, 67, 68, 69, 70, 71, 72, 73, 74, 75, 76, 77, 78, 79, 80, 81, 82, 83, 84, 85, 86, 87, 88, 89, 90, 97, 98, 99, 100, 101, 102, 103, 104, 105, 106, 107, 108, 109, 110, 111, 112, 113, 114, 115, 116, 117, 118, 119, 120, 121, 122, 48, 49, 50, 51, 52, 53, 54, 55, 56, 57, 45, 95].getD (six v k).toNat (0 : UInt8)).toNat : Int)] (((0 : Nat) + i) * (1 : Nat) + j))) (Blk.row 5 (1 : Nat) (n + (1 : Nat)) (bytesF (l ++ [sgn6 v k]))), n ≤ n, (0 : Nat) + (1 : Nat) ≤ (1 : Nat), inR IntKind.i64 ((↑k : Int) + (1 : Int))] (by kernel_rfl) (by kernel_rfl) (by kernel_rfl) ⟨(by simp; omega), inR64 (by omega) (by omega), inR64 (by omega) (by omega), (by omega), fun _ _ => trivial, (by assumption), (by omega), (by omega), (by assumption), (by omega), (by omega), inR64 (by omega) (by omega)⟩ ?_
            exact Wp.lpK (by kernel_rfl) (again _ (k + 1, some (n + 1, l ++ [sgn6 v k])) (by assumption) (by omega) (Ent.of [(40, 992)] (by kernel_rfl) (by kernel_rfl) (by kernel_rfl) trivial))
    · clear again0
      refine Wp.go (mx := true) (fun _ => mixed) [] 100 [false] [decide ((↑((3 : Nat) * g) : Int) < (↑b.length : Int)) = false, (0 : Nat) + n ≤ n, areBytes (bytesF l) (0 : Nat) n] (by kernel_rfl) (by kernel_rfl) (by kernel_rfl) ⟨(by simp; omega), (by omega), areBytes_F _ _ _⟩ ?_
      refine Wp.ret' (by kernel_rfl) ?_
      exact FinQ.pure (rs' := [V1.c (Cell.str (byteL (bytesF l) (0 : Nat) n))]) (by kernel_rfl) (by rw [byteL_F l hn0, hl0, enc8, show g = (b.length + 2) / 3 by omega]) (by kernel_rfl)
end Go.Proofs.Tw
end

section
open Go Go.Sv
namespace Go.Proofs.Tw
attribute [local irreducible] Wp FinQ resV Ent Pur Go.Sv.Fn Sat0
set_option maxRecDepth 100000
set_option maxHeartbeats 4000000
variable {G : Nat → Option (List Cell)}

theorem putN_ok2 (k : Int) (h0 : 0 ≤ k) (h1 : k ≤ 1073741824) : FnB Tryz.prog G 113 [] [.agg (encN k)] [.c (.row 1 0 0 5)] [(0, .row 5 1 5 (bytesF (keyB k)))] := by
  refine Fn.of' Tryz.func113 (by kernel_rfl) (by kernel_rfl) (by kernel_rfl) (by kernel_rfl) trivial ?_
  have c1 := MayN_ok (G := G) k h0 h1
  have c2 := putN_ok (G := G) k
  refine Wp.go (mx := true) (fun _ => mixed) [(1, {cs := [(1, pc c1)]}), (3, {cs := [(1, cb [] c2)]})] 100 [false] [(!true) = false] (by kernel_rfl) (by kernel_rfl) (by kernel_rfl) rfl ?_
  refine Wp.ret' (by kernel_rfl) ?_
  exact FinQ.blk [96] (by kernel_rfl) (by kernel_rfl) (by kernel_rfl) (by kernel_rfl) (by kernel_rfl) trivial
def keyT (k : Int) : List UInt8 := [126] ++ enc8 (keyB k) ++ [126]
theorem keyText_ok (k : Int) (h0 : 0 ≤ k) (h1 : k ≤ 1073741824) : Pur Tryz.prog G 64 [.agg (encN k)] [.c (.str (keyT k))] := by
  refine Pur.of Tryz.func64 (by kernel_rfl) (by kernel_rfl) (by kernel_rfl) ?_
  have c1 := putN_ok2 (G := G) k h0 h1
  have c2 : Pur Tryz.prog G 114 [.c (.sl 1 5 (bytesF (keyB k)))] [.c (.str (enc8 (keyB k)))] := enc8_ok (keyB k) (show 5 ≤ 30000000000000 by omega)
  refine Wp.go (mx := true) (fun _ => mixed) [(1, {cs := [(1, cb [] c1)]}), (4, {cs := [(1, lc [48] [Blk.row 5 (1 : Nat) (5 : Nat) (bytesF (keyB k))] [V1.c (Cell.row (1 : Nat) (0 : Nat) (0 : Nat) (5 : Nat))] c2 (by kernel_rfl) (by kernel_rfl) (by kernel_rfl) (show (0 : Nat) + (5 : Nat) ≤ (5 : Nat) from (by omega)))]})] 100 [false] [((↑(5 : Nat) : Int) == (0 : Int)) = false, (8 : Nat) ≤ (9223372036854775807 : Nat), (9 : Nat) ≤ (9223372036854775807 : Nat)] (by kernel_rfl) (by kernel_rfl) (by kernel_rfl) ⟨rfl, (by omega), (show (9 : Nat) ≤ (9223372036854775807 : Nat) from (by omega))⟩ ?_
  refine Wp.ret' (by kernel_rfl) ?_
  exact FinQ.pure (rs' := [V1.c (Cell.str [(126 : UInt8), sgn6 (v3 (keyB k) ((3 : Nat) * 0) (3 : Nat)) (0), sgn6 (v3 (keyB k) ((3 : Nat) * 0) (3 : Nat)) (1), sgn6 (v3 (keyB k) ((3 : Nat) * 0) (3 : Nat)) (2), sgn6 (v3 (keyB k) ((3 : Nat) * 0) (3 : Nat)) (3), sgn6 (v3 (keyB k) ((3 : Nat) * 1) (3 : Nat)) (0), sgn6 (v3 (keyB k) ((3 : Nat) * 1) (3 : Nat)) (1), sgn6 (v3 (keyB k) ((3 : Nat) * 1) (3 : Nat)) (2), (126 : UInt8)])]) (by kernel_rfl) (by kernel_rfl) (by kernel_rfl)
theorem Key_ok (k : Int) (h0 : 0 ≤ k) (h1 : k ≤ 1073741824) : Pur Tryz.prog G 20 [.c (.int .i64 k)] [.c (.str (keyT k))] := by
  refine Pur.of Tryz.func20 (by kernel_rfl) (by kernel_rfl) (by kernel_rfl) ?_
  have c1 := keyText_ok (G := G) k h0 h1
  have c2 := N_ok (G := G) k
  refine Wp.go (mx := true) (fun _ => mixed) [(1, {cs := [(1, pc c2), (2, pc c1)]})] 100 [] [] (by kernel_rfl) (by kernel_rfl) (by kernel_rfl) trivial ?_
  refine Wp.ret' (by kernel_rfl) ?_
  exact FinQ.pure (rs' := [V1.c (Cell.str (keyT k))]) (by kernel_rfl) rfl (by kernel_rfl)
end Go.Proofs.Tw
end

section
open Go Go.Sv
namespace Go.Proofs.Tw
set_option maxRecDepth 100000
set_option maxHeartbeats 4000000

/-! what a tape brings is small -/
theorem pick_in (ss : List (List UInt8)) (ns : List Int) (a : Nat) (h : 0 < ss.length) : pickT ss ns a ∈ ss := by
  have h1 := nextV_rng ns a ss.length (by omega)
  unfold pickT
  rw [List.getD_eq_getElem?_getD, List.getElem?_eq_getElem (by omega)]
  exact List.getElem_mem _
theorem joinTail_le (c : UInt8) (B : Nat) : ∀ xs : List (List UInt8), (∀ x ∈ xs, x.length ≤ B) → (Lib.joinTail [c] xs).length ≤ xs.length * (B + 1)
  | [], _ => Nat.zero_le _
  | x :: r, h => by
    have ih := joinTail_le c B r (fun y hy => h y (List.mem_cons_of_mem _ hy))
    have hx := h x List.mem_cons_self
    unfold Lib.joinTail at ih ⊢
    rw [List.map_cons, List.flatten_cons, List.length_append, List.length_append, List.length_cons, List.length_cons, Nat.succ_mul]
    simp only [List.length_nil]
    omega
theorem join_le (c : UInt8) (B : Nat) (xs : List (List UInt8)) (h : ∀ x ∈ xs, x.length ≤ B) : (Lib.join xs [c]).length ≤ xs.length * (B + 1) := by
  cases xs with
  | nil => exact Nat.zero_le _
  | cons x r =>
    have ih := joinTail_le c B r (fun y hy => h y (List.mem_cons_of_mem _ hy))
    have hx := h x List.mem_cons_self
    rw [Lib.join_cons, List.length_append, List.length_cons, Nat.succ_mul]
    omega
structure Flat (v : JV) : Prop where
  h1 : v.names.length ≤ 3
  h2 : v.kids.length ≤ 3
  h3 : v.kind = 6 → v.kids.length ≤ v.names.length
  h4 : ∀ x ∈ v.names, x.length ≤ 2
  h5 : v.s.length ≤ 20
  h6 : -4611686018427387904 ≤ v.n
  h7 : v.n ≤ 4611686018427387904
  h8 : (Lib.itoa v.n).length ≤ 100
def Good : Nat → JV → Prop
  | 0, v => Flat v ∧ v.kids = []
  | n + 1, v => Flat v ∧ ∀ x ∈ v.kids, Good n x
theorem good_flat : ∀ {n : Nat} {v : JV}, Good n v → Flat v
  | 0, _, h => h.1
  | _ + 1, _, h => h.1
def lenB : Nat → Nat
  | 0 => 200
  | n + 1 => 3 * (lenB n + 20) + 2
theorem lenB_le : ∀ n, 200 ≤ lenB n
  | 0 => Nat.le_refl _
  | n + 1 => by have := lenB_le n; unfold lenB; omega
theorem print_le : ∀ (n : Nat) (v : JV), Good n v → (printJ v).length ≤ lenB n := by
  intro n v hg
  have hf := good_flat hg
  have h2 := lenB_le n
  have hq := quoted_len v.s
  have hs := hf.h5
  have h8 := hf.h8
  have hj : (Lib.join (parts v v.kids.length) [44]).length + 2 ≤ lenB n := by
    cases n with
    | zero => rw [hg.2]; show 2 ≤ 200; omega
    | succ n =>
      have hp : ∀ x ∈ parts v v.kids.length, x.length ≤ lenB n + 19 := by
        intro x hx
        obtain ⟨i, hi, rfl⟩ := List.mem_map.1 hx
        have hi := List.mem_range.1 hi
        have hk : v.kids.getD i .nil ∈ v.kids := by rw [List.getD_eq_getElem?_getD, List.getElem?_eq_getElem hi]; exact List.getElem_mem _
        have ih := print_le n _ (hg.2 _ hk)
        have hn : (v.names.getD i []).length ≤ 2 := by
          rcases Nat.lt_or_ge i v.names.length with h | h
          · exact hf.h4 _ (by rw [List.getD_eq_getElem?_getD, List.getElem?_eq_getElem h]; exact List.getElem_mem _)
          · rw [List.getD_eq_getElem?_getD, List.getElem?_eq_none h]; exact Nat.zero_le _
        have hq2 := quoted_len (v.names.getD i [])
        unfold partAt
        split
        · simp only [List.length_append, List.length_cons, List.length_nil]; omega
        · omega
      have hl := join_le 44 (lenB n + 19) _ hp
      have hc : (parts v v.kids.length).length = v.kids.length := by unfold parts; simp
      rw [hc] at hl
      have := Nat.mul_le_mul_right (lenB n + 19 + 1) hf.h2
      unfold lenB
      omega
  rw [printJ_eq]
  split
  · show 4 ≤ _; omega
  · split
    · cases v.b
      · show 5 ≤ _; omega
      · show 4 ≤ _; omega
    · split
      · omega
      · split
        · omega
        · split
          · simp only [List.length_append, List.length_cons, List.length_nil]; omega
          · simp only [List.length_append, List.length_cons, List.length_nil]; omega
theorem good_small : ∀ (n : Nat) (v : JV), Good n v → Small v
  | 0, v, h => .mk (by have := h.1.h1; omega) (by have := h.1.h2; omega) (by rw [h.2]; intro x hx; cases hx)
  | n + 1, v, h => .mk (by have := h.1.h1; omega) (by have := h.1.h2; omega) (fun x hx => good_small n x (h.2 x hx))
theorem good_short : ∀ (n : Nat) (v : JV), Good n v → Short v
  | 0, v, h => .mk (by have := h.1.h5; omega) (by have := h.1.h1; omega) (fun x hx => by have := h.1.h4 x hx; omega) (by have := h.1.h2; omega) (by rw [h.2]; intro x hx; cases hx)
  | n + 1, v, h => .mk (by have := h.1.h5; omega) (by have := h.1.h1; omega) (fun x hx => by have := h.1.h4 x hx; omega) (by have := h.1.h2; omega) (fun x hx => good_short n x (h.2 x hx))
theorem good_fit (B : Nat) : ∀ (n : Nat) (v : JV), n ≤ 9 → Good n v → Fit v := by
  have hb : ∀ n, n ≤ 9 → lenB n ≤ 140737488355328 := by decide
  intro n
  induction n with
  | zero => intro v hn h; exact .mk (by have := h.1.h2; omega) h.1.h3 h.1.h6 h.1.h7 (Nat.le_trans (print_le 0 v h) (hb 0 hn)) (by rw [h.2]; intro x hx; cases hx)
  | succ n ih => intro v hn h; exact .mk (by have := h.1.h2; omega) h.1.h3 h.1.h6 h.1.h7 (Nat.le_trans (print_le (n + 1) v h) (hb _ hn)) (fun x hx => ih x (by omega) (h.2 x hx))
theorem flat_leaf (ns : List Int) (k : Int) (a : Nat) : Flat (leafT ns k a).1 ∧ (leafT ns k a).1.kids = [] := by
  have hi : ∀ m : Nat, -4611686018427387904 ≤ ints8.getD m 0 ∧ ints8.getD m 0 ≤ 4611686018427387904 ∧ (Lib.itoa (ints8.getD m 0)).length ≤ 100 := by
    intro m
    rcases Nat.lt_or_ge m 8 with h | h
    · have : ∀ m : Nat, m < 8 → -4611686018427387904 ≤ ints8.getD m 0 ∧ ints8.getD m 0 ≤ 4611686018427387904 ∧ (Lib.itoa (ints8.getD m 0)).length ≤ 100 := by decide +kernel
      exact this m h
    · rw [List.getD_eq_getElem?_getD, List.getElem?_eq_none (by exact h)]; decide +kernel
  have h0 : (Lib.itoa 0).length ≤ 100 := by decide +kernel
  have mk : ∀ v : JV, v.names = [] → v.kids = [] → v.s.length ≤ 20 → v.n = 0 → Flat v ∧ v.kids = [] := fun v e1 e2 e3 e4 =>
    ⟨⟨by rw [e1]; exact Nat.zero_le _, by rw [e2]; exact Nat.zero_le _, fun _ => by rw [e2]; exact Nat.zero_le _, (by rw [e1]; intro x hx; cases hx), e3, by rw [e4]; decide, by rw [e4]; decide, by rw [e4]; exact h0⟩, e2⟩
  unfold leafT
  split
  · exact mk _ rfl rfl (Nat.zero_le _) rfl
  · split
    · exact mk _ rfl rfl (Nat.zero_le _) rfl
    · split
      · have := hi (nextV ns a 8).toNat
        exact ⟨⟨Nat.zero_le _, Nat.zero_le _, fun _ => Nat.le_refl _, (by intro x hx; cases hx), Nat.zero_le _, this.1, this.2.1, this.2.2⟩, rfl⟩
      · have hm := pick_in txt11 ns a (by decide)
        have hl : ∀ x ∈ txt11, x.length ≤ 20 := by decide
        exact mk _ rfl rfl (hl _ hm) rfl
theorem good_leaf (n : Nat) (ns : List Int) (k : Int) (a : Nat) : Good n (leafT ns k a).1 := by
  obtain ⟨h1, h2⟩ := flat_leaf ns k a
  cases n with
  | zero => exact ⟨h1, h2⟩
  | succ n => exact ⟨h1, by rw [h2]; intro x hx; cases hx⟩
theorem good_kids (n : Nat) (f : Nat → JV × Nat) (hf : ∀ a, Good n (f a).1) (ns : List Int) (obj : Bool) : ∀ (i a : Nat) (nm : List (List UInt8)) (ks : List JV),
    i + ks.length ≤ 3 → nm.length ≤ ks.length → (obj = true → nm.length = ks.length) → (∀ x ∈ nm, x.length ≤ 2) → (∀ x ∈ ks, Good n x) →
    (kidsT f ns obj i a nm ks).2.1.length ≤ 3 ∧ (kidsT f ns obj i a nm ks).1.length ≤ (kidsT f ns obj i a nm ks).2.1.length ∧ (obj = true → (kidsT f ns obj i a nm ks).1.length = (kidsT f ns obj i a nm ks).2.1.length) ∧ (∀ x ∈ (kidsT f ns obj i a nm ks).1, x.length ≤ 2) ∧ (∀ x ∈ (kidsT f ns obj i a nm ks).2.1, Good n x)
  | 0, a, nm, ks, h1, h2, h3, h4, h5 => ⟨by show ks.length ≤ 3; omega, h2, h3, h4, h5⟩
  | i + 1, a, nm, ks, h1, h2, h3, h4, h5 => by
    unfold kidsT
    have h5' : ∀ x ∈ ks ++ [(f (if obj then nextA ns a 4 else a)).1], Good n x := by
      intro x hx
      rcases List.mem_append.1 hx with hx | hx
      · exact h5 x hx
      · rcases List.mem_singleton.1 hx with rfl; exact hf _
    have hl : (ks ++ [(f (if obj then nextA ns a 4 else a)).1]).length = ks.length + 1 := by simp
    have hn4 : ∀ x ∈ nam4, x.length ≤ 1 := by decide
    cases obj with
    | true =>
      have hl2 : (nm ++ [pickT nam4 ns a ++ [UInt8.ofNat (48 + (i + 1))]]).length = nm.length + 1 := by simp
      refine good_kids n f hf ns true i _ _ _ (by rw [hl]; omega) ?_ (fun _ => ?_) ?_ h5'
      · rw [if_pos rfl, hl, hl2]; have := h3 rfl; omega
      · rw [if_pos rfl, hl, hl2, h3 rfl]
      · intro x hx
        rw [if_pos rfl] at hx
        rcases List.mem_append.1 hx with hx | hx
        · exact h4 x hx
        · rcases List.mem_singleton.1 hx with rfl
          have := hn4 _ (pick_mem4 ns a)
          rw [List.length_append]; simp only [List.length_cons, List.length_nil]; omega
    | false =>
      refine good_kids n f hf ns false i _ _ _ (by rw [hl]; omega) ?_ (fun h => by cases h) ?_ h5'
      · rw [hl]; show nm.length ≤ _; omega
      · exact h4
theorem good_val (ns : List Int) : ∀ n a, Good n (valT ns n a).1
  | 0, a => by rw [valT]; exact good_leaf 0 ns _ _
  | n + 1, a => by
    rw [valT]
    split
    · exact good_leaf (n + 1) ns _ _
    · have r4 := nextV_rng ns (nextA ns a 9) 4 (by decide)
      obtain ⟨h1, h2, h3, h4, h5⟩ := good_kids n (valT ns n) (good_val ns n) ns (decide (nextV ns a 9 > 6)) (nextV ns (nextA ns a 9) 4).toNat (nextA ns (nextA ns a 9) 4) [] []
        (by show _ + 0 ≤ 3; omega) (Nat.le_refl _) (fun _ => rfl) (by intro x hx; cases hx) (by intro x hx; cases hx)
      refine ⟨⟨Nat.le_trans h2 h1, h1, fun hk => ?_, h4, Nat.zero_le _, by show _ ≤ (0 : Int); decide, by show (0 : Int) ≤ _; decide, by show (Lib.itoa 0).length ≤ 100; decide +kernel⟩, h5⟩
      refine Nat.le_of_eq (h3 ?_).symm
      apply decide_eq_true
      apply Classical.byContradiction
      intro hc
      have hk : (if nextV ns a 9 > 6 then (6 : Int) else 5) = 6 := hk
      rw [if_neg hc] at hk
      cases hk
theorem fields_small (ns : List Int) : ∀ (k a : Nat) (l : List FT), (∀ f ∈ l, f.name.length ≤ 20 ∧ f.value.length ≤ 20) → (fldsN ns k a l).length ≤ l.length + k ∧ ∀ f ∈ fldsN ns k a l, f.name.length ≤ 20 ∧ f.value.length ≤ 20
  | 0, a, l, h => ⟨Nat.le_refl _, h⟩
  | k + 1, a, l, h => by
    unfold fldsN
    split
    · split
      · have := fields_small ns k (nextA ns (nextA ns a 9) 8) l h
        exact ⟨by omega, this.2⟩
      · have h1 : ∀ x ∈ names10, x.length ≤ 20 := by decide
        have h2 : ∀ x ∈ vals10, x.length ≤ 20 := by decide
        have := fields_small ns k (nextA ns (nextA ns a 9) 8) (l ++ [⟨pickT names10 ns a, pickT vals10 ns (nextA ns a 9)⟩]) (by
          intro f hf
          rcases List.mem_append.1 hf with hf | hf
          · exact h f hf
          · rcases List.mem_singleton.1 hf with rfl
            exact ⟨h1 _ (pick_in names10 ns a (by decide)), h2 _ (pick_in vals10 ns _ (by decide))⟩)
        rw [List.length_append] at this
        exact ⟨by have := this.1; simp only [List.length_cons, List.length_nil] at this; omega, this.2⟩
    · exact ⟨by omega, h⟩
theorem pctT_le (form : Bool) (s : List UInt8) : (pctT form s).length ≤ 3 * s.length := by
  have h := pctN_len form s s.length (Nat.le_refl _)
  rw [pctN_end] at h
  exact h.2
theorem query_small (l : List FT) (n : Nat) (hn : l.length ≤ n) (h : ∀ f ∈ l, f.name.length ≤ 20 ∧ f.value.length ≤ 20) : (printQ l).length ≤ n * 122 := by
  unfold printQ
  have := join_le 38 121 (l.map fieldQ) (by
    intro x hx
    obtain ⟨f, hf, rfl⟩ := List.mem_map.1 hx
    have := h f hf
    have a := pctT_le true f.name
    have b := pctT_le true f.value
    unfold fieldQ
    simp only [List.length_append, List.length_cons, List.length_nil]
    omega)
  rw [List.length_map] at this
  have := Nat.mul_le_mul_right 122 hn
  omega
theorem uri_fit (ns : List Int) : FitU (uriT ns) := by
  have r := nextV_rng ns (nextA ns (nextA ns 0 7) 6) 6 (by decide)
  have h1 : ∀ x ∈ hostsU, x.length ≤ 20 := by decide
  have h2 : ∀ x ∈ pathsU, x.length ≤ 20 := by decide
  have a := h1 _ (pick_in hostsU ns 0 (by decide))
  have b := h2 _ (pick_in pathsU ns (nextA ns 0 7) (by decide))
  have c := fields_small ns (nextV ns (nextA ns (nextA ns 0 7) 6) 6).toNat 0 [] (by intro f hf; cases hf)
  have d : (fldsN ns (nextV ns (nextA ns (nextA ns 0 7) 6) 6).toNat 0 []).length ≤ 6 := by have := c.1; simp only [List.length_nil] at this; omega
  have e := query_small _ 6 d c.2
  exact ⟨by show (pickT hostsU ns 0).length ≤ _; omega, by show (pickT pathsU ns (nextA ns 0 7)).length ≤ _; omega, by show (fldsN ns _ 0 []).length < _; omega, by show (printQ (fldsN ns _ 0 [])).length ≤ _; omega⟩
end Go.Proofs.Tw
end

section
open Go Go.Sv
namespace Go.Proofs.Tw
attribute [local irreducible] Wp FinQ resV Ent Pur Go.Sv.Fn Sat0
set_option maxRecDepth 100000

def withinT (a n : Int) : Int := if decide (a.tmod n < 0) then a.tmod n + n else a.tmod n
theorem within_ok {G : Nat → Option (List Cell)} (a n : Int) (hn : 0 < n) (hn2 : n < 1000000) : Pur Tryz.prog G 19 [.c (.int .i64 a), .c (.int .i64 n)] [.c (.int .i64 (withinT a n))] := by
  have h1 := Int.lt_tmod_of_pos a hn
  have h2 := Int.tmod_lt_of_pos a hn
  refine Pur.of Tryz.func19 (by kernel_rfl) (by kernel_rfl) (by kernel_rfl) ?_
  refine Wp.go (mx := true) (fun _ => mixed) [] 100 [] [n ≠ 0] (by kernel_rfl) (by kernel_rfl) (by kernel_rfl) (by show n ≠ 0; omega) ?_
  refine Wp.cond' (by kernel_rfl) (decide (a.tmod n < 0)) (by kernel_rfl) (fun h => ?_) (fun h => ?_)
  · refine Wp.go (mx := true) (fun _ => mixed) [] 100 [] [inR .i64 (a.tmod n + n)] (by kernel_rfl) (by kernel_rfl) (by kernel_rfl) (inR64 (by omega) (by omega)) ?_
    refine Wp.ret' (by kernel_rfl) ?_
    exact FinQ.pure (rs' := [.c (.int .i64 (a.tmod n + n))]) (by kernel_rfl) (by unfold withinT; rw [if_pos h]) (by kernel_rfl)
  · refine Wp.go (mx := true) (fun _ => mixed) [] 100 [] [] (by kernel_rfl) (by kernel_rfl) (by kernel_rfl) trivial ?_
    refine Wp.ret' (by kernel_rfl) ?_
    exact FinQ.pure (rs' := [.c (.int .i64 (a.tmod n))]) (by kernel_rfl) (by unfold withinT; rw [if_neg (by simp [h])]) (by kernel_rfl)

def objE : JV := objJ [] []
theorem e_small : Small objE := .mk (by show 0 < _; omega) (by show 0 < _; omega) (by intro x hx; cases hx)
theorem e_print : printJ objE = [123, 125] := by rw [printJ_eq]; rfl
theorem e_fit : Fit objE := .mk (by show 0 ≤ _; omega) (by intro h; exact Nat.le_refl _) (by show _ ≤ (0 : Int); omega) (by show (0 : Int) ≤ _; omega) (by rw [e_print]; decide) (by intro x hx; cases hx)
def rawO : List Cell := [.int .i64 6, .bool false, .int .i64 0, .str [], .nilsl, .nilsl]
def knownB : Bool := cond (cond (cond (cond (cond (wordT 13 == [105, 110, 118, 97, 108, 105, 100, 95, 103, 114, 97, 110, 116]) (statT 16 == 503) false) ((failT 13).status == 400) false) ((failT 13).body == [123, 34, 101, 114, 114, 111, 114, 34, 58, 34, 105, 110, 118, 97, 108, 105, 100, 95, 103, 114, 97, 110, 116, 34, 125]) false) ((jsonT objE).body == [123, 125]) false) ((docJ [97, 115]).kind == 6) false
theorem known_true : knownB = true := by kernel_rfl
theorem known_ok : Pur Tryz.prog Gd 9 [] [.c (.bool true)] := by
  have q : EqvD (.agg rawO) (.agg (encJ objE)) := agg_eqv (.cons CEq.rfl' (.cons CEq.rfl' (.cons CEq.rfl' (.cons CEq.rfl' (.cons CEq.nil (.cons CEq.nil .nil))))))
  refine Pur.of Tryz.func9 (by kernel_rfl) (by kernel_rfl) (by kernel_rfl) ?_
  refine Wp.go (mx := true) (fun _ => mixed) [(1, {cs := [(0, pc (Fail_ok 13))]}), (2, {fm := [(17, .agg (encJ objE))], cs := [(0, pc (Word_ok 13)), (3, pc (Status_ok 16)), (18, pc (Json_ok e_small (fun _ => e_fit))), (23, pc (Doc_ok [97, 115] (by decide)))]})] 100 [] [EqvI (.agg rawO) (.agg (encJ objE)), (cond (cond (cond (wordT 13 == [105, 110, 118, 97, 108, 105, 100, 95, 103, 114, 97, 110, 116]) (statT 16 == 503) false) ((failT 13).status == 400) false) ((failT 13).body == [123, 34, 101, 114, 114, 111, 114, 34, 58, 34, 105, 110, 118, 97, 108, 105, 100, 95, 103, 114, 97, 110, 116, 34, 125]) false) = true → EqvD (.agg rawO) (.agg (encJ objE))] (by kernel_rfl) (by kernel_rfl) (by kernel_rfl) ⟨EqvI.flatA rfl, fun _ => q⟩ ?_
  refine Wp.ret' (by kernel_rfl) ?_
  exact FinQ.pure (rs' := [.c (.bool knownB)]) (by kernel_rfl) (by rw [known_true]) (by kernel_rfl)

def eAt (n : Int) (k : Nat) : Int := [n, withinT n 24].getD k 0
def rawE (n : Int) : Nat → Nat → Cell := fun i j => nthD [.int .i64 n, .int .i64 (withinT n 24)] (i * 1 + j)
theorem rawE_eq (n : Int) : ∀ k : Nat, k < 2 → rawE n k 0 = .int .i64 (eAt n k) := by
  intro k hk
  obtain rfl | rfl : k = 0 ∨ k = 1 := by omega
  all_goals rfl
def lawInv (n : Int) (k : Nat) : St := ⟨[(3, .v (.c (.row 1 0 0 2))), (4, .v (.c (.int .i64 (k : Int))))], [(0, .row 35 1 2 (fun i _ => .int .i64 (eAt n i)))], 16⟩
end Go.Proofs.Tw
end

section
open Go Go.Sv
namespace Go.Proofs.Tw
attribute [local irreducible] Wp FinQ resV Ent Pur Go.Sv.Fn Sat0
set_option maxRecDepth 100000
set_option maxHeartbeats 4000000

theorem withinT_rng (a n : Int) (hn : 0 < n) : 0 ≤ withinT a n ∧ withinT a n < n := by
  have h1 := Int.tmod_lt_of_pos a hn
  have h2 := Int.lt_tmod_of_pos a hn
  unfold withinT
  split
  · rename_i h; have h := of_decide_eq_true h; omega
  · rename_i h; have : ¬ a.tmod n < 0 := fun hc => h (decide_eq_true hc)
    omega
theorem keyT_len (k : Int) : (keyT k).length = 9 := (by kernel_rfl)
theorem doc_small (name : List UInt8) : Small (docJ name) := by
  have leaf : ∀ v : JV, v.names = [] → v.kids = [] → Small v := fun v h1 h2 => .mk (by rw [h1]; show 0 < _; omega) (by rw [h2]; show 0 < _; omega) (by rw [h2]; intro x hx; cases hx)
  refine .mk (by show 9 < _; omega) (by show 9 < _; omega) fun x (hx : x ∈ docKs name) => ?_
  simp only [docKs, List.mem_cons, List.not_mem_nil, or_false] at hx
  rcases hx with rfl | rfl | rfl | rfl | rfl | rfl | rfl | rfl | rfl
  case inr.inr.inr.inr.inr.inr.inr.inr =>
    refine .mk (by show 0 < _; omega) (by show 1 < _; omega) fun x hx => ?_
    obtain rfl : x = textJ [83, 50, 53, 54] := List.mem_singleton.1 hx
    exact leaf _ rfl rfl
  all_goals exact leaf _ rfl rfl
theorem all_ok (ns : List Int) (name door : List UInt8) (age : Int) (hl : ns.length ≤ 9223372036854775807) : Pur Tryz.prog Gp 4 [.c (.sl 1 ns.length (intsF ns)), .c (.str name), .c (.str door), .c (.int .i64 age)] [.c (.bool true)] := by
  refine Pur.of Tryz.func4 (by kernel_rfl) (by kernel_rfl) (by kernel_rfl) ?_
  have k0 := Tw.Pur.grow Gd_Gp known_ok
  rcases Nat.lt_or_ge 300 name.length with hn | hn
  · have ht : (bif decide ((name.length : Int) > 300) then true else decide ((door.length : Int) > 300)) = true := by simp; omega
    refine Wp.go (mx := true) (fun _ => mixed) [(1, {cs := [(0, pc k0)]})] 100 [false, true] [(!true) = false, (bif decide ((↑name.length : Int) > (300 : Int)) then true else decide ((↑door.length : Int) > (300 : Int))) = true] (by kernel_rfl) (by kernel_rfl) (by kernel_rfl) ⟨rfl, (show (bif decide ((↑name.length : Int) > (300 : Int)) then true else decide ((↑door.length : Int) > (300 : Int))) = true from (by assumption))⟩ ?_
    refine Wp.ret' (by kernel_rfl) ?_
    exact FinQ.pure (rs' := [V1.c (Cell.bool true)]) (by kernel_rfl) rfl (by kernel_rfl)
  rcases Nat.lt_or_ge 300 door.length with hd | hd
  · have ht : (bif decide ((name.length : Int) > 300) then true else decide ((door.length : Int) > 300)) = true := by simp; omega
    refine Wp.go (mx := true) (fun _ => mixed) [(1, {cs := [(0, pc k0)]})] 100 [false, true] [(!true) = false, (bif decide ((↑name.length : Int) > (300 : Int)) then true else decide ((↑door.length : Int) > (300 : Int))) = true] (by kernel_rfl) (by kernel_rfl) (by kernel_rfl) ⟨rfl, (show (bif decide ((↑name.length : Int) > (300 : Int)) then true else decide ((↑door.length : Int) > (300 : Int))) = true from (by assumption))⟩ ?_
    refine Wp.ret' (by kernel_rfl) ?_
    exact FinQ.pure (rs' := [V1.c (Cell.bool true)]) (by kernel_rfl) rfl (by kernel_rfl)
  have ht : (bif decide ((name.length : Int) > 300) then true else decide ((door.length : Int) > 300)) = false := by simp; omega
  have hG := good_val ns 3 0
  have k1 := val_ok (G := Gp) ns hl 3 (by omega) 0
  generalize hv : valT ns 3 0 = va at hG k1
  obtain ⟨v, a⟩ := va
  simp only at hG k1
  have sv := good_small 3 v hG
  have hv := good_short 3 v hG
  have fv := good_fit 0 3 v (by omega) hG
  have k2 := uri_ok (G := Gp) ns hl
  have fu := uri_fit ns
  generalize uriT ns = u at k2 fu
  have k3 := within_ok (G := Gp) age 2000 (by omega) (by omega)
  have k4 := within_ok (G := Gp) age 500 (by omega) (by omega)
  have r4 := withinT_rng age 500 (by omega)
  generalize withinT age 500 = w5 at k4 r4
  generalize withinT age 2000 = w2 at k3
  have k5 := Key_ok (G := Gp) w5 r4.1 (by omega)
  have k6 := Json24_ok (G := Gp) hv (fun _ => fv)
  have k7 := next_ok (G := Gp) ns a 2 hl (by decide)
  have k8 := go24_ok (G := Gp) u fu
  have k9 := S_ok (G := Gp) name
  have k10 := S_ok (G := Gp) door
  have k11 := May12_ok (G := Gp) (text_short name (by omega))
  have k12 := May12_ok (G := Gp) (text_short door (by omega))
  have k13 := Tw.Pur.grow Gd_Gp (Json_ok sv (fun _ => fv))
  have k14 := go_ok u fu
  have k15 := Tw.Pur.grow Gd_Gp (page_ok name door hn hd)
  have k16 := page24_ok (G := Gp) name door hn hd
  have k17 := host11_ok (G := Gp) name (by omega)
  have k18 := Doc_ok (G := Gp) name (by omega)
  have k19 := doc24_ok (G := Gp) name (by omega)
  have k20 := Doc_ok (G := Gp) [97, 115] (by decide)
  have k21 := doc24_ok (G := Gp) [97, 115] (by decide)
  have k22 := sameJ_ok (G := Gp) (doc_small name)
  have k23 := sameJ_ok (G := Gp) (doc_small [97, 115])
  have same : ∀ t : RT, t.head.length < 1000 → Pur Tryz.prog Gp 25 [.agg (encT t), .agg (encT t)] [.c (.bool true)] := by
    intro t ht
    have := sameT_ok (G := Gp) t t (by omega)
    rwa [sameT_refl] at this
  have k24 := same (jsonT v) (show 2 < 1000 by omega)
  have k25 := same (goT u) (show 2 < 1000 by omega)
  have k26 := same (pageT name door) (show 2 < 1000 by omega)
  have hkt : (keyT w5).length < 1000000 := by rw [keyT_len]; decide
  generalize hkx : keyT w5 = kt at k5 hkt
  have w1 := fun (t : RT) (h : t.head.length = 2) => with_ok t kt w2 (by omega) hkt
  have w2' := fun (t : RT) (h : t.head.length = 2) => with24_ok (G := Gp) t kt w2 (by omega) hkt
  have same3 : ∀ t : RT, t.head.length = 2 → Pur Tryz.prog Gp 25 [.agg (encT (withT2 t kt w2)), .agg (encT (withT2 t kt w2))] [.c (.bool true)] := fun t h => same _ (by unfold withT2; simp [h])
  cases hgo : (nextV ns a 2 == 1) with
  | true =>
    have k27 := w1 (goT u) rfl
    have k28 := w2' (goT u) rfl
    have k29 := same3 (goT u) rfl
    cases hh : hostT name with
    | true =>
      rw [hh] at k17
      cases hm1 : mayJ (textJ name) 0 with
      | true =>
        rw [hm1] at k11
        cases hm2 : mayJ (textJ door) 0 with
        | true =>
          rw [hm2] at k12
          clear hh hm1 hm2 hG sv hv fv fu same same3 w1 w2' hkx r4
          refine Wp.go (mx := true) (fun _ => mixed) [(1, {cs := [(0, pc k0)]}), (6, {cs := [(1, cb [208] k1), (3, pc k2)]}), (7, {cs := [(1, pc k3), (3, pc k4), (4, pc k5)]}), (8, {cs := [(1, pc k6)]}), (9, {cs := [(1, cb [208] k7)]}), (10, {cs := [(1, pc k8)]}), (11, {cs := [(1, pc k9), (2, pc k11), (5, pc k10), (6, pc k12)]}), (12, {cs := [(1, pc k13), (3, pc k6), (4, pc k24), (7, pc k14), (9, pc k8), (10, pc k25), (16, pc k27), (20, pc k28), (21, pc k29), (29, pc k15), (32, pc k16), (33, pc k26), (38, pc k17), (42, pc k18), (44, pc k19), (45, pc k22), (49, pc k20), (50, pc k21), (51, pc k23)]})] 100 [false, false, true] [(!true) = false, (bif decide ((↑name.length : Int) > (300 : Int)) then true else decide ((↑door.length : Int) > (300 : Int))) = false, (nextV ns a (2 : Int) == (1 : Int)) = true] (by kernel_rfl) (by kernel_rfl) (by kernel_rfl) ⟨rfl, (by assumption), (show (nextV ns a (2 : Int) == (1 : Int)) = true from (by assumption))⟩ ?_
          refine Wp.ret' (by kernel_rfl) ?_
          exact FinQ.pure (rs' := [V1.c (Cell.bool (bif bif bif bif bif true then true else false then true else false then bif !bif true then true else false then true else true else false then bif !true then true else true else false then true else false))]) (by kernel_rfl) rfl (by kernel_rfl)
        | false =>
          rw [hm2] at k12
          clear hh hm1 hm2 hG sv hv fv fu same same3 w1 w2' hkx r4
          refine Wp.go (mx := true) (fun _ => mixed) [(1, {cs := [(0, pc k0)]}), (6, {cs := [(1, cb [208] k1), (3, pc k2)]}), (7, {cs := [(1, pc k3), (3, pc k4), (4, pc k5)]}), (8, {cs := [(1, pc k6)]}), (9, {cs := [(1, cb [208] k7)]}), (10, {cs := [(1, pc k8)]}), (11, {cs := [(1, pc k9), (2, pc k11), (5, pc k10), (6, pc k12)]}), (12, {cs := [(1, pc k13), (3, pc k6), (4, pc k24), (7, pc k14), (9, pc k8), (10, pc k25), (16, pc k27), (20, pc k28), (21, pc k29), (29, pc k15), (32, pc k16), (33, pc k26), (38, pc k17), (42, pc k18), (44, pc k19), (45, pc k22), (49, pc k20), (50, pc k21), (51, pc k23)]})] 100 [false, false, true] [(!true) = false, (bif decide ((↑name.length : Int) > (300 : Int)) then true else decide ((↑door.length : Int) > (300 : Int))) = false, (nextV ns a (2 : Int) == (1 : Int)) = true] (by kernel_rfl) (by kernel_rfl) (by kernel_rfl) ⟨rfl, (by assumption), (show (nextV ns a (2 : Int) == (1 : Int)) = true from (by assumption))⟩ ?_
          refine Wp.ret' (by kernel_rfl) ?_
          exact FinQ.pure (rs' := [V1.c (Cell.bool (bif bif bif bif bif true then true else false then true else false then bif !bif true then false else false then true else true else false then bif !true then true else true else false then true else false))]) (by kernel_rfl) rfl (by kernel_rfl)
      | false =>
        rw [hm1] at k11
        clear hh hm1 hG sv hv fv fu same same3 w1 w2' hkx r4
        refine Wp.go (mx := true) (fun _ => mixed) [(1, {cs := [(0, pc k0)]}), (6, {cs := [(1, cb [208] k1), (3, pc k2)]}), (7, {cs := [(1, pc k3), (3, pc k4), (4, pc k5)]}), (8, {cs := [(1, pc k6)]}), (9, {cs := [(1, cb [208] k7)]}), (10, {cs := [(1, pc k8)]}), (11, {cs := [(1, pc k9), (2, pc k11), (5, pc k10), (6, pc k12)]}), (12, {cs := [(1, pc k13), (3, pc k6), (4, pc k24), (7, pc k14), (9, pc k8), (10, pc k25), (16, pc k27), (20, pc k28), (21, pc k29), (29, pc k15), (32, pc k16), (33, pc k26), (38, pc k17), (42, pc k18), (44, pc k19), (45, pc k22), (49, pc k20), (50, pc k21), (51, pc k23)]})] 100 [false, false, true] [(!true) = false, (bif decide ((↑name.length : Int) > (300 : Int)) then true else decide ((↑door.length : Int) > (300 : Int))) = false, (nextV ns a (2 : Int) == (1 : Int)) = true] (by kernel_rfl) (by kernel_rfl) (by kernel_rfl) ⟨rfl, (by assumption), (show (nextV ns a (2 : Int) == (1 : Int)) = true from (by assumption))⟩ ?_
        refine Wp.ret' (by kernel_rfl) ?_
        exact FinQ.pure (rs' := [V1.c (Cell.bool (bif bif bif bif bif true then true else false then true else false then bif !bif false then mayJ (textJ door) (0 : Int) else false then true else true else false then bif !true then true else true else false then true else false))]) (by kernel_rfl) rfl (by kernel_rfl)
    | false =>
      rw [hh] at k17
      cases hm1 : mayJ (textJ name) 0 with
      | true =>
        rw [hm1] at k11
        cases hm2 : mayJ (textJ door) 0 with
        | true =>
          rw [hm2] at k12
          clear hh hm1 hm2 hG sv hv fv fu same same3 w1 w2' hkx r4
          refine Wp.go (mx := true) (fun _ => mixed) [(1, {cs := [(0, pc k0)]}), (6, {cs := [(1, cb [208] k1), (3, pc k2)]}), (7, {cs := [(1, pc k3), (3, pc k4), (4, pc k5)]}), (8, {cs := [(1, pc k6)]}), (9, {cs := [(1, cb [208] k7)]}), (10, {cs := [(1, pc k8)]}), (11, {cs := [(1, pc k9), (2, pc k11), (5, pc k10), (6, pc k12)]}), (12, {cs := [(1, pc k13), (3, pc k6), (4, pc k24), (7, pc k14), (9, pc k8), (10, pc k25), (16, pc k27), (20, pc k28), (21, pc k29), (29, pc k15), (32, pc k16), (33, pc k26), (38, pc k17), (42, pc k18), (44, pc k19), (45, pc k22), (49, pc k20), (50, pc k21), (51, pc k23)]})] 100 [false, false, true] [(!true) = false, (bif decide ((↑name.length : Int) > (300 : Int)) then true else decide ((↑door.length : Int) > (300 : Int))) = false, (nextV ns a (2 : Int) == (1 : Int)) = true] (by kernel_rfl) (by kernel_rfl) (by kernel_rfl) ⟨rfl, (by assumption), (show (nextV ns a (2 : Int) == (1 : Int)) = true from (by assumption))⟩ ?_
          refine Wp.ret' (by kernel_rfl) ?_
          exact FinQ.pure (rs' := [V1.c (Cell.bool (bif bif bif bif bif true then true else false then true else false then bif !bif true then true else false then true else true else false then bif !false then true else true else false then true else false))]) (by kernel_rfl) rfl (by kernel_rfl)
        | false =>
          rw [hm2] at k12
          clear hh hm1 hm2 hG sv hv fv fu same same3 w1 w2' hkx r4
          refine Wp.go (mx := true) (fun _ => mixed) [(1, {cs := [(0, pc k0)]}), (6, {cs := [(1, cb [208] k1), (3, pc k2)]}), (7, {cs := [(1, pc k3), (3, pc k4), (4, pc k5)]}), (8, {cs := [(1, pc k6)]}), (9, {cs := [(1, cb [208] k7)]}), (10, {cs := [(1, pc k8)]}), (11, {cs := [(1, pc k9), (2, pc k11), (5, pc k10), (6, pc k12)]}), (12, {cs := [(1, pc k13), (3, pc k6), (4, pc k24), (7, pc k14), (9, pc k8), (10, pc k25), (16, pc k27), (20, pc k28), (21, pc k29), (29, pc k15), (32, pc k16), (33, pc k26), (38, pc k17), (42, pc k18), (44, pc k19), (45, pc k22), (49, pc k20), (50, pc k21), (51, pc k23)]})] 100 [false, false, true] [(!true) = false, (bif decide ((↑name.length : Int) > (300 : Int)) then true else decide ((↑door.length : Int) > (300 : Int))) = false, (nextV ns a (2 : Int) == (1 : Int)) = true] (by kernel_rfl) (by kernel_rfl) (by kernel_rfl) ⟨rfl, (by assumption), (show (nextV ns a (2 : Int) == (1 : Int)) = true from (by assumption))⟩ ?_
          refine Wp.ret' (by kernel_rfl) ?_
          exact FinQ.pure (rs' := [V1.c (Cell.bool (bif bif bif bif bif true then true else false then true else false then bif !bif true then false else false then true else true else false then bif !false then true else true else false then true else false))]) (by kernel_rfl) rfl (by kernel_rfl)
      | false =>
        rw [hm1] at k11
        clear hh hm1 hG sv hv fv fu same same3 w1 w2' hkx r4
        refine Wp.go (mx := true) (fun _ => mixed) [(1, {cs := [(0, pc k0)]}), (6, {cs := [(1, cb [208] k1), (3, pc k2)]}), (7, {cs := [(1, pc k3), (3, pc k4), (4, pc k5)]}), (8, {cs := [(1, pc k6)]}), (9, {cs := [(1, cb [208] k7)]}), (10, {cs := [(1, pc k8)]}), (11, {cs := [(1, pc k9), (2, pc k11), (5, pc k10), (6, pc k12)]}), (12, {cs := [(1, pc k13), (3, pc k6), (4, pc k24), (7, pc k14), (9, pc k8), (10, pc k25), (16, pc k27), (20, pc k28), (21, pc k29), (29, pc k15), (32, pc k16), (33, pc k26), (38, pc k17), (42, pc k18), (44, pc k19), (45, pc k22), (49, pc k20), (50, pc k21), (51, pc k23)]})] 100 [false, false, true] [(!true) = false, (bif decide ((↑name.length : Int) > (300 : Int)) then true else decide ((↑door.length : Int) > (300 : Int))) = false, (nextV ns a (2 : Int) == (1 : Int)) = true] (by kernel_rfl) (by kernel_rfl) (by kernel_rfl) ⟨rfl, (by assumption), (show (nextV ns a (2 : Int) == (1 : Int)) = true from (by assumption))⟩ ?_
        refine Wp.ret' (by kernel_rfl) ?_
        exact FinQ.pure (rs' := [V1.c (Cell.bool (bif bif bif bif bif true then true else false then true else false then bif !bif false then mayJ (textJ door) (0 : Int) else false then true else true else false then bif !false then true else true else false then true else false))]) (by kernel_rfl) rfl (by kernel_rfl)
  | false =>
    have k27 := w1 (jsonT v) rfl
    have k28 := w2' (jsonT v) rfl
    have k29 := same3 (jsonT v) rfl
    cases hh : hostT name with
    | true =>
      rw [hh] at k17
      cases hm1 : mayJ (textJ name) 0 with
      | true =>
        rw [hm1] at k11
        cases hm2 : mayJ (textJ door) 0 with
        | true =>
          rw [hm2] at k12
          clear hh hm1 hm2 hG sv hv fv fu same same3 w1 w2' hkx r4
          refine Wp.go (mx := true) (fun _ => mixed) [(1, {cs := [(0, pc k0)]}), (6, {cs := [(1, cb [208] k1), (3, pc k2)]}), (7, {cs := [(1, pc k3), (3, pc k4), (4, pc k5)]}), (8, {cs := [(1, pc k6)]}), (9, {cs := [(1, cb [208] k7)]}), (11, {cs := [(1, pc k9), (2, pc k11), (5, pc k10), (6, pc k12)]}), (12, {cs := [(1, pc k13), (3, pc k6), (4, pc k24), (7, pc k14), (9, pc k8), (10, pc k25), (16, pc k27), (20, pc k28), (21, pc k29), (29, pc k15), (32, pc k16), (33, pc k26), (38, pc k17), (42, pc k18), (44, pc k19), (45, pc k22), (49, pc k20), (50, pc k21), (51, pc k23)]})] 100 [false, false, false] [(!true) = false, (bif decide ((↑name.length : Int) > (300 : Int)) then true else decide ((↑door.length : Int) > (300 : Int))) = false, (nextV ns a (2 : Int) == (1 : Int)) = false] (by kernel_rfl) (by kernel_rfl) (by kernel_rfl) ⟨rfl, (by assumption), (show (nextV ns a (2 : Int) == (1 : Int)) = false from (by assumption))⟩ ?_
          refine Wp.ret' (by kernel_rfl) ?_
          exact FinQ.pure (rs' := [V1.c (Cell.bool (bif bif bif bif bif true then true else false then true else false then bif !bif true then true else false then true else true else false then bif !true then true else true else false then true else false))]) (by kernel_rfl) rfl (by kernel_rfl)
        | false =>
          rw [hm2] at k12
          clear hh hm1 hm2 hG sv hv fv fu same same3 w1 w2' hkx r4
          refine Wp.go (mx := true) (fun _ => mixed) [(1, {cs := [(0, pc k0)]}), (6, {cs := [(1, cb [208] k1), (3, pc k2)]}), (7, {cs := [(1, pc k3), (3, pc k4), (4, pc k5)]}), (8, {cs := [(1, pc k6)]}), (9, {cs := [(1, cb [208] k7)]}), (11, {cs := [(1, pc k9), (2, pc k11), (5, pc k10), (6, pc k12)]}), (12, {cs := [(1, pc k13), (3, pc k6), (4, pc k24), (7, pc k14), (9, pc k8), (10, pc k25), (16, pc k27), (20, pc k28), (21, pc k29), (29, pc k15), (32, pc k16), (33, pc k26), (38, pc k17), (42, pc k18), (44, pc k19), (45, pc k22), (49, pc k20), (50, pc k21), (51, pc k23)]})] 100 [false, false, false] [(!true) = false, (bif decide ((↑name.length : Int) > (300 : Int)) then true else decide ((↑door.length : Int) > (300 : Int))) = false, (nextV ns a (2 : Int) == (1 : Int)) = false] (by kernel_rfl) (by kernel_rfl) (by kernel_rfl) ⟨rfl, (by assumption), (show (nextV ns a (2 : Int) == (1 : Int)) = false from (by assumption))⟩ ?_
          refine Wp.ret' (by kernel_rfl) ?_
          exact FinQ.pure (rs' := [V1.c (Cell.bool (bif bif bif bif bif true then true else false then true else false then bif !bif true then false else false then true else true else false then bif !true then true else true else false then true else false))]) (by kernel_rfl) rfl (by kernel_rfl)
      | false =>
        rw [hm1] at k11
        clear hh hm1 hG sv hv fv fu same same3 w1 w2' hkx r4
        refine Wp.go (mx := true) (fun _ => mixed) [(1, {cs := [(0, pc k0)]}), (6, {cs := [(1, cb [208] k1), (3, pc k2)]}), (7, {cs := [(1, pc k3), (3, pc k4), (4, pc k5)]}), (8, {cs := [(1, pc k6)]}), (9, {cs := [(1, cb [208] k7)]}), (11, {cs := [(1, pc k9), (2, pc k11), (5, pc k10), (6, pc k12)]}), (12, {cs := [(1, pc k13), (3, pc k6), (4, pc k24), (7, pc k14), (9, pc k8), (10, pc k25), (16, pc k27), (20, pc k28), (21, pc k29), (29, pc k15), (32, pc k16), (33, pc k26), (38, pc k17), (42, pc k18), (44, pc k19), (45, pc k22), (49, pc k20), (50, pc k21), (51, pc k23)]})] 100 [false, false, false] [(!true) = false, (bif decide ((↑name.length : Int) > (300 : Int)) then true else decide ((↑door.length : Int) > (300 : Int))) = false, (nextV ns a (2 : Int) == (1 : Int)) = false] (by kernel_rfl) (by kernel_rfl) (by kernel_rfl) ⟨rfl, (by assumption), (show (nextV ns a (2 : Int) == (1 : Int)) = false from (by assumption))⟩ ?_
        refine Wp.ret' (by kernel_rfl) ?_
        exact FinQ.pure (rs' := [V1.c (Cell.bool (bif bif bif bif bif true then true else false then true else false then bif !bif false then mayJ (textJ door) (0 : Int) else false then true else true else false then bif !true then true else true else false then true else false))]) (by kernel_rfl) rfl (by kernel_rfl)
    | false =>
      rw [hh] at k17
      cases hm1 : mayJ (textJ name) 0 with
      | true =>
        rw [hm1] at k11
        cases hm2 : mayJ (textJ door) 0 with
        | true =>
          rw [hm2] at k12
          clear hh hm1 hm2 hG sv hv fv fu same same3 w1 w2' hkx r4
          refine Wp.go (mx := true) (fun _ => mixed) [(1, {cs := [(0, pc k0)]}), (6, {cs := [(1, cb [208] k1), (3, pc k2)]}), (7, {cs := [(1, pc k3), (3, pc k4), (4, pc k5)]}), (8, {cs := [(1, pc k6)]}), (9, {cs := [(1, cb [208] k7)]}), (11, {cs := [(1, pc k9), (2, pc k11), (5, pc k10), (6, pc k12)]}), (12, {cs := [(1, pc k13), (3, pc k6), (4, pc k24), (7, pc k14), (9, pc k8), (10, pc k25), (16, pc k27), (20, pc k28), (21, pc k29), (29, pc k15), (32, pc k16), (33, pc k26), (38, pc k17), (42, pc k18), (44, pc k19), (45, pc k22), (49, pc k20), (50, pc k21), (51, pc k23)]})] 100 [false, false, false] [(!true) = false, (bif decide ((↑name.length : Int) > (300 : Int)) then true else decide ((↑door.length : Int) > (300 : Int))) = false, (nextV ns a (2 : Int) == (1 : Int)) = false] (by kernel_rfl) (by kernel_rfl) (by kernel_rfl) ⟨rfl, (by assumption), (show (nextV ns a (2 : Int) == (1 : Int)) = false from (by assumption))⟩ ?_
          refine Wp.ret' (by kernel_rfl) ?_
          exact FinQ.pure (rs' := [V1.c (Cell.bool (bif bif bif bif bif true then true else false then true else false then bif !bif true then true else false then true else true else false then bif !false then true else true else false then true else false))]) (by kernel_rfl) rfl (by kernel_rfl)
        | false =>
          rw [hm2] at k12
          clear hh hm1 hm2 hG sv hv fv fu same same3 w1 w2' hkx r4
          refine Wp.go (mx := true) (fun _ => mixed) [(1, {cs := [(0, pc k0)]}), (6, {cs := [(1, cb [208] k1), (3, pc k2)]}), (7, {cs := [(1, pc k3), (3, pc k4), (4, pc k5)]}), (8, {cs := [(1, pc k6)]}), (9, {cs := [(1, cb [208] k7)]}), (11, {cs := [(1, pc k9), (2, pc k11), (5, pc k10), (6, pc k12)]}), (12, {cs := [(1, pc k13), (3, pc k6), (4, pc k24), (7, pc k14), (9, pc k8), (10, pc k25), (16, pc k27), (20, pc k28), (21, pc k29), (29, pc k15), (32, pc k16), (33, pc k26), (38, pc k17), (42, pc k18), (44, pc k19), (45, pc k22), (49, pc k20), (50, pc k21), (51, pc k23)]})] 100 [false, false, false] [(!true) = false, (bif decide ((↑name.length : Int) > (300 : Int)) then true else decide ((↑door.length : Int) > (300 : Int))) = false, (nextV ns a (2 : Int) == (1 : Int)) = false] (by kernel_rfl) (by kernel_rfl) (by kernel_rfl) ⟨rfl, (by assumption), (show (nextV ns a (2 : Int) == (1 : Int)) = false from (by assumption))⟩ ?_
          refine Wp.ret' (by kernel_rfl) ?_
          exact FinQ.pure (rs' := [V1.c (Cell.bool (bif bif bif bif bif true then true else false then true else false then bif !bif true then false else false then true else true else false then bif !false then true else true else false then true else false))]) (by kernel_rfl) rfl (by kernel_rfl)
      | false =>
        rw [hm1] at k11
        clear hh hm1 hG sv hv fv fu same same3 w1 w2' hkx r4
        refine Wp.go (mx := true) (fun _ => mixed) [(1, {cs := [(0, pc k0)]}), (6, {cs := [(1, cb [208] k1), (3, pc k2)]}), (7, {cs := [(1, pc k3), (3, pc k4), (4, pc k5)]}), (8, {cs := [(1, pc k6)]}), (9, {cs := [(1, cb [208] k7)]}), (11, {cs := [(1, pc k9), (2, pc k11), (5, pc k10), (6, pc k12)]}), (12, {cs := [(1, pc k13), (3, pc k6), (4, pc k24), (7, pc k14), (9, pc k8), (10, pc k25), (16, pc k27), (20, pc k28), (21, pc k29), (29, pc k15), (32, pc k16), (33, pc k26), (38, pc k17), (42, pc k18), (44, pc k19), (45, pc k22), (49, pc k20), (50, pc k21), (51, pc k23)]})] 100 [false, false, false] [(!true) = false, (bif decide ((↑name.length : Int) > (300 : Int)) then true else decide ((↑door.length : Int) > (300 : Int))) = false, (nextV ns a (2 : Int) == (1 : Int)) = false] (by kernel_rfl) (by kernel_rfl) (by kernel_rfl) ⟨rfl, (by assumption), (show (nextV ns a (2 : Int) == (1 : Int)) = false from (by assumption))⟩ ?_
        refine Wp.ret' (by kernel_rfl) ?_
        exact FinQ.pure (rs' := [V1.c (Cell.bool (bif bif bif bif bif true then true else false then true else false then bif !bif false then mayJ (textJ door) (0 : Int) else false then true else true else false then bif !false then true else true else false then true else false))]) (by kernel_rfl) rfl (by kernel_rfl)
end Go.Proofs.Tw
end

section
/-
  Own layer 'SV' (30): what has been read reads so in a later world.
-/
namespace Go.Sv

theorem mapM_keep {α β : Type} {f g : α → Option β} : ∀ {l : List α} {ys : List β}, l.mapM f = some ys → (∀ x ∈ l, ∀ y, f x = some y → y ∈ ys → g x = some y) → l.mapM g = some ys
  | [], ys, h, _ => by simpa using h
  | x :: l, ys, h, hg => by
    rw [List.mapM_cons] at h ⊢
    cases hx : f x with
    | none => rw [hx] at h; cases h
    | some y =>
      rw [hx] at h
      cases hl : l.mapM f with
      | none => rw [hl] at h; cases h
      | some zs =>
        rw [hl] at h
        obtain rfl : y :: zs = ys := by simpa using h
        rw [hg x (by simp) y hx (by simp), mapM_keep hl (fun u hu v hv hm => hg u (by simp [hu]) v hv (by simp [hm]))]
        rfl
theorem cell_keep {W W' : World} (hk : ∀ b, b < W.heap.size → W'.heap[b]? = W.heap[b]?) {a : Addr} {v : Value} (h : W.cell? a = some v) : W'.cell? a = some v := by
  have hb : a.block < W.heap.size := by
    rcases Nat.lt_or_ge a.block W.heap.size with hlt | hge
    · exact hlt
    · simp [World.cell?, Array.getElem?_eq_none hge] at h
  simp only [World.cell?, hk _ hb] at h ⊢
  exact h
theorem cells_keep {W W' : World} (hk : ∀ b, b < W.heap.size → W'.heap[b]? = W.heap[b]?) {base : Nat} {a : Addr} {n : Nat} {l : List Value} (h : W.cells? base a n = some l) : W'.cells? base a n = some l := by
  unfold World.cells? at h ⊢
  split at h
  · rename_i hb
    rw [if_pos hb]
    exact mapM_keep h (fun x _ y hy _ => cell_keep hk hy)
  · cases h

/-- Types that lead to no others, and to no slices of nothing. -/
def stepT (P : Program) (S : TypeId → Bool) (t : TypeId) : Bool := match P.underlying t with
  | some (.slice e) => !(Nat.beq (P.cellsOf e) 0) && S e
  | some (.pointer e) => S e
  | some (.struct fs) => fs.toList.all fun f => S f.type
  | some (.array _ e) => S e
  | some (.map _ e) => S e
  | _ => true
def inL (l : List TypeId) (t : TypeId) : Bool := l.any fun u => Nat.beq u t
def closedT (P : Program) (l : List TypeId) : Bool := l.all (stepT P (inL l))
theorem closed_step {P : Program} {l : List TypeId} (h : closedT P l = true) {t : TypeId} (ht : inL l t = true) : stepT P (inL l) t = true := by
  obtain ⟨u, hu, e⟩ := List.any_eq_true.1 ht
  obtain rfl : u = t := Nat.eq_of_beq_eq_true e
  exact List.all_eq_true.1 h u hu
theorem trod_keep {H : Type} {enc : TypeId × Value → H} {P : Program} {W W' : World} {base : Nat} {sp sp' : Nat → Bool} {l : List TypeId} (hk : ∀ b, b < W.heap.size → W'.heap[b]? = W.heap[b]?)
    (hz : closedT P l = true) (hsp : ∀ b, sp b = true) : ∀ (fuel : Nat) (t : TypeId) (cs : List Value) (d : DataW H) (p : List MemPlace), inL l t = true → DataW.trod enc P W base sp true fuel t cs = some (d, p) →
      (∀ q ∈ p, sp' q.block = true) → DataW.trod enc P W' base sp' true fuel t cs = some (d, p) := by
  intro fuel
  induction fuel with
  | zero => intro t cs d p _ h; simp [DataW.trod] at h
  | succ fuel ih =>
    intro t cs d p hin h hs
    have hst := closed_step hz hin
    unfold stepT at hst
    unfold DataW.trod at h ⊢
    generalize hu : P.underlying t = u at h hst ⊢
    split at h
    case h_6 e a =>
      simp only at hst
      rw [Option.map_eq_some_iff] at h
      obtain ⟨x, hx, he⟩ := h
      rw [Option.bind_eq_some_iff] at hx
      obtain ⟨vl, hl, hx⟩ := hx
      simp only [Prod.mk.injEq] at he
      obtain ⟨rfl, rfl⟩ := he
      simp only [cells_keep hk hl, Option.bind_some]
      rw [ih e vl x.1 x.2 hst hx (fun q hq => hs q (by simp [hq]))]
      rfl
    case h_8 e a len cap =>
      simp only [Bool.and_eq_true, Bool.not_eq_true'] at hst
      have hz : P.cellsOf e ≠ 0 := fun h0 => by rw [h0] at hst; exact absurd hst.1 (by decide)
      simp only at h ⊢
      split at h
      · rename_i hc
        rw [if_pos hc]
        rw [Option.bind_eq_some_iff] at h
        obtain ⟨elems, hel, h⟩ := h
        rw [Option.map_eq_some_iff] at h
        obtain ⟨rest, hre, he⟩ := h
        simp only [Prod.mk.injEq] at he
        obtain ⟨rfl, rfl⟩ := he
        have elemAt : ∀ (i : Nat) (y : DataW H × List MemPlace), (W.cells? base (a.add (i * P.cellsOf e)) (P.cellsOf e)).bind (DataW.trod enc P W base sp true fuel e) = some y → y ∈ elems ++ rest →
            (W'.cells? base (a.add (i * P.cellsOf e)) (P.cellsOf e)).bind (DataW.trod enc P W' base sp' true fuel e) = some y := by
          intro i y hy hm
          rw [Option.bind_eq_some_iff] at hy ⊢
          obtain ⟨vl, hl, hy⟩ := hy
          exact ⟨vl, cells_keep hk hl, ih e vl y.1 y.2 hst.2 hy (fun q hq => hs q (List.mem_append_right _ (List.mem_flatMap.2 ⟨y, hm, hq⟩)))⟩
        rw [mapM_keep hel (fun x _ y hy hm => elemAt x y hy (List.mem_append_left _ hm))]
        simp only [Option.bind_some]
        have hrest : (if sp' a.block = true then (List.range (cap - len)).mapM fun j => (W'.cells? base (a.add ((len + j) * P.cellsOf e)) (P.cellsOf e)).bind (DataW.trod enc P W' base sp' true fuel e) else some []) = some rest := by
          by_cases h0 : elems.length + rest.length = 0
          · have hr : rest = [] := List.eq_nil_of_length_eq_zero (by omega)
            have hle : elems = [] := List.eq_nil_of_length_eq_zero (by omega)
            have none0 : ∀ {f : Nat → Option (DataW H × List MemPlace)} {n : Nat} {ys : List (DataW H × List MemPlace)}, (List.range n).mapM f = some ys → ys = [] → n = 0 := by
              intro f n ys h hy
              subst hy
              cases n with
              | zero => rfl
              | succ n =>
                rw [List.range_succ_eq_map, List.mapM_cons] at h
                exfalso
                revert h
                cases f 0 with
                | none => intro h; cases h
                | some y =>
                  intro h
                  simp only [Option.bind_eq_bind, Option.bind_some] at h
                  rw [Option.bind_eq_some_iff] at h
                  obtain ⟨_, _, h⟩ := h
                  simp at h
            have hlen := none0 hel hle
            rw [if_pos (hsp _)] at hre
            have hc0 := none0 hre hr
            rw [hc0, hr]
            simp
          · have hb : sp' a.block = true := by
              have hm : (MemPlace.cell a.block (a.off + 0)) ∈ MemPlace.row a ((elems.length + rest.length) * P.cellsOf e) := by
                unfold MemPlace.row
                refine List.mem_map.2 ⟨0, List.mem_range.2 ?_, rfl⟩
                exact Nat.mul_pos (by omega) (by omega)
              exact hs _ (List.mem_append_left _ hm)
            rw [if_pos hb]
            rw [if_pos (hsp _)] at hre
            exact mapM_keep hre (fun x _ y hy hm => elemAt (len + x) y hy (List.mem_append_right _ hm))
        rw [hrest]
        rfl
      · cases h
    case h_9 fs =>
      split at h
      · rename_i hc
        rw [if_pos hc]
        rw [Option.map_eq_some_iff] at h
        obtain ⟨xs, hx, he⟩ := h
        simp only [Prod.mk.injEq] at he
        obtain ⟨rfl, rfl⟩ := he
        rw [mapM_keep hx (fun f hf y hy hm => ih _ _ y.1 y.2 (List.all_eq_true.1 hst f hf) hy (fun q hq => hs q (List.mem_flatMap.2 ⟨y, hm, hq⟩)))]
        rfl
      · cases h
    case h_10 n e =>
      split at h
      · rename_i hc
        rw [if_pos hc]
        rw [Option.map_eq_some_iff] at h
        obtain ⟨xs, hx, he⟩ := h
        simp only [Prod.mk.injEq] at he
        obtain ⟨rfl, rfl⟩ := he
        rw [mapM_keep hx (fun f _ y hy hm => ih _ _ y.1 y.2 hst hy (fun q hq => hs q (List.mem_flatMap.2 ⟨y, hm, hq⟩)))]
        rfl
      · cases h
    case h_12 ms u v => exact h
    case h_14 k e b =>
      cases hb : W.heap[b]? with
      | none => rw [hb] at h; cases h
      | some o =>
        have hlt : b < W.heap.size := by
          rcases Nat.lt_or_ge b W.heap.size with hlt | hge
          · exact hlt
          · rw [Array.getElem?_eq_none hge] at hb; cases hb
        rw [hb] at h
        rw [hk b hlt, hb]
        cases o with
        | map es clock =>
          simp only at h ⊢
          split at h
          · rename_i hc
            rw [if_pos hc]
            rw [Option.bind_eq_some_iff] at h
            obtain ⟨entries, he, h⟩ := h
            have he' : entries.flatMap (fun x => x.2) ⊆ p := by
              split at h
              · simp only [Option.some.injEq, Prod.mk.injEq] at h
                rw [← h.2]
                exact fun x hx => List.mem_cons_of_mem _ hx
              · cases h
            rw [mapM_keep (g := fun x => (keyOf P k x.key).bind fun key => if x.val.formed P e then (DataW.trod enc P W' base sp' true fuel e x.val.cells.toList).map fun y => ((key, y.1), y.2) else none) he (fun x _ y hy hm => by
              rw [Option.bind_eq_some_iff] at hy ⊢
              obtain ⟨key, hkey, hy⟩ := hy
              refine ⟨key, hkey, ?_⟩
              split at hy
              · rename_i hf
                rw [if_pos hf]
                rw [Option.map_eq_some_iff] at hy ⊢
                obtain ⟨z, hz', rfl⟩ := hy
                exact ⟨z, ih e _ z.1 z.2 hst hz' (fun q hq => hs q (he' (List.mem_flatMap.2 ⟨_, hm, hq⟩))), rfl⟩
              · cases hy)]
            exact h
          · cases h
        | _ => cases h
    all_goals exact h
/-- All arguments read as before. -/
theorem trodAll_keep {H : Type} {enc : TypeId × Value → H} {P : Program} {W W' : World} {base : Nat} {sp sp' : Nat → Bool} {l : List TypeId} (hk : ∀ b, b < W.heap.size → W'.heap[b]? = W.heap[b]?)
    (hz : closedT P l = true) (hsp : ∀ b, sp b = true) : ∀ (ts : List TypeId) (vs : List Value) (ds : List (DataW H)) (p : List MemPlace), (∀ t ∈ ts, inL l t = true) → DataW.TrodAll enc P W base sp true ts vs ds p →
      (∀ q ∈ p, sp' q.block = true) → DataW.TrodAll enc P W' base sp' true ts vs ds p
  | [], [], [], p, _, h, _ => h
  | t :: ts, v :: vs, d :: ds, p, hl, ⟨p1, q1, ⟨fuel, h1⟩, h2, e⟩, hs =>
    ⟨p1, q1, ⟨fuel, trod_keep hk hz hsp fuel t _ d p1 (hl t (by simp)) h1 (fun q hq => hs q (by rw [e]; simp [hq]))⟩, trodAll_keep hk hz hsp ts vs ds q1 (fun t ht => hl t (by simp [ht])) h2 (fun q hq => hs q (by rw [e]; simp [hq])), e⟩
/-- A row of numbers among the arguments. -/
theorem ints_den {H : Type} {enc : TypeId × Value → H} {P : Program} {W : World} {base0 base : Nat} {sp : Nat → Bool} {held : Bool} {t e : TypeId} {k : IntKind} (ht : P.underlying t = some (.slice e)) (he : P.underlying e = some (.int k)) (hc : P.cellsOf e = 1)
    {v : Value} {d : DataW H} {p : List MemPlace} (hok : Value.okWide P W .any base0 t v) (h : DataW.Trod enc P W base sp held t v d p) :
    ∃ ns : List Int, ns.length ≤ maxLen ∧ DenV (Dw W) rho0 (.c (.sl 1 ns.length (fun i _ => .int k (ns.getD i 0)))) v := by
  obtain ⟨fuel, hf⟩ := h
  obtain ⟨a0, len0, cap0, rfl⟩ := Go.WideShapes.okWide_slice ht hok
  rcases Go.ChangeShapes.open_ints ht he hc hf with ⟨hcs, _⟩ | ⟨a, len, cap, zs, hcs, _, hl, hm, hzl, _, hcell, _⟩
  · have : Value.slice a0 len0 cap0 = .slice none 0 0 := by simpa [Value.cells] using hcs
    rw [this]
    exact ⟨[], Nat.zero_le _, none, 0, rfl, Nat.le_refl _, Nat.zero_le _, .inl ⟨rfl, rfl⟩⟩
  · have hv : Value.slice a0 len0 cap0 = .slice (some a) len cap := by simpa [Value.cells] using hcs
    rw [hv] at hok ⊢
    have hsp : a.spot = none := by
      simp only [Value.okWide, ht, Cell.okWide, Cell.ok] at hok
      exact hok.2.2.2.1
    obtain ⟨b, o, spot⟩ := a
    simp only at hsp
    subst hsp
    have hle : len ≤ zs.length := by rw [hzl]; split <;> omega
    have hn : (zs.take len).length = len := by rw [List.length_take]; omega
    refine ⟨zs.take len, by rw [hn]; omega, some ⟨b, o, none⟩, cap, by rw [hn], by rw [hn]; exact hl, hm, .inr ⟨b, o, rfl, fun i hi j hj => ?_⟩⟩
    obtain rfl : j = 0 := by omega
    rw [hn] at hi
    have := hcell i (by omega)
    rw [Go.WideShapes.add_plain] at this
    refine ⟨.int k (zs.getD i 0), by unfold Dw; rw [← this]; congr 2; omega, ?_⟩
    simp only [Den]
    congr 1
    simp [List.getD, List.getElem?_take, hi]
/-- A number among the arguments. -/
theorem int_den {P : Program} {W : World} {base0 : Nat} {t : TypeId} {k : IntKind} (ht : P.underlying t = some (.int k)) {v : Value} (hok : Value.okWide P W .any base0 t v) :
    ∃ z : Int, DenV (Dw W) rho0 (.c (.int k z)) v := by
  obtain ⟨n, rfl⟩ := Go.WideShapes.okWide_int ht hok
  exact ⟨n, rfl⟩
/-- A text among the arguments. -/
theorem str_den {P : Program} {W : World} {base0 : Nat} {t : TypeId} (ht : P.underlying t = some .string) {v : Value} (hok : Value.okWide P W .any base0 t v) :
    ∃ s : List UInt8, DenV (Dw W) rho0 (.c (.str s)) v := by
  obtain ⟨s, rfl⟩ := Go.WideShapes.okWide_string ht hok
  exact ⟨s.data.toList, by cases s; simp [DenV, Den]⟩
end Go.Sv
end
