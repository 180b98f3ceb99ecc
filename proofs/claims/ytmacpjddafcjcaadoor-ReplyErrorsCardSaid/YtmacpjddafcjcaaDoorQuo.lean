import Derived.Test.YtmacpjddafcjcaaDoorMay
set_option linter.all false
open Go Go.Sv
namespace Go.Proofs.Tw
attribute [local irreducible] Wp FinQ resV Ent Pur Go.Sv.Fn Sat0
set_option maxRecDepth 100000
variable {G : Nat → Option (List Cell)}

def hexT : List UInt8 := [48, 49, 50, 51, 52, 53, 54, 55, 56, 57, 97, 98, 99, 100, 101, 102]
def qByte (c : UInt8) : List UInt8 := if c == 34 || c == 92 then [92, c] else if c < 32 then [92, 117, 48, 48, hexT.getD (c.toNat / 16) 0, hexT.getD (c.toNat % 16) 0] else [c]
def quotedT (s : List UInt8) : List UInt8 := 34 :: (s.flatMap qByte ++ [34])

def sh4 (n : Nat) : Int := (n : Int).fdiv (2 ^ (min (4 : Int).toNat 8))
def lo4 (n : Nat) : Int := bitsI .and .u8 (n : Int) 15
def hi1 (i : Int) : Int := IntKind.u8.wrap (i + 1)
def dig (i : Int) : List UInt8 := (hexT.take (hi1 i).toNat).drop i.toNat
theorem dig_ok : ∀ n : Nat, n < 32 → (0 ≤ sh4 n ∧ sh4 n ≤ hi1 (sh4 n) ∧ hi1 (sh4 n) ≤ 16) ∧ (0 ≤ lo4 n ∧ lo4 n ≤ hi1 (lo4 n) ∧ hi1 (lo4 n) ≤ 16) ∧ dig (sh4 n) = [hexT.getD (n / 16) 0] ∧ dig (lo4 n) = [hexT.getD (n % 16) 0] := by decide
theorem cond_or (a b : Bool) : cond a true b = (a || b) := by cases a <;> rfl
theorem byte_eq {c : UInt8} {n : Nat} (hn : n < 256) : ((c.toNat : Int) == (n : Int)) = (c == UInt8.ofNat n) := by
  cases h : c == UInt8.ofNat n with
  | true =>
    have : c = UInt8.ofNat n := by simpa using h
    subst this
    simp [UInt8.toNat_ofNat', Nat.mod_eq_of_lt hn]
  | false =>
    have hne : c ≠ UInt8.ofNat n := by simpa using h
    rw [beq_eq_false_iff_ne]
    intro e
    apply hne
    apply UInt8.toNat_inj.1
    rw [UInt8.toNat_ofNat', Nat.mod_eq_of_lt hn]
    omega
def quoInv (s : List UInt8) (x : Nat × Nat × List UInt8) : St := ⟨[(0, .v (.c (.str s))), (3, .v (.c (.ptr 0 0))), (8, .v (.c (.int .i64 (s.length : Int)))), (9, .v (.c (.int .i64 (x.1 : Int))))], [(0, .box 61 [.ptr 0 0, .row 1 1 0 x.2.1]), (1, .row 5 1 x.2.1 (bytesF x.2.2))], 16⟩
theorem quoted_ok (s : List UInt8) (hs : (quotedT s).length ≤ 140737488355328) : Pur Tryd.prog G 32 [.c (.str s)] [.c (.str (quotedT s))] := by
  have hlen : s.length ≤ (s.flatMap qByte).length := by
    clear hs
    induction s with
    | nil => simp
    | cons c r ih =>
      have : 1 ≤ (qByte c).length := by unfold qByte; split <;> (try split) <;> simp
      simp only [List.flatMap_cons, List.length_append, List.length_cons]; omega
  simp only [quotedT, List.length_cons, List.length_append, List.length_nil] at hs
  refine Pur.of Tryd.func32 (by kernel_rfl) (by kernel_rfl) (by kernel_rfl) ?_
  refine Wp.go (mx := true) (fun _ => mixed) [(2, {cs := [(0, cb [16] (wb_a 34))]})] 100 [] [] (by kernel_rfl) (by kernel_rfl) (by kernel_rfl) trivial ?_
  refine Wp.loopK (by kernel_rfl) (quoInv s) (fun x => x.1 ≤ s.length ∧ x.2.1 = x.2.2.length ∧ x.2.2 = 34 :: (s.take x.1).flatMap qByte) (fun x => s.length - x.1) (0, 1, [34]) (Ent.of [(0, 16), (1, 32)] (by kernel_rfl) (by kernel_rfl) (by kernel_rfl) ⟨fun _ _ _ _ => trivial, trivial⟩) ⟨Nat.zero_le _, rfl, by simp⟩ ?_
  rintro ⟨k, n, l⟩ L ⟨hk, hn, hl⟩ again
  simp only at hk hn hl
  refine Wp.go (mx := true) (fun _ => mixed) [] 100 [] [] (by kernel_rfl) (by kernel_rfl) (by kernel_rfl) trivial ?_
  refine Wp.cond' (by kernel_rfl) (decide ((k : Int) < (s.length : Int))) (by kernel_rfl) (fun h => ?_) (fun h => ?_)
  · have hk' : k < s.length := by simpa using h
    have hin : 0 ≤ (k : Int) ∧ (k : Int) < (s.length : Int) := by omega
    obtain ⟨c, hc⟩ : ∃ c, c = s.getD k 0 := ⟨_, rfl⟩
    have htk : s.take (k + 1) = s.take k ++ [c] := by rw [hc, List.take_succ]; simp [List.getD, hk']
    have hst : s = s.take k ++ c :: s.drop (k + 1) := by
      have := List.take_append_drop (k + 1) s
      rw [htk] at this
      simpa using this.symm
    have hbound : n + (qByte c).length + 1 ≤ 140737488355328 := by
      have e : (s.flatMap qByte).length = ((s.take k).flatMap qByte).length + (qByte c).length + ((s.drop (k + 1)).flatMap qByte).length := by
        conv => lhs; rw [hst]
        simp only [List.flatMap_append, List.flatMap_cons, List.length_append]; omega
      rw [hl] at hn
      simp only [List.length_cons] at hn
      omega
    have hnext : l ++ qByte c = 34 :: (s.take (k + 1)).flatMap qByte := by
      rw [htk, hl]; simp
    have hl1 : 1 ≤ (qByte c).length := by unfold qByte; split <;> (try split) <;> simp
    refine Wp.go (mx := true) (fun _ => mixed) [] 100 [] [0 ≤ (k : Int) ∧ (k : Int) < (s.length : Int)] (by kernel_rfl) (by kernel_rfl) (by kernel_rfl) hin ?_
    refine Wp.cond' (by kernel_rfl) (cond (((s.getD k 0).toNat : Int) == 34) true (((s.getD k 0).toNat : Int) == 92)) (by kernel_rfl) (fun h => ?_) (fun h => ?_)
    · rw [← hc] at h
      have hb : (c == 34 || c == 92) = true := by
        have e1 := byte_eq (c := c) (n := 34) (by omega)
        have e2 := byte_eq (c := c) (n := 92) (by omega)
        rw [show ((c.toNat : Int) == 34) = (c == 34) from e1, show ((c.toNat : Int) == 92) = (c == 92) from e2] at h
        exact (cond_or _ _).symm.trans h
      have hq : qByte c = [92, c] := by unfold qByte; rw [if_pos hb]
      rw [hq] at hbound hnext
      simp only [List.length_cons, List.length_nil] at hbound
      refine Wp.go (mx := true) (fun _ => mixed) [(9, {cs := [(0, cb [0, 1] (wb_b n l hn (by omega) 92))]}), (10, {cs := [(1, cb [0, 240] (wb_b (n + 1) (l ++ [92]) (by rw [hn]; simp) (by omega) (s.getD k 0)))]})] 100 [] [inR .i64 ((k : Int) + 1)] (by kernel_rfl) (by kernel_rfl) (by kernel_rfl) (inR64 (by omega) (by omega)) ?_
      exact Wp.lpK (by kernel_rfl) (again _ (k + 1, n + 1 + 1, l ++ [92] ++ [s.getD k 0]) ⟨hk', by rw [hn]; simp, by rw [← hc, List.append_assoc]; exact hnext⟩ (by show s.length - (k + 1) < s.length - k; omega) (Ent.of [(1, 272)] (by kernel_rfl) (by kernel_rfl) (by kernel_rfl) ⟨fun _ _ _ _ => trivial, trivial⟩))
    rw [← hc] at h
    have hb : (c == 34 || c == 92) = false := by
      have e1 := byte_eq (c := c) (n := 34) (by omega)
      have e2 := byte_eq (c := c) (n := 92) (by omega)
      rw [show ((c.toNat : Int) == 34) = (c == 34) from e1, show ((c.toNat : Int) == 92) = (c == 92) from e2] at h
      exact (cond_or _ _).symm.trans h
    refine Wp.go (mx := true) (fun _ => mixed) [] 100 [] [] (by kernel_rfl) (by kernel_rfl) (by kernel_rfl) trivial ?_
    refine Wp.cond' (by kernel_rfl) (decide (((s.getD k 0).toNat : Int) < 32)) (by kernel_rfl) (fun h => ?_) (fun h => ?_)
    · have hlt : c.toNat < 32 := by rw [← hc] at h; simp at h; omega
      have hq : qByte c = [92, 117, 48, 48, hexT.getD (c.toNat / 16) 0, hexT.getD (c.toNat % 16) 0] := by
        unfold qByte; rw [if_neg (by simp [hb]), if_pos (show c < 32 from hlt)]
      obtain ⟨d1, d2, d3, d4⟩ := dig_ok c.toNat hlt
      have hqd : ([92, 117, 48, 48] ++ dig (sh4 c.toNat)) ++ dig (lo4 c.toNat) = qByte c := by rw [d3, d4, hq]; rfl
      rw [hc] at d1 d2 d3 d4 hqd hbound hnext
      refine Wp.go (mx := true) (fun _ => mixed) [(12, {fm := [(13, .c (.str (qByte (s.getD k 0))))], cs := [(14, cb [0, 1] (ws_b n l hn (qByte (s.getD k 0)) (by omega)))]})] 100 [] [(0 : Int) ≤ 4, (0 : Int) ≤ 4, 0 ≤ sh4 (s.getD k 0).toNat ∧ sh4 (s.getD k 0).toNat ≤ hi1 (sh4 (s.getD k 0).toNat) ∧ hi1 (sh4 (s.getD k 0).toNat) ≤ 16, 4 + (dig (sh4 (s.getD k 0).toNat)).length ≤ 9223372036854775807, 0 ≤ lo4 (s.getD k 0).toNat ∧ lo4 (s.getD k 0).toNat ≤ hi1 (lo4 (s.getD k 0).toNat) ∧ hi1 (lo4 (s.getD k 0).toNat) ≤ 16, EqvI (.c (.str (([92, 117, 48, 48] ++ dig (sh4 (s.getD k 0).toNat)) ++ dig (lo4 (s.getD k 0).toNat)))) (.c (.str (qByte (s.getD k 0)))), EqvD (.c (.str (([92, 117, 48, 48] ++ dig (sh4 (s.getD k 0).toNat)) ++ dig (lo4 (s.getD k 0).toNat)))) (.c (.str (qByte (s.getD k 0)))), ([92, 117, 48, 48] ++ dig (sh4 (s.getD k 0).toNat)).length + (dig (lo4 (s.getD k 0).toNat)).length ≤ 9223372036854775807, inR .i64 ((k : Int) + 1)] (by kernel_rfl) (by kernel_rfl) (by kernel_rfl) ⟨by decide, by decide, d1, by rw [d3]; show 4 + 1 ≤ _; decide, d2, by rw [hqd]; exact fun _ h => h, by rw [hqd]; exact fun _ _ _ h => h, by rw [d3, d4]; show 5 + 1 ≤ _; decide, inR64 (by omega) (by omega)⟩ ?_
      exact Wp.lpK (by kernel_rfl) (again _ (k + 1, n + (qByte (s.getD k 0)).length, l ++ qByte (s.getD k 0)) ⟨hk', by rw [hn]; simp, hnext⟩ (by show s.length - (k + 1) < s.length - k; omega) (Ent.of [(1, 512)] (by kernel_rfl) (by kernel_rfl) (by kernel_rfl) ⟨fun _ _ _ _ => trivial, trivial⟩))
    · have hlt : ¬ c.toNat < 32 := by rw [← hc] at h; simp at h; omega
      have hq : qByte c = [c] := by
        unfold qByte; rw [if_neg (by simp [hb]), if_neg (show ¬ c < 32 from hlt)]
      rw [hq] at hbound hnext
      simp only [List.length_cons, List.length_nil] at hbound
      refine Wp.go (mx := true) (fun _ => mixed) [(7, {cs := [(1, cb [0, 1] (wb_b n l hn (by omega) (s.getD k 0)))]})] 100 [] [inR .i64 ((k : Int) + 1)] (by kernel_rfl) (by kernel_rfl) (by kernel_rfl) (inR64 (by omega) (by omega)) ?_
      exact Wp.lpK (by kernel_rfl) (again _ (k + 1, n + 1, l ++ [s.getD k 0]) ⟨hk', by rw [hn]; simp, by rw [← hc]; exact hnext⟩ (by show s.length - (k + 1) < s.length - k; omega) (Ent.of [(1, 304)] (by kernel_rfl) (by kernel_rfl) (by kernel_rfl) ⟨fun _ _ _ _ => trivial, trivial⟩))
  · have hke : k = s.length := by simp at h; omega
    have hl2 : l ++ [34] = quotedT s := by rw [hl, hke]; simp [quotedT]
    have hn2 : n + 1 ≤ 140737488355328 := by
      rw [hl, hke] at hn
      simp only [List.take_length, List.length_cons] at hn
      omega
    refine Wp.go (mx := true) (fun _ => mixed) [(14, {cs := [(0, cb [0, 1] (wb_b n l hn hn2 34))]}), (15, {cs := [(0, cb [0, 32] (str_b (n + 1) (l ++ [34]) (by rw [hn]; simp) (by omega) hn2))]})] 100 [] [] (by kernel_rfl) (by kernel_rfl) (by kernel_rfl) trivial ?_
    refine Wp.ret' (by kernel_rfl) ?_
    exact FinQ.pure (rs' := [.c (.str (l ++ [34]))]) (by kernel_rfl) (by rw [hl2]) (by kernel_rfl)
end Go.Proofs.Tw
