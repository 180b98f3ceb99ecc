import Derived.Test.YtmacpjddafcjcaaDoorR12
set_option linter.all false
open Go Go.Sv
namespace Go.Proofs.Tw
attribute [local irreducible] Wp FinQ resV Ent Pur Go.Sv.Fn Sat0
set_option maxRecDepth 100000
variable {G : Nat → Option (List Cell)}

theorem bytes_in (l : List UInt8) (n : Nat) (S : Nat → Prop) : ∀ i, i < n → ∀ j, j < 1 → (bytesF l i j).inS S := fun _ _ _ _ => trivial
def w16 (n : Nat) : Int := IntKind.u8.wrap ((n : Int).tdiv 16)
def m16 (n : Nat) : Int := (n : Int).tmod 16
theorem dig12 : ∀ n : Nat, n < 32 → (0 ≤ w16 n ∧ w16 n < 2) ∧ (0 ≤ m16 n ∧ m16 n < 16) ∧ ([48, 49] : List UInt8).getD (w16 n).toNat 0 = hexT.getD (n / 16) 0 ∧ hexT.getD (m16 n).toNat 0 = hexT.getD (n % 16) 0 := by decide

def q12Inv (s : List UInt8) (x : Nat × Nat × List UInt8) : St := ⟨[(0, .v (.c (.str s))), (3, .v (.c (.row 1 0 0 x.2.1))), (4, .v (.c (.int .i64 (x.1 : Int))))], [(0, .row 5 1 x.2.1 (bytesF x.2.2))], 16⟩
theorem quoted12_ok (s : List UInt8) (hs : (quotedT s).length ≤ 140737488355328) : Pur Tryd.prog G 36 [.c (.str s)] [.c (.str (quotedT s))] := by
  have hlen : s.length ≤ (s.flatMap qByte).length := by
    clear hs
    induction s with
    | nil => simp
    | cons c r ih =>
      have : 1 ≤ (qByte c).length := by unfold qByte; split <;> (try split) <;> simp
      simp only [List.flatMap_cons, List.length_append, List.length_cons]; omega
  simp only [quotedT, List.length_cons, List.length_append, List.length_nil] at hs
  refine Pur.of Tryd.func36 (by kernel_rfl) (by kernel_rfl) (by kernel_rfl) ?_
  refine Wp.go (mx := true) (fun _ => mixed) [] 100 [] [] (by kernel_rfl) (by kernel_rfl) (by kernel_rfl) trivial ?_
  refine Wp.ent' (by kernel_rfl) (Ent.blkE (id := 16) (by kernel_rfl) (bytes_new (e := 5) [34]) rfl) ?_
  refine Wp.loopK (by kernel_rfl) (q12Inv s) (fun x => x.1 ≤ s.length ∧ x.2.1 = x.2.2.length ∧ x.2.2 = 34 :: (s.take x.1).flatMap qByte) (fun x => s.length - x.1) (0, 1, [34]) (Ent.of [(0, 16)] (by kernel_rfl) (by kernel_rfl) (by kernel_rfl) ⟨bytes_in _ _ _, trivial⟩) ⟨Nat.zero_le _, rfl, by simp⟩ ?_
  rintro ⟨k, n, l⟩ L ⟨hk, hn, hl⟩ again
  simp only at hk hn hl
  refine Wp.go (mx := true) (fun _ => mixed) [] 100 [] [] (by kernel_rfl) (by kernel_rfl) (by kernel_rfl) trivial ?_
  refine Wp.cond' (by kernel_rfl) (decide ((k : Int) < (s.length : Int))) (by kernel_rfl) (fun h => ?_) (fun h => ?_)
  · have hk' : k < s.length := by simpa using h
    have hin : 0 ≤ (k : Int) ∧ (k : Int) < (s.length : Int) := by omega
    obtain ⟨c, hc⟩ : ∃ c, c = s.getD k 0 := ⟨_, rfl⟩
    have htk : s.take (k + 1) = s.take k ++ [c] := by rw [hc, List.take_succ]; simp [List.getD, hk']
    have hst : s = s.take k ++ c :: s.drop (k + 1) := by
      have := List.take_append_drop (k + 1) s
      rw [htk] at this
      simpa using this.symm
    have hbound : n + (qByte c).length + 1 ≤ 140737488355328 := by
      have e : (s.flatMap qByte).length = ((s.take k).flatMap qByte).length + (qByte c).length + ((s.drop (k + 1)).flatMap qByte).length := by
        conv => lhs; rw [hst]
        simp only [List.flatMap_append, List.flatMap_cons, List.length_append]; omega
      rw [hl] at hn
      simp only [List.length_cons] at hn
      omega
    have hnext : l ++ qByte c = 34 :: (s.take (k + 1)).flatMap qByte := by
      rw [htk, hl]; simp
    refine Wp.go (mx := true) (fun _ => mixed) [] 100 [] [0 ≤ (k : Int) ∧ (k : Int) < (s.length : Int), (((s.getD k 0).toNat : Int) == 34) = false → 0 ≤ (k : Int) ∧ (k : Int) < (s.length : Int)] (by kernel_rfl) (by kernel_rfl) (by kernel_rfl) ⟨hin, fun _ => hin⟩ ?_
    refine Wp.cond' (by kernel_rfl) (cond (((s.getD k 0).toNat : Int) == 34) true (((s.getD k 0).toNat : Int) == 92)) (by kernel_rfl) (fun h => ?_) (fun h => ?_)
    · rw [← hc] at h
      have hb : (c == 34 || c == 92) = true := by
        have e1 := byte_eq (c := c) (n := 34) (by omega)
        have e2 := byte_eq (c := c) (n := 92) (by omega)
        rw [show ((c.toNat : Int) == 34) = (c == 34) from e1, show ((c.toNat : Int) == 92) = (c == 92) from e2] at h
        exact (cond_or _ _).symm.trans h
      have hq : qByte c = [92, c] := by unfold qByte; rw [if_pos hb]
      rw [hq] at hbound hnext
      simp only [List.length_cons, List.length_nil] at hbound
      refine Wp.go (mx := true) (fun _ => mixed) [(7, {bs := [(5, .row 5 1 (n + 2) (bytesF (l ++ [92, s.getD k 0])))]})] 100 [] [0 ≤ (k : Int) ∧ (k : Int) < (s.length : Int), (n + 2) * 1 ≤ 140737488355328, BlkEqv (.row 5 1 (n + 2) (catF n (bytesF l) (fun i j => nthD (bl [92, s.getD k 0]) ((0 + i) * 1 + j)))) (.row 5 1 (n + 2) (bytesF (l ++ [92, s.getD k 0]))), n ≤ n, 2 ≤ 2, inR .i64 ((k : Int) + 1)] (by kernel_rfl) (by kernel_rfl) (by kernel_rfl) ⟨hin, by omega, bytes_app l [92, s.getD k 0] hn, Nat.le_refl _, Nat.le_refl _, inR64 (by omega) (by omega)⟩ ?_
      exact Wp.lpK (by kernel_rfl) (again _ (k + 1, n + 2, l ++ [92, s.getD k 0]) ⟨hk', by simp only; rw [hn]; simp, by rw [← hc]; exact hnext⟩ (by show s.length - (k + 1) < s.length - k; omega) (Ent.of [(0, 336)] (by kernel_rfl) (by kernel_rfl) (by kernel_rfl) ⟨bytes_in _ _ _, trivial⟩))
    rw [← hc] at h
    have hb : (c == 34 || c == 92) = false := by
      have e1 := byte_eq (c := c) (n := 34) (by omega)
      have e2 := byte_eq (c := c) (n := 92) (by omega)
      rw [show ((c.toNat : Int) == 34) = (c == 34) from e1, show ((c.toNat : Int) == 92) = (c == 92) from e2] at h
      exact (cond_or _ _).symm.trans h
    refine Wp.go (mx := true) (fun _ => mixed) [] 100 [] [0 ≤ (k : Int) ∧ (k : Int) < (s.length : Int)] (by kernel_rfl) (by kernel_rfl) (by kernel_rfl) hin ?_
    refine Wp.cond' (by kernel_rfl) (decide (((s.getD k 0).toNat : Int) < 32)) (by kernel_rfl) (fun h => ?_) (fun h => ?_)
    · have hlt : c.toNat < 32 := by rw [← hc] at h; simp at h; omega
      have hq : qByte c = [92, 117, 48, 48, hexT.getD (c.toNat / 16) 0, hexT.getD (c.toNat % 16) 0] := by
        unfold qByte; rw [if_neg (by simp [hb]), if_pos (show c < 32 from hlt)]
      obtain ⟨d1, d2, d3, d4⟩ := dig12 c.toNat hlt
      rw [hq] at hbound hnext
      simp only [List.length_cons, List.length_nil] at hbound
      rw [hc] at d1 d2 d3 d4 hnext
      refine Wp.go (mx := true) (fun _ => mixed) [(9, {fm := [(5, .c (.int .u8 ((hexT.getD ((s.getD k 0).toNat / 16) 0).toNat : Int))), (10, .c (.int .u8 ((hexT.getD ((s.getD k 0).toNat % 16) 0).toNat : Int)))], bs := [(12, .row 5 1 (n + 6) (bytesF (l ++ [92, 117, 48, 48, hexT.getD ((s.getD k 0).toNat / 16) 0, hexT.getD ((s.getD k 0).toNat % 16) 0])))]})] 100 [] [0 ≤ (k : Int) ∧ (k : Int) < (s.length : Int), (16 : Int) ≠ 0, EqvI (.c (.int .u8 ((([48, 49] : List UInt8).getD (w16 (s.getD k 0).toNat).toNat 0).toNat : Int))) (.c (.int .u8 ((hexT.getD ((s.getD k 0).toNat / 16) 0).toNat : Int))), EqvD (.c (.int .u8 ((([48, 49] : List UInt8).getD (w16 (s.getD k 0).toNat).toNat 0).toNat : Int))) (.c (.int .u8 ((hexT.getD ((s.getD k 0).toNat / 16) 0).toNat : Int))), 0 ≤ w16 (s.getD k 0).toNat ∧ w16 (s.getD k 0).toNat < 2, 0 ≤ (k : Int) ∧ (k : Int) < (s.length : Int), (16 : Int) ≠ 0, EqvI (.c (.int .u8 ((hexT.getD (m16 (s.getD k 0).toNat).toNat 0).toNat : Int))) (.c (.int .u8 ((hexT.getD ((s.getD k 0).toNat % 16) 0).toNat : Int))), EqvD (.c (.int .u8 ((hexT.getD (m16 (s.getD k 0).toNat).toNat 0).toNat : Int))) (.c (.int .u8 ((hexT.getD ((s.getD k 0).toNat % 16) 0).toNat : Int))), 0 ≤ m16 (s.getD k 0).toNat ∧ m16 (s.getD k 0).toNat < 16, (n + 6) * 1 ≤ 140737488355328, BlkEqv (.row 5 1 (n + 6) (catF n (bytesF l) (fun i j => nthD (bl [92, 117, 48, 48, hexT.getD ((s.getD k 0).toNat / 16) 0, hexT.getD ((s.getD k 0).toNat % 16) 0]) ((0 + i) * 1 + j)))) (.row 5 1 (n + 6) (bytesF (l ++ [92, 117, 48, 48, hexT.getD ((s.getD k 0).toNat / 16) 0, hexT.getD ((s.getD k 0).toNat % 16) 0]))), n ≤ n, 6 ≤ 6, inR .i64 ((k : Int) + 1)] (by kernel_rfl) (by kernel_rfl) (by kernel_rfl) ⟨hin, by decide, fun _ _ => trivial, by rw [d3]; exact fun _ _ _ h => h, d1, hin, by decide, fun _ _ => trivial, by rw [d4]; exact fun _ _ _ h => h, d2, by omega, bytes_app l [92, 117, 48, 48, hexT.getD ((s.getD k 0).toNat / 16) 0, hexT.getD ((s.getD k 0).toNat % 16) 0] hn, Nat.le_refl _, Nat.le_refl _, inR64 (by omega) (by omega)⟩ ?_
      exact Wp.lpK (by kernel_rfl) (again _ (k + 1, n + 6, l ++ [92, 117, 48, 48, hexT.getD ((s.getD k 0).toNat / 16) 0, hexT.getD ((s.getD k 0).toNat % 16) 0]) ⟨hk', by simp only; rw [hn]; simp, hnext⟩ (by show s.length - (k + 1) < s.length - k; omega) (Ent.of [(0, 528)] (by kernel_rfl) (by kernel_rfl) (by kernel_rfl) ⟨bytes_in _ _ _, trivial⟩))
    · have hlt : ¬ c.toNat < 32 := by rw [← hc] at h; simp at h; omega
      have hq : qByte c = [c] := by
        unfold qByte; rw [if_neg (by simp [hb]), if_neg (show ¬ c < 32 from hlt)]
      rw [hq] at hbound hnext
      simp only [List.length_cons, List.length_nil] at hbound
      refine Wp.go (mx := true) (fun _ => mixed) [(5, {bs := [(5, .row 5 1 (n + 1) (bytesF (l ++ [s.getD k 0])))]})] 100 [] [0 ≤ (k : Int) ∧ (k : Int) < (s.length : Int), (n + 1) * 1 ≤ 140737488355328, BlkEqv (.row 5 1 (n + 1) (catF n (bytesF l) (fun i j => nthD (bl [s.getD k 0]) ((0 + i) * 1 + j)))) (.row 5 1 (n + 1) (bytesF (l ++ [s.getD k 0]))), n ≤ n, 1 ≤ 1, inR .i64 ((k : Int) + 1)] (by kernel_rfl) (by kernel_rfl) (by kernel_rfl) ⟨hin, by omega, bytes_app l [s.getD k 0] hn, Nat.le_refl _, Nat.le_refl _, inR64 (by omega) (by omega)⟩ ?_
      exact Wp.lpK (by kernel_rfl) (again _ (k + 1, n + 1, l ++ [s.getD k 0]) ⟨hk', by simp only; rw [hn]; simp, by rw [← hc]; exact hnext⟩ (by show s.length - (k + 1) < s.length - k; omega) (Ent.of [(0, 416)] (by kernel_rfl) (by kernel_rfl) (by kernel_rfl) ⟨bytes_in _ _ _, trivial⟩))
  · have hke : k = s.length := by simp at h; omega
    have hl2 : l ++ [34] = quotedT s := by rw [hl, hke]; simp [quotedT]
    have hn2 : n + 1 ≤ 140737488355328 := by
      rw [hl, hke] at hn
      simp only [List.take_length, List.length_cons] at hn
      omega
    have hn3 : n + 1 = (quotedT s).length := by rw [← hl2, hn]; simp
    have hbl : byteL (bytesF (quotedT s)) 0 (n + 1) = quotedT s := byteL_F _ hn3
    have hbe := bytes_app (e := 5) l [34] hn
    rw [hl2] at hbe
    refine Wp.go (mx := true) (fun _ => mixed) [(10, {fm := [(3, .c (.str (quotedT s)))], bs := [(2, .row 5 1 (n + 1) (bytesF (quotedT s)))]})] 100 [] [(n + 1) * 1 ≤ 140737488355328, BlkEqv (.row 5 1 (n + 1) (catF n (bytesF l) (fun i j => nthD (bl [34]) ((0 + i) * 1 + j)))) (.row 5 1 (n + 1) (bytesF (quotedT s))), n ≤ n, 1 ≤ 1, EqvI (.c (.str (byteL (bytesF (quotedT s)) 0 (n + 1)))) (.c (.str (quotedT s))), EqvD (.c (.str (byteL (bytesF (quotedT s)) 0 (n + 1)))) (.c (.str (quotedT s))), 0 + (n + 1) ≤ n + 1, areBytes (bytesF (quotedT s)) 0 (n + 1)] (by kernel_rfl) (by kernel_rfl) (by kernel_rfl) ⟨by omega, hbe, Nat.le_refl _, Nat.le_refl _, fun _ _ => trivial, by rw [hbl]; exact fun _ _ _ h => h, by omega, areBytes_F _ _ _⟩ ?_
    refine Wp.ret' (by kernel_rfl) ?_
    exact FinQ.pure (rs' := [.c (.str (quotedT s))]) (by kernel_rfl) rfl (by kernel_rfl)
end Go.Proofs.Tw
