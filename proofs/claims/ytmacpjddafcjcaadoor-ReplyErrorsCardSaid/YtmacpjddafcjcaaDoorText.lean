import Derived.Test.YtmacpjddafcjcaaDoorBuf
set_option linter.all false
open Go Go.Sv
namespace Go.Proofs.Tw
attribute [local irreducible] Wp FinQ resV Ent Pur Go.Sv.Fn Sat0
set_option maxRecDepth 100000
variable {G : Nat → Option (List Cell)}

theorem width_pos (s : ByteArray) (pos : Nat) : 1 ≤ (Utf8.decode s pos).2 := by
  unfold Utf8.decode
  simp only
  repeat' split
  all_goals (show 1 ≤ _; simp)
theorem runeW_pos (s : List UInt8) (pos : Nat) : 1 ≤ runeW s pos := width_pos _ _

/-- No U+FFFD from here on. -/
def validN (s : List UInt8) : Nat → Nat → Bool
  | 0, _ => true
  | n + 1, pos => if pos < s.length then (if runeAt s pos == 65533 then false else validN s n (pos + runeW s pos)) else true
def validT (s : List UInt8) : Bool := validN s s.length 0

theorem valid_ok (s : List UInt8) : Pur Tryd.prog G 48 [.c (.str s)] [.c (.bool (validT s))] := by
  refine Pur.of Tryd.func48 (by kernel_rfl) (by kernel_rfl) (by kernel_rfl) ?_
  refine Wp.go (mx := true) (fun _ => mixed) [] 100 [] [] (by kernel_rfl) (by kernel_rfl) (by kernel_rfl) trivial ?_
  refine Wp.loopK (by kernel_rfl) (fun (x : Nat × Nat) => ⟨[(6, .v (.c (.ptr 0 0)))], [(0, .ob (.it s x.1))], 16⟩) (fun x => validT s = validN s x.2 x.1 ∧ s.length - x.1 ≤ x.2) (fun x => x.2) (0, s.length) (Ent.of [(0, 32)] (by kernel_rfl) (by kernel_rfl) (by kernel_rfl) trivial) ⟨rfl, Nat.le_refl _⟩ ?_
  rintro ⟨pos, n⟩ L ⟨h1, h2⟩ again
  by_cases hp : pos < s.length
  · obtain ⟨n, rfl⟩ : ∃ m, n = m + 1 := ⟨n - 1, by simp only at h2; omega⟩
    have hw := runeW_pos s pos
    simp only [validN, if_pos hp] at h1
    refine Wp.go (mx := true) (fun _ => mixed) [(2, {grd := [(0, true)]})] 100 [true] [pos < s.length, true = true] (by kernel_rfl) (by kernel_rfl) (by kernel_rfl) ⟨hp, rfl⟩ ?_
    refine Wp.cond' (by kernel_rfl) (runeAt s pos == 65533) (by kernel_rfl) (fun h => ?_) (fun h => ?_)
    · refine Wp.go (mx := true) (fun _ => mixed) [] 100 [] [] (by kernel_rfl) (by kernel_rfl) (by kernel_rfl) trivial ?_
      refine Wp.ret' (by kernel_rfl) ?_
      exact FinQ.pure (rs' := [.c (.bool false)]) (by kernel_rfl) (by rw [h1, if_pos h]) (by kernel_rfl)
    · refine Wp.go (mx := true) (fun _ => mixed) [] 100 [] [] (by kernel_rfl) (by kernel_rfl) (by kernel_rfl) trivial ?_
      exact Wp.lpK (by kernel_rfl) (again _ (pos + runeW s pos, n) ⟨by rw [h1, if_neg (by simp [h])], by simp only at h2 ⊢; omega⟩ (by simp only; omega) (Ent.of [(0, 0)] (by kernel_rfl) (by kernel_rfl) (by kernel_rfl) trivial))
  · refine Wp.go (mx := true) (fun _ => mixed) [(2, {grd := [(0, false)]})] 100 [false] [s.length ≤ pos, false = false] (by kernel_rfl) (by kernel_rfl) (by kernel_rfl) ⟨by omega, rfl⟩ ?_
    refine Wp.ret' (by kernel_rfl) ?_
    exact FinQ.pure (rs' := [.c (.bool true)]) (by kernel_rfl) (by rw [h1]; cases n <;> simp [validN, hp]) (by kernel_rfl)
end Go.Proofs.Tw
