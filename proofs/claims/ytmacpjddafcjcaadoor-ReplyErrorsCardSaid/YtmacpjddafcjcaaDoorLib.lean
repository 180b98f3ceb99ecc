import Derived.Test.YtmacpjddafcjcaaDoorSvShelf
import Derived.Test.YtmacpjddafcjcaaDoorShelf
set_option linter.all false
open Go Go.Sv Go.RowKit
namespace Go.Proofs

theorem lib_FormatBool {G : Nat → Option (List Cell)} (b : Bool) : Pur Tryd.prog G 30 [.c (.bool b)] [.c (.str (Lib.formatBool b))] := by
  refine Pur.of_below rfl ?_
  intro D ρ w vs h1 _ _ _
  obtain ⟨u, rfl, hu⟩ := h1.one
  have hu : u = .bool b := hu
  subst hu
  refine (Tryd.strconv_FormatBool b w).mono ?_
  rintro e w' ⟨rfl, rfl⟩
  exact ⟨_, rfl, rfl, Below.refl _ _⟩

theorem lib_Join {G : Nat → Option (List Cell)} (xs : List (List UInt8)) (sep : List UInt8) (hN : xs.length ≤ 140737488355328) (hlen : (Lib.join xs sep).length ≤ 140737488355328) :
    Pur Tryd.prog G 33 [.c (.sl 1 xs.length (fun i j => nthD [.str (xs.getD i [])] j)), .c (.str sep)] [.c (.str (Lib.join xs sep))] := by
  refine Pur.of_below rfl ?_
  intro D ρ w vs h1 _ _ ha
  obtain ⟨u, v, rfl, hu, hv⟩ := h1.two
  have hv : v = .string ⟨sep.toArray⟩ := hv
  subst hv
  have hu : ∃ a cap, u = .slice a xs.length cap ∧ xs.length ≤ cap ∧ cap ≤ maxLen ∧ ((a = none ∧ cap = 0) ∨ ∃ b o, a = some ⟨b, o, none⟩ ∧ ∀ i, i < xs.length → ∀ j, j < 1 → ∃ u, D b (o + i * 1 + j) = some u ∧ Den D rho0 (nthD [.str (xs.getD i [])] j) u) := hu
  obtain ⟨a, cap, rfl, h2, h3, h4⟩ := hu
  by_cases h0 : xs = []
  · subst h0
    refine (Tryd.strings_Join_none a cap _ w).mono ?_
    rintro e w' ⟨rfl, rfl⟩
    exact ⟨_, rfl, rfl, Below.refl _ _⟩
  · have hpos : 0 < xs.length := List.length_pos_iff.2 h0
    rcases h4 with ⟨rfl, rfl⟩ | ⟨b, o, rfl, h4⟩
    · omega
    · have hcells : ∀ (j : Nat) x, (xs.map fun l => (⟨l.toArray⟩ : ByteArray))[j]? = some x → w.cell? ⟨b, o + j, none⟩ = some (.string x) := by
        intro j x hx
        rw [List.getElem?_map, Option.map_eq_some_iff] at hx
        obtain ⟨l, hl, rfl⟩ := hx
        have hj : j < xs.length := by
          rcases Nat.lt_or_ge j xs.length with h | h
          · exact h
          · rw [List.getElem?_eq_none h] at hl; cases hl
        obtain ⟨u, hu, hd⟩ := h4 j hj 0 (by omega)
        have hd : u = .string ⟨(xs.getD j []).toArray⟩ := hd
        subst hd
        have := ha _ _ _ hu
        rw [Nat.mul_one, Nat.add_zero] at this
        rw [this, List.getD_eq_getElem?_getD, hl]
        rfl
      have hmm : (xs.map fun l => (⟨l.toArray⟩ : ByteArray)).map (·.data.toList) = xs := by
        rw [List.map_map]
        conv => rhs; rw [← List.map_id xs]
        exact List.map_congr_left (fun l _ => by simp)
      have hb : b < w.heap.size := by
        obtain ⟨u, hu, _⟩ := h4 0 hpos 0 (by omega)
        exact heap_of_cell (ha _ _ _ hu)
      have := Tryd.strings_Join b o cap (xs.map fun l => (⟨l.toArray⟩ : ByteArray)) ⟨sep.toArray⟩ w hcells hb (by simpa using hN) (by simpa using h2) (by rw [hmm]; exact hlen)
      rw [hmm, List.length_map] at this
      refine this.mono ?_
      rintro e w' ⟨rfl, hbl⟩
      exact ⟨_, rfl, rfl, hbl⟩

/-- A listed table of integers, as the shelf speaks of it. -/
theorem tabIs {P : Program} {G : Nat → Option (List Cell)} {D : Dat} {w : World} {g : Nat} {name : String} {k : IntKind} {zs : List Int} (hg : P.globalNamed name = some g) (hG : G g = some (zs.map fun z => .int k z)) (hne : zs ≠ [])
    (h1 : GlobOk G D) (h2 : GlobW G w) (h3 : Agree D w) : Lib.TabIs P w name k zs := by
  obtain ⟨arr, e, fz, q1, q2⟩ := h2 g _ hG (by simpa using hne)
  unfold Lib.TabIs World.var?
  rw [hg]
  simp only [Option.bind_some, q1, Option.some.injEq]
  apply Array.ext_getElem?
  intro j
  rw [List.length_map] at q2
  rcases Nat.lt_or_ge j zs.length with hj | hj
  · obtain ⟨u, hu, hd⟩ := h1 g _ hG j (.int k zs[j]) (by simp [hj])
    have hd : u = .int k zs[j] := hd
    subst hd
    have := h3 _ _ _ hu
    simp only [World.cell?, q1, Option.isSome_none, Bool.false_eq_true, if_false] at this
    rw [this]
    simp [hj]
  · rw [Array.getElem?_eq_none (by omega), Array.getElem?_eq_none (by simpa using hj)]

theorem below_grow (w : World) (k : Nat) (os : Array Obj) : Below w.heap.size w (Go.Sort.grow (w.drewN k) os) := by
  refine ⟨rfl, rfl, rfl, ?_, ?_⟩
  · simp [Go.Sort.grow]
  · intro b hb
    simp [Go.Sort.grow, Array.getElem?_append, hb]

theorem lib_Itoa {G : Nat → Option (List Cell)} (gp : Nat) (hg : Tryd.prog.globalNamed "internal/strconv.uint64pow10" = some gp) (hG : G gp = some (Lib.pow10Tab.map fun z => .int .u64 z)) (n : Int) (h0 : -9223372036854775808 ≤ n) (h1 : n ≤ 9223372036854775807) :
    Pur Tryd.prog G 31 [.c (.int .i64 n)] [.c (.str (Lib.itoa n))] := by
  refine Pur.of_below rfl ?_
  intro D ρ w vs hv k1 k2 k3
  obtain ⟨u, rfl, hu⟩ := hv.one
  have hu : u = .int .i64 n := hu
  subst hu
  refine (Tryd.strconv_Itoa n h0 h1 w (tabIs hg hG (by decide) k1 k2 k3)).mono ?_
  rintro e w' ⟨rfl, k, os, rfl⟩
  exact ⟨_, rfl, rfl, below_grow w k os⟩
end Go.Proofs
