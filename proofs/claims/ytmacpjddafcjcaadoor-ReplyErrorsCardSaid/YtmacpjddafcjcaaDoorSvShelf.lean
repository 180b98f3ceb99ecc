/-
  Own layer 'SV': what the kit's shelf shows of a function of the library, as a contract of this layer.
-/
import Derived.Test.YtmacpjddafcjcaaDoorSvEnt
set_option linter.all false
open Go Go.RowKit
namespace Go.Sv

/-- A function that leaves what was there as it was. -/
theorem Pur.of_below {P : Program} {G : Nat → Option (List Cell)} {f : FuncId} {args rs : List V1} (hfl : flatsV rs = true)
    (h : ∀ (D : Dat) (ρ : Rho) (w : World) (vs : Array Value), DenL D ρ args vs → GlobOk G D → GlobW G w → Agree D w →
      Calls P f vs w fun e w' => ∃ v, e = .returned v ∧ ResDen D ρ rs v ∧ Below w.heap.size w w') : Pur P G f args rs := by
  intro D ρ w vs h1 h2 hgw h3 _ _
  refine (h D ρ w vs h1 h2 hgw h3).mono ?_
  rintro e w' ⟨v, rfl, hr, hb⟩
  refine ⟨rs, [], D, ρ, v, rfl, ⟨rfl, rfl⟩, hr, fun j x hj => flatsV_inS hfl j x hj, ?_⟩
  have ag : Agree D w' := by
    intro b o v hv
    have := h3 b o v hv
    rw [cell_block (hb.block b (heap_of_cell this))]
    exact this
  exact { hp := fun id b hb => by simp [look] at hb
          inj := fun i j bi bj hi => by simp [look] at hi
          sep := fun id b hb => by simp [look] at hb
          agree := ag
          le := DatLe.refl D
          kin := fun i hi => rfl
          own := fun id b hb => by simp [look] at hb
          newD := fun b o v hv => .inl hv
          frame := fun b hlt _ => hb.block b hlt
          os := hb.os
          tape := hb.tape
          output := hb.output
          grow := hb.size
          ids := fun id b hb => by simp [look] at hb }

theorem DenL.one {D : Dat} {ρ : Rho} {x : V1} {vs : Array Value} (h : DenL D ρ [x] vs) : ∃ u, vs = #[u] ∧ DenV D ρ x u := by
  obtain ⟨u, hu, hd⟩ := h.2 0 x rfl
  refine ⟨u, ?_, hd⟩
  have hs := h.1
  apply Array.ext_getElem?
  intro k
  cases k with
  | zero => simpa using hu
  | succ k => rw [Array.getElem?_eq_none (by simp at hs ⊢; omega)]; simp
theorem DenL.two {D : Dat} {ρ : Rho} {x y : V1} {vs : Array Value} (h : DenL D ρ [x, y] vs) : ∃ u v, vs = #[u, v] ∧ DenV D ρ x u ∧ DenV D ρ y v := by
  obtain ⟨u, hu, hd⟩ := h.2 0 x rfl
  obtain ⟨v, hv, hd'⟩ := h.2 1 y rfl
  refine ⟨u, v, ?_, hd, hd'⟩
  have hs := h.1
  apply Array.ext_getElem?
  intro k
  match k with
  | 0 => simpa using hu
  | 1 => simpa using hv
  | k + 2 => rw [Array.getElem?_eq_none (by simp at hs ⊢; omega)]; simp
end Go.Sv
