/-
  A slice of ints among a law's arguments.
-/
import Derived.Test.YtnccgmffgmfinaaOpenBy
namespace Go.Proofs.Ytnccgmffgmfinaa
open Go.RowKit Go.ChangeShapes Go.WideShapes Go.ChangeAt Go.Deep

section
variable {H : Type} {enc : TypeId × Value → H} {w : World} {base : Nat} {spare : Nat → Bool} {held : Bool}
set_option maxRecDepth 20000 in
theorem open_intsI {v : Value} {d : DataW H} {p : List MemPlace} {r : Reach} {b0 : Nat} (hv : Value.okWide Try.prog w r b0 49 v) (h : DataW.Trod enc Try.prog w base spare held 49 v d p) :
    ∃ (g : Option Nat) (zs : List Int), Rd w v g (zs.map (Value.int .i64)) ∧ ∀ z ∈ zs, -9223372036854775808 ≤ z ∧ z ≤ 9223372036854775807 := by
  obtain ⟨a0, len, cap, rfl⟩ := okWide_slice Try.underlying49 hv
  obtain ⟨fuel, hf⟩ := h
  rcases open_ints Try.underlying49 Try.underlying3 (by kernel_rfl) hf with ⟨hcs, _⟩ | ⟨a, l, c, zs, hcs, _, hl, hm, hz, _, hcell, hwz⟩
  · simp [Value.cells] at hcs
    obtain ⟨rfl, rfl, rfl⟩ := hcs
    exact ⟨none, [], Rd.nil _, fun z hz => by simp at hz⟩
  · simp [Value.cells] at hcs
    obtain ⟨rfl, rfl, rfl⟩ := hcs
    have hlz : len ≤ zs.length := by rw [hz]; split <;> omega
    obtain ⟨L, hLd⟩ : ∃ L, L = zs.take len := ⟨_, rfl⟩
    have hb : ∀ z ∈ L, -9223372036854775808 ≤ z ∧ z ≤ 9223372036854775807 := fun z hz => bounds_i64 (hwz z (List.mem_of_mem_take (by rw [← hLd]; exact hz)))
    have hL : L.length = len := by rw [hLd]; simp; omega
    have hget : ∀ j u, (L.map (Value.int .i64))[j]? = some u → w.cell? (a.add j) = some u := fun j u hj => by
      have hj' : j < len := by have := (List.getElem?_eq_some_iff.1 hj).1; rw [List.length_map, hL] at this; exact this
      rw [hcell j (by omega), ← hj, hLd]
      simp [hj', show j < zs.length by omega, List.getD]
    by_cases h0 : len = 0
    · exact ⟨none, L, .inr ⟨a, cap, by simp [hL], Under.none _, fun hp => absurd hp (by simp [hL]; omega), by simp [hL]; omega, hm, hget⟩, hb⟩
    · have hc0 := hcell 0 (by omega)
      have hp := plain_addr hc0
      have hlt := block_lt_of_cell hc0
      rw [add_block] at hlt
      exact ⟨some a.block, L, .inr ⟨a, cap, by simp [hL], fun b hb => (by injection hb with hb; omega), fun _ => ⟨rfl, by rw [hp]⟩, by simp [hL]; omega, hm, hget⟩, hb⟩
end
end Go.Proofs.Ytnccgmffgmfinaa
