/-
  A slice of 16-bit numbers, and a slice of slices of bytes, among a law's arguments.
-/
import Derived.Test.YtblmbchjafffbaaOpenBy
import Derived.Test.YtblmbchjafffbaaFBytes
namespace Go.Proofs.Ytblmbchjafffbaa
open Go.RowKit Go.ChangeShapes Go.WideShapes Go.ChangeAt Go.Deep

section
variable {H : Type} {enc : TypeId × Value → H} {w : World} {base : Nat} {spare : Nat → Bool} {held : Bool}
set_option maxRecDepth 20000 in
theorem open_u16s {v : Value} {d : DataW H} {p : List MemPlace} {r : Reach} {b0 : Nat} (hv : Value.okWide Try.prog w r b0 41 v) (h : DataW.Trod enc Try.prog w base spare held 41 v d p) :
    ∃ (g : Option Nat) (Ms : List Nat), Rd w v g (Ms.map uv) ∧ ∀ x ∈ Ms, x ≤ 65535 := by
  obtain ⟨a0, len, cap, rfl⟩ := okWide_slice Try.underlying41 hv
  obtain ⟨fuel, hf⟩ := h
  rcases open_ints Try.underlying41 Try.underlying37 (by kernel_rfl) hf with ⟨hcs, _⟩ | ⟨a, l, c, zs, hcs, _, hl, hm, hz, _, hcell, hwz⟩
  · simp [Value.cells] at hcs
    obtain ⟨rfl, rfl, rfl⟩ := hcs
    exact ⟨none, [], Rd.nil _, fun z hz => by simp at hz⟩
  · simp [Value.cells] at hcs
    obtain ⟨rfl, rfl, rfl⟩ := hcs
    have hlz : len ≤ zs.length := by rw [hz]; split <;> omega
    obtain ⟨L, hLd⟩ : ∃ L, L = (zs.take len).map Int.toNat := ⟨_, rfl⟩
    have hb : ∀ z ∈ zs, 0 ≤ z ∧ z ≤ 65535 := fun z hz => bounds_u16 (hwz z hz)
    have hbL : ∀ x ∈ L, x ≤ 65535 := fun x hx => by
      rw [hLd] at hx
      obtain ⟨z, hz, rfl⟩ := List.mem_map.1 hx
      have := hb z (List.mem_of_mem_take hz)
      omega
    have hL : L.length = len := by rw [hLd]; simp; omega
    have hget : ∀ j u, (L.map uv)[j]? = some u → w.cell? (a.add j) = some u := fun j u hj => by
      have hj' : j < len := by have := (List.getElem?_eq_some_iff.1 hj).1; rw [List.length_map, hL] at this; exact this
      have hz := hb zs[j] (List.getElem_mem (by omega))
      rw [hcell j (by omega), ← hj, hLd]
      have e : ((zs[j].toNat : Nat) : Int) = zs[j] := by omega
      simp [hj', show j < zs.length by omega, List.getD, uv]
      omega
    by_cases h0 : len = 0
    · exact ⟨none, L, .inr ⟨a, cap, by simp [hL], Under.none _, fun hp => absurd hp (by simp [hL]; omega), by simp [hL]; omega, hm, hget⟩, hbL⟩
    · have hc0 := hcell 0 (by omega)
      have hp := plain_addr hc0
      have hlt := block_lt_of_cell hc0
      rw [add_block] at hlt
      exact ⟨some a.block, L, .inr ⟨a, cap, by simp [hL], fun b hb => (by injection hb with hb; omega), fun _ => ⟨rfl, by rw [hp]⟩, by simp [hL]; omega, hm, hget⟩, hbL⟩

set_option maxRecDepth 20000 in
theorem open_parts {v : Value} {d : DataW H} {p : List MemPlace} {r : Reach} {b0 : Nat} (hv : Value.okWide Try.prog w r b0 22 v) (h : DataW.Trod enc Try.prog w base spare held 22 v d p) :
    ∃ (g : Option Nat) (vs : List Value) (Ls : List (List UInt8)), Rd w v g vs ∧ Parts w (fun _ => True) vs Ls := by
  obtain ⟨a0, len, cap, rfl⟩ := okWide_slice Try.underlying22 hv
  obtain ⟨fuel, hf⟩ := h
  rcases open_slice1 Try.underlying22 (by kernel_rfl) hf with ⟨hcs, _⟩ | ⟨a, l, c, m, n, V, D, Pl, hcs, _, hl, hm, hmm, _, hi⟩
  · simp [Value.cells] at hcs
    obtain ⟨rfl, rfl, rfl⟩ := hcs
    exact ⟨none, [], [], Rd.nil _, Parts.nil _ _⟩
  · simp [Value.cells] at hcs
    obtain ⟨rfl, rfl, rfl⟩ := hcs
    have hlm : len ≤ m := by rw [hmm]; split <;> omega
    obtain ⟨Ls, hLl, hLs⟩ := list_of_forall (P := fun i (L : List UInt8) => ∃ g, Rd w (V i) g (L.map bv)) len (fun i hil => by
      obtain ⟨g, L, h1, _⟩ := open_bytes_cells (hi i (by omega)).2
      exact ⟨L, g, h1⟩)
    have hvl : ((List.range len).map V).length = len := by simp
    have hget : ∀ j u, ((List.range len).map V)[j]? = some u → w.cell? (a.add j) = some u := fun j u hj => by
      have hj' : j < len := by have := (List.getElem?_eq_some_iff.1 hj).1; simpa using this
      rw [(hi j (by omega)).1, ← hj]
      simp [hj']
    have hparts : Parts w (fun _ => True) ((List.range len).map V) Ls := ⟨by rw [hvl, hLl], fun i v L h1 h2 => by
      have hi' : i < len := by have := (List.getElem?_eq_some_iff.1 h1).1; simpa using this
      obtain ⟨g, hg⟩ := hLs i L h2
      have : v = V i := by simpa [hi'] using h1.symm
      subst this
      exact ⟨g, hg, fun _ _ => trivial⟩⟩
    by_cases h0 : len = 0
    · exact ⟨none, _, Ls, .inr ⟨a, cap, by rw [hvl], Under.none _, fun hp => absurd hp (by rw [hvl]; omega), by rw [hvl]; omega, hm, hget⟩, hparts⟩
    · have hc0 := (hi 0 (by omega)).1
      have hp := plain_addr hc0
      have hlt := block_lt_of_cell hc0
      rw [add_block] at hlt
      exact ⟨some a.block, _, Ls, .inr ⟨a, cap, by rw [hvl], fun b hb => (by injection hb with hb; omega), fun _ => ⟨rfl, by rw [hp]⟩, by rw [hvl]; omega, hm, hget⟩, hparts⟩
end
end Go.Proofs.Ytblmbchjafffbaa
