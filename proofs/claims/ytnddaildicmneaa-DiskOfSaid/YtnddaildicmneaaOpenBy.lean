/-
  Bytes among a law's arguments.
-/
import Derived.Test.YtnddaildicmneaaRows
import Derived.Lib.SmallJoins
import Derived.Test.YtnddaildicmneaaOpenS
namespace Go.Proofs.Ytnddaildicmneaa
open Go.RowKit Go.ChangeShapes Go.WideShapes Go.ChangeAt Go.Deep

section
variable {H : Type} {enc : TypeId × Value → H} {w : World} {base : Nat} {spare : Nat → Bool} {held : Bool}

/-- bytes out of a list of numbers -/
theorem rd_of_zs {a : Addr} {len cap : Nat} {zs : List Int} (hl : len ≤ cap) (hm : cap ≤ maxLen) (hz : len ≤ zs.length) (hcell : ∀ i, i < zs.length → w.cell? (a.add i) = some (.int .u8 (zs.getD i 0))) (hwz : ∀ n ∈ zs, (Lit.int .u8 n).wf = true) :
    ∃ (g : Option Nat) (L : List UInt8), Rd w (.slice (some a) len cap) g (L.map bv) ∧ Under w.heap.size g ∧ L.length = len := by
  have hval : ∀ i (hi : i < zs.length), Value.int .u8 (zs.getD i 0) = bv (UInt8.ofNat zs[i].toNat) := fun i hi => by
    have hb := bounds_u8 (hwz zs[i] (List.getElem_mem hi))
    have e : zs.getD i 0 = zs[i] := by simp [List.getD, hi]
    rw [e]
    unfold bv
    congr 1
    simp
    omega
  let L : List UInt8 := (zs.take len).map fun n => UInt8.ofNat n.toNat
  have hL : L.length = len := by simp [L]; omega
  have hget : ∀ j u, (L.map bv)[j]? = some u → w.cell? (a.add j) = some u := fun j u hj => by
    have hj' : j < len := by have := (List.getElem?_eq_some_iff.1 hj).1; simpa [hL] using this
    rw [hcell j (by omega), hval j (by omega), ← hj]
    simp [L, hj', show j < zs.length by omega]
  by_cases h0 : len = 0
  · refine ⟨none, L, .inr ⟨a, cap, by simp [hL], Under.none _, fun hp => absurd hp (by simp [hL]; omega), by simp [hL]; omega, hm, hget⟩, Under.none _, hL⟩
  · have hc0 := hcell 0 (by omega)
    have hp := plain_addr hc0
    have hlt := block_lt_of_cell hc0
    rw [add_block] at hlt
    exact ⟨some a.block, L, .inr ⟨a, cap, by simp [hL], fun b hb => (by injection hb with hb; omega), fun _ => ⟨rfl, by rw [hp]⟩, by simp [hL]; omega, hm, hget⟩, fun b hb => (by injection hb with hb; omega), hL⟩

set_option maxRecDepth 20000 in
theorem open_bytes_cells {fuel : Nat} {v : Value} {x : DataW H × List MemPlace} (h : DataW.trod enc Try.prog w base spare held fuel 41 [v] = some x) :
    ∃ (g : Option Nat) (L : List UInt8), Rd w v g (L.map bv) ∧ Under w.heap.size g := by
  rcases open_ints Try.underlying41 Try.underlying5 (by kernel_rfl) h with ⟨hcs, _⟩ | ⟨a, l, c, zs, hcs, _, hl, hm, hz, _, hcell, hwz⟩
  · simp at hcs
    subst hcs
    exact ⟨none, [], Rd.nil _, Under.none _⟩
  · simp at hcs
    subst hcs
    obtain ⟨g, L, h1, h2, _⟩ := rd_of_zs hl hm (by rw [hz]; split <;> omega) hcell hwz
    exact ⟨g, L, h1, h2⟩

set_option maxRecDepth 20000 in
theorem open_bytes {v : Value} {d : DataW H} {p : List MemPlace} {r : Reach} {b0 : Nat} (hv : Value.okWide Try.prog w r b0 41 v) (h : DataW.Trod enc Try.prog w base spare held 41 v d p) :
    ∃ (g : Option Nat) (L : List UInt8), Rd w v g (L.map bv) ∧ Under w.heap.size g := by
  obtain ⟨a0, len, cap, rfl⟩ := okWide_slice Try.underlying41 hv
  obtain ⟨fuel, hf⟩ := h
  exact open_bytes_cells hf

set_option maxRecDepth 20000 in
theorem open_bytes_len {v : Value} {d : DataW H} {p : List MemPlace} {r : Reach} {b0 : Nat} (hv : Value.okWide Try.prog w r b0 41 v) (h : DataW.Trod enc Try.prog w base spare held 41 v d p) :
    ∃ (g : Option Nat) (L : List UInt8), Rd w v g (L.map bv) ∧ Under w.heap.size g ∧ (L = [] ∨ ∃ elems spare', d = .slice elems spare' ∧ L.length = elems.length) := by
  obtain ⟨a0, len, cap, rfl⟩ := okWide_slice Try.underlying41 hv
  obtain ⟨fuel, hf⟩ := h
  rcases open_ints Try.underlying41 Try.underlying5 (by kernel_rfl) hf with ⟨hcs, _⟩ | ⟨a, l, c, zs, hcs, _, hl, hm, hz, hx, hcell, hwz⟩
  · simp [Value.cells] at hcs
    obtain ⟨rfl, rfl, rfl⟩ := hcs
    exact ⟨none, [], Rd.nil _, Under.none _, .inl rfl⟩
  · simp [Value.cells] at hcs
    obtain ⟨rfl, rfl, rfl⟩ := hcs
    have hlz : len ≤ zs.length := by rw [hz]; split <;> omega
    obtain ⟨g, L, h1, h2, h3⟩ := rd_of_zs hl hm hlz hcell hwz
    injection hx with hx1 hx2
    exact ⟨g, L, h1, h2, .inr ⟨_, _, hx1, by simp [lits]; omega⟩⟩

end
end Go.Proofs.Ytnddaildicmneaa
