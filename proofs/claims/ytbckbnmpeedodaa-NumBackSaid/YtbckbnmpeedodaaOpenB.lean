/-
  Bytes, and a slice of items, among a law's arguments.
-/
import Derived.Test.YtbckbnmpeedodaaItems
import Derived.Test.YtbckbnmpeedodaaOpenS
namespace Go.Proofs.Ytbckbnmpeedodaa
open Go.RowKit Go.ChangeShapes Go.WideShapes Go.ChangeAt Go.Deep

section
variable {H : Type} {enc : TypeId × Value → H} {w : World} {base : Nat} {spare : Nat → Bool} {held : Bool}

/-- bytes out of a list of numbers -/
theorem rd_of_zs {a : Addr} {len cap : Nat} {zs : List Int} (hl : len ≤ cap) (hm : cap ≤ maxLen) (hz : len ≤ zs.length) (hcell : ∀ i, i < zs.length → w.cell? (a.add i) = some (.int .u8 (zs.getD i 0))) (hwz : ∀ n ∈ zs, (Lit.int .u8 n).wf = true) :
    ∃ (g : Option Nat) (L : List UInt8), Rd w (.slice (some a) len cap) g (L.map bv) ∧ Under w.heap.size g ∧ L.length = len := by
  have hval : ∀ i (hi : i < zs.length), Value.int .u8 (zs.getD i 0) = bv (UInt8.ofNat zs[i].toNat) := fun i hi => by
    have hb := bounds_u8 (hwz zs[i] (List.getElem_mem hi))
    have e : zs.getD i 0 = zs[i] := by simp [List.getD, hi]
    rw [e]
    unfold bv
    congr 1
    simp
    omega
  let L : List UInt8 := (zs.take len).map fun n => UInt8.ofNat n.toNat
  have hL : L.length = len := by simp [L]; omega
  have hget : ∀ j u, (L.map bv)[j]? = some u → w.cell? (a.add j) = some u := fun j u hj => by
    have hj' : j < len := by have := (List.getElem?_eq_some_iff.1 hj).1; simpa [hL] using this
    rw [hcell j (by omega), hval j (by omega), ← hj]
    simp [L, hj', show j < zs.length by omega]
  by_cases h0 : len = 0
  · refine ⟨none, L, .inr ⟨a, cap, by simp [hL], Under.none _, fun hp => absurd hp (by simp [hL]; omega), by simp [hL]; omega, hm, hget⟩, Under.none _, hL⟩
  · have hc0 := hcell 0 (by omega)
    have hp := plain_addr hc0
    have hlt := block_lt_of_cell hc0
    rw [add_block] at hlt
    exact ⟨some a.block, L, .inr ⟨a, cap, by simp [hL], fun b hb => (by injection hb with hb; omega), fun _ => ⟨rfl, by rw [hp]⟩, by simp [hL]; omega, hm, hget⟩, fun b hb => (by injection hb with hb; omega), hL⟩

theorem open_bytes_cells {fuel : Nat} {v : Value} {x : DataW H × List MemPlace} (h : DataW.trod enc Try.prog w base spare held fuel 28 [v] = some x) :
    ∃ (g : Option Nat) (L : List UInt8), Rd w v g (L.map bv) ∧ Under w.heap.size g := by
  rcases open_ints Try.underlying28 Try.underlying5 (by kernel_rfl) h with ⟨hcs, _⟩ | ⟨a, l, c, zs, hcs, _, hl, hm, hz, _, hcell, hwz⟩
  · simp at hcs
    subst hcs
    exact ⟨none, [], Rd.nil _, Under.none _⟩
  · simp at hcs
    subst hcs
    obtain ⟨g, L, h1, h2, _⟩ := rd_of_zs hl hm (by rw [hz]; split <;> omega) hcell hwz
    exact ⟨g, L, h1, h2⟩

theorem open_bytes {v : Value} {d : DataW H} {p : List MemPlace} {r : Reach} {b0 : Nat} (hv : Value.okWide Try.prog w r b0 28 v) (h : DataW.Trod enc Try.prog w base spare held 28 v d p) :
    ∃ (g : Option Nat) (L : List UInt8), Rd w v g (L.map bv) ∧ Under w.heap.size g := by
  obtain ⟨a0, len, cap, rfl⟩ := okWide_slice Try.underlying28 hv
  obtain ⟨fuel, hf⟩ := h
  exact open_bytes_cells hf

theorem open_items {v : Value} {d : DataW H} {p : List MemPlace} {r : Reach} {b0 : Nat} (hv : Value.okWide Try.prog w r b0 46 v) (h : DataW.Trod enc Try.prog w base spare held 46 v d p) :
    ∃ (A : Option Addr) (its : List It) (c : Nat), v = .slice A its.length c ∧ IArr w A its ∧ its.length ≤ 9223372036854775807 := by
  obtain ⟨a0, len, cap, rfl⟩ := okWide_slice Try.underlying46 hv
  obtain ⟨fuel, hf⟩ := h
  rcases open_slice_fields Try.underlying46 Try.underlying48 (by kernel_rfl) (by kernel_rfl) hf with ⟨hcs, _⟩ | ⟨a, l, c, m, D, Pl, hcs, _, hl, hm, hmm, _, hi⟩
  · simp [Value.cells] at hcs
    obtain ⟨rfl, rfl, rfl⟩ := hcs
    exact ⟨none, [], 0, rfl, fun h => by simp at h, by simp⟩
  · simp [Value.cells] at hcs
    obtain ⟨rfl, rfl, rfl⟩ := hcs
    have hlm : len ≤ m := by rw [hmm]; split <;> omega
    obtain ⟨its, hql, hq⟩ := list_of_forall (P := fun i (t : It) => t.ok ∧ ∃ (vb : Value) (g : Option Nat), w.cell? (a.add (i * 4)) = some (.bool t.is_) ∧ w.cell? (a.add (i * 4 + 1)) = some (.int .i64 t.n) ∧ w.cell? (a.add (i * 4 + 2)) = some (.int .u64 t.v) ∧
        w.cell? (a.add (i * 4 + 3)) = some vb ∧ Rd w vb g (t.b.map bv) ∧ Under w.heap.size g) len (fun i hilt => by
      obtain ⟨ys, n, _, _, _, hfld⟩ := hi i (by omega)
      obtain ⟨v0, y0, hc0, _, ht0⟩ := hfld 0 _ rfl
      obtain ⟨v1, y1, hc1, _, ht1⟩ := hfld 1 _ rfl
      obtain ⟨v2, y2, hc2, _, ht2⟩ := hfld 2 _ rfl
      obtain ⟨v3, y3, hc3, _, ht3⟩ := hfld 3 _ rfl
      obtain ⟨x0, e0, -⟩ := DataW.trod_bool Try.underlying4 ht0
      obtain ⟨x1, e1, -, w1⟩ := DataW.trod_int Try.underlying3 ht1
      obtain ⟨x2, e2, -, w2⟩ := DataW.trod_int Try.underlying23 ht2
      obtain ⟨g, L, hr, hu⟩ := open_bytes_cells ht3
      have b1 := bounds_i64 w1
      have b2 := bounds_u64 w2
      simp only [List.cons.injEq, and_true] at e0 e1 e2
      subst e0 e1 e2
      obtain ⟨x2, rfl⟩ := Int.eq_ofNat_of_zero_le b2.1
      exact ⟨⟨x0, x1, x2, L⟩, ⟨b1, by dsimp only; omega⟩, v3, g, hc0, hc1, hc2, hc3, hr, hu⟩)
    refine ⟨some a, its, cap, by rw [hql], fun hpos => ?_, by unfold maxLen at hm; omega⟩
    have h0 := hq 0 _ (List.getElem?_eq_getElem hpos)
    obtain ⟨_, _, _, hc0, _⟩ := h0
    have ha := plain_addr (by simpa using hc0)
    rw [ha] at hq
    refine ⟨a.block, a.off, by rw [← ha], ?_, fun i t hit => ?_⟩
    · have := block_lt_of_cell (a := a.add (0 * 4)) hc0
      simpa [Addr.add] using this
    · have := hq i t hit
      simp only [add_plain] at this
      exact this
end
end Go.Proofs.Ytbckbnmpeedodaa
