/-
  The calls of layer 9's play: a slice of them that came in.
-/
import Derived.Test.YtbckbnmpeedodaaRows
import Derived.Test.YtbckbnmpeedodaaOpenS
import Derived.Lib.SmallJoins
namespace Go.Proofs.Ytbckbnmpeedodaa
open Go.RowKit Go.ChangeShapes Go.WideShapes Go.ChangeAt Go.Deep

structure Act9 where
  op : Int
  n : Int
def Act9.ok (t : Act9) : Prop := -9223372036854775808 ≤ t.n ∧ t.n ≤ 9223372036854775807
/-- the slice's calls, where there are any -/
def ActArr (w : World) (A : Option Addr) (l : List Act9) : Prop :=
  0 < l.length → ∃ b off, A = some ⟨b, off, none⟩ ∧ b < w.heap.size ∧ ∀ i t, l[i]? = some t → t.ok ∧ w.cell? ⟨b, off + i * 2, none⟩ = some (.int .i64 t.op) ∧ w.cell? ⟨b, off + i * 2 + 1, none⟩ = some (.int .i64 t.n)

section
variable {H : Type} {enc : TypeId × Value → H} {w : World} {base : Nat} {spare : Nat → Bool} {held : Bool}
theorem open_acts9 {v : Value} {d : DataW H} {p : List MemPlace} {r : Reach} {b0 : Nat} (hv : Value.okWide Try.prog w r b0 73 v) (h : DataW.Trod enc Try.prog w base spare held 73 v d p) :
    ∃ (A : Option Addr) (l : List Act9) (c : Nat), v = .slice A l.length c ∧ ActArr w A l ∧ l.length ≤ 9223372036854775807 := by
  obtain ⟨a0, len, cap, rfl⟩ := okWide_slice Try.underlying73 hv
  obtain ⟨fuel, hf⟩ := h
  rcases open_slice_fields Try.underlying73 Try.underlying76 (by kernel_rfl) (by kernel_rfl) hf with ⟨hcs, _⟩ | ⟨a, l, c, m, D, Pl, hcs, _, hl, hm, hmm, _, hi⟩
  · simp [Value.cells] at hcs
    obtain ⟨rfl, rfl, rfl⟩ := hcs
    exact ⟨none, [], 0, rfl, fun h => by simp at h, by simp⟩
  · simp [Value.cells] at hcs
    obtain ⟨rfl, rfl, rfl⟩ := hcs
    have hlm : len ≤ m := by rw [hmm]; split <;> omega
    obtain ⟨its, hql, hq⟩ := list_of_forall (P := fun i (t : Act9) => t.ok ∧ w.cell? (a.add (i * 2)) = some (.int .i64 t.op) ∧ w.cell? (a.add (i * 2 + 1)) = some (.int .i64 t.n)) len (fun i hilt => by
      obtain ⟨ys, n, _, _, _, hfld⟩ := hi i (by omega)
      obtain ⟨v0, y0, hc0, _, ht0⟩ := hfld 0 _ rfl
      obtain ⟨v1, y1, hc1, _, ht1⟩ := hfld 1 _ rfl
      obtain ⟨x0, e0, -, w0⟩ := DataW.trod_int Try.underlying3 ht0
      obtain ⟨x1, e1, -, w1⟩ := DataW.trod_int Try.underlying3 ht1
      have b1 := bounds_i64 w1
      simp only [List.cons.injEq, and_true] at e0 e1
      subst e0 e1
      exact ⟨⟨x0, x1⟩, b1, hc0, hc1⟩)
    refine ⟨some a, its, cap, by rw [hql], fun hpos => ?_, by unfold maxLen at hm; omega⟩
    have h0 := hq 0 _ (List.getElem?_eq_getElem hpos)
    obtain ⟨_, hc0, _⟩ := h0
    have ha := plain_addr (by simpa using hc0)
    rw [ha] at hq
    refine ⟨a.block, a.off, by rw [← ha], ?_, fun i t hit => ?_⟩
    · have := block_lt_of_cell (a := a.add (0 * 2)) hc0
      simpa [Addr.add] using this
    · have := hq i t hit
      simp only [add_plain] at this
      exact this
end
end Go.Proofs.Ytbckbnmpeedodaa
