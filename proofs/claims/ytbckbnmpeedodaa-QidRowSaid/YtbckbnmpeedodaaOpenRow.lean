/-
  A qid, bytes and rows of qids among a law's arguments: what is known of the value that came in.
-/
import Derived.Test.YtbckbnmpeedodaaQid
import Derived.Test.YtbckbnmpeedodaaOpenS
import Derived.Test.YtbckbnmpeedodaaRow
import Derived.ProofKit
import Derived.OpenShut
import Derived.Lib.SmallJoins
namespace Go.Proofs.Ytbckbnmpeedodaa
open Go.RowKit Go.ChangeShapes Go.WideShapes Go.ChangeAt Go.Deep

section
variable {H : Type} {enc : TypeId × Value → H} {w : World} {base : Nat} {spare : Nat → Bool} {held : Bool}
theorem open_qid {r : Reach} {b0 : Nat} {v : Value} {d : DataW H} {p : List MemPlace} (hv : Value.okWide Try.prog w r b0 25 v) (h : DataW.Trod enc Try.prog w base spare held 25 v d p) :
    ∃ q : Q, q.ok ∧ v = .agg #[.int .u8 q.t, .int .u32 q.v, .int .u64 q.p] := by
  obtain ⟨c0, c1, c2, y0, y1, y2, m, rfl, -, -, h0, h1, h2⟩ := Joins.open_agg3 Try.underlying25 (by kernel_rfl) (by kernel_rfl) hv h
  obtain ⟨a0, e0, -, w0⟩ := DataW.trod_int Try.underlying5 h0
  obtain ⟨a1, e1, -, w1⟩ := DataW.trod_int Try.underlying22 h1
  obtain ⟨a2, e2, -, w2⟩ := DataW.trod_int Try.underlying23 h2
  have b0 := bounds_u8 w0
  have b1 := bounds_u32 w1
  have b2 := bounds_u64 w2
  simp only [List.cons.injEq, and_true] at e0 e1 e2
  subst e0 e1 e2
  obtain ⟨x0, rfl⟩ := Int.eq_ofNat_of_zero_le b0.1
  obtain ⟨x1, rfl⟩ := Int.eq_ofNat_of_zero_le b1.1
  obtain ⟨x2, rfl⟩ := Int.eq_ofNat_of_zero_le b2.1
  exact ⟨⟨x0, x1, x2⟩, ⟨by dsimp only; omega, by dsimp only; omega, by dsimp only; omega⟩, rfl⟩
theorem open_qids {r : Reach} {b0 : Nat} {v : Value} {d : DataW H} {p : List MemPlace} (hv : Value.okWide Try.prog w r b0 71 v) (h : DataW.Trod enc Try.prog w base spare held 71 v d p) :
    ∃ (A : Option Addr) (qs : List Q) (c : Nat), v = .slice A qs.length c ∧ QArr w A qs ∧ qs.length ≤ 9223372036854775807 := by
  obtain ⟨a0, len, cap, rfl⟩ := okWide_slice Try.underlying71 hv
  obtain ⟨fuel, hf⟩ := h
  rcases open_slice_fields Try.underlying71 Try.underlying25 (by kernel_rfl) (by kernel_rfl) hf with ⟨hcs, _⟩ | ⟨a, l, c, m, D, Pl, hcs, _, hl, hm, hmm, _, hi⟩
  · simp [Value.cells] at hcs
    obtain ⟨rfl, rfl, rfl⟩ := hcs
    exact ⟨none, [], 0, rfl, ⟨by simp, by simp⟩, by simp⟩
  · simp [Value.cells] at hcs
    obtain ⟨rfl, rfl, rfl⟩ := hcs
    have hlm : len ≤ m := by rw [hmm]; split <;> omega
    obtain ⟨qs, hql, hq⟩ := list_of_forall (P := fun i (q : Q) => q.ok ∧ w.cell? (a.add (i * 3)) = some (.int .u8 q.t) ∧ w.cell? (a.add (i * 3 + 1)) = some (.int .u32 q.v) ∧ w.cell? (a.add (i * 3 + 2)) = some (.int .u64 q.p)) len (fun i hilt => by
      obtain ⟨ys, n, _, _, _, hfld⟩ := hi i (by omega)
      obtain ⟨v0, y0, hc0, _, ht0⟩ := hfld 0 _ rfl
      obtain ⟨v1, y1, hc1, _, ht1⟩ := hfld 1 _ rfl
      obtain ⟨v2, y2, hc2, _, ht2⟩ := hfld 2 _ rfl
      obtain ⟨x0, e0, -, w0⟩ := DataW.trod_int Try.underlying5 ht0
      obtain ⟨x1, e1, -, w1⟩ := DataW.trod_int Try.underlying22 ht1
      obtain ⟨x2, e2, -, w2⟩ := DataW.trod_int Try.underlying23 ht2
      have b0 := bounds_u8 w0
      have b1 := bounds_u32 w1
      have b2 := bounds_u64 w2
      simp only [List.cons.injEq, and_true] at e0 e1 e2
      subst e0 e1 e2
      obtain ⟨x0, rfl⟩ := Int.eq_ofNat_of_zero_le b0.1
      obtain ⟨x1, rfl⟩ := Int.eq_ofNat_of_zero_le b1.1
      obtain ⟨x2, rfl⟩ := Int.eq_ofNat_of_zero_le b2.1
      exact ⟨⟨x0, x1, x2⟩, ⟨by dsimp only; omega, by dsimp only; omega, by dsimp only; omega⟩, hc0, hc1, hc2⟩)
    refine ⟨some a, qs, cap, by rw [hql], ⟨fun q hmem => ?_, fun hpos => ?_⟩, by unfold maxLen at hm; omega⟩
    · obtain ⟨i, hi⟩ := List.getElem?_of_mem hmem
      exact (hq i q hi).1
    · have h0 := hq 0 _ (List.getElem?_eq_getElem hpos)
      have ha := plain_addr (by simpa using h0.2.1)
      rw [ha] at hq
      refine ⟨a.block, a.off, by rw [← ha], ?_, fun i q hiq => ?_⟩
      · have := block_lt_of_cell (a := a.add (0 * 3)) h0.2.1
        simpa [Addr.add] using this
      · have := (hq i q hiq).2
        simp only [add_plain] at this
        exact this
end
end Go.Proofs.Ytbckbnmpeedodaa
