/-
  The calls of layer 21's play: a slice of them that came in.
-/
import Derived.Test.YtnccgmffgmfinaaT7
namespace Go.Proofs.Ytnccgmffgmfinaa
open Go.RowKit Go.ChangeShapes Go.WideShapes Go.ChangeAt Go.Deep Go.Shelf

structure Act21 where
  op : Int
  x : Nat
  o : Nat
def Act21.ok (t : Act21) : Prop := t.x < 65536 ∧ t.o < 65536
def Act21At (w : World) (b a : Nat) (t : Act21) : Prop :=
  w.cell? ⟨b, a, none⟩ = some (.int .i64 t.op) ∧ w.cell? ⟨b, a + 1, none⟩ = some (.int .u16 t.x) ∧ w.cell? ⟨b, a + 2, none⟩ = some (.int .u16 t.o)
/-- the slice's calls, where there are any -/
def Act21Arr (w : World) (A : Option Addr) (l : List Act21) : Prop :=
  0 < l.length → ∃ b off, A = some ⟨b, off, none⟩ ∧ b < w.heap.size ∧ ∀ i t, l[i]? = some t → t.ok ∧ Act21At w b (off + i * 3) t

set_option maxRecDepth 20000
section
variable {H : Type} {enc : TypeId × Value → H} {w : World} {base : Nat} {spare : Nat → Bool} {held : Bool}
/-- one field's reading -/
theorem trod_fld21 {t ty : TypeId} {fs : Array Field} {fuel i off sz : Nat} {cs : List Value} {x : DataW H × List MemPlace} (ht : Try.prog.underlying t = some (.struct fs)) (h : DataW.trod enc Try.prog w base spare held fuel t cs = some x)
    (hf : (fs[i]?).map (fun f => (f.type, f.offset)) = some (ty, off)) (hs : Try.prog.cellsOf ty = sz) : ∃ n y, DataW.trod enc Try.prog w base spare held n ty ((cs.drop off).take sz) = some y := by
  obtain ⟨ys, n, _, _, _, hl, hfl⟩ := DataW.trod_struct ht h
  obtain ⟨f, h1, h2⟩ := Option.map_eq_some_iff.1 hf
  injection h2 with h2 h3
  subst h2 h3 hs
  have h4 := hfl i f h1
  have hi : i < fs.size := (Array.getElem?_eq_some_iff.1 h1).1
  rw [List.getElem?_eq_getElem (by omega)] at h4
  exact ⟨n, _, h4⟩
theorem open_acts21 {v : Value} {d : DataW H} {p : List MemPlace} {r : Reach} {b0 : Nat} (hv : Value.okWide Try.prog w r b0 63 v) (h : DataW.Trod enc Try.prog w base spare held 63 v d p) :
    ∃ (A : Option Addr) (l : List Act21) (c : Nat), v = .slice A l.length c ∧ Act21Arr w A l ∧ l.length ≤ 9223372036854775807 := by
  obtain ⟨a0, len, cap, rfl⟩ := okWide_slice Try.underlying63 hv
  obtain ⟨fuel, hf⟩ := h
  rcases open_slice Try.underlying63 hf with ⟨hcs, _⟩ | ⟨a, l, c, m, n, D, Pl, hcs, _, hl, hm, hmm, _, hi⟩
  · simp [Value.cells] at hcs
    obtain ⟨rfl, rfl, rfl⟩ := hcs
    exact ⟨none, [], 0, rfl, fun h => by simp at h, by simp⟩
  · simp [Value.cells] at hcs
    obtain ⟨rfl, rfl, rfl⟩ := hcs
    have hlm : len ≤ m := by rw [hmm]; split <;> omega
    have hC : Try.prog.cellsOf 69 = 3 := by kernel_rfl
    have hCi : Try.prog.cellsOf 3 = 1 := by kernel_rfl
    have hCu : Try.prog.cellsOf 43 = 1 := by kernel_rfl
    rw [hC] at hi
    obtain ⟨its, hql, hq⟩ := list_of_forall (P := fun i (t : Act21) => t.ok ∧ w.cell? (a.add (i * 3)) = some (.int .i64 t.op) ∧ w.cell? (a.add (i * 3 + 1)) = some (.int .u16 t.x) ∧ w.cell? (a.add (i * 3 + 2)) = some (.int .u16 t.o)) len (fun i hilt => by
      obtain ⟨cs', hc, ht'⟩ := hi i (by omega)
      obtain ⟨_, hcl, hat⟩ := World.cells?_some hc
      obtain ⟨x0, x1, x2, rfl⟩ : ∃ x0 x1 x2, cs' = [x0, x1, x2] := by
        match cs', hcl with
        | [x0, x1, x2], _ => exact ⟨x0, x1, x2, rfl⟩
      obtain ⟨_, _, f0⟩ := trod_fld21 (i := 0) Try.underlying69 ht' rfl hCi
      obtain ⟨_, _, f1⟩ := trod_fld21 (i := 1) Try.underlying69 ht' rfl hCu
      obtain ⟨_, _, f2⟩ := trod_fld21 (i := 2) Try.underlying69 ht' rfl hCu
      obtain ⟨o0, e0, -, w0⟩ := DataW.trod_int Try.underlying3 f0
      obtain ⟨o1, e1, -, w1⟩ := DataW.trod_int Try.underlying43 f1
      obtain ⟨o2, e2, -, w2⟩ := DataW.trod_int Try.underlying43 f2
      have b1 := bounds_u16 w1
      have b2 := bounds_u16 w2
      simp at e0 e1 e2
      subst e0 e1 e2
      obtain ⟨o1, rfl⟩ := Int.eq_ofNat_of_zero_le b1.1
      obtain ⟨o2, rfl⟩ := Int.eq_ofNat_of_zero_le b2.1
      have h0 := hat 0 (by omega)
      have h1 := hat 1 (by omega)
      have h2 := hat 2 (by omega)
      rw [Go.Deep.add_add] at h0 h1 h2
      exact ⟨⟨o0, o1, o2⟩, ⟨by have := b1.2; show o1 < 65536; omega, by have := b2.2; show o2 < 65536; omega⟩, h0, h1, h2⟩)
    refine ⟨some a, its, cap, by rw [hql], fun hpos => ?_, by unfold maxLen at hm; omega⟩
    have h0 := hq 0 _ (List.getElem?_eq_getElem hpos)
    obtain ⟨_, hc0, _⟩ := h0
    have ha := plain_addr (by simpa using hc0)
    rw [ha] at hq
    refine ⟨a.block, a.off, by rw [← ha], ?_, fun i t hit => ?_⟩
    · have := block_lt_of_cell (a := a.add (0 * 3)) hc0
      simpa [Addr.add] using this
    · have := hq i t hit
      simp only [add_plain] at this
      exact ⟨this.1, this.2.1, this.2.2.1, this.2.2.2⟩
end
end Go.Proofs.Ytnccgmffgmfinaa
