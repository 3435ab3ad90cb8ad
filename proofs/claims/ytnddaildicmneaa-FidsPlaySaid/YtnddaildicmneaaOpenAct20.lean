/-
  The calls of layer 20's play: a slice of them that came in.
-/
import Derived.Test.YtnddaildicmneaaFd3
import Derived.Lib.SmallJoins
namespace Go.Proofs.Ytnddaildicmneaa
open Go.RowKit Go.ChangeShapes Go.WideShapes Go.ChangeAt Go.Deep Go.Shelf

structure Act20 where
  op : Int
  x : Nat
  f : FidV
def Act20.cs (t : Act20) : List Value := .int .i64 t.op :: .int .u32 t.x :: t.f.cs
def Act20.ok (t : Act20) : Prop := t.x < 4294967296
def Act20At (w : World) (b a : Nat) (t : Act20) : Prop := ∀ k, k < 8 → w.cell? ⟨b, a + k, none⟩ = t.cs[k]?
/-- the slice's calls, where there are any -/
def Act20Arr (w : World) (A : Option Addr) (l : List Act20) : Prop :=
  0 < l.length → ∃ b off, A = some ⟨b, off, none⟩ ∧ b < w.heap.size ∧ ∀ i t, l[i]? = some t → t.ok ∧ Act20At w b (off + i * 8) t

set_option maxRecDepth 20000
section
variable {H : Type} {enc : TypeId × Value → H} {w : World} {base : Nat} {spare : Nat → Bool} {held : Bool}
/-- one field's reading -/
theorem trod_fld20 {t ty : TypeId} {fs : Array Field} {fuel i off sz : Nat} {cs : List Value} {x : DataW H × List MemPlace} (ht : Try.prog.underlying t = some (.struct fs)) (h : DataW.trod enc Try.prog w base spare held fuel t cs = some x)
    (hf : (fs[i]?).map (fun f => (f.type, f.offset)) = some (ty, off)) (hs : Try.prog.cellsOf ty = sz) : ∃ n y, DataW.trod enc Try.prog w base spare held n ty ((cs.drop off).take sz) = some y := by
  obtain ⟨ys, n, _, _, _, hl, hfl⟩ := DataW.trod_struct ht h
  obtain ⟨f, h1, h2⟩ := Option.map_eq_some_iff.1 hf
  injection h2 with h2 h3
  subst h2 h3 hs
  have h4 := hfl i f h1
  have hi : i < fs.size := (Array.getElem?_eq_some_iff.1 h1).1
  rw [List.getElem?_eq_getElem (by omega)] at h4
  exact ⟨n, _, h4⟩
theorem open_fid {fuel : Nat} {cs : List Value} {x : DataW H × List MemPlace} (h : DataW.trod enc Try.prog w base spare held fuel 31 cs = some x) (hl : cs.length = 6) : ∃ f : FidV, cs = f.cs := by
  have hCi : Try.prog.cellsOf 3 = 1 := by kernel_rfl
  have hCs : Try.prog.cellsOf 9 = 1 := by kernel_rfl
  have hCb : Try.prog.cellsOf 4 = 1 := by kernel_rfl
  have hC8 : Try.prog.cellsOf 5 = 1 := by kernel_rfl
  have hC64 : Try.prog.cellsOf 29 = 1 := by kernel_rfl
  obtain ⟨x0, x1, x2, x3, x4, x5, rfl⟩ : ∃ x0 x1 x2 x3 x4 x5, cs = [x0, x1, x2, x3, x4, x5] := by
    match cs, hl with
    | [x0, x1, x2, x3, x4, x5], _ => exact ⟨x0, x1, x2, x3, x4, x5, rfl⟩
  obtain ⟨_, _, f0⟩ := trod_fld20 (i := 0) Try.underlying31 h rfl hCs
  obtain ⟨_, _, f1⟩ := trod_fld20 (i := 1) Try.underlying31 h rfl hC64
  obtain ⟨_, _, f2⟩ := trod_fld20 (i := 2) Try.underlying31 h rfl hCb
  obtain ⟨_, _, f3⟩ := trod_fld20 (i := 3) Try.underlying31 h rfl hC8
  obtain ⟨_, _, f4⟩ := trod_fld20 (i := 4) Try.underlying31 h rfl hC64
  obtain ⟨_, _, f5⟩ := trod_fld20 (i := 5) Try.underlying31 h rfl hCi
  obtain ⟨o0, e0, -, -⟩ := DataW.trod_string Try.underlying9 f0
  obtain ⟨o1, e1, -, w1⟩ := DataW.trod_int Try.underlying29 f1
  obtain ⟨o2, e2, -⟩ := DataW.trod_bool Try.underlying4 f2
  obtain ⟨o3, e3, -, w3⟩ := DataW.trod_int Try.underlying5 f3
  obtain ⟨o4, e4, -, w4⟩ := DataW.trod_int Try.underlying29 f4
  obtain ⟨o5, e5, -, -⟩ := DataW.trod_int Try.underlying3 f5
  have b1 := bounds_u64 w1
  have b3 := bounds_u8 w3
  have b4 := bounds_u64 w4
  simp at e0 e1 e2 e3 e4 e5
  subst e0 e1 e2 e3 e4 e5
  obtain ⟨o1, rfl⟩ := Int.eq_ofNat_of_zero_le b1.1
  obtain ⟨o3, rfl⟩ := Int.eq_ofNat_of_zero_le b3.1
  obtain ⟨o4, rfl⟩ := Int.eq_ofNat_of_zero_le b4.1
  exact ⟨⟨o0, o1, o2, o3, o4, o5⟩, rfl⟩
theorem open_acts20 {v : Value} {d : DataW H} {p : List MemPlace} {r : Reach} {b0 : Nat} (hv : Value.okWide Try.prog w r b0 22 v) (h : DataW.Trod enc Try.prog w base spare held 22 v d p) :
    ∃ (A : Option Addr) (l : List Act20) (c : Nat), v = .slice A l.length c ∧ Act20Arr w A l ∧ l.length ≤ 9223372036854775807 := by
  obtain ⟨a0, len, cap, rfl⟩ := okWide_slice Try.underlying22 hv
  obtain ⟨fuel, hf⟩ := h
  rcases open_slice Try.underlying22 hf with ⟨hcs, _⟩ | ⟨a, l, c, m, n, D, Pl, hcs, _, hl, hm, hmm, _, hi⟩
  · simp [Value.cells] at hcs
    obtain ⟨rfl, rfl, rfl⟩ := hcs
    exact ⟨none, [], 0, rfl, fun h => by simp at h, by simp⟩
  · simp [Value.cells] at hcs
    obtain ⟨rfl, rfl, rfl⟩ := hcs
    have hlm : len ≤ m := by rw [hmm]; split <;> omega
    have hC : Try.prog.cellsOf 33 = 8 := by kernel_rfl
    have hCi : Try.prog.cellsOf 3 = 1 := by kernel_rfl
    have hCu : Try.prog.cellsOf 28 = 1 := by kernel_rfl
    have hCf : Try.prog.cellsOf 31 = 6 := by kernel_rfl
    rw [hC] at hi
    obtain ⟨its, hql, hq⟩ := list_of_forall (P := fun i (t : Act20) => t.ok ∧ ∀ k, k < 8 → w.cell? (a.add (i * 8 + k)) = t.cs[k]?) len (fun i hilt => by
      obtain ⟨cs', hc, ht'⟩ := hi i (by omega)
      obtain ⟨_, hcl, hat⟩ := World.cells?_some hc
      obtain ⟨x0, x1, r, rfl, hr⟩ : ∃ x0 x1 r, cs' = x0 :: x1 :: r ∧ r.length = 6 := by
        match cs', hcl with
        | x0 :: x1 :: r, h => exact ⟨x0, x1, r, rfl, by simpa using h⟩
      obtain ⟨_, _, f0⟩ := trod_fld20 (i := 0) Try.underlying33 ht' rfl hCi
      obtain ⟨_, _, f1⟩ := trod_fld20 (i := 1) Try.underlying33 ht' rfl hCu
      obtain ⟨_, _, f2⟩ := trod_fld20 (i := 2) Try.underlying33 ht' rfl hCf
      obtain ⟨o0, e0, -, w0⟩ := DataW.trod_int Try.underlying3 f0
      obtain ⟨o1, e1, -, w1⟩ := DataW.trod_int Try.underlying28 f1
      obtain ⟨o2, e2⟩ := open_fid f2 (by simp [hr])
      have b1 := bounds_u32 w1
      simp at e0 e1
      have e2' : r = o2.cs := by
        have e : List.take 6 r = o2.cs := e2
        rwa [List.take_of_length_le (by omega)] at e
      subst e0 e1 e2'
      obtain ⟨o1, rfl⟩ := Int.eq_ofNat_of_zero_le b1.1
      refine ⟨⟨o0, o1, o2⟩, by have := b1.2; show o1 < 4294967296; omega, fun k hk => ?_⟩
      have := hat k hk
      rw [Go.Deep.add_add] at this
      exact this)
    refine ⟨some a, its, cap, by rw [hql], fun hpos => ?_, by unfold maxLen at hm; omega⟩
    have h0 := hq 0 _ (List.getElem?_eq_getElem hpos)
    obtain ⟨_, hc0⟩ := h0
    have hc0 := hc0 0 (by omega)
    have ha := plain_addr (a := a) (v := .int .i64 (its[0]'hpos).op) (by simpa [Act20.cs] using hc0)
    rw [ha] at hq
    refine ⟨a.block, a.off, by rw [← ha], ?_, fun i t hit => ?_⟩
    · have := block_lt_of_cell (a := a.add 0) (v := .int .i64 (its[0]'hpos).op) (by simpa [Act20.cs] using hc0)
      simpa [Addr.add] using this
    · have := hq i t hit
      simp only [add_plain] at this
      exact ⟨this.1, fun k hk => by rw [Nat.add_assoc]; exact this.2 k hk⟩
end
end Go.Proofs.Ytnddaildicmneaa
