/-
  An inode among a law's arguments.
-/
import Derived.Test.YtblmbchjafffbaaI0
import Derived.ProofKit
import Derived.OpenShut
import Derived.Lib.SmallJoins
namespace Go.Proofs.Ytblmbchjafffbaa
open Go.RowKit Go.ChangeShapes Go.WideShapes Go.ChangeAt

section
variable {H : Type} {enc : TypeId × Value → H} {w : World} {base : Nat} {spare : Nat → Bool} {held : Bool}
/-- one field's reading -/
theorem trod_fld {t ty : TypeId} {fs : Array Field} {fuel i off sz : Nat} {cs : List Value} {x : DataW H × List MemPlace} (ht : Try.prog.underlying t = some (.struct fs)) (h : DataW.trod enc Try.prog w base spare held fuel t cs = some x)
    (hf : (fs[i]?).map (fun f => (f.type, f.offset)) = some (ty, off)) (hs : Try.prog.cellsOf ty = sz) : ∃ n y, DataW.trod enc Try.prog w base spare held n ty ((cs.drop off).take sz) = some y := by
  obtain ⟨ys, n, _, _, _, hl, hfl⟩ := DataW.trod_struct ht h
  obtain ⟨f, h1, h2⟩ := Option.map_eq_some_iff.1 hf
  injection h2 with h2 h3
  subst h2 h3 hs
  have h4 := hfl i f h1
  have hi : i < fs.size := (Array.getElem?_eq_some_iff.1 h1).1
  rw [List.getElem?_eq_getElem (by omega)] at h4
  exact ⟨n, _, h4⟩
/-- one element's reading -/
theorem trod_elt {t ty : TypeId} {fuel i n : Nat} {cs : List Value} {x : DataW H × List MemPlace} (ht : Try.prog.underlying t = some (.array n ty)) (h : DataW.trod enc Try.prog w base spare held fuel t cs = some x) (hs : Try.prog.cellsOf ty = 1) (hi : i < n) :
    ∃ m y, DataW.trod enc Try.prog w base spare held m ty ((cs.drop i).take 1) = some y := by
  obtain ⟨xs, m, _, _, _, hl, hx⟩ := DataW.trod_array ht h
  have h1 := hx i hi
  rw [hs, Nat.mul_one, List.getElem?_eq_getElem (by omega)] at h1
  exact ⟨m, _, h1⟩
theorem trod_u32 {v : Value} {n : Nat} {y : DataW H × List MemPlace} (h : DataW.trod enc Try.prog w base spare held n 36 [v] = some y) : ∃ x : Nat, v = .int .u32 (x : Int) ∧ x < 4294967296 := by
  obtain ⟨a0, e0, -, w0⟩ := DataW.trod_int Try.underlying36 h
  have b0 := bounds_u32 w0
  simp only [List.cons.injEq, and_true] at e0
  obtain ⟨x0, rfl⟩ := Int.eq_ofNat_of_zero_le b0.1
  exact ⟨x0, e0, by omega⟩
theorem trod_u16 {v : Value} {n : Nat} {y : DataW H × List MemPlace} (h : DataW.trod enc Try.prog w base spare held n 37 [v] = some y) : ∃ x : Nat, v = .int .u16 (x : Int) ∧ x < 65536 := by
  obtain ⟨a0, e0, -, w0⟩ := DataW.trod_int Try.underlying37 h
  have b0 := bounds_u16 w0
  simp only [List.cons.injEq, and_true] at e0
  obtain ⟨x0, rfl⟩ := Int.eq_ofNat_of_zero_le b0.1
  exact ⟨x0, e0, by omega⟩

set_option maxRecDepth 20000 in
theorem open_ino {r : Reach} {b0 : Nat} {v : Value} {d : DataW H} {p : List MemPlace} (hv : Value.okWide Try.prog w r b0 48 v) (h : DataW.Trod enc Try.prog w base spare held 48 v d p) :
    ∃ i : Ino, v = i.val ∧ i.ok := by
  obtain ⟨cs, rfl, hsz⟩ := okWide_struct Try.underlying48 hv
  rw [show Try.prog.cellsOf 48 = 14 from by kernel_rfl] at hsz
  obtain ⟨x0, x1, x2, x3, x4, x5, x6, x7, x8, x9, x10, x11, x12, x13, rfl⟩ : ∃ x0 x1 x2 x3 x4 x5 x6 x7 x8 x9 x10 x11 x12 x13, cs = #[x0, x1, x2, x3, x4, x5, x6, x7, x8, x9, x10, x11, x12, x13] := by
    obtain ⟨l⟩ := cs
    match l, hsz with
    | [x0, x1, x2, x3, x4, x5, x6, x7, x8, x9, x10, x11, x12, x13], _ => exact ⟨x0, x1, x2, x3, x4, x5, x6, x7, x8, x9, x10, x11, x12, x13, rfl⟩
  obtain ⟨fuel, hf⟩ := h
  have hC32 : Try.prog.cellsOf 36 = 1 := by kernel_rfl
  have hC16 : Try.prog.cellsOf 37 = 1 := by kernel_rfl
  have hC8 : Try.prog.cellsOf 46 = 8 := by kernel_rfl
  obtain ⟨_, _, f0⟩ := trod_fld (i := 0) Try.underlying48 hf rfl hC32
  obtain ⟨_, _, f1⟩ := trod_fld (i := 1) Try.underlying48 hf rfl hC32
  obtain ⟨_, _, f2⟩ := trod_fld (i := 2) Try.underlying48 hf rfl hC32
  obtain ⟨_, _, f3⟩ := trod_fld (i := 3) Try.underlying48 hf rfl hC16
  obtain ⟨_, _, f4⟩ := trod_fld (i := 4) Try.underlying48 hf rfl hC8
  obtain ⟨_, _, f5⟩ := trod_fld (i := 5) Try.underlying48 hf rfl hC32
  obtain ⟨_, _, f6⟩ := trod_fld (i := 6) Try.underlying48 hf rfl hC32
  obtain ⟨_, _, g0⟩ := trod_elt (i := 0) Try.underlying46 f4 hC32 (by omega)
  obtain ⟨_, _, g1⟩ := trod_elt (i := 1) Try.underlying46 f4 hC32 (by omega)
  obtain ⟨_, _, g2⟩ := trod_elt (i := 2) Try.underlying46 f4 hC32 (by omega)
  obtain ⟨_, _, g3⟩ := trod_elt (i := 3) Try.underlying46 f4 hC32 (by omega)
  obtain ⟨_, _, g4⟩ := trod_elt (i := 4) Try.underlying46 f4 hC32 (by omega)
  obtain ⟨_, _, g5⟩ := trod_elt (i := 5) Try.underlying46 f4 hC32 (by omega)
  obtain ⟨_, _, g6⟩ := trod_elt (i := 6) Try.underlying46 f4 hC32 (by omega)
  obtain ⟨_, _, g7⟩ := trod_elt (i := 7) Try.underlying46 f4 hC32 (by omega)
  obtain ⟨m, rfl, hm⟩ := trod_u32 f0
  obtain ⟨v, rfl, hv'⟩ := trod_u32 f1
  obtain ⟨s, rfl, hs⟩ := trod_u32 f2
  obtain ⟨l, rfl, hl⟩ := trod_u16 f3
  obtain ⟨d0, rfl, hd0⟩ := trod_u32 g0
  obtain ⟨d1, rfl, hd1⟩ := trod_u32 g1
  obtain ⟨d2, rfl, hd2⟩ := trod_u32 g2
  obtain ⟨d3, rfl, hd3⟩ := trod_u32 g3
  obtain ⟨d4, rfl, hd4⟩ := trod_u32 g4
  obtain ⟨d5, rfl, hd5⟩ := trod_u32 g5
  obtain ⟨d6, rfl, hd6⟩ := trod_u32 g6
  obtain ⟨d7, rfl, hd7⟩ := trod_u32 g7
  obtain ⟨a, rfl, ha⟩ := trod_u32 f5
  obtain ⟨b, rfl, hb⟩ := trod_u32 f6
  exact ⟨⟨m, v, s, l, d0, d1, d2, d3, d4, d5, d6, d7, a, b⟩, rfl, ⟨hm, hv', hs, hl, hd0, hd1, hd2, hd3, hd4, hd5, hd6, hd7, ha, hb⟩⟩
end
end Go.Proofs.Ytblmbchjafffbaa
