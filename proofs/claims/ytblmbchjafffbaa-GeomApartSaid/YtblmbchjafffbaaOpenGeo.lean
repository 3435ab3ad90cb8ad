/-
  A geometry among a law's arguments.
-/
import Derived.Test.YtblmbchjafffbaaG0
import Derived.Test.YtblmbchjafffbaaOpenIno
namespace Go.Proofs.Ytblmbchjafffbaa
open Go.RowKit Go.ChangeShapes Go.WideShapes Go.ChangeAt

section
variable {H : Type} {enc : TypeId × Value → H} {w : World} {base : Nat} {spare : Nat → Bool} {held : Bool}
theorem trod_i64 {v : Value} {n : Nat} {y : DataW H × List MemPlace} (h : DataW.trod enc Try.prog w base spare held n 3 [v] = some y) : ∃ x : Int, v = .int .i64 x := by
  obtain ⟨a0, e0, -, w0⟩ := DataW.trod_int Try.underlying3 h
  simp only [List.cons.injEq, and_true] at e0
  exact ⟨a0, e0⟩

set_option maxRecDepth 20000 in
theorem open_geo {r : Reach} {b0 : Nat} {v : Value} {d : DataW H} {p : List MemPlace} (hv : Value.okWide Try.prog w r b0 60 v) (h : DataW.Trod enc Try.prog w base spare held 60 v d p) :
    ∃ g : Geo, v = g.val := by
  obtain ⟨cs, rfl, hsz⟩ := okWide_struct Try.underlying60 hv
  rw [show Try.prog.cellsOf 60 = 3 from by kernel_rfl] at hsz
  obtain ⟨x0, x1, x2, rfl⟩ : ∃ x0 x1 x2, cs = #[x0, x1, x2] := by
    obtain ⟨l⟩ := cs
    match l, hsz with
    | [x0, x1, x2], _ => exact ⟨x0, x1, x2, rfl⟩
  obtain ⟨fuel, hf⟩ := h
  have hC : Try.prog.cellsOf 3 = 1 := by kernel_rfl
  obtain ⟨_, _, f0⟩ := trod_fld (i := 0) Try.underlying60 hf rfl hC
  obtain ⟨_, _, f1⟩ := trod_fld (i := 1) Try.underlying60 hf rfl hC
  obtain ⟨_, _, f2⟩ := trod_fld (i := 2) Try.underlying60 hf rfl hC
  obtain ⟨b, rfl⟩ := trod_i64 f0
  obtain ⟨n, rfl⟩ := trod_i64 f1
  obtain ⟨m, rfl⟩ := trod_i64 f2
  exact ⟨⟨b, n, m⟩, rfl⟩
end
end Go.Proofs.Ytblmbchjafffbaa
