/-
  The items of layer 1's statements: a slice of them that came in.
-/
import Derived.Test.YtbckbnmpeedodaaRefTake
import Derived.Test.YtbckbnmpeedodaaKnown1
namespace Go.Proofs.Ytbckbnmpeedodaa
open Go.RowKit

structure It where
  is_ : Bool
  n : Int
  v : Nat
  b : List UInt8
def It.ok (t : It) : Prop := (-9223372036854775808 ≤ t.n ∧ t.n ≤ 9223372036854775807) ∧ t.v < 18446744073709551616

/-- an item's four cells -/
def ItAt (w : World) (b o : Nat) (t : It) : Prop :=
  t.ok ∧ ∃ (vb : Value) (g : Option Nat), w.cell? ⟨b, o, none⟩ = some (.bool t.is_) ∧ w.cell? ⟨b, o + 1, none⟩ = some (.int .i64 t.n) ∧ w.cell? ⟨b, o + 2, none⟩ = some (.int .u64 t.v) ∧
    w.cell? ⟨b, o + 3, none⟩ = some vb ∧ Rd w vb g (t.b.map bv) ∧ Under w.heap.size g

/-- A slice of items that came in. -/
def IArr (w : World) (A : Option Addr) (its : List It) : Prop :=
  0 < its.length → ∃ b off, A = some ⟨b, off, none⟩ ∧ b < w.heap.size ∧ ∀ i t, its[i]? = some t → ItAt w b (off + i * 4) t
end Go.Proofs.Ytbckbnmpeedodaa
