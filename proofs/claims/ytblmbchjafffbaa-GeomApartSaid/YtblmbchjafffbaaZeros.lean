/-
  make([]byte, n): zero bytes; bytes padded by zeros.
-/
import Derived.Test.YtblmbchjafffbaaCat
namespace Go.Proofs.Ytblmbchjafffbaa
open Go.RowKit

def zeros (n : Nat) : List UInt8 := List.replicate n 0
theorem made_zeros (n : Nat) : (madeCells #[Value.int .u8 0] n).toList = (zeros n).map bv := by
  apply List.ext_getElem?
  intro j
  by_cases hj : j < n
  · simp [madeCells, zeros, hj, Nat.mod_one, bv]
  · rw [List.getElem?_eq_none (by simp [madeCells]; omega), List.getElem?_eq_none (by simp [zeros]; omega)]

section
variable {ops : Array Oper} {rest : List Oper} {o : Oper} {a : Act} {Q : Exit → Act → World → Prop}
theorem wpList_make_bytes (w : World) (hgd : o.guard = none) (l c : Operand) (hop : o.op = Op.makeSlice 24 l c) (n : Nat) (L : Int) (hl : a.eval l = .int .i64 L) (hc : a.eval c = .int .i64 L) (hL : L = (n : Int)) (hn : n ≤ 1099511627776)
    (hK : ∀ w', OwnB w' (.slice (some ⟨w.heap.size, 0, none⟩) n n) (zeros n) → Keeps nowhere w w' → wpList Try.prog ops Q rest (a.put o.dst (.slice (some ⟨w.heap.size, 0, none⟩) n n)) w') : wpList Try.prog ops Q (o :: rest) a w := by
  obtain ⟨i0, hi, hz0, hz1, hz2⟩ := info_parts infoU8
  refine wpList_make_full _ hgd l c 24 hop 0 5 i0 (.int .u8 0) 1 Try.underlying24 hi hz0 hz1 .i64 .i64 L L n hl hc hL hL (by rw [hz2]; omega) (by unfold maxLen; omega) (Nat.zero_le _) fun w' h1 h2 => hK w' ?_ ((Keeps.refl _ w).grown h2 (fun _ h => by cases h))
  unfold OwnB
  rw [Nat.mul_one, show (Value.int .u8 0).cells = #[Value.int .u8 0] from rfl, made_zeros] at h1
  simpa [zeros] using h1
end
end Go.Proofs.Ytblmbchjafffbaa
