/-
  A slice literal of one record: the block that it lays. Plain words.
-/
import Derived.Test.YtnddaildicmneaaRec
namespace Go.Proofs.Ytnddaildicmneaa
open Go.RowKit
namespace RecT
theorem fold_sets (off : Nat) : ∀ (l : List Value) (k : Nat) (cs : Array Value), ((l.zipIdx k).foldl (fun cs p => cs.setIfInBounds (off + p.2) p.1) cs).toList = sets cs.toList (off + k) l
  | [], k, cs => rfl
  | u :: us, k, cs => by
    rw [List.zipIdx_cons, List.foldl_cons, fold_sets off us (k + 1), Array.toList_setIfInBounds]
    rfl
theorem fill_one {n : Nat} (v : Value) (cells : Array Value) (h1 : v.cells.size = n) (h2 : cells.size = n) : Instr.fill (fun i => some (i * n, n)) cells [(0, v)] = some v.cells := by
  unfold Instr.fill
  simp only [h1, h2, Nat.zero_mul, Nat.zero_add, Nat.lt_irrefl, gt_iff_lt, decide_false, Bool.or_false, ne_eq, not_true_eq_false]
  unfold Instr.fill
  simp only [Bool.false_eq_true, if_false, Option.some.injEq]
  apply Array.toList_inj.1
  have := fold_sets 0 v.cells.toList 0 cells
  have e := sets_app v.cells.toList [] cells.toList [] (by simp [h1, h2])
  simp only [List.nil_append, List.append_nil, List.length_nil] at e
  rw [Nat.add_zero, e] at this
  simp only [Nat.zero_add] at this
  rw [← this, ← Array.foldl_toList]
  simp
variable {α : Type} {R : RecT α}
theorem run_buildOne {P : Program} {ts : TypeId} {z : Value} {by_ : Nat} (ht : P.underlying ts = some (.slice R.t)) (hinfo : (P.info? R.t).map (fun i => (i.zero, i.size, i.bytes)) = some (some z, R.n, by_)) (hn : R.n ≤ 1000) (w : World) (v : Value) (x : α) (hv : v.cells = (R.cs x).toArray) :
    (Instr.buildSlice ts 1 #[(0, v)]).run P w = .ok (.slice (some ⟨w.heap.size, 0, none⟩) 1 1) (w.alloc (.cells (R.cs x).toArray R.t)) := by
  obtain ⟨i0, hi, hz0, hz1, hz2⟩ := info_parts hinfo
  have hp := R.pos
  have h1 : ¬ 1 * i0.size > 2 ^ 24 := by rw [hz1]; omega
  have h2 : ¬ 1 * i0.size = 0 := by rw [hz1]; omega
  have hf := fill_one (n := R.n) v ((Array.range (1 * i0.size)).map (fun j => z.cells[j % z.cells.size]!)) (by rw [hv]; simp [R.len]) (by simp [hz1])
  rw [hz1, Nat.one_mul] at h1 h2
  rw [hz1, Nat.one_mul] at hf
  simp [Instr.buildSlice, run_underlying ht, sizeOf, typeInfo, zeroValue, hi, hz0, hz1, h1, h2, hf, newRow, hv]
theorem wpList_buildOne {P : Program} {ops : Array Oper} {rest : List Oper} {o : Oper} {a : Act} {w : World} {Q : Exit → Act → World → Prop} {ts : TypeId} {z : Value} {by_ : Nat}
    (ht : P.underlying ts = some (.slice R.t)) (hinfo : (P.info? R.t).map (fun i => (i.zero, i.size, i.bytes)) = some (some z, R.n, by_)) (hn : R.n ≤ 1000)
    (hgd : o.guard = none) (s : Operand) (ho : o.op = .buildSlice ts 1 #[(0, s)]) (v : Value) (hs : a.eval s = v) (x : α) (hv : v.cells = (R.cs x).toArray)
    (h : wpList P ops Q rest (a.put o.dst (.slice (some ⟨w.heap.size, 0, none⟩) 1 1)) (w.alloc (.cells (R.cs x).toArray R.t))) : wpList P ops Q (o :: rest) a w :=
  wpList_plain hgd fun K hK => by
    unfold Oper.wp execOp
    simp only [ho, Sem.run_bind, List.map_toArray, List.map_cons, List.map_nil, hs, run_buildOne ht hinfo hn w v x hv, Result.andThen_ok]
    exact hK _ _ h
end RecT
end Go.Proofs.Ytnddaildicmneaa
