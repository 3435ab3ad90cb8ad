/-
  disk: the row of the pending writes: the map's keys, gathered and sorted by their numbers.
-/
import Derived.Test.YtnddaildicmneaaItp
import Derived.Test.YtnddaildicmneaaRecSort
import Derived.Test.YtnddaildicmneaaLayP
namespace Go.Proofs.Ytnddaildicmneaa
open Go.Proofs Go.RowKit Go.Sort Go.Maps

set_option maxHeartbeats 1000000 in
theorem row1_any (a b c d : Int) (h : IntKind.i64.wrap (a - c) = a - c) (W : World) :
    Calls Try.prog 80 #[.agg #[.int .i64 a, .int .i64 b], .agg #[.int .i64 c, .int .i64 d]] W fun e w' => e = .returned (.int .i64 (a - c)) ∧ ∃ q os', w' = grow (W.drewN q) os' := by
  go_enter Try.func80, Try.ntmps80
  go_wp2
  go_ret
  exact ⟨rfl, 0, _, by rw [alloc_eq_grow, alloc_eq_grow, grow_grow]; rfl⟩

/-- the i-th place -/
def plc (sec : Nat → Int) (i : Nat) : Int × Int := ((i : Int), sec i)
def recFin (sec : Nat → Int) (n : Nat) : RecT (Fin n) := ⟨recP.t, 2, fun i => recP.cs (plc sec i.val), fun _ => rfl, fun i u hu => recP.one (plc sec i.val) u hu, by decide⟩
theorem fin_cells (sec : Nat → Int) (n : Nat) (l : List (Fin n)) : (recFin sec n).cells l = recP.cells (l.map fun i => plc sec i.val) := by
  unfold RecT.cells
  rw [List.flatMap_map]; rfl
theorem fin_row {sec : Nat → Int} {n : Nat} {l : List (Fin n)} {w : World} {v : Value} : (recFin sec n).Row w v l ↔ recP.Row w v (l.map fun i => plc sec i.val) := by
  unfold RecT.Row
  rw [fin_cells, List.length_map]; rfl
def cfF (n : Nat) (x y : Fin n) : Int := (x.val : Int) - y.val
theorem swoF (n : Nat) : SWO (ltOf (cfF n)) where
  irrefl x := by unfold ltOf cfF; simp
  trans x y z h1 h2 := by unfold ltOf cfF at *; simp only [decide_eq_true_eq] at *; omega
  ntrans x y z h1 h2 := by unfold ltOf cfF at *; simp only [decide_eq_false_iff_not] at *; omega
theorem totF (n : Nat) (x y : Fin n) (h1 : ltOf (cfF n) x y = false) (h2 : ltOf (cfF n) y x = false) : x = y := by
  unfold ltOf cfF at *
  simp only [decide_eq_false_iff_not] at *
  exact Fin.ext (by omega)
theorem sorted_fin {n : Nat} {l : List (Fin n)} (hp : l.Perm (List.finRange n)) : l.mergeSort (fun x y => !(ltOf (cfF n)) y x) = List.finRange n := by
  have e : (fun x y : Fin n => !(ltOf (cfF n)) y x) = fun x y => decide (x ≤ y) := by
    funext x y
    unfold ltOf cfF
    rw [Bool.eq_iff_iff]
    simp only [Bool.not_eq_true', decide_eq_false_iff_not, decide_eq_true_eq, Fin.le_def]
    omega
  rw [e]
  have hs : (List.finRange n).Pairwise fun x y : Fin n => decide (x ≤ y) = true := by
    have := List.pairwise_lt_finRange n
    exact this.imp fun h => by simp; omega
  have h1 : (l.mergeSort fun x y => decide (x ≤ y)).Pairwise fun x y : Fin n => decide (x ≤ y) = true := List.pairwise_mergeSort (fun a b c h1 h2 => by simp at *; omega) (fun a b => by simp; omega) l
  exact ((List.mergeSort_perm l _).trans hp).eq_of_pairwise (fun a b _ _ h1 h2 => by simp at h1 h2; exact Fin.ext (by omega)) h1 hs
theorem finRange_plc (sec : Nat → Int) (n : Nat) : (List.finRange n).map (fun i => plc sec i.val) = (List.range n).map (plc sec) := List.ext_getElem (by simp) (fun i h1 h2 => by simp [plc])

/-- slices.SortFunc of the gathered places -/
theorem psort_any (sec : Nat → Int) (n : Nat) (hn : n < 1000000) (v : Value) (ps : List (Int × Int)) (hp : ps.Perm ((List.range n).map (plc sec))) (w : World) (hr : recP.Row w v ps) :
    Calls Try.prog 97 #[v, .func (.func 80) #[] #[]] w fun e w' => e = .returned (.tuple #[]) ∧ recP.Row w' v ((List.range n).map (plc sec)) ∧ Keeps (fun b => v.ownBlock = some b) w w' := by
  obtain ⟨l, hl, rfl⟩ := perm_map_inv hp (List.finRange n) (finRange_plc sec n).symm
  have hlen : l.length = n := by rw [hl.length_eq, List.length_finRange]
  have hf := fin_row.2 hr
  cases n with
  | zero =>
    have : l = [] := List.eq_nil_of_length_eq_zero hlen
    subst this
    obtain ⟨A, c, rfl, -⟩ := hr.form
    refine (AnyF.slices_SortFunc_none { sortP with } A c (.func (.func 80) #[] #[]) w).mono ?_
    rintro e w' ⟨rfl, rfl⟩
    exact ⟨rfl, by simpa using hr, Keeps.refl _ _⟩
  | succ m =>
    rcases hf.blk with ⟨-, h0⟩ | ⟨b, cap, rest, rfl, hb, -, -, -⟩
    · rw [h0] at hlen; simp at hlen
    have hH := RecT.holdsK_of (R := recFin sec (m + 1)) (d := l.toArray) (by simpa using hf)
    have hcon := AnyQ.slices_SortFunc_total sortP 2 Try.isAgg104 Try.sizeOf104 (recFin sec (m + 1)).cs (fun _ => rfl) (recFin sec (m + 1)).one (cfF (m + 1)) (swoF _) 80 #[] b 0 cap l.toArray w
      (enters_of Try.func80 (by kernel_rfl) rfl) (fun mm os dk _ x y => row1_any (x.val : Int) (sec x.val) (y.val : Int) (sec y.val) (IntWalk.i64_in _ (by have := x.isLt; have := y.isLt; omega)) _) hH hb.lt (by simp; omega) (totF _)
    rw [show l.toArray.size = l.length by simp] at hcon
    change Calls Try.prog 97 _ _ _ at hcon
    refine hcon.mono ?_
    rintro e w' ⟨rfl, k, os, rfl⟩
    rw [List.toList_toArray, sorted_fin hl]
    obtain ⟨h1, h2⟩ := RecT.sortWorld_row (R := recFin sec (m + 1)) (d := l.toArray) (d' := (List.finRange (m + 1)).toArray) (by simpa using hf) (by simp [hlen]) k os
    refine ⟨rfl, ?_, h2.mono (fun _ _ h => by rw [h]; rfl)⟩
    have h3 := fin_row.1 h1
    rw [List.toList_toArray, finRange_plc, List.size_toArray] at h3
    exact h3
end Go.Proofs.Ytnddaildicmneaa
