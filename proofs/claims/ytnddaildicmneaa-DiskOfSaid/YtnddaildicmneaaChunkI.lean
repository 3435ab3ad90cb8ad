/-
  slices.Chunk at bytes, of whole pieces: the iterator.
-/
import Derived.Test.YtnddaildicmneaaChecked
import Derived.Test.YtnddaildicmneaaRoundB
import Derived.Test.YtnddaildicmneaaRec
import Derived.RangeFuncNested
import Derived.RangeFuncBound
import Derived.RangeFuncCalls
import Derived.RangeFuncLeaves
import Derived.Shelf.Abstract
import Derived.Shelf.RegionOpen
import Derived.WalkKit
import Derived.OwnWalkIn
import Derived.TacticsInMore
import Derived.LoopNIn
import Derived.LoopIn
namespace Go.Proofs.Ytnddaildicmneaa
open Go.Proofs Go.RowKit Go.Shelf

attribute [local go_sem] Oper.semAt_some

/-- the first `k` of the pieces' numbers -/
def firsts (n k : Nat) : List (Fin n) := (List.finRange n).take k
theorem firsts_succ {n k : Nat} (h : k < n) : firsts n (k + 1) = firsts n k ++ [⟨k, h⟩] := by
  unfold firsts
  rw [List.take_add_one]
  congr 1
  rw [List.getElem?_eq_getElem (by simpa using h)]
  simp
theorem firsts_len {n k : Nat} (h : k ≤ n) : (firsts n k).length = k := by simp [firsts, h]
theorem firsts_all (n : Nat) : firsts n n = List.finRange n := List.take_of_length_le (by simp)
def pieceV (b o z i : Nat) : Value := .slice (some ⟨b, o + i, none⟩) z z
/-- the two boxes of the iterator are as they were -/
def KpC (B1 B2 : Nat) (W W' : World) : Prop := W'.cell? ⟨B1, 0, none⟩ = W.cell? ⟨B1, 0, none⟩ ∧ W'.cell? ⟨B2, 0, none⟩ = W.cell? ⟨B2, 0, none⟩
theorem KpC.t {B1 B2 : Nat} {A B C : World} (h : KpC B1 B2 A B) (k : KpC B1 B2 B C) : KpC B1 B2 A C := ⟨k.1.trans h.1, k.2.trans h.2⟩

set_option maxRecDepth 100000 in
set_option maxHeartbeats 4000000 in
theorem chunk1_in (m l B1 B2 b o c n z : Nat) (hz : 0 < z) (hnz : n * z ≤ 100000000) (J Jx : List (Fin n) → World → Prop)
    (hY : ∀ pre x W, J pre W → pre.length < n → YieldAt Fence.wide (m - 1) Try.prog l #[pieceV b o z (x.val * z)] W fun e W' =>
      (e = .returned (.bool true) ∧ J (pre ++ [x]) W' ∧ KpC B1 B2 W W') ∨ (e = .returned (.bool false) ∧ Jx (pre ++ [x]) W'))
    (W : World) (h1 : W.cell? ⟨B1, 0, none⟩ = some (.slice (some ⟨b, o, none⟩) (n * z) c)) (hc : n * z ≤ c) (hcm : c ≤ maxLen) (h2 : W.cell? ⟨B2, 0, none⟩ = some (.int .i64 z)) (h0 : J [] W) (hJd : ∀ pre W, J pre W → J pre W.drew) :
    CallsIn Fence.wide m Try.prog 82 #[.func (.yield l) #[] #[], .pointer (some ⟨B1, 0, none⟩), .pointer (some ⟨B2, 0, none⟩)] W fun e W' => (∃ v, e = .returned v) ∧
      ((∃ ys, ys = List.finRange n ∧ J ys W') ∨ (∃ pre, True ∧ Jx pre W')) := by
  refine callsIn_of_wp Try.func82 rfl trivial ?_ rfl
  simp only [Try.ntmps82, List.size_toArray, List.length_cons, List.length_nil, Nat.reduceAdd, Nat.reduceSub, Array.replicate_succ, Array.replicate_zero, List.push_toArray, List.append_toArray, List.nil_append, List.cons_append]
  obtain ⟨N, hN⟩ : ∃ N, N = n * z := ⟨_, rfl⟩
  rw [← hN] at h1 hc hnz
  unfold maxLen at hcm
  gi_wp2
  gi_loopw [4] (fun iv wr => ∃ k i : Nat, iv = .int .i64 i ∧ i = k * z ∧ k ≤ n ∧ J (firsts n k) wr ∧ wr.cell? ⟨B1, 0, none⟩ = some (.slice (some ⟨b, o, none⟩) N c) ∧ wr.cell? ⟨B2, 0, none⟩ = some (.int .i64 z))
    (fun iv _ => n * z - (intOf iv).toNat)
  case atStart => exact ⟨0, 0, rfl, by simp, Nat.zero_le _, h0, h1, h2⟩
  case round =>
    obtain ⟨k, i, rfl, hi, hk, hJs, g1, g2⟩ := hrel
    by_cases hlt : k < n
    · have hiN : i + z ≤ N := by
        rw [hN, hi, ← Nat.succ_mul]
        exact Nat.mul_le_mul_right _ hlt
      have hlt1 : (i : Int) < N := by omega
      have hi0 : (0 : Int) ≤ (i : Int) := by omega
      have hle : (i : Int) ≤ (N : Int) := by omega
      have hle2 : i ≤ N := by omega
      have hci : ¬ c = i := by omega
      obtain ⟨M, hM⟩ : ∃ M, M = N - i := ⟨_, rfl⟩
      have hzM : z ≤ M := by omega
      have hzM2 : (z : Int) ≤ (M : Int) := by omega
      have hmin : min (z : Int) (M : Int) = z := by omega
      have hNc : (N : Int) ≤ (c : Int) := by omega
      have e1 : IntKind.i64.wrap ((i : Int) + z) = ((i + z : Nat) : Int) := by rw [IntWalk.i64_in _ (by omega)]; omega
      clear h1 h2
      have HN := Lib.hid hN
      have Hi := Lib.hid hi
      have HM := Lib.hid hM
      clear hN hi hM
      have hJd2 := hJd _ _ hJs
      have q1 : ∀ w', w' = wr.drew → w'.cell? ⟨B1, 0, none⟩ = some (.slice (some ⟨b, o, none⟩) N c) := fun w' e => by rw [e]; exact g1
      have q2 : ∀ w', w' = wr.drew → w'.cell? ⟨B2, 0, none⟩ = some (.int .i64 z) := fun w' e => by rw [e]; exact g2
      gi_wp2
      refine wpIn_wide.2 ?_
      refine wp_region_script [0, 1, 2, 3, 4, 5, 6] [0, 1] [.fs [0], .fs [1], .ps [2, 3, 4], .ps [5, 6]] (fun w' => w' = wr.drew) rfl (by kernel_rfl) ?_
      refine wpS_fs rfl (rfl) fun K hK => ?_
      simp only [List.map_cons, List.map_nil, Option.getD_some, List.getElem?_toArray, List.getElem?_cons_zero, List.getElem?_cons_succ]
      iterate 1 (first | (apply quietO_cons _ rfl; (intro w' hs; have c_0 := q2 w' hs; go_simp; rfl)) | apply quietO_skip rfl)
      refine hK _ ?_
      clear hK K
      simp only [Act.put, List.setIfInBounds_toArray, List.set_cons_zero, List.set_cons_succ]
      refine wpS_fs rfl (rfl) fun K hK => ?_
      simp only [List.map_cons, List.map_nil, Option.getD_some, List.getElem?_toArray, List.getElem?_cons_zero, List.getElem?_cons_succ]
      iterate 1 (first | (apply quietO_cons _ rfl; (intro w' hs; have c_0 := q1 w' hs; go_simp; rfl)) | apply quietO_skip rfl)
      refine hK _ ?_
      clear hK K
      simp only [Act.put, List.setIfInBounds_toArray, List.set_cons_zero, List.set_cons_succ]
      refine wpS_ps rfl fun K hK => ?_
      simp only [List.map_cons, List.map_nil, Option.getD_some, List.getElem?_toArray, List.getElem?_cons_zero, List.getElem?_cons_succ]
      iterate 3 (first | (apply quietO_cons _ rfl; (intro w' _; go_simp; rfl)) | apply quietO_skip rfl)
      refine hK _ ?_
      clear hK K
      simp only [Act.put, List.setIfInBounds_toArray, List.set_cons_zero, List.set_cons_succ]
      rw [← HM.out]
      refine wpS_ps rfl fun K hK => ?_
      simp only [List.map_cons, List.map_nil, Option.getD_some, List.getElem?_toArray, List.getElem?_cons_zero, List.getElem?_cons_succ]
      iterate 2 (first | (apply quietO_cons _ rfl; (intro w' _; go_simp; rfl)) | apply quietO_skip rfl)
      refine hK _ ?_
      clear hK K
      simp only [Act.put, List.setIfInBounds_toArray, List.set_cons_zero, List.set_cons_succ]
      refine wpS_nil ?_
      have hYi := hY _ ⟨k, hlt⟩ wr.drew hJd2 (by rw [firsts_len hk]; exact hlt)
      simp only at hYi
      rw [← Hi.out] at hYi
      obtain ⟨fn, tmps, assign, body, hy, hR⟩ := hYi
      unfold pieceV at hy
      clear q1 q2 hY
      gi_wp2
      refine ⟨(fun h => by cases h), hR.mono ?_⟩
      rintro e W3 (⟨rfl, hJ3, hk3⟩ | ⟨rfl, hJx3⟩)
      · have g1' := hk3.1.trans g1
        have g2' := hk3.2.trans g2
        clear hR hy g1 g2
        gi_wp2
        go_roundw
        case rel => exact ⟨k + 1, i + z, by simp, by rw [Hi.out, Nat.succ_mul], by omega, by rw [firsts_succ hlt]; exact hJ3, g1', g2'⟩
        case measure =>
          have := HN.out
          simp [intOf]
          omega
      · clear hR hy
        gi_wp2
        refine bodyPost_ret (results_none rfl _ _ _) rfl ?_
        exact ⟨⟨_, rfl⟩, .inr ⟨_, trivial, hJx3⟩⟩
    · obtain rfl : k = n := by omega
      have hiI : ¬ (i : Int) < N := by rw [hN, hi]; omega
      clear h1 h2
      have HN := Lib.hid hN
      have Hi := Lib.hid hi
      clear hN hi
      gi_wp2
      go_end0
      exact ⟨⟨_, rfl⟩, .inl (by rw [← firsts_all]; exact hJs)⟩
theorem grownBy_drew (W : World) : W.grownBy W.drew none := ⟨rfl, rfl, rfl, Nat.le_refl _, fun _ _ _ => rfl⟩
theorem chunk_stops (m B1 B2 b o c n z : Nat) (w : World) (hz : 0 < z) (hnz : n * z ≤ 100000000) (hc : n * z ≤ c) (hcm : c ≤ maxLen) (l1 : B1 < w.heap.size) (l2 : B2 < w.heap.size) (h1 : w.cell? ⟨B1, 0, none⟩ = some (.slice (some ⟨b, o, none⟩) (n * z) c)) (h2 : w.cell? ⟨B2, 0, none⟩ = some (.int .i64 z)) :
    SeqStopsK Fence.wide m Try.prog 82 #[.pointer (some ⟨B1, 0, none⟩), .pointer (some ⟨B2, 0, none⟩)] (fun x : Fin n => #[pieceV b o z (x.val * z)]) (KpC B1 B2) (fun ys => ys = List.finRange n) (fun _ => True) n w := fun l J Jx W hW hJ _ hY h0 =>
  chunk1_in m l B1 B2 b o c n z hz hnz J Jx hY W ((hW.cell (p := ⟨B1, 0, none⟩) l1).trans h1) hc hcm ((hW.cell (p := ⟨B2, 0, none⟩) l2).trans h2) h0 (fun pre W' h => hJ pre W' W'.drew none h (grownBy_drew W') (fun r e => by cases e))
set_option maxHeartbeats 1000000 in
theorem chunk_any (A : Option Addr) (N c z : Nat) (w : World) (hz : 0 < z) : Calls Try.prog 63 #[.slice A N c, .int .i64 z] w fun e w' =>
    e = .returned (.func (.func 82) #[] #[.pointer (some ⟨w.heap.size, 0, none⟩), .pointer (some ⟨w.heap.size + 1, 0, none⟩)]) ∧ w' = (w.alloc (.cells #[.slice A N c] 41)).alloc (.cells #[.int .i64 z] 3) := by
  have hz1 : ¬ (z : Int) < 1 := by omega
  go_enter Try.func63, Try.ntmps63
  go_wp2
  go_ret
  exact ⟨rfl, rfl⟩
end Go.Proofs.Ytnddaildicmneaa
