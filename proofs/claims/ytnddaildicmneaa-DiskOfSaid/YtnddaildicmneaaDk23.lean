/-
  disk: Of refuses; loggialaw7.DiskOf.
-/
import Derived.Test.YtnddaildicmneaaDk22
import Derived.Test.YtnddaildicmneaaPl2
namespace Go.Proofs.Ytnddaildicmneaa
open Go.Proofs Go.RowKit

set_option maxRecDepth 20000 in
set_option maxHeartbeats 4000000 in
theorem dof_bad (A : Option Addr) (N c : Nat) (z : Int) (w : World) (hN : N ≤ 1000000000) (hz2 : z ≤ 9223372036854775807) (hb : ¬ (64 ≤ z ∧ z ≤ 1024 ∧ (N : Int) % z = 0 ∧ 1 ≤ (N : Int) / z ∧ (N : Int) / z ≤ 16384)) :
    Calls Try.prog 35 #[.slice A N c, .int .i64 z] w fun e w' => e = .returned (.tuple #[.pointer none, .int .i64 1]) ∧ w' = w := by
  by_cases h1 : z < 64
  · have Hb := Lib.hid hb
    clear hb
    go_enter Try.func35, Try.ntmps35
    go_wp2_with fail
    go_ret2
    exact ⟨rfl, rfl⟩
  · by_cases h2 : 1024 < z
    · have Hb := Lib.hid hb
      clear hb
      go_enter Try.func35, Try.ntmps35
      go_wp2_with fail
      go_ret2
      exact ⟨rfl, rfl⟩
    · have hz0 : ((z : Int) == 0) = false := by simp; omega
      have hz00 : ¬ (z : Int) = 0 := by omega
      have e1 : Int.tmod (N : Int) z = (N : Int) % z := Int.tmod_eq_emod_of_nonneg (by omega)
      have e2 : Int.tdiv (N : Int) z = (N : Int) / z := Int.tdiv_eq_ediv_of_nonneg (by omega)
      by_cases h3 : (N : Int) % z = 0
      · have h4 : ¬ (1 ≤ (N : Int) / z ∧ (N : Int) / z ≤ 16384) := fun h => hb ⟨by omega, by omega, h3, h.1, h.2⟩
        obtain ⟨q, hq⟩ : ∃ q, q = (N : Int) / z := ⟨_, rfl⟩
        have hq0 : 0 ≤ q := by rw [hq]; exact Int.ediv_nonneg (by omega) (by omega)
        have hqN : q ≤ N := by
          rw [hq]
          exact Int.ediv_le_self _ (by omega)
        rw [← hq] at e2 h4
        rw [h3] at e1
        have hw2 : IntKind.i64.wrap q = q := IntWalk.i64_in _ (by omega)
        have hr := right_any q z w
        rw [show (decide (1 ≤ q) && decide (q ≤ 16384) && decide (64 ≤ z) && decide (z ≤ 1024)) = false by
          cases hh : (decide (1 ≤ q) && decide (q ≤ 16384) && decide (64 ≤ z) && decide (z ≤ 1024)) with
          | false => rfl
          | true => simp at hh; exact absurd ⟨hh.1.1.1, hh.1.1.2⟩ h4] at hr
        have Hb := Lib.hid hb
        have Hr := Lib.hid hr
        have H4 := Lib.hid h4
        have Hq := Lib.hid hq
        have H3 := Lib.hid h3
        clear hb hr h4 hq h3
        go_enter Try.func35, Try.ntmps35
        go_wp2_with fail
        refine Hr.out.mono ?_
        rintro e w' ⟨rfl, rfl⟩
        go_wp2_with fail
        go_ret2
        exact ⟨rfl, rfl⟩
      · obtain ⟨m, hm⟩ : ∃ m, m = (N : Int) % z := ⟨_, rfl⟩
        rw [← hm] at e1 h3
        have hm0 : 0 ≤ m := by rw [hm]; exact Int.emod_nonneg _ (by omega)
        have hmz : m < z := by rw [hm]; exact Int.emod_lt_of_pos _ (by omega)
        have hw2 : IntKind.i64.wrap m = m := IntWalk.i64_in _ (by omega)
        have h3' : (m != 0) = true := by simp [h3]
        have Hb := Lib.hid hb
        have Hm := Lib.hid hm
        have E2 := Lib.hid e2
        clear hb hm e2
        go_enter Try.func35, Try.ntmps35
        go_wp2_with fail
        go_ret2
        exact ⟨rfl, rfl⟩
theorem pieces_take (L : List UInt8) (z : Nat) : ∀ k, ((List.range k).map fun x => pieceL L z (x * z)).flatten = L.take (k * z)
  | 0 => by simp
  | k + 1 => by
    rw [List.range_succ, List.map_append, List.flatten_append, pieces_take L z k, Nat.succ_mul, List.take_add]
    simp [pieceL]
theorem pieces_all {n z : Nat} {L : List UInt8} (h : L.length = n * z) : (ofD L z (List.finRange n)).kept.flatten = L := by
  have e : (List.finRange n).map (fun x => pieceL L z (x.val * z)) = (List.range n).map fun x => pieceL L z (x * z) := List.ext_getElem (by simp) (fun i h1 h2 => by simp)
  show ((List.finRange n).map (fun x => pieceL L z (x.val * z))).flatten = L
  rw [e, pieces_take, ← h, List.take_length]
theorem ofD_ok {n z : Nat} (L : List UInt8) (hz : z ≤ 1024) (hnz : n * z ≤ 1000000) (hn : n ≤ 16384) : DOk (ofD L z (List.finRange n)) :=
  ⟨by simp [ofD], by show z ≤ _; omega, by simp [ofD]; omega, by simp [ofD]; omega, by simp [ofD], (fun h => by cases h), by simp [ofD]⟩
end Go.Proofs.Ytnddaildicmneaa
