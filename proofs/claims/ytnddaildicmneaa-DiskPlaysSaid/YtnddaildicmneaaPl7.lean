/-
  loggialaw7.DiskPlays: every argument.
-/
import Derived.Test.YtnddaildicmneaaPl6
namespace Go.Proofs.Ytnddaildicmneaa
open Go.Proofs Go.RowKit
theorem dplays_all (s z : Int) (A : Option Addr) (l : List Act7) (c : Nat) (w : World) (hA : Act7Arr w A l) : Calls Try.prog 8 #[.int .i64 s, .int .i64 z, .slice A l.length c] w (YesD w) := by
  by_cases h60 : 60 < l.length
  · exact dplays_long s z A _ c w h60
  · by_cases hw : 50 < s ∧ s ≤ 16384
    · exact dplays_wide s z A _ c w h60 hw.1 hw.2
    · by_cases hb : 1 ≤ s ∧ s ≤ 16384 ∧ 64 ≤ z ∧ z ≤ 1024
      · obtain ⟨h1, h2, h3, h4⟩ := hb
        obtain ⟨n, rfl⟩ := Int.eq_ofNat_of_zero_le (by omega : 0 ≤ s)
        obtain ⟨m, rfl⟩ := Int.eq_ofNat_of_zero_le (by omega : 0 ≤ z)
        exact dplays_any n m A l c w hA h60 (by omega) (by omega) (by omega) (by omega)
      · refine dplays_bad s z A _ c w h60 hw ?_
        cases hh : (decide (1 ≤ s) && decide (s ≤ 16384) && decide (64 ≤ z) && decide (z ≤ 1024)) with
        | false => rfl
        | true => simp at hh; exact absurd ⟨hh.1.1.1, hh.1.1.2, hh.1.2, hh.2⟩ hb
end Go.Proofs.Ytnddaildicmneaa
