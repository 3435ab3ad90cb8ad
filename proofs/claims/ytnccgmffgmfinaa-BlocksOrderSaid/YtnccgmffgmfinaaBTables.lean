/-
  blocks.Tables: how many tables a file has.
-/
import Derived.Test.YtnccgmffgmfinaaBBack3
namespace Go.Proofs.Ytnccgmffgmfinaa
open Go.RowKit

def tabN (n t : Int) : Int := if n ≤ 8 then 0 else if n ≤ 8 + t then 1 else 2 + (n - 8 - 1) / t
def tablesOf (size : Nat) (b : Int) : Int := if goodB b then tabN (((min size (mostB b) : Nat) + b - 1) / b) (b / 4) else 0

set_option maxRecDepth 8000 in
set_option maxHeartbeats 1000000 in
theorem tables_any (size : Nat) (b : Int) (w : World) (hu : size < 18446744073709551616) : Calls Try.prog 19 #[.int .u64 size, .int .i64 b] w fun e w' => e = .returned (.int .i64 (tablesOf size b)) ∧ Keeps nowhere w w' := by
  cases hg : goodB b with
  | false =>
    have hT : tablesOf size b = 0 := by rw [tablesOf, if_neg (by rw [hg]; simp)]
    have hm := most_no hg
    have HT := Lib.hid hT
    clear hT
    go_enter Try.func19, Try.ntmps19
    go_wp2_with fail
    refine (most_any _ _).mono ?_
    rintro e w1 ⟨rfl, hk1⟩
    rw [hm]
    have Hk1 := Lib.hid hk1
    clear hk1
    go_wp2_with fail
    go_ret
    exact ⟨by rw [HT.out]; rfl, Hk1.out⟩
  | true =>
    rcases good_cases hg with rfl | rfl | rfl | rfl | rfl
    · have hm : mostB 64 = 17920 := by decide
      obtain ⟨s, hs⟩ : ∃ s, s = min size 17920 := ⟨_, rfl⟩
      have hs' : (min (size : Int) 17920) = s := by omega
      have hT : Hid (tablesOf size 64 = tabN (((s : Int) + 64 - 1) / 64) 16) := Lib.hid (by rw [tablesOf, if_pos hg, hm, ← hs]; rfl)
      have hs2 : s ≤ 17920 := by omega
      have e1 : IntKind.i64.wrap (s : Int) = s := IntWalk.i64_in _ (by omega)
      have Hs := Lib.hid hs
      clear hs
      by_cases h0 : s = 0
      · subst h0
        have hs'' : (min (size : Int) 17920) = 0 := by simpa using hs'
        clear hs'
        go_enter Try.func19, Try.ntmps19
        go_wp2_with fail
        refine (most_any _ _).mono ?_
        rintro e w1 ⟨rfl, hk1⟩
        rw [hm]
        have Hk1 := Lib.hid hk1
        clear hk1
        go_wp2_with fail
        go_ret
        exact ⟨by rw [hT.out]; rfl, Hk1.out⟩
      · have h0' : ((s : Int) == 0) = false := by simpa using h0
        go_enter Try.func19, Try.ntmps19
        go_wp2_with fail
        refine (most_any _ _).mono ?_
        rintro e w1 ⟨rfl, hk1⟩
        rw [hm]
        have Hk1 := Lib.hid hk1
        clear hk1
        go_wp2_with fail
        all_goals
          go_ret
          refine ⟨?_, Hk1.out⟩
          rw [hT.out]
          refine congrArg (fun x => Ending.returned (Value.int .i64 x)) ?_
          unfold tabN
          first
            | (rw [if_pos (by omega)]; done)
            | (rw [if_pos (by omega)])
            | (rw [if_neg (by omega), if_pos (by omega)]; done)
            | (rw [if_neg (by omega), if_pos (by omega)])
            | (rw [if_neg (by omega), if_neg (by omega)]; omega)
            | (rw [if_neg (by omega), if_neg (by omega)])
    · have hm : mostB 128 = 136192 := by decide
      obtain ⟨s, hs⟩ : ∃ s, s = min size 136192 := ⟨_, rfl⟩
      have hs' : (min (size : Int) 136192) = s := by omega
      have hT : Hid (tablesOf size 128 = tabN (((s : Int) + 128 - 1) / 128) 32) := Lib.hid (by rw [tablesOf, if_pos hg, hm, ← hs]; rfl)
      have hs2 : s ≤ 136192 := by omega
      have e1 : IntKind.i64.wrap (s : Int) = s := IntWalk.i64_in _ (by omega)
      have Hs := Lib.hid hs
      clear hs
      by_cases h0 : s = 0
      · subst h0
        have hs'' : (min (size : Int) 136192) = 0 := by simpa using hs'
        clear hs'
        go_enter Try.func19, Try.ntmps19
        go_wp2_with fail
        refine (most_any _ _).mono ?_
        rintro e w1 ⟨rfl, hk1⟩
        rw [hm]
        have Hk1 := Lib.hid hk1
        clear hk1
        go_wp2_with fail
        go_ret
        exact ⟨by rw [hT.out]; rfl, Hk1.out⟩
      · have h0' : ((s : Int) == 0) = false := by simpa using h0
        go_enter Try.func19, Try.ntmps19
        go_wp2_with fail
        refine (most_any _ _).mono ?_
        rintro e w1 ⟨rfl, hk1⟩
        rw [hm]
        have Hk1 := Lib.hid hk1
        clear hk1
        go_wp2_with fail
        all_goals
          go_ret
          refine ⟨?_, Hk1.out⟩
          rw [hT.out]
          refine congrArg (fun x => Ending.returned (Value.int .i64 x)) ?_
          unfold tabN
          first
            | (rw [if_pos (by omega)]; done)
            | (rw [if_pos (by omega)])
            | (rw [if_neg (by omega), if_pos (by omega)]; done)
            | (rw [if_neg (by omega), if_pos (by omega)])
            | (rw [if_neg (by omega), if_neg (by omega)]; omega)
            | (rw [if_neg (by omega), if_neg (by omega)])
    · have hm : mostB 256 = 1067008 := by decide
      obtain ⟨s, hs⟩ : ∃ s, s = min size 1067008 := ⟨_, rfl⟩
      have hs' : (min (size : Int) 1067008) = s := by omega
      have hT : Hid (tablesOf size 256 = tabN (((s : Int) + 256 - 1) / 256) 64) := Lib.hid (by rw [tablesOf, if_pos hg, hm, ← hs]; rfl)
      have hs2 : s ≤ 1067008 := by omega
      have e1 : IntKind.i64.wrap (s : Int) = s := IntWalk.i64_in _ (by omega)
      have Hs := Lib.hid hs
      clear hs
      by_cases h0 : s = 0
      · subst h0
        have hs'' : (min (size : Int) 1067008) = 0 := by simpa using hs'
        clear hs'
        go_enter Try.func19, Try.ntmps19
        go_wp2_with fail
        refine (most_any _ _).mono ?_
        rintro e w1 ⟨rfl, hk1⟩
        rw [hm]
        have Hk1 := Lib.hid hk1
        clear hk1
        go_wp2_with fail
        go_ret
        exact ⟨by rw [hT.out]; rfl, Hk1.out⟩
      · have h0' : ((s : Int) == 0) = false := by simpa using h0
        go_enter Try.func19, Try.ntmps19
        go_wp2_with fail
        refine (most_any _ _).mono ?_
        rintro e w1 ⟨rfl, hk1⟩
        rw [hm]
        have Hk1 := Lib.hid hk1
        clear hk1
        go_wp2_with fail
        all_goals
          go_ret
          refine ⟨?_, Hk1.out⟩
          rw [hT.out]
          refine congrArg (fun x => Ending.returned (Value.int .i64 x)) ?_
          unfold tabN
          first
            | (rw [if_pos (by omega)]; done)
            | (rw [if_pos (by omega)])
            | (rw [if_neg (by omega), if_pos (by omega)]; done)
            | (rw [if_neg (by omega), if_pos (by omega)])
            | (rw [if_neg (by omega), if_neg (by omega)]; omega)
            | (rw [if_neg (by omega), if_neg (by omega)])
    · have hm : mostB 512 = 8458240 := by decide
      obtain ⟨s, hs⟩ : ∃ s, s = min size 8458240 := ⟨_, rfl⟩
      have hs' : (min (size : Int) 8458240) = s := by omega
      have hT : Hid (tablesOf size 512 = tabN (((s : Int) + 512 - 1) / 512) 128) := Lib.hid (by rw [tablesOf, if_pos hg, hm, ← hs]; rfl)
      have hs2 : s ≤ 8458240 := by omega
      have e1 : IntKind.i64.wrap (s : Int) = s := IntWalk.i64_in _ (by omega)
      have Hs := Lib.hid hs
      clear hs
      by_cases h0 : s = 0
      · subst h0
        have hs'' : (min (size : Int) 8458240) = 0 := by simpa using hs'
        clear hs'
        go_enter Try.func19, Try.ntmps19
        go_wp2_with fail
        refine (most_any _ _).mono ?_
        rintro e w1 ⟨rfl, hk1⟩
        rw [hm]
        have Hk1 := Lib.hid hk1
        clear hk1
        go_wp2_with fail
        go_ret
        exact ⟨by rw [hT.out]; rfl, Hk1.out⟩
      · have h0' : ((s : Int) == 0) = false := by simpa using h0
        go_enter Try.func19, Try.ntmps19
        go_wp2_with fail
        refine (most_any _ _).mono ?_
        rintro e w1 ⟨rfl, hk1⟩
        rw [hm]
        have Hk1 := Lib.hid hk1
        clear hk1
        go_wp2_with fail
        all_goals
          go_ret
          refine ⟨?_, Hk1.out⟩
          rw [hT.out]
          refine congrArg (fun x => Ending.returned (Value.int .i64 x)) ?_
          unfold tabN
          first
            | (rw [if_pos (by omega)]; done)
            | (rw [if_pos (by omega)])
            | (rw [if_neg (by omega), if_pos (by omega)]; done)
            | (rw [if_neg (by omega), if_pos (by omega)])
            | (rw [if_neg (by omega), if_neg (by omega)]; omega)
            | (rw [if_neg (by omega), if_neg (by omega)])
    · have hm : mostB 1024 = 67379200 := by decide
      obtain ⟨s, hs⟩ : ∃ s, s = min size 67379200 := ⟨_, rfl⟩
      have hs' : (min (size : Int) 67379200) = s := by omega
      have hT : Hid (tablesOf size 1024 = tabN (((s : Int) + 1024 - 1) / 1024) 256) := Lib.hid (by rw [tablesOf, if_pos hg, hm, ← hs]; rfl)
      have hs2 : s ≤ 67379200 := by omega
      have e1 : IntKind.i64.wrap (s : Int) = s := IntWalk.i64_in _ (by omega)
      have Hs := Lib.hid hs
      clear hs
      by_cases h0 : s = 0
      · subst h0
        have hs'' : (min (size : Int) 67379200) = 0 := by simpa using hs'
        clear hs'
        go_enter Try.func19, Try.ntmps19
        go_wp2_with fail
        refine (most_any _ _).mono ?_
        rintro e w1 ⟨rfl, hk1⟩
        rw [hm]
        have Hk1 := Lib.hid hk1
        clear hk1
        go_wp2_with fail
        go_ret
        exact ⟨by rw [hT.out]; rfl, Hk1.out⟩
      · have h0' : ((s : Int) == 0) = false := by simpa using h0
        go_enter Try.func19, Try.ntmps19
        go_wp2_with fail
        refine (most_any _ _).mono ?_
        rintro e w1 ⟨rfl, hk1⟩
        rw [hm]
        have Hk1 := Lib.hid hk1
        clear hk1
        go_wp2_with fail
        all_goals
          go_ret
          refine ⟨?_, Hk1.out⟩
          rw [hT.out]
          refine congrArg (fun x => Ending.returned (Value.int .i64 x)) ?_
          unfold tabN
          first
            | (rw [if_pos (by omega)]; done)
            | (rw [if_pos (by omega)])
            | (rw [if_neg (by omega), if_pos (by omega)]; done)
            | (rw [if_neg (by omega), if_pos (by omega)])
            | (rw [if_neg (by omega), if_neg (by omega)]; omega)
            | (rw [if_neg (by omega), if_neg (by omega)])

set_option maxRecDepth 8000 in
set_option maxHeartbeats 1000000 in
theorem law_tables (n : Int) (b : Int) (w : World) (hg : goodB b = true) (h0 : 0 ≤ n) (hn : n ≤ 100000) : Calls Try.prog 20 #[.int .i64 n, .int .i64 b] w fun e w' => e = .returned (.int .i64 (tabN n (b / 4))) ∧ w = w' := by
  rcases good_cases hg with rfl | rfl | rfl | rfl | rfl
  all_goals
    go_enter Try.func20, Try.ntmps20
    go_wp2_with fail
    all_goals
      go_ret
      refine ⟨?_, rfl⟩
      refine congrArg (fun x => Ending.returned (Value.int .i64 x)) ?_
      unfold tabN
      first
        | (rw [if_pos (by omega)]; done)
        | (rw [if_pos (by omega)])
        | (rw [if_neg (by omega), if_pos (by omega)]; done)
        | (rw [if_neg (by omega), if_pos (by omega)])
        | (rw [if_neg (by omega), if_neg (by omega)]; omega)
        | (rw [if_neg (by omega), if_neg (by omega)])
end Go.Proofs.Ytnccgmffgmfinaa
