/-
  inode: the statement InodeBlocks, walked.
-/
import Derived.Test.YtblmbchjafffbaaI8
namespace Go.Proofs.Ytblmbchjafffbaa
open Go.RowKit

set_option maxHeartbeats 1600000 in
set_option maxRecDepth 8000 in
theorem iblocks_walk (s : Nat) (b : Int) (hs : s < 4294967296) (w : World) : Calls Try.prog 9 #[.int .u32 s, .int .i64 b] w (YesI w) := by
  by_cases h1 : b < 64
  · have hR : blocksN s b = 0 := by rw [blocksN, if_pos (.inl h1)]
    go_enter Try.func9, Try.ntmps9
    go_wp2_with fail
    refine (known11 w).mono ?_
    rintro e w1 ⟨rfl, hk1⟩
    have Hk1 := Lib.hid hk1
    clear hk1
    go_wp2_with fail
    refine (iblocksN s b hs _).mono ?_
    rintro e w2 ⟨rfl, rfl⟩
    rw [hR]
    clear hR
    go_wp2_with fail
    go_ret
    exact ⟨rfl, Hk1.out⟩
  · by_cases h2 : b > 1024
    · have hR : blocksN s b = 0 := by rw [blocksN, if_pos (.inr h2)]
      go_enter Try.func9, Try.ntmps9
      go_wp2_with fail
      refine (known11 w).mono ?_
      rintro e w1 ⟨rfl, hk1⟩
      have Hk1 := Lib.hid hk1
      clear hk1
      go_wp2_with fail
      refine (iblocksN s b hs _).mono ?_
      rintro e w2 ⟨rfl, rfl⟩
      rw [hR]
      clear hR
      go_wp2_with fail
      go_ret
      exact ⟨rfl, Hk1.out⟩
    · have hR : blocksN s b = ((s : Int) + b - 1) / b := by rw [blocksN, if_neg (by omega)]
      obtain ⟨q, hq⟩ : ∃ q, q = ((s : Int) + b - 1) / b := ⟨_, rfl⟩
      rw [← hq] at hR
      have hm := Int.mul_ediv_add_emod ((s : Int) + b - 1) b
      have hm0 := Int.emod_nonneg ((s : Int) + b - 1) (show b ≠ 0 by omega)
      have hm1 := Int.emod_lt_of_pos ((s : Int) + b - 1) (show 0 < b by omega)
      have hq0 : 0 ≤ q := by rw [hq]; exact Int.ediv_nonneg (by omega) (by omega)
      rw [← hq] at hm
      obtain ⟨P, hP⟩ : ∃ P, P = q * b := ⟨_, rfl⟩
      have hP2 : (q - 1) * b = P - b := by rw [hP, Int.sub_mul, Int.one_mul]
      rw [Int.mul_comm b q, ← hP] at hm
      have hPs : P ≥ (s : Int) := by omega
      have hPu : P ≤ 8589934592 := by omega
      have hPl : P - b < (s : Int) := by omega
      have hwP : IntKind.i64.wrap (q * b) = P := by rw [← hP]; exact IntWalk.i64_in _ (by omega)
      have hqb : q ≤ 8589934592 := by
        have h64 : q * 64 ≤ q * b := Int.mul_le_mul_of_nonneg_left (by omega) hq0
        rw [← hP] at h64
        omega
      have hwq : IntKind.i64.wrap (q - 1) = q - 1 := IntWalk.i64_in _ (by omega)
      have hwP2 : IntKind.i64.wrap ((q - 1) * b) = P - b := by rw [hP2]; exact IntWalk.i64_in _ (by omega)
      have hq0' : q ≥ 0 := hq0
      clear hm hm0 hm1 hq0 hqb hPu
      have Hq := Lib.hid hq
      have HP := Lib.hid hP
      have HP2 := Lib.hid hP2
      clear hq hP hP2
      go_enter Try.func9, Try.ntmps9
      go_wp2_with fail
      refine (known11 w).mono ?_
      rintro e w1 ⟨rfl, hk1⟩
      have Hk1 := Lib.hid hk1
      clear hk1
      go_wp2_with fail
      refine (iblocksN s b hs _).mono ?_
      rintro e w2 ⟨rfl, rfl⟩
      rw [hR]
      clear hR
      by_cases hz : q = 0
      · have hz' : (q == 0) = true := by simp [hz]
        have Hz := Lib.hid hz
        clear hz
        go_wp2_with fail
        go_ret
        exact ⟨rfl, Hk1.out⟩
      · have hz' : (q == 0) = false := by simp [hz]
        have Hz := Lib.hid hz
        clear hz
        go_wp2_with fail
        go_ret
        exact ⟨rfl, Hk1.out⟩
end Go.Proofs.Ytblmbchjafffbaa
