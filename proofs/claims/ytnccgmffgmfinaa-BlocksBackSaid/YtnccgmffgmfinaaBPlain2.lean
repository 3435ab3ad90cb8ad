/-
  loggialaw12.BlocksBack: the walk.
-/
import Derived.Test.YtnccgmffgmfinaaBPlain
namespace Go.Proofs.Ytnccgmffgmfinaa
open Go.RowKit

theorem blk_lift {r : Road} {t : Nat} {n : Int} (h : blkOf r t = some n) (h1 : 16 ≤ t) (hm : 0 ≤ r.at_) : ∃ N : Nat, n = N ∧ N < 8 + t + t * t ∧ keyR N t r.at_.toNat = r := by
  obtain ⟨k, a, b, m⟩ := r
  simp only at hm
  obtain ⟨M, rfl⟩ := Int.eq_ofNat_of_zero_le hm
  rw [Int.toNat_natCast]
  unfold blkOf at h
  split at h
  · rename_i hc
    have hc1 := hc.1
    have hc2 := inB_le hc.2.1
    have hc3 := hc.2.2
    simp only at hc1 hc2 hc3
    obtain ⟨A, rfl⟩ := Int.eq_ofNat_of_zero_le hc2.1
    injection h with h
    simp only at h
    refine ⟨A, h.symm, by omega, ?_⟩
    rw [keyR, if_pos (by omega), hc1, hc3]
  · split at h
    · rename_i hc
      have hc1 := hc.1
      have hc2 := inB_le hc.2.1
      have hc3 := hc.2.2
      simp only at hc1 hc2 hc3
      obtain ⟨A, rfl⟩ := Int.eq_ofNat_of_zero_le hc2.1
      injection h with h
      simp only at h
      refine ⟨8 + A, by omega, by omega, ?_⟩
      rw [keyR, if_neg (by omega), if_pos (by omega), hc1, hc3]
      congr 1; omega
    · split at h
      · rename_i hc
        have hc1 := hc.1
        have hc2 := inB_le hc.2.1
        have hc3 := inB_le hc.2.2
        simp only at hc1 hc2 hc3
        obtain ⟨A, rfl⟩ := Int.eq_ofNat_of_zero_le hc2.1
        obtain ⟨C, rfl⟩ := Int.eq_ofNat_of_zero_le hc3.1
        injection h with h
        simp only at h
        have hA : A < t := by omega
        have hC : C < t := by omega
        have hl : A * t + C < t * t := by
          have : (A + 1) * t ≤ t * t := Nat.mul_le_mul_right t hA
          rw [Nat.add_mul] at this; omega
        refine ⟨8 + t + (A * t + C), by rw [← h]; simp; omega, by omega, ?_⟩
        rw [keyR, if_neg (by omega), if_neg (by omega), hc1, show 8 + t + (A * t + C) - 8 - t = C + t * A by rw [Nat.mul_comm A t]; omega,
          Nat.add_mul_div_left _ _ (by omega), Nat.add_mul_mod_self_left, Nat.div_eq_of_lt hC, Nat.mod_eq_of_lt hC, Nat.zero_add]
      · cases h

theorem find_back {r : Road} {b n : Int} (h : backO r b = some n) : ∃ o : Nat, backN r b = o ∧ backE r b = 0 ∧ findE o b = 0 ∧ findR o b = r ∧ o < 18446744073709551616 := by
  have hN : backN r b = n * b + r.at_ := by rw [backN, h]
  have hE : backE r b = 0 := by rw [backE, h]
  unfold backO at h
  split at h
  · rename_i hc
    obtain ⟨hg, hm0, hm1⟩ := hc
    obtain ⟨B, t, rfl, ht, ht1, ht2, hB, hmo⟩ := good_nat hg
    rw [show ((B : Int) / 4) = (t : Int) by omega] at h
    obtain ⟨N, rfl, hN1, hk⟩ := blk_lift h ht1 hm0
    obtain ⟨M, hM⟩ := Int.eq_ofNat_of_zero_le hm0
    rw [hM, Int.toNat_natCast] at hk
    rw [hM] at hN hm1
    have hMB : M < B := by omega
    have hlt : N * B + M < mostB B := by
      rw [hmo]
      have : (N + 1) * B ≤ (8 + t + t * t) * B := Nat.mul_le_mul_right B hN1
      rw [Nat.add_mul, Nat.mul_comm (8 + t + t * t) B] at this; omega
    refine ⟨N * B + M, by rw [hN]; simp, hE, findE_ok hg hlt, ?_, ?_⟩
    · rw [findR_ok hg hlt, Int.toNat_natCast, road_key, ← ht, show N * B + M = M + B * N by rw [Nat.mul_comm N B]; omega,
        Nat.add_mul_div_left _ _ (by omega), Nat.add_mul_mod_self_left, Nat.div_eq_of_lt hMB, Nat.mod_eq_of_lt hMB, Nat.zero_add, hk]
    · have h1 := good_cases hg
      obtain ⟨v1, v2, v3, v4, v5⟩ := most_vals
      rcases h1 with h | h | h | h | h <;> rw [h] at hlt <;> omega
  · cases h

end Go.Proofs.Ytnccgmffgmfinaa
