/-
  The plain laws of roads: a road leads back to its byte.
-/
import Derived.Test.YtnccgmffgmfinaaBKnown
import Derived.Laws.StructEq
namespace Go.Proofs.Ytnccgmffgmfinaa
open Go.RowKit

theorem most_vals : mostB 64 = 17920 ∧ mostB 128 = 136192 ∧ mostB 256 = 1067008 ∧ mostB 512 = 8458240 ∧ mostB 1024 = 67379200 := by decide

/-- the block that a road is of, by its number -/
def keyR (n t m : Nat) : Road :=
  if n < 8 then ⟨1, (n : Nat), 0, (m : Nat)⟩
  else if n < 8 + t then ⟨2, (n - 8 : Nat), 0, (m : Nat)⟩
  else ⟨3, ((n - 8 - t) / t : Nat), ((n - 8 - t) % t : Nat), (m : Nat)⟩
theorem road_key (off b : Nat) : road off b = keyR (off / b) (b / 4) (off % b) := rfl

theorem blk_key (n t m : Nat) (ht : 0 < t) (hn : n < 8 + t + t * t) : blkOf (keyR n t m) t = some (n : Int) := by
  unfold keyR
  split
  · rename_i h
    rw [blkOf, if_pos ⟨rfl, inB_of (by constructor <;> simp; omega), rfl⟩]
  · rename_i h1
    split
    · rename_i h
      rw [blkOf, if_neg (fun h => by have := h.1; simp at this), if_pos ⟨rfl, inB_of (by constructor <;> simp <;> omega), rfl⟩]
      congr 1; simp only []; omega
    · rename_i h2
      have hd : (n - 8 - t) / t < t := Nat.div_lt_of_lt_mul (by omega)
      have hm : (n - 8 - t) % t < t := Nat.mod_lt _ ht
      have hdm := Nat.div_add_mod (n - 8 - t) t
      generalize (n - 8 - t) / t = x at *
      generalize (n - 8 - t) % t = y at *
      rw [blkOf, if_neg (fun h => by have := h.1; simp at this), if_neg (fun h => by have := h.1; simp at this), if_pos ⟨rfl, inB_of ⟨by simp only []; omega, by simp only []; omega⟩, inB_of ⟨by simp only []; omega, by simp only []; omega⟩⟩]
      congr 1
      simp only []
      rw [show (x : Int) * (t : Int) = ((t * x : Nat) : Int) by rw [Nat.mul_comm]; simp]
      generalize t * x = z at *
      omega
theorem good_nat {b : Int} (h : goodB b = true) : ∃ B t : Nat, b = B ∧ t = B / 4 ∧ 16 ≤ t ∧ t ≤ 256 ∧ B = 4 * t ∧ mostB b = B * (8 + t + t * t) := by
  obtain ⟨v1, v2, v3, v4, v5⟩ := most_vals
  rcases good_cases h with rfl | rfl | rfl | rfl | rfl
  · exact ⟨64, 16, rfl, rfl, by omega, by omega, rfl, v1⟩
  · exact ⟨128, 32, rfl, rfl, by omega, by omega, rfl, v2⟩
  · exact ⟨256, 64, rfl, rfl, by omega, by omega, rfl, v3⟩
  · exact ⟨512, 128, rfl, rfl, by omega, by omega, rfl, v4⟩
  · exact ⟨1024, 256, rfl, rfl, by omega, by omega, rfl, v5⟩
theorem key_at (n t m : Nat) : (keyR n t m).at_ = m := by
  unfold keyR; split
  · rfl
  · split <;> rfl
theorem findR_ok {off : Nat} {b : Int} (hg : goodB b = true) (ho : off < mostB b) : findR off b = road off b.toNat := by rw [findR, if_pos (findE_ok hg ho)]

theorem back_find {off : Nat} {b : Int} (hg : goodB b = true) (ho : off < mostB b) : backN (findR off b) b = off ∧ backE (findR off b) b = 0 := by
  obtain ⟨B, t, rfl, ht, h1, h2, hB, hm⟩ := good_nat hg
  have hn : off / B < 8 + t + t * t := Nat.div_lt_of_lt_mul (by rw [← hm]; exact ho)
  have hO : backO (findR off B) B = some ((off / B : Nat) : Int) := by
    rw [findR_ok hg ho, Int.toNat_natCast, road_key, backO, if_pos ⟨hg, by rw [key_at]; omega, by rw [key_at]; have := Nat.mod_lt off (show 0 < B by omega); omega⟩]
    rw [← ht, show ((B : Int) / 4) = (t : Int) by omega]
    exact blk_key _ _ _ (by omega) hn
  constructor
  · rw [backN, hO, findR_ok hg ho, Int.toNat_natCast, road_key, key_at]
    have := Nat.div_add_mod off B
    simp only []
    rw [show ((off / B : Nat) : Int) * (B : Int) = ((B * (off / B) : Nat) : Int) by rw [Nat.mul_comm]; simp]
    omega
  · rw [backE, hO]

/-- two roads of one block; two of different blocks -/
theorem key_inj {n n' t m m' : Nat} (ht : 0 < t) (hn : n < 8 + t + t * t) (hn' : n' < 8 + t + t * t) (hk : (keyR n t m).k = (keyR n' t m').k) (ha : (keyR n t m).a = (keyR n' t m').a) (hb : (keyR n t m).b = (keyR n' t m').b) : n = n' := by
  have h1 := blk_key n t m ht hn
  have h2 := blk_key n' t m' ht hn'
  have : blkOf (keyR n t m) t = blkOf (keyR n' t m') t := by unfold blkOf; rw [hk, ha, hb]
  rw [h1, h2] at this
  injection this with h; omega
theorem key_same (n t m m' : Nat) : (keyR n t m).k = (keyR n t m').k ∧ (keyR n t m).a = (keyR n t m').a ∧ (keyR n t m).b = (keyR n t m').b := by
  unfold keyR
  split
  · exact ⟨rfl, rfl, rfl⟩
  · split <;> exact ⟨rfl, rfl, rfl⟩
end Go.Proofs.Ytnccgmffgmfinaa
