/-
  inode: which bytes are an inode's, as law 11's bad says it.
-/
import Derived.Test.YtblmbchjafffbaaI9
namespace Go.Proofs.Ytblmbchjafffbaa
open Go.RowKit

theorem nb_cons (n v : Nat) : nb (n + 1) v = UInt8.ofNat v :: nb n (v / 256) := by
  unfold nb
  rw [List.range_succ_eq_map, List.map_cons, List.map_map]
  simp only [Nat.pow_zero, Nat.div_one, List.cons.injEq, true_and]
  apply List.map_congr_left
  intro k _
  simp only [Function.comp_def, Nat.succ_eq_add_one, Nat.pow_succ]
  rw [Nat.mul_comm (256 ^ k) 256, Nat.div_div_eq_div_mul]
theorem nb_le : ∀ c : List UInt8, nb c.length (le c) = c
  | [] => rfl
  | b :: c => by
    have hb := b.toNat_lt
    have h1 : le (b :: c) = b.toNat + 256 * le c := rfl
    rw [List.length_cons, nb_cons, h1]
    have h2 : (b.toNat + 256 * le c) / 256 = le c := by omega
    rw [h2, nb_le c]
    congr 1
    apply UInt8.toNat_inj.1
    rw [UInt8.toNat_ofNat']
    omega

def badL (L : List UInt8) : Prop :=
  L.getD 14 0 ≠ 0 ∨ L.getD 15 0 ≠ 0 ∨ 1000 < (L.getD 12 0).toNat + (L.getD 13 0).toNat * 256 ∨ (∃ j, j < 10 ∧ (L.getD (16 + 4 * j + 2) 0 ≠ 0 ∨ L.getD (16 + 4 * j + 3) 0 ≠ 0)) ∨ (∃ j, j < 8 ∧ L.getD (56 + j) 0 ≠ 0) ∨
    1073741824 < (L.getD 8 0).toNat + (L.getD 9 0).toNat * 256 + (L.getD 10 0).toNat * 65536 + (L.getD 11 0).toNat * 16777216

def chL (L : List UInt8) : List (List UInt8) := [[L.getD 0 0, L.getD 1 0, L.getD 2 0, L.getD 3 0], [L.getD 4 0, L.getD 5 0, L.getD 6 0, L.getD 7 0], [L.getD 8 0, L.getD 9 0, L.getD 10 0, L.getD 11 0], [L.getD 12 0, L.getD 13 0], [L.getD 14 0, L.getD 15 0], [L.getD 16 0, L.getD 17 0, L.getD 18 0, L.getD 19 0], [L.getD 20 0, L.getD 21 0, L.getD 22 0, L.getD 23 0], [L.getD 24 0, L.getD 25 0, L.getD 26 0, L.getD 27 0], [L.getD 28 0, L.getD 29 0, L.getD 30 0, L.getD 31 0], [L.getD 32 0, L.getD 33 0, L.getD 34 0, L.getD 35 0], [L.getD 36 0, L.getD 37 0, L.getD 38 0, L.getD 39 0], [L.getD 40 0, L.getD 41 0, L.getD 42 0, L.getD 43 0], [L.getD 44 0, L.getD 45 0, L.getD 46 0, L.getD 47 0], [L.getD 48 0, L.getD 49 0, L.getD 50 0, L.getD 51 0], [L.getD 52 0, L.getD 53 0, L.getD 54 0, L.getD 55 0]]
theorem list64 (L : List UInt8) (h : L.length = 64) : L = (chL L).flatten ++ [L.getD 56 0, L.getD 57 0, L.getD 58 0, L.getD 59 0, L.getD 60 0, L.getD 61 0, L.getD 62 0, L.getD 63 0] := by
  have h1 : L = (List.range 64).map (fun k => L.getD k 0) := by
    apply List.ext_getElem?
    intro k
    by_cases hk : k < 64
    · simp [List.getD, hk, h]
    · rw [List.getElem?_eq_none (by omega), List.getElem?_eq_none (by simp; omega)]
  rw [show List.range 64 = [0, 1, 2, 3, 4, 5, 6, 7, 8, 9, 10, 11, 12, 13, 14, 15, 16, 17, 18, 19, 20, 21, 22, 23, 24, 25, 26, 27, 28, 29, 30, 31, 32, 33, 34, 35, 36, 37, 38, 39, 40, 41, 42, 43, 44, 45, 46, 47, 48, 49, 50, 51, 52, 53, 54, 55, 56, 57, 58, 59, 60, 61, 62, 63] from rfl] at h1
  exact h1
theorem chL_len (L : List UInt8) : (chL L).map (fun c => (c.length : Int)) = wds := rfl
theorem small4 (a b : UInt8) : le [a, b, 0, 0] ≤ 65535 := by
  have ha := a.toNat_lt
  have hb := b.toNat_lt
  have h : le [a, b, 0, 0] = a.toNat + 256 * (b.toNat + 256 * (0 + 256 * (0 + 256 * 0))) := rfl
  omega

set_option maxRecDepth 8000 in
theorem good_of (L : List UInt8) (h : L.length = 64) (hb : ¬ badL L) : goodI L := by
  have hL := list64 L h
  have h14 : L.getD 14 0 = 0 := Classical.byContradiction fun e => hb (.inl e)
  have h15 : L.getD 15 0 = 0 := Classical.byContradiction fun e => hb (.inr (.inl e))
  have hl : (L.getD 12 0).toNat + (L.getD 13 0).toNat * 256 ≤ 1000 := Nat.le_of_not_lt fun e => hb (.inr (.inr (.inl e)))
  have hz : ∀ j, j < 10 → L.getD (16 + 4 * j + 2) 0 = 0 ∧ L.getD (16 + 4 * j + 3) 0 = 0 := fun j hj =>
    ⟨Classical.byContradiction fun e => hb (.inr (.inr (.inr (.inl ⟨j, hj, .inl e⟩)))), Classical.byContradiction fun e => hb (.inr (.inr (.inr (.inl ⟨j, hj, .inr e⟩))))⟩
  have ht : ∀ j, j < 8 → L.getD (56 + j) 0 = 0 := fun j hj => Classical.byContradiction fun e => hb (.inr (.inr (.inr (.inr (.inl ⟨j, hj, e⟩)))))
  have hs : (L.getD 8 0).toNat + (L.getD 9 0).toNat * 256 + (L.getD 10 0).toNat * 65536 + (L.getD 11 0).toNat * 16777216 ≤ 1073741824 := Nat.le_of_not_lt fun e => hb (.inr (.inr (.inr (.inr (.inr e)))))
  have v := fun k c (hk : (chL L)[k]? = some c) => (congrArg (fun M => valAt M k) hL).trans (val_chunk [L.getD 56 0, L.getD 57 0, L.getD 58 0, L.getD 59 0, L.getD 60 0, L.getD 61 0, L.getD 62 0, L.getD 63 0] (chL L) (chL_len L) k c hk)
  have hI : rdI L = ⟨le [L.getD 0 0, L.getD 1 0, L.getD 2 0, L.getD 3 0], le [L.getD 4 0, L.getD 5 0, L.getD 6 0, L.getD 7 0], le [L.getD 8 0, L.getD 9 0, L.getD 10 0, L.getD 11 0], le [L.getD 12 0, L.getD 13 0], le [L.getD 16 0, L.getD 17 0, L.getD 18 0, L.getD 19 0], le [L.getD 20 0, L.getD 21 0, L.getD 22 0, L.getD 23 0], le [L.getD 24 0, L.getD 25 0, L.getD 26 0, L.getD 27 0], le [L.getD 28 0, L.getD 29 0, L.getD 30 0, L.getD 31 0], le [L.getD 32 0, L.getD 33 0, L.getD 34 0, L.getD 35 0], le [L.getD 36 0, L.getD 37 0, L.getD 38 0, L.getD 39 0], le [L.getD 40 0, L.getD 41 0, L.getD 42 0, L.getD 43 0], le [L.getD 44 0, L.getD 45 0, L.getD 46 0, L.getD 47 0], le [L.getD 48 0, L.getD 49 0, L.getD 50 0, L.getD 51 0], le [L.getD 52 0, L.getD 53 0, L.getD 54 0, L.getD 55 0]⟩ := by
    unfold rdI
    rw [v 0 _ rfl, v 1 _ rfl, v 2 _ rfl, v 3 _ rfl, v 5 _ rfl, v 6 _ rfl, v 7 _ rfl, v 8 _ rfl, v 9 _ rfl, v 10 _ rfl, v 11 _ rfl, v 12 _ rfl, v 13 _ rfl, v 14 _ rfl]
  have z0 := hz 0 (by omega)
  have z1 := hz 1 (by omega)
  have z2 := hz 2 (by omega)
  have z3 := hz 3 (by omega)
  have z4 := hz 4 (by omega)
  have z5 := hz 5 (by omega)
  have z6 := hz 6 (by omega)
  have z7 := hz 7 (by omega)
  have z8 := hz 8 (by omega)
  have z9 := hz 9 (by omega)
  simp only [Nat.reduceMul, Nat.reduceAdd] at z0 z1 z2 z3 z4 z5 z6 z7 z8 z9
  rw [z0.1, z0.2, z1.1, z1.2, z2.1, z2.2, z3.1, z3.2, z4.1, z4.2, z5.1, z5.2, z6.1, z6.2, z7.1, z7.2, z8.1, z8.2, z9.1, z9.2] at hI
  refine ⟨?_, ?_⟩
  · rw [hI]
    refine chk_zero ?_ ?_ ?_ ?_ ?_
    · show ¬ 1073741824 < le [L.getD 8 0, L.getD 9 0, L.getD 10 0, L.getD 11 0]
      have e : le [L.getD 8 0, L.getD 9 0, L.getD 10 0, L.getD 11 0] = (L.getD 8 0).toNat + 256 * ((L.getD 9 0).toNat + 256 * ((L.getD 10 0).toNat + 256 * ((L.getD 11 0).toNat + 256 * 0))) := rfl
      omega
    · show ¬ 1000 < le [L.getD 12 0, L.getD 13 0]
      have e : le [L.getD 12 0, L.getD 13 0] = (L.getD 12 0).toNat + 256 * ((L.getD 13 0).toNat + 256 * 0) := rfl
      omega
    · exact Nat.not_lt.2 (small4 _ _)
    · exact Nat.not_lt.2 (small4 _ _)
    · intro x hx
      simp only [Ino.dir, List.mem_cons, List.not_mem_nil, or_false] at hx
      rcases hx with rfl | rfl | rfl | rfl | rfl | rfl | rfl | rfl <;> exact Nat.not_lt.2 (small4 _ _)
  · rw [hI]
    conv => rhs; rw [hL]
    have n4 := fun c (hc : c.length = 4) => (show nb 4 (le c) = c from by rw [← hc]; exact nb_le c)
    have n2 := fun c (hc : c.length = 2) => (show nb 2 (le c) = c from by rw [← hc]; exact nb_le c)
    rw [encB_chunks]
    simp only [chunks, chL]
    rw [n4 _ rfl, n4 _ rfl, n4 _ rfl, n2 _ rfl, n4 _ rfl, n4 _ rfl, n4 _ rfl, n4 _ rfl, n4 _ rfl, n4 _ rfl, n4 _ rfl, n4 _ rfl, n4 _ rfl, n4 _ rfl]
    rw [h14, h15, z0.1, z0.2, z1.1, z1.2, z2.1, z2.2, z3.1, z3.2, z4.1, z4.2, z5.1, z5.2, z6.1, z6.2, z7.1, z7.2, z8.1, z8.2, z9.1, z9.2, ht 0 (by omega), ht 1 (by omega), ht 2 (by omega), ht 3 (by omega), ht 4 (by omega), ht 5 (by omega), ht 6 (by omega), ht 7 (by omega)]
    rfl
end Go.Proofs.Ytblmbchjafffbaa
