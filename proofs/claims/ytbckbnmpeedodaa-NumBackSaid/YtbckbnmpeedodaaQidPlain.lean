/-
  Plain facts on what Take of numbers and of qids gives.
-/
import Derived.Test.YtbckbnmpeedodaaQidTake
namespace Go.Proofs.Ytbckbnmpeedodaa
open Go.RowKit

theorem takeVal_nb (n v : Nat) (r : List UInt8) (h1 : 1 ≤ n) (h8 : n ≤ 8) : takeVal (nb n v ++ r) 0 n = v % 256 ^ n := by
  rw [takeVal, if_pos (by simp [nb_len]; omega), Int.toNat_natCast, List.take_left' (nb_len n v), le_nb]
theorem takeLeft_nb (n v : Nat) (r : List UInt8) (h1 : 1 ≤ n) (h8 : n ≤ 8) : takeLeft (nb n v ++ r) 0 n = r := by
  rw [takeLeft, if_pos (by simp [nb_len]; omega), Int.toNat_natCast, List.drop_left' (nb_len n v)]
theorem takeErr_nb (n v : Nat) (r : List UInt8) (h1 : 1 ≤ n) (h8 : n ≤ 8) : takeErr (nb n v ++ r) 0 n = 0 := by
  rw [takeErr, if_neg (by simp), if_neg (by omega), if_neg (by simp [nb_len]; omega)]

section
variable (q : Q) (r : List UInt8)
theorem q_split : q.bytes ++ r = nb 1 q.t ++ (nb 4 q.v ++ (nb 8 q.p ++ r)) := by simp [Q.bytes]
theorem qL1_b : qL1 (q.bytes ++ r) 0 = nb 4 q.v ++ (nb 8 q.p ++ r) := by rw [q_split]; exact takeLeft_nb 1 q.t _ (by omega) (by omega)
theorem qe1_b : qe1 (q.bytes ++ r) 0 = 0 := by rw [q_split]; exact takeErr_nb 1 q.t _ (by omega) (by omega)
theorem qL2_b : qL2 (q.bytes ++ r) 0 = nb 8 q.p ++ r := by rw [qL2, qL1_b, qe1_b]; exact takeLeft_nb 4 q.v _ (by omega) (by omega)
theorem qe2_b : qe2 (q.bytes ++ r) 0 = 0 := by rw [qe2, qL1_b, qe1_b]; exact takeErr_nb 4 q.v _ (by omega) (by omega)
theorem qL3_b : qL3 (q.bytes ++ r) 0 = r := by rw [qL3, qL2_b, qe2_b]; exact takeLeft_nb 8 q.p _ (by omega) (by omega)
theorem qe3_b : qe3 (q.bytes ++ r) 0 = 0 := by rw [qe3, qL2_b, qe2_b]; exact takeErr_nb 8 q.p _ (by omega) (by omega)
theorem qTake_b (hq : q.ok) : qTake (q.bytes ++ r) 0 = q := by
  obtain ⟨h1, h2, h3⟩ := hq
  rw [qTake, if_pos (qe3_b q r), qL1_b, qe1_b, qL2_b, qe2_b]
  have e1 : takeVal (q.bytes ++ r) 0 1 = q.t := by
    rw [q_split]
    have := takeVal_nb 1 q.t (nb 4 q.v ++ (nb 8 q.p ++ r)) (by omega) (by omega)
    rw [Nat.pow_one, Nat.mod_eq_of_lt h1] at this
    exact this
  have e2 : takeVal (nb 4 q.v ++ (nb 8 q.p ++ r)) 0 4 = q.v := by
    have := takeVal_nb 4 q.v (nb 8 q.p ++ r) (by omega) (by omega)
    rw [Nat.mod_eq_of_lt (by omega)] at this
    exact this
  have e3 : takeVal (nb 8 q.p ++ r) 0 8 = q.p := by
    have := takeVal_nb 8 q.p r (by omega) (by omega)
    rw [Nat.mod_eq_of_lt (by omega)] at this
    exact this
  rw [e1, e2, e3]
end

theorem takeErr_stay (L : List UInt8) (e n : Int) (h : e ≠ 0) : takeErr L e n = e := by rw [takeErr, if_pos h]
theorem takeErr_low (L : List UInt8) (n : Int) (h1 : 1 ≤ n) (h8 : n ≤ 8) (h : L.length < n) : takeErr L 0 n = 4 := by
  rw [takeErr, if_neg (by simp), if_neg (by omega), if_pos h]
theorem takeErr_ok (L : List UInt8) (n : Int) (h1 : 1 ≤ n) (h8 : n ≤ 8) (h : ¬ L.length < n) : takeErr L 0 n = 0 := by
  rw [takeErr, if_neg (by simp), if_neg (by omega), if_neg h]
theorem takeLeft_ok (L : List UInt8) (n : Nat) (h1 : 1 ≤ n) (h8 : n ≤ 8) (h : n ≤ L.length) : takeLeft L 0 n = L.drop n := by
  rw [takeLeft, if_pos (by omega)]; simp

theorem qe3_short (L : List UInt8) (h : L.length < 13) : qe3 L 0 = 4 := by
  by_cases h1 : (L.length : Int) < 1
  · have e1 : qe1 L 0 = 4 := takeErr_low L 1 (by omega) (by omega) h1
    have e2 : qe2 L 0 = 4 := by rw [qe2, e1]; exact takeErr_stay _ _ _ (by omega)
    rw [qe3, e2]; exact takeErr_stay _ _ _ (by omega)
  · have e1 : qe1 L 0 = 0 := takeErr_ok L 1 (by omega) (by omega) h1
    have l1 : qL1 L 0 = L.drop 1 := takeLeft_ok L 1 (by omega) (by omega) (by omega)
    by_cases h2 : ((L.drop 1).length : Int) < 4
    · have e2 : qe2 L 0 = 4 := by rw [qe2, e1, l1]; exact takeErr_low _ 4 (by omega) (by omega) h2
      rw [qe3, e2]; exact takeErr_stay _ _ _ (by omega)
    · have e2 : qe2 L 0 = 0 := by rw [qe2, e1, l1]; exact takeErr_ok _ 4 (by omega) (by omega) h2
      have l2 : qL2 L 0 = (L.drop 1).drop 4 := by rw [qL2, e1, l1]; exact takeLeft_ok _ 4 (by omega) (by omega) (by omega)
      rw [qe3, e2, l2]
      exact takeErr_low _ 8 (by omega) (by omega) (by simp at h2 ⊢; omega)
theorem qTake_short (L : List UInt8) (h : L.length < 13) : qTake L 0 = ⟨0, 0, 0⟩ := by rw [qTake, if_neg (by rw [qe3_short L h]; omega)]
end Go.Proofs.Ytbckbnmpeedodaa
