/-
  disk: what was synced outlasts a cut: plain words.
-/
import Derived.Test.YtnddaildicmneaaDk18
namespace Go.Proofs.Ytnddaildicmneaa
open Go.Proofs Go.RowKit Go.Sort Go.Maps

def secU (x : UInt8) : Nat := x.toNat % 8
def bX (n : Nat) : List UInt8 := (zerosB 64).set 0 (UInt8.ofNat n)
theorem bX_len (n : Nat) : (bX n).length = 64 := by simp [bX, zerosB]
def pdOf (n0 : Nat) (A : List UInt8) : List (Nat × List UInt8) := A.mapIdx fun i x => (secU x, bX (n0 + i + 1))
theorem pdOf_len (n0 : Nat) (A : List UInt8) : (pdOf n0 A).length = A.length := by simp [pdOf]
theorem pdOf_get {n0 : Nat} {A : List UInt8} {i : Nat} {x : UInt8} (h : A[i]? = some x) : (pdOf n0 A)[i]? = some (secU x, bX (n0 + i + 1)) := by
  simp [pdOf, h]
def hdL (L : List UInt8) : Int := (((L[0]?).getD 0).toNat : Nat)
def heads (k : List (List UInt8)) : List Int := k.map hdL
theorem hd_bX (n : Nat) (h : n < 256) : hdL (bX n) = n := by
  have : (bX n)[0]? = some (UInt8.ofNat n) := by simp [bX, zerosB]
  rw [hdL, this]
  simp
  omega
theorem settle_take (kf : Nat → Bool) (pd : List (Nat × List UInt8)) (k : List (List UInt8)) (n : Nat) : ∀ i, i ≤ n → settleN kf (pd.take n) k i = settleN kf pd k i
  | 0, _ => rfl
  | i + 1, h => by
    have e : (pd.take n)[i]? = pd[i]? := by rw [List.getElem?_take, if_pos (by omega)]
    unfold settleN
    rw [e, settle_take kf pd k n i (by omega)]
theorem settle_step {kf : Nat → Bool} {pd : List (Nat × List UInt8)} {k : List (List UInt8)} {i x : Nat} {L : List UInt8} (h : pd[i]? = some (x, L)) : settleN kf pd k (i + 1) = if kf i = true then (settleN kf pd k i).set x L else settleN kf pd k i := by
  rw [settleN, h]
theorem take_step {α : Type} {l : List α} {i : Nat} {x : α} (h : l[i]? = some x) : l.take (i + 1) = l.take i ++ [x] := by
  rw [List.take_add_one, h]; rfl
def Z8 : List (List UInt8) := List.replicate 8 (zerosB 64)
def keptA (A : List UInt8) : List (List UInt8) := settleN (fun _ => true) (pdOf 0 A) Z8 A.length
theorem keptA_len (A : List UInt8) : (keptA A).length = 8 := by
  rw [keptA, settleN_len]; simp [Z8]
def mkD (k : List (List UInt8)) (pd : List (Nat × List UInt8)) (n : Nat) : DiskV := ⟨64, k, pd, false, false, 0, [], n⟩
def synD (A B : List UInt8) (i : Nat) : DiskV := if i < A.length then mkD Z8 ((pdOf 0 A).take i) i else mkD (keptA A) ((pdOf A.length B).take (i - A.length)) i
def synW (A B : List UInt8) (keep : List Bool) (i : Nat) : List Int := if i < A.length then heads (settleN (fun _ => true) (pdOf 0 A) Z8 i) else heads (settleN (kfOf keep) (pdOf A.length B) (keptA A) (i - A.length))
theorem synW_len (A B : List UInt8) (keep : List Bool) (i : Nat) : (synW A B keep i).length = 8 := by
  unfold synW heads
  split
  · rw [List.length_map, settleN_len]; simp [Z8]
  · rw [List.length_map, settleN_len, keptA_len]
theorem mkD_write (k : List (List UInt8)) (pd : List (Nat × List UInt8)) (n x : Nat) (L : List UInt8) (hk : k.length = 8) (hx : x < 8) (hL : L.length = 64) : (mkD k pd n).write (x : Nat) L = (0, mkD k (pd ++ [(x, L)]) (n + 1)) := by
  have hc : (0 : Int) ≤ (x : Int) ∧ (x : Int) < ((mkD k pd n).kept.length : Nat) ∧ L.length = (mkD k pd n).size := ⟨by omega, by show (x : Int) < (k.length : Nat); omega, hL⟩
  unfold DiskV.write
  rw [if_neg (by simp [mkD]), if_pos hc, if_neg (by simp [mkD])]
  simp [DiskV.wrote, mkD]
theorem mkD_ok (k : List (List UInt8)) (pd : List (Nat × List UInt8)) (n : Nat) (hk : k.length = 8) (hp : pd.length ≤ 80000) (hn : n ≤ 100) : DOk (mkD k pd n) :=
  ⟨hp, by simp [mkD], by simp [mkD, hk], by simp [mkD, hk], by simp [mkD]; omega, fun h => by simp [mkD] at h, by simp [mkD]⟩
theorem synD_ok (A B : List UInt8) (i : Nat) (hA : A.length ≤ 40) (hB : B.length ≤ 40) (hi : i ≤ 80) : DOk (synD A B i) := by
  unfold synD
  split
  · exact mkD_ok _ _ _ (by simp [Z8]) (by rw [List.length_take, pdOf_len]; omega) (by omega)
  · exact mkD_ok _ _ _ (keptA_len A) (by rw [List.length_take, pdOf_len]; omega) (by omega)
theorem secU_lt (x : UInt8) : secU x < 8 := Nat.mod_lt _ (by decide)
/-- a write of the first part that is not its last -/
theorem synA {A : List UInt8} (B : List UInt8) {i : Nat} {x : UInt8} (h : A[i]? = some x) (hl : i + 1 < A.length) : (synD A B i).write (secU x : Nat) (bX (i + 1)) = (0, synD A B (i + 1)) := by
  unfold synD
  rw [if_pos (by omega), if_pos hl, mkD_write _ _ _ _ _ (by simp [Z8]) (secU_lt x) (bX_len _), take_step (pdOf_get (n0 := 0) h), Nat.zero_add]
/-- its last, and the sync -/
theorem synAl {A : List UInt8} (B : List UInt8) {i : Nat} {x : UInt8} (h : A[i]? = some x) (hl : i + 1 = A.length) (hA : A.length ≤ 40) : ∃ D, (synD A B i).write (secU x : Nat) (bX (i + 1)) = (0, D) ∧ DOk D ∧ D.syncs = (0, synD A B (i + 1)) := by
  refine ⟨mkD Z8 (pdOf 0 A) (i + 1), ?_, mkD_ok _ _ _ (by simp [Z8]) (by rw [pdOf_len]; omega) (by omega), ?_⟩
  · have h2 : (pdOf 0 A).take (i + 1) = pdOf 0 A := List.take_of_length_le (by rw [pdOf_len]; omega)
    unfold synD
    rw [if_pos (by omega), mkD_write _ _ _ _ _ (by simp [Z8]) (secU_lt x) (bX_len _)]
    have := take_step (pdOf_get (n0 := 0) h)
    rw [Nat.zero_add, h2] at this
    rw [← this]
  · unfold synD DiskV.syncs
    rw [if_neg (by simp [mkD]), if_neg (by omega), hl, Nat.sub_self, List.take_zero]
    simp [DiskV.sync, DiskV.settle, mkD, keptA, pdOf_len]
/-- a write of the second part -/
theorem synB (A : List UInt8) {B : List UInt8} {j : Nat} {x : UInt8} (h : B[j]? = some x) : (synD A B (A.length + j)).write (secU x : Nat) (bX (A.length + j + 1)) = (0, synD A B (A.length + j + 1)) := by
  unfold synD
  rw [if_neg (by omega), if_neg (by omega), mkD_write _ _ _ _ _ (keptA_len A) (secU_lt x) (bX_len _), Nat.add_sub_cancel_left, Nat.add_assoc, Nat.add_sub_cancel_left, take_step (pdOf_get (n0 := A.length) h), Nat.add_assoc]
theorem heads_set (k : List (List UInt8)) (x : Nat) (L : List UInt8) : heads (k.set x L) = (heads k).set x (hdL L) := by
  unfold heads; rw [List.map_set]
theorem synWA {A : List UInt8} (B : List UInt8) (keep : List Bool) {i : Nat} {x : UInt8} (h : A[i]? = some x) (hi : i < 80) : synW A B keep (i + 1) = (synW A B keep i).set (secU x) ((i : Int) + 1) := by
  have hlt := (List.getElem?_eq_some_iff.1 h).1
  have key : heads (settleN (fun _ => true) (pdOf 0 A) Z8 (i + 1)) = (heads (settleN (fun _ => true) (pdOf 0 A) Z8 i)).set (secU x) ((i : Int) + 1) := by
    rw [settle_step (pdOf_get (n0 := 0) h), if_pos rfl, heads_set, hd_bX _ (by omega)]
    simp
  unfold synW
  rw [if_pos hlt]
  by_cases hl : i + 1 < A.length
  · rw [if_pos hl, key]
  · rw [if_neg hl, show i + 1 - A.length = 0 by omega, show settleN (kfOf keep) (pdOf A.length B) (keptA A) 0 = keptA A from rfl, keptA, show A.length = i + 1 by omega, key]
theorem synWB (A : List UInt8) {B : List UInt8} (keep : List Bool) {j : Nat} {x : UInt8} (h : B[j]? = some x) (hi : A.length + j < 80) : synW A B keep (A.length + j + 1) = if kfOf keep j = true then (synW A B keep (A.length + j)).set (secU x) ((A.length + j : Nat) + 1) else synW A B keep (A.length + j) := by
  have e1 : synW A B keep (A.length + j + 1) = heads (settleN (kfOf keep) (pdOf A.length B) (keptA A) (j + 1)) := by
    unfold synW
    rw [if_neg (by omega), Nat.add_assoc, Nat.add_sub_cancel_left]
  have e2 : synW A B keep (A.length + j) = heads (settleN (kfOf keep) (pdOf A.length B) (keptA A) j) := by
    unfold synW
    rw [if_neg (by omega), Nat.add_sub_cancel_left]
  rw [e1, e2, settle_step (pdOf_get (n0 := A.length) h)]
  by_cases hk : kfOf keep j = true
  · rw [if_pos hk, if_pos hk, heads_set, hd_bX _ (by omega)]
    rfl
  · rw [if_neg hk, if_neg hk]
/-- the end -/
theorem synEnd (A B : List UInt8) (keep : List Bool) : ((synD A B (A.length + B.length)).cut keep).on.off = false ∧ ((synD A B (A.length + B.length)).cut keep).on.pend = [] ∧ ((synD A B (A.length + B.length)).cut keep).on.kept.length = 8 ∧ ((synD A B (A.length + B.length)).cut keep).on.size = 64 ∧
    ∀ k : Nat, k < 8 → (synW A B keep (A.length + B.length))[k]? = some (hdL (((synD A B (A.length + B.length)).cut keep).on.readL (k : Int))) := by
  have hD : synD A B (A.length + B.length) = mkD (keptA A) (pdOf A.length B) (A.length + B.length) := by
    unfold synD
    rw [if_neg (by omega), Nat.add_sub_cancel_left, List.take_of_length_le (by rw [pdOf_len]; omega)]
  have hW : synW A B keep (A.length + B.length) = heads (settleN (kfOf keep) (pdOf A.length B) (keptA A) B.length) := by
    unfold synW
    rw [if_neg (by omega), Nat.add_sub_cancel_left]
  rw [hD, hW]
  have hlen : (settleN (kfOf keep) (pdOf A.length B) (keptA A) B.length).length = 8 := by rw [settleN_len, keptA_len]
  have hkept : ((mkD (keptA A) (pdOf A.length B) (A.length + B.length)).cut keep).on.kept = settleN (kfOf keep) (pdOf A.length B) (keptA A) B.length := by
    show settleN (kfOf keep) (pdOf A.length B) (keptA A) (pdOf A.length B).length = _
    rw [pdOf_len]
  refine ⟨rfl, rfl, by rw [hkept, hlen], rfl, fun k hk => ?_⟩
  unfold DiskV.readL DiskV.read
  rw [hkept, if_neg (by simp [DiskV.on]), if_pos ⟨by omega, by rw [hlen]; omega⟩]
  show _ = some (hdL (readN [] _ _ 0))
  unfold heads
  rw [List.getElem?_map, readN, Int.toNat_natCast]
  rw [List.getElem?_eq_getElem (by rw [hlen]; exact hk)]
  rfl
end Go.Proofs.Ytnddaildicmneaa
