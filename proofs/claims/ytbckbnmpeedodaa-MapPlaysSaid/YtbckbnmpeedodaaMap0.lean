/-
  Rows of marks as bytes: plain words. No program in sight.
-/
import Derived.Test.YtbckbnmpeedodaaBits
namespace Go.Proofs.Ytbckbnmpeedodaa
open Go.RowKit

/-- the byte of eight marks -/
def byteN (f : Nat → Bool) (j : Nat) : Nat :=
  (f (8 * j)).toNat + 2 * (f (8 * j + 1)).toNat + 4 * (f (8 * j + 2)).toNat + 8 * (f (8 * j + 3)).toNat + 16 * (f (8 * j + 4)).toNat + 32 * (f (8 * j + 5)).toNat + 64 * (f (8 * j + 6)).toNat + 128 * (f (8 * j + 7)).toNat
theorem toNat_le (b : Bool) : b.toNat ≤ 1 := by cases b <;> decide
theorem byteN_lt (f : Nat → Bool) (j : Nat) : byteN f j < 256 := by
  have h := fun k => toNat_le (f k)
  have h0 := h (8 * j); have h1 := h (8 * j + 1); have h2 := h (8 * j + 2); have h3 := h (8 * j + 3); have h4 := h (8 * j + 4); have h5 := h (8 * j + 5); have h6 := h (8 * j + 6); have h7 := h (8 * j + 7)
  unfold byteN; omega
theorem byteN_bit (f : Nat → Bool) (j k : Nat) (hk : k < 8) : byteN f j / 2 ^ k % 2 = (f (8 * j + k)).toNat := by
  have h := fun k => toNat_le (f k)
  have h0 := h (8 * j); have h1 := h (8 * j + 1); have h2 := h (8 * j + 2); have h3 := h (8 * j + 3); have h4 := h (8 * j + 4); have h5 := h (8 * j + 5); have h6 := h (8 * j + 6); have h7 := h (8 * j + 7)
  unfold byteN
  rcases (by omega : k = 0 ∨ k = 1 ∨ k = 2 ∨ k = 3 ∨ k = 4 ∨ k = 5 ∨ k = 6 ∨ k = 7) with rfl | rfl | rfl | rfl | rfl | rfl | rfl | rfl <;> (try simp only [Nat.add_zero]) <;> omega
theorem byteN_congr {f f' : Nat → Bool} {j : Nat} (h : ∀ k, k < 8 → f (8 * j + k) = f' (8 * j + k)) : byteN f j = byteN f' j := by
  unfold byteN
  rw [show f (8 * j) = f' (8 * j) from h 0 (by omega), h 1 (by omega), h 2 (by omega), h 3 (by omega), h 4 (by omega), h 5 (by omega), h 6 (by omega), h 7 (by omega)]

/-- the row but for one mark -/
def upd (f : Nat → Bool) (i : Nat) (b : Bool) : Nat → Bool := fun k => if k = i then b else f k
theorem upd_same (f : Nat → Bool) (i : Nat) (b : Bool) : upd f i b i = b := if_pos rfl
theorem upd_ne (f : Nat → Bool) {i k : Nat} (b : Bool) (h : k ≠ i) : upd f i b k = f k := if_neg h
theorem upd_eq (f : Nat → Bool) {i : Nat} {b : Bool} (h : f i = b) : upd f i b = f := by
  funext k; unfold upd; split
  · rename_i e; rw [e, h]
  · rfl

theorem byteN_upd_ne (f : Nat → Bool) (i j : Nat) (b : Bool) (h : j ≠ i / 8) : byteN (upd f i b) j = byteN f j :=
  byteN_congr fun k hk => upd_ne f b (by omega)
theorem byteN_upd (f : Nat → Bool) (i : Nat) : byteN (upd f i true) (i / 8) = byteN f (i / 8) + (if f i then 0 else 2 ^ (i % 8)) ∧ byteN (upd f i false) (i / 8) + (if f i then 2 ^ (i % 8) else 0) = byteN f (i / 8) := by
  obtain ⟨j, hj⟩ : ∃ j, j = i / 8 := ⟨_, rfl⟩
  obtain ⟨k, hk⟩ : ∃ k, k = i % 8 := ⟨_, rfl⟩
  have hi : i = 8 * j + k := by omega
  have hk8 : k < 8 := by omega
  rw [← hj, ← hk]
  clear hj hk
  subst hi
  have e : ∀ b m, m < 8 → upd f (8 * j + k) b (8 * j + m) = if m = k then b else f (8 * j + m) := fun b m hm => by
    unfold upd; by_cases h : m = k
    · rw [if_pos h, if_pos (by omega)]
    · rw [if_neg h, if_neg (by omega)]
  have e0 : ∀ b, upd f (8 * j + k) b (8 * j) = if 0 = k then b else f (8 * j) := fun b => e b 0 (by omega)
  unfold byteN
  rw [e0, e0, e _ 1 (by omega), e _ 1 (by omega), e _ 2 (by omega), e _ 2 (by omega), e _ 3 (by omega), e _ 3 (by omega), e _ 4 (by omega), e _ 4 (by omega), e _ 5 (by omega), e _ 5 (by omega), e _ 6 (by omega), e _ 6 (by omega), e _ 7 (by omega), e _ 7 (by omega)]
  rcases (by omega : k = 0 ∨ k = 1 ∨ k = 2 ∨ k = 3 ∨ k = 4 ∨ k = 5 ∨ k = 6 ∨ k = 7) with rfl | rfl | rfl | rfl | rfl | rfl | rfl | rfl <;> simp <;> split <;> rename_i h <;> simp [h] <;> omega

theorem or_bit : ∀ x, x < 256 → ∀ k, k < 8 → x / 2 ^ k % 2 = 0 → x ||| 2 ^ k = x + 2 ^ k := by decide +kernel
theorem andNot_bit : ∀ x, x < 256 → ∀ k, k < 8 → x / 2 ^ k % 2 = 1 → (x &&& (255 - 2 ^ k)) + 2 ^ k = x := by decide +kernel

/-- how many places of `n` are free -/
def cntF (f : Nat → Bool) : Nat → Nat
  | 0 => 0
  | n + 1 => cntF f n + (if f n then 0 else 1)
theorem cntF_le (f : Nat → Bool) : ∀ n, cntF f n ≤ n
  | 0 => Nat.le_refl _
  | n + 1 => by have := cntF_le f n; unfold cntF; split <;> omega
theorem cntF_congr {f f' : Nat → Bool} : ∀ {n : Nat}, (∀ k, k < n → f k = f' k) → cntF f n = cntF f' n
  | 0, _ => rfl
  | n + 1, h => by unfold cntF; rw [cntF_congr (n := n) (fun k hk => h k (by omega)), h n (by omega)]
theorem cntF_set {f : Nat → Bool} {i : Nat} (hf : f i = false) : ∀ {n : Nat}, i < n → cntF (upd f i true) n + 1 = cntF f n
  | n + 1, h => by
    unfold cntF
    by_cases he : i = n
    · subst he
      rw [cntF_congr (f := upd f i true) (f' := f) (fun k hk => upd_ne f _ (by omega)), upd_same, hf]; simp
    · have := cntF_set hf (n := n) (by omega)
      rw [upd_ne f _ (by omega)]; omega
theorem cntF_clear {f : Nat → Bool} {i : Nat} (hf : f i = true) {n : Nat} (h : i < n) : cntF (upd f i false) n = cntF f n + 1 := by
  have h1 := cntF_set (f := upd f i false) (upd_same f i false) h
  rw [show upd (upd f i false) i true = f by funext k; unfold upd; split <;> simp_all] at h1
  omega
theorem cntF_all (f : Nat → Bool) : ∀ {n : Nat}, (∀ k, k < n → f k = false) → cntF f n = n
  | 0, _ => rfl
  | n + 1, h => by unfold cntF; rw [cntF_all f (n := n) (fun k hk => h k (by omega)), h n (by omega)]; simp

theorem and7 (k : Nat) (hk : k < 9223372036854775808) : bits .and .i64 (k : Int) 7 = ((k % 8 : Nat) : Int) := by
  have h1 : (BitVec.ofInt 64 (k : Int)).toNat = k := by rw [BitVec.ofInt_natCast, BitVec.toNat_ofNat]; exact Nat.mod_eq_of_lt (by omega)
  have h2 : (BitVec.ofInt 64 (7 : Int)).toNat = 7 := rfl
  show IntKind.i64.wrap ((BitVec.ofInt 64 (k : Int) &&& BitVec.ofInt 64 7).toNat : Int) = _
  rw [BitVec.toNat_and, h1, h2, nat_mask3]
  exact IntWalk.i64_in _ (by omega)

def bytesOf (n : Nat) (f : Nat → Bool) : List UInt8 := (List.range ((n + 7) / 8)).map fun j => UInt8.ofNat (byteN f j)
theorem bytesOf_len (n : Nat) (f : Nat → Bool) : (bytesOf n f).length = (n + 7) / 8 := by simp [bytesOf]
theorem bytesOf_get (n : Nat) (f : Nat → Bool) (j : Nat) (hj : j < (n + 7) / 8) : ((bytesOf n f).map bv)[j]? = some (.int .u8 (byteN f j)) := by
  have : (UInt8.ofNat (byteN f j)).toNat = byteN f j := by rw [UInt8.toNat_ofNat']; exact Nat.mod_eq_of_lt (byteN_lt f j)
  simp [bytesOf, hj, bv, this]
theorem bytesOf_upd (n : Nat) (f : Nat → Bool) (i : Nat) (b : Bool) : (bytesOf n (upd f i b)).map bv = ((bytesOf n f).map bv).set (i / 8) (.int .u8 (byteN (upd f i b) (i / 8))) := by
  apply List.ext_getElem?
  intro j
  by_cases hj : j < (n + 7) / 8
  · rw [bytesOf_get _ _ _ hj, List.getElem?_set]
    split
    · rename_i h; subst h; simp [bytesOf_len, hj]
    · rename_i h; rw [bytesOf_get _ _ _ hj, byteN_upd_ne _ _ _ _ (fun e => h e.symm)]
  · rw [List.getElem?_eq_none (by simp [bytesOf_len]; omega), List.getElem?_eq_none (by simp [bytesOf_len]; omega)]
end Go.Proofs.Ytbckbnmpeedodaa
