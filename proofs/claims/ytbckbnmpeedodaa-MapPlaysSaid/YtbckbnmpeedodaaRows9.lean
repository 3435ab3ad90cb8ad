/-
  loggialaw9.free, loggialaw9.put: rows of marks as slices.
-/
import Derived.Test.YtbckbnmpeedodaaKnown9
namespace Go.Proofs.Ytbckbnmpeedodaa
open Go.RowKit

/-- a row of `n` marks as values -/
def rowV (n : Nat) (f : Nat → Bool) : List Value := (List.range n).map fun i => .bool (f i)
theorem rowV_len (n : Nat) (f : Nat → Bool) : (rowV n f).length = n := by simp [rowV]
theorem rowV_get (n : Nat) (f : Nat → Bool) {j : Nat} (h : j < n) : (rowV n f)[j]? = some (.bool (f j)) := by simp [rowV, h]
theorem rowV_upd (n : Nat) (f : Nat → Bool) (i : Nat) (b : Bool) : rowV n (upd f i b) = (rowV n f).set i (.bool b) := by
  apply List.ext_getElem?
  intro j
  by_cases hj : j < n
  · rw [rowV_get n _ hj, List.getElem?_set]
    split
    · rename_i h; subst h; rw [upd_same]; simp [rowV_len, hj]
    · rename_i h; rw [upd_ne f b (fun e => h e.symm), rowV_get n f hj]
  · rw [List.getElem?_eq_none (by simp [rowV_len]; omega), List.getElem?_eq_none (by simp [rowV_len]; omega)]
theorem rowV_congr {n : Nat} {f f' : Nat → Bool} (h : ∀ j, j < n → f j = f' j) : rowV n f = rowV n f' := by
  unfold rowV; apply List.map_congr_left; intro j hj; rw [h j (by simpa using hj)]

def FreePost (f : Nat → Bool) (n k : Nat) (e : Ending) : Prop :=
  (∃ i : Nat, Least f n k i ∧ e = .returned (.int .i64 i)) ∨ ((∀ i, ¬ IsRun f n k i) ∧ e = .returned (.int .i64 (-1)))

set_option maxHeartbeats 1000000 in
theorem lfree_any (b off n c k : Nat) (f : Nat → Bool) (w : World) (hn : n ≤ 65536) (hk : k ≤ 65536) (hc : ∀ j, j < n → w.cell? ⟨b, off + j, none⟩ = some (.bool (f j))) :
    Calls Try.prog 42 #[.slice (some ⟨b, off, none⟩) n c, .int .i64 k] w fun e w' => FreePost f n k e ∧ w = w' := by
  have Hc := Lib.hid hc
  clear hc
  go_enter Try.func42, Try.ntmps42
  go_wp2_with fail
  go_loopw [5] (fun iv wr => w = wr ∧ ∃ i : Nat, iv = .int .i64 i ∧ i ≤ n + 1 ∧ ∀ i', i' < i → ¬ IsRun f n k i') (fun iv _ => n + 1 - (intOf iv).toNat)
  case atStart => exact ⟨rfl, 0, rfl, Nat.zero_le _, fun i' h => absurd h (by omega)⟩
  case round =>
    obtain ⟨rfl, i, rfl, hi, hno⟩ := hrel
    have hw1 : IntKind.i64.wrap ((i : Int) + k) = i + k := IntWalk.i64_in _ (by omega)
    by_cases hlt : i + k ≤ n
    · have hltI : (i : Int) + k ≤ n := by omega
      have Hno := Lib.hid hno
      clear hno
      go_wp2_with fail
      go_loopw [6] (fun xv w2 => w = w2 ∧ ∃ x : Nat, xv = .int .i64 x ∧ x ≤ k ∧ ∀ j, j < x → f (i + j) = false) (fun xv _ => k - (intOf xv).toNat)
      case atStart => exact ⟨rfl, 0, rfl, Nat.zero_le _, fun j h => absurd h (by omega)⟩
      case round =>
        obtain ⟨rfl, x, rfl, hx, hfx⟩ := hrel
        have hw2 : IntKind.i64.wrap ((i : Int) + 1) = i + 1 := IntWalk.i64_in _ (by omega)
        by_cases hxk : x < k
        · have hxkI : (x : Int) < k := by omega
          have hcx := Hc.out (i + x) (by omega)
          have hw3 : IntKind.i64.wrap ((i : Int) + x) = i + x := IntWalk.i64_in _ (by omega)
          have hw4 : IntKind.i64.wrap ((x : Int) + 1) = x + 1 := IntWalk.i64_in _ (by omega)
          have hix0 : (0 : Int) ≤ i + x := by omega
          have hix1 : (i : Int) + x < n := by omega
          have hix2 : ((i : Int) + x).toNat = i + x := by omega
          have hne : ((x : Int) == k) = false := by simp; omega
          have Hfx := Lib.hid hfx
          clear hfx
          cases hf : f (i + x) with
          | false =>
            rw [hf] at hcx
            go_wp2_with fail
            go_roundw
            case rel => exact ⟨trivial, x + 1, by simp, by omega, fun j hj => by
              by_cases e : j = x
              · rw [e]; exact hf
              · exact Hfx.out j (by omega)⟩
            case measure => simp [intOf]; omega
          | true =>
            rw [hf] at hcx
            go_wp2_with fail
            go_roundw
            case rel => exact ⟨trivial, i + 1, by simp, by omega, fun i' h => by
              by_cases e : i' = i
              · subst e; intro hr; have := hr.2 x hxk; rw [hf] at this; cases this
              · exact Hno.out i' (by omega)⟩
            case measure => simp [intOf]; omega
        · obtain rfl : x = k := by omega
          have Hfx := Lib.hid hfx
          clear hfx
          go_wp2_with fail
          go_ret
          exact ⟨.inl ⟨i, ⟨⟨hlt, Hfx.out⟩, Hno.out⟩, rfl⟩, rfl⟩
    · have hltI : ¬ (i : Int) + k ≤ n := by omega
      have Hno := Lib.hid hno
      clear hno
      go_wp2_with fail
      go_ret
      exact ⟨.inr ⟨fun i' hr => by
        by_cases e : i' < i
        · exact Hno.out i' e hr
        · have := hr.1; omega, rfl⟩, rfl⟩
end Go.Proofs.Ytbckbnmpeedodaa
