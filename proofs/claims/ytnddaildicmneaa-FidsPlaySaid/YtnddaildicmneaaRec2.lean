/-
  Lists that are searched and sifted. Plain words.
-/
import Derived.Test.YtnddaildicmneaaRec
namespace Go.Proofs.Ytnddaildicmneaa
open Go.RowKit

section
variable {α : Type}
/-- the first place with `p`, or -1 -/
def idxR (p : α → Bool) (l : List α) : Int := match l.findIdx? p with | some i => (i : Nat) | none => -1
theorem idxR_some {p : α → Bool} {l : List α} {i : Nat} (hi : i < l.length) (hp : p l[i] = true) (hn : ∀ j (hj : j < i), p (l[j]'(by omega)) = false) : idxR p l = i := by
  have : l.findIdx? p = some i := List.findIdx?_eq_some_iff_getElem.2 ⟨hi, hp, fun j hj => by rw [hn j hj]; simp⟩
  unfold idxR; rw [this]
theorem idxR_none {p : α → Bool} {l : List α} (h : ∀ t ∈ l, p t = false) : idxR p l = -1 := by
  have : l.findIdx? p = none := List.findIdx?_eq_none_iff.2 h
  unfold idxR; rw [this]
theorem idxR_cases (p : α → Bool) (l : List α) : (idxR p l = -1 ∧ ∀ t ∈ l, p t = false) ∨ ∃ i : Nat, ∃ hi : i < l.length, idxR p l = i ∧ p l[i] = true ∧ ∀ j (hj : j < i), p (l[j]'(by omega)) = false := by
  cases h : l.findIdx? p with
  | none => exact .inl ⟨by unfold idxR; rw [h], List.findIdx?_eq_none_iff.1 h⟩
  | some i =>
    obtain ⟨h1, h2, h3⟩ := List.findIdx?_eq_some_iff_getElem.1 h
    exact .inr ⟨i, h1, by unfold idxR; rw [h], h2, fun j hj => by have := h3 j hj; simpa using this⟩
theorem idxR_any (p : α → Bool) (l : List α) : decide (0 ≤ idxR p l) = l.any p := by
  rcases idxR_cases p l with ⟨h, hn⟩ | ⟨i, hi, h, hp, -⟩
  · rw [h, List.any_eq_false.2 (fun x hx => by rw [hn x hx]; simp)]; rfl
  · rw [h, List.any_eq_true.2 ⟨l[i], List.getElem_mem _, hp⟩]; simp

/-- the row while it is sifted: the first `i` are those that stay of the first `j`, from `j` on all is as it was -/
structure SiftR (p : α → Bool) (l l' : List α) (i j : Nat) : Prop where
  len : l'.length = l.length
  jl : j ≤ l.length
  ij : i < j
  head : l'.take i = (l.take j).filter fun x => !p x
  tail : l'.drop j = l.drop j
theorem SiftR.start {p : α → Bool} {l : List α} {i : Nat} (hi : i < l.length) (hp : p l[i] = true) (hn : ∀ j (hj : j < i), p (l[j]'(by omega)) = false) : SiftR p l l i (i + 1) := by
  refine ⟨rfl, hi, by omega, ?_, rfl⟩
  rw [List.take_succ_eq_append_getElem hi, List.filter_append]
  have h1 : (l.take i).filter (fun x => !p x) = l.take i := by
    rw [List.filter_eq_self]
    intro x hx
    obtain ⟨j, hj, rfl⟩ := List.getElem_of_mem hx
    have : j < i := by simp at hj; omega
    rw [List.getElem_take, hn j this]; rfl
  rw [h1]
  simp [hp]
theorem SiftR.get {p : α → Bool} {l l' : List α} {i j : Nat} (h : SiftR p l l' i j) (hj : j < l.length) : l'[j]? = some l[j] := by
  have := congrArg (fun x => x[0]?) h.tail
  simp only [List.getElem?_drop, Nat.add_zero] at this
  rw [this]; exact List.getElem?_eq_getElem hj
theorem SiftR.skip {p : α → Bool} {l l' : List α} {i j : Nat} (h : SiftR p l l' i j) (hj : j < l.length) (hp : p l[j] = true) : SiftR p l l' i (j + 1) := by
  refine ⟨h.len, hj, by have := h.ij; omega, ?_, ?_⟩
  · rw [h.head, List.take_succ_eq_append_getElem hj, List.filter_append]; simp [hp]
  · rw [← List.drop_drop, h.tail, List.drop_drop]
theorem SiftR.keep {p : α → Bool} {l l' : List α} {i j : Nat} (h : SiftR p l l' i j) (hj : j < l.length) (hp : p l[j] = false) : SiftR p l (l'.set i l[j]) (i + 1) (j + 1) := by
  have hij := h.ij
  have hl := h.len
  have hil : i < (l'.set i l[j]).length := by rw [List.length_set]; omega
  refine ⟨by rw [List.length_set]; exact hl, hj, by omega, ?_, ?_⟩
  · rw [List.take_succ_eq_append_getElem hil, List.take_set_of_le (Nat.le_refl i), h.head, List.take_succ_eq_append_getElem hj, List.filter_append, List.getElem_set_self]
    simp [hp]
  · rw [List.drop_set_of_lt (by omega), ← List.drop_drop, h.tail, List.drop_drop]
theorem SiftR.last {p : α → Bool} {l l' : List α} {i j : Nat} (h : SiftR p l l' i j) (hj : j = l.length) : l'.take i = l.filter (fun x => !p x) ∧ i < l.length := by
  subst hj
  exact ⟨by rw [h.head, List.take_length], h.ij⟩
theorem filterR_all {p : α → Bool} {l : List α} (h : ∀ t ∈ l, p t = false) : l.filter (fun x => !p x) = l := by
  rw [List.filter_eq_self]; intro x hx; rw [h x hx]; rfl
theorem filter_take_succ {l : List α} {k : Nat} {x : α} (hx : l[k]? = some x) (p : α → Bool) : (l.take (k + 1)).filter p = (l.take k).filter p ++ (if p x = true then [x] else []) := by
  obtain ⟨hk, rfl⟩ := List.getElem?_eq_some_iff.1 hx
  rw [List.take_succ_eq_append_getElem hk, List.filter_append]
  congr 1
  cases h : p l[k] <;> simp [h]
/-- a predicate, a function with what it holds, that may lay blocks of its own and reads nothing of the block `b` -/
def PredR (val : α → Value) (g : Nat) (lb : Array Value) (p : α → Bool) (b : Nat) (w : World) : Prop :=
  ∀ (W : World) (j : α), Keeps (only b) w W → Calls Try.prog g (#[val j] ++ lb) W fun e w' => e = .returned (.bool (p j)) ∧ Keeps nowhere W w'
end
def RetInt (i : Int) (w : World) : Ending → World → Prop := fun e w' => e = .returned (.int .i64 i) ∧ Keeps nowhere w w'
def RetBool (b : Bool) (w : World) : Ending → World → Prop := fun e w' => e = .returned (.bool b) ∧ Keeps nowhere w w'
end Go.Proofs.Ytnddaildicmneaa
