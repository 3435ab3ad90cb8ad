/-
  A row of records before and after a sort of the library's: the kit's words for it, turned into rows. Plain words.
-/
import Derived.Test.YtnddaildicmneaaRec
import Derived.Shelf.SlSortCmp.NoneTotal
namespace Go.Proofs.Ytnddaildicmneaa
open Go.Proofs Go.RowKit Go.Sort
namespace RecT
variable {α : Type} [Inhabited α] {R : RecT α}
theorem flat_cells (R : RecT α) (d : Array α) : flatK R.cs R.n d = (R.cells d.toList).toArray := by
  apply Array.ext_getElem?
  intro i
  have hp := R.pos
  by_cases hi : i < d.size * R.n
  · have hq : i / R.n < d.size := (Nat.div_lt_iff_lt_mul hp).2 hi
    have hm := Nat.mod_lt i hp
    have hii : i / R.n * R.n + i % R.n = i := by rw [Nat.mul_comm]; exact Nat.div_add_mod i R.n
    have hg := R.cells_get d.toList (i / R.n) (d[i / R.n]) (by simp) (i % R.n) hm
    rw [hii] at hg
    have hl : i % R.n < (R.cs d[i / R.n]).length := by rw [R.len]; exact hm
    have e : (R.cells d.toList).toArray[i]? = some (R.cs d[i / R.n])[i % R.n] := (List.getElem?_toArray ..).trans (hg.trans (List.getElem?_eq_getElem hl))
    rw [e]
    simp [flatK, hi, hq, hl]
  · rw [Array.getElem?_eq_none (by simp; omega), Array.getElem?_eq_none (by simp [cells_len]; omega)]
theorem holdsK_of {w : World} {b cap : Nat} {d : Array α} (h : R.Row w (.slice (some ⟨b, 0, none⟩) d.size cap) d.toList) : HoldsK R.cs R.n w b 0 d := by
  rcases h.blk with ⟨h0, -⟩ | ⟨b', cap', rest, hv, hb, -, -, -⟩
  · cases h0
  · injection hv with ha _ _
    injection ha with ha
    injection ha with ha _
    subst ha
    unfold HoldsK
    rw [flat_cells]
    intro j hj
    simp only [List.size_toArray] at hj
    refine ⟨?_, hb.frozen _⟩
    rw [Nat.zero_add, hb.cell, List.getElem?_toArray, List.getElem?_append_left hj, List.getElem?_eq_getElem hj]
    simp [hj]
theorem sortWorld_row {w : World} {b cap : Nat} {d d' : Array α} (h : R.Row w (.slice (some ⟨b, 0, none⟩) d.size cap) d.toList) (hs : d'.size = d.size) (m : Nat) (os : Array Obj) :
    R.Row (sortWorldK R.cs R.n w b 0 m d' os) (.slice (some ⟨b, 0, none⟩) d.size cap) d'.toList ∧ Keeps (only b) w (sortWorldK R.cs R.n w b 0 m d' os) := by
  rcases h.blk with ⟨h0, -⟩ | ⟨b', cap', rest, hv, hb, h1, h2, h3⟩
  · cases h0
  · injection hv with ha _ hc
    injection ha with ha
    injection ha with ha _
    subst ha hc
    have hlt := hb.lt
    have hlen : (R.cells d.toList).length = (R.cells d'.toList).length := by rw [cells_len, cells_len]; simp [hs]
    have hblk : Blk (sortWorldK R.cs R.n w b 0 m d' os) b R.t (R.cells d'.toList ++ rest).toArray := by
      unfold Blk sortWorldK
      rw [heap_grow_old _ _ (by simpa [putRowK, putRow, mapBlock, Sort.ahead] using hlt)]
      unfold Blk at hb
      simp only [putRowK, putRow, mapBlock, Sort.ahead, Array.getElem?_modify, if_true, hb, Option.map_some, onCells, Option.some.injEq, Obj.cells.injEq, and_true]
      rw [flat_cells]
      apply Array.ext_getElem?
      intro j
      simp only [putCells, Array.getElem?_mapIdx, List.getElem?_toArray, Nat.zero_le, Nat.zero_add, List.size_toArray, true_and, Nat.sub_zero, id]
      by_cases hj : j < (R.cells d'.toList).length
      · rw [List.getElem?_append_left (by omega), List.getElem?_append_left hj, List.getElem?_eq_getElem (by omega), List.getElem?_eq_getElem hj]
        simp [hj]
      · rw [List.getElem?_append_right (by omega), List.getElem?_append_right (by omega), hlen]
        cases rest[j - (R.cells d'.toList).length]? <;> simp [hj]
    refine ⟨?_, ?_⟩
    · have := Row.of_blk (l := d'.toList) hblk (by simpa [hs] using h1) h3
      simpa [hs] using this
    · refine ⟨rfl, rfl, rfl, by simp [sortWorldK, grow, putRowK, putRow, mapBlock, Sort.ahead], fun k hk hne => ?_⟩
      unfold sortWorldK
      rw [heap_grow_old _ _ (by simpa [putRowK, putRow, mapBlock, Sort.ahead] using hk)]
      have : b ≠ k := fun e => hne e.symm
      simp [putRowK, putRow, mapBlock, Sort.ahead, Array.getElem?_modify, this]
end RecT
theorem perm_map_inv {α β : Type} {f : α → β} {m k : List β} (h : m.Perm k) : ∀ l : List α, k = l.map f → ∃ l' : List α, l'.Perm l ∧ m = l'.map f := by
  induction h with
  | nil => intro l hl; exact ⟨[], by rw [List.map_eq_nil_iff.1 hl.symm], rfl⟩
  | cons x _ ih =>
    intro l hl
    cases l with
    | nil => cases hl
    | cons a l =>
      simp at hl
      obtain ⟨rfl, hl⟩ := hl
      obtain ⟨l', hp, rfl⟩ := ih l hl
      exact ⟨a :: l', hp.cons a, rfl⟩
  | swap x y t =>
    intro l hl
    match l, hl with
    | a :: c :: l, hl =>
      simp at hl
      obtain ⟨rfl, rfl, rfl⟩ := hl
      exact ⟨c :: a :: l, List.Perm.swap _ _ _, rfl⟩
  | trans _ _ ih1 ih2 =>
    intro l hl
    obtain ⟨l2, hp2, h2⟩ := ih2 l hl
    obtain ⟨l1, hp1, h1⟩ := ih1 l2 h2
    exact ⟨l1, hp1.trans hp2, h1⟩
end Go.Proofs.Ytnddaildicmneaa
