/-
  Jobs in memory: a slice of them that reads, one that is owned. Plain words.
-/
import Derived.Test.YtnccgmffgmfinaaRows
import Derived.Test.YtnccgmffgmfinaaBase
import Derived.Test.YtnccgmffgmfinaaRegion
import Derived.Lib.Walk
import Derived.WalkSpells
import Derived.IntWalk
namespace Go.Proofs.Ytnccgmffgmfinaa
open Go.RowKit

structure J where
  c : Int
  t : Nat
  o : Nat
  s : Bool
  deriving DecidableEq
def J.cs (j : J) : List Value := [.int .i64 j.c, .int .u16 j.t, .int .u16 j.o, .bool j.s]
def J.v (j : J) : Value := .agg #[.int .i64 j.c, .int .u16 j.t, .int .u16 j.o, .bool j.s]
def J.ok (j : J) : Prop := j.t < 65536 ∧ j.o < 65536
def cellsJ (l : List J) : List Value := l.flatMap J.cs
theorem cellsJ_len : ∀ l : List J, (cellsJ l).length = l.length * 4
  | [] => rfl
  | j :: l => by
    have := cellsJ_len l
    unfold cellsJ at this ⊢
    rw [List.flatMap_cons, List.length_append, this]; simp [J.cs]; omega
theorem cellsJ_app (l m : List J) : cellsJ (l ++ m) = cellsJ l ++ cellsJ m := by simp [cellsJ]
theorem cellsJ_get : ∀ (l : List J) (i : Nat) (t : J), l[i]? = some t → ∀ k, k < 4 → (cellsJ l)[i * 4 + k]? = t.cs[k]?
  | [], i, t, h => by simp at h
  | j :: l, 0, t, h => fun k hk => by
    simp at h; subst h
    unfold cellsJ
    rw [List.flatMap_cons, List.getElem?_append_left (by simp [J.cs]; omega), Nat.zero_mul, Nat.zero_add]
  | j :: l, i + 1, t, h => fun k hk => by
    have := cellsJ_get l i t (by simpa using h) k hk
    unfold cellsJ at this ⊢
    rw [List.flatMap_cons, List.getElem?_append_right (by simp [J.cs]; omega), ← this]
    congr 1; simp [J.cs]; omega
theorem cellsJ_one (l : List J) : ∀ u ∈ cellsJ l, u.oneCell' = true := by
  intro u hu
  obtain ⟨j, _, hj⟩ := List.mem_flatMap.1 hu
  simp [J.cs] at hj
  rcases hj with rfl | rfl | rfl | rfl <;> rfl
theorem cellsJ_take (l : List J) (k : Nat) : (cellsJ l).take (k * 4) = cellsJ (l.take k) := by
  by_cases h : k ≤ l.length
  · conv => lhs; rw [← List.take_append_drop k l, cellsJ_app]
    rw [List.take_append_of_le_length (by rw [cellsJ_len]; simp; omega), List.take_of_length_le (by rw [cellsJ_len]; simp; omega)]
  · rw [List.take_of_length_le (by rw [cellsJ_len]; omega), List.take_of_length_le (by omega)]
theorem cellsJ_drop (l : List J) (k : Nat) : (cellsJ l).drop (k * 4) = cellsJ (l.drop k) := by
  by_cases h : k ≤ l.length
  · conv => lhs; rw [← List.take_append_drop k l, cellsJ_app]
    rw [List.drop_append_of_le_length (by rw [cellsJ_len]; simp; omega), List.drop_of_length_le (by rw [cellsJ_len]; simp; omega), List.nil_append]
  · rw [List.drop_of_length_le (by rw [cellsJ_len]; omega), List.drop_of_length_le (by omega)]; rfl

/-- what is known of the cells of a job at the place `a` of the block `b` -/
def JAt (w : World) (b a : Nat) (t : J) : Prop :=
  w.cell? ⟨b, a, none⟩ = some (.int .i64 t.c) ∧ w.cell? ⟨b, a + 1, none⟩ = some (.int .u16 t.t) ∧ w.cell? ⟨b, a + 2, none⟩ = some (.int .u16 t.o) ∧ w.cell? ⟨b, a + 3, none⟩ = some (.bool t.s)
/-- The slice `v` reads as the jobs `l`; `g`: the block that is read, if any. -/
def JRd (w : World) (v : Value) (g : Option Nat) (l : List J) : Prop :=
  ∃ A cap, v = .slice A l.length cap ∧ l.length ≤ cap ∧ cap ≤ maxLen ∧ Under w.heap.size g ∧ (0 < l.length → ∃ b off, A = some ⟨b, off, none⟩ ∧ g = some b ∧ ∀ i t, l[i]? = some t → JAt w b (off + i * 4) t) ∧ (A = none → cap = 0)
/-- ... and is owned: from the beginning of a block of its own on -/
def JRow (w : World) (v : Value) (l : List J) : Prop := w.ownsRow 0 45 4 v l.length (cellsJ l)

theorem JAt.keep {w w' : World} {b a : Nat} {t : J} {S : Nat → Prop} (h : JAt w b a t) (hk : Keeps S w w') (hb : b < w.heap.size) (hs : ¬ S b) : JAt w' b a t :=
  ⟨(hk.cell (p := ⟨b, a, none⟩) hb hs).trans h.1, (hk.cell (p := ⟨b, a + 1, none⟩) hb hs).trans h.2.1, (hk.cell (p := ⟨b, a + 2, none⟩) hb hs).trans h.2.2.1, (hk.cell (p := ⟨b, a + 3, none⟩) hb hs).trans h.2.2.2⟩
theorem JRd.keep {w w' : World} {v : Value} {g : Option Nat} {l : List J} {S : Nat → Prop} (h : JRd w v g l) (hk : Keeps S w w') (hs : ∀ b, g = some b → ¬ S b) : JRd w' v g l := by
  obtain ⟨A, cap, hv, h1, h2, hu, h3, h4⟩ := h
  refine ⟨A, cap, hv, h1, h2, hu.mono hk.size, fun hp => ?_, h4⟩
  obtain ⟨b, off, hA, hg, hc⟩ := h3 hp
  exact ⟨b, off, hA, hg, fun i t hi => (hc i t hi).keep hk (hu b hg) (hs b hg)⟩
theorem JRd.drewN {w : World} {v : Value} {g : Option Nat} {l : List J} (h : JRd w v g l) (n : Nat) : JRd (w.drewN n) v g l := h.keep ((Keeps.refl nowhere w).drewN n) (fun _ _ h => h)
theorem JRow.keep {w w' : World} {v : Value} {l : List J} {S : Nat → Prop} (h : JRow w v l) (hk : Keeps S w w') (hs : ∀ b, v.ownBlock = some b → ¬ S b) : JRow w' v l := own_keep h hk hs
theorem JRow.blk {w : World} {v : Value} {l : List J} (h : JRow w v l) : (v = .slice none 0 0 ∧ l = []) ∨ ∃ b cap rest, v = .slice (some ⟨b, 0, none⟩) l.length cap ∧ Blk w b 45 (cellsJ l ++ rest).toArray ∧ l.length * 4 + rest.length = cap * 4 ∧ l.length ≤ cap ∧ cap ≤ maxLen := by
  obtain ⟨h1, h2⟩ := h
  rcases h2 with ⟨rfl, h2⟩ | ⟨b, cap, cur, rfl, hb, hg, h3, h4, h5, h6⟩
  · exact .inl ⟨rfl, List.eq_nil_of_length_eq_zero h2⟩
  · refine .inr ⟨b, cap, cur.toList.drop (l.length * 4), rfl, ?_, ?_, h3, h4⟩
    · rw [← h6, List.take_append_drop]; exact hg
    · rw [List.length_drop, show cur.toList.length = cap * 4 from h5]; omega
theorem JRow.of_blk {w : World} {l : List J} {b cap : Nat} {rest : List Value} (h : Blk w b 45 (cellsJ l ++ rest).toArray) (h1 : l.length * 4 + rest.length = cap * 4) (h2 : cap ≤ maxLen) : JRow w (.slice (some ⟨b, 0, none⟩) l.length cap) l := by
  refine ⟨cellsJ_len l, .inr ⟨b, cap, _, rfl, Nat.zero_le _, h, by omega, h2, ?_, ?_⟩⟩
  · simp [cellsJ_len]; omega
  · rw [List.take_append_of_le_length (by rw [cellsJ_len]; exact Nat.le_refl _), List.take_of_length_le (by rw [cellsJ_len]; exact Nat.le_refl _)]
theorem JRow.rd {w : World} {v : Value} {l : List J} (h : JRow w v l) : JRd w v v.ownBlock l := by
  rcases h.blk with ⟨rfl, rfl⟩ | ⟨b, cap, rest, rfl, hb, h1, h2, h3⟩
  · exact ⟨none, 0, rfl, Nat.le_refl _, Nat.zero_le _, Under.none _, fun hp => absurd hp (by simp), fun _ => rfl⟩
  · refine ⟨_, cap, rfl, h2, h3, fun b' hb' => (by cases hb'; exact hb.lt), fun _ => ⟨b, 0, rfl, rfl, fun i t hi => ?_⟩, fun h => by cases h⟩
    have hil : i < l.length := (List.getElem?_eq_some_iff.1 hi).1
    have hc : ∀ k, k < 4 → w.cell? ⟨b, i * 4 + k, none⟩ = t.cs[k]? := fun k hk => by
      rw [hb.cell, List.getElem?_toArray, List.getElem?_append_left (by rw [cellsJ_len]; omega), cellsJ_get l i t hi k hk]
    rw [Nat.zero_add]
    exact ⟨hc 0 (by omega), hc 1 (by omega), hc 2 (by omega), hc 3 (by omega)⟩
theorem JRd.nil (w : World) : JRd w (.slice none 0 0) none [] := ⟨none, 0, rfl, Nat.le_refl _, Nat.zero_le _, Under.none _, fun hp => absurd hp (by simp), fun _ => rfl⟩
theorem JRow.nil (w : World) : JRow w (.slice none 0 0) [] := ⟨rfl, .inl ⟨rfl, rfl⟩⟩

/-- the first place at which `p` holds, or -1 -/
def idxP (p : J → Bool) (l : List J) : Int := match l.findIdx? p with | some i => i | none => -1
theorem idxP_some {p : J → Bool} {l : List J} {i : Nat} (hi : i < l.length) (hp : p l[i] = true) (hn : ∀ j (hj : j < i), p (l[j]'(by omega)) = false) : idxP p l = i := by
  have : l.findIdx? p = some i := by
    rw [List.findIdx?_eq_some_iff_getElem]
    exact ⟨hi, hp, fun j hj => by rw [hn j hj]; simp⟩
  unfold idxP; rw [this]
theorem idxP_none {p : J → Bool} {l : List J} (h : ∀ t ∈ l, p t = false) : idxP p l = -1 := by
  have : l.findIdx? p = none := by rw [List.findIdx?_eq_none_iff]; exact h
  unfold idxP; rw [this]
theorem idxP_cases (p : J → Bool) (l : List J) : (idxP p l = -1 ∧ ∀ t ∈ l, p t = false) ∨ ∃ i : Nat, ∃ hi : i < l.length, idxP p l = i ∧ p l[i] = true ∧ ∀ j (hj : j < i), p (l[j]'(by omega)) = false := by
  cases h : l.findIdx? p with
  | none => exact .inl ⟨by unfold idxP; rw [h], List.findIdx?_eq_none_iff.1 h⟩
  | some i =>
    obtain ⟨hi, h1, h2⟩ := List.findIdx?_eq_some_iff_getElem.1 h
    exact .inr ⟨i, hi, by unfold idxP; rw [h], h1, fun j hj => by simpa using h2 j hj⟩
theorem idxP_any (p : J → Bool) (l : List J) : decide (0 ≤ idxP p l) = l.any p := by
  rcases idxP_cases p l with ⟨h, hn⟩ | ⟨i, hi, h, hp, _⟩
  · rw [h]; symm; rw [List.any_eq_false.2 (fun t ht => by rw [hn t ht]; simp)]; rfl
  · rw [h]; symm; rw [List.any_eq_true.2 ⟨_, List.getElem_mem hi, hp⟩]; simp
end Go.Proofs.Ytnccgmffgmfinaa
