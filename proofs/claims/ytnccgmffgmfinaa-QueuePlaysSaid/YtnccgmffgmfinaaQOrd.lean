/-
  The order of picked jobs: plain words.
-/
import Derived.Test.YtnccgmffgmfinaaQFlush
namespace Go.Proofs.Ytnccgmffgmfinaa
open Go.RowKit Go.Shelf

def ordJ (cc : Nat → Nat) (i : Nat) : J := ⟨(cc i : Nat), i, 0, false⟩
def ordL (cc : Nat → Nat) (n : Nat) : List J := (List.range n).map (ordJ cc)
theorem ordL_len (cc : Nat → Nat) (n : Nat) : (ordL cc n).length = n := by simp [ordL]
theorem ordL_succ (cc : Nat → Nat) (n : Nat) : ordL cc (n + 1) = ordL cc n ++ [ordJ cc n] := by simp [ordL, List.range_succ]
theorem ordL_put (cc : Nat → Nat) {n : Nat} (h : n < 512) : putE (ordL cc n) (ordJ cc n) = 0 ∧ putL (ordL cc n) (ordJ cc n) = ordL cc (n + 1) := by
  have hno : (ordL cc n).any (isJ (ordJ cc n).c (ordJ cc n).t) = false := by
    rw [List.any_eq_false]
    intro x hx
    obtain ⟨i, hi, rfl⟩ := List.mem_map.1 hx
    have hi' : i < n := by simpa using hi
    intro he
    simp only [isJ, Bool.and_eq_true, decide_eq_true_eq] at he
    have h2 : i = n := he.2
    omega
  have hE : putE (ordL cc n) (ordJ cc n) = 0 := by rw [putE, if_neg (by rw [ordL_len]; omega), if_neg (by rw [hno]; simp)]
  exact ⟨hE, by rw [putL, if_pos hE, ordL_succ]⟩

/-- the jobs that wait lie in the order of their tags; of each connection the last tag that was seen lies below -/
structure Ord (l : List J) (last : Nat → Int) : Prop where
  pw : l.Pairwise fun a b => a.t < b.t
  ok : ∀ x ∈ l, x.s = false ∧ 0 ≤ x.c ∧ x.c ≤ 4 ∧ x.t < 60
  la : ∀ x ∈ l, last x.c.toNat < x.t

theorem ord_start (cc : Nat → Nat) (hc : ∀ i, cc i < 5) {n : Nat} (hn : n ≤ 60) : Ord (ordL cc n) (fun _ => -1) := by
  refine ⟨?_, fun x hx => ?_, fun x hx => ?_⟩
  · unfold ordL
    rw [List.pairwise_map]
    exact List.Pairwise.imp (fun h => h) List.pairwise_lt_range
  · obtain ⟨i, hi, rfl⟩ := List.mem_map.1 hx
    have hi' : i < n := by simpa using hi
    have := hc i
    exact ⟨rfl, by show (0 : Int) ≤ (cc i : Nat); omega, by show ((cc i : Nat) : Int) ≤ 4; omega, by show i < 60; omega⟩
  · omega
theorem pick_mem {l : List J} {i : Int} {j : J} (h : pickJ l i = some j) : ∃ k, rdy l k = true ∧ l[k]? = some j := by
  have := List.mem_of_getElem? h
  obtain ⟨k, _, hk⟩ := List.mem_filterMap.1 this
  split at hk
  · rename_i hr
    exact ⟨k, hr, hk⟩
  · cases hk
theorem pw_get {l : List J} (h : l.Pairwise fun a b => a.t < b.t) {a b : Nat} {x y : J} (ha : l[a]? = some x) (hb : l[b]? = some y) (hab : a < b) : x.t < y.t := by
  obtain ⟨ha1, ha2⟩ := List.getElem?_eq_some_iff.1 ha
  obtain ⟨hb1, hb2⟩ := List.getElem?_eq_some_iff.1 hb
  have := List.pairwise_iff_getElem.1 h a b ha1 hb1 hab
  rwa [ha2, hb2] at this
theorem ord_pick {l : List J} {last : Nat → Int} {i : Int} {j : J} (h : Ord l last) (hp : pickJ l i = some j) :
    j ∈ l ∧ Ord (cutL l j.c j.t) (fun c => if c = j.c.toNat then (j.t : Int) else last c) ∧ (cutL l j.c j.t).length = l.length - 1 := by
  obtain ⟨k, hr, hk⟩ := pick_mem hp
  have hjl : j ∈ l := List.mem_of_getElem? hk
  obtain ⟨hjs, hj0, hj4, hjt⟩ := h.ok j hjl
  rw [rdy_at hk, hjs, Bool.false_or] at hr
  have hfirst : ∀ y ∈ l, y.c = j.c → j.t ≤ y.t := by
    intro y hy hyc
    obtain ⟨m, hm, rfl⟩ := List.getElem_of_mem hy
    rcases Nat.lt_trichotomy m k with hlt | heq | hgt
    · exfalso
      have hin : l[m] ∈ l.take k := List.mem_of_getElem? (i := m) (by rw [List.getElem?_take, if_pos hlt]; exact List.getElem?_eq_getElem hm)
      have hb : before j l[m] = true := by unfold before; rw [(h.ok _ hy).1]; simp [hyc]
      have : (l.take k).any (before j) = true := List.any_eq_true.2 ⟨_, hin, hb⟩
      rw [this] at hr; simp at hr
    · subst heq
      rw [List.getElem?_eq_getElem hm] at hk
      injection hk with hk
      rw [hk]; exact Nat.le_refl _
    · exact Nat.le_of_lt (pw_get h.pw hk (List.getElem?_eq_getElem hm) hgt)
  refine ⟨hjl, ?_, cut_len hjl⟩
  rcases idxP_cases (isJ j.c j.t) l with ⟨_, hno⟩ | ⟨m, hm, _, hpm, hn⟩
  · exact absurd (hno j hjl) (by simp [isJ])
  · have hcut := (cut_some hm hpm hn).1
    have hsub : ∀ y, y ∈ cutL l j.c j.t → y ∈ l := fun y hy => cut_sub hy
    refine ⟨?_, fun x hx => h.ok x (hsub x hx), fun x hx => ?_⟩
    · rw [hcut]; exact List.Pairwise.sublist (List.eraseIdx_sublist l m) h.pw
    · have hxl := hsub x hx
      by_cases hc : x.c.toNat = j.c.toNat
      · have hxc : x.c = j.c := by have := (h.ok x hxl).2.1; omega
        simp only [hc, if_true]
        have hle := hfirst x hxl hxc
        have hne : x.t ≠ j.t := by
          rw [hcut] at hx
          obtain ⟨q, hq, hqm, hqe⟩ := List.mem_eraseIdx_iff_getElem.1 hx
          simp only [isJ, Bool.and_eq_true, decide_eq_true_eq] at hpm
          have hmt : l[m].t = j.t := hpm.2
          intro he
          rcases Nat.lt_or_gt_of_ne hqm with hlt | hgt
          · have := pw_get h.pw (List.getElem?_eq_getElem hq) (List.getElem?_eq_getElem hm) hlt
            rw [hqe] at this; omega
          · have := pw_get h.pw (List.getElem?_eq_getElem hm) (List.getElem?_eq_getElem hq) hgt
            rw [hqe] at this; omega
        omega
      · simp only [hc, if_false]
        exact h.la x hxl

/-- five numbers as cells -/
def fiveC (last : Nat → Int) : Array Value := #[.int .i64 (last 0), .int .i64 (last 1), .int .i64 (last 2), .int .i64 (last 3), .int .i64 (last 4)]
theorem fiveC_get (last : Nat → Int) {c : Nat} (h : c < 5) : (fiveC last)[c]? = some (.int .i64 (last c)) := by
  rcases (by omega : c = 0 ∨ c = 1 ∨ c = 2 ∨ c = 3 ∨ c = 4) with rfl | rfl | rfl | rfl | rfl <;> rfl
theorem fiveC_set (last : Nat → Int) {c : Nat} (h : c < 5) (v : Int) : (fiveC last).setIfInBounds c (.int .i64 v) = fiveC (fun k => if k = c then v else last k) := by
  rcases (by omega : c = 0 ∨ c = 1 ∨ c = 2 ∨ c = 3 ∨ c = 4) with rfl | rfl | rfl | rfl | rfl <;> rfl
theorem qat_apart {w : World} {p b : Nat} {g : Option Nat} {l : List J} {T : TypeId} {cs : Array Value} (h : QAt w p g l) (hb : Blk w b T cs) (h1 : 83 ≠ T) (h2 : 45 ≠ T) : ¬ only2 p g b := by
  obtain ⟨v, hp, hr, rfl⟩ := h
  rintro (e | e)
  · exact Blk.ne_ hp hb h1 e.symm
  · exact own_blk_ne hr hb h2 e.symm
end Go.Proofs.Ytnccgmffgmfinaa
