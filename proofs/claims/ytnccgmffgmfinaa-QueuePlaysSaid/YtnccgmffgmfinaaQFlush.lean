/-
  loggialaw25.QueueFlush: the walk.
-/
import Derived.Test.YtnccgmffgmfinaaQFull
namespace Go.Proofs.Ytnccgmffgmfinaa
open Go.RowKit Go.Shelf

theorem cutL_cons (x : J) (l : List J) (c : Int) (t : Nat) : cutL (x :: l) c t = if isJ c t x then l else x :: cutL l c t := by
  unfold cutL
  rw [List.findIdx?_cons]
  by_cases h : isJ c t x = true
  · rw [if_pos h, if_pos h]; rfl
  · rw [if_neg h, if_neg h]
    cases l.findIdx? (isJ c t) <;> rfl
theorem readyTo_pre (l : List J) (k : Nat) : ∀ m, ∃ r, readyTo l (k + m) = readyTo l k ++ r
  | 0 => ⟨[], by simp⟩
  | m + 1 => by
    obtain ⟨r, hr⟩ := readyTo_pre l k m
    exact ⟨_, by rw [← Nat.add_assoc, readyTo_succ, hr, List.append_assoc]⟩
theorem pick_head (x : J) (l : List J) : pickJ (x :: l) 0 = some x := by
  have h1 : readyTo (x :: l) 1 = [x] := by
    have : rdy (x :: l) 0 = true := by unfold rdy; simp
    rw [readyTo_succ, if_pos this]; rfl
  obtain ⟨r, hr⟩ := readyTo_pre (x :: l) 1 l.length
  have hR : readyL (x :: l) = x :: r := by
    unfold readyL
    rw [List.length_cons, Nat.add_comm, hr, h1]; rfl
  unfold pickJ
  rw [hR]; simp
theorem pick_head_cut (x : J) (l : List J) : pickV (x :: l) 0 = .tuple #[x.v, .bool true] ∧ pickL (x :: l) 0 = l := by
  obtain ⟨h1, h2⟩ := pick_val (pick_head x l)
  refine ⟨h1, ?_⟩
  rw [h2, cutL_cons, if_pos (by simp [isJ])]

def oneJ (i : Nat) : J := ⟨1, i, 0, false⟩
def flushJ (x : Nat) : J := ⟨1, 99, x, true⟩
def ones (k : Nat) : List J := (List.range k).map oneJ
theorem ones_len (k : Nat) : (ones k).length = k := by simp [ones]
theorem ones_succ (k : Nat) : ones (k + 1) = ones k ++ [oneJ k] := by simp [ones, List.range_succ]
theorem ones_no {k t : Nat} (h : k ≤ t) : (ones k).any (isJ 1 t) = false := by
  rw [List.any_eq_false]
  intro x hx
  obtain ⟨i, hi, rfl⟩ := List.mem_map.1 hx
  have hi' : i < k := by simpa using hi
  intro he
  simp only [isJ, Bool.and_eq_true, decide_eq_true_eq] at he
  have h2 : i = t := he.2
  omega
theorem ones_put {k : Nat} (h : k < 30) : putL (ones k) (oneJ k) = ones (k + 1) := by
  have hE : putE (ones k) (oneJ k) = 0 := by rw [putE, if_neg (by rw [ones_len]; omega), if_neg (by rw [show (ones k).any (isJ (oneJ k).c (oneJ k).t) = false from ones_no (Nat.le_refl _)]; simp)]
  rw [putL, if_pos hE, ones_succ]
theorem ones_flush {k x : Nat} (h : k ≤ 30) : putL (ones k) (flushJ x) = ones k ++ [flushJ x] := by
  have hE : putE (ones k) (flushJ x) = 0 := by rw [putE, if_neg (by rw [ones_len]; omega), if_neg (by rw [show (ones k).any (isJ (flushJ x).c (flushJ x).t) = false from ones_no (by show k ≤ 99; omega)]; simp)]
  rw [putL, if_pos hE]
theorem ones_get {k i : Nat} (h : i < k) (m : List J) : (ones k ++ m)[i]? = some (oneJ i) := by
  rw [List.getElem?_append_left (by rw [ones_len]; exact h)]
  simp [ones, h]
theorem flush_ready {k x : Nat} (h1 : 1 ≤ k) : readyL (ones k ++ [flushJ x]) = [oneJ 0, flushJ x] := by
  have hto : ∀ i, 1 ≤ i → i ≤ k → readyTo (ones k ++ [flushJ x]) i = [oneJ 0] := by
    intro i
    induction i with
    | zero => intro h; omega
    | succ i ih =>
      intro _ hi
      rw [readyTo_succ]
      by_cases h0 : i = 0
      · subst h0
        have : rdy (ones k ++ [flushJ x]) 0 = true := by rw [rdy_at (ones_get (by omega) _)]; simp
        rw [if_pos this, ones_get (by omega)]
        rfl
      · have : rdy (ones k ++ [flushJ x]) i = false := by
          rw [rdy_at (ones_get (by omega) _)]
          have hany : ((ones k ++ [flushJ x]).take i).any (before (oneJ i)) = true := by
            rw [List.any_eq_true]
            refine ⟨oneJ 0, ?_, by simp [before, oneJ]⟩
            refine List.mem_of_getElem? (i := 0) ?_
            rw [List.getElem?_take, if_pos (by omega), ones_get (by omega)]
          rw [hany]; rfl
        rw [if_neg (by rw [this]; simp), ih (by omega) (by omega)]; simp
  unfold readyL
  rw [List.length_append, ones_len, List.length_cons, List.length_nil, readyTo_succ, hto k h1 (Nat.le_refl _)]
  have hg : (ones k ++ [flushJ x])[k]? = some (flushJ x) := by rw [List.getElem?_append_right (by rw [ones_len]; exact Nat.le_refl _), ones_len]; simp
  have : rdy (ones k ++ [flushJ x]) k = true := by rw [rdy_at hg]; rfl
  rw [if_pos this, hg]; rfl
theorem cut_app {l : List J} {x : J} (h : l.any (isJ x.c x.t) = false) : cutL (l ++ [x]) x.c x.t = l := by
  induction l with
  | nil => rw [List.nil_append, cutL_cons, if_pos (by simp [isJ])]
  | cons a l ih =>
    rw [List.any_cons, Bool.or_eq_false_iff] at h
    rw [List.cons_append, cutL_cons, if_neg (by rw [h.1]; simp), ih h.2]
theorem flush_pick {k x : Nat} (h1 : 1 ≤ k) (h30 : k ≤ 30) : pickV (ones k ++ [flushJ x]) 1 = .tuple #[(flushJ x).v, .bool true] ∧ pickL (ones k ++ [flushJ x]) 1 = ones k := by
  have hp : pickJ (ones k ++ [flushJ x]) 1 = some (flushJ x) := by unfold pickJ; rw [flush_ready h1]; rfl
  obtain ⟨h2, h3⟩ := pick_val hp
  exact ⟨h2, by rw [h3]; exact cut_app (ones_no (by show k ≤ 99; omega))⟩

/-- the jobs from `i` on, but for one -/
def rest (k x i : Nat) : List J := ((List.range' i (k - i)).filter (fun a => decide (a ≠ x))).map oneJ
theorem rest_step {k x i : Nat} (h : i < k) : rest k x i = if i = x then rest k x (i + 1) else oneJ i :: rest k x (i + 1) := by
  unfold rest
  rw [show k - i = (k - (i + 1)) + 1 by omega, List.range'_succ, List.filter_cons]
  by_cases he : i = x
  · rw [if_pos he, if_neg (by simp [he])]
  · rw [if_neg he, if_pos (by simp [he])]; rfl
theorem rest_end (k x : Nat) : rest k x k = [] := by unfold rest; simp
theorem cut_map {x : Nat} : ∀ {l : List Nat}, l.Nodup → cutL (l.map oneJ) 1 x = (l.filter (fun a => decide (a ≠ x))).map oneJ
  | [], _ => rfl
  | a :: l, h => by
    rw [List.nodup_cons] at h
    rw [List.map_cons, cutL_cons, List.filter_cons]
    by_cases he : a = x
    · rw [if_pos (by simp [isJ, oneJ, he]), if_neg (by simp [he])]
      congr 1
      symm
      rw [List.filter_eq_self]
      intro b hb
      have : b ≠ x := fun e => h.1 (by rw [he, ← e]; exact hb)
      simpa using this
    · rw [if_neg (by simp [isJ, oneJ, he]), if_pos (by simp [he]), cut_map h.2]; rfl
theorem cut_ones {k x : Nat} : cutL (ones k) 1 x = rest k x 0 := by
  unfold ones rest
  rw [cut_map List.nodup_range, List.range_eq_range', Nat.sub_zero]
theorem ones_has {k x : Nat} (h : x < k) : (ones k).any (isJ 1 x) = true := by
  rw [List.any_eq_true]
  exact ⟨oneJ x, List.mem_map.2 ⟨x, by simpa using h, rfl⟩, by simp [isJ, oneJ]⟩
theorem rest_no {k x i : Nat} : (rest k x i).any (isJ 1 x) = false ∧ cutL (rest k x i) 1 x = rest k x i := by
  have h : ∀ y ∈ rest k x i, isJ 1 x y = false := by
    intro y hy
    obtain ⟨a, ha, rfl⟩ := List.mem_map.1 hy
    have : a ≠ x := by simpa using (List.mem_filter.1 ha).2
    simp [isJ, oneJ, this]
  exact ⟨(cut_none h).2, (cut_none h).1⟩
theorem rest_len {k x : Nat} (h : x < k) : (rest k x 0).length = k - 1 := by
  rw [← cut_ones]
  have := cut_len (l := ones k) (j := oneJ x) (List.mem_map.2 ⟨x, by simpa using h, rfl⟩)
  rw [ones_len] at this
  exact this
theorem rest_le (k x i : Nat) : (rest k x i).length ≤ k := by
  unfold rest
  rw [List.length_map]
  refine Nat.le_trans (List.length_filter_le _ _) ?_
  simp
end Go.Proofs.Ytnccgmffgmfinaa
