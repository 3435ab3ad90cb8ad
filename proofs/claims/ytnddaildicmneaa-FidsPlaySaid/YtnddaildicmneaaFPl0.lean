/-
  fid: what the play keeps between its calls; where a number stands in a list that rises. Plain words.
-/
import Derived.Test.YtnddaildicmneaaFd5
import Derived.Test.YtnddaildicmneaaOpenAct20
namespace Go.Proofs.Ytnddaildicmneaa
open Go.RowKit Go.Maps

/-- `x[k:]` of whatever slice that reads -/
theorem RecT.Rd.dropE {α : Type} {R : RecT α} {w : World} {g : Option Nat} {l : List α} {A : Option Addr} {n cap : Nat} (h : R.Rd w (.slice A n cap) g l) (k : Nat) (hk : k ≤ l.length) :
    R.Rd w (.slice (if cap = k then A else A.map (·.add (k * R.n))) (n - k) (cap - k)) g (l.drop k) := by
  by_cases hc : cap = k
  · subst hc
    rw [if_pos rfl]
    obtain ⟨A', cap', hv, h1, h2, hu, h3, h4⟩ := h
    injection hv with ha hn hc
    subst ha hc
    have hd : l.drop cap = [] := List.drop_eq_nil_of_le h1
    rw [hd]
    refine ⟨A, cap - cap, by rw [hn]; congr 1; simp; omega, by simp, by simp, hu, fun hp => absurd hp (by simp), fun _ => by simp⟩
  · rw [if_neg hc]
    obtain ⟨A', cap', hv, h1, h2, hu, h3, h4⟩ := id h
    injection hv with ha hn hc'
    subst ha hc'
    cases A with
    | none => have := h4 rfl; omega
    | some a =>
      by_cases hp : 0 < l.length
      · obtain ⟨b, off, hA, -, -⟩ := h3 hp
        injection hA with hA
        subst hA
        have := h.drop k hk
        simpa [Addr.add_lit] using this
      · have h0 : l = [] := List.eq_nil_of_length_eq_zero (by omega)
        subst h0
        have hk0 : k = 0 := by simpa using hk
        subst hk0
        refine ⟨some (a.add (0 * R.n)), cap - 0, by simp [hn], by simp, by omega, hu, fun hp => absurd hp (by simp), fun h => by cases h⟩
/-- `x[:k]` as the model spells it -/
theorem RecT.Rd.takeE {α : Type} {R : RecT α} {w : World} {g : Option Nat} {l : List α} {A : Option Addr} {n cap : Nat} (h : R.Rd w (.slice A n cap) g l) (k : Nat) (hk : k ≤ l.length) : R.Rd w (.slice A k cap) g (l.take k) := h.take k hk

/-- what holds between two calls of the play -/
structure Stand20 (w0 w : World) (p b : Nat) (l : List (Nat × FidV)) (vi vr : Value) : Prop where
  q : FOwn w0 w p b l
  i : recU4.Row w vi (l.map (·.1))
  r : recF.Row w vr (l.map (·.2))
section
variable {w0 w w' : World} {p b : Nat} {l : List (Nat × FidV)} {vi vr : Value}
theorem row_ne_map {α : Type} {R : RecT α} {v : Value} {m : List α} (h : R.Row w v m) (hm : MapAt w b l) : v.ownBlock ≠ some b := by
  intro e
  rcases h.blk with ⟨rfl, -⟩ | ⟨b', c, rest, rfl, hb, -⟩
  · simp [Value.ownBlock] at e
  · simp only [Value.ownBlock, Option.some.injEq] at e
    subst e
    obtain ⟨⟨es, clock, hb2, -⟩, -⟩ := hm
    unfold Blk at hb
    rw [hb] at hb2
    cases hb2
theorem Stand20.same (h : Stand20 w0 w p b l vi vr) (hk : Keeps nowhere w w') : Stand20 w0 w' p b l vi vr := ⟨h.q.same hk, h.i.same hk, h.r.same hk⟩
/-- the rows stay while the map is written -/
theorem Stand20.rows (h : Stand20 w0 w p b l vi vr) (hk : Keeps (only b) w w') : recU4.Row w' vi (l.map (·.1)) ∧ recF.Row w' vr (l.map (·.2)) :=
  ⟨h.i.keep hk (fun _ e1 e2 => row_ne_map h.i h.q.t.2 (by rw [e1]; exact congrArg some e2)), h.r.keep hk (fun _ e1 e2 => row_ne_map h.r h.q.t.2 (by rw [e1]; exact congrArg some e2))⟩
end
/-- a call of the play in a block of the call's own -/
def ActBox20 (w : World) (q : Nat) (t : Act20) : Prop := Blk w q 33 t.cs.toArray
theorem ActBox20.ne {w : World} {q b : Nat} {l : List (Nat × FidV)} {t : Act20} (h : ActBox20 w q t) (hm : MapAt w b l) : q ≠ b := by
  rintro rfl
  obtain ⟨⟨es, clock, hb2, -⟩, -⟩ := hm
  unfold ActBox20 Blk at h
  rw [h] at hb2
  cases hb2
theorem ActBox20.cells {w : World} {q : Nat} {t : Act20} (h : ActBox20 w q t) (k : Nat) : w.cell? ⟨q, k, none⟩ = t.cs[k]? := by
  rw [Blk.cell h]; simp

/-- `k` is where `x` stands, or would stand, in the list -/
structure PosOf (l : List (Nat × FidV)) (x k : Nat) : Prop where
  le : k ≤ l.length
  lo : ∀ (j : Nat) (t : Nat × FidV), j < k → l[j]? = some t → t.1 < x
  hi : ∀ t : Nat × FidV, l[k]? = some t → x ≤ t.1
section
variable {l : List (Nat × FidV)} {x k : Nat}
theorem rising_get (h : Rising l) {i j : Nat} {s t : Nat × FidV} (hij : i < j) (hi : l[i]? = some s) (hj : l[j]? = some t) : s.1 < t.1 := by
  obtain ⟨h1, rfl⟩ := List.getElem?_eq_some_iff.1 hi
  obtain ⟨h2, rfl⟩ := List.getElem?_eq_some_iff.1 hj
  exact List.pairwise_iff_getElem.1 h i j h1 h2 hij
/-- it is not there -/
theorem PosOf.none (h : PosOf l x k) (hr : Rising l) (hn : ∀ t : Nat × FidV, l[k]? = some t → t.1 ≠ x) : ∀ p ∈ l, p.1 ≠ x := by
  intro p hp
  obtain ⟨j, hj, rfl⟩ := List.getElem_of_mem hp
  have hjs := List.getElem?_eq_getElem hj
  rcases Nat.lt_trichotomy j k with hlt | rfl | hgt
  · have := h.lo j _ hlt hjs; omega
  · exact hn _ hjs
  · have hk : k < l.length := by omega
    have h1 := h.hi _ (List.getElem?_eq_getElem hk)
    have h2 := rising_get hr hgt (List.getElem?_eq_getElem hk) hjs
    omega
theorem insM_pos (f : FidV) : ∀ (l : List (Nat × FidV)) (k : Nat), k ≤ l.length → (∀ (j : Nat) (t : Nat × FidV), j < k → l[j]? = some t → t.1 < x) → (∀ t : Nat × FidV, l[k]? = some t → x < t.1) → insM (x, f) l = l.take k ++ (x, f) :: l.drop k
  | [], k, hk, _, _ => by
    have : k = 0 := by simpa using hk
    subst this
    rfl
  | y :: r, 0, _, _, hi => by
    have := hi y rfl
    rw [insM, if_pos this]; rfl
  | y :: r, k + 1, hk, lo, hi => by
    have := lo 0 y (by omega) rfl
    rw [insM, if_neg (by simp only; omega), insM_pos f r k (by simpa using hk) (fun j t hj ht => lo (j + 1) t (by omega) (by simpa using ht)) (fun t ht => hi t (by simpa using ht))]
    rfl
theorem PosOf.put (h : PosOf l x k) (hr : Rising l) (hn : ∀ t : Nat × FidV, l[k]? = some t → t.1 ≠ x) (f : FidV) : look l x = .none ∧ putM l x f = l.take k ++ (x, f) :: l.drop k := by
  have hno := h.none hr hn
  refine ⟨look_none hno, ?_⟩
  rw [putM, delM_none hno]
  exact insM_pos f l k h.le h.lo (fun t ht => by have := h.hi t ht; have := hn t ht; omega)
theorem look_at (hr : Rising l) {f : FidV} (ht : l[k]? = some (x, f)) : look l x = some f := by
  unfold look
  have hk := (List.getElem?_eq_some_iff.1 ht).1
  have : l.find? (fun p => p.1 == x) = some (x, f) := by
    rw [List.find?_eq_some_iff_getElem]
    refine ⟨by simp, k, hk, (List.getElem?_eq_some_iff.1 ht).2, fun j hj => ?_⟩
    have := rising_get hr hj (List.getElem?_eq_getElem (by omega)) ht
    simp only [Bool.not_eq_true', beq_eq_false_iff_ne]
    simp only at this
    omega
  rw [this]; rfl
theorem del_at : ∀ (l : List (Nat × FidV)) (k : Nat) (f : FidV), Rising l → l[k]? = some (x, f) → delM l x = l.take k ++ l.drop (k + 1)
  | [], k, f, _, h => by simp at h
  | y :: r, 0, f, hr, h => by
    simp at h
    subst h
    obtain ⟨h1, h2⟩ := List.pairwise_cons.1 hr
    have : delM r x = r := delM_none (fun p hp => by have := h1 p hp; simp only at this; omega)
    unfold delM at this ⊢
    rw [List.filter_cons, if_neg (by simp), this]
    rfl
  | y :: r, k + 1, f, hr, h => by
    obtain ⟨h1, h2⟩ := List.pairwise_cons.1 hr
    have hm : (x, f) ∈ r := List.mem_of_getElem? (by simpa using h)
    have := h1 _ hm
    have ih := del_at r k f h2 (by simpa using h)
    unfold delM at ih ⊢
    rw [List.filter_cons, if_pos (by simp only at this; simp; omega), ih]
    rfl
theorem put_at (f : FidV) {g : FidV} (hr : Rising l) (ht : l[k]? = some (x, g)) : putM l x f = l.take k ++ (x, f) :: l.drop (k + 1) := by
  have hk := (List.getElem?_eq_some_iff.1 ht).1
  rw [putM, del_at l k g hr ht]
  have hl : (l.take k).length = k := by rw [List.length_take]; omega
  rw [insM_pos f _ k (by rw [List.length_append, hl]; omega) (fun j t hj htj => ?_) (fun t htk => ?_)]
  · rw [List.take_append_of_le_length (by rw [hl]; exact Nat.le_refl _), List.take_of_length_le (by rw [hl]; exact Nat.le_refl _), List.drop_append_of_le_length (by rw [hl]; exact Nat.le_refl _), List.drop_of_length_le (by rw [hl]; exact Nat.le_refl _)]
    rfl
  · rw [List.getElem?_append_left (by omega), List.getElem?_take_of_lt hj] at htj
    exact rising_get hr hj htj ht
  · rw [List.getElem?_append_right (by omega), hl, Nat.sub_self, List.getElem?_drop] at htk
    exact rising_get hr (by omega) ht htk
theorem set_split {α : Type} {m : List α} {k : Nat} (hk : k < m.length) (y : α) : m.set k y = m.take k ++ y :: m.drop (k + 1) := by
  rw [List.set_eq_take_append_cons_drop, if_pos hk]
end
end Go.Proofs.Ytnddaildicmneaa
